/-
  A part of the proof: lemmas of my own.
-/
import Derived.Test.YtaoccildanienaaGreatXDat
import Derived.Test.YtaoccildanienaaGreatProg
import Derived.KernelRfl
import Derived.Test.YtaoccildanienaaGreatAvE
import Derived.Test.YtaoccildanienaaGreatXRj
import Derived.Test.YtaoccildanienaaGreatXRa
import Derived.Test.YtaoccildanienaaGreatXRb
import Derived.Test.YtaoccildanienaaGreatXRc
import Derived.Test.YtaoccildanienaaGreatXRg
import Derived.Test.YtaoccildanienaaGreatXRh
import Derived.Test.YtaoccildanienaaGreatXRi
set_option linter.unusedVariables false
set_option linter.unusedSimpArgs false
namespace Go.Proofs
open Go Go.AV
set_option maxRecDepth 100000
theorem X50hD10 : DrawOK Tryz.prog := drawOK (by kernel_rfl)
-- transit/network.Check, 2106 operations
theorem e60_ok : EntOK Tryz.prog e60 := ent_ok X50hD10 (es := [e59]) (.cons e59_ok (.nil)) 30000 (by kernel_rfl)
-- transit/transitlaw50.exampleHolds, 3587 operations
theorem e61_ok : EntOK Tryz.prog e61 := ent_ok X50hD10 (es := [e1, e6, e8, e10, e12, e14, e16, e39, e41, e43, e45, e47, e49, e51, e53, e58, e60]) (.cons e1_ok (.cons e6_ok (.cons e8_ok (.cons e10_ok (.cons e12_ok (.cons e14_ok (.cons e16_ok (.cons e39_ok (.cons e41_ok (.cons e43_ok (.cons e45_ok (.cons e47_ok (.cons e49_ok (.cons e51_ok (.cons e53_ok (.cons e58_ok (.cons e60_ok (.nil)))))))))))))))))) 30000 (by kernel_rfl)
end Go.Proofs
