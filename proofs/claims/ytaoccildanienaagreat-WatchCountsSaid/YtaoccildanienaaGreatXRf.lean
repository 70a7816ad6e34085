/-
  A part of the proof: lemmas of my own.
-/
import Derived.Test.YtaoccildanienaaGreatXDat
import Derived.Test.YtaoccildanienaaGreatProg
import Derived.KernelRfl
import Derived.Test.YtaoccildanienaaGreatAvE
import Derived.Test.YtaoccildanienaaGreatXRe
set_option linter.unusedVariables false
set_option linter.unusedSimpArgs false
namespace Go.Proofs
open Go Go.AV
set_option maxRecDepth 100000
theorem X50hD5 : DrawOK Tryz.prog := drawOK (by kernel_rfl)
-- (*transit/repair.finder).run, 2203 operations
theorem e30_ok : EntOK Tryz.prog e30 := ent_ok X50hD5 (es := [e29]) (.cons e29_ok (.nil)) 30000 (by kernel_rfl)
-- transit/footpath.closure, 3633 operations
theorem e31_ok : EntOK Tryz.prog e31 := ent_ok X50hD5 (es := []) (.nil) 30000 (by kernel_rfl)
-- transit/network.Check, 2106 operations
theorem e32_ok : EntOK Tryz.prog e32 := ent_ok X50hD5 (es := [e31]) (.cons e31_ok (.nil)) 30000 (by kernel_rfl)
-- transit/footpath.closure, 3633 operations
theorem e33_ok : EntOK Tryz.prog e33 := ent_ok X50hD5 (es := []) (.nil) 30000 (by kernel_rfl)
-- transit/network.Check, 2106 operations
theorem e34_ok : EntOK Tryz.prog e34 := ent_ok X50hD5 (es := [e33]) (.cons e33_ok (.nil)) 30000 (by kernel_rfl)
-- transit/feasible.Check, 3349 operations
theorem e35_ok : EntOK Tryz.prog e35 := ent_ok X50hD5 (es := [e32, e34]) (.cons e32_ok (.cons e34_ok (.nil))) 30000 (by kernel_rfl)
end Go.Proofs
