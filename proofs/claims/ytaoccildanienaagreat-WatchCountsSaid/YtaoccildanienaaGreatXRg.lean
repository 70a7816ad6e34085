/-
  A part of the proof: lemmas of my own.
-/
import Derived.Test.YtaoccildanienaaGreatXDat
import Derived.Test.YtaoccildanienaaGreatProg
import Derived.KernelRfl
import Derived.Test.YtaoccildanienaaGreatAvE
import Derived.Test.YtaoccildanienaaGreatXRe
import Derived.Test.YtaoccildanienaaGreatXRf
import Derived.Test.YtaoccildanienaaGreatXRd
set_option linter.unusedVariables false
set_option linter.unusedSimpArgs false
namespace Go.Proofs
open Go Go.AV
set_option maxRecDepth 100000
theorem X50hD6 : DrawOK Tryz.prog := drawOK (by kernel_rfl)
-- transit/repair.Repair, 3946 operations
theorem e36_ok : EntOK Tryz.prog e36 := ent_ok X50hD6 (es := [e24, e26, e28, e30, e35]) (.cons e24_ok (.cons e26_ok (.cons e28_ok (.cons e30_ok (.cons e35_ok (.nil)))))) 30000 (by kernel_rfl)
-- transit/footpath.closure, 3633 operations
theorem e37_ok : EntOK Tryz.prog e37 := ent_ok X50hD6 (es := []) (.nil) 30000 (by kernel_rfl)
-- transit/network.Check, 2106 operations
theorem e38_ok : EntOK Tryz.prog e38 := ent_ok X50hD6 (es := [e37]) (.cons e37_ok (.nil)) 30000 (by kernel_rfl)
-- transit/watch.outcome, 2395 operations
theorem e39_ok : EntOK Tryz.prog e39 := ent_ok X50hD6 (es := [e18, e20, e22, e36, e38]) (.cons e18_ok (.cons e20_ok (.cons e22_ok (.cons e36_ok (.cons e38_ok (.nil)))))) 30000 (by kernel_rfl)
-- transit/footpath.closure, 3633 operations
theorem e40_ok : EntOK Tryz.prog e40 := ent_ok X50hD6 (es := []) (.nil) 30000 (by kernel_rfl)
-- transit/network.Check, 2106 operations
theorem e41_ok : EntOK Tryz.prog e41 := ent_ok X50hD6 (es := [e40]) (.cons e40_ok (.nil)) 30000 (by kernel_rfl)
end Go.Proofs
