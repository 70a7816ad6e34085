/-
  A part of the proof: lemmas of my own.
-/
import Derived.Test.YtaoccildanienaaGreatXDat
import Derived.Test.YtaoccildanienaaGreatProg
import Derived.KernelRfl
import Derived.Test.YtaoccildanienaaGreatAvE
set_option linter.unusedVariables false
set_option linter.unusedSimpArgs false
namespace Go.Proofs
open Go Go.AV
set_option maxRecDepth 100000
theorem X50hD0 : DrawOK Tryz.prog := drawOK (by kernel_rfl)
-- transit/footpath.closure, 3633 operations
theorem e0_ok : EntOK Tryz.prog e0 := ent_ok X50hD0 (es := []) (.nil) 30000 (by kernel_rfl)
-- transit/network.Check, 2106 operations
theorem e1_ok : EntOK Tryz.prog e1 := ent_ok X50hD0 (es := [e0]) (.cons e0_ok (.nil)) 30000 (by kernel_rfl)
-- transit/footpath.closure, 3633 operations
theorem e2_ok : EntOK Tryz.prog e2 := ent_ok X50hD0 (es := []) (.nil) 30000 (by kernel_rfl)
-- transit/network.Check, 2106 operations
theorem e3_ok : EntOK Tryz.prog e3 := ent_ok X50hD0 (es := [e2]) (.cons e2_ok (.nil)) 30000 (by kernel_rfl)
-- transit/footpath.closure, 3633 operations
theorem e4_ok : EntOK Tryz.prog e4 := ent_ok X50hD0 (es := []) (.nil) 30000 (by kernel_rfl)
-- transit/network.Check, 2106 operations
theorem e5_ok : EntOK Tryz.prog e5 := ent_ok X50hD0 (es := [e4]) (.cons e4_ok (.nil)) 30000 (by kernel_rfl)
end Go.Proofs
