/-
  A part of the proof: lemmas of my own.
-/
import Derived.Test.YtaoccildanienaaGreatXDat
import Derived.Test.YtaoccildanienaaGreatProg
import Derived.KernelRfl
import Derived.Test.YtaoccildanienaaGreatAvE
set_option linter.unusedVariables false
set_option linter.unusedSimpArgs false
namespace Go.Proofs
open Go Go.AV
set_option maxRecDepth 100000
theorem X50hD9 : DrawOK Tryz.prog := drawOK (by kernel_rfl)
-- transit/footpath.closure, 3633 operations
theorem e54_ok : EntOK Tryz.prog e54 := ent_ok X50hD9 (es := []) (.nil) 30000 (by kernel_rfl)
-- transit/network.Check, 2106 operations
theorem e55_ok : EntOK Tryz.prog e55 := ent_ok X50hD9 (es := [e54]) (.cons e54_ok (.nil)) 30000 (by kernel_rfl)
-- transit/footpath.closure, 3633 operations
theorem e56_ok : EntOK Tryz.prog e56 := ent_ok X50hD9 (es := []) (.nil) 30000 (by kernel_rfl)
-- transit/network.Check, 2106 operations
theorem e57_ok : EntOK Tryz.prog e57 := ent_ok X50hD9 (es := [e56]) (.cons e56_ok (.nil)) 30000 (by kernel_rfl)
-- transit/feasible.Check, 3349 operations
theorem e58_ok : EntOK Tryz.prog e58 := ent_ok X50hD9 (es := [e55, e57]) (.cons e55_ok (.cons e57_ok (.nil))) 30000 (by kernel_rfl)
-- transit/footpath.closure, 3633 operations
theorem e59_ok : EntOK Tryz.prog e59 := ent_ok X50hD9 (es := []) (.nil) 30000 (by kernel_rfl)
end Go.Proofs
