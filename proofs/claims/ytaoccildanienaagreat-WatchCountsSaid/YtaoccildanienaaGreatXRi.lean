/-
  A part of the proof: lemmas of my own.
-/
import Derived.Test.YtaoccildanienaaGreatXDat
import Derived.Test.YtaoccildanienaaGreatProg
import Derived.KernelRfl
import Derived.Test.YtaoccildanienaaGreatAvE
set_option linter.unusedVariables false
set_option linter.unusedSimpArgs false
namespace Go.Proofs
open Go Go.AV
set_option maxRecDepth 100000
theorem X50hD8 : DrawOK Tryz.prog := drawOK (by kernel_rfl)
-- transit/footpath.closure, 3633 operations
theorem e48_ok : EntOK Tryz.prog e48 := ent_ok X50hD8 (es := []) (.nil) 30000 (by kernel_rfl)
-- transit/network.Check, 2106 operations
theorem e49_ok : EntOK Tryz.prog e49 := ent_ok X50hD8 (es := [e48]) (.cons e48_ok (.nil)) 30000 (by kernel_rfl)
-- transit/footpath.closure, 3633 operations
theorem e50_ok : EntOK Tryz.prog e50 := ent_ok X50hD8 (es := []) (.nil) 30000 (by kernel_rfl)
-- transit/network.Check, 2106 operations
theorem e51_ok : EntOK Tryz.prog e51 := ent_ok X50hD8 (es := [e50]) (.cons e50_ok (.nil)) 30000 (by kernel_rfl)
-- transit/footpath.closure, 3633 operations
theorem e52_ok : EntOK Tryz.prog e52 := ent_ok X50hD8 (es := []) (.nil) 30000 (by kernel_rfl)
-- transit/network.Check, 2106 operations
theorem e53_ok : EntOK Tryz.prog e53 := ent_ok X50hD8 (es := [e52]) (.cons e52_ok (.nil)) 30000 (by kernel_rfl)
end Go.Proofs
