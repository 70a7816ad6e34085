/-
  A part of the proof: lemmas of my own.
-/
import Derived.Test.YtaoccildanienaaGreatWDat
import Derived.Test.YtaoccildanienaaGreatProg
import Derived.KernelRfl
import Derived.Test.YtaoccildanienaaGreatAvE
set_option linter.unusedVariables false
set_option linter.unusedSimpArgs false
namespace Go.Proofs
open Go Go.AV
set_option maxRecDepth 100000
namespace W50
theorem hD0 : DrawOK Tryz.prog := drawOK (by kernel_rfl)
-- transit/transitlaw50.network, 85 operations
theorem e0_ok : EntOK Tryz.prog e0 := ent_ok hD0 (es := []) (.nil) 30000 (by kernel_rfl)
-- transit/footpath.closure, 3633 operations
theorem e1_ok : EntOK Tryz.prog e1 := ent_ok hD0 (es := []) (.nil) 30000 (by kernel_rfl)
-- transit/network.Check, 2106 operations
theorem e2_ok : EntOK Tryz.prog e2 := ent_ok hD0 (es := [e1]) (.cons e1_ok (.nil)) 30000 (by kernel_rfl)
-- transit/feasible.CheckQuery, 182 operations
theorem e3_ok : EntOK Tryz.prog e3 := ent_ok hD0 (es := [e2]) (.cons e2_ok (.nil)) 30000 (by kernel_rfl)
-- transit/footpath.closure, 3633 operations
theorem e4_ok : EntOK Tryz.prog e4 := ent_ok hD0 (es := []) (.nil) 30000 (by kernel_rfl)
-- transit/network.Check, 2106 operations
theorem e5_ok : EntOK Tryz.prog e5 := ent_ok hD0 (es := [e4]) (.cons e4_ok (.nil)) 30000 (by kernel_rfl)
end W50
end Go.Proofs
