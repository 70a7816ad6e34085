/-
  A part of the proof: lemmas of my own.
-/
import Derived.Test.YtaoccildanienaaGreatWDat
import Derived.Test.YtaoccildanienaaGreatProg
import Derived.KernelRfl
import Derived.Test.YtaoccildanienaaGreatAvE
set_option linter.unusedVariables false
set_option linter.unusedSimpArgs false
namespace Go.Proofs
open Go Go.AV
set_option maxRecDepth 100000
namespace W50
theorem hD1 : DrawOK Tryz.prog := drawOK (by kernel_rfl)
-- transit/footpath.closure, 3633 operations
theorem e6_ok : EntOK Tryz.prog e6 := ent_ok hD1 (es := []) (.nil) 30000 (by kernel_rfl)
-- transit/network.Check, 2106 operations
theorem e7_ok : EntOK Tryz.prog e7 := ent_ok hD1 (es := [e6]) (.cons e6_ok (.nil)) 30000 (by kernel_rfl)
-- transit/feasible.Check, 204 operations
theorem e8_ok : EntOK Tryz.prog e8 := ent_ok hD1 (es := [e7]) (.cons e7_ok (.nil)) 30000 (by kernel_rfl)
-- transit/network.Check, 161 operations
theorem e9_ok : EntOK Tryz.prog e9 := ent_ok hD1 (es := []) (.nil) 30000 (by kernel_rfl)
-- transit/footpath.closure, 3633 operations
theorem e10_ok : EntOK Tryz.prog e10 := ent_ok hD1 (es := []) (.nil) 30000 (by kernel_rfl)
-- transit/network.Check, 2106 operations
theorem e11_ok : EntOK Tryz.prog e11 := ent_ok hD1 (es := [e10]) (.cons e10_ok (.nil)) 30000 (by kernel_rfl)
end W50
end Go.Proofs
