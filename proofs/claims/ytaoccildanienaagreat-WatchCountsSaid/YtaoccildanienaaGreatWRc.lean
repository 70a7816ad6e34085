/-
  A part of the proof: lemmas of my own.
-/
import Derived.Test.YtaoccildanienaaGreatWDat
import Derived.Test.YtaoccildanienaaGreatProg
import Derived.KernelRfl
import Derived.Test.YtaoccildanienaaGreatAvE
set_option linter.unusedVariables false
set_option linter.unusedSimpArgs false
namespace Go.Proofs
open Go Go.AV
set_option maxRecDepth 100000
namespace W50
theorem hD2 : DrawOK Tryz.prog := drawOK (by kernel_rfl)
-- transit/footpath.closure, 3633 operations
theorem e12_ok : EntOK Tryz.prog e12 := ent_ok hD2 (es := []) (.nil) 30000 (by kernel_rfl)
-- transit/network.Check, 2106 operations
theorem e13_ok : EntOK Tryz.prog e13 := ent_ok hD2 (es := [e12]) (.cons e12_ok (.nil)) 30000 (by kernel_rfl)
-- transit/footpath.closure, 3633 operations
theorem e14_ok : EntOK Tryz.prog e14 := ent_ok hD2 (es := []) (.nil) 30000 (by kernel_rfl)
-- transit/network.Check, 2106 operations
theorem e15_ok : EntOK Tryz.prog e15 := ent_ok hD2 (es := [e14]) (.cons e14_ok (.nil)) 30000 (by kernel_rfl)
-- transit/footpath.closure, 3633 operations
theorem e16_ok : EntOK Tryz.prog e16 := ent_ok hD2 (es := []) (.nil) 30000 (by kernel_rfl)
-- transit/network.Check, 2106 operations
theorem e17_ok : EntOK Tryz.prog e17 := ent_ok hD2 (es := [e16]) (.cons e16_ok (.nil)) 30000 (by kernel_rfl)
end W50
end Go.Proofs
