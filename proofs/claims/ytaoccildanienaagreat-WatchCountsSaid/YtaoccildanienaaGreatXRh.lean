/-
  A part of the proof: lemmas of my own.
-/
import Derived.Test.YtaoccildanienaaGreatXDat
import Derived.Test.YtaoccildanienaaGreatProg
import Derived.KernelRfl
import Derived.Test.YtaoccildanienaaGreatAvE
set_option linter.unusedVariables false
set_option linter.unusedSimpArgs false
namespace Go.Proofs
open Go Go.AV
set_option maxRecDepth 100000
theorem X50hD7 : DrawOK Tryz.prog := drawOK (by kernel_rfl)
-- transit/footpath.closure, 3633 operations
theorem e42_ok : EntOK Tryz.prog e42 := ent_ok X50hD7 (es := []) (.nil) 30000 (by kernel_rfl)
-- transit/network.Check, 2106 operations
theorem e43_ok : EntOK Tryz.prog e43 := ent_ok X50hD7 (es := [e42]) (.cons e42_ok (.nil)) 30000 (by kernel_rfl)
-- transit/footpath.closure, 3633 operations
theorem e44_ok : EntOK Tryz.prog e44 := ent_ok X50hD7 (es := []) (.nil) 30000 (by kernel_rfl)
-- transit/network.Check, 2106 operations
theorem e45_ok : EntOK Tryz.prog e45 := ent_ok X50hD7 (es := [e44]) (.cons e44_ok (.nil)) 30000 (by kernel_rfl)
-- transit/footpath.closure, 3633 operations
theorem e46_ok : EntOK Tryz.prog e46 := ent_ok X50hD7 (es := []) (.nil) 30000 (by kernel_rfl)
-- transit/network.Check, 2106 operations
theorem e47_ok : EntOK Tryz.prog e47 := ent_ok X50hD7 (es := [e46]) (.cons e46_ok (.nil)) 30000 (by kernel_rfl)
end Go.Proofs
