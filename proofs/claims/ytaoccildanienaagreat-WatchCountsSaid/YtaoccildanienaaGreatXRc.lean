/-
  A part of the proof: lemmas of my own.
-/
import Derived.Test.YtaoccildanienaaGreatXDat
import Derived.Test.YtaoccildanienaaGreatProg
import Derived.KernelRfl
import Derived.Test.YtaoccildanienaaGreatAvE
import Derived.Test.YtaoccildanienaaGreatXRb
set_option linter.unusedVariables false
set_option linter.unusedSimpArgs false
namespace Go.Proofs
open Go Go.AV
set_option maxRecDepth 100000
theorem X50hD2 : DrawOK Tryz.prog := drawOK (by kernel_rfl)
-- transit/network.Check, 2106 operations
theorem e12_ok : EntOK Tryz.prog e12 := ent_ok X50hD2 (es := [e11]) (.cons e11_ok (.nil)) 30000 (by kernel_rfl)
-- transit/footpath.closure, 3633 operations
theorem e13_ok : EntOK Tryz.prog e13 := ent_ok X50hD2 (es := []) (.nil) 30000 (by kernel_rfl)
-- transit/network.Check, 2106 operations
theorem e14_ok : EntOK Tryz.prog e14 := ent_ok X50hD2 (es := [e13]) (.cons e13_ok (.nil)) 30000 (by kernel_rfl)
-- transit/footpath.closure, 3633 operations
theorem e15_ok : EntOK Tryz.prog e15 := ent_ok X50hD2 (es := []) (.nil) 30000 (by kernel_rfl)
-- transit/network.Check, 2106 operations
theorem e16_ok : EntOK Tryz.prog e16 := ent_ok X50hD2 (es := [e15]) (.cons e15_ok (.nil)) 30000 (by kernel_rfl)
-- transit/footpath.closure, 3633 operations
theorem e17_ok : EntOK Tryz.prog e17 := ent_ok X50hD2 (es := []) (.nil) 30000 (by kernel_rfl)
end Go.Proofs
