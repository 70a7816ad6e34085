/-
  A part of the proof: lemmas of my own.
-/
import Derived.Test.YtaoccildanienaaGreatXDat
import Derived.Test.YtaoccildanienaaGreatProg
import Derived.KernelRfl
import Derived.Test.YtaoccildanienaaGreatAvE
import Derived.Test.YtaoccildanienaaGreatXRd
set_option linter.unusedVariables false
set_option linter.unusedSimpArgs false
namespace Go.Proofs
open Go Go.AV
set_option maxRecDepth 100000
theorem X50hD4 : DrawOK Tryz.prog := drawOK (by kernel_rfl)
-- transit/network.Check, 2106 operations
theorem e24_ok : EntOK Tryz.prog e24 := ent_ok X50hD4 (es := [e23]) (.cons e23_ok (.nil)) 30000 (by kernel_rfl)
-- transit/footpath.closure, 3633 operations
theorem e25_ok : EntOK Tryz.prog e25 := ent_ok X50hD4 (es := []) (.nil) 30000 (by kernel_rfl)
-- transit/network.Check, 2106 operations
theorem e26_ok : EntOK Tryz.prog e26 := ent_ok X50hD4 (es := [e25]) (.cons e25_ok (.nil)) 30000 (by kernel_rfl)
-- transit/footpath.closure, 3633 operations
theorem e27_ok : EntOK Tryz.prog e27 := ent_ok X50hD4 (es := []) (.nil) 30000 (by kernel_rfl)
-- transit/network.Check, 2106 operations
theorem e28_ok : EntOK Tryz.prog e28 := ent_ok X50hD4 (es := [e27]) (.cons e27_ok (.nil)) 30000 (by kernel_rfl)
-- (*transit/repair.finder).next, 2251 operations
theorem e29_ok : EntOK Tryz.prog e29 := ent_ok X50hD4 (es := []) (.nil) 30000 (by kernel_rfl)
end Go.Proofs
