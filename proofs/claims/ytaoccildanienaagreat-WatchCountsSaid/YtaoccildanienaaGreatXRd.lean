/-
  A part of the proof: lemmas of my own.
-/
import Derived.Test.YtaoccildanienaaGreatXDat
import Derived.Test.YtaoccildanienaaGreatProg
import Derived.KernelRfl
import Derived.Test.YtaoccildanienaaGreatAvE
import Derived.Test.YtaoccildanienaaGreatXRc
set_option linter.unusedVariables false
set_option linter.unusedSimpArgs false
namespace Go.Proofs
open Go Go.AV
set_option maxRecDepth 100000
theorem X50hD3 : DrawOK Tryz.prog := drawOK (by kernel_rfl)
-- transit/network.Check, 2106 operations
theorem e18_ok : EntOK Tryz.prog e18 := ent_ok X50hD3 (es := [e17]) (.cons e17_ok (.nil)) 30000 (by kernel_rfl)
-- transit/footpath.closure, 3633 operations
theorem e19_ok : EntOK Tryz.prog e19 := ent_ok X50hD3 (es := []) (.nil) 30000 (by kernel_rfl)
-- transit/network.Check, 2106 operations
theorem e20_ok : EntOK Tryz.prog e20 := ent_ok X50hD3 (es := [e19]) (.cons e19_ok (.nil)) 30000 (by kernel_rfl)
-- transit/footpath.closure, 3633 operations
theorem e21_ok : EntOK Tryz.prog e21 := ent_ok X50hD3 (es := []) (.nil) 30000 (by kernel_rfl)
-- transit/network.Check, 2106 operations
theorem e22_ok : EntOK Tryz.prog e22 := ent_ok X50hD3 (es := [e21]) (.cons e21_ok (.nil)) 30000 (by kernel_rfl)
-- transit/footpath.closure, 3633 operations
theorem e23_ok : EntOK Tryz.prog e23 := ent_ok X50hD3 (es := []) (.nil) 30000 (by kernel_rfl)
end Go.Proofs
