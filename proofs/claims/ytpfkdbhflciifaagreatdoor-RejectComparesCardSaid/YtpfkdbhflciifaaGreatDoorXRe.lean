/-
  A part of the proof: lemmas of my own.
-/
import Derived.Test.YtpfkdbhflciifaaGreatDoorXDat
import Derived.Test.YtpfkdbhflciifaaGreatDoorProg
import Derived.KernelRfl
import Derived.Test.YtpfkdbhflciifaaGreatDoorAvE
import Derived.Test.YtpfkdbhflciifaaGreatDoorXRd
import Derived.Test.YtpfkdbhflciifaaGreatDoorXRc
set_option linter.unusedVariables false
set_option linter.unusedSimpArgs false
namespace Go.Proofs
open Go Go.AV
set_option maxRecDepth 100000
theorem X48hD4 : DrawOK Tryz.prog := drawOK (by kernel_rfl)
-- transit/footpath.closure, 2217 operations
theorem e28_ok : EntOK Tryz.prog e28 := ent_ok X48hD4 (es := []) (.nil) 30000 (by kernel_rfl)
-- transit/search.Front, 5902 operations
theorem e29_ok : EntOK Tryz.prog e29 := ent_ok X48hD4 (es := [e23, e25, e27, e28]) (.cons e23_ok (.cons e25_ok (.cons e27_ok (.cons e28_ok (.nil))))) 30000 (by kernel_rfl)
-- transit/footpath.closure, 2217 operations
theorem e30_ok : EntOK Tryz.prog e30 := ent_ok X48hD4 (es := []) (.nil) 30000 (by kernel_rfl)
-- transit/reject.Why, 5224 operations
theorem e31_ok : EntOK Tryz.prog e31 := ent_ok X48hD4 (es := [e17, e20, e21, e29, e30]) (.cons e17_ok (.cons e20_ok (.cons e21_ok (.cons e29_ok (.cons e30_ok (.nil)))))) 30000 (by kernel_rfl)
-- transit/footpath.closure, 2217 operations
theorem e32_ok : EntOK Tryz.prog e32 := ent_ok X48hD4 (es := []) (.nil) 30000 (by kernel_rfl)
-- transit/footpath.closure, 2217 operations
theorem e33_ok : EntOK Tryz.prog e33 := ent_ok X48hD4 (es := []) (.nil) 30000 (by kernel_rfl)
-- transit/footpath.closure, 2217 operations
theorem e34_ok : EntOK Tryz.prog e34 := ent_ok X48hD4 (es := []) (.nil) 30000 (by kernel_rfl)
end Go.Proofs
