/-
  A part of the proof: lemmas of my own.
-/
import Derived.Test.YtpfkdbhflciifaaGreatDoorXDat
import Derived.Test.YtpfkdbhflciifaaGreatDoorProg
import Derived.KernelRfl
import Derived.Test.YtpfkdbhflciifaaGreatDoorAvE
import Derived.Test.YtpfkdbhflciifaaGreatDoorXRf
import Derived.Test.YtpfkdbhflciifaaGreatDoorXRe
set_option linter.unusedVariables false
set_option linter.unusedSimpArgs false
namespace Go.Proofs
open Go Go.AV
set_option maxRecDepth 100000
theorem X48hD6 : DrawOK Tryz.prog := drawOK (by kernel_rfl)
-- transit/footpath.closure, 2217 operations
theorem e42_ok : EntOK Tryz.prog e42 := ent_ok X48hD6 (es := []) (.nil) 30000 (by kernel_rfl)
-- transit/journey.Cost, 2262 operations
theorem e43_ok : EntOK Tryz.prog e43 := ent_ok X48hD6 (es := [e42]) (.cons e42_ok (.nil)) 30000 (by kernel_rfl)
-- transit/footpath.closure, 2217 operations
theorem e44_ok : EntOK Tryz.prog e44 := ent_ok X48hD6 (es := []) (.nil) 30000 (by kernel_rfl)
-- transit/search.Front, 5902 operations
theorem e45_ok : EntOK Tryz.prog e45 := ent_ok X48hD6 (es := [e39, e41, e43, e44]) (.cons e39_ok (.cons e41_ok (.cons e43_ok (.cons e44_ok (.nil))))) 30000 (by kernel_rfl)
-- transit/footpath.closure, 2217 operations
theorem e46_ok : EntOK Tryz.prog e46 := ent_ok X48hD6 (es := []) (.nil) 30000 (by kernel_rfl)
-- transit/journey.Cost, 2262 operations
theorem e47_ok : EntOK Tryz.prog e47 := ent_ok X48hD6 (es := [e46]) (.cons e46_ok (.nil)) 30000 (by kernel_rfl)
-- transit/reject.Why, 3664 operations
theorem e48_ok : EntOK Tryz.prog e48 := ent_ok X48hD6 (es := [e32, e36, e37, e45, e47]) (.cons e32_ok (.cons e36_ok (.cons e37_ok (.cons e45_ok (.cons e47_ok (.nil)))))) 30000 (by kernel_rfl)
end Go.Proofs
