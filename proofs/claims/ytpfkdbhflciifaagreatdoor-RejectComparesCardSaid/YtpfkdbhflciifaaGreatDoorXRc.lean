/-
  A part of the proof: lemmas of my own.
-/
import Derived.Test.YtpfkdbhflciifaaGreatDoorXDat
import Derived.Test.YtpfkdbhflciifaaGreatDoorProg
import Derived.KernelRfl
import Derived.Test.YtpfkdbhflciifaaGreatDoorAvE
import Derived.Test.YtpfkdbhflciifaaGreatDoorXRa
import Derived.Test.YtpfkdbhflciifaaGreatDoorXRb
set_option linter.unusedVariables false
set_option linter.unusedSimpArgs false
namespace Go.Proofs
open Go Go.AV
set_option maxRecDepth 100000
theorem X48hD2 : DrawOK Tryz.prog := drawOK (by kernel_rfl)
-- transit/footpath.closure, 2217 operations
theorem e14_ok : EntOK Tryz.prog e14 := ent_ok X48hD2 (es := []) (.nil) 30000 (by kernel_rfl)
-- transit/journey.Cost, 2262 operations
theorem e15_ok : EntOK Tryz.prog e15 := ent_ok X48hD2 (es := [e14]) (.cons e14_ok (.nil)) 30000 (by kernel_rfl)
-- transit/reject.Why, 3402 operations
theorem e16_ok : EntOK Tryz.prog e16 := ent_ok X48hD2 (es := [e0, e4, e5, e13, e15]) (.cons e0_ok (.cons e4_ok (.cons e5_ok (.cons e13_ok (.cons e15_ok (.nil)))))) 30000 (by kernel_rfl)
-- transit/footpath.closure, 2217 operations
theorem e17_ok : EntOK Tryz.prog e17 := ent_ok X48hD2 (es := []) (.nil) 30000 (by kernel_rfl)
-- transit/footpath.closure, 2217 operations
theorem e18_ok : EntOK Tryz.prog e18 := ent_ok X48hD2 (es := []) (.nil) 30000 (by kernel_rfl)
-- transit/footpath.closure, 2217 operations
theorem e19_ok : EntOK Tryz.prog e19 := ent_ok X48hD2 (es := []) (.nil) 30000 (by kernel_rfl)
-- transit/feasible.Check, 4019 operations
theorem e20_ok : EntOK Tryz.prog e20 := ent_ok X48hD2 (es := [e18, e19]) (.cons e18_ok (.cons e19_ok (.nil))) 30000 (by kernel_rfl)
end Go.Proofs
