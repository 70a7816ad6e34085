/-
  A part of the proof: lemmas of my own.
-/
import Derived.Test.YtpfkdbhflciifaaGreatDoorXDat
import Derived.Test.YtpfkdbhflciifaaGreatDoorProg
import Derived.KernelRfl
import Derived.Test.YtpfkdbhflciifaaGreatDoorAvE
import Derived.Test.YtpfkdbhflciifaaGreatDoorXRe
set_option linter.unusedVariables false
set_option linter.unusedSimpArgs false
namespace Go.Proofs
open Go Go.AV
set_option maxRecDepth 100000
theorem X48hD5 : DrawOK Tryz.prog := drawOK (by kernel_rfl)
-- transit/journey.Cost, 2262 operations
theorem e35_ok : EntOK Tryz.prog e35 := ent_ok X48hD5 (es := [e34]) (.cons e34_ok (.nil)) 30000 (by kernel_rfl)
-- transit/feasible.Check, 2436 operations
theorem e36_ok : EntOK Tryz.prog e36 := ent_ok X48hD5 (es := [e33, e35]) (.cons e33_ok (.cons e35_ok (.nil))) 30000 (by kernel_rfl)
-- transit/footpath.closure, 2217 operations
theorem e37_ok : EntOK Tryz.prog e37 := ent_ok X48hD5 (es := []) (.nil) 30000 (by kernel_rfl)
-- transit/footpath.closure, 2217 operations
theorem e38_ok : EntOK Tryz.prog e38 := ent_ok X48hD5 (es := []) (.nil) 30000 (by kernel_rfl)
-- transit/filter.Allowed, 2138 operations
theorem e39_ok : EntOK Tryz.prog e39 := ent_ok X48hD5 (es := [e38]) (.cons e38_ok (.nil)) 30000 (by kernel_rfl)
-- transit/footpath.closure, 2217 operations
theorem e40_ok : EntOK Tryz.prog e40 := ent_ok X48hD5 (es := []) (.nil) 30000 (by kernel_rfl)
-- transit/journey.Cost, 2262 operations
theorem e41_ok : EntOK Tryz.prog e41 := ent_ok X48hD5 (es := [e40]) (.cons e40_ok (.nil)) 30000 (by kernel_rfl)
end Go.Proofs
