/-
  A part of the proof: lemmas of my own.
-/
import Derived.Test.YtpfkdbhflciifaaGreatDoorXDat
import Derived.Test.YtpfkdbhflciifaaGreatDoorProg
import Derived.KernelRfl
import Derived.Test.YtpfkdbhflciifaaGreatDoorAvE
import Derived.Test.YtpfkdbhflciifaaGreatDoorXRa
set_option linter.unusedVariables false
set_option linter.unusedSimpArgs false
namespace Go.Proofs
open Go Go.AV
set_option maxRecDepth 100000
theorem X48hD1 : DrawOK Tryz.prog := drawOK (by kernel_rfl)
-- transit/filter.Allowed, 2138 operations
theorem e7_ok : EntOK Tryz.prog e7 := ent_ok X48hD1 (es := [e6]) (.cons e6_ok (.nil)) 30000 (by kernel_rfl)
-- transit/footpath.closure, 2217 operations
theorem e8_ok : EntOK Tryz.prog e8 := ent_ok X48hD1 (es := []) (.nil) 30000 (by kernel_rfl)
-- transit/journey.Cost, 2262 operations
theorem e9_ok : EntOK Tryz.prog e9 := ent_ok X48hD1 (es := [e8]) (.cons e8_ok (.nil)) 30000 (by kernel_rfl)
-- transit/footpath.closure, 2217 operations
theorem e10_ok : EntOK Tryz.prog e10 := ent_ok X48hD1 (es := []) (.nil) 30000 (by kernel_rfl)
-- transit/journey.Cost, 2262 operations
theorem e11_ok : EntOK Tryz.prog e11 := ent_ok X48hD1 (es := [e10]) (.cons e10_ok (.nil)) 30000 (by kernel_rfl)
-- transit/footpath.closure, 2217 operations
theorem e12_ok : EntOK Tryz.prog e12 := ent_ok X48hD1 (es := []) (.nil) 30000 (by kernel_rfl)
-- transit/search.Front, 5902 operations
theorem e13_ok : EntOK Tryz.prog e13 := ent_ok X48hD1 (es := [e7, e9, e11, e12]) (.cons e7_ok (.cons e9_ok (.cons e11_ok (.cons e12_ok (.nil))))) 30000 (by kernel_rfl)
end Go.Proofs
