/-
  A part of the proof: lemmas of my own.
-/
import Derived.Test.YtpfkdbhflciifaaGreatDoorXDat
import Derived.Test.YtpfkdbhflciifaaGreatDoorProg
import Derived.KernelRfl
import Derived.Test.YtpfkdbhflciifaaGreatDoorAvE
set_option linter.unusedVariables false
set_option linter.unusedSimpArgs false
namespace Go.Proofs
open Go Go.AV
set_option maxRecDepth 100000
theorem X48hD3 : DrawOK Tryz.prog := drawOK (by kernel_rfl)
-- transit/footpath.closure, 2217 operations
theorem e21_ok : EntOK Tryz.prog e21 := ent_ok X48hD3 (es := []) (.nil) 30000 (by kernel_rfl)
-- transit/footpath.closure, 2217 operations
theorem e22_ok : EntOK Tryz.prog e22 := ent_ok X48hD3 (es := []) (.nil) 30000 (by kernel_rfl)
-- transit/filter.Allowed, 2138 operations
theorem e23_ok : EntOK Tryz.prog e23 := ent_ok X48hD3 (es := [e22]) (.cons e22_ok (.nil)) 30000 (by kernel_rfl)
-- transit/footpath.closure, 2217 operations
theorem e24_ok : EntOK Tryz.prog e24 := ent_ok X48hD3 (es := []) (.nil) 30000 (by kernel_rfl)
-- transit/journey.Cost, 2262 operations
theorem e25_ok : EntOK Tryz.prog e25 := ent_ok X48hD3 (es := [e24]) (.cons e24_ok (.nil)) 30000 (by kernel_rfl)
-- transit/footpath.closure, 2217 operations
theorem e26_ok : EntOK Tryz.prog e26 := ent_ok X48hD3 (es := []) (.nil) 30000 (by kernel_rfl)
-- transit/journey.Cost, 2262 operations
theorem e27_ok : EntOK Tryz.prog e27 := ent_ok X48hD3 (es := [e26]) (.cons e26_ok (.nil)) 30000 (by kernel_rfl)
end Go.Proofs
