/-
  A part of the proof: lemmas of my own.
-/
import Derived.Test.YthjkimmihakpbaaGreatXDat
import Derived.Test.YthjkimmihakpbaaGreatProg
import Derived.KernelRfl
import Derived.Test.YthjkimmihakpbaaGreatAvE
import Derived.Test.YthjkimmihakpbaaGreatXRb
set_option linter.unusedVariables false
set_option linter.unusedSimpArgs false
namespace Go.Proofs
open Go Go.AV
set_option maxRecDepth 100000
theorem X44hD2 : DrawOK Tryz.prog := drawOK (by kernel_rfl)
-- transit/network.Check, 2776 operations
theorem e12_ok : EntOK Tryz.prog e12 := ent_ok X44hD2 (es := []) (.nil) 30000 (by kernel_rfl)
-- transit/search.Front, 3533 operations
theorem e13_ok : EntOK Tryz.prog e13 := ent_ok X44hD2 (es := [e11, e12]) (.cons e11_ok (.cons e12_ok (.nil))) 30000 (by kernel_rfl)
-- transit/network.Check, 2776 operations
theorem e14_ok : EntOK Tryz.prog e14 := ent_ok X44hD2 (es := []) (.nil) 30000 (by kernel_rfl)
-- transit/network.Check, 2776 operations
theorem e15_ok : EntOK Tryz.prog e15 := ent_ok X44hD2 (es := []) (.nil) 30000 (by kernel_rfl)
-- transit/network.Check, 2776 operations
theorem e16_ok : EntOK Tryz.prog e16 := ent_ok X44hD2 (es := []) (.nil) 30000 (by kernel_rfl)
-- transit/search.Front, 5603 operations
theorem e17_ok : EntOK Tryz.prog e17 := ent_ok X44hD2 (es := [e14, e15, e16]) (.cons e14_ok (.cons e15_ok (.cons e16_ok (.nil)))) 30000 (by kernel_rfl)
end Go.Proofs
