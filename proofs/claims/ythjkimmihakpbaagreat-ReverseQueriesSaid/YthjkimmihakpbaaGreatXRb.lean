/-
  A part of the proof: lemmas of my own.
-/
import Derived.Test.YthjkimmihakpbaaGreatXDat
import Derived.Test.YthjkimmihakpbaaGreatProg
import Derived.KernelRfl
import Derived.Test.YthjkimmihakpbaaGreatAvE
set_option linter.unusedVariables false
set_option linter.unusedSimpArgs false
namespace Go.Proofs
open Go Go.AV
set_option maxRecDepth 100000
theorem X44hD1 : DrawOK Tryz.prog := drawOK (by kernel_rfl)
-- transit/network.Check, 2830 operations
theorem e6_ok : EntOK Tryz.prog e6 := ent_ok X44hD1 (es := []) (.nil) 30000 (by kernel_rfl)
-- transit/network.Check, 2830 operations
theorem e7_ok : EntOK Tryz.prog e7 := ent_ok X44hD1 (es := []) (.nil) 30000 (by kernel_rfl)
-- transit/network.Check, 2830 operations
theorem e8_ok : EntOK Tryz.prog e8 := ent_ok X44hD1 (es := []) (.nil) 30000 (by kernel_rfl)
-- transit/search.Front, 5765 operations
theorem e9_ok : EntOK Tryz.prog e9 := ent_ok X44hD1 (es := [e6, e7, e8]) (.cons e6_ok (.cons e7_ok (.cons e8_ok (.nil)))) 30000 (by kernel_rfl)
-- transit/network.Check, 2776 operations
theorem e10_ok : EntOK Tryz.prog e10 := ent_ok X44hD1 (es := []) (.nil) 30000 (by kernel_rfl)
-- transit/network.Check, 2776 operations
theorem e11_ok : EntOK Tryz.prog e11 := ent_ok X44hD1 (es := []) (.nil) 30000 (by kernel_rfl)
end Go.Proofs
