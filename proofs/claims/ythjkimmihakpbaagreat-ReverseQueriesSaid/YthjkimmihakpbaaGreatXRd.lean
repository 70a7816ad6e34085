/-
  A part of the proof: lemmas of my own.
-/
import Derived.Test.YthjkimmihakpbaaGreatXDat
import Derived.Test.YthjkimmihakpbaaGreatProg
import Derived.KernelRfl
import Derived.Test.YthjkimmihakpbaaGreatAvE
import Derived.Test.YthjkimmihakpbaaGreatXRa
import Derived.Test.YthjkimmihakpbaaGreatXRb
import Derived.Test.YthjkimmihakpbaaGreatXRc
set_option linter.unusedVariables false
set_option linter.unusedSimpArgs false
namespace Go.Proofs
open Go Go.AV
set_option maxRecDepth 100000
theorem X44hD3 : DrawOK Tryz.prog := drawOK (by kernel_rfl)
-- transit/transitlaw44.exampleHolds, 3237 operations
theorem e18_ok : EntOK Tryz.prog e18 := ent_ok X44hD3 (es := [e0, e1, e2, e5, e9, e10, e13, e17]) (.cons e0_ok (.cons e1_ok (.cons e2_ok (.cons e5_ok (.cons e9_ok (.cons e10_ok (.cons e13_ok (.cons e17_ok (.nil))))))))) 30000 (by kernel_rfl)
end Go.Proofs
