/-
  A part of the proof: lemmas of my own.
-/
import Derived.Test.YtaoccildanienaaGreatWDat
import Derived.Test.YtaoccildanienaaGreatProg
import Derived.KernelRfl
import Derived.Test.YtaoccildanienaaGreatAvE
import Derived.Test.YtaoccildanienaaGreatWRb
import Derived.Test.YtaoccildanienaaGreatWRc
set_option linter.unusedVariables false
set_option linter.unusedSimpArgs false
namespace Go.Proofs
open Go Go.AV
set_option maxRecDepth 100000
namespace W50
theorem hD3 : DrawOK Tryz.prog := drawOK (by kernel_rfl)
-- transit/watch.outcome, 655 operations
theorem e18_ok : EntOK Tryz.prog e18 := ent_ok hD3 (es := [e11, e13, e15, e17]) (.cons e11_ok (.cons e13_ok (.cons e15_ok (.cons e17_ok (.nil))))) 30000 (by kernel_rfl)
end W50
end Go.Proofs
