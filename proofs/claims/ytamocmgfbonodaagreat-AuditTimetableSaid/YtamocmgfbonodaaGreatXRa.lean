/-
  A part of the proof: lemmas of my own.
-/
import Derived.Test.YtamocmgfbonodaaGreatXDat
import Derived.Test.YtamocmgfbonodaaGreatProg
import Derived.KernelRfl
import Derived.Test.YtamocmgfbonodaaGreatAvE
set_option linter.unusedVariables false
set_option linter.unusedSimpArgs false
namespace Go.Proofs
open Go Go.AV
set_option maxRecDepth 100000
theorem X54hD0 : DrawOK Tryz.prog := drawOK (by kernel_rfl)
-- transit/network.Check, 2839 operations
theorem e0_ok : EntOK Tryz.prog e0 := ent_ok X54hD0 (es := []) (.nil) 30000 (by kernel_rfl)
-- transit/transitlaw54.exampleHolds, 768 operations
theorem e1_ok : EntOK Tryz.prog e1 := ent_ok X54hD0 (es := [e0]) (.cons e0_ok (.nil)) 30000 (by kernel_rfl)
end Go.Proofs
