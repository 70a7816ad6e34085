/-
  A part of the proof: lemmas of my own.
-/
import Derived.Test.YtnjfffcmlfoliaaAvE
import Derived.Test.YtnjfffcmlfoliaaProg
import Derived.KernelRfl
import Derived.Below
set_option linter.unusedVariables false
set_option linter.unusedSimpArgs false
namespace Go.Proofs
open Go Go.AV Go.RowKit
set_option maxRecDepth 100000
theorem ex_any (w : World) : Calls Try.prog 5 #[] w fun e w' => e = .returned (.bool true) ∧ Below w.heap.size w w' :=
  (calls_of_run (drawOK (by kernel_rfl)) (fuel := 3000) (nx := 6) (by kernel_rfl) w).mono fun e w' ⟨h1, h2, h3, h4, h5, h6⟩ => ⟨h1, ⟨h2, h3, h4, h5, h6⟩⟩
end Go.Proofs
