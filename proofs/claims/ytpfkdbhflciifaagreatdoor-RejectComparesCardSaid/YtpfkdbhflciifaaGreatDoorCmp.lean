/-
  A part of the proof: lemmas of my own.
-/
import Derived.Test.YtpfkdbhflciifaaGreatDoorDom
import Derived.Test.YtpfkdbhflciifaaGreatDoorAvO
import Derived.Test.YtpfkdbhflciifaaGreatDoorAvE
set_option linter.unusedVariables false
set_option linter.unusedSimpArgs false
namespace Go.Proofs
open Go Go.AV Go.RowKit
set_option maxRecDepth 100000

theorem rcD : DrawOK Tryz.prog := drawOK (by kernel_rfl)

abbrev i64 (n : Int) : Value := .int .i64 n
abbrev qA (f t m : Int) (b : Bool) (r k : Int) (sf bi : Bool) (o : Int) (ch : Bool) : Value := .agg ⟨[i64 f, i64 t, i64 m, .bool b, i64 r, i64 k, .bool sf, .bool bi, i64 o, .bool ch]⟩
abbrev cA (d a r f w : Int) : Value := .agg ⟨[i64 d, i64 a, i64 r, i64 f, i64 w]⟩

/-- the answers of the two Dominates -/
def gD : Nat → List Value → Option Value
  | 8, [.agg ⟨[.int .i64 a0, .int .i64 a1, .int .i64 a2, .int .i64 a3]⟩, .agg ⟨[.int .i64 b0, .int .i64 b1, .int .i64 b2, .int .i64 b3]⟩] => some (.bool (domB a0 a1 a2 a3 b0 b1 b2 b3))
  | 10, [.agg ⟨[.int .i64 a0, .int .i64 a1, .int .i64 a2, .int .i64 a3]⟩, .agg ⟨[.int .i64 b0, .int .i64 b1, .int .i64 b2, .int .i64 b3]⟩] => some (.bool (domB a0 a1 a2 a3 b0 b1 b2 b3))
  | _, _ => none

theorem gD_ok : ∀ f args v, gD f args = some v → plainL args = true ∧ plainV v = true ∧ PureCall Tryz.prog f args v := by
  intro f args v h
  unfold gD at h
  split at h
  · cases h; exact ⟨rfl, rfl, fun w => dom8 _ _ _ _ _ _ _ _ w⟩
  · cases h; exact ⟨rfl, rfl, fun w => dom10 _ _ _ _ _ _ _ _ w⟩
  · cases h

def first (b : Bool) (d a : Int) : Int := bif b then IntKind.i64.wrap (0 - d) else a
def cmpV (b : Bool) (d a r f w d' a' r' f' w' : Int) : Value := .tuple ⟨[.bool (domB (first b d a) r f w (first b d' a') r' f' w'), .bool (domB (first b d' a') r' f' w' (first b d a) r f w)]⟩

theorem cmp4 (f t m : Int) (b : Bool) (r k : Int) (sf bi : Bool) (o : Int) (ch : Bool) (d a x y z d' a' x' y' z' : Int) :
    PureCall Tryz.prog 4 [qA f t m b r k sf bi o ch, cA d a x y z, cA d' a' x' y' z'] (cmpV b d a x y z d' a' x' y' z') := by
  cases b
  · exact pure_of_run (runG_ok rcD gD_ok 300) (by kernel_rfl) (by kernel_rfl) (nx := 6) (by kernel_rfl)
  · exact pure_of_run (runG_ok rcD gD_ok 300) (by kernel_rfl) (by kernel_rfl) (nx := 6) (by kernel_rfl)
theorem cmp5 (f t m : Int) (b : Bool) (r k : Int) (sf bi : Bool) (o : Int) (ch : Bool) (d a x y z d' a' x' y' z' : Int) :
    PureCall Tryz.prog 5 [qA f t m b r k sf bi o ch, cA d a x y z, cA d' a' x' y' z'] (cmpV b d a x y z d' a' x' y' z') := by
  cases b
  · exact pure_of_run (runG_ok rcD gD_ok 300) (by kernel_rfl) (by kernel_rfl) (nx := 6) (by kernel_rfl)
  · exact pure_of_run (runG_ok rcD gD_ok 300) (by kernel_rfl) (by kernel_rfl) (nx := 6) (by kernel_rfl)
end Go.Proofs
