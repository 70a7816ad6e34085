/-
  A part of the proof: lemmas of my own.
-/
import Derived.Test.YthecahanniaggaaFmtA
import Derived.Test.YthecahanniaggaaShelfA
import Derived.Deep.RegionHeld3
namespace Go.Proofs
open Go.RowKit
set_option maxRecDepth 1000000

def fmtB (n : Int) : ByteArray := ⟨((if n < 0 then [45] else []) ++ fmtGo 20 n.natAbs []).toArray⟩
def inR (n : Int) : Prop := -9223372036854775808 ≤ n ∧ n ≤ 9223372036854775807

theorem fmt_any (n : Int) (w : World) (h : inR n) : Calls Try.prog 5 #[.int .i64 n] w fun e w' => e = .returned (.string (fmtB n)) ∧ Below w.heap.size w w' := walkF n w h.1 h.2

theorem keepS {w w1 w2 : World} {k a b e : Int} (hb : Below w1.heap.size w1 w2)
    (h : w1.cell? ⟨w.heap.size, 0, none⟩ = some (.int .i64 k) ∧ w1.cell? ⟨w.heap.size, 1, none⟩ = some (.int .i64 a) ∧ w1.cell? ⟨w.heap.size, 2, none⟩ = some (.int .i64 b) ∧ w1.cell? ⟨w.heap.size, 3, none⟩ = some (.int .i64 e) ∧ w.heap.size + 1 ≤ w1.heap.size ∧ Below w.heap.size w w1) :
    w2.cell? ⟨w.heap.size, 0, none⟩ = some (.int .i64 k) ∧ w2.cell? ⟨w.heap.size, 1, none⟩ = some (.int .i64 a) ∧ w2.cell? ⟨w.heap.size, 2, none⟩ = some (.int .i64 b) ∧ w2.cell? ⟨w.heap.size, 3, none⟩ = some (.int .i64 e) ∧ w.heap.size + 1 ≤ w2.heap.size ∧ Below w.heap.size w w2 := by
  obtain ⟨h0, h1, h2, h3, h4, h5⟩ := h
  refine ⟨?_, ?_, ?_, ?_, Nat.le_trans h4 hb.size, h5.trans (hb.mono (by omega))⟩
  · rw [hb.cell (by show w.heap.size < _; omega)]; exact h0
  · rw [hb.cell (by show w.heap.size < _; omega)]; exact h1
  · rw [hb.cell (by show w.heap.size < _; omega)]; exact h2
  · rw [hb.cell (by show w.heap.size < _; omega)]; exact h3

theorem keepA {w w1 : World} {k a b e : Int} (o : Obj)
    (h : w1.cell? ⟨w.heap.size, 0, none⟩ = some (.int .i64 k) ∧ w1.cell? ⟨w.heap.size, 1, none⟩ = some (.int .i64 a) ∧ w1.cell? ⟨w.heap.size, 2, none⟩ = some (.int .i64 b) ∧ w1.cell? ⟨w.heap.size, 3, none⟩ = some (.int .i64 e) ∧ w.heap.size + 1 ≤ w1.heap.size ∧ Below w.heap.size w w1) :
    (w1.alloc o).cell? ⟨w.heap.size, 0, none⟩ = some (.int .i64 k) ∧ (w1.alloc o).cell? ⟨w.heap.size, 1, none⟩ = some (.int .i64 a) ∧ (w1.alloc o).cell? ⟨w.heap.size, 2, none⟩ = some (.int .i64 b) ∧ (w1.alloc o).cell? ⟨w.heap.size, 3, none⟩ = some (.int .i64 e) ∧ w.heap.size + 1 ≤ (w1.alloc o).heap.size ∧ Below w.heap.size w (w1.alloc o) :=
  keepS ((Below.refl _ _).alloc (Nat.le_refl _) o) h

theorem newCells {w : World} (xs : List ByteArray) (t : TypeId) : ∀ (j : Nat) x, xs[j]? = some x → (w.alloc (.cells (xs.map Value.string).toArray t)).cell? ⟨w.heap.size, 0 + j, none⟩ = some (.string x) := by
  intro j x h
  simp only [World.cell?, heap_alloc]
  simp [h]

theorem fmtGo_len : ∀ (i m : Nat) (l : List UInt8), (fmtGo i m l).length ≤ i + l.length
  | 0, m, l => by simp [fmtGo]
  | i + 1, m, l => by
    unfold fmtGo
    split
    · have := fmtGo_len i (m / 10) (digit m :: l); simp at this; omega
    · simp; omega

theorem fmtB_len (n : Int) : (fmtB n).data.toList.length ≤ 21 := by
  have := fmtGo_len 20 n.natAbs []
  simp at this
  unfold fmtB
  split <;> simp <;> omega

theorem join4_len (k a b e : Int) : (Lib.join ([fmtB k, fmtB a, fmtB b, fmtB e].map (·.data.toList)) (ByteArray.mk #[32]).data.toList).length ≤ 140737488355328 := by
  have h1 := fmtB_len k
  have h2 := fmtB_len a
  have h3 := fmtB_len b
  have h4 := fmtB_len e
  simp [Lib.join, List.intercalate] at *
  omega

theorem walkT (k a b e : Int) (w : World) (hk : inR k) (ha : inR a) (hb : inR b) (he : inR e) :
    Calls Try.prog 4 #[.agg #[.int .i64 k, .int .i64 a, .int .i64 b, .int .i64 e]] w fun r w' => r = .returned (.string ⟨(Lib.join [(fmtB k).data.toList, (fmtB a).data.toList, (fmtB b).data.toList, (fmtB e).data.toList] [32]).toArray⟩) ∧ Below w.heap.size w w' := by
  go_enter Try.func4, Try.ntmps4
  go_wp2
  have hb0 := ((Below.refl w.heap.size w).alloc (Nat.le_refl _) (Obj.cells #[.int .i64 k, .int .i64 a, .int .i64 b, .int .i64 e] 25)).drew
  go_region_held3 (fun w' => w'.cell? ⟨w.heap.size, 0, none⟩ = some (.int .i64 k) ∧ w'.cell? ⟨w.heap.size, 1, none⟩ = some (.int .i64 a) ∧ w'.cell? ⟨w.heap.size, 2, none⟩ = some (.int .i64 b) ∧ w'.cell? ⟨w.heap.size, 3, none⟩ = some (.int .i64 e) ∧ w.heap.size + 1 ≤ w'.heap.size ∧ Below w.heap.size w w')
    (first | (exact keepS (by assumption) (by assumption)) | (exact keepA _ (by assumption)) | (refine ⟨by go_simp, by go_simp, by go_simp, by go_simp, by go_simp, by assumption⟩) | go_keep)
    (first | (go_at_call 5; refine (fmt_any _ _ (by assumption)).mono ?_; rintro e w' ⟨rfl, hb⟩) | (go_at_call 7; refine (Try.strings_Join _ 0 4 [fmtB k, fmtB a, fmtB b, fmtB e] ⟨#[32]⟩ _ (newCells [fmtB k, fmtB a, fmtB b, fmtB e] 9) (by simp) (by simp) (by simp) (join4_len k a b e)).mono ?_; rintro e w' ⟨rfl, hb⟩))
  go_wp2
  go_ret
  rename_i hH
  exact ⟨rfl, hH.2.2.2.2.2⟩
end Go.Proofs
