/-
  A part of the proof: lemmas of my own.
-/
import Derived.Test.YthecahanniaggaaTextA
import Derived.Test.YthecahanniaggaaExA
namespace Go.Proofs
open Go.RowKit
set_option maxRecDepth 1000000

def cat7 (a b c e : Int) : ByteArray := fmtB a ++ ⟨#[32]⟩ ++ fmtB b ++ ⟨#[32]⟩ ++ fmtB c ++ ⟨#[32]⟩ ++ fmtB e

theorem join_cat (a b c e : Int) : (⟨(Lib.join [(fmtB a).data.toList, (fmtB b).data.toList, (fmtB c).data.toList, (fmtB e).data.toList] [32]).toArray⟩ : ByteArray) = fmtB a ++ ⟨#[32]⟩ ++ fmtB b ++ ⟨#[32]⟩ ++ fmtB c ++ ⟨#[32]⟩ ++ fmtB e := by
  apply ByteArray.ext
  apply Array.toList_inj.1
  simp [Lib.join, List.intercalate, ByteArray.data_append]

theorem walkT' (k a b e : Int) (w : World) (hk : inR k) (ha : inR a) (hb : inR b) (he : inR e) :
    Calls Try.prog 4 #[.agg #[.int .i64 k, .int .i64 a, .int .i64 b, .int .i64 e]] w fun r w' => r = .returned (.string (fmtB k ++ ⟨#[32]⟩ ++ fmtB a ++ ⟨#[32]⟩ ++ fmtB b ++ ⟨#[32]⟩ ++ fmtB e)) ∧ Below w.heap.size w w' :=
  (walkT k a b e w hk ha hb he).mono fun r w' ⟨h1, h2⟩ => ⟨by rw [h1, join_cat], h2⟩

theorem keepL {w w1 w2 : World} {a b c e : Int} (hb : Below w1.heap.size w1 w2)
    (h : w1.cell? ⟨w.heap.size, 0, none⟩ = some (.int .i64 a) ∧ w1.cell? ⟨w.heap.size, 1, none⟩ = some (.int .i64 b) ∧ w1.cell? ⟨w.heap.size, 2, none⟩ = some (.int .i64 c) ∧
      w1.cell? ⟨w.heap.size + 1, 0, none⟩ = some (.int .i64 a) ∧ w1.cell? ⟨w.heap.size + 1, 1, none⟩ = some (.int .i64 b) ∧ w1.cell? ⟨w.heap.size + 1, 2, none⟩ = some (.int .i64 c) ∧ w1.cell? ⟨w.heap.size + 1, 3, none⟩ = some (.int .i64 e) ∧ w.heap.size + 2 ≤ w1.heap.size ∧ Below w.heap.size w w1) :
    w2.cell? ⟨w.heap.size, 0, none⟩ = some (.int .i64 a) ∧ w2.cell? ⟨w.heap.size, 1, none⟩ = some (.int .i64 b) ∧ w2.cell? ⟨w.heap.size, 2, none⟩ = some (.int .i64 c) ∧
      w2.cell? ⟨w.heap.size + 1, 0, none⟩ = some (.int .i64 a) ∧ w2.cell? ⟨w.heap.size + 1, 1, none⟩ = some (.int .i64 b) ∧ w2.cell? ⟨w.heap.size + 1, 2, none⟩ = some (.int .i64 c) ∧ w2.cell? ⟨w.heap.size + 1, 3, none⟩ = some (.int .i64 e) ∧ w.heap.size + 2 ≤ w2.heap.size ∧ Below w.heap.size w w2 := by
  obtain ⟨h0, h1, h2, g0, g1, g2, g3, h4, h5⟩ := h
  refine ⟨?_, ?_, ?_, ?_, ?_, ?_, ?_, Nat.le_trans h4 hb.size, h5.trans (hb.mono (by omega))⟩
  · rw [hb.cell (by show w.heap.size < _; omega)]; exact h0
  · rw [hb.cell (by show w.heap.size < _; omega)]; exact h1
  · rw [hb.cell (by show w.heap.size < _; omega)]; exact h2
  · rw [hb.cell (by show w.heap.size + 1 < _; omega)]; exact g0
  · rw [hb.cell (by show w.heap.size + 1 < _; omega)]; exact g1
  · rw [hb.cell (by show w.heap.size + 1 < _; omega)]; exact g2
  · rw [hb.cell (by show w.heap.size + 1 < _; omega)]; exact g3

theorem fmtB_size (n : Int) : (fmtB n).size ≤ 21 := by
  have := fmtB_len n
  simpa using this

theorem walkL (a b c e : Int) (w : World) (ha : inR a) (hb : inR b) (hc : inR c) (he : inR e) :
    Calls Try.prog 3 #[.agg #[.int .i64 a, .int .i64 b, .int .i64 c], .int .i64 e] w fun r w' => r = .returned (.bool true) ∧ Below w.heap.size w w' := by
  have la := fmtB_size a
  have lb := fmtB_size b
  have lc := fmtB_size c
  have le := fmtB_size e
  have c1 : ¬ (9223372036854775807 < (fmtB a).size + 1) := by omega
  have c2 : ¬ (9223372036854775807 < (fmtB a).size + 1 + (fmtB b).size) := by omega
  have c3 : ¬ (9223372036854775807 < (fmtB a).size + 1 + (fmtB b).size + 1) := by omega
  have c4 : ¬ (9223372036854775807 < (fmtB a).size + 1 + (fmtB b).size + 1 + (fmtB c).size) := by omega
  have c5 : ¬ (9223372036854775807 < (fmtB a).size + 1 + (fmtB b).size + 1 + (fmtB c).size + 1) := by omega
  have c6 : ¬ (9223372036854775807 < (fmtB a).size + 1 + (fmtB b).size + 1 + (fmtB c).size + 1 + (fmtB e).size) := by omega
  clear la lb lc le
  go_enter Try.func3, Try.ntmps3
  go_wp2
  have hb0 := ((((Below.refl w.heap.size w).alloc (Nat.le_refl _) (Obj.cells #[.int .i64 a, .int .i64 b, .int .i64 c] 22)).alloc (by simp) (Obj.cells #[.int .i64 a, .int .i64 b, .int .i64 c, .int .i64 e] 25))).drew
  go_region_held3 (fun w1 => w1.cell? ⟨w.heap.size, 0, none⟩ = some (.int .i64 a) ∧ w1.cell? ⟨w.heap.size, 1, none⟩ = some (.int .i64 b) ∧ w1.cell? ⟨w.heap.size, 2, none⟩ = some (.int .i64 c) ∧
      w1.cell? ⟨w.heap.size + 1, 0, none⟩ = some (.int .i64 a) ∧ w1.cell? ⟨w.heap.size + 1, 1, none⟩ = some (.int .i64 b) ∧ w1.cell? ⟨w.heap.size + 1, 2, none⟩ = some (.int .i64 c) ∧ w1.cell? ⟨w.heap.size + 1, 3, none⟩ = some (.int .i64 e) ∧ w.heap.size + 2 ≤ w1.heap.size ∧ Below w.heap.size w w1)
    (first | (exact keepL (by assumption) (by assumption)) | (refine ⟨by go_simp, by go_simp, by go_simp, by go_simp, by go_simp, by go_simp, by go_simp, by go_simp, by assumption⟩) | go_keep)
    (first | (go_at_call 5; refine (fmt_any _ _ (by assumption)).mono ?_; rintro e w' ⟨rfl, hb⟩) | (go_at_call 4; refine (walkT' _ _ _ _ _ (by assumption) (by assumption) (by assumption) (by assumption)).mono ?_; rintro e w' ⟨rfl, hb⟩) | (go_at_call 6; refine (ex_any _).mono ?_; rintro e w' ⟨rfl, hb⟩))
  go_wp2
  go_ret
  rename_i hH
  exact ⟨rfl, hH.2.2.2.2.2.2.2.2⟩
end Go.Proofs
