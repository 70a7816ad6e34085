/-
  A part of the proof: lemmas of my own.
-/
import Derived.Test.YthjkimmihakpbaaGreatProg
import Derived.WalkKit
import Derived.Below
import Derived.Lib.Hide
import Derived.Deep.RegionHeld3
import Derived.Deep.DeepCutAuto
import Derived.Test.YthjkimmihakpbaaGreatEx
set_option linter.unusedVariables false
set_option linter.unusedSimpArgs false
namespace Go.Proofs
open Go.RowKit
set_option maxRecDepth 1000000

theorem mir4 (f t m : Int) (b : Bool) (r k : Int) (sf bi : Bool) (o : Int) (ch : Bool) (w : World) : Calls Tryz.prog 4 #[.agg #[.int .i64 f, .int .i64 t, .int .i64 m, .bool b, .int .i64 r, .int .i64 k, .bool sf, .bool bi, .int .i64 o, .bool ch]] w fun e w' => e = .returned (.agg #[.int .i64 t, .int .i64 f, .int .i64 (wrap64 (3155932800 - m)), .bool (!b), .int .i64 r, .int .i64 k, .bool sf, .bool bi, .int .i64 o, .bool ch]) ∧ Below w.heap.size w w' := by
  go_enter Tryz.func4, Tryz.ntmps4
  go_wp2
  refine bodyPost_ret (v := .agg #[.int .i64 t, .int .i64 f, .int .i64 (wrap64 (3155932800 - m)), .bool (!b), .int .i64 r, .int .i64 k, .bool sf, .bool bi, .int .i64 o, .bool ch]) (by simp [results, Tryz.results4, go_sem]) rfl ⟨rfl, ?_⟩
  exact ((Below.refl _ _).alloc (Nat.le_refl _) _).alloc (by simp) _

theorem mir5 (f t m : Int) (b : Bool) (r k : Int) (sf bi : Bool) (o : Int) (ch : Bool) (w : World) : Calls Tryz.prog 5 #[.agg #[.int .i64 f, .int .i64 t, .int .i64 m, .bool b, .int .i64 r, .int .i64 k, .bool sf, .bool bi, .int .i64 o, .bool ch]] w fun e w' => e = .returned (.agg #[.int .i64 t, .int .i64 f, .int .i64 (wrap64 (3155932800 - m)), .bool (!b), .int .i64 r, .int .i64 k, .bool sf, .bool bi, .int .i64 o, .bool ch]) ∧ Below w.heap.size w w' := by
  go_enter Tryz.func5, Tryz.ntmps5
  go_wp2
  refine bodyPost_ret (v := .agg #[.int .i64 t, .int .i64 f, .int .i64 (wrap64 (3155932800 - m)), .bool (!b), .int .i64 r, .int .i64 k, .bool sf, .bool bi, .int .i64 o, .bool ch]) (by simp [results, Tryz.results5, go_sem]) rfl ⟨rfl, ?_⟩
  exact ((Below.refl _ _).alloc (Nat.le_refl _) _).alloc (by simp) _

theorem heap_allocR (w : World) (o : Obj) : (w.alloc o).heap[w.heap.size]? = some o := by show (w.heap.push o)[w.heap.size]? = some o; exact Array.getElem?_push_size

theorem wrap_twice (m : Int) (h : -9223372036854775808 ≤ m ∧ m ≤ 9223372036854775807) : wrap64 (3155932800 - wrap64 (3155932800 - m)) = m := by
  unfold wrap64
  omega

theorem mir4back (f t m : Int) (b : Bool) (r k : Int) (sf bi : Bool) (o : Int) (ch : Bool) (w : World) (h : -9223372036854775808 ≤ m ∧ m ≤ 9223372036854775807) : Calls Tryz.prog 4 #[.agg #[.int .i64 t, .int .i64 f, .int .i64 (wrap64 (3155932800 - m)), .bool (!b), .int .i64 r, .int .i64 k, .bool sf, .bool bi, .int .i64 o, .bool ch]] w fun e w' => e = .returned (.agg #[.int .i64 f, .int .i64 t, .int .i64 m, .bool b, .int .i64 r, .int .i64 k, .bool sf, .bool bi, .int .i64 o, .bool ch]) ∧ Below w.heap.size w w' :=
  (mir4 t f (wrap64 (3155932800 - m)) (!b) r k sf bi o ch w).mono fun e w' ⟨h1, h2⟩ => ⟨by rw [h1, wrap_twice m h, Bool.not_not], h2⟩

theorem keepC {w1 w2 : World} {b o : Nat} {x : Option Value} (hb : Below w1.heap.size w1 w2) (hlt : b < w1.heap.size) (h : w1.cell? ⟨b, o, none⟩ = x) : w2.cell? ⟨b, o, none⟩ = x := by
  rw [hb.cell (p := ⟨b, o, none⟩) hlt]; exact h

def Sx (w : World) (x3 : Nat) (f t m : Int) (b : Bool) (r k : Int) (sf bi : Bool) (o : Int) (ch : Bool) (wx : World) : Prop := wx.cell? ⟨w.heap.size, 0, none⟩ = some (.int .i64 f) ∧ wx.cell? ⟨w.heap.size, 1, none⟩ = some (.int .i64 t) ∧ wx.cell? ⟨w.heap.size, 2, none⟩ = some (.int .i64 m) ∧ wx.cell? ⟨w.heap.size, 3, none⟩ = some (.bool b) ∧ wx.cell? ⟨w.heap.size, 4, none⟩ = some (.int .i64 r) ∧ wx.cell? ⟨w.heap.size, 5, none⟩ = some (.int .i64 k) ∧ wx.cell? ⟨w.heap.size, 6, none⟩ = some (.bool sf) ∧ wx.cell? ⟨w.heap.size, 7, none⟩ = some (.bool bi) ∧ wx.cell? ⟨w.heap.size, 8, none⟩ = some (.int .i64 o) ∧ wx.cell? ⟨w.heap.size, 9, none⟩ = some (.bool ch) ∧ wx.cell? ⟨x3, 0, none⟩ = some (.int .i64 t) ∧ wx.cell? ⟨x3, 1, none⟩ = some (.int .i64 f) ∧ wx.cell? ⟨x3, 2, none⟩ = some (.int .i64 (wrap64 (3155932800 - m))) ∧ wx.cell? ⟨x3, 3, none⟩ = some (.bool (!b)) ∧ wx.cell? ⟨x3, 4, none⟩ = some (.int .i64 r) ∧ wx.cell? ⟨x3, 5, none⟩ = some (.int .i64 k) ∧ wx.cell? ⟨x3, 6, none⟩ = some (.bool sf) ∧ wx.cell? ⟨x3, 7, none⟩ = some (.bool bi) ∧ wx.cell? ⟨x3, 8, none⟩ = some (.int .i64 o) ∧ wx.cell? ⟨x3, 9, none⟩ = some (.bool ch) ∧ w.heap.size + 1 ≤ wx.heap.size ∧ x3 + 1 ≤ wx.heap.size ∧ Below w.heap.size w wx

theorem keepS {w w1 w2 : World} {x3 : Nat} {f t m : Int} {b : Bool} {r k : Int} {sf bi : Bool} {o : Int} {ch : Bool} (hb : Below w1.heap.size w1 w2) (h : w1.cell? ⟨w.heap.size, 0, none⟩ = some (.int .i64 f) ∧ w1.cell? ⟨w.heap.size, 1, none⟩ = some (.int .i64 t) ∧ w1.cell? ⟨w.heap.size, 2, none⟩ = some (.int .i64 m) ∧ w1.cell? ⟨w.heap.size, 3, none⟩ = some (.bool b) ∧ w1.cell? ⟨w.heap.size, 4, none⟩ = some (.int .i64 r) ∧ w1.cell? ⟨w.heap.size, 5, none⟩ = some (.int .i64 k) ∧ w1.cell? ⟨w.heap.size, 6, none⟩ = some (.bool sf) ∧ w1.cell? ⟨w.heap.size, 7, none⟩ = some (.bool bi) ∧ w1.cell? ⟨w.heap.size, 8, none⟩ = some (.int .i64 o) ∧ w1.cell? ⟨w.heap.size, 9, none⟩ = some (.bool ch) ∧ w1.cell? ⟨x3, 0, none⟩ = some (.int .i64 t) ∧ w1.cell? ⟨x3, 1, none⟩ = some (.int .i64 f) ∧ w1.cell? ⟨x3, 2, none⟩ = some (.int .i64 (wrap64 (3155932800 - m))) ∧ w1.cell? ⟨x3, 3, none⟩ = some (.bool (!b)) ∧ w1.cell? ⟨x3, 4, none⟩ = some (.int .i64 r) ∧ w1.cell? ⟨x3, 5, none⟩ = some (.int .i64 k) ∧ w1.cell? ⟨x3, 6, none⟩ = some (.bool sf) ∧ w1.cell? ⟨x3, 7, none⟩ = some (.bool bi) ∧ w1.cell? ⟨x3, 8, none⟩ = some (.int .i64 o) ∧ w1.cell? ⟨x3, 9, none⟩ = some (.bool ch) ∧ w.heap.size + 1 ≤ w1.heap.size ∧ x3 + 1 ≤ w1.heap.size ∧ Below w.heap.size w w1) : w2.cell? ⟨w.heap.size, 0, none⟩ = some (.int .i64 f) ∧ w2.cell? ⟨w.heap.size, 1, none⟩ = some (.int .i64 t) ∧ w2.cell? ⟨w.heap.size, 2, none⟩ = some (.int .i64 m) ∧ w2.cell? ⟨w.heap.size, 3, none⟩ = some (.bool b) ∧ w2.cell? ⟨w.heap.size, 4, none⟩ = some (.int .i64 r) ∧ w2.cell? ⟨w.heap.size, 5, none⟩ = some (.int .i64 k) ∧ w2.cell? ⟨w.heap.size, 6, none⟩ = some (.bool sf) ∧ w2.cell? ⟨w.heap.size, 7, none⟩ = some (.bool bi) ∧ w2.cell? ⟨w.heap.size, 8, none⟩ = some (.int .i64 o) ∧ w2.cell? ⟨w.heap.size, 9, none⟩ = some (.bool ch) ∧ w2.cell? ⟨x3, 0, none⟩ = some (.int .i64 t) ∧ w2.cell? ⟨x3, 1, none⟩ = some (.int .i64 f) ∧ w2.cell? ⟨x3, 2, none⟩ = some (.int .i64 (wrap64 (3155932800 - m))) ∧ w2.cell? ⟨x3, 3, none⟩ = some (.bool (!b)) ∧ w2.cell? ⟨x3, 4, none⟩ = some (.int .i64 r) ∧ w2.cell? ⟨x3, 5, none⟩ = some (.int .i64 k) ∧ w2.cell? ⟨x3, 6, none⟩ = some (.bool sf) ∧ w2.cell? ⟨x3, 7, none⟩ = some (.bool bi) ∧ w2.cell? ⟨x3, 8, none⟩ = some (.int .i64 o) ∧ w2.cell? ⟨x3, 9, none⟩ = some (.bool ch) ∧ w.heap.size + 1 ≤ w2.heap.size ∧ x3 + 1 ≤ w2.heap.size ∧ Below w.heap.size w w2 := by
  obtain ⟨p0, p1, p2, p3, p4, p5, p6, p7, p8, p9, p10, p11, p12, p13, p14, p15, p16, p17, p18, p19, q1, q2, q3⟩ := h
  exact ⟨keepC hb q1 p0, keepC hb q1 p1, keepC hb q1 p2, keepC hb q1 p3, keepC hb q1 p4, keepC hb q1 p5, keepC hb q1 p6, keepC hb q1 p7, keepC hb q1 p8, keepC hb q1 p9, keepC hb q2 p10, keepC hb q2 p11, keepC hb q2 p12, keepC hb q2 p13, keepC hb q2 p14, keepC hb q2 p15, keepC hb q2 p16, keepC hb q2 p17, keepC hb q2 p18, keepC hb q2 p19, Nat.le_trans q1 hb.size, Nat.le_trans q2 hb.size, q3.trans (hb.mono (by omega))⟩

theorem S_of {w wx : World} {x3 : Nat} {f t m : Int} {b : Bool} {r k : Int} {sf bi : Bool} {o : Int} {ch : Bool} (h1 : wx.heap[w.heap.size]? = some (.cells #[.int .i64 f, .int .i64 t, .int .i64 m, .bool b, .int .i64 r, .int .i64 k, .bool sf, .bool bi, .int .i64 o, .bool ch] 23 (0, 0))) (h3 : wx.heap[x3]? = some (.cells #[.int .i64 t, .int .i64 f, .int .i64 (wrap64 (3155932800 - m)), .bool (!b), .int .i64 r, .int .i64 k, .bool sf, .bool bi, .int .i64 o, .bool ch] 23 (0, 0))) (hb : Below w.heap.size w wx) : wx.cell? ⟨w.heap.size, 0, none⟩ = some (.int .i64 f) ∧ wx.cell? ⟨w.heap.size, 1, none⟩ = some (.int .i64 t) ∧ wx.cell? ⟨w.heap.size, 2, none⟩ = some (.int .i64 m) ∧ wx.cell? ⟨w.heap.size, 3, none⟩ = some (.bool b) ∧ wx.cell? ⟨w.heap.size, 4, none⟩ = some (.int .i64 r) ∧ wx.cell? ⟨w.heap.size, 5, none⟩ = some (.int .i64 k) ∧ wx.cell? ⟨w.heap.size, 6, none⟩ = some (.bool sf) ∧ wx.cell? ⟨w.heap.size, 7, none⟩ = some (.bool bi) ∧ wx.cell? ⟨w.heap.size, 8, none⟩ = some (.int .i64 o) ∧ wx.cell? ⟨w.heap.size, 9, none⟩ = some (.bool ch) ∧ wx.cell? ⟨x3, 0, none⟩ = some (.int .i64 t) ∧ wx.cell? ⟨x3, 1, none⟩ = some (.int .i64 f) ∧ wx.cell? ⟨x3, 2, none⟩ = some (.int .i64 (wrap64 (3155932800 - m))) ∧ wx.cell? ⟨x3, 3, none⟩ = some (.bool (!b)) ∧ wx.cell? ⟨x3, 4, none⟩ = some (.int .i64 r) ∧ wx.cell? ⟨x3, 5, none⟩ = some (.int .i64 k) ∧ wx.cell? ⟨x3, 6, none⟩ = some (.bool sf) ∧ wx.cell? ⟨x3, 7, none⟩ = some (.bool bi) ∧ wx.cell? ⟨x3, 8, none⟩ = some (.int .i64 o) ∧ wx.cell? ⟨x3, 9, none⟩ = some (.bool ch) ∧ w.heap.size + 1 ≤ wx.heap.size ∧ x3 + 1 ≤ wx.heap.size ∧ Below w.heap.size w wx := by
  refine ⟨?_, ?_, ?_, ?_, ?_, ?_, ?_, ?_, ?_, ?_, ?_, ?_, ?_, ?_, ?_, ?_, ?_, ?_, ?_, ?_, (Array.getElem?_eq_some_iff.1 h1).1, (Array.getElem?_eq_some_iff.1 h3).1, hb⟩ <;> simp [World.cell?, h1, h3]

set_option maxHeartbeats 4000000 in
theorem lawR (f t m : Int) (b : Bool) (r k : Int) (sf bi : Bool) (o : Int) (ch : Bool) (w : World) (h : -9223372036854775808 ≤ m ∧ m ≤ 9223372036854775807) : Calls Tryz.prog 3 #[.agg #[.int .i64 f, .int .i64 t, .int .i64 m, .bool b, .int .i64 r, .int .i64 k, .bool sf, .bool bi, .int .i64 o, .bool ch]] w fun e w' => e = .returned (.bool true) ∧ Below w.heap.size w w' := by
  go_enter Tryz.func3, Tryz.ntmps3
  have row0 : (w.alloc (.cells #[.int .i64 f, .int .i64 t, .int .i64 m, .bool b, .int .i64 r, .int .i64 k, .bool sf, .bool bi, .int .i64 o, .bool ch] 23)).heap[w.heap.size]? = some (.cells #[.int .i64 f, .int .i64 t, .int .i64 m, .bool b, .int .i64 r, .int .i64 k, .bool sf, .bool bi, .int .i64 o, .bool ch] 23 (0, 0)) := heap_allocR _ _
  have bel0 : Below w.heap.size w (w.alloc (.cells #[.int .i64 f, .int .i64 t, .int .i64 m, .bool b, .int .i64 r, .int .i64 k, .bool sf, .bool bi, .int .i64 o, .bool ch] 23)) := (Below.refl _ _).alloc (Nat.le_refl _) _
  go_upto_region 2 with (go_at_call 4; refine (mir4 _ _ _ _ _ _ _ _ _ _ _).mono ?_; rintro e w1 ⟨rfl, hb⟩; have row1 := (hb.block _ (by simp)).trans row0; have bel1 := bel0.trans (hb.mono (by simp)); have lt1 := hb.size; simp only [World.size_alloc] at lt1; clear hb row0 bel0)
  have bel2 : Below w.heap.size w (w1.alloc (.cells #[.int .i64 t, .int .i64 f, .int .i64 (wrap64 (3155932800 - m)), .bool (!b), .int .i64 r, .int .i64 k, .bool sf, .bool bi, .int .i64 o, .bool ch] 23)) := bel1.trans ((Below.refl _ _).alloc (by omega) _)
  have S0 := S_of (w := w) (wx := (w1.alloc (.cells #[.int .i64 t, .int .i64 f, .int .i64 (wrap64 (3155932800 - m)), .bool (!b), .int .i64 r, .int .i64 k, .bool sf, .bool bi, .int .i64 o, .bool ch] 23)).drew) (x3 := w1.heap.size) (((Below.heap_alloc _ _ _ (by omega)).trans row1)) (heap_allocR _ _) (bel2.drew)
  generalize w1.heap.size = x3 at S0 ⊢
  go_region_held3 (fun wx => wx.cell? ⟨w.heap.size, 0, none⟩ = some (.int .i64 f) ∧ wx.cell? ⟨w.heap.size, 1, none⟩ = some (.int .i64 t) ∧ wx.cell? ⟨w.heap.size, 2, none⟩ = some (.int .i64 m) ∧ wx.cell? ⟨w.heap.size, 3, none⟩ = some (.bool b) ∧ wx.cell? ⟨w.heap.size, 4, none⟩ = some (.int .i64 r) ∧ wx.cell? ⟨w.heap.size, 5, none⟩ = some (.int .i64 k) ∧ wx.cell? ⟨w.heap.size, 6, none⟩ = some (.bool sf) ∧ wx.cell? ⟨w.heap.size, 7, none⟩ = some (.bool bi) ∧ wx.cell? ⟨w.heap.size, 8, none⟩ = some (.int .i64 o) ∧ wx.cell? ⟨w.heap.size, 9, none⟩ = some (.bool ch) ∧ wx.cell? ⟨x3, 0, none⟩ = some (.int .i64 t) ∧ wx.cell? ⟨x3, 1, none⟩ = some (.int .i64 f) ∧ wx.cell? ⟨x3, 2, none⟩ = some (.int .i64 (wrap64 (3155932800 - m))) ∧ wx.cell? ⟨x3, 3, none⟩ = some (.bool (!b)) ∧ wx.cell? ⟨x3, 4, none⟩ = some (.int .i64 r) ∧ wx.cell? ⟨x3, 5, none⟩ = some (.int .i64 k) ∧ wx.cell? ⟨x3, 6, none⟩ = some (.bool sf) ∧ wx.cell? ⟨x3, 7, none⟩ = some (.bool bi) ∧ wx.cell? ⟨x3, 8, none⟩ = some (.int .i64 o) ∧ wx.cell? ⟨x3, 9, none⟩ = some (.bool ch) ∧ w.heap.size + 1 ≤ wx.heap.size ∧ x3 + 1 ≤ wx.heap.size ∧ Below w.heap.size w wx)
    (first | (exact keepS (by assumption) (by assumption)) | (exact S0) | go_keep)
    (first | (go_at_call 5; refine (mir5 _ _ _ _ _ _ _ _ _ _ _).mono ?_; rintro e w' ⟨rfl, hb⟩) | (go_at_call 4; refine (mir4back _ _ _ _ _ _ _ _ _ _ _ h).mono ?_; rintro e w' ⟨rfl, hb⟩) | (go_at_call 6; refine (ex_any _).mono ?_; rintro e w' ⟨rfl, hb⟩))
  go_wp2
  go_ret
  rename_i hH
  exact ⟨rfl, hH.2.2.2.2.2.2.2.2.2.2.2.2.2.2.2.2.2.2.2.2.2.2⟩
end Go.Proofs
