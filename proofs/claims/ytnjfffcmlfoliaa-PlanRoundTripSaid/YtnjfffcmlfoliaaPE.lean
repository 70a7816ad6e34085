/-
  A part of the proof: lemmas of my own.
-/
import Derived.Test.YtnjfffcmlfoliaaPA
set_option linter.unusedVariables false
set_option linter.unusedSimpArgs false
namespace Go.Proofs
open Go.RowKit
set_option maxRecDepth 1000000

theorem dirB_len (b : Bool) : (dirB b).size ≤ 8 := by cases b <;> decide
theorem base_len (q : Qy) : (Qy.base q).size ≤ 200 := by
  have lf := decB_len q.from_
  have lt := decB_len q.to_
  have lm := decB_len q.time
  have lr := decB_len q.rides
  have lk := decB_len q.walk
  have lo := decB_len q.modes
  have lb := dirB_len q.back
  have l1 : (ByteArray.mk #[32]).size = 1 := rfl
  simp only [Qy.base, ByteArray.size_append, l1]
  omega

theorem inR_lo {n : Int} (h : inR n) : -9223372036854775808 ≤ n := h.1
theorem inR_hi {n : Int} (h : inR n) : n ≤ 9223372036854775807 := h.2

theorem bcell {W w1 : World} (hb : Below W.heap.size W w1) : (∀ b o, b < W.heap.size → w1.cell? ⟨b, o, none⟩ = W.cell? ⟨b, o, none⟩) ∧ (∀ b o, b < W.heap.size → w1.frozen? ⟨b, o, none⟩ = W.frozen? ⟨b, o, none⟩) :=
  ⟨fun b o h => hb.cell (p := ⟨b, o, none⟩) h, fun b o h => hb.frozen (p := ⟨b, o, none⟩) h⟩

theorem keepC {w1 w2 : World} {b o : Nat} {x : Option Value} (hb : Below w1.heap.size w1 w2) (hlt : b < w1.heap.size) (h : w1.cell? ⟨b, o, none⟩ = x) : w2.cell? ⟨b, o, none⟩ = x := by
  rw [hb.cell (p := ⟨b, o, none⟩) hlt]; exact h

theorem keepQ {w w1 w2 : World} {B : Nat} {f t m : Int} {b : Bool} {r k : Int} {sf bi : Bool} {o : Int} {ch : Bool} (hb : Below w1.heap.size w1 w2)
    (h : w1.cell? ⟨B, 0, none⟩ = some (.int .i64 f) ∧ w1.cell? ⟨B, 1, none⟩ = some (.int .i64 t) ∧ w1.cell? ⟨B, 2, none⟩ = some (.int .i64 m) ∧ w1.cell? ⟨B, 3, none⟩ = some (.bool b) ∧ w1.cell? ⟨B, 4, none⟩ = some (.int .i64 r) ∧ w1.cell? ⟨B, 5, none⟩ = some (.int .i64 k) ∧ w1.cell? ⟨B, 6, none⟩ = some (.bool sf) ∧ w1.cell? ⟨B, 7, none⟩ = some (.bool bi) ∧ w1.cell? ⟨B, 8, none⟩ = some (.int .i64 o) ∧ w1.cell? ⟨B, 9, none⟩ = some (.bool ch) ∧ B + 1 ≤ w1.heap.size ∧ Below B w w1) :
    w2.cell? ⟨B, 0, none⟩ = some (.int .i64 f) ∧ w2.cell? ⟨B, 1, none⟩ = some (.int .i64 t) ∧ w2.cell? ⟨B, 2, none⟩ = some (.int .i64 m) ∧ w2.cell? ⟨B, 3, none⟩ = some (.bool b) ∧ w2.cell? ⟨B, 4, none⟩ = some (.int .i64 r) ∧ w2.cell? ⟨B, 5, none⟩ = some (.int .i64 k) ∧ w2.cell? ⟨B, 6, none⟩ = some (.bool sf) ∧ w2.cell? ⟨B, 7, none⟩ = some (.bool bi) ∧ w2.cell? ⟨B, 8, none⟩ = some (.int .i64 o) ∧ w2.cell? ⟨B, 9, none⟩ = some (.bool ch) ∧ B + 1 ≤ w2.heap.size ∧ Below B w w2 := by
  obtain ⟨h0, h1, h2, h3, h4, h5, h6, h7, h8, h9, hs, hw⟩ := h
  have hl : B < w1.heap.size := hs
  exact ⟨keepC hb hl h0, keepC hb hl h1, keepC hb hl h2, keepC hb hl h3, keepC hb hl h4, keepC hb hl h5, keepC hb hl h6, keepC hb hl h7, keepC hb hl h8, keepC hb hl h9, Nat.le_trans hs hb.size, hw.trans (hb.mono (by omega))⟩

theorem startQ {w w2 : World} {t1 : TypeId} {f t m : Int} {b : Bool} {r k : Int} {sf bi : Bool} {o : Int} {ch : Bool} (hb : Below (w.alloc (Obj.cells #[.int .i64 f, .int .i64 t, .int .i64 m, .bool b, .int .i64 r, .int .i64 k, .bool sf, .bool bi, .int .i64 o, .bool ch] t1)).heap.size (w.alloc (Obj.cells #[.int .i64 f, .int .i64 t, .int .i64 m, .bool b, .int .i64 r, .int .i64 k, .bool sf, .bool bi, .int .i64 o, .bool ch] t1)) w2) :
    w2.cell? ⟨w.heap.size, 0, none⟩ = some (.int .i64 f) ∧ w2.cell? ⟨w.heap.size, 1, none⟩ = some (.int .i64 t) ∧ w2.cell? ⟨w.heap.size, 2, none⟩ = some (.int .i64 m) ∧ w2.cell? ⟨w.heap.size, 3, none⟩ = some (.bool b) ∧ w2.cell? ⟨w.heap.size, 4, none⟩ = some (.int .i64 r) ∧ w2.cell? ⟨w.heap.size, 5, none⟩ = some (.int .i64 k) ∧ w2.cell? ⟨w.heap.size, 6, none⟩ = some (.bool sf) ∧ w2.cell? ⟨w.heap.size, 7, none⟩ = some (.bool bi) ∧ w2.cell? ⟨w.heap.size, 8, none⟩ = some (.int .i64 o) ∧ w2.cell? ⟨w.heap.size, 9, none⟩ = some (.bool ch) ∧ w.heap.size + 1 ≤ w2.heap.size ∧ Below w.heap.size w w2 := by
  refine keepQ hb ?_
  refine ⟨?_, ?_, ?_, ?_, ?_, ?_, ?_, ?_, ?_, ?_, by simp, (Below.refl _ _).alloc (Nat.le_refl _) _⟩ <;> (simp only [World.cell?, heap_alloc]; rfl)

theorem keepQA {w w1 : World} {B : Nat} {f t m : Int} {b : Bool} {r k : Int} {sf bi : Bool} {o : Int} {ch : Bool} (ob : Obj)
    (h : w1.cell? ⟨B, 0, none⟩ = some (.int .i64 f) ∧ w1.cell? ⟨B, 1, none⟩ = some (.int .i64 t) ∧ w1.cell? ⟨B, 2, none⟩ = some (.int .i64 m) ∧ w1.cell? ⟨B, 3, none⟩ = some (.bool b) ∧ w1.cell? ⟨B, 4, none⟩ = some (.int .i64 r) ∧ w1.cell? ⟨B, 5, none⟩ = some (.int .i64 k) ∧ w1.cell? ⟨B, 6, none⟩ = some (.bool sf) ∧ w1.cell? ⟨B, 7, none⟩ = some (.bool bi) ∧ w1.cell? ⟨B, 8, none⟩ = some (.int .i64 o) ∧ w1.cell? ⟨B, 9, none⟩ = some (.bool ch) ∧ B + 1 ≤ w1.heap.size ∧ Below B w w1) :
    (w1.alloc ob).cell? ⟨B, 0, none⟩ = some (.int .i64 f) ∧ (w1.alloc ob).cell? ⟨B, 1, none⟩ = some (.int .i64 t) ∧ (w1.alloc ob).cell? ⟨B, 2, none⟩ = some (.int .i64 m) ∧ (w1.alloc ob).cell? ⟨B, 3, none⟩ = some (.bool b) ∧ (w1.alloc ob).cell? ⟨B, 4, none⟩ = some (.int .i64 r) ∧ (w1.alloc ob).cell? ⟨B, 5, none⟩ = some (.int .i64 k) ∧ (w1.alloc ob).cell? ⟨B, 6, none⟩ = some (.bool sf) ∧ (w1.alloc ob).cell? ⟨B, 7, none⟩ = some (.bool bi) ∧ (w1.alloc ob).cell? ⟨B, 8, none⟩ = some (.int .i64 o) ∧ (w1.alloc ob).cell? ⟨B, 9, none⟩ = some (.bool ch) ∧ B + 1 ≤ (w1.alloc ob).heap.size ∧ Below B w (w1.alloc ob) := keepQ ((Below.refl _ _).alloc (Nat.le_refl _) ob) h

theorem keepQD {w w1 : World} {B : Nat} {f t m : Int} {b : Bool} {r k : Int} {sf bi : Bool} {o : Int} {ch : Bool}
    (h : w1.cell? ⟨B, 0, none⟩ = some (.int .i64 f) ∧ w1.cell? ⟨B, 1, none⟩ = some (.int .i64 t) ∧ w1.cell? ⟨B, 2, none⟩ = some (.int .i64 m) ∧ w1.cell? ⟨B, 3, none⟩ = some (.bool b) ∧ w1.cell? ⟨B, 4, none⟩ = some (.int .i64 r) ∧ w1.cell? ⟨B, 5, none⟩ = some (.int .i64 k) ∧ w1.cell? ⟨B, 6, none⟩ = some (.bool sf) ∧ w1.cell? ⟨B, 7, none⟩ = some (.bool bi) ∧ w1.cell? ⟨B, 8, none⟩ = some (.int .i64 o) ∧ w1.cell? ⟨B, 9, none⟩ = some (.bool ch) ∧ B + 1 ≤ w1.heap.size ∧ Below B w w1) :
    w1.drew.cell? ⟨B, 0, none⟩ = some (.int .i64 f) ∧ w1.drew.cell? ⟨B, 1, none⟩ = some (.int .i64 t) ∧ w1.drew.cell? ⟨B, 2, none⟩ = some (.int .i64 m) ∧ w1.drew.cell? ⟨B, 3, none⟩ = some (.bool b) ∧ w1.drew.cell? ⟨B, 4, none⟩ = some (.int .i64 r) ∧ w1.drew.cell? ⟨B, 5, none⟩ = some (.int .i64 k) ∧ w1.drew.cell? ⟨B, 6, none⟩ = some (.bool sf) ∧ w1.drew.cell? ⟨B, 7, none⟩ = some (.bool bi) ∧ w1.drew.cell? ⟨B, 8, none⟩ = some (.int .i64 o) ∧ w1.drew.cell? ⟨B, 9, none⟩ = some (.bool ch) ∧ B + 1 ≤ w1.drew.heap.size ∧ Below B w w1.drew := keepQ ((Below.refl _ _).drew) h


set_option maxHeartbeats 4000000 in
theorem fq7_yes_false (f t m r k : Int) (sf bi : Bool) (o : Int) (ch : Bool) (w : World) (hv : Qy.valid ⟨f, t, m, false, r, k, sf, bi, o, ch⟩ = true)
    (rf : inR f) (rt : inR t) (rm : inR m) (rr : inR r) (rk : inR k) (ro : inR o) :
    Calls Try.prog 7 #[.agg #[.int .i64 f, .int .i64 t, .int .i64 m, .bool false, .int .i64 r, .int .i64 k, .bool sf, .bool bi, .int .i64 o, .bool ch]] w fun e w' => e = .returned (.tuple #[.string (Qy.line ⟨f, t, m, false, r, k, sf, bi, o, ch⟩), .int .i64 0]) ∧ Below w.heap.size w w' := by
  have HV := Lib.hid hv
  clear hv
  have lf := decB_len f
  have lt := decB_len t
  have lm := decB_len m
  have lr := decB_len r
  have lk := decB_len k
  have lo := decB_len o
  go_enter Try.func7, Try.ntmps7
  go_upto_region 6 with (go_at_call 13; refine (valid13 _ _ _ _ _ _ _ _ _ _ _).mono ?_; rw [HV.out]; rintro e w1 ⟨rfl, hb⟩; have hS := startQ hb; clear hb)
  go_cut [5] (fun s5 wx => s5 = .string (Qy.base ⟨f, t, m, false, r, k, sf, bi, o, ch⟩) ∧ wx.cell? ⟨w.heap.size, 0, none⟩ = some (.int .i64 f) ∧ wx.cell? ⟨w.heap.size, 1, none⟩ = some (.int .i64 t) ∧ wx.cell? ⟨w.heap.size, 2, none⟩ = some (.int .i64 m) ∧ wx.cell? ⟨w.heap.size, 3, none⟩ = some (.bool false) ∧ wx.cell? ⟨w.heap.size, 4, none⟩ = some (.int .i64 r) ∧ wx.cell? ⟨w.heap.size, 5, none⟩ = some (.int .i64 k) ∧ wx.cell? ⟨w.heap.size, 6, none⟩ = some (.bool sf) ∧ wx.cell? ⟨w.heap.size, 7, none⟩ = some (.bool bi) ∧ wx.cell? ⟨w.heap.size, 8, none⟩ = some (.int .i64 o) ∧ wx.cell? ⟨w.heap.size, 9, none⟩ = some (.bool ch) ∧ w.heap.size + 1 ≤ wx.heap.size ∧ Below w.heap.size w wx)
  case first =>
    have c2 : ¬ (9223372036854775807 < (decB f).size + 1) := by omega
    have c3 : ¬ (9223372036854775807 < (decB f).size + 1 + (decB t).size) := by omega
    have c4 : ¬ (9223372036854775807 < (decB f).size + 1 + (decB t).size + 1) := by omega
    have c5 : ¬ (9223372036854775807 < (decB f).size + 1 + (decB t).size + 1 + (decB m).size) := by omega
    have c6 : ¬ (9223372036854775807 < (decB f).size + 1 + (decB t).size + 1 + (decB m).size + 1) := by omega
    have c7 : ¬ (9223372036854775807 < (decB f).size + 1 + (decB t).size + 1 + (decB m).size + 1 + 7) := by omega
    have c8 : ¬ (9223372036854775807 < (decB f).size + 1 + (decB t).size + 1 + (decB m).size + 1 + 7 + 1) := by omega
    have c9 : ¬ (9223372036854775807 < (decB f).size + 1 + (decB t).size + 1 + (decB m).size + 1 + 7 + 1 + (decB r).size) := by omega
    have c10 : ¬ (9223372036854775807 < (decB f).size + 1 + (decB t).size + 1 + (decB m).size + 1 + 7 + 1 + (decB r).size + 1) := by omega
    have c11 : ¬ (9223372036854775807 < (decB f).size + 1 + (decB t).size + 1 + (decB m).size + 1 + 7 + 1 + (decB r).size + 1 + (decB k).size) := by omega
    have c12 : ¬ (9223372036854775807 < (decB f).size + 1 + (decB t).size + 1 + (decB m).size + 1 + 7 + 1 + (decB r).size + 1 + (decB k).size + 1) := by omega
    have c13 : ¬ (9223372036854775807 < (decB f).size + 1 + (decB t).size + 1 + (decB m).size + 1 + 7 + 1 + (decB r).size + 1 + (decB k).size + 1 + (decB o).size) := by omega
    go_region_held3 (fun wx => wx.cell? ⟨w.heap.size, 0, none⟩ = some (.int .i64 f) ∧ wx.cell? ⟨w.heap.size, 1, none⟩ = some (.int .i64 t) ∧ wx.cell? ⟨w.heap.size, 2, none⟩ = some (.int .i64 m) ∧ wx.cell? ⟨w.heap.size, 3, none⟩ = some (.bool false) ∧ wx.cell? ⟨w.heap.size, 4, none⟩ = some (.int .i64 r) ∧ wx.cell? ⟨w.heap.size, 5, none⟩ = some (.int .i64 k) ∧ wx.cell? ⟨w.heap.size, 6, none⟩ = some (.bool sf) ∧ wx.cell? ⟨w.heap.size, 7, none⟩ = some (.bool bi) ∧ wx.cell? ⟨w.heap.size, 8, none⟩ = some (.int .i64 o) ∧ wx.cell? ⟨w.heap.size, 9, none⟩ = some (.bool ch) ∧ w.heap.size + 1 ≤ wx.heap.size ∧ Below w.heap.size w wx)
        (first | (exact keepQ (by assumption) (by assumption)) | (exact keepQD (by assumption)) | go_keep)
        (first | (go_at_call 14; refine (number14 _ _ (inR_lo (by assumption)) (inR_hi (by assumption))).mono ?_; rintro e w' ⟨rfl, hb⟩))
    go_wp2_with fail
    go_meet
    exact ⟨rfl, by assumption⟩
  case rest =>
    obtain ⟨rfl, h0, h1, h2, h3, h4, h5, h6, h7, h8, h9, hs, hw⟩ := hcut
    have lb := base_len ⟨f, t, m, false, r, k, sf, bi, o, ch⟩
    have d1 : ¬ (9223372036854775807 < (Qy.base ⟨f, t, m, false, r, k, sf, bi, o, ch⟩).size + 10) := by omega
    have d2 : ¬ (9223372036854775807 < (Qy.base ⟨f, t, m, false, r, k, sf, bi, o, ch⟩).size + 8) := by omega
    have d3 : ¬ (9223372036854775807 < (Qy.base ⟨f, t, m, false, r, k, sf, bi, o, ch⟩).size + 9) := by omega
    have d4 : ¬ (9223372036854775807 < (Qy.base ⟨f, t, m, false, r, k, sf, bi, o, ch⟩).size + 10 + 8) := by omega
    have d5 : ¬ (9223372036854775807 < (Qy.base ⟨f, t, m, false, r, k, sf, bi, o, ch⟩).size + 10 + 9) := by omega
    have d6 : ¬ (9223372036854775807 < (Qy.base ⟨f, t, m, false, r, k, sf, bi, o, ch⟩).size + 8 + 9) := by omega
    have d7 : ¬ (9223372036854775807 < (Qy.base ⟨f, t, m, false, r, k, sf, bi, o, ch⟩).size + 10 + 8 + 9) := by omega
    cases sf <;> cases bi <;> cases ch
    all_goals
      go_wp2
      go_ret2
      exact ⟨rfl, hw⟩

set_option maxHeartbeats 4000000 in
theorem fq7_yes_true (f t m r k : Int) (sf bi : Bool) (o : Int) (ch : Bool) (w : World) (hv : Qy.valid ⟨f, t, m, true, r, k, sf, bi, o, ch⟩ = true)
    (rf : inR f) (rt : inR t) (rm : inR m) (rr : inR r) (rk : inR k) (ro : inR o) :
    Calls Try.prog 7 #[.agg #[.int .i64 f, .int .i64 t, .int .i64 m, .bool true, .int .i64 r, .int .i64 k, .bool sf, .bool bi, .int .i64 o, .bool ch]] w fun e w' => e = .returned (.tuple #[.string (Qy.line ⟨f, t, m, true, r, k, sf, bi, o, ch⟩), .int .i64 0]) ∧ Below w.heap.size w w' := by
  have HV := Lib.hid hv
  clear hv
  have lf := decB_len f
  have lt := decB_len t
  have lm := decB_len m
  have lr := decB_len r
  have lk := decB_len k
  have lo := decB_len o
  go_enter Try.func7, Try.ntmps7
  go_upto_region 6 with (go_at_call 13; refine (valid13 _ _ _ _ _ _ _ _ _ _ _).mono ?_; rw [HV.out]; rintro e w1 ⟨rfl, hb⟩; have hS := startQ hb; clear hb)
  go_cut [5] (fun s5 wx => s5 = .string (Qy.base ⟨f, t, m, true, r, k, sf, bi, o, ch⟩) ∧ wx.cell? ⟨w.heap.size, 0, none⟩ = some (.int .i64 f) ∧ wx.cell? ⟨w.heap.size, 1, none⟩ = some (.int .i64 t) ∧ wx.cell? ⟨w.heap.size, 2, none⟩ = some (.int .i64 m) ∧ wx.cell? ⟨w.heap.size, 3, none⟩ = some (.bool true) ∧ wx.cell? ⟨w.heap.size, 4, none⟩ = some (.int .i64 r) ∧ wx.cell? ⟨w.heap.size, 5, none⟩ = some (.int .i64 k) ∧ wx.cell? ⟨w.heap.size, 6, none⟩ = some (.bool sf) ∧ wx.cell? ⟨w.heap.size, 7, none⟩ = some (.bool bi) ∧ wx.cell? ⟨w.heap.size, 8, none⟩ = some (.int .i64 o) ∧ wx.cell? ⟨w.heap.size, 9, none⟩ = some (.bool ch) ∧ w.heap.size + 1 ≤ wx.heap.size ∧ Below w.heap.size w wx)
  case first =>
    have c2 : ¬ (9223372036854775807 < (decB f).size + 1) := by omega
    have c3 : ¬ (9223372036854775807 < (decB f).size + 1 + (decB t).size) := by omega
    have c4 : ¬ (9223372036854775807 < (decB f).size + 1 + (decB t).size + 1) := by omega
    have c5 : ¬ (9223372036854775807 < (decB f).size + 1 + (decB t).size + 1 + (decB m).size) := by omega
    have c6 : ¬ (9223372036854775807 < (decB f).size + 1 + (decB t).size + 1 + (decB m).size + 1) := by omega
    have c7 : ¬ (9223372036854775807 < (decB f).size + 1 + (decB t).size + 1 + (decB m).size + 1 + 8) := by omega
    have c8 : ¬ (9223372036854775807 < (decB f).size + 1 + (decB t).size + 1 + (decB m).size + 1 + 8 + 1) := by omega
    have c9 : ¬ (9223372036854775807 < (decB f).size + 1 + (decB t).size + 1 + (decB m).size + 1 + 8 + 1 + (decB r).size) := by omega
    have c10 : ¬ (9223372036854775807 < (decB f).size + 1 + (decB t).size + 1 + (decB m).size + 1 + 8 + 1 + (decB r).size + 1) := by omega
    have c11 : ¬ (9223372036854775807 < (decB f).size + 1 + (decB t).size + 1 + (decB m).size + 1 + 8 + 1 + (decB r).size + 1 + (decB k).size) := by omega
    have c12 : ¬ (9223372036854775807 < (decB f).size + 1 + (decB t).size + 1 + (decB m).size + 1 + 8 + 1 + (decB r).size + 1 + (decB k).size + 1) := by omega
    have c13 : ¬ (9223372036854775807 < (decB f).size + 1 + (decB t).size + 1 + (decB m).size + 1 + 8 + 1 + (decB r).size + 1 + (decB k).size + 1 + (decB o).size) := by omega
    go_region_held3 (fun wx => wx.cell? ⟨w.heap.size, 0, none⟩ = some (.int .i64 f) ∧ wx.cell? ⟨w.heap.size, 1, none⟩ = some (.int .i64 t) ∧ wx.cell? ⟨w.heap.size, 2, none⟩ = some (.int .i64 m) ∧ wx.cell? ⟨w.heap.size, 3, none⟩ = some (.bool true) ∧ wx.cell? ⟨w.heap.size, 4, none⟩ = some (.int .i64 r) ∧ wx.cell? ⟨w.heap.size, 5, none⟩ = some (.int .i64 k) ∧ wx.cell? ⟨w.heap.size, 6, none⟩ = some (.bool sf) ∧ wx.cell? ⟨w.heap.size, 7, none⟩ = some (.bool bi) ∧ wx.cell? ⟨w.heap.size, 8, none⟩ = some (.int .i64 o) ∧ wx.cell? ⟨w.heap.size, 9, none⟩ = some (.bool ch) ∧ w.heap.size + 1 ≤ wx.heap.size ∧ Below w.heap.size w wx)
        (first | (exact keepQ (by assumption) (by assumption)) | (exact keepQD (by assumption)) | go_keep)
        (first | (go_at_call 14; refine (number14 _ _ (inR_lo (by assumption)) (inR_hi (by assumption))).mono ?_; rintro e w' ⟨rfl, hb⟩))
    go_wp2_with fail
    go_meet
    exact ⟨rfl, by assumption⟩
  case rest =>
    obtain ⟨rfl, h0, h1, h2, h3, h4, h5, h6, h7, h8, h9, hs, hw⟩ := hcut
    have lb := base_len ⟨f, t, m, true, r, k, sf, bi, o, ch⟩
    have d1 : ¬ (9223372036854775807 < (Qy.base ⟨f, t, m, true, r, k, sf, bi, o, ch⟩).size + 10) := by omega
    have d2 : ¬ (9223372036854775807 < (Qy.base ⟨f, t, m, true, r, k, sf, bi, o, ch⟩).size + 8) := by omega
    have d3 : ¬ (9223372036854775807 < (Qy.base ⟨f, t, m, true, r, k, sf, bi, o, ch⟩).size + 9) := by omega
    have d4 : ¬ (9223372036854775807 < (Qy.base ⟨f, t, m, true, r, k, sf, bi, o, ch⟩).size + 10 + 8) := by omega
    have d5 : ¬ (9223372036854775807 < (Qy.base ⟨f, t, m, true, r, k, sf, bi, o, ch⟩).size + 10 + 9) := by omega
    have d6 : ¬ (9223372036854775807 < (Qy.base ⟨f, t, m, true, r, k, sf, bi, o, ch⟩).size + 8 + 9) := by omega
    have d7 : ¬ (9223372036854775807 < (Qy.base ⟨f, t, m, true, r, k, sf, bi, o, ch⟩).size + 10 + 8 + 9) := by omega
    cases sf <;> cases bi <;> cases ch
    all_goals
      go_wp2
      go_ret2
      exact ⟨rfl, hw⟩
end Go.Proofs
