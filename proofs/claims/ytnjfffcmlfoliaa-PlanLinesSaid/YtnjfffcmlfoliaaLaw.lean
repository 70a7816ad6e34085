/-
  A part of the proof: lemmas of my own.
-/
import Derived.Test.YtnjfffcmlfoliaaLW
import Derived.Test.YtnjfffcmlfoliaaPF
import Derived.Test.YtnjfffcmlfoliaaPO
import Derived.Test.YtnjfffcmlfoliaaExP
import Derived.Test.YtnjfffcmlfoliaaPZ
import Derived.Test.YtnjfffcmlfoliaaPTa
import Derived.Test.YtnjfffcmlfoliaaPTb
set_option linter.unusedVariables false
set_option linter.unusedSimpArgs false
namespace Go.Proofs
open Go.RowKit
set_option maxRecDepth 1000000

def fq (q : Qy) : ByteArray × Int := if q.valid then (q.line, 0) else (⟨#[]⟩, 22)

theorem inR_valid {q : Qy} (h : q.valid = true) : inR q.from_ ∧ inR q.to_ ∧ inR q.time ∧ inR q.rides ∧ inR q.walk ∧ inR q.modes := by
  simp only [Qy.valid, inB, Bool.and_eq_true, decide_eq_true_eq] at h
  unfold inR
  omega

theorem fq6 (q : Qy) (w : World) : Calls Try.prog 6 #[q.v] w fun e w' => e = .returned (.tuple #[.string (fq q).1, .int .i64 (fq q).2]) ∧ Below w.heap.size w w' := by
  unfold fq
  cases hv : q.valid with
  | false => exact fq6_no q w hv
  | true =>
    obtain ⟨h1, h2, h3, h4, h5, h6⟩ := inR_valid hv
    obtain ⟨f, t, m, b, r, k, sf, bi, o, ch⟩ := q
    cases b with
    | false => exact fq6_yes_false f t m r k sf bi o ch w hv h1 h2 h3 h4 h5 h6
    | true => exact fq6_yes_true f t m r k sf bi o ch w hv h1 h2 h3 h4 h5 h6

theorem fq7 (q : Qy) (w : World) : Calls Try.prog 7 #[q.v] w fun e w' => e = .returned (.tuple #[.string (fq q).1, .int .i64 (fq q).2]) ∧ Below w.heap.size w w' := by
  unfold fq
  cases hv : q.valid with
  | false => exact fq7_no q w hv
  | true =>
    obtain ⟨h1, h2, h3, h4, h5, h6⟩ := inR_valid hv
    obtain ⟨f, t, m, b, r, k, sf, bi, o, ch⟩ := q
    cases b with
    | false => exact fq7_yes_false f t m r k sf bi o ch w hv h1 h2 h3 h4 h5 h6
    | true => exact fq7_yes_true f t m r k sf bi o ch w hv h1 h2 h3 h4 h5 h6

def pq (s : ByteArray) : Qy × Int := parseProg ((splitW s.data.toList).map mkB)

def PQ8 : Prop := ∀ (s : ByteArray) (w : World), s.size ≤ 300 → Calls Try.prog 8 #[.string s] w fun e w' => e = .returned (.tuple #[(pq s).1.v, .int .i64 (pq s).2]) ∧ Below w.heap.size w w'
def PQ9 : Prop := ∀ (s : ByteArray) (w : World), s.size ≤ 300 → Calls Try.prog 9 #[.string s] w fun e w' => e = .returned (.tuple #[(pq s).1.v, .int .i64 (pq s).2]) ∧ Below w.heap.size w w'

/-- a block of a query -/
def qrow (q : Qy) : Obj := .cells #[.int .i64 q.from_, .int .i64 q.to_, .int .i64 q.time, .bool q.back, .int .i64 q.rides, .int .i64 q.walk, .bool q.sf, .bool q.bi, .int .i64 q.modes, .bool q.ch] 23 (0, 0)

theorem qload {W : World} {b : Nat} {q : Qy} (h : W.heap[b]? = some (qrow q)) : (W.cell? ⟨b, 0, none⟩ = some (.int .i64 q.from_) ∧ W.cell? ⟨b, 1, none⟩ = some (.int .i64 q.to_) ∧ W.cell? ⟨b, 2, none⟩ = some (.int .i64 q.time) ∧ W.cell? ⟨b, 3, none⟩ = some (.bool q.back) ∧ W.cell? ⟨b, 4, none⟩ = some (.int .i64 q.rides) ∧ W.cell? ⟨b, 5, none⟩ = some (.int .i64 q.walk) ∧ W.cell? ⟨b, 6, none⟩ = some (.bool q.sf) ∧ W.cell? ⟨b, 7, none⟩ = some (.bool q.bi) ∧ W.cell? ⟨b, 8, none⟩ = some (.int .i64 q.modes) ∧ W.cell? ⟨b, 9, none⟩ = some (.bool q.ch)) ∧ (∀ o, W.frozen? ⟨b, o, none⟩ = false) ∧ b < W.heap.size :=
  ⟨q_all h, fun o => by simp [World.frozen?, h, qrow], (Array.getElem?_eq_some_iff.1 h).1⟩

theorem fq6v (q : Qy) (w : World) : Calls Try.prog 6 #[.agg #[.int .i64 q.from_, .int .i64 q.to_, .int .i64 q.time, .bool q.back, .int .i64 q.rides, .int .i64 q.walk, .bool q.sf, .bool q.bi, .int .i64 q.modes, .bool q.ch]] w fun e w' => e = .returned (.tuple #[.string (fq q).1, .int .i64 (fq q).2]) ∧ Below w.heap.size w w' := fq6 q w
theorem fq7v (q : Qy) (w : World) : Calls Try.prog 7 #[.agg #[.int .i64 q.from_, .int .i64 q.to_, .int .i64 q.time, .bool q.back, .int .i64 q.rides, .int .i64 q.walk, .bool q.sf, .bool q.bi, .int .i64 q.modes, .bool q.ch]] w fun e w' => e = .returned (.tuple #[.string (fq q).1, .int .i64 (fq q).2]) ∧ Below w.heap.size w w' := fq7 q w

theorem law3 (h8 : PQ8) (h9 : PQ9) (q : Qy) (s : ByteArray) (w : World) : Calls Try.prog 3 #[q.v, .string s] w fun e w' => e = .returned (.bool true) ∧ Below w.heap.size w w' := by
  by_cases hs : s.size ≤ 300
  · have hs' : ¬ (300 : Int) < (s.size : Int) := by omega
    obtain ⟨rq, re, hr⟩ : ∃ rq re, pq s = (rq, re) := ⟨_, _, rfl⟩
    have h8 := Lib.hid (show ∀ w, s.size ≤ 300 → Calls Try.prog 8 #[.string s] w fun e w' => e = .returned (.tuple #[.agg #[.int .i64 rq.from_, .int .i64 rq.to_, .int .i64 rq.time, .bool rq.back, .int .i64 rq.rides, .int .i64 rq.walk, .bool rq.sf, .bool rq.bi, .int .i64 rq.modes, .bool rq.ch], .int .i64 re]) ∧ Below w.heap.size w w' from fun w hs => by have := h8 s w hs; rw [hr] at this; exact this)
    have h9 := Lib.hid (show ∀ w, s.size ≤ 300 → Calls Try.prog 9 #[.string s] w fun e w' => e = .returned (.tuple #[.agg #[.int .i64 rq.from_, .int .i64 rq.to_, .int .i64 rq.time, .bool rq.back, .int .i64 rq.rides, .int .i64 rq.walk, .bool rq.sf, .bool rq.bi, .int .i64 rq.modes, .bool rq.ch], .int .i64 re]) ∧ Below w.heap.size w w' from fun w hs => by have := h9 s w hs; rw [hr] at this; exact this)
    unfold Qy.v
    go_enter Try.func3, Try.ntmps3
    go_upto_region 3 with fail
    have hrow0 : (w.alloc (qrow q)).heap[w.heap.size]? = some (qrow q) := heap_alloc _ _
    have bel0 : Below w.heap.size w (w.alloc (qrow q)) := (Below.refl _ _).alloc (Nat.le_refl _) _
    go_upto_region 4 with (go_at_call 6; refine (fq6v q _).mono ?_; rintro e w1 ⟨rfl, hb⟩; have hrow1 := (hb.block _ (by simp [qrow])).trans hrow0; have bel1 := bel0.trans (hb.mono (by simp [qrow])); clear hb bel0 hrow0)
    obtain ⟨⟨z0, z1, z2, z3, z4, z5, z6, z7, z8, z9⟩, zf, zl⟩ := qload hrow1
    go_upto_region 5 with (go_at_call 7; refine (fq7v q _).mono ?_; rintro e w2 ⟨rfl, hb⟩; have bel2 := bel1.trans (hb.mono (by omega)); have sz2 := hb.size; clear hb bel1 hrow1 z0 z1 z2 z3 z4 z5 z6 z7 z8 z9 zf)
    go_upto_region 6 with (go_at_call 8; refine (h8.out _ hs).mono ?_; rintro e w3 ⟨rfl, hb⟩; have bel3 := bel2.trans (hb.mono (by omega)); have sz3 := hb.size; clear hb bel2)
    have hrow3 : (w3.alloc (qrow rq)).heap[w3.heap.size]? = some (qrow rq) := heap_alloc _ _
    have bel3' : Below w.heap.size w (w3.alloc (qrow rq)) := bel3.trans ((Below.refl _ _).alloc (by omega) _)
    go_upto_region 7 with (go_at_call 9; refine (h9.out _ hs).mono ?_; rintro e w4 ⟨rfl, hb⟩; have hrow4 := (hb.block _ (by simp [qrow])).trans hrow3; have bel4 := bel3'.trans (hb.mono (by simp [qrow]; omega)); have sz4 := hb.size; clear hb bel3 bel3' hrow3)
    obtain ⟨⟨z0, z1, z2, z3, z4, z5, z6, z7, z8, z9⟩, zf, zl4⟩ := qload hrow4
    have bel5 : Below w.heap.size w (w4.alloc (qrow rq)) := bel4.trans ((Below.refl _ _).alloc (by omega) _)
    go_wp2_with (go_at_call 5; refine (ex_any _).mono ?_; rintro e w5 ⟨rfl, hb⟩)
    go_ret
    exact ⟨rfl, bel5.trans (hb.mono (by simp; omega))⟩
  · have hs' : (300 : Int) < (s.size : Int) := by omega
    unfold Qy.v
    go_enter Try.func3, Try.ntmps3
    go_wp2_with (go_at_call 5; refine (ex_any _).mono ?_; rintro e w1 ⟨rfl, hb⟩)
    go_ret
    exact ⟨rfl, ((Below.refl _ _).alloc (Nat.le_refl _) _).trans (hb.mono (by simp))⟩

theorem fq_inj {q : Qy} (h : q.valid = true) : fq q = (q.line, 0) := by unfold fq; rw [if_pos h]
theorem fq_no {q : Qy} (h : q.valid = false) : fq q = (⟨#[]⟩, 22) := by unfold fq; rw [h]; rfl

theorem pq8v (h8 : PQ8) (s : ByteArray) (w : World) (rq : Qy) (re : Int) (hr : pq s = (rq, re)) (hs : s.size ≤ 300) : Calls Try.prog 8 #[.string s] w fun e w' => e = .returned (.tuple #[.agg #[.int .i64 rq.from_, .int .i64 rq.to_, .int .i64 rq.time, .bool rq.back, .int .i64 rq.rides, .int .i64 rq.walk, .bool rq.sf, .bool rq.bi, .int .i64 rq.modes, .bool rq.ch], .int .i64 re]) ∧ Below w.heap.size w w' := by
  have := h8 s w hs
  rw [hr] at this
  exact this

theorem pq_err (s : ByteArray) : ∃ rq re, pq s = (rq, re) ∧ (re = 0 ∨ re = 3 ∨ re = 22) := by
  refine ⟨(pq s).1, (pq s).2, rfl, ?_⟩
  unfold pq parseProg
  split
  · exact .inr (.inl rfl)
  · split
    · exact .inr (.inl rfl)
    · split
      · exact .inr (.inr rfl)
      · exact .inl rfl

/-- the law PlanRoundTrip behind its first part -/
theorem law4 (h8 : PQ8) (q : Qy) (s : ByteArray) (w : World) : Calls Try.prog 4 #[q.v, .string s] w fun e w' => e = .returned (.bool true) ∧ Below w.heap.size w w' := by
  by_cases hs : s.size ≤ 300
  · have hs' : ¬ (300 : Int) < (s.size : Int) := by omega
    obtain ⟨rq, re, hr, hre⟩ := pq_err s
    have H8 := Lib.hid fun w => pq8v h8 s w rq re hr hs
    have HF : re = 0 → fq rq = (s, 0) := fun e => by
      subst e
      obtain ⟨h1, h2⟩ := round_b hr
      rw [fq_inj h1, h2]
    unfold Qy.v
    cases hv : q.valid with
    | true =>
      have hfq := fq_inj hv
      have HL := Lib.hid fun w => pq8v h8 q.line w q 0 (round_a q hv) (line_len q)
      go_enter Try.func4, Try.ntmps4
      go_upto_region 3 with fail
      have hrow0 : (w.alloc (qrow q)).heap[w.heap.size]? = some (qrow q) := heap_alloc _ _
      have bel0 : Below w.heap.size w (w.alloc (qrow q)) := (Below.refl _ _).alloc (Nat.le_refl _) _
      go_upto_region 5 with (go_at_call 6; refine (fq6v q _).mono ?_; rw [hfq]; rintro e w1 ⟨rfl, hb⟩; have hrow1 := (hb.block _ (by simp [qrow])).trans hrow0; have bel1 := bel0.trans (hb.mono (by simp [qrow])); clear hb bel0 hrow0)
      obtain ⟨⟨z0, z1, z2, z3, z4, z5, z6, z7, z8, z9⟩, zf, zl⟩ := qload hrow1
      go_upto_region 6 with (go_at_call 8; refine (HL.out _).mono ?_; rintro e w2 ⟨rfl, hb⟩; have hrow2 := (hb.block _ zl).trans hrow1; have bel2 := bel1.trans (hb.mono (by omega)); have sz2 := hb.size; clear hb bel1 hrow1 z0 z1 z2 z3 z4 z5 z6 z7 z8 z9 zf)
      have bel2' : Below w.heap.size w (w2.alloc (qrow q)) := bel2.trans ((Below.refl _ _).alloc (by omega) _)
      obtain ⟨⟨z0, z1, z2, z3, z4, z5, z6, z7, z8, z9⟩, zf, zl2⟩ := qload hrow2
      go_upto_region 8 with fail
      go_upto_region 9 with (go_at_call 8; refine (H8.out _).mono ?_; rintro e w3 ⟨rfl, hb⟩; have bel3 := bel2'.trans (hb.mono (by first | omega | (simp [qrow]; omega))); have sz3 := hb.size; clear hb)
      have hrow3 : (w3.alloc (qrow rq)).heap[w3.heap.size]? = some (qrow rq) := heap_alloc _ _
      have bel3' : Below w.heap.size w (w3.alloc (qrow rq)) := bel3.trans ((Below.refl _ _).alloc (by have := bel3.size; omega) _)
      rcases hre with rfl | rfl | rfl
      · have hF := HF rfl
        go_wp2_with (first | (go_at_call 6; refine (fq6v rq _).mono ?_; rw [hF]; rintro e w4 ⟨rfl, hb⟩; have bel4 := bel3'.trans (hb.mono (by have := bel3.size; simp; omega)); clear hb) | (go_at_call 5; refine (ex_any _).mono ?_; rintro e w5 ⟨rfl, hb⟩))
        refine bodyPost_ret (v := .bool true) (by simp [results, Try.results4, go_sem]) rfl ?_
        exact ⟨rfl, bel4.trans (hb.mono (by have := bel4.size; omega))⟩
      · go_wp2_with (go_at_call 5; refine (ex_any _).mono ?_; rintro e w5 ⟨rfl, hb⟩)
        go_ret
        exact ⟨rfl, bel3'.trans (hb.mono (by have := bel3.size; simp; omega))⟩
      · go_wp2_with (go_at_call 5; refine (ex_any _).mono ?_; rintro e w5 ⟨rfl, hb⟩)
        go_ret
        exact ⟨rfl, bel3'.trans (hb.mono (by have := bel3.size; simp; omega))⟩
    | false =>
      have hfq := fq_no hv
      go_enter Try.func4, Try.ntmps4
      go_upto_region 3 with fail
      have hrow0 : (w.alloc (qrow q)).heap[w.heap.size]? = some (qrow q) := heap_alloc _ _
      have bel0 : Below w.heap.size w (w.alloc (qrow q)) := (Below.refl _ _).alloc (Nat.le_refl _) _
      go_upto_region 8 with (go_at_call 6; refine (fq6v q _).mono ?_; rw [hfq]; rintro e w1 ⟨rfl, hb⟩; have hrow1 := (hb.block _ (by simp [qrow])).trans hrow0; have bel1 := bel0.trans (hb.mono (by simp [qrow])); have sz1 := bel1.size; clear hb bel0 hrow0)
      go_upto_region 9 with (go_at_call 8; refine (H8.out _).mono ?_; rintro e w3 ⟨rfl, hb⟩; have bel3 := bel1.trans (hb.mono (by first | omega | (simp [qrow]; omega))); have sz3 := hb.size; clear hb)
      have hrow3 : (w3.alloc (qrow rq)).heap[w3.heap.size]? = some (qrow rq) := heap_alloc _ _
      have bel3' : Below w.heap.size w (w3.alloc (qrow rq)) := bel3.trans ((Below.refl _ _).alloc (by have := bel3.size; omega) _)
      rcases hre with rfl | rfl | rfl
      · have hF := HF rfl
        go_wp2_with (first | (go_at_call 6; refine (fq6v rq _).mono ?_; rw [hF]; rintro e w4 ⟨rfl, hb⟩; have bel4 := bel3'.trans (hb.mono (by have := bel3.size; simp; omega)); clear hb) | (go_at_call 5; refine (ex_any _).mono ?_; rintro e w5 ⟨rfl, hb⟩))
        refine bodyPost_ret (v := .bool true) (by simp [results, Try.results4, go_sem]) rfl ?_
        exact ⟨rfl, bel4.trans (hb.mono (by have := bel4.size; omega))⟩
      · go_wp2_with (go_at_call 5; refine (ex_any _).mono ?_; rintro e w5 ⟨rfl, hb⟩)
        go_ret
        exact ⟨rfl, bel3'.trans (hb.mono (by have := bel3.size; simp; omega))⟩
      · go_wp2_with (go_at_call 5; refine (ex_any _).mono ?_; rintro e w5 ⟨rfl, hb⟩)
        go_ret
        exact ⟨rfl, bel3'.trans (hb.mono (by have := bel3.size; simp; omega))⟩
  · have hs' : (300 : Int) < (s.size : Int) := by omega
    unfold Qy.v
    go_enter Try.func4, Try.ntmps4
    go_wp2_with (go_at_call 5; refine (ex_any _).mono ?_; rintro e w1 ⟨rfl, hb⟩)
    go_ret
    exact ⟨rfl, ((Below.refl _ _).alloc (Nat.le_refl _) _).trans (hb.mono (by simp))⟩
end Go.Proofs

namespace Go.Proofs
open Go.RowKit
set_option maxRecDepth 1000000

theorem cnt_ok (s : ByteArray) (hs : s.size ≤ 300) : (splitW s.data.toList).length ≤ 70001 := by
  have := splitW_cnt s.data.toList
  rw [len_size] at this
  omega

theorem pq8 : PQ8 := fun s w hs => pq8_a s w (by omega) (cnt_ok s hs)

theorem pq9 : PQ9 := fun s w hs => by
  unfold pq
  rw [parse_same]
  by_cases h7 : (splitW s.data.toList).length < 7
  · rw [show parseRef (splitW s.data.toList) = (zeroQy, 3) by unfold parseRef; rw [if_pos h7]]
    exact pq9_short s w (by omega) h7
  · obtain ⟨a0, a1, a2, d, a4, a5, a6, r, e⟩ := seven h7
    have hd : (splitW s.data.toList)[3]? = some d := by rw [e]; rfl
    by_cases h1 : d = fwdL
    · subst h1; exact pq9_rest_fwdL s w (by omega) (by omega) hd
    · by_cases h2 : d = bwdL
      · subst h2; exact pq9_rest_bwdL s w (by omega) (by omega) hd
      · have hg : (splitW s.data.toList).getD 3 [] = d := by rw [e]; rfl
        rw [show parseRef (splitW s.data.toList) = (zeroQy, 3) by unfold parseRef; rw [if_neg h7, if_neg (by rw [hg]; exact fun h => h.elim h1 h2)]]
        exact pq9_dir s w (by omega) d (by omega) hd (by simpa using h1) (by simpa using h2)

theorem lines_any (q : Qy) (s : ByteArray) (w : World) : Calls Try.prog 3 #[q.v, .string s] w fun e w' => e = .returned (.bool true) ∧ Below w.heap.size w w' := law3 pq8 pq9 q s w
theorem round_any (q : Qy) (s : ByteArray) (w : World) : Calls Try.prog 4 #[q.v, .string s] w fun e w' => e = .returned (.bool true) ∧ Below w.heap.size w w' := law4 pq8 q s w
end Go.Proofs
