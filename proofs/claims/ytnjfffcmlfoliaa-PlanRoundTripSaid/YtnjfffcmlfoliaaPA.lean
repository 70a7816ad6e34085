/-
  A part of the proof: lemmas of my own.
-/
import Derived.Test.YtnjfffcmlfoliaaFmtP
import Derived.Deep.RegionHeld3
import Derived.Laws.AppendOwn
import Derived.LoopTactic
import Derived.Deep.DeepCutAuto
set_option linter.unusedVariables false
set_option linter.unusedSimpArgs false
namespace Go.Proofs
open Go.RowKit
set_option maxRecDepth 1000000

def inR (n : Int) : Prop := -9223372036854775808 ≤ n ∧ n ≤ 9223372036854775807
def inB (x lo hi : Int) : Bool := decide (lo ≤ x) && decide (x ≤ hi)

theorem in22 (x hi : Int) (w : World) : Calls Try.prog 22 #[.int .i64 x, .int .i64 hi] w fun e w' => e = .returned (.bool (inB x 0 hi)) ∧ w = w' := by
  by_cases h : 0 ≤ x
  · have e : inB x 0 hi = decide (x ≤ hi) := by simp [inB, h]
    have E := Lib.hid e
    clear e
    go_enter Try.func22, Try.ntmps22
    go_wp2
    go_ret
    exact ⟨by rw [E.out]; rfl, rfl⟩
  · have e : inB x 0 hi = false := by simp [inB, h]
    have E := Lib.hid e
    clear e
    have h' : decide (0 ≤ x) = false := by simpa using h
    go_enter Try.func22, Try.ntmps22
    go_wp2
    go_ret
    exact ⟨by rw [E.out]; rfl, rfl⟩

theorem in26 (x lo hi : Int) (w : World) : Calls Try.prog 26 #[.int .i64 x, .int .i64 lo, .int .i64 hi] w fun e w' => e = .returned (.bool (inB x lo hi)) ∧ w = w' := by
  by_cases h : lo ≤ x
  · have e : inB x lo hi = decide (x ≤ hi) := by simp [inB, h]
    have E := Lib.hid e
    clear e
    go_enter Try.func26, Try.ntmps26
    go_wp2
    go_ret
    exact ⟨by rw [E.out]; rfl, rfl⟩
  · have e : inB x lo hi = false := by simp [inB, h]
    have E := Lib.hid e
    clear e
    have h' : decide (lo ≤ x) = false := by simpa using h
    go_enter Try.func26, Try.ntmps26
    go_wp2
    go_ret
    exact ⟨by rw [E.out]; rfl, rfl⟩

structure Qy where
  from_ : Int
  to_ : Int
  time : Int
  back : Bool
  rides : Int
  walk : Int
  sf : Bool
  bi : Bool
  modes : Int
  ch : Bool

def Qy.v (q : Qy) : Value := .agg #[.int .i64 q.from_, .int .i64 q.to_, .int .i64 q.time, .bool q.back, .int .i64 q.rides, .int .i64 q.walk, .bool q.sf, .bool q.bi, .int .i64 q.modes, .bool q.ch]

def Qy.valid (q : Qy) : Bool := inB q.from_ 0 63 && inB q.to_ 0 63 && inB q.time 0 3155932800 && inB q.rides 0 8 && inB q.walk 0 86400 && inB q.modes 0 255 && !(q.ch && q.back)

set_option maxHeartbeats 4000000 in
theorem valid10 (f t m : Int) (b : Bool) (r k : Int) (sf bi : Bool) (o : Int) (ch : Bool) (w : World) :
    Calls Try.prog 10 #[.agg #[.int .i64 f, .int .i64 t, .int .i64 m, .bool b, .int .i64 r, .int .i64 k, .bool sf, .bool bi, .int .i64 o, .bool ch]] w fun e w' => e = .returned (.bool (Qy.valid ⟨f, t, m, b, r, k, sf, bi, o, ch⟩)) ∧ Below w.heap.size w w' := by
  obtain ⟨vv, hv⟩ : ∃ vv, Qy.valid ⟨f, t, m, b, r, k, sf, bi, o, ch⟩ = vv := ⟨_, rfl⟩
  rw [hv]
  cases h1 : inB f 0 63
  case' true => cases h2 : inB t 0 63
  case' true => cases h3 : inB m 0 3155932800
  case' true => cases h4 : inB r 0 8
  case' true => cases h5 : inB k 0 86400
  case' true => cases h6 : inB o 0 255
  case' true => cases ch
  case' true => cases b
  all_goals
    simp only [Qy.valid, Bool.and_true, Bool.and_false, Bool.not_true, Bool.not_false, *] at hv
    subst hv
    go_enter Try.func10, Try.ntmps10
    go_wp2_with (go_at_call 22; refine (in22 _ _ _).mono ?_; rintro e w' ⟨rfl, rfl⟩)
    go_ret
    exact ⟨rfl, (Below.refl _ _).alloc (Nat.le_refl _) _⟩
end Go.Proofs

namespace Go.Proofs
open Go.RowKit
set_option maxRecDepth 1000000

set_option maxHeartbeats 4000000 in
theorem valid13 (f t m : Int) (b : Bool) (r k : Int) (sf bi : Bool) (o : Int) (ch : Bool) (w : World) :
    Calls Try.prog 13 #[.int .i64 64, .agg #[.int .i64 f, .int .i64 t, .int .i64 m, .bool b, .int .i64 r, .int .i64 k, .bool sf, .bool bi, .int .i64 o, .bool ch]] w fun e w' => e = .returned (.bool (Qy.valid ⟨f, t, m, b, r, k, sf, bi, o, ch⟩)) ∧ Below w.heap.size w w' := by
  obtain ⟨vv, hv⟩ : ∃ vv, Qy.valid ⟨f, t, m, b, r, k, sf, bi, o, ch⟩ = vv := ⟨_, rfl⟩
  rw [hv]
  cases h1 : inB f 0 63
  case' true => cases h2 : inB t 0 63
  case' true => cases h3 : inB m 0 3155932800
  case' true => cases h4 : inB r 0 8
  case' true => cases h5 : inB k 0 86400
  case' true => cases h6 : inB o 0 255
  case' true => cases ch
  case' true => cases b
  all_goals
    simp only [Qy.valid, Bool.and_true, Bool.and_false, Bool.not_true, Bool.not_false, *] at hv
    subst hv
    go_enter Try.func13, Try.ntmps13
    go_wp2_with (go_at_call 26; refine (in26 _ _ _ _).mono ?_; rintro e w' ⟨rfl, rfl⟩)
    go_ret
    exact ⟨rfl, (Below.refl _ _).alloc (Nat.le_refl _) _⟩
end Go.Proofs

namespace Go.Proofs
open Go.RowKit
set_option maxRecDepth 1000000

theorem fmtGo_len : ∀ (i m : Nat) (l : List UInt8), (fmtGo i m l).length ≤ i + l.length
  | 0, m, l => by simp [fmtGo]
  | i + 1, m, l => by
    unfold fmtGo
    split
    · have := fmtGo_len i (m / 10) (digit m :: l); simp at this; omega
    · simp; omega

theorem digit_nat (m : Nat) : (48 + (m : Int) % 10) = ((digit m).toNat : Int) := by
  unfold digit
  have : (48 + m % 10) < 256 := by omega
  simp [UInt8.toNat_ofNat', Nat.mod_eq_of_lt this]

theorem conv1 (w : World) (m : Nat) : (convert 52 9 (Value.slice (some ⟨w.heap.size, 0, none⟩) 1 1)).run Try.prog (w.alloc (Obj.cells #[Value.int .u8 (48 + (m : Int) % 10)] 5)) =
    .ok (.string ⟨[digit m].toArray⟩) (w.alloc (Obj.cells #[Value.int .u8 (48 + (m : Int) % 10)] 5)) := by
  refine run_convert_bytes_back (P := Try.prog) _ 52 9 5 ⟨w.heap.size, 0, none⟩ 1 [digit m] (by kernel_rfl) (by kernel_rfl) (by kernel_rfl) ?_
  intro j hj
  have : j = 0 := by simpa using hj
  subst this
  show (match (w.alloc (Obj.cells #[Value.int .u8 (48 + (m : Int) % 10)] 5)).heap[w.heap.size + 0]? with | some (Obj.cells c _ _) => c[0]? | _ => none) = _
  rw [Nat.add_zero, heap_alloc]
  simp [digit_nat]

theorem conv1' (w : World) (m : Nat) : (convert 52 9 (Value.slice (some ⟨w.heap.size, 0, none⟩) 1 1)).run Try.prog (w.alloc (Obj.cells #[Value.int .u8 (48 + (m : Int) / 10 % 10)] 5)) =
    .ok (.string ⟨[digit (m / 10)].toArray⟩) (w.alloc (Obj.cells #[Value.int .u8 (48 + (m : Int) / 10 % 10)] 5)) := by
  have := conv1 w (m / 10)
  simpa using this

/-- digits' loop: m still to be divided, its own digit laid -/
theorem digits27 (n : Nat) (w : World) (hn : n ≤ 9223372036854775807) :
    Calls Try.prog 27 #[.int .i64 n] w fun e w' => e = .returned (.string ⟨(fmtGo 20 n []).toArray⟩) ∧ Below w.heap.size w w' := by
  have h0 : (0 : Int) ≤ (n : Int) := Int.natCast_nonneg _
  have h1 : (n : Int) ≤ 9223372036854775807 := by omega
  have hc := conv1
  have hc' := conv1'
  go_enter Try.func27, Try.ntmps27
  go_wp2
  go_loopw [0, 3] (fun x s wr => ∃ (k m : Nat) (l : List UInt8), k < 20 ∧ m < 10 ^ (k + 1) ∧ m ≤ 9223372036854775807 ∧ l.length + (k + 1) = 20 ∧ x = .int .i64 m ∧ s = .string ⟨(digit m :: l).toArray⟩ ∧ fmtGo (k + 1) m l = fmtGo 20 n [] ∧ Below w.heap.size w wr) (fun x _ _ => (intOf x).toNat)
  case atStart => exact ⟨19, n, [], by omega, by have := p20 n (by omega); simpa using this, hn, rfl, rfl, rfl, rfl, (Below.refl _ _).alloc (Nat.le_refl _) _⟩
  case round =>
    obtain ⟨k, m, l, hk, hm, hmm, hl, rfl, rfl, hg, hb⟩ := hrel
    have m0 : (0 : Int) ≤ (m : Int) := Int.natCast_nonneg _
    have m1 : (m : Int) ≤ 9223372036854775807 := by omega
    have q0 : (0 : Int) ≤ (m : Int) / 10 := by omega
    have q1 : (m : Int) / 10 ≤ 9223372036854775807 := by omega
    have hs : ¬ (9223372036854775807 < 1 + (l.length + 1)) := by omega
    have HG := Lib.hid hg
    have HL := Lib.hid hl
    clear hg hl
    by_cases hlt : 10 ≤ m
    · have hlt' : (10 : Int) ≤ (m : Int) := by omega
      go_wp2
      have hm' : 0 < m / 10 := by omega
      obtain ⟨j, rfl⟩ : ∃ j, k = j + 1 := ⟨k - 1, by
        have : k ≠ 0 := fun h => by subst h; simp at hm; omega
        omega⟩
      refine ⟨⟨j, m / 10, digit m :: l, by omega, by rw [Nat.pow_succ] at hm; omega, by omega, by have := HL.out; simp; omega, by simp, ?_, ?_, hb.trans (((Below.refl _ _).alloc (Nat.le_refl _) _).mono hb.size)⟩, by simp [intOf]; omega⟩
      · congr 1
      · rw [← HG.out]
        conv => rhs; rw [fmtGo, if_pos hm']
    · have hlt' : ¬ (10 : Int) ≤ (m : Int) := by omega
      go_wp2
      go_ret
      refine ⟨?_, hb⟩
      rw [← HG.out, fmtGo, if_neg (by omega)]
      rfl
def dec (n : Int) : List UInt8 := (if n < 0 then [45] else []) ++ fmtGo 20 n.natAbs []
def decB (n : Int) : ByteArray := ⟨(dec n).toArray⟩

theorem number14 (n : Int) (w : World) (hlo : -9223372036854775808 ≤ n) (hhi : n ≤ 9223372036854775807) :
    Calls Try.prog 14 #[.int .i64 n] w fun e w' => e = .returned (.string (decB n)) ∧ Below w.heap.size w w' := by
  by_cases hz : n = -9223372036854775808
  · subst hz
    go_enter Try.func14, Try.ntmps14
    go_wp2
    go_ret
    exact ⟨by rfl, Below.refl _ _⟩
  · have hz' : (n == -9223372036854775808) = false := by simpa using hz
    by_cases hn : n < 0
    · obtain ⟨m, rfl⟩ : ∃ m : Nat, n = -(m : Int) := ⟨n.natAbs, by omega⟩
      have hm : 0 < m := by omega
      have hdec : dec (-(m : Int)) = [45] ++ fmtGo 20 m [] := by simp [dec, hm]
      have HD := Lib.hid hdec
      clear hdec
      have hs : ¬ (9223372036854775807 < 1 + (fmtGo 20 m []).length) := by
        have := fmtGo_len 20 m []
        simp at this
        omega
      go_enter Try.func14, Try.ntmps14
      go_wp2_with (go_at_call 27; refine (digits27 m _ (by omega)).mono ?_; rintro e w' ⟨rfl, hb⟩)
      go_ret
      refine ⟨?_, hb⟩
      simp only [decB, HD.out]
      rfl
    · obtain ⟨m, rfl⟩ : ∃ m : Nat, n = (m : Int) := ⟨n.toNat, by omega⟩
      have hdec : dec (m : Int) = fmtGo 20 m [] := by simp [dec]
      have HD := Lib.hid hdec
      clear hdec
      go_enter Try.func14, Try.ntmps14
      go_wp2_with (go_at_call 27; refine (digits27 m _ (by omega)).mono ?_; rintro e w' ⟨rfl, hb⟩)
      go_ret
      refine ⟨?_, hb⟩
      simp only [decB, HD.out]
      rfl

theorem format11 (n : Int) (w : World) (hlo : -9223372036854775808 ≤ n) (hhi : n ≤ 9223372036854775807) :
    Calls Try.prog 11 #[.int .i64 n] w fun e w' => e = .returned (.string (decB n)) ∧ Below w.heap.size w w' := walkF n w hlo hhi
end Go.Proofs

namespace Go.Proofs
open Go.RowKit
set_option maxRecDepth 1000000

theorem decB_len (n : Int) : (decB n).size ≤ 21 := by
  have := fmtGo_len 20 n.natAbs []
  simp at this
  unfold decB dec
  show (_ : List UInt8).length ≤ 21
  split <;> simp <;> omega

def fwd : ByteArray := ⟨#[102, 111, 114, 119, 97, 114, 100]⟩
def bwd : ByteArray := ⟨#[98, 97, 99, 107, 119, 97, 114, 100]⟩
def dirB (b : Bool) : ByteArray := bif b then bwd else fwd
def sp : ByteArray := ⟨#[32]⟩

def Qy.base (q : Qy) : ByteArray := decB q.from_ ++ ⟨#[32]⟩ ++ decB q.to_ ++ ⟨#[32]⟩ ++ decB q.time ++ ⟨#[32]⟩ ++ dirB q.back ++ ⟨#[32]⟩ ++ decB q.rides ++ ⟨#[32]⟩ ++ decB q.walk ++ ⟨#[32]⟩ ++ decB q.modes
def Qy.line (q : Qy) : ByteArray :=
  let s := q.base
  let s := bif q.sf then s ++ ⟨#[32, 115, 116, 101, 112, 45, 102, 114, 101, 101]⟩ else s
  let s := bif q.bi then s ++ ⟨#[32, 98, 105, 99, 121, 99, 108, 101]⟩ else s
  bif q.ch then s ++ ⟨#[32, 99, 104, 97, 110, 103, 105, 110, 103]⟩ else s

theorem fq7_no (q : Qy) (w : World) (hv : q.valid = false) :
    Calls Try.prog 7 #[.agg #[.int .i64 q.from_, .int .i64 q.to_, .int .i64 q.time, .bool q.back, .int .i64 q.rides, .int .i64 q.walk, .bool q.sf, .bool q.bi, .int .i64 q.modes, .bool q.ch]] w fun e w' => e = .returned (.tuple #[.string ⟨#[]⟩, .int .i64 22]) ∧ Below w.heap.size w w' := by
  obtain ⟨f, t, m, b, r, k, sf, bi, o, ch⟩ := q
  have HV := Lib.hid hv
  clear hv
  go_enter Try.func7, Try.ntmps7
  go_wp2_with (go_at_call 13; refine (valid13 _ _ _ _ _ _ _ _ _ _ _).mono ?_; rw [HV.out]; rintro e w' ⟨rfl, hb⟩)
  go_ret2
  exact ⟨rfl, (((Below.refl _ _).alloc (Nat.le_refl _) _).trans (hb.mono (by simp)))⟩

theorem fq6_no (q : Qy) (w : World) (hv : q.valid = false) :
    Calls Try.prog 6 #[.agg #[.int .i64 q.from_, .int .i64 q.to_, .int .i64 q.time, .bool q.back, .int .i64 q.rides, .int .i64 q.walk, .bool q.sf, .bool q.bi, .int .i64 q.modes, .bool q.ch]] w fun e w' => e = .returned (.tuple #[.string ⟨#[]⟩, .int .i64 22]) ∧ Below w.heap.size w w' := by
  obtain ⟨f, t, m, b, r, k, sf, bi, o, ch⟩ := q
  have HV := Lib.hid hv
  clear hv
  go_enter Try.func6, Try.ntmps6
  go_wp2_with (go_at_call 10; refine (valid10 _ _ _ _ _ _ _ _ _ _ _).mono ?_; rw [HV.out]; rintro e w' ⟨rfl, hb⟩)
  go_ret2
  exact ⟨rfl, (((Below.refl _ _).alloc (Nat.le_refl _) _).trans (hb.mono (by simp)))⟩
end Go.Proofs
