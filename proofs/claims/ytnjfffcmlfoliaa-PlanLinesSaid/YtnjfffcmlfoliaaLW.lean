/-
  A part of the proof: lemmas of my own.
-/
import Derived.Test.YtnjfffcmlfoliaaPY
set_option linter.unusedVariables false
set_option linter.unusedSimpArgs false
namespace Go.Proofs
open Go.RowKit

def decv (n : Nat) (l : List UInt8) : Nat := l.foldl (fun n c => 10 * n + (c.toNat - 48)) n

theorem decv_nil (n : Nat) : decv n [] = n := rfl
theorem decv_cons (n : Nat) (c : UInt8) (l : List UInt8) : decv n (c :: l) = decv (10 * n + (c.toNat - 48)) l := List.foldl_cons

theorem decv_ge (l : List UInt8) (n : Nat) : n ≤ decv n l := by
  induction l generalizing n with
  | nil => exact Nat.le_refl _
  | cons c l ih =>
    have := ih (10 * n + (c.toNat - 48))
    rw [decv_cons]
    generalize decv (10 * n + (c.toNat - 48)) l = y at *
    omega

theorem decv_append (l k : List UInt8) (n : Nat) : decv n (l ++ k) = decv (decv n l) k := by
  induction l generalizing n with
  | nil => rfl
  | cons c l ih => simp only [List.cons_append, decv_cons, ih]

theorem numGo_eq (l : List UInt8) (n : Nat) (hn : n ≤ 1125899906842624) (h : l.all isDig = true) : numGo n l = some (min (decv n l) 1125899906842624) := by
  induction l generalizing n with
  | nil => rw [decv_nil, Nat.min_eq_left hn]; rfl
  | cons c l ih =>
    simp only [List.all_cons, Bool.and_eq_true] at h
    rw [numGo, if_pos h.1, ih _ (Nat.min_le_right _ _) h.2, decv_cons]
    show some (min (decv (min (10 * n + (c.toNat - 48)) 1125899906842624) l) 1125899906842624) = _
    generalize 10 * n + (c.toNat - 48) = x
    by_cases hx : x ≤ 1125899906842624
    · rw [Nat.min_eq_left hx]
    · have h1 := decv_ge l x
      have h2 := decv_ge l 1125899906842624
      rw [Nat.min_eq_right (show 1125899906842624 ≤ x by omega), Nat.min_eq_right h2, Nat.min_eq_right (by omega)]

theorem numGo_none (l : List UInt8) (n : Nat) (h : l.all isDig = false) : numGo n l = none := by
  induction l generalizing n with
  | nil => simp at h
  | cons c l ih =>
    rw [numGo]
    cases hc : isDig c with
    | false => simp
    | true =>
      rw [List.all_cons, hc, Bool.true_and] at h
      simp only [if_true]
      exact ih _ h

theorem valGo_eq (limit : Nat) (h10 : 10 ≤ limit) (l : List UInt8) (m : Nat) (hm : m ≤ limit) (h : l.all isDig = true) : valGo limit m l = if decv m l ≤ limit then some (decv m l) else none := by
  induction l generalizing m with
  | nil => rw [valGo, decv_nil, if_pos hm]
  | cons c l ih =>
    simp only [List.all_cons, Bool.and_eq_true] at h
    have hd := (isDig_iff c).1 h.1
    rw [valGo, decv_cons]
    by_cases hb : (limit - (c.toNat - 48)) / 10 < m
    · rw [if_pos hb, if_neg]
      have := decv_ge l (10 * m + (c.toNat - 48))
      omega
    · rw [if_neg hb, ih _ (by omega) h.2]

/-- the reference's number reads just the plain words -/
theorem numR_plain (l : List UInt8) : numR l = if plainB l then some (min (decv 0 l) 1125899906842624) else none := by
  unfold numR plainB
  cases hall : l.all isDig with
  | false =>
    simp only [Bool.false_and]
    split
    · rfl
    · exact numGo_none _ _ hall
  | true =>
    cases l with
    | nil => simp
    | cons c t =>
      have := numGo_eq (c :: t) 0 (by omega) hall
      rw [this]
      cases t with
      | nil => simp
      | cons d t => simp

theorem parseN_plain (l : List UInt8) : parseN (mkB l) = if plainB l then (if decv 0 l ≤ 9223372036854775807 then (((decv 0 l : Nat) : Int), 0) else (0, 2)) else (0, 3) := by
  unfold parseN
  rw [mkB_data]
  cases hp : plainB l with
  | false => rfl
  | true =>
    rw [valGo_eq _ (by decide) _ _ (Nat.zero_le _) (plain_all hp)]
    by_cases h : decv 0 l ≤ 9223372036854775807
    · simp [h]
    · simp [h]

theorem digit_toN (m : Nat) : (digit m).toNat = 48 + m % 10 := by
  unfold digit
  rw [UInt8.toNat_ofNat']
  omega

theorem fmtGo_succ (k m : Nat) (l : List UInt8) : fmtGo (k + 1) m l = if 0 < m / 10 then fmtGo k (m / 10) (digit m :: l) else digit m :: l := by rw [fmtGo]

theorem fmtGo_decv (k m : Nat) (l : List UInt8) (h : m < 10 ^ (k + 1)) : decv 0 (fmtGo (k + 1) m l) = decv m l := by
  induction k generalizing m l with
  | zero =>
    have : ¬ (0 < m / 10) := by omega
    rw [fmtGo_succ, if_neg this, decv_cons, digit_toN]
    congr 1; omega
  | succ k ih =>
    rw [fmtGo_succ]
    split
    · rw [ih (m / 10) _ (by rw [Nat.pow_succ] at h; omega), decv_cons, digit_toN]
      congr 1; omega
    · rw [decv_cons, digit_toN]
      congr 1; omega

theorem digit_dig (m : Nat) : isDig (digit m) = true := by rw [isDig_iff, digit_toN]; omega

theorem fmtGo_dig : ∀ (k m : Nat) (l : List UInt8), l.all isDig = true → (fmtGo k m l).all isDig = true
  | 0, m, l, h => h
  | k + 1, m, l, h => by
    rw [fmtGo]
    split
    · exact fmtGo_dig k _ _ (by simp [digit_dig, h])
    · simp [digit_dig, h]

theorem digit_zero (m : Nat) (h : digit m = 48) : m % 10 = 0 := by
  have h1 := digit_toN m
  rw [h] at h1
  have : (48 : UInt8).toNat = 48 := rfl
  omega

theorem fmtGo_head : ∀ (k m : Nat) (l : List UInt8), 0 < m → m < 10 ^ (k + 1) → ∃ c t, fmtGo (k + 1) m l = c :: t ∧ c ≠ 48
  | 0, m, l, h0, h => by
    have : ¬ (0 < m / 10) := by omega
    refine ⟨digit m, l, by simp [fmtGo, this], fun e => ?_⟩
    have := digit_zero m e
    omega
  | k + 1, m, l, h0, h => by
    rw [fmtGo]
    split
    · exact fmtGo_head k (m / 10) _ (by omega) (by rw [Nat.pow_succ] at h; omega)
    · refine ⟨digit m, l, rfl, fun e => ?_⟩
      have := digit_zero m e
      omega

theorem fmtGo_plain (m : Nat) (h : m < 10 ^ 20) : plainB (fmtGo 20 m []) = true := by
  by_cases h0 : m = 0
  · subst h0; decide
  · obtain ⟨c, t, e, hc⟩ := fmtGo_head 19 m [] (by omega) h
    have ha := fmtGo_dig 20 m [] rfl
    unfold plainB
    rw [ha, e]
    simp [hc]

theorem dec_nat (m : Nat) : dec (m : Int) = fmtGo 20 m [] := by
  unfold dec
  rw [if_neg (by omega), Int.natAbs_natCast]
  rfl

/-- the decimal form of a plain word's number is the word -/
theorem fmtGo_of : ∀ (k : Nat) (b : List UInt8) (l : List UInt8), b.length ≤ k → b ≠ [] → b.all isDig = true → (b.head? ≠ some 48 ∨ b.length = 1) → fmtGo k (decv 0 b) l = b ++ l
  | 0, b, l, h, hb, _, _ => absurd (List.eq_nil_of_length_eq_zero (by omega)) hb
  | k + 1, b, l, h, hb, ha, hh => by
    obtain ⟨a, c, rfl⟩ : ∃ a c, b = a ++ [c] := ⟨b.dropLast, b.getLast hb, (List.dropLast_concat_getLast hb).symm⟩
    simp only [List.all_append, List.all_cons, List.all_nil, Bool.and_true, Bool.and_eq_true] at ha
    have hd := (isDig_iff c).1 ha.2
    have e1 : decv 0 (a ++ [c]) = 10 * decv 0 a + (c.toNat - 48) := by rw [decv_append, decv_cons, decv_nil]
    have e2 : digit (decv 0 (a ++ [c])) = c := by
      apply UInt8.toNat_inj.1
      rw [digit_toN, e1]; omega
    rw [fmtGo, e2, e1, show (10 * decv 0 a + (c.toNat - 48)) / 10 = decv 0 a by omega]
    cases a with
    | nil => simp [decv_nil]
    | cons x t =>
      have hx : x ≠ 48 := by
        rcases hh with hh | hh
        · simpa using hh
        · simp at hh
      have hxd := (isDig_iff x).1 (by simp at ha; exact ha.1.1)
      have hx2 : x.toNat ≠ 48 := fun e => hx (UInt8.toNat_inj.1 e)
      have hpos : 0 < decv 0 (x :: t) := by
        have := decv_ge t (10 * 0 + (x.toNat - 48))
        simp only [decv_cons, decv_nil]; omega
      rw [if_pos hpos, fmtGo_of k (x :: t) (c :: l) (by simp at h ⊢; omega) (by simp) ha.1 (.inl (by simpa using hx))]
      simp

theorem pow_len : ∀ (l : List UInt8) (m : Nat), m * 10 ^ l.length ≤ decv m l
  | [], m => by simp [decv_nil]
  | c :: l, m => by
    have := pow_len l (10 * m + (c.toNat - 48))
    simp only [decv_cons, List.length_cons]
    refine Nat.le_trans ?_ this
    rw [Nat.pow_succ]
    have : m * (10 ^ l.length * 10) = (10 * m) * 10 ^ l.length := by rw [Nat.mul_comm (10 ^ l.length) 10, ← Nat.mul_assoc, Nat.mul_comm m 10]
    rw [this]
    exact Nat.mul_le_mul_right _ (by omega)

theorem dec_of (l : List UInt8) (hp : plainB l = true) (hv : decv 0 l < 10 ^ 19) : dec (decv 0 l : Nat) = l := by
  have ha := plain_all hp
  have hne : l ≠ [] := by intro e; subst e; simp [plainB] at hp
  have hh : l.head? ≠ some 48 ∨ l.length = 1 := by
    unfold plainB at hp
    simp at hp
    exact hp.2
  rw [dec_nat, fmtGo_of 20 l [] ?_ hne ha hh, List.append_nil]
  cases l with
  | nil => exact absurd rfl hne
  | cons x t =>
    rcases hh with hh | hh
    · have hxd := (isDig_iff x).1 (by simp at ha; exact ha.1)
      have hx2 : x.toNat ≠ 48 := fun e => hh (by rw [List.head?_cons, show x = 48 from UInt8.toNat_inj.1 e])
      have h1 := pow_len t (10 * 0 + (x.toNat - 48))
      simp only [decv_cons] at hv
      have h2 : 10 ^ t.length ≤ (10 * 0 + (x.toNat - 48)) * 10 ^ t.length := Nat.le_mul_of_pos_left _ (by omega)
      have h3 : 10 ^ t.length < 10 ^ 19 := by omega
      have h4 := (Nat.pow_lt_pow_iff_right (by decide : 1 < 10)).1 h3
      simp only [List.length_cons]; omega
    · omega
end Go.Proofs

namespace Go.Proofs
open Go.RowKit

theorem word3 (l : List UInt8) : (numR l = none ∧ (parseN (mkB l)).2 = 3) ∨ (∃ m : Nat, numR l = some m ∧ parseN (mkB l) = ((m : Int), 0)) ∨
    (numR l = some 1125899906842624 ∧ ((parseN (mkB l)).2 = 2 ∨ ∃ v : Nat, 1125899906842624 ≤ v ∧ parseN (mkB l) = ((v : Int), 0))) := by
  rw [numR_plain, parseN_plain]
  cases hp : plainB l with
  | false => exact .inl ⟨rfl, rfl⟩
  | true =>
    simp only [if_true]
    generalize decv 0 l = v
    by_cases h1 : v ≤ 1125899906842624
    · refine .inr (.inl ⟨v, by rw [Nat.min_eq_left h1], by rw [if_pos (by omega)]⟩)
    · refine .inr (.inr ⟨by rw [Nat.min_eq_right (by omega)], ?_⟩)
      by_cases h2 : v ≤ 9223372036854775807
      · exact .inr ⟨v, by omega, by rw [if_pos h2]⟩
      · exact .inl (by rw [if_neg h2])

theorem mkB_tl (l : List UInt8) : (mkB l).toList = l := by rw [ByteArray.toList_eq]; simp [mkB]

theorem hit_map (x : List UInt8) (ls : List (List UInt8)) : flagHit (ls.map mkB) (mkB x) = hitF x ls := by
  cases ls with
  | nil => rfl
  | cons a t => simp only [List.map_cons, flagHit, hitF, mkB_tl]

theorem drop_map (x : List UInt8) (ls : List (List UInt8)) : flagDrop (ls.map mkB) (mkB x) = (dropF x ls).map mkB := by
  unfold flagDrop dropF
  rw [hit_map]
  cases hitF x ls with
  | false => rfl
  | true => simp

theorem isNeg_iff (l : List UInt8) : isNeg (mkB l) = true ↔ l.head? = some 45 := by
  unfold isNeg
  rw [mkB_data]
  cases l with
  | nil => simp [Lib.hasPrefix]
  | cons c t =>
    simp only [Lib.hasPrefix, List.isPrefixOf, Bool.and_true, beq_iff_eq, List.head?_cons, Option.some.injEq]
    exact ⟨Eq.symm, Eq.symm⟩

theorem neg_numR {l : List UInt8} (h : l.head? = some 45) : numR l = none := by
  rw [numR_plain]
  cases l with
  | nil => cases h
  | cons c t =>
    simp only [List.head?_cons, Option.some.injEq] at h
    subst h
    have : isDig 45 = false := by decide
    simp [plainB, this]

theorem drop_keep {x y : List UInt8} {ls : List (List UInt8)} (h : y ∈ ls) (hne : y ≠ x) : y ∈ dropF x ls := by
  unfold dropF
  cases hh : hitF x ls with
  | false => exact h
  | true =>
    cases ls with
    | nil => cases h
    | cons a t =>
      simp only [hitF, beq_iff_eq] at hh
      simp only [cond_true, List.tail_cons]
      rcases List.mem_cons.1 h with e | e
      · exact absurd (e.trans hh) hne
      · exact e

theorem seven {ls : List (List UInt8)} (h : ¬ ls.length < 7) : ∃ a0 a1 a2 d a4 a5 a6 r, ls = a0 :: a1 :: a2 :: d :: a4 :: a5 :: a6 :: r := by
  match ls, h with
  | a0 :: a1 :: a2 :: d :: a4 :: a5 :: a6 :: r, _ => exact ⟨a0, a1, a2, d, a4, a5, a6, r, rfl⟩
  | [], h | [_], h | [_, _], h | [_, _, _], h | [_, _, _, _], h | [_, _, _, _, _], h | [_, _, _, _, _, _], h => simp at h

theorem short_bad (ls : List (List UInt8)) (h : ls.length < 7) : progBad (ls.map mkB) = true := by
  match ls, h with
  | _ :: _ :: _ :: _ :: _ :: _ :: _ :: r, h => simp at h; omega
  | [], _ | [_], _ | [_, _], _ | [_, _, _], _ | [_, _, _, _], _ | [_, _, _, _, _], _ | [_, _, _, _, _, _], _ => simp [progBad, numBad, dirBad]

theorem ref_neg (ls : List (List UInt8)) (h : (ls.map mkB).any isNeg = true) : parseRef ls = (zeroQy, 3) := by
  by_cases h7 : ls.length < 7
  · unfold parseRef; rw [if_pos h7]
  · obtain ⟨a0, a1, a2, d, a4, a5, a6, r, rfl⟩ := seven h7
    simp only [List.any_eq_true, List.mem_map] at h
    obtain ⟨_, ⟨x, hx, rfl⟩, hn⟩ := h
    rw [isNeg_iff] at hn
    by_cases hd : d = fwdL ∨ d = bwdL
    · have hR := neg_numR hn
      simp only [List.mem_cons] at hx
      rcases hx with rfl | rfl | rfl | rfl | rfl | rfl | rfl | hx
      · exact ref_none _ 0 (by simp) rfl hd (by decide) hR
      · exact ref_none _ 1 (by simp) rfl hd (by decide) hR
      · exact ref_none _ 2 (by simp) rfl hd (by decide) hR
      · rcases hd with rfl | rfl <;> cases hn
      · exact ref_none _ 4 (by simp) rfl hd (by decide) hR
      · exact ref_none _ 5 (by simp) rfl hd (by decide) hR
      · exact ref_none _ 6 (by simp) rfl hd (by decide) hR
      · have hk : x ∈ dropF chL (dropF biL (dropF sfL r)) :=
          drop_keep (drop_keep (drop_keep hx (by rintro rfl; cases hn)) (by rintro rfl; cases hn)) (by rintro rfl; cases hn)
        have hne : dropF chL (dropF biL (dropF sfL r)) ≠ [] := List.ne_nil_of_mem hk
        unfold parseRef
        rw [if_neg h7]
        split
        · split
          · unfold parseRest fin4
            rw [show List.drop 7 (a0 :: a1 :: a2 :: d :: a4 :: a5 :: a6 :: r) = r from rfl, if_neg hne]
          · rfl
        · rfl
    · unfold parseRef
      rw [if_neg h7, if_neg (show ¬ ((a0 :: a1 :: a2 :: d :: a4 :: a5 :: a6 :: r).getD 3 [] = fwdL ∨ (a0 :: a1 :: a2 :: d :: a4 :: a5 :: a6 :: r).getD 3 [] = bwdL) from hd)]

theorem big_invalid {f t m r k o : Int} {b s i c : Bool} (h : 1125899906842624 ≤ f ∨ 1125899906842624 ≤ t ∨ 1125899906842624 ≤ m ∨ 1125899906842624 ≤ r ∨ 1125899906842624 ≤ k ∨ 1125899906842624 ≤ o) :
    (⟨f, t, m, b, r, k, s, i, o, c⟩ : Qy).valid = false := by
  cases hv : (⟨f, t, m, b, r, k, s, i, o, c⟩ : Qy).valid with
  | false => rfl
  | true =>
    simp only [Qy.valid, inB, Bool.and_eq_true, decide_eq_true_eq] at hv
    omega

/-- the words that are not bad: the number read, small or great -/
theorem word2 {l : List UInt8} (h : ¬ (parseN (mkB l)).2 = 3) : ∃ m : Nat, numR l = some m ∧ (parseN (mkB l) = ((m : Int), 0) ∨ (m = 1125899906842624 ∧ ((parseN (mkB l)).2 = 2 ∨ 1125899906842624 ≤ (parseN (mkB l)).1))) := by
  rcases word3 l with ⟨_, h2⟩ | ⟨m, h1, h2⟩ | ⟨h1, h2⟩
  · exact absurd h2 h
  · exact ⟨m, h1, .inl h2⟩
  · refine ⟨_, h1, .inr ⟨rfl, ?_⟩⟩
    rcases h2 with h2 | ⟨v, hv, h2⟩
    · exact .inl h2
    · exact .inr (by rw [h2]; show (1125899906842624 : Int) ≤ (v : Int); omega)

theorem parse_same (ls : List (List UInt8)) : parseProg (ls.map mkB) = parseRef ls := by
  unfold parseProg
  cases hneg : (ls.map mkB).any isNeg with
  | true => rw [if_pos rfl, ref_neg ls hneg]
  | false =>
    rw [if_neg (by decide)]
    by_cases h7 : ls.length < 7
    · rw [short_bad ls h7, Bool.true_or, if_pos rfl]; unfold parseRef; rw [if_pos h7]
    · obtain ⟨a0, a1, a2, d, a4, a5, a6, r, rfl⟩ := seven h7
      have eR : progRest ((a0 :: a1 :: a2 :: d :: a4 :: a5 :: a6 :: r).map mkB) = (dropF chL (dropF biL (dropF sfL r))).map mkB := by
        unfold progRest
        rw [show sfB = mkB sfL from rfl, show biB = mkB biL from rfl, show chB = mkB chL from rfl]
        simp only [List.map_cons, List.tail_cons]
        rw [drop_map, drop_map, drop_map]
      have eB : progBad ((a0 :: a1 :: a2 :: d :: a4 :: a5 :: a6 :: r).map mkB) = ((parseN (mkB a0)).2 == 3 || (parseN (mkB a1)).2 == 3 || (parseN (mkB a2)).2 == 3 || (!(d == fwdL) && !(d == bwdL)) || (parseN (mkB a4)).2 == 3 || (parseN (mkB a5)).2 == 3 || (parseN (mkB a6)).2 == 3) := by
        simp only [progBad, numBad, dirBad, List.map_cons, List.tail_cons, hd, mkB_tl, List.isEmpty_cons, Bool.or_false, Bool.false_or]
      have eG : progGreat ((a0 :: a1 :: a2 :: d :: a4 :: a5 :: a6 :: r).map mkB) = ((parseN (mkB a0)).2 == 2 || (parseN (mkB a1)).2 == 2 || (parseN (mkB a2)).2 == 2 || (parseN (mkB a4)).2 == 2 || (parseN (mkB a5)).2 == 2 || (parseN (mkB a6)).2 == 2) := by
        simp only [progGreat, numGreat, List.map_cons, List.tail_cons, hd, Bool.false_or]
      have eQ : progQ ((a0 :: a1 :: a2 :: d :: a4 :: a5 :: a6 :: r).map mkB) = ⟨(parseN (mkB a0)).1, (parseN (mkB a1)).1, (parseN (mkB a2)).1, d == bwdL, (parseN (mkB a4)).1, (parseN (mkB a5)).1, hitF sfL r, hitF biL (dropF sfL r), (parseN (mkB a6)).1, hitF chL (dropF biL (dropF sfL r))⟩ := by
        unfold progQ
        rw [show sfB = mkB sfL from rfl, show biB = mkB biL from rfl, show chB = mkB chL from rfl]
        simp only [List.map_cons, List.tail_cons, hd, mkB_tl]
        rw [drop_map, drop_map, hit_map, hit_map, hit_map]
      rw [eR, eB, eG, eQ]
      by_cases hd : d = fwdL ∨ d = bwdL
      · by_cases hb : (parseN (mkB a0)).2 = 3 ∨ (parseN (mkB a1)).2 = 3 ∨ (parseN (mkB a2)).2 = 3 ∨ (parseN (mkB a4)).2 = 3 ∨ (parseN (mkB a5)).2 = 3 ∨ (parseN (mkB a6)).2 = 3
        · rw [if_pos (by rcases hb with h | h | h | h | h | h <;> simp [h])]
          have none_of : ∀ l, (parseN (mkB l)).2 = 3 → numR l = none := fun l h => by
            rcases word3 l with ⟨h1, _⟩ | ⟨m, _, h2⟩ | ⟨_, h2⟩
            · exact h1
            · rw [h2] at h; cases h
            · rcases h2 with h2 | ⟨v, _, h2⟩
              · rw [h2] at h; cases h
              · rw [h2] at h; cases h
          symm
          rcases hb with h | h | h | h | h | h
          · exact ref_none _ 0 (by simp) rfl hd (by decide) (none_of _ h)
          · exact ref_none _ 1 (by simp) rfl hd (by decide) (none_of _ h)
          · exact ref_none _ 2 (by simp) rfl hd (by decide) (none_of _ h)
          · exact ref_none _ 4 (by simp) rfl hd (by decide) (none_of _ h)
          · exact ref_none _ 5 (by simp) rfl hd (by decide) (none_of _ h)
          · exact ref_none _ 6 (by simp) rfl hd (by decide) (none_of _ h)
        · simp only [not_or] at hb
          obtain ⟨b0, b1, b2, b4, b5, b6⟩ := hb
          obtain ⟨m0, n0, p0⟩ := word2 b0
          obtain ⟨m1, n1, p1⟩ := word2 b1
          obtain ⟨m2, n2, p2⟩ := word2 b2
          obtain ⟨m4, n4, p4⟩ := word2 b4
          obtain ⟨m5, n5, p5⟩ := word2 b5
          obtain ⟨m6, n6, p6⟩ := word2 b6
          have eD : (!(d == fwdL) && !(d == bwdL)) = false := by rcases hd with rfl | rfl <;> decide
          have eRef : parseRef (a0 :: a1 :: a2 :: d :: a4 :: a5 :: a6 :: r) = parseRest m0 m1 m2 m4 m5 m6 (d == bwdL) r := by
            unfold parseRef
            rw [if_neg h7]
            rw [if_pos (show (a0 :: a1 :: a2 :: d :: a4 :: a5 :: a6 :: r).getD 3 [] = fwdL ∨ (a0 :: a1 :: a2 :: d :: a4 :: a5 :: a6 :: r).getD 3 [] = bwdL from hd)]
            rw [show nums (a0 :: a1 :: a2 :: d :: a4 :: a5 :: a6 :: r) = [numR a0, numR a1, numR a2, numR a4, numR a5, numR a6] from rfl, n0, n1, n2, n4, n5, n6]
            rfl
          rw [eRef, eD]
          have hc : ∀ l, ¬ (parseN (mkB l)).2 = 3 → ((parseN (mkB l)).2 == 3) = false := fun l h => by simpa using h
          rw [hc _ b0, hc _ b1, hc _ b2, hc _ b4, hc _ b5, hc _ b6]
          simp only [Bool.false_or]
          unfold parseRest fin4
          generalize dropF chL (dropF biL (dropF sfL r)) = rest
          cases rest with
          | cons x t => simp
          | nil =>
            simp only [List.map_nil, List.isEmpty_nil, Bool.not_true, Bool.false_eq_true, if_false, if_true]
            by_cases hg : m0 = 1125899906842624 ∨ m1 = 1125899906842624 ∨ m2 = 1125899906842624 ∨ m4 = 1125899906842624 ∨ m5 = 1125899906842624 ∨ m6 = 1125899906842624
            · have hv : (⟨m0, m1, m2, d == bwdL, m4, m5, hitF sfL r, hitF biL (dropF sfL r), m6, hitF chL (dropF biL (dropF sfL r))⟩ : Qy).valid = false := big_invalid (by omega)
              rw [hv]
              simp only [Bool.false_eq_true, if_false]
              rw [if_pos]
              by_cases hx : (parseN (mkB a0)).2 = 2 ∨ (parseN (mkB a1)).2 = 2 ∨ (parseN (mkB a2)).2 = 2 ∨ (parseN (mkB a4)).2 = 2 ∨ (parseN (mkB a5)).2 = 2 ∨ (parseN (mkB a6)).2 = 2
              · rcases hx with h | h | h | h | h | h <;> simp [h]
              · simp only [not_or] at hx
                obtain ⟨x0, x1, x2, x4, x5, x6⟩ := hx
                have big : ∀ {l : List UInt8} {m : Nat}, ¬ (parseN (mkB l)).2 = 2 → (parseN (mkB l) = ((m : Int), 0) ∨ (m = 1125899906842624 ∧ ((parseN (mkB l)).2 = 2 ∨ 1125899906842624 ≤ (parseN (mkB l)).1))) → m = 1125899906842624 → 1125899906842624 ≤ (parseN (mkB l)).1 := fun h1 h2 h3 => by
                  rcases h2 with h2 | ⟨_, h2 | h2⟩
                  · rw [h2, h3]; decide
                  · exact absurd h2 h1
                  · exact h2
                rw [big_invalid (by
                  rcases hg with h | h | h | h | h | h
                  · exact .inl (big x0 p0 h)
                  · exact .inr (.inl (big x1 p1 h))
                  · exact .inr (.inr (.inl (big x2 p2 h)))
                  · exact .inr (.inr (.inr (.inl (big x4 p4 h))))
                  · exact .inr (.inr (.inr (.inr (.inl (big x5 p5 h)))))
                  · exact .inr (.inr (.inr (.inr (.inr (big x6 p6 h))))))]
                simp
            · simp only [not_or] at hg
              obtain ⟨g0, g1, g2, g4, g5, g6⟩ := hg
              have sm : ∀ {l : List UInt8} {m : Nat}, ¬ m = 1125899906842624 → (parseN (mkB l) = ((m : Int), 0) ∨ (m = 1125899906842624 ∧ ((parseN (mkB l)).2 = 2 ∨ 1125899906842624 ≤ (parseN (mkB l)).1))) → parseN (mkB l) = ((m : Int), 0) := fun h1 h2 => by
                rcases h2 with h2 | ⟨h2, _⟩
                · exact h2
                · exact absurd h2 h1
              rw [sm g0 p0, sm g1 p1, sm g2 p2, sm g4 p4, sm g5 p5, sm g6 p6]
              simp only [show ((0 : Int) == 2) = false from rfl, Bool.false_or]
              cases (⟨m0, m1, m2, d == bwdL, m4, m5, hitF sfL r, hitF biL (dropF sfL r), m6, hitF chL (dropF biL (dropF sfL r))⟩ : Qy).valid <;> rfl
      · rw [if_pos]
        · unfold parseRef; rw [if_neg h7, if_neg (show ¬ ((a0 :: a1 :: a2 :: d :: a4 :: a5 :: a6 :: r).getD 3 [] = fwdL ∨ (a0 :: a1 :: a2 :: d :: a4 :: a5 :: a6 :: r).getD 3 [] = bwdL) from hd)]
        · simp only [not_or] at hd
          simp [hd.1, hd.2]
end Go.Proofs

namespace Go.Proofs
open Go.RowKit

theorem splitW_app (a l : List UInt8) (h : (32 : UInt8) ∉ a) : splitW (a ++ 32 :: l) = a :: splitW l := by
  induction a with
  | nil => simp [splitW]
  | cons c t ih =>
    simp only [List.mem_cons, not_or] at h
    rw [List.cons_append, splitW, if_neg (Ne.symm h.1), ih h.2]

theorem splitW_one (a : List UInt8) (h : (32 : UInt8) ∉ a) : splitW a = [a] := by
  induction a with
  | nil => simp [splitW]
  | cons c t ih =>
    simp only [List.mem_cons, not_or] at h
    rw [splitW, if_neg (Ne.symm h.1), ih h.2]

theorem join_cons2 (x y : List UInt8) (xs : List (List UInt8)) : Lib.join (x :: y :: xs) [32] = x ++ 32 :: Lib.join (y :: xs) [32] := by
  simp [Lib.join, List.intercalate]

theorem join_one (x : List UInt8) : Lib.join [x] [32] = x := by simp [Lib.join, List.intercalate]

theorem splitW_join (ws : List (List UInt8)) (hne : ws ≠ []) (h : ∀ x ∈ ws, (32 : UInt8) ∉ x) : splitW (Lib.join ws [32]) = ws := by
  induction ws with
  | nil => exact absurd rfl hne
  | cons x t ih =>
    cases t with
    | nil => rw [join_one]; exact splitW_one x (h x (by simp))
    | cons y t => rw [join_cons2, splitW_app _ _ (h x (by simp)), ih (by simp) fun z hz => h z (by simp at hz ⊢; exact .inr hz)]

theorem splitW_ne' (l : List UInt8) : splitW l ≠ [] := by
  cases l with
  | nil => simp [splitW]
  | cons c l => unfold splitW; split <;> (try split) <;> simp

theorem join_splitW (l : List UInt8) : Lib.join (splitW l) [32] = l := by
  induction l with
  | nil => simp [splitW, join_one]
  | cons c l ih =>
    rw [splitW]
    split
    · rename_i hc
      cases hs : splitW l with
      | nil => exact absurd hs (splitW_ne' l)
      | cons a t => rw [join_cons2, ← hs, ih, hc]; rfl
    · cases hs : splitW l with
      | nil => exact absurd hs (splitW_ne' l)
      | cons a t =>
        rw [hs] at ih
        cases t with
        | nil => rw [join_one] at ih ⊢; rw [ih]
        | cons b t => rw [join_cons2] at ih ⊢; rw [List.cons_append, ih]

theorem dec_plain (m : Nat) (h : m < 10 ^ 20) : plainB (dec (m : Int)) = true := by rw [dec_nat]; exact fmtGo_plain m h

theorem dec_decv (m : Nat) (h : m < 10 ^ 20) : decv 0 (dec (m : Int)) = m := by
  rw [dec_nat, fmtGo_decv 19 m [] h, decv_nil]

theorem plain_blank {l : List UInt8} (h : plainB l = true) : (32 : UInt8) ∉ l := by
  intro hm
  have := plain_all h
  rw [List.all_eq_true] at this
  have := this 32 hm
  exact absurd this (by decide)

theorem numR_dec (m : Nat) (h : m < 1125899906842624) : numR (dec (m : Int)) = some m := by
  have h20 : m < 10 ^ 20 := by omega
  rw [numR_plain, dec_plain m h20, if_pos rfl, dec_decv m h20, Nat.min_eq_left (by omega)]

theorem numR_inv {l : List UInt8} {m : Nat} (h : numR l = some m) (hm : m < 1125899906842624) : dec (m : Int) = l := by
  rw [numR_plain] at h
  cases hp : plainB l with
  | false => rw [hp] at h; cases h
  | true =>
    rw [hp, if_pos rfl, Option.some.injEq] at h
    have hv : decv 0 l = m := by omega
    rw [← hv]
    exact dec_of l hp (by omega)

def Qy.wordsL (q : Qy) : List (List UInt8) := [dec q.from_, dec q.to_, dec q.time, (if q.back then bwdL else fwdL), dec q.rides, dec q.walk, dec q.modes] ++ ((if q.sf then [sfL] else []) ++ (if q.bi then [biL] else []) ++ (if q.ch then [chL] else []))

theorem words_L (q : Qy) : q.words.map (·.data.toList) = q.wordsL := by
  obtain ⟨f, t, m, b, r, k, sf, bi, o, ch⟩ := q
  cases b <;> cases sf <;> cases bi <;> cases ch <;> simp [Qy.words, Qy.wordsL, Qy.flags, decB, dirB, fwd, bwd, fwdL, bwdL, sfL, biL, chL]

theorem valid_nat {q : Qy} (h : q.valid = true) : ∃ (f t m r k o : Nat), q.from_ = f ∧ q.to_ = t ∧ q.time = m ∧ q.rides = r ∧ q.walk = k ∧ q.modes = o ∧ f < 1125899906842624 ∧ t < 1125899906842624 ∧ m < 1125899906842624 ∧ r < 1125899906842624 ∧ k < 1125899906842624 ∧ o < 1125899906842624 := by
  simp only [Qy.valid, inB, Bool.and_eq_true, decide_eq_true_eq] at h
  refine ⟨q.from_.toNat, q.to_.toNat, q.time.toNat, q.rides.toNat, q.walk.toNat, q.modes.toNat, ?_, ?_, ?_, ?_, ?_, ?_, ?_, ?_, ?_, ?_, ?_, ?_⟩ <;> omega

theorem ref_words (q : Qy) (h : q.valid = true) : parseRef q.wordsL = (q, 0) := by
  obtain ⟨f, t, m, r, k, o, e0, e1, e2, e3, e4, e5, l0, l1, l2, l3, l4, l5⟩ := valid_nat h
  obtain ⟨qf, qt, qm, b, qr, qk, sf, bi, qo, ch⟩ := q
  simp only at e0 e1 e2 e3 e4 e5
  subst e0 e1 e2 e3 e4 e5
  unfold parseRef
  rw [if_neg (by simp [Qy.wordsL])]
  rw [show (Qy.wordsL ⟨f, t, m, b, r, k, sf, bi, o, ch⟩).getD 3 [] = if b then bwdL else fwdL from rfl, if_pos (by cases b <;> simp)]
  rw [show nums (Qy.wordsL ⟨f, t, m, b, r, k, sf, bi, o, ch⟩) = [numR (dec f), numR (dec t), numR (dec m), numR (dec r), numR (dec k), numR (dec o)] from rfl, numR_dec _ l0, numR_dec _ l1, numR_dec _ l2, numR_dec _ l3, numR_dec _ l4, numR_dec _ l5]
  have hb : ((if b = true then bwdL else fwdL) == bwdL) = b := by cases b <;> decide
  simp only [hb]
  rw [show (Qy.wordsL ⟨f, t, m, b, r, k, sf, bi, o, ch⟩).drop 7 = ((if sf then [sfL] else []) ++ (if bi then [biL] else []) ++ (if ch then [chL] else [])) from rfl]
  have h1 : hitF sfL ((if sf then [sfL] else []) ++ (if bi then [biL] else []) ++ (if ch then [chL] else [])) = sf ∧ dropF sfL ((if sf then [sfL] else []) ++ (if bi then [biL] else []) ++ (if ch then [chL] else [])) = ((if bi then [biL] else []) ++ (if ch then [chL] else [])) := by
    cases sf <;> cases bi <;> cases ch <;> decide
  have h2 : hitF biL ((if bi then [biL] else []) ++ (if ch then [chL] else [])) = bi ∧ dropF biL ((if bi then [biL] else []) ++ (if ch then [chL] else [])) = (if ch then [chL] else []) := by
    cases bi <;> cases ch <;> decide
  have h3 : hitF chL (if ch then [chL] else []) = ch ∧ dropF chL (if ch then [chL] else []) = [] := by
    cases ch <;> decide
  unfold parseRest fin4
  rw [h1.1, h1.2, h2.1, h2.2, h3.1, h3.2, if_pos rfl, if_pos h]

theorem drop_hit (x : List UInt8) (l : List (List UInt8)) : l = (if hitF x l then [x] else []) ++ dropF x l := by
  unfold dropF
  cases hh : hitF x l with
  | false => simp
  | true =>
    cases l with
    | nil => cases hh
    | cons a t =>
      simp only [hitF, beq_iff_eq] at hh
      subst hh
      simp

theorem ref_inv {ls : List (List UInt8)} {q : Qy} (h : parseRef ls = (q, 0)) : q.valid = true ∧ q.wordsL = ls := by
  unfold parseRef at h
  split at h
  · simp at h
  · rename_i h7
    obtain ⟨a0, a1, a2, d, a4, a5, a6, r, rfl⟩ := seven h7
    split at h
    · rename_i hd
      rw [show nums (a0 :: a1 :: a2 :: d :: a4 :: a5 :: a6 :: r) = [numR a0, numR a1, numR a2, numR a4, numR a5, numR a6] from rfl] at h
      change d = fwdL ∨ d = bwdL at hd
      split at h
      · rename_i f t m r' k o he
        simp only [List.cons.injEq, and_true] at he
        obtain ⟨n0, n1, n2, n3, n4, n5⟩ := he
        rw [show (a0 :: a1 :: a2 :: d :: a4 :: a5 :: a6 :: r).drop 7 = r from rfl, show (a0 :: a1 :: a2 :: d :: a4 :: a5 :: a6 :: r).getD 3 [] = d from rfl] at h
        unfold parseRest fin4 at h
        split at h
        · rename_i hr
          split at h
          · rename_i hv
            have hq := (Prod.mk.injEq _ _ _ _ ▸ h).1
            subst hq
            refine ⟨hv, ?_⟩
            have hb := hv
            simp only [Qy.valid, inB, Bool.and_eq_true, decide_eq_true_eq] at hb
            have hd' : (if (d == bwdL) = true then bwdL else fwdL) = d := by rcases hd with rfl | rfl <;> decide
            have hf : ((if hitF sfL r then [sfL] else []) ++ (if hitF biL (dropF sfL r) then [biL] else []) ++ (if hitF chL (dropF biL (dropF sfL r)) then [chL] else [])) = r := by
              have e1 := drop_hit sfL r
              have e2 := drop_hit biL (dropF sfL r)
              have e3 := drop_hit chL (dropF biL (dropF sfL r))
              rw [hr, List.append_nil] at e3
              conv => rhs; rw [e1, e2]
              rw [← e3, List.append_assoc]
            unfold Qy.wordsL
            simp only
            rw [hf, hd', numR_inv n0 (by omega), numR_inv n1 (by omega), numR_inv n2 (by omega), numR_inv n3 (by omega), numR_inv n4 (by omega), numR_inv n5 (by omega)]
            rfl
          · simp at h
        · simp at h
      · simp at h
    · simp at h

/-- ParseQuery inverts FormatQuery -/
theorem round_a (q : Qy) (h : q.valid = true) : parseProg ((splitW q.line.data.toList).map mkB) = (q, 0) := by
  rw [parse_same, ← join_line, words_L]
  show parseRef (splitW (Lib.join q.wordsL [32]).toArray.toList) = _
  rw [List.toList_toArray, splitW_join _ (by simp [Qy.wordsL]), ref_words q h]
  intro x hx
  obtain ⟨f, t, m, r, k, o, e0, e1, e2, e3, e4, e5, l0, l1, l2, l3, l4, l5⟩ := valid_nat h
  unfold Qy.wordsL at hx
  rw [e0, e1, e2, e3, e4, e5] at hx
  simp only [List.cons_append, List.nil_append, List.mem_cons, List.mem_append] at hx
  rcases hx with rfl | rfl | rfl | rfl | rfl | rfl | rfl | ((hx | hx) | hx)
  · exact plain_blank (dec_plain _ (by omega))
  · exact plain_blank (dec_plain _ (by omega))
  · exact plain_blank (dec_plain _ (by omega))
  · split <;> decide
  · exact plain_blank (dec_plain _ (by omega))
  · exact plain_blank (dec_plain _ (by omega))
  · exact plain_blank (dec_plain _ (by omega))
  · split at hx
    · rw [List.mem_singleton] at hx; subst hx; decide
    · cases hx
  · split at hx
    · rw [List.mem_singleton] at hx; subst hx; decide
    · cases hx
  · split at hx
    · rw [List.mem_singleton] at hx; subst hx; decide
    · cases hx

/-- the line of a parsed query is the string -/
theorem round_b {s : ByteArray} {q : Qy} (h : parseProg ((splitW s.data.toList).map mkB) = (q, 0)) : q.valid = true ∧ q.line = s := by
  rw [parse_same] at h
  obtain ⟨h1, h2⟩ := ref_inv h
  refine ⟨h1, ?_⟩
  rw [← join_line, words_L, h2, join_splitW]
end Go.Proofs
