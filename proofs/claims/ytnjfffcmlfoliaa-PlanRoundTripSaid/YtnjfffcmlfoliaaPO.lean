/-
  A part of the proof: lemmas of my own.
-/
import Derived.Test.YtnjfffcmlfoliaaPF
import Derived.Test.YtnjfffcmlfoliaaPG
set_option linter.unusedVariables false
set_option linter.unusedSimpArgs false
namespace Go.Proofs
open Go.RowKit
set_option maxRecDepth 1000000

/-- the words between blanks -/
def splitW : List UInt8 → List (List UInt8)
  | [] => [[]]
  | c :: l => if c = 32 then [] :: splitW l else match splitW l with | [] => [[c]] | h :: t => (c :: h) :: t

def preW (a : List UInt8) : List (List UInt8) → List (List UInt8)
  | [] => [a]
  | h :: t => (a ++ h) :: t

theorem splitW_ne (l : List UInt8) : splitW l ≠ [] := by
  cases l with
  | nil => simp [splitW]
  | cons c l => unfold splitW; split <;> (try split) <;> simp

theorem preW_nil (l : List UInt8) : preW [] (splitW l) = splitW l := by
  cases h : splitW l with
  | nil => exact absurd h (splitW_ne l)
  | cons a t => simp [preW]

theorem preW_blank (a l : List UInt8) : preW a (splitW (32 :: l)) = a :: splitW l := by simp [splitW, preW]
theorem preW_other (a l : List UInt8) (c : UInt8) (h : c ≠ 32) : preW a (splitW (c :: l)) = preW (a ++ [c]) (splitW l) := by
  rw [splitW, if_neg h]
  generalize hs : splitW l = q
  cases q with
  | nil => exact absurd hs (splitW_ne l)
  | cons b t => simp [preW]

def mkB (l : List UInt8) : ByteArray := ⟨l.toArray⟩

theorem drop_cons (s : ByteArray) (k : Nat) (h : k < s.size) : s.data.toList.drop k = s[k] :: s.data.toList.drop (k + 1) := by
  rw [List.drop_eq_getElem_cons (by simpa using h)]; rfl

/-- s[f:k] as a list -/
def sub (s : ByteArray) (f k : Nat) : List UInt8 := (s.data.toList.drop f).take (k - f)

theorem extract_sub (s : ByteArray) (f k : Nat) (hk : k ≤ s.size) : s.extract f k = mkB (sub s f k) := by
  apply ByteArray.ext
  apply Array.toList_inj.1
  simp [mkB, sub, ByteArray.data_extract]

theorem sub_self (s : ByteArray) (f : Nat) : sub s f f = [] := by simp [sub]
theorem sub_succ (s : ByteArray) (f k : Nat) (hf : f ≤ k) (hk : k < s.size) : sub s f (k + 1) = sub s f k ++ [s[k]] := by
  unfold sub
  rw [show k + 1 - f = (k - f) + 1 by omega, List.take_succ_eq_append_getElem (by simp; omega)]
  congr 2
  simp
  congr 1
  omega

def WordsAt (w0 : World) (ls : List (List UInt8)) (e : Ending) (w' : World) : Prop :=
  ∃ v, e = .returned v ∧ w'.ownsRow w0.heap.size 9 1 v ls.length ((ls.map mkB).map Value.string) ∧ Below w0.heap.size w0 w'

theorem own0 (w : World) (B : Nat) (hB : B ≤ w.heap.size) : (w.alloc (.cells #[] 9)).ownsRow B 9 1 (.slice (some ⟨w.heap.size, 0, none⟩) 0 0) 0 [] :=
  ⟨rfl, .inr ⟨w.heap.size, 0, _, rfl, hB, heap_alloc_new w _, Nat.le_refl _, by unfold maxLen; omega, rfl, rfl⟩⟩

theorem own_snoc {w : World} {B : Nat} {v : Value} {ls : List (List UInt8)} {x : List UInt8} (h : w.ownsRow B 9 1 v (ls.length + 1) ((ls.map mkB).map Value.string ++ [.string (mkB x)])) :
    w.ownsRow B 9 1 v (ls ++ [x]).length (((ls ++ [x]).map mkB).map Value.string) := by
  simpa using h

theorem words20 (s : ByteArray) (w : World) (hs : s.size ≤ 70000) : Calls Try.prog 20 #[.string s] w (WordsAt w (splitW s.data.toList)) := by
  obtain ⟨i0, hi, hz0, hz1, hz2⟩ := info_parts Try.info9
  go_enter Try.func20, Try.ntmps20
  go_wp2
  go_loopw [3, 4, 5] (fun v a b wr => ∃ (f k : Nat) (ls : List (List UInt8)), f ≤ k ∧ k ≤ s.size ∧ ls.length ≤ k ∧ a = .int .i64 f ∧ b = .int .i64 k ∧ wr.ownsRow w.heap.size 9 1 v ls.length ((ls.map mkB).map Value.string) ∧
    splitW s.data.toList = ls ++ preW (sub s f k) (splitW (s.data.toList.drop k)) ∧ Below w.heap.size w wr) (fun _ _ b _ => s.size - (intOf b).toNat)
  case atStart =>
    refine ⟨0, 0, [], Nat.le_refl _, Nat.zero_le _, Nat.le_refl _, rfl, rfl, own0 w _ (Nat.le_refl _), ?_, (Below.refl _ _).alloc (Nat.le_refl _) _⟩
    simp [sub, preW_nil]
  case round =>
    obtain ⟨f, k, ls, hf, hk, hl, rfl, rfl, hown, hsp, hb⟩ := hrel
    have HS := Lib.hid hsp
    have hol := hown.lt
    have hm1 : ls.length + 1 ≤ maxLen := by unfold maxLen; omega
    have hm2 : (ls.length + 1) * 16 ≤ 140737488355328 := by omega
    have hbs := hb.size
    have hf0 : (0 : Int) ≤ (f : Int) := Int.natCast_nonneg _
    have hf1 : (f : Int) ≤ (k : Int) := by omega
    clear hsp
    by_cases hlt : k < s.size
    · have hk1 : (k : Int) ≤ (s.size : Int) := by omega
      by_cases hc : (s[k]'hlt).toNat = 32
      · have e1 : (((s[k]'hlt).toNat : Int) == 32) = true := by simp; omega
        go_wp2_with (at_builtin; refine wpList_append_own _ rfl _ _ 33 rfl w.heap.size 9 i0 (.string ⟨#[]⟩) 1 16 Try.underlying33 hi hz0 hz1 hz2 rfl (by decide) _ _ _ rfl (hown.alloc _) _ 1 1 [.string _] rfl rfl (World.news_of_block (cs := #[.string _]) (heap_alloc_new _ _)) (one_str _) hm1 hm2 (by simp; omega) ?_; intro v2 w2 hown' hgrow _; clear hown)
        rw [extract_sub s f k hk] at hown'
        refine ⟨⟨k + 1, k + 1, ls ++ [sub s f k], Nat.le_refl _, by omega, by simp; omega, by simp, by simp, own_snoc hown', ?_, (hb.alloc hbs _).grown hgrow (by simp; omega) (fun j e => (hol j e).1)⟩, by simp [intOf]; omega⟩
        rw [HS.out, drop_cons s k hlt, UInt8.toNat_inj.1 (show (s[k]'hlt).toNat = (32 : UInt8).toNat from hc), preW_blank, sub_self, preW_nil]
        simp
      · have e1 : (((s[k]'hlt).toNat : Int) == 32) = false := by simp; omega
        go_wp2
        refine ⟨⟨f, k + 1, ls, by omega, by omega, by omega, by simp, by simp, hown, ?_, hb⟩, by simp [intOf]; omega⟩
        rw [HS.out, drop_cons s k hlt, preW_other _ _ _ (fun h => hc (by rw [h]; rfl)), sub_succ s f k hf hlt]
    · obtain rfl : k = s.size := by omega
      go_wp2_with (at_builtin; refine wpList_append_own _ rfl _ _ 33 rfl w.heap.size 9 i0 (.string ⟨#[]⟩) 1 16 Try.underlying33 hi hz0 hz1 hz2 rfl (by decide) _ _ _ rfl (hown.alloc _) _ 1 1 [.string _] rfl rfl (World.news_of_block (cs := #[.string _]) (heap_alloc_new _ _)) (one_str _) hm1 hm2 (by simp; omega) ?_; intro v2 w2 hown' hgrow _; clear hown)
      go_ret
      rw [extract_sub s f _ (Nat.le_refl _)] at hown'
      refine ⟨_, rfl, ?_, (hb.alloc hbs _).grown hgrow (by simp; omega) (fun j e => (hol j e).1)⟩
      have hfin : splitW s.data.toList = ls ++ [sub s f s.size] := by
        rw [HS.out, List.drop_of_length_le (by simp)]
        simp [splitW, preW]
      rw [hfin]
      exact own_snoc hown'
end Go.Proofs

namespace Go.Proofs
open Go.RowKit
set_option maxRecDepth 1000000

def numGo : Nat → List UInt8 → Option Nat
  | n, [] => some n
  | n, c :: l => if isDig c then numGo (Nat.min (10 * n + (c.toNat - 48)) 1125899906842624) l else none

/-- the reference's number -/
def numR (l : List UInt8) : Option Nat := if l.length < 1 ∨ (1 < l.length ∧ l.head? = some 48) then none else numGo 0 l

def numV : Option Nat → Value
  | some n => .tuple #[.int .i64 n, .bool true]
  | none => .tuple #[.int .i64 0, .bool false]

theorem len_size (s : ByteArray) : s.data.toList.length = s.size := by
  rw [Array.length_toList]; rfl

theorem numGo_drop (n : Nat) (s : ByteArray) (i : Nat) (h : i < s.size) : numGo n (s.data.toList.drop i) =
    if isDig (s[i]'h) then numGo (Nat.min (10 * n + ((s[i]'h).toNat - 48)) 1125899906842624) (s.data.toList.drop (i + 1)) else none := by
  rw [drop_cons s i h]; rfl

theorem min_cast (n : Nat) (c : UInt8) (h : 48 ≤ c.toNat) : Value.int .i64 (min (10 * (n : Int) + c.toNat - 48) 1125899906842624) = Value.int .i64 ((Nat.min (10 * n + (c.toNat - 48)) 1125899906842624 : Nat) : Int) := by
  congr 1
  show _ = ((min (10 * n + (c.toNat - 48)) 1125899906842624 : Nat) : Int)
  omega

set_option maxHeartbeats 1000000 in
theorem number21 (s : ByteArray) (w : World) (hs : s.size ≤ 70000) :
    Calls Try.prog 21 #[.string s] w fun e w' => e = .returned (numV (numR s.data.toList)) ∧ w = w' := by
  by_cases h0 : s.size = 0
  · have hr := Lib.hid (show numR s.data.toList = none by unfold numR; rw [if_pos (.inl (by rw [len_size]; omega))])
    have hlt : (s.size : Int) < 1 := by omega
    go_enter Try.func21, Try.ntmps21
    go_wp2
    go_ret2
    exact ⟨by rw [hr.out]; rfl, rfl⟩
  · have hpos : 0 < s.size := by omega
    have hnlt : ¬ (s.size : Int) < 1 := by omega
    by_cases hz : 1 < s.size ∧ (s[0]'hpos).toNat = 48
    · have hr := Lib.hid (show numR s.data.toList = none by
        unfold numR; rw [if_pos (.inr ⟨by rw [len_size]; exact hz.1, by rw [head_get s hpos, (byte_eq _).1 hz.2]⟩)])
      have h1 : (1 : Int) < (s.size : Int) := by omega
      have e1 : (((s[0]'hpos).toNat : Int) == 48) = true := by simp; omega
      clear hz
      go_enter Try.func21, Try.ntmps21
      go_wp2
      go_ret2
      exact ⟨by rw [hr.out]; rfl, rfl⟩
    · have hr := Lib.hid (show numR s.data.toList = numGo 0 s.data.toList by
        unfold numR
        rw [if_neg]
        rintro (h | ⟨h, h'⟩)
        · rw [len_size] at h; omega
        · rw [head_get s hpos] at h'
          exact hz ⟨by rw [len_size] at h; exact h, (byte_eq _).2 (Option.some.inj h')⟩)
      by_cases h1 : 1 < s.size
      · have h1' : (1 : Int) < (s.size : Int) := by omega
        have e1 : (((s[0]'hpos).toNat : Int) == 48) = false := by
          have : ¬ (s[0]'hpos).toNat = 48 := fun h => hz ⟨h1, h⟩
          simp; omega
        clear hz
        go_enter Try.func21, Try.ntmps21
        go_wp2
        go_loop [4, 5] (fun x i => ∃ (k n : Nat), k ≤ s.size ∧ n ≤ 1125899906842624 ∧ i = .int .i64 k ∧ x = .int .i64 n ∧ numGo n (s.data.toList.drop k) = numGo 0 s.data.toList) (fun _ i => s.size - (intOf i).toNat)
        case atStart => exact ⟨0, 0, Nat.zero_le _, Nat.zero_le _, rfl, rfl, rfl⟩
        case round =>
          obtain ⟨k, n, hk, hn, rfl, rfl, hv⟩ := hrel
          have HV := Lib.hid hv
          have hn0 : (0 : Int) ≤ (n : Int) := Int.natCast_nonneg _
          have hn1 : (n : Int) ≤ 1125899906842624 := by omega
          clear hv
          by_cases hlt : k < s.size
          · have HD := Lib.hid (numGo_drop n s k hlt)
            by_cases hd : 48 ≤ (s[k]'hlt).toNat ∧ (s[k]'hlt).toNat ≤ 57
            · obtain ⟨d0, d1⟩ := hd
              have t1 : decide (((s[k]'hlt).toNat : Int) < 48) = false := by simp; omega
              have t2 : decide (((57 : Int) < (s[k]'hlt).toNat)) = false := by simp; omega
              have HR := Lib.hid (HV.out.symm.trans (HD.out.trans (if_pos ((isDig_iff _).2 ⟨d0, d1⟩))))
              have hmin : Nat.min (10 * n + ((s[k]'hlt).toNat - 48)) 1125899906842624 ≤ 1125899906842624 := Nat.min_le_right _ _
              go_wp2
              refine ⟨⟨k + 1, _, by omega, hmin, by simp, ?_, HR.out.symm⟩, by simp [intOf]; omega⟩
              exact min_cast n (s[k]'hlt) d0
            · have hno : isDig (s[k]'hlt) = false := by
                cases h : isDig (s[k]'hlt) with
                | false => rfl
                | true => exact absurd ((isDig_iff _).1 h) hd
              have HR := Lib.hid (HV.out.symm.trans (HD.out.trans (if_neg (by rw [hno]; simp))))
              by_cases hl : (s[k]'hlt).toNat < 48
              · have t1 : decide (((s[k]'hlt).toNat : Int) < 48) = true := by simp; omega
                go_wp2
                go_ret2
                exact ⟨by rw [hr.out, HR.out]; rfl, rfl⟩
              · have t1 : decide (((s[k]'hlt).toNat : Int) < 48) = false := by simp; omega
                have t2 : decide (((57 : Int) < (s[k]'hlt).toNat)) = true := by simp; omega
                go_wp2
                go_ret2
                exact ⟨by rw [hr.out, HR.out]; rfl, rfl⟩
          · have HR := Lib.hid (show numGo 0 s.data.toList = some n by rw [← HV.out, List.drop_of_length_le (by rw [len_size]; omega)]; rfl)
            go_wp2
            go_ret2
            exact ⟨by rw [hr.out, HR.out]; rfl, rfl⟩
      · have h1' : ¬ (1 : Int) < (s.size : Int) := by omega
        clear hz
        go_enter Try.func21, Try.ntmps21
        go_wp2
        go_loop [4, 5] (fun x i => ∃ (k n : Nat), k ≤ s.size ∧ n ≤ 1125899906842624 ∧ i = .int .i64 k ∧ x = .int .i64 n ∧ numGo n (s.data.toList.drop k) = numGo 0 s.data.toList) (fun _ i => s.size - (intOf i).toNat)
        case atStart => exact ⟨0, 0, Nat.zero_le _, Nat.zero_le _, rfl, rfl, rfl⟩
        case round =>
          obtain ⟨k, n, hk, hn, rfl, rfl, hv⟩ := hrel
          have HV := Lib.hid hv
          have hn0 : (0 : Int) ≤ (n : Int) := Int.natCast_nonneg _
          have hn1 : (n : Int) ≤ 1125899906842624 := by omega
          clear hv
          by_cases hlt : k < s.size
          · have HD := Lib.hid (numGo_drop n s k hlt)
            by_cases hd : 48 ≤ (s[k]'hlt).toNat ∧ (s[k]'hlt).toNat ≤ 57
            · obtain ⟨d0, d1⟩ := hd
              have t1 : decide (((s[k]'hlt).toNat : Int) < 48) = false := by simp; omega
              have t2 : decide (((57 : Int) < (s[k]'hlt).toNat)) = false := by simp; omega
              have HR := Lib.hid (HV.out.symm.trans (HD.out.trans (if_pos ((isDig_iff _).2 ⟨d0, d1⟩))))
              have hmin : Nat.min (10 * n + ((s[k]'hlt).toNat - 48)) 1125899906842624 ≤ 1125899906842624 := Nat.min_le_right _ _
              go_wp2
              refine ⟨⟨k + 1, _, by omega, hmin, by simp, ?_, HR.out.symm⟩, by simp [intOf]; omega⟩
              exact min_cast n (s[k]'hlt) d0
            · have hno : isDig (s[k]'hlt) = false := by
                cases h : isDig (s[k]'hlt) with
                | false => rfl
                | true => exact absurd ((isDig_iff _).1 h) hd
              have HR := Lib.hid (HV.out.symm.trans (HD.out.trans (if_neg (by rw [hno]; simp))))
              by_cases hl : (s[k]'hlt).toNat < 48
              · have t1 : decide (((s[k]'hlt).toNat : Int) < 48) = true := by simp; omega
                go_wp2
                go_ret2
                exact ⟨by rw [hr.out, HR.out]; rfl, rfl⟩
              · have t1 : decide (((s[k]'hlt).toNat : Int) < 48) = false := by simp; omega
                have t2 : decide (((57 : Int) < (s[k]'hlt).toNat)) = true := by simp; omega
                go_wp2
                go_ret2
                exact ⟨by rw [hr.out, HR.out]; rfl, rfl⟩
          · have HR := Lib.hid (show numGo 0 s.data.toList = some n by rw [← HV.out, List.drop_of_length_le (by rw [len_size]; omega)]; rfl)
            go_wp2
            go_ret2
            exact ⟨by rw [hr.out, HR.out]; rfl, rfl⟩
end Go.Proofs

namespace Go.Proofs
open Go.RowKit
set_option maxRecDepth 1000000

def zeroQ : Value := .agg #[.int .i64 0, .int .i64 0, .int .i64 0, .bool false, .int .i64 0, .int .i64 0, .bool false, .bool false, .int .i64 0, .bool false]

set_option maxHeartbeats 1000000 in
theorem pq9_short (s : ByteArray) (w : World) (hs : s.size ≤ 70000) (hn : (splitW s.data.toList).length < 7) :
    Calls Try.prog 9 #[.string s] w fun e w' => e = .returned (.tuple #[.agg #[.int .i64 0, .int .i64 0, .int .i64 0, .bool false, .int .i64 0, .int .i64 0, .bool false, .bool false, .int .i64 0, .bool false], .int .i64 3]) ∧ Below w.heap.size w w' := by
  have hp : 0 < (splitW s.data.toList).length := List.length_pos_iff.2 (splitW_ne _)
  go_enter Try.func9, Try.ntmps9
  go_wp2_with fail
  go_at_call 20
  refine (words20 s _ hs).mono ?_
  rintro e w1 ⟨v, rfl, hown, hb⟩
  obtain ⟨g, cap, rfl, hg, hc, hcells⟩ := own_cells hown hp
  have hlen : ((splitW s.data.toList).map mkB).length < 7 := by (rw [List.length_map]; exact hn)
  generalize (splitW s.data.toList).map mkB = ws at hlen hc hcells ⊢
  clear hown hp hn
  have hlt : (ws.length : Int) < 7 := by omega
  obtain ⟨b1, b2⟩ := bcell hb
  go_wp2
  refine bodyPost_ret (v := .tuple #[zeroQ, .int .i64 3]) ?_ rfl ⟨rfl, ?_⟩
  · unfold zeroQ
    simp [results, Try.results9, go_sem, b1]
  · have hB := (((Below.refl _ w).alloc (Nat.le_refl _) _).trans (hb.mono (by simp)))
    exact ((((((((((hB.setCell (Nat.le_refl _) _).setCell (Nat.le_refl _) _).setCell (Nat.le_refl _) _).setCell (Nat.le_refl _) _).setCell (Nat.le_refl _) _).setCell (Nat.le_refl _) _).setCell (Nat.le_refl _) _).setCell (Nat.le_refl _) _).setCell (Nat.le_refl _) _).setCell (Nat.le_refl _) _)
end Go.Proofs

namespace Go.Proofs
open Go.RowKit
set_option maxRecDepth 1000000

theorem mkB_toList (l : List UInt8) : (mkB l).toList = l := by rw [ByteArray.toList_eq]; simp [mkB]
theorem mkB_data (l : List UInt8) : (mkB l).data.toList = l := by simp [mkB]
theorem mkB_size (l : List UInt8) : (mkB l).size = l.length := by show Array.size _ = _; simp [mkB]

theorem below10 {B b : Nat} {a w : World} (h : Below B a w) (hb : B ≤ b) (v0 v1 v2 v3 v4 v5 v6 v7 v8 v9 : Value) :
    Below B a ((((((((((w.setCell ⟨b, 0, none⟩ v0).setCell ⟨b, 1, none⟩ v1).setCell ⟨b, 2, none⟩ v2).setCell ⟨b, 3, none⟩ v3).setCell ⟨b, 4, none⟩ v4).setCell ⟨b, 5, none⟩ v5).setCell ⟨b, 6, none⟩ v6).setCell ⟨b, 7, none⟩ v7).setCell ⟨b, 8, none⟩ v8).setCell ⟨b, 9, none⟩ v9) :=
  (((((((((h.setCell (p := ⟨b, 0, none⟩) hb _).setCell (p := ⟨b, 1, none⟩) hb _).setCell (p := ⟨b, 2, none⟩) hb _).setCell (p := ⟨b, 3, none⟩) hb _).setCell (p := ⟨b, 4, none⟩) hb _).setCell (p := ⟨b, 5, none⟩) hb _).setCell (p := ⟨b, 6, none⟩) hb _).setCell (p := ⟨b, 7, none⟩) hb _).setCell (p := ⟨b, 8, none⟩) hb _).setCell (p := ⟨b, 9, none⟩) hb _

theorem splitW_len : ∀ (l x : List UInt8), x ∈ splitW l → x.length ≤ l.length
  | [], x, h => by simp [splitW] at h; simp [h]
  | c :: l, x, h => by
    unfold splitW at h
    split at h
    · simp only [List.mem_cons] at h
      rcases h with rfl | h
      · simp
      · have := splitW_len l x h; simp; omega
    · cases hs : splitW l with
      | nil => exact absurd hs (splitW_ne l)
      | cons a t =>
        have ih := splitW_len l
        rw [hs] at h ih
        simp only [List.mem_cons] at h ih
        rcases h with rfl | h
        · have := ih a (.inl rfl); simp; omega
        · have := ih x (.inr h); simp; omega

set_option maxHeartbeats 1000000 in
theorem pq9_dir (s : ByteArray) (w : World) (hs : s.size ≤ 70000) (d : List UInt8) (hn : 7 ≤ (splitW s.data.toList).length) (hd : (splitW s.data.toList)[3]? = some d) (h1 : (d == fwdL) = false) (h2 : (d == bwdL) = false) :
    Calls Try.prog 9 #[.string s] w fun e w' => e = .returned (.tuple #[.agg #[.int .i64 0, .int .i64 0, .int .i64 0, .bool false, .int .i64 0, .int .i64 0, .bool false, .bool false, .int .i64 0, .bool false], .int .i64 3]) ∧ Below w.heap.size w w' := by
  have hp : 0 < (splitW s.data.toList).length := List.length_pos_iff.2 (splitW_ne _)
  go_enter Try.func9, Try.ntmps9
  go_wp2_with fail
  go_at_call 20
  refine (words20 s _ hs).mono ?_
  rintro e w1 ⟨v, rfl, hown, hb⟩
  obtain ⟨g, cap, rfl, hg, hc, hcells⟩ := own_cells hown hp
  have hx : ((splitW s.data.toList).map mkB)[3]? = some (mkB d) := by rw [List.getElem?_map, hd]; rfl
  have hlen : 7 ≤ ((splitW s.data.toList).map mkB).length := by (rw [List.length_map]; exact hn)
  generalize (splitW s.data.toList).map mkB = ws at hlen hc hcells hx ⊢
  have c3 := hcells 3 _ hx
  simp only [Nat.zero_add] at c3
  have e1 : ((mkB d).toList == [102, 111, 114, 119, 97, 114, 100]) = false := by rw [mkB_toList]; exact h1
  have e2 : ((mkB d).toList == [98, 97, 99, 107, 119, 97, 114, 100]) = false := by rw [mkB_toList]; exact h2
  have n1 := congrArg Bool.not e1
  have n2 := congrArg Bool.not e2
  simp only [Bool.not_false] at n1 n2
  clear hown hp hn hcells hd h1 h2 hx
  have hlt : ¬ (ws.length : Int) < 7 := by omega
  have h3 : (3 : Int) < (ws.length : Int) := by omega
  have h3' : 3 < ws.length := by omega
  obtain ⟨b1, b2⟩ := bcell hb
  go_wp2
  refine bodyPost_ret (v := .tuple #[zeroQ, .int .i64 3]) ?_ rfl ⟨rfl, ?_⟩
  · unfold zeroQ
    simp [results, Try.results9, go_sem, b1]
  · exact below10 (((Below.refl _ w).alloc (Nat.le_refl _) _).trans (hb.mono (by simp))) (Nat.le_refl _) _ _ _ _ _ _ _ _ _ _

end Go.Proofs

namespace Go.Proofs
open Go.RowKit
set_option maxRecDepth 1000000

theorem Try.info3 : (Try.prog.info? 3).map (fun i => (i.zero, i.size, i.bytes)) = some (some (.int .i64 0), 1, 8) := by kernel_rfl

theorem own0i (w : World) (B : Nat) (hB : B ≤ w.heap.size) : (w.alloc (.cells #[] 3)).ownsRow B 3 1 (.slice (some ⟨w.heap.size, 0, none⟩) 0 0) 0 [] :=
  ⟨rfl, .inr ⟨w.heap.size, 0, _, rfl, hB, heap_alloc_new w _, Nat.le_refl _, by unfold maxLen; omega, rfl, rfl⟩⟩

theorem own0j (w : World) (b : Nat) (hb : w.heap.size = b) : (w.alloc (.cells #[] 3)).ownsRow b 3 1 (.slice (some ⟨b, 0, none⟩) 0 0) 0 [] := by
  subst hb
  exact own0i w _ (Nat.le_refl _)

theorem own_cells_i {w : World} {B n : Nat} {v : Value} {xs : List Nat} (h : w.ownsRow B 3 1 v n (xs.map fun n : Nat => Value.int .i64 n)) (hn : 0 < n) :
    ∃ g cap, v = .slice (some ⟨g, 0, none⟩) n cap ∧ B ≤ g ∧ n ≤ cap ∧ (∀ (j : Nat) x, xs[j]? = some x → w.cell? ⟨g, j, none⟩ = some (.int .i64 (x : Nat))) := by
  rcases h.2 with ⟨_, h0⟩ | ⟨g, cap, cur, rfl, hb, hg, hle, hm, hsz, ht⟩
  · omega
  · refine ⟨g, cap, rfl, hb, hle, fun j x hx => ?_⟩
    have := h.cells (g := g) rfl j (.int .i64 x) (by simp [hx])
    by_cases h0 : j = 0
    · simpa [Addr.add, h0] using this
    · simpa [Addr.add, h0] using this

theorem one_int (n : Int) : ∀ u ∈ [Value.int .i64 n], u.oneCell' = true := by simp [Value.oneCell']

theorem own_snoci {w : World} {B : Nat} {v : Value} {ns : List Nat} {n : Nat} (h : w.ownsRow B 3 1 v (ns.length + 1) ((ns.map fun n : Nat => Value.int .i64 n) ++ [.int .i64 n])) :
    w.ownsRow B 3 1 v (ns ++ [n]).length ((ns ++ [n]).map fun n : Nat => Value.int .i64 n) := by
  simpa using h

def nth6 : List Nat := [0, 1, 2, 4, 5, 6]
def numAt (ls : List (List UInt8)) (i : Nat) : Option Nat := numR (ls.getD i [])
def nums (ls : List (List UInt8)) : List (Option Nat) := nth6.map (numAt ls)

def sfL : List UInt8 := [115, 116, 101, 112, 45, 102, 114, 101, 101]
def biL : List UInt8 := [98, 105, 99, 121, 99, 108, 101]
def chL : List UInt8 := [99, 104, 97, 110, 103, 105, 110, 103]
def zeroQy : Qy := ⟨0, 0, 0, false, 0, 0, false, false, 0, false⟩

/-- a word that may be missing -/
def hitF (x : List UInt8) : List (List UInt8) → Bool
  | [] => false
  | y :: _ => y == x
def dropF (x : List UInt8) (l : List (List UInt8)) : List (List UInt8) := bif hitF x l then l.tail else l

def fin4 (q : Qy) (r : List (List UInt8)) : Qy × Int := if r = [] then (if q.valid then (q, 0) else (zeroQy, 22)) else (zeroQy, 3)

def parseRest (f t m r k o : Nat) (back : Bool) (l : List (List UInt8)) : Qy × Int :=
  fin4 ⟨f, t, m, back, r, k, hitF sfL l, hitF biL (dropF sfL l), o, hitF chL (dropF biL (dropF sfL l))⟩ (dropF chL (dropF biL (dropF sfL l)))

/-- what the reference reads out of the words -/
def parseRef (ls : List (List UInt8)) : Qy × Int :=
  if ls.length < 7 then (zeroQy, 3) else
  if ls.getD 3 [] = fwdL ∨ ls.getD 3 [] = bwdL then
    match nums ls with
    | [some f, some t, some m, some r, some k, some o] => parseRest f t m r k o (ls.getD 3 [] == bwdL) (ls.drop 7)
    | _ => (zeroQy, 3)
  else (zeroQy, 3)

theorem ref_none (ls : List (List UInt8)) (i : Nat) {d : List UInt8} (hn : 7 ≤ ls.length) (hd : ls[3]? = some d) (hdd : d = fwdL ∨ d = bwdL) (hi : i ∈ nth6) (h : numAt ls i = none) : parseRef ls = (zeroQy, 3) := by
  unfold parseRef
  rw [if_neg (by omega)]
  split
  · have : none ∈ nums ls := by rw [← h]; exact List.mem_map_of_mem hi
    split
    · rename_i heq
      rw [heq] at this
      simp at this
    · rfl
  · rfl

theorem splitW_cnt : ∀ l : List UInt8, (splitW l).length ≤ l.length + 1
  | [] => by simp [splitW]
  | c :: l => by
    have := splitW_cnt l
    unfold splitW
    split
    · simp; omega
    · split <;> simp_all <;> omega

theorem q_cells {w : World} {b : Nat} {v0 v1 v2 v3 v4 v5 v6 v7 v8 v9 : Value} (h : w.heap[b]? = some (.cells #[v0, v1, v2, v3, v4, v5, v6, v7, v8, v9] 23 (0, 0))) :
    w.cell? ⟨b, 6, none⟩ = some v6 ∧ w.cell? ⟨b, 7, none⟩ = some v7 ∧ w.cell? ⟨b, 9, none⟩ = some v9 ∧ (∀ o, w.frozen? ⟨b, o, none⟩ = false) ∧ b < w.heap.size :=
  ⟨by simp [World.cell?, h], by simp [World.cell?, h], by simp [World.cell?, h], fun o => by simp [World.frozen?, h], (Array.getElem?_eq_some_iff.1 h).1⟩

theorem q_lt {w : World} {b : Nat} {o : Obj} (h : w.heap[b]? = some o) : b < w.heap.size := (Array.getElem?_eq_some_iff.1 h).1

theorem q_all {w : World} {b : Nat} {v0 v1 v2 v3 v4 v5 v6 v7 v8 v9 : Value} (h : w.heap[b]? = some (.cells #[v0, v1, v2, v3, v4, v5, v6, v7, v8, v9] 23 (0, 0))) :
    w.cell? ⟨b, 0, none⟩ = some v0 ∧ w.cell? ⟨b, 1, none⟩ = some v1 ∧ w.cell? ⟨b, 2, none⟩ = some v2 ∧ w.cell? ⟨b, 3, none⟩ = some v3 ∧ w.cell? ⟨b, 4, none⟩ = some v4 ∧ w.cell? ⟨b, 5, none⟩ = some v5 ∧ w.cell? ⟨b, 6, none⟩ = some v6 ∧ w.cell? ⟨b, 7, none⟩ = some v7 ∧ w.cell? ⟨b, 8, none⟩ = some v8 ∧ w.cell? ⟨b, 9, none⟩ = some v9 := by
  refine ⟨?_, ?_, ?_, ?_, ?_, ?_, ?_, ?_, ?_, ?_⟩ <;> simp [World.cell?, h]

theorem ref_some (ls : List (List UInt8)) {d : List UInt8} {n0 n1 n2 n3 n4 n5 : Nat} (hn : 7 ≤ ls.length) (hd : ls[3]? = some d) (hdd : d = fwdL ∨ d = bwdL) (h : nums ls = [some n0, some n1, some n2, some n3, some n4, some n5]) :
    parseRef ls = fin4 ⟨n0, n1, n2, d == bwdL, n3, n4, hitF sfL (ls.drop 7), hitF biL (dropF sfL (ls.drop 7)), n5, hitF chL (dropF biL (dropF sfL (ls.drop 7)))⟩ (dropF chL (dropF biL (dropF sfL (ls.drop 7)))) := by
  have hg : ls.getD 3 [] = d := by rw [List.getD_eq_getElem?_getD, hd]; rfl
  unfold parseRef
  rw [if_neg (by omega), hg, if_pos hdd, h]
  rfl

def PQ (w : World) (ls : List (List UInt8)) (e : Ending) (w' : World) : Prop :=
  e = .returned (.tuple #[(parseRef ls).1.v, .int .i64 (parseRef ls).2]) ∧ Below w.heap.size w w'

theorem number21' (l : List UInt8) (w : World) (hs : l.length ≤ 70000) (r : Option Nat) (hr : numR l = r) :
    Calls Try.prog 21 #[.string (mkB l)] w fun e w' => e = .returned (numV r) ∧ w = w' :=
  (number21 (mkB l) w (by rw [mkB_size]; exact hs)).mono fun e w' ⟨h1, h2⟩ => ⟨by rw [h1, mkB_data, hr], h2⟩

end Go.Proofs
