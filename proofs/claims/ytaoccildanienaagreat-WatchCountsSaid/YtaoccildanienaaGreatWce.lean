/-
  A part of the proof: lemmas of my own.
-/
import Derived.Test.YtaoccildanienaaGreatWcd
import Derived.Test.YtaoccildanienaaGreatWcb
import Derived.Below
import Derived.ChangeSlices
import Derived.ProofKit
set_option linter.unusedVariables false
set_option linter.unusedSimpArgs false
namespace Go.Proofs.Wc
open Go Go.AV
set_option linter.unusedVariables false
set_option maxRecDepth 100000

section
variable {z : T AObj}

/-- no changes -/
theorem loopCn (T : Tab z) (n cp last i : Nat) : LoopA Tryz.prog z (loopN (loopN (bodyOf Tryz.f3) 0) 0) 22 202 (lvC n cp nilS nilS last i 0) (zn3 last []) 22 (Al.R (lpCn n cp last i).l) := by
  refine loopA_of T.hz hD T.g (α := Unit) 22 202 22 (fun _ => True) (fun _ => lvC n cp nilS nilS last i 0) (fun _ => zn3 last []) (fun _ => 0) _ (fun x hx => ?_) () trivial
  obtain ⟨t, ht⟩ := rCn z gW n cp last i (LoopQ (fun _ : Unit => True) (fun _ => lvC n cp nilS nilS last i 0) (fun _ => zn3 last []) 22 (fun _ => 0) (Al.R (lpCn n cp last i).l) x) (by
    repeat' (first | with_reducible exact rfl | with_reducible apply And.intro | exact renO_ents _ [] _)
    exact altR trivial)
  exact ⟨_, t, ht⟩

/-- nothing open -/
theorem loopLn (T : Tab z) (n cp last i : Nat) : LoopA Tryz.prog z (loopN (loopN (bodyOf Tryz.f3) 0) 1) 21 202 (lvL n cp nilS nilS last i 0) (zn3 last []) 21 (Al.R (lpLn n cp last i).l) := by
  refine loopA_of T.hz hD T.g (α := Unit) 21 202 21 (fun _ => True) (fun _ => lvL n cp nilS nilS last i 0) (fun _ => zn3 last []) (fun _ => 0) _ (fun x hx => ?_) () trivial
  obtain ⟨t, ht⟩ := rLn z gW n cp last i (LoopQ (fun _ : Unit => True) (fun _ => lvL n cp nilS nilS last i 0) (fun _ => zn3 last []) 21 (fun _ => 0) (Al.R (lpLn n cp last i).l) x) (by
    repeat' (first | with_reducible exact rfl | with_reducible apply And.intro | exact renO_ents _ [] _)
    exact altR trivial)
  exact ⟨_, t, ht⟩

/-- the changes are those of the open ones -/
theorem loopCr (T : Tab z) (n cp last i : Nat) (ids : List Nat) (hb : ∀ k, k ∈ ids → k < 64) (hlen : ids.length < 1000) :
    LoopA Tryz.prog z (loopN (loopN (bodyOf Tryz.f3) 0) 0) 23 202 (lvC n cp (sl 20 ids.length) (sl 22 ids.length) last i 0) (znC last ids) 23 (Al.R (lpCr n cp last i ids).l) := by
  refine loopA_of T.hz hD T.g (α := Nat) 23 202 23 (fun k => k ≤ ids.length) (fun k => lvC n cp (sl 20 ids.length) (sl 22 ids.length) last i k) (fun _ => znC last ids) (fun k => ids.length - k) _ (fun k hk => ?_) 0 (Nat.zero_le _)
  obtain ⟨t, ht⟩ := rCr z gW n cp last i k (ids.getD k 0) ids (LoopQ (fun k : Nat => k ≤ ids.length) (fun k => lvC n cp (sl 20 ids.length) (sl 22 ids.length) last i k) (fun _ => znC last ids) 23 (fun k => ids.length - k) (Al.R (lpCr n cp last i ids).l) k) (by
    refine ⟨fun h => ?_, fun h => ?_⟩
    · have h := of_decide_eq_true h
      have hlt : k < ids.length := by omega
      have hd : ids[k]? = some (ids.getD k 0) := by
        rw [List.getD_eq_getElem?_getD, List.getElem?_eq_getElem hlt]; rfl
      have h64 := hb _ (List.mem_of_getElem? hd)
      have r1 := read_chg ids k _ (ids.length * 2) hd
      have r2 := read_id ids k _ (ids.length * 1) hd
      have r3 := bin_chg _ h64
      repeat' (first | with_reducible exact rfl | with_reducible apply And.intro | exact hlt | exact r1 | exact r2 | exact r3 | exact wrap1 (by omega) | exact renO_ents _ [] _ | exact renO_row _ (renL_chg _ _) _ _ _ _ _ _ _ | exact renO_row _ (renL_ids _ _) _ _ _ _ _ _ _)
      exact ⟨k + 1, rfl, rfl, rfl, hlt, by show ids.length - (k + 1) < ids.length - k; omega⟩
    · repeat' (first | with_reducible exact rfl | with_reducible apply And.intro | exact renO_ents _ [] _)
      exact altR trivial)
  exact ⟨_, t, ht⟩

theorem gone_take {y : Int} {ids : List Nat} {k d : Nat} (h : ids[k]? = some d) : gone y (ids.take (k + 1)) = gone y (ids.take k) ++ (if (d : Int) = y then [] else [d]) := by
  unfold gone
  rw [List.take_add_one, h, List.filter_append]
  congr 1
  by_cases e : (d : Int) = y <;> simp [e]

theorem idB_app (m : List Nat) (d : Nat) : rowB (m.map iv ++ [.int .i64 (d : Int)]) ((m.length + 1) * 1) 1 3 = idB (m ++ [d]) := by
  unfold idB
  rw [List.map_append, List.length_append]
  rfl

def lfV : List Nat → Value
  | [] => nilS
  | a :: l => sl 21 (a :: l).length
def lfZ (last : Nat) (ids : List Nat) : List Nat → Zone
  | [] => zn3r last ids
  | a :: l => znL last ids (a :: l)

/-- what is left -/
theorem loopLr (T : Tab z) (n cp last i : Nat) (ids : List Nat) (y : Int) (kl : Blk) (hlen : ids.length < 1000) (hi : i < n) (hkl : z.get 0 = some (.blk kl)) (hy : readB Tryz.prog kl 3 (0 + i * 1) = some (.int .i64 y)) :
    LoopA Tryz.prog z (loopN (loopN (bodyOf Tryz.f3) 0) 1) 21 202 (lvL n cp (sl 20 ids.length) nilS last i 0) (zn3r last ids) 22 (Al.R (lpLr n cp last i ids y).l) := by
  refine loopA_of T.hz hD T.g (α := Nat × List Nat) 21 202 22 (fun w => w.1 ≤ ids.length ∧ w.2 = gone y (ids.take w.1)) (fun w => lvL n cp (sl 20 ids.length) (lfV w.2) last i w.1) (fun w => lfZ last ids w.2) (fun w => ids.length - w.1) _ (fun w hw => ?_) (0, []) ⟨Nat.zero_le _, rfl⟩
  obtain ⟨k, m⟩ := w
  obtain ⟨h1, h2⟩ := hw
  simp only at h1 h2
  have hml : m.length ≤ ids.length := by
    rw [h2]; unfold gone
    exact Nat.le_trans (List.length_filter_le _ _) (by rw [List.length_take]; omega)
  have hend : ¬ k < ids.length → m = gone y ids := fun h => by rw [h2, List.take_of_length_le (by omega)]
  cases m with
  | nil =>
    obtain ⟨t, ht⟩ := rLr z gW n cp last i k (ids.getD k 0) ids y kl (LoopQ (fun w : Nat × List Nat => w.1 ≤ ids.length ∧ w.2 = gone y (ids.take w.1)) (fun w => lvL n cp (sl 20 ids.length) (lfV w.2) last i w.1) (fun w => lfZ last ids w.2) 22 (fun w => ids.length - w.1) (Al.R (lpLr n cp last i ids y).l) (k, [])) (by
      refine ⟨fun h => ?_, fun h => ?_⟩
      · have h := of_decide_eq_true h
        have hlt : k < ids.length := by omega
        have hd : ids[k]? = some (ids.getD k 0) := by
          rw [List.getD_eq_getElem?_getD, List.getElem?_eq_getElem hlt]; rfl
        have r2 := read_id ids k _ (ids.length * 1) hd
        have hg := gone_take (y := y) hd
        rw [← h2] at hg
        generalize ids.getD k 0 = d at *
        refine ⟨rfl, hlt, r2, rfl, hi, rfl, hkl, hy, fun hne => ?_, fun he => ?_⟩
        · have hne : ¬ (d : Int) = y := by simpa using hne
          rw [if_neg hne] at hg
          repeat' (first | with_reducible exact rfl | with_reducible apply And.intro | exact hlt | exact r2 | exact wrap1 (by omega) | exact renO_ents _ _ _ | exact renO_row _ (renL_ids _ _) _ _ _ _ _ _ _)
          exact ⟨(k + 1, [d]), rfl, rfl, rfl, ⟨hlt, hg.symm⟩, by show ids.length - (k + 1) < ids.length - k; omega⟩
        · have he : (d : Int) = y := by simpa using he
          rw [if_pos he] at hg
          repeat' (first | with_reducible exact rfl | with_reducible apply And.intro | exact hlt | exact r2 | exact wrap1 (by omega) | exact renO_ents _ _ _ | exact renO_row _ (renL_ids _ _) _ _ _ _ _ _ _)
          exact ⟨(k + 1, []), rfl, rfl, rfl, ⟨hlt, hg.symm⟩, by show ids.length - (k + 1) < ids.length - k; omega⟩
      · have h := of_decide_eq_false h
        repeat' (first | with_reducible exact rfl | with_reducible apply And.intro | exact renO_ents _ _ _ | exact renO_row _ (renL_ids _ _) _ _ _ _ _ _ _)
        exact altR (hend (by omega)).symm)
    exact ⟨_, t, ht⟩
  | cons a l =>
    obtain ⟨t, ht⟩ := rLm z gW n cp last i k (ids.getD k 0) ids (a :: l) y kl (LoopQ (fun w : Nat × List Nat => w.1 ≤ ids.length ∧ w.2 = gone y (ids.take w.1)) (fun w => lvL n cp (sl 20 ids.length) (lfV w.2) last i w.1) (fun w => lfZ last ids w.2) 22 (fun w => ids.length - w.1) (Al.R (lpLr n cp last i ids y).l) (k, a :: l)) (by
      refine ⟨fun h => ?_, fun h => ?_⟩
      · have h := of_decide_eq_true h
        have hlt : k < ids.length := by omega
        have hd : ids[k]? = some (ids.getD k 0) := by
          rw [List.getD_eq_getElem?_getD, List.getElem?_eq_getElem hlt]; rfl
        have r2 := read_id ids k _ (ids.length * 1) hd
        have hg := gone_take (y := y) hd
        rw [← h2] at hg
        generalize ids.getD k 0 = d at *
        have hl2 : (a :: l).length + 1 ≤ 1048576 := by omega
        have hmap : (List.map iv (a :: l)).length = (a :: l).length * 1 := by simp
        refine ⟨rfl, hlt, r2, rfl, hi, rfl, hkl, hy, fun hne => ?_, fun he => ?_⟩
        · have hne : ¬ (d : Int) = y := by simpa using hne
          rw [if_neg hne] at hg
          repeat' (first | with_reducible exact rfl | with_reducible apply And.intro | exact hlt | exact r2 | exact hl2 | exact hmap | exact wrap1 (by omega) | exact renO_ents _ _ _ | exact renO_row _ (renL_ids _ _) _ _ _ _ _ _ _ | exact renO_row _ (renL_app _ (renL_ids _ _) rfl) _ _ _ _ _ _ _)
          refine ⟨(k + 1, (a :: l) ++ [d]), ?_, ?_, rfl, ⟨hlt, hg.symm⟩, by show ids.length - (k + 1) < ids.length - k; omega⟩
          · show _ = lvL n cp (sl 20 ids.length) (sl 21 ((a :: l) ++ [d]).length) last i (k + 1)
            rw [List.length_append]
            rfl
          · show _ = zn3 last ids ++ [(20, idB ids), (21, idB ((a :: l) ++ [d]))]
            rw [← idB_app]
            rfl
        · have he : (d : Int) = y := by simpa using he
          rw [if_pos he, List.append_nil] at hg
          repeat' (first | with_reducible exact rfl | with_reducible apply And.intro | exact hlt | exact r2 | exact wrap1 (by omega) | exact renO_ents _ _ _ | exact renO_row _ (renL_ids _ _) _ _ _ _ _ _ _)
          exact ⟨(k + 1, a :: l), rfl, rfl, rfl, ⟨hlt, hg.symm⟩, by show ids.length - (k + 1) < ids.length - k; omega⟩
      · have h := of_decide_eq_false h
        have hm := hend (by omega)
        repeat' (first | with_reducible exact rfl | with_reducible apply And.intro | exact renO_ents _ _ _ | exact renO_row _ (renL_ids _ _) _ _ _ _ _ _ _)
        refine altR2 ?_
        show Al.R _ (.exit 3, lvLo n cp (sl 20 ids.length) (sl 21 (a :: l).length) last i, znL last ids (a :: l), 22)
        rw [hm]
        exact altR (by rw [← hm]; simp))
    exact ⟨_, t, ht⟩

end
end Go.Proofs.Wc

namespace Go.Proofs.Wc
open Go Go.AV
set_option linter.unusedVariables false
set_option maxRecDepth 100000

section
variable {z : T AObj}

/-- the open numbers as a row -/
def opV : List Nat → Value
  | [] => nilS
  | a :: l => sl 20 (a :: l).length
def opZ (last : Nat) : List Nat → Zone
  | [] => zn3 last []
  | a :: l => zn3r last (a :: l)
structure S3 where
  i : Nat
  last : Nat
  ids : List Nat
def I3 (n : Nat) (s : S3) : Prop := s.i ≤ n ∧ s.last ≤ s.i ∧ s.ids.Pairwise (· < ·) ∧ ∀ k, k ∈ s.ids → 1 ≤ k ∧ k ≤ s.last
def lvs (n cp : Nat) (s : S3) : Live := lv3 n cp (opV s.ids) s.last s.i
def zns (s : S3) : Zone := opZ s.last s.ids
abbrev R3 (n cp : Nat) : Out' → Prop := Al.R (lp3 n cp).l
abbrev Q3 (n cp : Nat) (s : S3) : AExit → Live → Zone → Nat → Prop := LoopQ (I3 n) (lvs n cp) zns 21 (fun s => n - s.i) (R3 n cp) s

theorem q3 {n cp i last last' : Nat} {ids ids' : List Nat} (hi : i < n) (h : I3 n ⟨i + 1, last', ids'⟩) {lv : Live} {zn : Zone} (h1 : lv = lvs n cp ⟨i + 1, last', ids'⟩) (h2 : zn = zns ⟨i + 1, last', ids'⟩) :
    Q3 n cp ⟨i, last, ids⟩ .normal lv zn 21 :=
  ⟨⟨i + 1, last', ids'⟩, h1, h2, rfl, h, by show n - (i + 1) < n - i; omega⟩

theorem sorted_len : ∀ {l : List Nat} {lo hi : Nat}, l.Pairwise (· < ·) → (∀ k, k ∈ l → lo < k ∧ k ≤ hi) → l.length ≤ hi - lo
  | [], _, _, _, _ => Nat.zero_le _
  | a :: l, lo, hi, h, hb => by
    have h := List.pairwise_cons.1 h
    have ha := hb a (by simp)
    have := sorted_len (lo := a) (hi := hi) h.2 fun k hk => ⟨h.1 k hk, (hb k (by simp [hk])).2⟩
    rw [List.length_cons]
    omega

theorem gone_lt {y : Int} {ids : List Nat} (h : ∃ k, k ∈ ids ∧ (k : Int) = y) : (gone y ids).length < ids.length := by
  obtain ⟨k, hk, he⟩ := h
  unfold gone
  refine Nat.lt_of_le_of_ne (List.length_filter_le _ _) fun e => ?_
  have := List.length_filter_eq_length_iff.1 e k hk
  simp [he] at this
theorem goneC {y : Int} {ids : List Nat} {e : Nat} (h : (e = 0 ∧ ∃ k, k ∈ ids ∧ (k : Int) = y) ∨ e = 7 ∧ ∀ k, k ∈ ids → (k : Int) ≠ y) :
    (e = 0 ∧ (gone y ids).length < ids.length) ∨ (e = 7 ∧ (gone y ids).length = ids.length) := by
  rcases h with ⟨h1, h2⟩ | ⟨h1, h2⟩
  · exact .inl ⟨h1, gone_lt h2⟩
  · exact .inr ⟨h1, by rw [gone_all h2]⟩

/-- nothing open -/
theorem round3n (T : Tab z) (n cp last i : Nat) (y : Int) (kl : Blk) (hn : n ≤ 40) (hI : I3 n ⟨i, last, []⟩) (hkl : i < n → z.get 0 = some (.blk kl)) (hy : i < n → readB Tryz.prog kl 3 (0 + i * 1) = some (.int .i64 y)) :
    ∃ N t, codeT Tryz.prog gW z N (loopN (bodyOf Tryz.f3) 0) (mkFr 202 (lvs n cp ⟨i, last, []⟩)) (mkHs z (zns ⟨i, last, []⟩) 21) (finK z 20 202 (Q3 n cp ⟨i, last, []⟩)) t := by
  obtain ⟨h1, h2, h3, h4⟩ := hI
  simp only at h1 h2 h3 h4
  refine (fun ⟨t, ht⟩ => ⟨100, t, ht⟩) (r3n z gW n cp last i y kl (Q3 n cp ⟨i, last, []⟩) ⟨fun h => ?_, fun h => ?_⟩)
  · have hi : i < n := by have := of_decide_eq_true h; omega
    have hkl := hkl hi
    have hy := hy hi
    have k6e := c6 T last last []
    refine ⟨rfl, hi, rfl, hkl, hy, fun h0 => ?_, fun h0 => ?_⟩
    · have k4 := c4 T last [] (by omega) (fun k hk => nomatch hk)
      have k6 := c6 T (last + 1) (last + 1) [last + 1]
      repeat' (first | with_reducible exact rfl | with_reducible apply And.intro | exact wrap1 (by omega) | exact k4 | exact k6 | intro hq)
      · simp at hq
      · exact q3 (last' := last + 1) (ids' := [last + 1]) hi ⟨hi, by show last + 1 ≤ i + 1; omega, by simp, fun k hk => by
          have : k = last + 1 := by simpa using hk
          show 1 ≤ k ∧ k ≤ last + 1
          omega⟩ rfl rfl
    · have hI2 : I3 n ⟨i + 1, last, []⟩ := ⟨hi, by show last ≤ i + 1; omega, .nil, fun k hk => nomatch hk⟩
      refine ⟨rfl, hi, rfl, hkl, hy, fun h0 => ?_, fun h0 => ?_⟩
      · have k7b := c7b T last []
        have k7m := c7m T last []
        have k7e := c7e T last (by omega)
        have hC := loopCn T n cp last i
        repeat' (first | with_reducible exact rfl | with_reducible apply And.intro | exact wrap1 (by omega) | exact hC | exact k7b | exact k7m | exact k7e | exact k6e | intro hq)
        all_goals first | (exact q3 hi hI2 rfl rfl) | (simp at hq) | skip
      · have k5 := c5 T last [] y (by simp)
        have hL := loopLn T n cp last i
        repeat' (first | with_reducible exact rfl | with_reducible apply And.intro | exact wrap1 (by omega) | exact hi | exact hkl | exact hy | exact hL | exact k5 | exact k6e | intro hq)
        all_goals first | (exact q3 hi hI2 rfl rfl) | (have hx := goneC (by with_reducible assumption); have hz : (gone y []).length = 0 := rfl; simp only [beq_iff_eq, bne_iff_ne, beq_eq_false_iff_ne, bne_eq_false_iff_eq, ne_eq, decide_eq_true_eq, decide_eq_false_iff_not, ents_length, List.length_nil] at *; omega)
  · repeat' (first | with_reducible exact rfl | with_reducible apply And.intro | intro _)
    all_goals exact .inl ⟨(last, []), trivial, rfl⟩

/-- some open -/
theorem round3r (T : Tab z) (n cp last i : Nat) (y : Int) (kl : Blk) (a : Nat) (l : List Nat) (hn : n ≤ 40) (hI : I3 n ⟨i, last, a :: l⟩) (hkl : i < n → z.get 0 = some (.blk kl)) (hy : i < n → readB Tryz.prog kl 3 (0 + i * 1) = some (.int .i64 y)) :
    ∃ N t, codeT Tryz.prog gW z N (loopN (bodyOf Tryz.f3) 0) (mkFr 202 (lvs n cp ⟨i, last, a :: l⟩)) (mkHs z (zns ⟨i, last, a :: l⟩) 21) (finK z 20 202 (Q3 n cp ⟨i, last, a :: l⟩)) t := by
  obtain ⟨h1, h2, h3, h4⟩ := hI
  simp only at h1 h2 h3 h4
  have hlen : (a :: l).length ≤ last := by
    have := sorted_len (lo := 0) (hi := last) h3 fun k hk => ⟨by have := (h4 k hk).1; omega, (h4 k hk).2⟩
    omega
  generalize hids : a :: l = ids at *
  have hne : ids ≠ [] := by rw [← hids]; simp
  have e1 : lvs n cp ⟨i, last, ids⟩ = lv3 n cp (sl 20 ids.length) last i := by rw [← hids]; rfl
  have e2 : zns ⟨i, last, ids⟩ = zn3r last ids := by rw [← hids]; rfl
  rw [e1, e2]
  refine (fun ⟨t, ht⟩ => ⟨100, t, ht⟩) (r3r z gW n cp last i y kl ids (Q3 n cp ⟨i, last, ids⟩) ⟨fun h => ?_, fun h => ?_⟩)
  · have hi : i < n := by have := of_decide_eq_true h; omega
    have hkl := hkl hi
    have hy := hy hi
    have k6e := c6 T last last ids
    refine ⟨rfl, hi, rfl, hkl, hy, fun h0 => ?_, fun h0 => ?_⟩
    · have k4 := c4 T last ids (by omega) (fun k hk => (h4 k hk).2)
      have k6 := c6 T (last + 1) (last + 1) (ids ++ [last + 1])
      have hl2 : ids.length + 1 ≤ 1048576 := by omega
      have hmap : (List.map iv ids).length = ids.length * 1 := by simp
      repeat' (first | with_reducible exact rfl | with_reducible apply And.intro | exact wrap1 (by omega) | exact k4 | exact k6 | exact hl2 | exact hmap | exact renO_ents _ _ _ | exact renO_row _ (renL_ids _ _) _ _ _ _ _ _ _ | exact renO_row _ (renL_app _ (renL_ids _ _) rfl) _ _ _ _ _ _ _ | intro hq)
      · simp at hq
      · simp [ents_length] at hq
      · refine q3 (last' := last + 1) (ids' := ids ++ [last + 1]) hi ⟨hi, by show last + 1 ≤ i + 1; omega, ?_, ?_⟩ ?_ ?_
        · rw [List.pairwise_append]
          exact ⟨h3, by simp, fun x hx y hy => by have := (h4 x hx).2; have : y = last + 1 := by simpa using hy
                                                  omega⟩
        · intro k hk
          rcases List.mem_append.1 hk with e | e
          · have := h4 k e; show 1 ≤ k ∧ k ≤ last + 1; omega
          · have : k = last + 1 := by simpa using e
            show 1 ≤ k ∧ k ≤ last + 1; omega
        · rw [← hids]; simp [lvs, lv3, opV]
        · show _ = opZ (last + 1) (ids ++ [last + 1])
          have : opZ (last + 1) (ids ++ [last + 1]) = zn3r (last + 1) (ids ++ [last + 1]) := by rw [← hids]; rfl
          rw [this]
          unfold zn3r
          rw [← idB_app]
          rfl
    · have hI2 : I3 n ⟨i + 1, last, []⟩ := ⟨hi, by show last ≤ i + 1; omega, .nil, fun k hk => nomatch hk⟩
      refine ⟨rfl, hi, rfl, hkl, hy, fun h0 => ?_, fun h0 => ?_⟩
      · have k7b := c7b T last ids
        have k7m := c7m T last ids
        have k7f := c7f T last (by omega) a l (by rw [hids]; exact h3) (by rw [hids]; exact h4) (by rw [hids]; omega)
        rw [hids] at k7f
        have k60 := c6 T last last []
        have hC := loopCr T n cp last i ids (fun k hk => by have := (h4 k hk).2; omega) (by omega)
        repeat' (first | with_reducible exact rfl | with_reducible apply And.intro | exact wrap1 (by omega) | exact hC | exact k7b | exact k7m | exact k7f | exact k6e | exact k60 | exact renO_ents _ [] _ | exact renO_ents _ _ _ | exact renO_row _ (renL_ids _ _) _ _ _ _ _ _ _ | exact renO_row _ (renL_chg _ _) _ _ _ _ _ _ _ | intro hq)
        all_goals first | (exact q3 hi hI2 rfl rfl) | (simp [ents_length] at hq; done) | skip
      · have k5 := c5 T last ids y (h3.imp (fun h => by omega))
        have hL := loopLr T n cp last i ids y kl (by omega) hi hkl hy
        have kg := c6 T last last (gone y ids)
        have hI3 : I3 n ⟨i + 1, last, gone y ids⟩ := ⟨hi, by show last ≤ i + 1; omega, h3.filter _, fun k hk => h4 k (List.mem_filter.1 hk).1⟩
        repeat' (first | with_reducible exact rfl | with_reducible apply And.intro | exact wrap1 (by omega) | exact hi | exact hkl | exact hy | exact hL | exact k5 | exact k6e | exact kg | exact renO_ents _ _ _ | exact renO_row _ (renL_ids _ _) _ _ _ _ _ _ _ | intro hq)
        all_goals first
          | (exfalso; simp [ents_length] at hq; done)
          | (exfalso; have hx := goneC (by with_reducible assumption)
             try have hg := congrArg List.length (by with_reducible assumption : gone y ids = [])
             simp only [beq_iff_eq, bne_iff_ne, beq_eq_false_iff_ne, bne_eq_false_iff_eq, ne_eq, decide_eq_true_eq, decide_eq_false_iff_not, ents_length, List.length_nil] at *
             omega)
          | (have hg := (by with_reducible assumption : gone y ids = [])
             exact q3 hi hI2 rfl (by rw [hg]; rfl))
          | (have hg := (by with_reducible assumption : gone y ids ≠ [])
             refine q3 (last' := last) (ids' := gone y ids) hi hI3 ?_ ?_ <;> (obtain ⟨b, m, hm⟩ := List.exists_cons_of_ne_nil hg; rw [hm]; rfl))
  · repeat' (first | with_reducible exact rfl | with_reducible apply And.intro | exact renO_ents _ _ _ | exact renO_row _ (renL_ids _ _) _ _ _ _ _ _ _ | intro _)
    all_goals exact .inl ⟨(last, ids), trivial, rfl⟩
end
end Go.Proofs.Wc

namespace Go.Proofs.Wc
open Go Go.AV Go.RowKit
set_option linter.unusedVariables false
set_option maxRecDepth 100000

section
variable {z : T AObj}

/-- the row of the law's argument, told -/
def RowZ (z : T AObj) (n : Nat) : Prop := ∀ i, i < n → ∃ y kl, z.get 0 = some (.blk kl) ∧ readB Tryz.prog kl 3 (0 + i * 1) = some (.int .i64 y)

theorem loop3 (T : Tab z) (n cp : Nat) (hn : n ≤ 40) (hz : RowZ z n) :
    LoopA Tryz.prog z (loopN (bodyOf Tryz.f3) 0) 20 202 (lv3 n cp nilS 0 0) (zn3 0 []) 21 (R3 n cp) := by
  refine loopA_of T.hz hD T.g (α := S3) 20 202 21 (I3 n) (lvs n cp) zns (fun s => n - s.i) _ (fun s hs => ?_) ⟨0, 0, []⟩ ⟨Nat.zero_le _, Nat.le_refl _, .nil, fun k hk => nomatch hk⟩
  obtain ⟨i, last, ids⟩ := s
  by_cases hi : i < n
  · obtain ⟨y, kl, h1, h2⟩ := hz i hi
    cases ids with
    | nil => exact round3n T n cp last i y kl hn hs (fun _ => h1) (fun _ => h2)
    | cons a l => exact round3r T n cp last i y kl a l hn hs (fun _ => h1) (fun _ => h2)
  · cases ids with
    | nil => exact round3n T n cp last i 0 ⟨[], 0, 0, 0, true, true, 0, true⟩ hn hs (fun h => (hi h).elim) (fun h => (hi h).elim)
    | cons a l => exact round3r T n cp last i 0 ⟨[], 0, 0, 0, true, true, 0, true⟩ a l hn hs (fun h => (hi h).elim) (fun h => (hi h).elim)

/-- the law at a list -/
theorem c3 (T : Tab z) (n cp : Nat) (hz : n ≤ 40 → RowZ z n) : A1 z 3 [.slice (some ⟨510, 0, none⟩) n cp] [] 0 0 T1 [] := by
  obtain ⟨t, ht⟩ := l3 z gW n cp (Q1 0 T1 []) (by
    have k4 := c4n T
    have k5 := c5n T
    have k6 := c6n T
    have k7 := c7n T
    have k8 := c8 T.hz
    have k9 := c9n T
    have k10 := c10 T
    have k11 := c11 (z := z) [] (by kernel_rfl)
    have hL : decide ((n : Int) > 40) = false → LoopA Tryz.prog z (loopN (bodyOf Tryz.f3) 0) 20 202 (lv3 n cp nilS 0 0) (zn3 0 []) 21 (R3 n cp) := fun h => by
      have := of_decide_eq_false h
      exact loop3 T n cp (by omega) (hz (by omega))
    repeat' (first | with_reducible exact rfl | with_reducible apply And.intro | exact hL (by with_reducible assumption) | exact k4 | exact k5 | exact k6 | exact k7 | exact k8 | exact k9 | exact k10 | exact k11 | intro _ | exact q1)
    done)
  exact callA_of T.hz hD T.g (fn := Tryz.f3) (by kernel_rfl) (by kernel_rfl) 0 0 ⟨by decide, by decide⟩ _ _ _ (fun _ _ => lowZ_ok (by kernel_rfl)) ht

/-- .. without one -/
theorem c3z (T : Tab z) : A1 z 3 [nilS] [] 0 0 T1 [] := by
  have hloop : LoopA Tryz.prog z (loopN (bodyOf Tryz.f3) 0) 20 202 lv3z (zn3 0 []) 21 (Al.R lp3z.l) := by
    refine loopA_of T.hz hD T.g (α := Unit) 20 202 21 (fun _ => True) (fun _ => lv3z) (fun _ => zn3 0 []) (fun _ => 0) _ (fun x hx => ?_) () trivial
    obtain ⟨t, ht⟩ := r3z z gW (LoopQ (fun _ : Unit => True) (fun _ => lv3z) (fun _ => zn3 0 []) 21 (fun _ => 0) (Al.R lp3z.l) x) (by
      repeat' (first | with_reducible exact rfl | with_reducible apply And.intro | exact renO_ents _ [] _)
      exact altR trivial)
    exact ⟨_, t, ht⟩
  obtain ⟨t, ht⟩ := l3z z gW (Q1 0 T1 []) (by
    have k4 := c4n T
    have k5 := c5n T
    have k6 := c6n T
    have k7 := c7n T
    have k8 := c8 T.hz
    have k9 := c9n T
    have k10 := c10 T
    have k11 := c11 (z := z) [] (by kernel_rfl)
    repeat' (first | with_reducible exact rfl | with_reducible apply And.intro | exact k4 | exact k5 | exact k6 | exact k7 | exact k8 | exact k9 | exact k10 | exact k11 | exact hloop | intro _ | exact q1))
  exact callA_of T.hz hD T.g (fn := Tryz.f3) (by kernel_rfl) (by kernel_rfl) 0 0 ⟨by decide, by decide⟩ _ _ _ (fun _ _ => lowZ_ok (by kernel_rfl)) ht
end

/-! ### in the world -/
abbrev ivs (zs : List Int) : List Value := zs.map (.int .i64)
def famL (g o : Nat) (zs : List Int) : Fam := fun k => match k with
  | 0 => some (g, o, match zs with | [] => none | a :: l => some (ivs (a :: l)))
  | _ => none

theorem renL_ivs (σ : Nat → Option Nat) : ∀ zs : List Int, renL σ (ivs zs) = some (ivs zs)
  | [] => rfl
  | a :: l => renL_cons rfl (renL_ivs σ l)

theorem famL_ok {g o : Nat} {zs : List Int} {w : World} (h : ∀ i v, (ivs zs)[i]? = some v → w.cell? ⟨g, o + i, none⟩ = some v) : FamOk (famL g o zs) w := by
  intro k g' o' cs hk
  cases k with
  | succ k => cases hk
  | zero =>
    cases zs with
    | nil => cases hk
    | cons a l =>
      cases hk
      refine ⟨?_, fun i v hv => ⟨v, h i v hv, ?_⟩, fun σ => renL_ivs _ _⟩
      · have h0 := h 0 _ rfl
        unfold World.cell? at h0
        cases hc : w.heap[g]? with
        | none => simp [hc] at h0
        | some x => cases x <;> simp [hc] at h0 <;> exact ⟨_, _, _, rfl⟩
      · have : v ∈ ivs (a :: l) := List.mem_of_getElem? hv
        obtain ⟨n, _, rfl⟩ := List.mem_map.1 this
        exact .sc _ rfl

theorem law_list {g o n cap : Nat} {zs : List Int} {w : World} (hl : zs.length = n) (h : ∀ i v, (ivs zs)[i]? = some v → w.cell? ⟨g, o + i, none⟩ = some v) :
    Calls Tryz.prog 3 #[.slice (some ⟨g, o, none⟩) n cap] w fun e w' => e = .returned (.bool true) ∧ Below w.heap.size w w' := by
  obtain ⟨z, h1, h2, h3⟩ := fam_frz (famL g o zs) 1 w (fun k x hk => by cases k with | zero => omega | succ k => cases hk) (famL_ok h)
  have T : Tab z := ⟨h2, h1.own⟩
  have hz : RowZ z n := by
    intro i hi
    cases zs with
    | nil => simp at hl; omega
    | cons a l =>
      obtain ⟨e, he⟩ := h3 0 g o _ rfl
      have hg : ((a :: l))[i]? = some ((a :: l)[i]'(by omega)) := List.getElem?_eq_getElem (by omega)
      have hb : i < (a :: l).length := by omega
      refine ⟨(a :: l)[i]'hb, _, he, ?_⟩
      have hr := readB_cell (P := Tryz.prog) (e := e) (rows := (ivs (a :: l)).map fun v => [v]) (t := 3) (sz := 1) (k := i) (j := 0) (r := [.int .i64 ((a :: l)[i]'(by omega))]) (v := .int .i64 ((a :: l)[i]'(by omega))) Tryz.underlying3 rfl (fun r hr => by
        obtain ⟨v, _, rfl⟩ := List.mem_map.1 hr; rfl) (by rw [List.getElem?_map, List.getElem?_map, hg]; rfl) rfl
      rw [Nat.add_zero] at hr
      have hf : ((ivs (a :: l)).map fun v => [v]).flatten = ivs (a :: l) := by
        generalize ivs (a :: l) = m
        induction m with
        | nil => rfl
        | cons x m ih => simp [ih]
      rw [hf] at hr
      exact hr
  have ha : VRs (rhoOf (famL g o zs)) [.slice (some ⟨510, 0, none⟩) n cap] [.slice (some ⟨g, o, none⟩) n cap] := by
    have : rhoOf (famL g o zs) 510 = some ⟨g, o, 0⟩ := by
      have := rhoOf_fid (famL g o zs) 0
      simpa [famL] using this
    exact .cons _ _ _ _ (VR.sl 510 0 n cap ⟨g, o, 0⟩ this) .nil
  refine (calls_ofA (c3 T n cap (fun _ => hz)) h1 ha).mono fun e w' ⟨x, ρ', v', k1, k2, k3, _, _, _, k4⟩ => ⟨?_, k4⟩
  rw [k2, k3.plain rfl]

theorem law_nil (w : World) : Calls Tryz.prog 3 #[.slice none 0 0] w fun e w' => e = .returned (.bool true) ∧ Below w.heap.size w w' := by
  obtain ⟨z, h1, h2, h3⟩ := fam_frz (fun _ => none) 0 w (fun k x hk => by cases hk) (fun k g o cs hk => by cases hk)
  have T : Tab z := ⟨h2, h1.own⟩
  have ha : VRs (rhoOf fun _ => none) [.slice none 0 0] [.slice none 0 0] := .cons _ _ _ _ (.sc _ rfl) .nil
  refine (calls_ofA (c3z T) h1 ha).mono fun e w' ⟨x, ρ', v', k1, k2, k3, _, _, _, k4⟩ => ⟨?_, k4⟩
  rw [k2, k3.plain rfl]
end Go.Proofs.Wc

namespace Go.Proofs.Wc
set_option maxRecDepth 100000
open Go Go.ChangeShapes Go.WideShapes Go.ChangeAt Go.RowKit

theorem slice_ok {w : World} {b : Nat} {v : Value} (hok : Value.okWide Tryz.prog w .any b 22 v) : v = .slice none 0 0 ∨ ∃ a len cap, v = .slice (some a) len cap ∧ a.spot = none := by
  unfold Value.okWide at hok
  simp only [Tryz.underlying22] at hok
  unfold Cell.okWide at hok
  simp only [Tryz.underlying22] at hok
  unfold Cell.ok at hok
  simp only [Tryz.underlying22] at hok
  split at hok <;> first | (exact .inl rfl) | (rename_i h; cases h; done) | skip
  · rename_i a len cap _
    exact .inr ⟨a, len, cap, rfl, hok.2.2.2.1⟩
  · exact hok.elim

theorem cells_ok {w : World} {g o n : Nat} {zs : List Int} (hcell : ∀ i, i < zs.length → w.cell? ((⟨g, o, none⟩ : Addr).add i) = some (.int .i64 (zs.getD i 0))) :
    ∀ i v, (ivs (zs.take n))[i]? = some v → w.cell? ⟨g, o + i, none⟩ = some v := by
  intro i v hv
  have hi : i < zs.length := by
    have := (List.getElem?_eq_some_iff.1 hv).1
    simp at this; omega
  have := hcell i hi
  have ha : (⟨g, o, none⟩ : Addr).add i = ⟨g, o + i, none⟩ := by
    unfold Addr.add
    split
    · rename_i h; subst h; rfl
    · rfl
  rw [ha] at this
  rw [this]
  have hin : i < n := by
    have := (List.getElem?_eq_some_iff.1 hv).1
    simp at this; omega
  rw [List.getElem?_map, List.getElem?_take, if_pos hin, List.getElem?_eq_getElem hi] at hv
  rw [List.getD_eq_getElem?_getD, List.getElem?_eq_getElem hi]
  exact hv
end Go.Proofs.Wc
