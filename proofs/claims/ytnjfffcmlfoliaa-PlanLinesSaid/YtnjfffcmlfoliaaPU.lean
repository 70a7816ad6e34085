/-
  A part of the proof: lemmas of my own.
-/
import Derived.Test.YtnjfffcmlfoliaaPO
import Derived.Test.YtnjfffcmlfoliaaPG
import Derived.RegionTactic
import Derived.ChangeAlike
import Derived.Deep.QuietTactic
import Derived.BigQuiet
import Derived.RangeFuncNested
import Derived.RangeFuncBound
import Derived.RangeFuncCalls
import Derived.RangeFuncLeaves
import Derived.RangeFuncFrom
import Derived.Shelf.Abstract
import Derived.Shelf.RegionOpen
import Derived.OwnWalkIn
import Derived.TacticsInMore
import Derived.LoopNIn
import Derived.LoopIn
import Derived.RangeFuncBox
import Derived.Stop.RegionWithIn
import Derived.Maps.AppendAt
set_option linter.unusedVariables false
set_option linter.unusedSimpArgs false
namespace Go.Proofs
open Go.RowKit
set_option maxRecDepth 1000000

theorem splitW_no : ∀ l : List UInt8, (32 : UInt8) ∉ l → splitW l = [l]
  | [], _ => rfl
  | c :: l, h => by
    simp only [List.mem_cons, not_or] at h
    rw [splitW, if_neg (fun e => h.1 e.symm), splitW_no l h.2]

theorem splitW_yes : ∀ (l : List UInt8) (k : Nat), l[k]? = some 32 → (32 : UInt8) ∉ l.take k → splitW l = l.take k :: splitW (l.drop (k + 1))
  | [], k, h, _ => by simp at h
  | c :: l, 0, h, _ => by
    simp at h
    subst h
    simp [splitW]
  | c :: l, k + 1, h, hn => by
    simp only [List.getElem?_cons_succ] at h
    simp only [List.take_succ_cons, List.mem_cons, not_or] at hn
    rw [splitW, if_neg (fun e => hn.1 e.symm), splitW_yes l k h hn.2]
    simp

theorem ib_spec (l : List UInt8) (c : UInt8) : (Lib.indexByte l c = -1 ∧ c ∉ l) ∨ ∃ k : Nat, Lib.indexByte l c = k ∧ k < l.length ∧ l[k]? = some c ∧ c ∉ l.take k := by
  induction l with
  | nil => left; simp [Lib.indexByte]
  | cons b l ih =>
    unfold Lib.indexByte
    by_cases hb : b = c
    · subst hb
      right
      exact ⟨0, by simp, by simp, rfl, by simp⟩
    · have hb' : (b == c) = false := by simpa using hb
      rw [hb']
      simp only [Bool.false_eq_true, if_false]
      rcases ih with ⟨h1, h2⟩ | ⟨k, h1, h2, h3, h4⟩
      · left
        rw [h1]
        refine ⟨rfl, ?_⟩
        simp only [List.mem_cons, not_or]
        exact ⟨fun e => hb e.symm, h2⟩
      · right
        rw [h1]
        refine ⟨k + 1, ?_, by simpa using h2, by simpa using h3, ?_⟩
        · have : ((k : Int) == -1) = false := by
            rw [beq_eq_false_iff_ne]
            omega
          rw [this]; simp
        · simp only [List.take_succ_cons, List.mem_cons, not_or]
          exact ⟨fun e => hb e.symm, h4⟩

theorem cut35_no (s : ByteArray) (w : World) (h : Lib.indexByte s.data.toList 32 = -1) :
    Calls Try.prog 35 #[.string s, .string ⟨#[32]⟩] w fun e w' => e = .returned (.tuple #[.string s, .string ⟨#[]⟩, .bool false]) ∧ Below w.heap.size w w' := by
  have H := Lib.hid h
  clear h
  go_enter Try.func35, Try.ntmps35
  go_wp2_with (go_at_call 41; refine (Try.stringslite_Index_one _ _ _).mono ?_; rw [H.out]; rintro e w' ⟨rfl, rfl⟩)
  go_ret3
  exact ⟨rfl, Below.refl _ _⟩

theorem cut35_yes (s : ByteArray) (k : Nat) (w : World) (hs : s.size ≤ 70000) (hk : k < s.size) (h : Lib.indexByte s.data.toList 32 = k) :
    Calls Try.prog 35 #[.string s, .string ⟨#[32]⟩] w fun e w' => e = .returned (.tuple #[.string (s.extract 0 k), .string (s.extract (k + 1) s.size), .bool true]) ∧ Below w.heap.size w w' := by
  have H := Lib.hid h
  have k0 : (0 : Int) ≤ (k : Int) := Int.natCast_nonneg _
  have k1 : (k : Int) ≤ (s.size : Int) := by omega
  have k2 : (k : Int) + 1 ≤ (s.size : Int) := by omega
  have k3 : (0 : Int) ≤ (k : Int) + 1 := by omega
  clear h
  go_enter Try.func35, Try.ntmps35
  go_wp2_with (go_at_call 41; refine (Try.stringslite_Index_one _ _ _).mono ?_; rw [H.out]; rintro e w' ⟨rfl, rfl⟩)
  go_quiet (fail)
  go_wp2
  go_ret3
  exact ⟨rfl, ⟨rfl, rfl, rfl, Nat.le_refl _, fun _ _ => rfl⟩⟩

theorem mkB_extract (l : List UInt8) (a b : Nat) : (mkB l).extract a b = mkB ((l.drop a).take (b - a)) := by
  apply ByteArray.ext
  apply Array.toList_inj.1
  simp [mkB, ByteArray.data_extract]

/-- strings.Cut at a blank -/
theorem cut29_no (l : List UInt8) (w : World) (h : (32 : UInt8) ∉ l) :
    Calls Try.prog 29 #[.string (mkB l), .string ⟨#[32]⟩] w fun e w' => e = .returned (.tuple #[.string (mkB l), .string ⟨#[]⟩, .bool false]) ∧ Below w.heap.size w w' := by
  have hi : Lib.indexByte (mkB l).data.toList 32 = -1 := by
    rw [show (mkB l).data.toList = l by simp [mkB]]
    rcases ib_spec l 32 with ⟨h1, _⟩ | ⟨k, _, _, h3, _⟩
    · exact h1
    · exact absurd (List.mem_of_getElem? h3) h
  have H := Lib.hid hi
  clear hi
  generalize mkB l = s at H
  go_enter Try.func29, Try.ntmps29
  go_wp2_with (go_at_call 35; refine (cut35_no _ _ H.out).mono ?_; rintro e w' ⟨rfl, hb⟩)
  go_ret3
  exact ⟨rfl, hb⟩

theorem cut29_yes (l : List UInt8) (k : Nat) (w : World) (hs : l.length ≤ 70000) (h : l[k]? = some 32) (hn : (32 : UInt8) ∉ l.take k) :
    Calls Try.prog 29 #[.string (mkB l), .string ⟨#[32]⟩] w fun e w' => e = .returned (.tuple #[.string (mkB (l.take k)), .string (mkB (l.drop (k + 1))), .bool true]) ∧ Below w.heap.size w w' := by
  have hk : k < l.length := (List.getElem?_eq_some_iff.1 h).1
  have hi : Lib.indexByte (mkB l).data.toList 32 = k := by
    rw [show (mkB l).data.toList = l by simp [mkB]]
    rcases ib_spec l 32 with ⟨_, h2⟩ | ⟨j, h1, hj, h3, h4⟩
    · exact absurd (List.mem_of_getElem? h) h2
    · rw [h1]
      have : j = k := by
        rcases Nat.lt_trichotomy j k with hlt | he | hgt
        · exact absurd (List.mem_of_getElem? (l := l.take k) (i := j) (by rw [List.getElem?_take_of_lt hlt]; exact h3)) hn
        · exact he
        · exact absurd (List.mem_of_getElem? (l := l.take j) (i := k) (by rw [List.getElem?_take_of_lt hgt]; exact h)) h4
      rw [this]
  have hsz : (mkB l).size = l.length := by show Array.size _ = _; simp [mkB]
  have e1 : (mkB l).extract 0 k = mkB (l.take k) := by rw [mkB_extract]; simp
  have e2 : (mkB l).extract (k + 1) (mkB l).size = mkB (l.drop (k + 1)) := by
    rw [mkB_extract, hsz, List.take_of_length_le (by simp)]
  have H := Lib.hid hi
  have E1 := Lib.hid e1
  have E2 := Lib.hid e2
  have hs' : (mkB l).size ≤ 70000 := by omega
  have hk' : k < (mkB l).size := by omega
  clear hi e1 e2 h hn hsz hk hs
  generalize mkB l = s at H hs' hk' E1 E2 ⊢
  go_enter Try.func29, Try.ntmps29
  go_wp2_with (go_at_call 35; refine (cut35_yes _ k _ hs' hk' H.out).mono ?_; rintro e w' ⟨rfl, hb⟩)
  go_ret3
  exact ⟨by rw [← E1.out, ← E2.out]; rfl, hb⟩
end Go.Proofs

namespace Go.Proofs
open Go.RowKit Go.Shelf
set_option maxRecDepth 1000000
attribute [local go_sem] Oper.semAt_some

/-- An iterator that keeps its place in a variable of its own (block bs), which lay there before the loop: what the loop's body holds must not speak of that block. -/
def SeqBox {α : Type} (P : Program) (g : Nat) (lb : Array Value) (enc : α → Value) (bs : Nat) (xs : List α) (w : World) : Prop :=
  ∀ (l : Nat) (J : List α → World → Prop) (W : World), Below w.heap.size w W → AbidesFrom W.heap.size J → (∀ pre W1 v, J pre W1 → J pre (W1.setCell ⟨bs, 0, none⟩ v)) →
    (∀ pre x W1, J pre W1 → pre.length < xs.length → YieldAt Fence.wide 0 P l #[enc x] W1 fun e W' => e = .returned (.bool true) ∧ J (pre ++ [x]) W' ∧ W'.heap[bs]? = W1.heap[bs]? ∧ W1.heap.size ≤ W'.heap.size) →
    J [] W →
    CallsIn Fence.wide 0 P g (#[.func (.yield l) #[] #[]] ++ lb) W fun e W' => (∃ v, e = .returned v) ∧ J xs W'

theorem setCell_other {W : World} {b o : Nat} {v : Value} {k : Nat} (h : k ≠ b) : (W.setCell ⟨b, o, none⟩ v).heap[k]? = W.heap[k]? := Below.heap_setCell _ _ _ _ h

/-- The loop over such an iterator, whose body goes on in every round. -/
theorem wp_range_box {P : Program} {α : Type} {g : Operand} {ps : Array Tmp} {assign body : Code} {Q : Exit → Act → World → Prop} {a : Act} {w : World}
    {gf : Nat} {lb : Array Value} (hg : a.eval g = .func (.func gf) #[] lb) (eg : ∀ args w, (callFunc gf args).run P w = .ok (.enter gf args) w)
    {enc : α → Value} {bs : Nat} {xs : List α} (hseq : SeqBox P gf lb enc bs xs w) (hbs : bs < w.heap.size) (hps : ps.size = 1)
    (I : List α → World → Prop) (hI : OwnFrom w.heap.size I) (hIb : ∀ pre W v, I pre W → I pre (W.setCell ⟨bs, 0, none⟩ v)) (h0 : I [] w) (a₁ : α → Act)
    (hassign : ∀ (l : Nat) (x : α) (W : World) (K : Act → World → Prop), K (a₁ x) W →
      assign.wpIn (Fence.wide.inRound l) 0 P (Exit.then K (fun _ _ _ => False)) { tmps := (ps.zip #[enc x]).foldl (fun t (p, v) => t.setIfInBounds p v) a.tmps, defers := [] } W)
    (hbody : ∀ (l : Nat) (pre : List α) (x : α) (W : World), I pre W → pre.length < xs.length →
      body.wpIn (Fence.wide.inRound l) 0 P (fun e _ W' => e = .normal ∧ KeepsOthers W W' ∧ I (pre ++ [x]) W' ∧ W'.heap[bs]? = W.heap[bs]? ∧ W.heap.size ≤ W'.heap.size) (a₁ x) W)
    (hdone : ∀ (D : Nat) (W : World), w.heap.size ≤ D → I xs W → W.heap[D]? = some (.deferred (some [])) → Q .normal { a with defers := { target := .collected D, args := #[] } :: a.defers } W) :
    (Code.rangeFunc g ps assign body).wpIn Fence.wide 0 P Q a w := by
  refine wpIn_rangeFunc fun fn hfn => ?_
  obtain ⟨rec, hrec⟩ : ∃ rec : LoopState → Option Code → Loop, rec = fun st pe => { state := st, pending := pe, fn, tmps := a.tmps, params := ps, assign, body, defers := w.heap.size } := ⟨_, rfl⟩
  generalize hV : (w.alloc (.deferred (some []))).alloc (.loop (rec .ready none)) = V
  have vL : V.heap[w.heap.size + 1]? = some (.loop (rec .ready none)) := by
    rw [← hV, show w.heap.size + 1 = (w.alloc (.deferred (some []))).heap.size by simp]
    exact heap_alloc _ _
  have vD : V.heap[w.heap.size]? = some (.deferred (some [])) := by
    rw [← hV, Below.heap_alloc _ _ _ (by simp)]
    exact heap_alloc _ _
  have vB : Below w.heap.size w V := by
    rw [← hV]
    exact ((Below.refl _ w).alloc (Nat.le_refl _) _).alloc (by simp) _
  have vI : I [] V := by rw [← hV]; exact hI.alloc _ (hI.alloc _ h0)
  have vs : V.heap.size = w.heap.size + 2 := by rw [← hV]; simp
  refine ⟨w.heap.size + 1, [{ target := .collected w.heap.size, args := #[] }], V, { target := .fn (.func gf) lb, args := #[.func (.yield (w.heap.size + 1)) #[] #[]] }, V, gf, #[.func (.yield (w.heap.size + 1)) #[] #[]] ++ lb, V, ?_, ?_, fun _ _ => trivial, ?_, fun h => absurd h (by simp [Fence.wide]), ?_⟩
  · rw [← hV, hrec]; exact run_enterLoop_outer _ _ _ _ _
  · simp only [resolve, hg]
    simp [go_sem]
  · simp [invoke, go_sem, eg]
  refine (hseq (w.heap.size + 1) (fun pre W => I pre W ∧ W.heap[w.heap.size + 1]? = some (.loop (rec .ready none)) ∧ W.heap[w.heap.size]? = some (.deferred (some []))) V vB ?_ ?_ ?_ ⟨vI, vL, vD⟩).mono ?_
  · intro s A B row hs hgr hr
    refine ⟨hI s A B row hs.1 hgr fun r e => ?_, (grownBy_keeps hgr (fun r e => (hr r e).2) hs.2.1 rfl).trans hs.2.1, (grownBy_keeps hgr (fun r e => (hr r e).2) hs.2.2 rfl).trans hs.2.2⟩
    obtain ⟨h1, o, h2, h3⟩ := hr r e
    exact ⟨by omega, o, h2, Obj.not_cells_of_walk h3⟩
  · rintro pre W1 v ⟨i1, i2, i3⟩
    exact ⟨hIb _ _ _ i1, (setCell_other (by omega)).trans i2, (setCell_other (by omega)).trans i3⟩
  · rintro pre x W ⟨hi, hl, hk⟩ hlen
    have hlt : w.heap.size + 1 < W.heap.size := (Array.getElem?_eq_some_iff.1 hl).1
    have hy := run_yield (P := P) (args := #[enc x]) hl (by rw [hrec]; exact hps.symm)
    rw [hrec] at hy
    refine ⟨fn, _, assign, body, hy, roundIn_of_wpIn hfn (hassign _ x W _ ⟨_, run_beginRound hl (by rw [hrec]), ?_⟩)⟩
    generalize hX : W.putObj (w.heap.size + 1) (.loop { rec .ready none with state := .busy }) = X
    have xl : X.heap[w.heap.size + 1]? = some (.loop { rec .ready none with state := .busy }) := by rw [← hX]; exact World.putObj_heap_same hlt
    have xk : X.heap[w.heap.size]? = some (.deferred (some [])) := by rw [← hX]; exact (World.putObj_heap_other (by omega)).trans hk
    have xi : I pre X := by rw [← hX]; exact hI.putObj _ hi (by omega) hl rfl
    have xb : X.heap[bs]? = W.heap[bs]? := by rw [← hX]; exact World.putObj_heap_other (by omega)
    have xs' : X.heap.size = W.heap.size := by rw [← hX]; simp
    refine wpIn_mono (hbody _ pre x X xi hlen) ?_
    rintro e a3 Y ⟨rfl, hko, hiY, hbY, hsY⟩
    have yl := hko.same _ _ xl rfl
    have yk := hko.same _ _ xk rfl
    have hend := run_endRound (P := P) none yl
    rw [hrec] at hend
    refine ⟨_, _, hend, rfl, ⟨?_, ?_, ?_⟩, ?_, ?_⟩
    · exact hI.putObj _ hiY (by omega) yl rfl
    · rw [World.putObj_heap_same (Array.getElem?_eq_some_iff.1 yl).1, hrec]; rfl
    · exact (World.putObj_heap_other (by omega)).trans yk
    · rw [World.putObj_heap_other (by omega), hbY, xb]
    · simp; omega
  · rintro e Y ⟨⟨v, rfl⟩, hi, hl, hk⟩
    have hend := run_endLoop (P := P) hl (by rw [hrec]; simp)
    rw [hrec] at hend
    exact ⟨none, _, hend, hdone _ _ (Nat.le_refl _) (hI.putObj _ hi (by omega) hl rfl) ((World.putObj_heap_other (by omega)).trans hk)⟩
end Go.Proofs

namespace Go.Proofs
open Go.RowKit Go.Shelf
set_option maxRecDepth 1000000
attribute [local go_sem] Oper.semAt_some

theorem words15 (s : ByteArray) (w : World) : Calls Try.prog 15 #[.string s] w fun e w' => e = .returned (.func (.func 28) #[] #[.pointer (some ⟨w.heap.size, 0, none⟩)]) ∧ w' = w.alloc (.cells #[.string s] 9) := by
  go_enter Try.func15, Try.ntmps15
  go_wp2
  go_ret
  exact ⟨rfl, rfl⟩

def leftB (bs : Nat) (w : World) : Nat := match w.heap[bs]? with
  | some (Obj.cells c _ _) => match c[0]? with
    | some (Value.string b) => b.size
    | _ => 0
  | _ => 0

theorem leftB_eq {bs : Nat} {w : World} {l : List UInt8} (h : w.heap[bs]? = some (.cells #[.string (mkB l)] 9 (0, 0))) : leftB bs w = l.length := by
  unfold leftB
  rw [h]
  show (mkB l).size = _
  show Array.size _ = _
  simp [mkB]

theorem box_cell {w : World} {b : Nat} {v : Value} (h : w.heap[b]? = some (.cells #[v] 9 (0, 0))) : w.cell? ⟨b, 0, none⟩ = some v ∧ w.frozen? ⟨b, 0, none⟩ = false ∧ b < w.heap.size :=
  ⟨by simp [World.cell?, h], by simp [World.frozen?, h], (Array.getElem?_eq_some_iff.1 h).1⟩

theorem grown_of_below {w w1 : World} (hb : Below w.heap.size w w1) : w.grownBy w1 none := ⟨hb.os, hb.tape, hb.output, hb.size, fun k hk _ => hb.block k hk⟩

theorem words28 (l0 : List UInt8) (bs : Nat) (w : World) (h0 : w.heap[bs]? = some (.cells #[.string (mkB l0)] 9 (0, 0))) (hl : l0.length ≤ 70000) :
    SeqBox Try.prog 28 #[.pointer (some ⟨bs, 0, none⟩)] (fun l => Value.string (mkB l)) bs (splitW l0) w := by
  intro l J W hW hJ hJb hY hJ0
  have hbs : bs < w.heap.size := (Array.getElem?_eq_some_iff.1 h0).1
  have hW0 : W.heap[bs]? = some (.cells #[.string (mkB l0)] 9 (0, 0)) := (hW.block _ hbs).trans h0
  have hbW : bs < W.heap.size := (Array.getElem?_eq_some_iff.1 hW0).1
  clear hW h0 hbs
  refine callsIn_of_wp Try.func28 rfl trivial ?_ rfl
  simp only [Try.ntmps28, List.size_toArray, List.length_cons, List.length_nil, Nat.reduceAdd, Nat.reduceSub, Array.replicate_succ, Array.replicate_zero, List.push_toArray, List.append_toArray, List.nil_append, List.cons_append]
  gi_wp2
  gi_loopw [] (fun wr => ∃ (pre : List (List UInt8)) (cur : List UInt8), splitW l0 = pre ++ splitW cur ∧ cur.length ≤ 70000 ∧ wr.heap[bs]? = some (.cells #[.string (mkB cur)] 9 (0, 0)) ∧ J pre wr ∧ W.heap.size ≤ wr.heap.size) (fun wr => leftB bs wr)
  case atStart => exact ⟨[], l0, rfl, hl, hW0, hJ0, Nat.le_refl _⟩
  case round =>
    obtain ⟨pre, cur, hsp, hcl, hbx, hJp, hsz⟩ := hrel
    obtain ⟨c1, c2, c3⟩ := box_cell hbx
    have HS := Lib.hid hsp
    have hleft := Lib.hid (leftB_eq hbx)
    by_cases hm : (32 : UInt8) ∈ cur
    · obtain ⟨k, hk, hn⟩ : ∃ k, cur[k]? = some 32 ∧ (32 : UInt8) ∉ cur.take k := by
        rcases ib_spec cur 32 with ⟨_, h2⟩ | ⟨k, _, _, h3, h4⟩
        · exact absurd hm h2
        · exact ⟨k, h3, h4⟩
      have hlen : pre.length < (splitW l0).length := by
        rw [hsp, List.length_append]
        have := List.length_pos_iff.2 (splitW_ne cur)
        omega
      clear hsp hm
      gi_wp2_with (refine ⟨trivial, rfl, ?_⟩; gi_at_call 29; refine (callsIn_wide.2 (cut29_yes cur k _ hcl hk hn)).mono ?_; rintro e w1 ⟨rfl, hb⟩; have hJ1 := hJ _ _ _ none hJp (grown_of_below hb) (fun r e => by cases e); obtain ⟨fn, tmps, assign, body, hy, hR⟩ := hY pre (cur.take k) w1 hJ1 hlen)
      refine ⟨rfl, hR.mono ?_⟩
      rintro e W3 ⟨rfl, hJ3, hb3, hs3⟩
      have hbx3 := (hb3.trans (hb.block _ c3)).trans hbx
      obtain ⟨d1, d2, d3⟩ := box_cell hbx3
      have hlt : k < cur.length := (List.getElem?_eq_some_iff.1 hk).1
      have hss := splitW_yes cur k hk hn
      have HK := Lib.hid hk
      have hbsz := hb.size
      clear hR hy hb3 hb hk c1 c2
      gi_wp2
      have hnew : (W3.setCell ⟨bs, 0, none⟩ (.string (mkB (cur.drop (k + 1))))).heap[bs]? = some (.cells #[.string (mkB (cur.drop (k + 1)))] 9 (0, 0)) := by rw [rd_set hbx3]; rfl
      refine ⟨⟨pre ++ [cur.take k], cur.drop (k + 1), by rw [HS.out, hss]; simp, by simp; omega, hnew, hJb _ _ _ hJ3, by simp; omega⟩, ?_⟩
      rw [leftB_eq hnew, hleft.out]
      simp
      omega
    · have hlen : pre.length < (splitW l0).length := by
        rw [hsp, List.length_append]
        have := List.length_pos_iff.2 (splitW_ne cur)
        omega
      clear hsp
      gi_wp2_with (refine ⟨trivial, rfl, ?_⟩; gi_at_call 29; refine (callsIn_wide.2 (cut29_no cur _ hm)).mono ?_; rintro e w1 ⟨rfl, hb⟩; have hJ1 := hJ _ _ _ none hJp (grown_of_below hb) (fun r e => by cases e); obtain ⟨fn, tmps, assign, body, hy, hR⟩ := hY pre cur w1 hJ1 hlen)
      refine ⟨rfl, hR.mono ?_⟩
      rintro e W3 ⟨rfl, hJ3, hb3, hs3⟩
      have hss := splitW_no cur hm
      clear hR hy hb3 hb c1 c2
      gi_wp2
      refine bodyPost_ret (results_none rfl _ _ _) rfl ⟨⟨_, rfl⟩, ?_⟩
      rw [HS.out, hss]
      exact hJ3
end Go.Proofs

namespace Go.Proofs
open Go.RowKit Go.Shelf
set_option maxRecDepth 1000000
attribute [local go_sem] Oper.semAt_some

def fr8 (s : ByteArray) (w : World) (x : List UInt8) : Act := { tmps := #[Value.string s, undef, Value.pointer (some ⟨w.heap.size, 0, none⟩), Value.int .i64 0, Value.pointer (some ⟨w.heap.size + 1 + 1, 0, none⟩), Value.string (mkB x), undef, Value.agg #[Value.slice none 0 0, Value.bool false, Value.bool false], Value.pointer (some ⟨w.heap.size + 1, 0, none⟩), Value.string s, Value.func (Fn.func 28) #[] #[Value.pointer (some ⟨w.heap.size + 1 + 1 + 1, 0, none⟩)], Value.string (mkB x), undef, undef, undef, undef, undef, undef, undef, undef, undef, undef, undef, undef, undef, undef, undef, undef, undef, undef, undef, undef, undef, undef, undef, undef, undef, undef, undef, undef, undef, undef, undef, undef, undef, undef, undef, undef, undef, undef, undef, undef, undef, undef, undef, undef, undef, undef, undef, undef, undef, undef, undef, undef, undef, undef, undef, undef, undef, undef, undef, undef, undef, undef, undef, undef, undef, undef, undef, undef], defers := [] }

def zq10 : Array Value := #[.int .i64 0, .int .i64 0, .int .i64 0, .bool false, .int .i64 0, .int .i64 0, .bool false, .bool false, .int .i64 0, .bool false]

/-- the words gathered so far -/
def Gath (w : World) (pre : List (List UInt8)) (W : World) : Prop :=
  ∃ v, W.heap[w.heap.size + 1]? = some (.cells #[v, .bool false, .bool false] 38 (0, 0)) ∧ W.ownsRow (w.heap.size + 4) 9 1 v pre.length ((pre.map mkB).map Value.string) ∧
    W.heap[w.heap.size]? = some (.cells zq10 23 (0, 0)) ∧
    W.heap[w.heap.size + 2]? = some (.cells #[.pointer (some ⟨w.heap.size + 1, 0, none⟩)] 36 (0, 0)) ∧ Below w.heap.size w W ∧ w.heap.size + 4 ≤ W.heap.size

def appS (ats : Array TypeId) (ty : TypeId) (args : Array Value) : Sem Value := Builtin.append_ ats ty args
theorem appS_eq (ats : Array TypeId) (ty : TypeId) (args : Array Value) : Builtin.append_ ats ty args = appS ats ty args := rfl
attribute [local go_sem ↓] appS_eq

theorem ownsRow_drew {w : World} {b : Nat} {e : TypeId} {sz : Nat} {v : Value} {n : Nat} {xs : List Value} (h : w.ownsRow b e sz v n xs) : w.drew.ownsRow b e sz v n xs := h

theorem fin8 (w W w2 : World) (pre : List (List UInt8)) (x : List UInt8) (v : Value) (g' cap' : Nat) (hlen : pre.length ≤ 70000)
    (g1 : W.heap[w.heap.size + 1]? = some (.cells #[v, .bool false, .bool false] 38 (0, 0))) (g2 : W.ownsRow (w.heap.size + 4) 9 1 v pre.length ((pre.map mkB).map Value.string))
    (g3 : W.heap[w.heap.size]? = some (.cells zq10 23 (0, 0))) (g4 : W.heap[w.heap.size + 2]? = some (.cells #[.pointer (some ⟨w.heap.size + 1, 0, none⟩)] 36 (0, 0))) (g5 : Below w.heap.size w W) (g6 : w.heap.size + 4 ≤ W.heap.size)
    (hblk : ∀ k, k < w.heap.size + 4 → w2.heap[k]? = W.heap[k]?)
    (hown' : w2.ownsRow (w.heap.size + 4) 9 1 (.slice (some ⟨g', 0, none⟩) (pre.length + 1) cap') (pre.length + 1) ((pre.map mkB).map Value.string ++ [.string (mkB x)]))
    (hgrow : (W.alloc (.cells #[.string (mkB x)] 9)).drew.grownBy w2 v.ownBlock) :
    KeepsOthers W (w2.setCell ⟨w.heap.size + 1, 0, none⟩ (.slice (some ⟨g', 0, none⟩) (pre.length + 1) cap')) ∧ Gath w (pre ++ [x]) (w2.setCell ⟨w.heap.size + 1, 0, none⟩ (.slice (some ⟨g', 0, none⟩) (pre.length + 1) cap')) ∧
      (w2.setCell ⟨w.heap.size + 1, 0, none⟩ (.slice (some ⟨g', 0, none⟩) (pre.length + 1) cap')).heap[w.heap.size + 3]? = W.heap[w.heap.size + 3]? ∧ W.heap.size ≤ (w2.setCell ⟨w.heap.size + 1, 0, none⟩ (.slice (some ⟨g', 0, none⟩) (pre.length + 1) cap')).heap.size := by
  have hsz : W.heap.size ≤ w2.heap.size := by have := hgrow.size; simp at this; omega
  have hrow : ∀ (j : Nat) (o : Obj), v.ownBlock = some j → (W.alloc (.cells #[.string (mkB x)] 9)).drew.heap[j]? = some o → o.isCells = true := by
    intro j o hj ho
    rcases g2.2 with ⟨rfl, _⟩ | ⟨g, cap, cur, rfl, hb, hg, _⟩
    · simp [Value.ownBlock] at hj
    · simp [Value.ownBlock] at hj
      subst hj
      have : (W.alloc (.cells #[.string (mkB x)] 9)).heap[g]? = some o := ho
      rw [Below.heap_alloc W _ g (Array.getElem?_eq_some_iff.1 hg).1, hg] at this
      cases this
      rfl
  have hg' : w.heap.size + 4 ≤ g' := (hown'.lt g' rfl).1
  refine ⟨(((KeepsOthers.alloc W _).trans (KeepsOthers.drew _)).trans (KeepsOthers.of_grownBy hgrow hrow)).trans (KeepsOthers.setCell _ _ _), ⟨.slice (some ⟨g', 0, none⟩) (pre.length + 1) cap', ?_, ?_, ?_, ?_, ?_, ?_⟩, ?_, ?_⟩
  · rw [rd_set ((hblk _ (by omega)).trans g1)]; rfl
  · refine own_snoc (World.ownsRow.kept hown' (row := some (w.heap.size + 1)) ⟨rfl, rfl, rfl, by simp [World.setCell], fun k _ hne => setCell_other (fun e => hne (by rw [e]))⟩ (.inr ?_))
    simp [Value.ownBlock]
    omega
  · rw [setCell_other (by omega), hblk _ (by omega)]; exact g3
  · rw [setCell_other (by omega), hblk _ (by omega)]; exact g4
  · exact ((((g5.alloc (by omega) _).drew).grown hgrow (by simp; omega) (fun k e => by have := (g2.lt k e).1; omega)).setCell (by simp) _)
  · simp; omega
  · rw [setCell_other (by omega), hblk _ (by omega)]
  · simp; omega

end Go.Proofs
