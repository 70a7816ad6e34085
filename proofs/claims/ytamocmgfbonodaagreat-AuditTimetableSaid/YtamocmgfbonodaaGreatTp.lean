/-
  A part of the proof: lemmas of my own.
-/
import Derived.Test.YtamocmgfbonodaaGreatTm
import Derived.RangeFuncNested
import Derived.RangeFuncBound
import Derived.RangeFuncCalls
import Derived.RangeFuncLeaves
import Derived.Shelf.Abstract
import Derived.Shelf.RegionOpen
import Derived.WalkKit
import Derived.OwnWalkIn
import Derived.TacticsInMore
import Derived.LoopNIn
import Derived.LoopIn
import Derived.Test.YtamocmgfbonodaaGreatTl
import Derived.Test.YtamocmgfbonodaaGreatTo
set_option linter.unusedVariables false
set_option linter.unusedSimpArgs false
namespace Go.Proofs.Tt
open Go Go.Proofs
open Go.RowKit Go.Maps Go.Shelf
set_option maxRecDepth 1000000
attribute [local go_sem] Oper.semAt_some

/-- all below Bi is kept, but for block O -/
structure KB (O Bi : Nat) (A B : World) : Prop where
  os : B.os = A.os
  tape : B.tape = A.tape
  output : B.output = A.output
  size : A.heap.size ≤ B.heap.size
  block : ∀ b, b < Bi → b ≠ O → B.heap[b]? = A.heap[b]?
theorem KB.trans {O Bi : Nat} {A B C : World} (h : KB O Bi A B) (k : KB O Bi B C) : KB O Bi A C := ⟨k.os.trans h.os, k.tape.trans h.tape, k.output.trans h.output, Nat.le_trans h.size k.size, fun b h1 h2 => (k.block b h1 h2).trans (h.block b h1 h2)⟩
theorem KB.refl (O Bi : Nat) (A : World) : KB O Bi A A := ⟨rfl, rfl, rfl, Nat.le_refl _, fun _ _ _ => rfl⟩
theorem KB.of {O Bi : Nat} {A B : World} (hn : Bi ≤ A.heap.size) (h : Below A.heap.size A B) : KB O Bi A B := ⟨h.os, h.tape, h.output, h.size, fun b h1 _ => h.block b (by omega)⟩
theorem KB.cell {O Bi : Nat} {A B : World} (h : KB O Bi A B) {g o : Nat} {v : Value} (hg : g < Bi) (hn : g ≠ O) (hc : A.cell? ⟨g, o, none⟩ = some v) : B.cell? ⟨g, o, none⟩ = some v := (World.cell?_of_block (h.block g hg hn)).trans hc
theorem KB.below {O Bi n : Nat} {A B : World} (h : KB O Bi A B) (h1 : n ≤ Bi) (h2 : n ≤ O) : Below n A B := ⟨h.os, h.tape, h.output, h.size, fun b hb => h.block b (by omega) (by omega)⟩
abbrev Wn := Int × Int × Int
def encW (x : Wn) : Array Value := #[.agg #[.int .i64 x.1, .int .i64 x.2.1, .int .i64 x.2.2]]
/-- what is not in G below n -/
def misL (kind : Int) (G : Int → Bool) : Nat → List Wn
  | 0 => []
  | n + 1 => misL kind G n ++ (if G n = true then [] else [(kind, (n : Int), 0)])
theorem misL_len (kind : Int) (G : Int → Bool) : ∀ n, (misL kind G n).length ≤ n
  | 0 => Nat.le_refl _
  | n + 1 => by
    have := misL_len kind G n
    rw [misL]
    split <;> simp <;> omega
theorem misL_pre (kind : Int) (G : Int → Bool) {k n : Nat} (h : k ≤ n) : misL kind G k <+: misL kind G n := by
  induction n with
  | zero => obtain rfl : k = 0 := by omega
            exact List.prefix_refl _
  | succ n ih =>
    by_cases e : k = n + 1
    · subst e; exact List.prefix_refl _
    · exact (ih (by omega)).trans (List.prefix_append _ _)

set_option maxHeartbeats 1600000 in
theorem mis87_in (F : Fence) (n : Nat) (h87 : F.fn 87) (hro : F.round = none) (hn : 1 ≤ n) (l O Bi bn bu bk mb c N : Nat) (kind : Int) (G : Int → Bool) (J Jx : List Wn → World → Prop)
    (hY : ∀ pre x W, J pre W → pre.length < N → YieldAt F (n - 1) Tryz.prog l (encW x) W fun e W' =>
      (e = .returned (.bool true) ∧ J (pre ++ [x]) W' ∧ KB O Bi W W') ∨ (e = .returned (.bool false) ∧ Jx (pre ++ [x]) W'))
    (W : World) (h1 : W.cell? ⟨bn, 0, none⟩ = some (.int .i64 (N : Int))) (h2 : W.cell? ⟨bu, 0, none⟩ = some (.map (some mb))) (h3 : W.cell? ⟨bk, 0, none⟩ = some (.int .i64 kind)) (hm : MapI W mb c G)
    (k1 : bn < Bi ∧ bn ≠ O) (k2 : bu < Bi ∧ bu ≠ O) (k3 : bk < Bi ∧ bk ≠ O) (k4 : mb < Bi ∧ mb ≠ O) (hN : N < 1000000) (h0 : J [] W) :
    CallsIn F n Tryz.prog 87 #[.func (.yield l) #[] #[], .pointer (some ⟨bn, 0, none⟩), .pointer (some ⟨bu, 0, none⟩), .pointer (some ⟨bk, 0, none⟩)] W fun e W' => (∃ v, e = .returned v) ∧
      ((∃ ys, ys = misL kind G N ∧ J ys W') ∨ (∃ pre, pre <+: misL kind G N ∧ Jx pre W')) := by
  refine callsIn_of_wp Tryz.func87 rfl h87 ?_ hro
  simp only [Tryz.ntmps87, List.size_toArray, List.length_cons, List.length_nil, Nat.reduceAdd, Nat.reduceSub, Array.replicate_succ, Array.replicate_zero, List.push_toArray, List.append_toArray, List.nil_append, List.cons_append]
  gi_wp2
  gi_loopw [7] (fun i wr => ∃ k : Nat, k ≤ N ∧ i = .int .i64 k ∧ J (misL kind G k) wr ∧ KB O Bi W wr) (fun i _ => N - (intOf i).toNat)
  case atStart => exact ⟨0, Nat.zero_le _, rfl, h0, KB.refl _ _ _⟩
  case round =>
    obtain ⟨k, hk, rfl, hJ, hb⟩ := hrel
    by_cases hlt : k < N
    · have hlt' : (k : Int) < (N : Int) := by omega
      have c2 := hb.cell k2.1 k2.2 h2
      have c3 := hb.cell k3.1 k3.2 h3
      have lk := (hm.at (hb.block _ k4.1 k4.2)).look (inW_nat (k := k) (by omega))
      obtain ⟨b, hb1⟩ : ∃ b, G (k : Int) = b := ⟨_, rfl⟩
      rw [hb1] at lk
      have HJ2 := Lib.hid (show misL kind G (k + 1) = misL kind G k ++ (if b = true then [] else [(kind, (k : Int), 0)]) by rw [misL, hb1])
      have HB := Lib.hid hb
      clear hb1
      cases b
      · obtain ⟨fn, tmps, assign, body, hy, hR⟩ := hY _ (kind, (k : Int), 0) wr hJ (Nat.lt_of_le_of_lt (misL_len kind G k) hlt)
        dsimp only [encW] at hy
        gi_wp2
        refine hR.mono ?_
        rintro e W3 (⟨rfl, hJ3, hk3⟩ | ⟨rfl, hJx3⟩)
        · gi_wp2
          go_roundw
          case rel => exact ⟨k + 1, by omega, by go_num, by rw [HJ2.out]; exact hJ3, HB.out.trans hk3⟩
          case measure => simp [intOf]; omega
        · gi_wp2
          refine bodyPost_ret (results_none rfl _ _ _) rfl ?_
          exact ⟨⟨_, rfl⟩, .inr ⟨misL kind G k ++ [(kind, (k : Int), 0)], by have := misL_pre kind G (show k + 1 ≤ N by omega); rw [HJ2.out] at this; exact this, hJx3⟩⟩
      · gi_wp2
        refine ⟨fun _ h => (by cases h), ?_⟩
        gi_wp2
        go_roundw
        case rel => exact ⟨k + 1, by omega, by go_num, by rw [HJ2.out]; simpa using hJ, HB.out⟩
        case measure => simp [intOf]; omega
    · have hlt' : ¬ (k : Int) < (N : Int) := by omega
      obtain rfl : k = N := by omega
      gi_wp2
      go_end0
      exact ⟨⟨_, rfl⟩, .inl hJ⟩
/-- **WHAT lint.missing MAKES GIVES ITS WARNINGS ONE BY ONE.** -/
theorem mis_stops (F : Fence) (n : Nat) (h87 : F.fn 87) (hro : F.round = none) (hn : 1 ≤ n) (O Bi bn bu bk mb c N : Nat) (kind : Int) (G : Int → Bool) (W : World) (h1 : W.cell? ⟨bn, 0, none⟩ = some (.int .i64 (N : Int))) (h2 : W.cell? ⟨bu, 0, none⟩ = some (.map (some mb))) (h3 : W.cell? ⟨bk, 0, none⟩ = some (.int .i64 kind)) (hm : MapI W mb c G)
    (k1 : bn < Bi ∧ bn ≠ O) (k2 : bu < Bi ∧ bu ≠ O) (k3 : bk < Bi ∧ bk ≠ O) (k4 : mb < Bi ∧ mb ≠ O) (hN : N < 1000000) (hn0 : Bi ≤ W.heap.size) :
    SeqStopsK F n Tryz.prog 87 #[.pointer (some ⟨bn, 0, none⟩), .pointer (some ⟨bu, 0, none⟩), .pointer (some ⟨bk, 0, none⟩)] encW (KB O Bi) (fun ys => ys = misL kind G N) (fun pre => pre <+: misL kind G N) N W := fun l J Jx W1 hW _ _ hY h0 =>
  mis87_in F n h87 hro hn l O Bi bn bu bk mb c N kind G J Jx hY W1 (keepC hW (by omega) h1) (keepC hW (by omega) h2) (keepC hW (by omega) h3) (hm.below (by omega) hW) k1 k2 k3 k4 hN h0
end Go.Proofs.Tt

namespace Go.Proofs.Tt
open Go Go.Proofs
open Go.RowKit Go.Maps Go.Shelf
set_option maxRecDepth 1000000
attribute [local go_sem] Oper.semAt_some

/-- what a round keeps: what lay below Bi, but for O, and every box of a trip -/
def KT (O Bi : Nat) (A B : World) : Prop := KB O Bi A B ∧ ∀ (b : Nat) (cs : Array Value) (fr : Nat × Nat), A.heap[b]? = some (Obj.cells cs 43 fr) → B.heap[b]? = some (Obj.cells cs 43 fr)
theorem KT.trans {O Bi : Nat} {A B C : World} (h : KT O Bi A B) (k : KT O Bi B C) : KT O Bi A C := ⟨h.1.trans k.1, fun b cs fr hb => k.2 b cs fr (h.2 b cs fr hb)⟩
theorem KT.refl (O Bi : Nat) (A : World) : KT O Bi A A := ⟨KB.refl _ _ _, fun _ _ _ h => h⟩
theorem KT.of {O Bi : Nat} {A B : World} (hn : Bi ≤ A.heap.size) (h : Below A.heap.size A B) : KT O Bi A B := ⟨KB.of hn h, fun b cs fr hb => (h.block b (Array.getElem?_eq_some_iff.1 hb).1).trans hb⟩
theorem KT.bk {O Bi : Nat} {w : World} (hn : Bi ≤ w.heap.size) (W : World) (l : Nat) (o o' : Obj) (hl : w.heap.size ≤ l) (h : W.heap[l]? = some o) (hc : o.isCells = false) (hw : o.isWalk = false) : KT O Bi W (W.putObj l o') :=
  have g := grownBy_putObj' W l o'
  have hlt := (Array.getElem?_eq_some_iff.1 h).1
  ⟨⟨g.os, g.tape, g.output, g.size, fun b h1 _ => g.block b (by omega) (by simp; omega)⟩, fun b cs fr hb => by
    have e : b ≠ l := by rintro rfl; rw [h] at hb; cases hb; cases hc
    rw [g.block b (Array.getElem?_eq_some_iff.1 hb).1 (by simp [e])]; exact hb⟩
theorem mis_stopsT (F : Fence) (n : Nat) (h87 : F.fn 87) (hro : F.round = none) (hn : 1 ≤ n) (O Bi bn bu bk mb c N : Nat) (kind : Int) (G : Int → Bool) (W : World) (h1 : W.cell? ⟨bn, 0, none⟩ = some (.int .i64 (N : Int))) (h2 : W.cell? ⟨bu, 0, none⟩ = some (.map (some mb))) (h3 : W.cell? ⟨bk, 0, none⟩ = some (.int .i64 kind)) (hm : MapI W mb c G)
    (k1 : bn < Bi ∧ bn ≠ O) (k2 : bu < Bi ∧ bu ≠ O) (k3 : bk < Bi ∧ bk ≠ O) (k4 : mb < Bi ∧ mb ≠ O) (hN : N < 1000000) (hn0 : Bi ≤ W.heap.size) :
    SeqStopsK F n Tryz.prog 87 #[.pointer (some ⟨bn, 0, none⟩), .pointer (some ⟨bu, 0, none⟩), .pointer (some ⟨bk, 0, none⟩)] encW (KT O Bi) (fun ys => ys = misL kind G N) (fun pre => pre <+: misL kind G N) N W := fun l J Jx W1 hW ha hb hY h0 =>
  mis_stops F n h87 hro hn O Bi bn bu bk mb c N kind G W h1 h2 h3 hm k1 k2 k3 k4 hN hn0 l J Jx W1 hW ha hb (fun pre x W2 hJ hl => (hY pre x W2 hJ hl).mono (fun e W' h => h.imp (fun ⟨a, b, c⟩ => ⟨a, b, c.1⟩) id)) h0

theorem sgl71 (i : Int) (bm mb c : Nat) (G : Int → Bool) (W : World) (h : W.cell? ⟨bm, 0, none⟩ = some (.map (some mb))) (hm : MapI W mb c G) (hi : inW i) :
    Calls Tryz.prog 71 #[.int .i64 i, .pointer (some ⟨bm, 0, none⟩)] W fun e w' => e = .returned (.bool (!G i)) ∧ W = w' := by
  have lk := hm.look hi
  obtain ⟨b, hb⟩ : ∃ b, G i = b := ⟨_, rfl⟩
  rw [hb] at lk ⊢
  clear hb hm hi
  go_enter Tryz.func71, Tryz.ntmps71
  go_wp2
  go_ret
  exact ⟨rfl, rfl⟩

/-- pairs of trip i that are named by P, below k -/
def ovI (P : Nat → Bool) (i : Nat) : Nat → List Wn
  | 0 => []
  | k + 1 => ovI P i k ++ (if P k = true then [(5, (i : Int), (k : Int))] else [])
def ovO (P : Nat → Nat → Bool) (n : Nat) : Nat → List Wn
  | 0 => []
  | i + 1 => ovO P n i ++ ovI (P i) i n
def ovP (l : List TripD) (G : Int → Bool) (i k : Nat) : Bool :=
  match l[i]?, l[k]? with
  | some a, some b => decide (i ≠ k) && (decide (a.cal = b.cal) && (!G i && (!G k && ovS a.calls b.calls)))
  | _, _ => false
theorem ovI_len (P : Nat → Bool) (i : Nat) : ∀ k, (ovI P i k).length ≤ k
  | 0 => Nat.le_refl _
  | k + 1 => by
    have := ovI_len P i k
    rw [ovI]
    split <;> simp <;> omega
theorem ovO_len (P : Nat → Nat → Bool) (n : Nat) : ∀ i, (ovO P n i).length ≤ i * n
  | 0 => by simp [ovO]
  | i + 1 => by
    have h1 := ovO_len P n i
    have h2 := ovI_len (P i) i n
    rw [ovO, List.length_append, Nat.add_mul, Nat.one_mul]
    omega
theorem ovI_pre (P : Nat → Bool) (i : Nat) {k n : Nat} (h : k ≤ n) : ovI P i k <+: ovI P i n := by
  induction n with
  | zero => obtain rfl : k = 0 := by omega
            exact List.prefix_refl _
  | succ n ih =>
    by_cases e : k = n + 1
    · subst e; exact List.prefix_refl _
    · exact (ih (by omega)).trans (List.prefix_append _ _)
theorem ovO_pre (P : Nat → Nat → Bool) (n : Nat) {k m : Nat} (h : k ≤ m) : ovO P n k <+: ovO P n m := by
  induction m with
  | zero => obtain rfl : k = 0 := by omega
            exact List.prefix_refl _
  | succ m ih =>
    by_cases e : k = m + 1
    · subst e; exact List.prefix_refl _
    · exact (ih (by omega)).trans (List.prefix_append _ _)
theorem ov_pre (P : Nat → Nat → Bool) {n i k : Nat} (hi : i < n) (hk : k ≤ n) : ovO P n i ++ ovI (P i) i k <+: ovO P n n :=
  ((List.prefix_append_right_inj _).2 (ovI_pre (P i) i hk)).trans (show ovO P n (i + 1) <+: _ from ovO_pre P n (by omega))
theorem ov_lt (P : Nat → Nat → Bool) {n i k : Nat} (hi : i < n) (hk : k < n) : (ovO P n i ++ ovI (P i) i k).length < n * n := by
  have h1 := ovO_len P n i
  have h2 := ovI_len (P i) i k
  have h3 : (i + 1) * n ≤ n * n := Nat.mul_le_mul_right n (by omega)
  rw [Nat.add_mul, Nat.one_mul] at h3
  rw [List.length_append]
  omega
theorem tripBox {W : World} {b : Nat} {cs : Array Value} {k : Nat} {v : Value} (h : W.heap[b]? = some (Obj.cells cs 43 (0, 0))) (hk : cs[k]? = some v) : W.cell? ⟨b, k, none⟩ = some v := by
  simp only [World.cell?, h]
  simpa using hk
theorem below_grown {W W' : World} (h : Below W.heap.size W W') : W.grownBy W' none := ⟨h.os, h.tape, h.output, h.size, fun k hk _ => h.block k hk⟩

set_option maxHeartbeats 3200000 in
theorem ov72_in (n : Nat) (hn : 1 ≤ n) (l O Bi bt bs bm mb c : Nat) (t : TT) (G : Int → Bool) (B0 : Nat) (J Jx : List Wn → World → Prop)
    (hJ : AbidesFrom B0 J)
    (hY : ∀ pre x W, J pre W → pre.length < t.tr.length * t.tr.length → YieldAt Fence.wide (n - 1) Tryz.prog l (encW x) W fun e W' =>
      (e = .returned (.bool true) ∧ J (pre ++ [x]) W' ∧ KT O Bi W W') ∨ (e = .returned (.bool false) ∧ Jx (pre ++ [x]) W'))
    (W : World) (hok : t.ok W) (hokn : ∀ W', KB O Bi W W' → t.ok W') (h1 : ∀ k u, t.cells[k]? = some u → W.cell? ⟨bt, k, none⟩ = some u) (h2 : W.cell? ⟨bs, 0, none⟩ = some (.func (.func 71) #[] #[.pointer (some ⟨bm, 0, none⟩)])) (h3 : W.cell? ⟨bm, 0, none⟩ = some (.map (some mb))) (hm : MapI W mb c G)
    (k1 : bt < Bi ∧ bt ≠ O) (k2 : bs < Bi ∧ bs ≠ O) (k3 : bm < Bi ∧ bm ≠ O) (k4 : mb < Bi ∧ mb ≠ O) (hn0 : Bi ≤ W.heap.size) (hl4 : t.tr.length < 1000000) (h0 : J [] W) :
    CallsIn Fence.wide n Tryz.prog 72 #[.func (.yield l) #[] #[], .pointer (some ⟨bt, 0, none⟩), .pointer (some ⟨bs, 0, none⟩)] W fun e W' => (∃ v, e = .returned v) ∧
      ((∃ ys, ys = ovO (ovP t.tr G) t.tr.length t.tr.length ∧ J ys W') ∨ (∃ pre, pre <+: ovO (ovP t.tr G) t.tr.length t.tr.length ∧ Jx pre W')) := by
  refine callsIn_of_wp Tryz.func72 rfl trivial ?_ rfl
  simp only [Tryz.ntmps72, List.size_toArray, List.length_cons, List.length_nil, Nat.reduceAdd, Nat.reduceSub, Array.replicate_succ, Array.replicate_zero, List.push_toArray, List.append_toArray, List.nil_append, List.cons_append]
  have HN := Lib.hid hokn
  have H1 := Lib.hid h1
  have x4 : W.cell? ⟨bt, 4, none⟩ = some (.slice t.a4 t.tr.length t.c4) := h1 4 _ rfl
  clear h1 hokn hok
  gi_wp2
  clear x4
  gi_loopw [11] (fun i wr => ∃ k : Nat, k ≤ t.tr.length ∧ i = .int .i64 k ∧ J (ovO (ovP t.tr G) t.tr.length k) wr ∧ KB O Bi W wr) (fun i _ => t.tr.length - (intOf i).toNat)
  case atStart => exact ⟨0, Nat.zero_le _, rfl, h0, KB.refl _ _ _⟩
  case round =>
    obtain ⟨i, hi, rfl, hJi, hb⟩ := hrel
    have HB := Lib.hid hb
    have HJI := Lib.hid hJi
    by_cases hlt : i < t.tr.length
    · have hlt' : (i : Int) < (t.tr.length : Int) := by omega
      obtain ⟨s, hs⟩ : ∃ s, t.tr[i]? = some s := ⟨_, List.getElem?_eq_getElem hlt⟩
      have hokr := HN.out _ hb
      obtain ⟨g, f, ea, hg, hta⟩ := tripAt hokr.r4 hs
      obtain ⟨p0, p1, p2, p3, p4⟩ := hta
      have x4 : wr.cell? ⟨bt, 4, none⟩ = some (.slice t.a4 t.tr.length t.c4) := hb.cell k1.1 k1.2 (H1.out 4 _ rfl)
      have HS := Lib.hid hs
      have EA := Lib.hid ea
      have HI1 := Lib.hid (show i + 1 ≤ t.tr.length by omega)
      rw [ea]
      obtain ⟨id, ro, cal, sf, a, cap, A⟩ := s
      simp only at p0 p1 p2 p3 p4
      obtain ⟨W5, hW5⟩ : ∃ W5, wr.alloc (Obj.cells #[.string id, .int .i64 ro, .int .i64 cal, .bool sf, .slice a A.length cap] 43) = W5 := ⟨_, rfl⟩
      have hbt : bt < wr.heap.size := Nat.lt_of_lt_of_le k1.1 (Nat.le_trans hn0 hb.size)
      have hbx : W5.heap[wr.heap.size]? = some (Obj.cells #[.string id, .int .i64 ro, .int .i64 cal, .bool sf, .slice a A.length cap] 43 (0, 0)) := by rw [← hW5]; exact heapNew _ _
      have HBX := Lib.hid hbx
      have HB5 := Lib.hid (show KB O Bi W W5 by rw [← hW5]; exact hb.trans (KB.of (Nat.le_trans hn0 hb.size) (blA (bl0 _) _)))
      have HJ5 := Lib.hid (show J (ovO (ovP t.tr G) t.tr.length i) W5 by rw [← hW5]; exact hJ _ _ _ none hJi (World.grownBy_alloc _ _ _) (fun r e => by cases e))
      have HW5 := Lib.hid hW5
      have HX4 := Lib.hid x4
      clear hb hJi hokr hs ea hW5 hbx
      obtain ⟨Ba, hBa⟩ : ∃ Ba, wr.heap.size = Ba := ⟨_, rfl⟩
      have HBA := Lib.hid hBa
      have y4 : W5.cell? ⟨bt, 4, none⟩ = some (.slice t.a4 t.tr.length t.c4) := by rw [← HW5.out]; exact keepC (blA (bl0 _) _) hbt x4
      clear hBa
      gi_wp2
      rw [HW5.out, HBA.out, EA.out]
      have HBX2 := Lib.hid (show W5.heap[Ba]? = some (Obj.cells #[.string id, .int .i64 ro, .int .i64 cal, .bool sf, .slice a A.length cap] 43 (0, 0)) by rw [← HBA.out]; exact HBX.out)
      clear x4 y4 p0 p1 p2 p3 p4 hbt hg
      gi_loopw [19] (fun j wr => ∃ k : Nat, k ≤ t.tr.length ∧ j = .int .i64 k ∧ J (ovO (ovP t.tr G) t.tr.length i ++ ovI (ovP t.tr G i) i k) wr ∧ KB O Bi W wr ∧ wr.heap[Ba]? = some (Obj.cells #[.string id, .int .i64 ro, .int .i64 cal, .bool sf, .slice a A.length cap] 43 (0, 0))) (fun j _ => t.tr.length - (intOf j).toNat)
      case atStart => exact ⟨0, Nat.zero_le _, rfl, by rw [ovI, List.append_nil]; exact HJ5.out, HB5.out, HBX2.out⟩
      case round =>
        obtain ⟨k, hk, rfl, hJk, hb, hbx⟩ := hrel
        have HB := Lib.hid hb
        have HJK := Lib.hid hJk
        have HBX := Lib.hid hbx
        have hBl := (Array.getElem?_eq_some_iff.1 hbx).1
        by_cases hkt : k < t.tr.length
        · have hkt' : (k : Int) < (t.tr.length : Int) := by omega
          obtain ⟨s, hs⟩ : ∃ s, t.tr[k]? = some s := ⟨_, List.getElem?_eq_getElem hkt⟩
          have hokr := HN.out _ hb
          obtain ⟨g', f', ea, hg', hta⟩ := tripAt hokr.r4 hs
          obtain ⟨p0, p1, p2, p3, p4⟩ := hta
          have hcs := hokr.cs s (List.mem_of_getElem? hs)
          have hca := hokr.cs _ (List.mem_of_getElem? HS.out)
          have HPI := Lib.hid (show ovP t.tr G i k = (decide (i ≠ k) && (decide (cal = s.cal) && (!G i && (!G k && ovS A s.calls)))) by unfold ovP; rw [HS.out, hs])
          rw [EA.out] at ea
          cases ea
          obtain ⟨id', ro', cal', sf', a', cap', A'⟩ := s
          simp only at p0 p1 p2 p3 p4 hcs hca HPI
          obtain ⟨W7, hW7⟩ : ∃ W7, wr.alloc (Obj.cells #[.string id', .int .i64 ro', .int .i64 cal', .bool sf', .slice a' A'.length cap'] 43) = W7 := ⟨_, rfl⟩
          have hb7 : Below wr.heap.size wr W7 := by rw [← hW7]; exact blA (bl0 _) _
          have HB7 := Lib.hid (show KB O Bi W W7 from hb.trans (KB.of (Nat.le_trans hn0 hb.size) hb7))
          have hbw7 : W7.heap[wr.heap.size]? = some (Obj.cells #[.string id', .int .i64 ro', .int .i64 cal', .bool sf', .slice a' A'.length cap'] 43 (0, 0)) := by rw [← hW7]; exact heapNew _ _
          have hba7 : W7.heap[Ba]? = some (Obj.cells #[.string id, .int .i64 ro, .int .i64 cal, .bool sf, .slice a A.length cap] 43 (0, 0)) := (hb7.block _ hBl).trans hbx
          have HJ7 := Lib.hid (show J (ovO (ovP t.tr G) t.tr.length i ++ ovI (ovP t.tr G i) i k) W7 from hJ _ _ _ none hJk (below_grown hb7) (fun r e => by cases e))
          have hok7 := HN.out _ HB7.out
          have HOV := Lib.hid (ov73 ⟨id, ro, cal, sf, a, cap, A⟩ ⟨id', ro', cal', sf', a', cap', A'⟩ W7 (hca.1.below hb7) (hcs.1.below hb7) hca.2 hcs.2)
          dsimp only [TripD.val] at HOV
          have m7 := hm.at (HB7.out.block _ k4.1 k4.2)
          have c7 := HB7.out.cell k3.1 k3.2 h3
          have s7 := HB7.out.cell k2.1 k2.2 h2
          have HSI := Lib.hid (sgl71 i bm mb c G W7 c7 m7 (inW_nat (by have := hok7.l4; omega)))
          have HSK := Lib.hid (sgl71 k bm mb c G W7 c7 m7 (inW_nat (by have := hok7.l4; omega)))
          have q0 := tripBox hbx (k := 0) (v := .string id) rfl
          have s6 := hb.cell k2.1 k2.2 h2
          have hbs : bs < wr.heap.size := Nat.lt_of_lt_of_le k2.1 (Nat.le_trans hn0 hb.size)
          have hgw := hg'
          have q0 := tripBox hbx (k := 0) (v := .string id) rfl
          have q1 := tripBox hbx (k := 1) (v := .int .i64 ro) rfl
          have q2 := tripBox hbx (k := 2) (v := .int .i64 cal) rfl
          have q3 := tripBox hbx (k := 3) (v := .bool sf) rfl
          have q4 := tripBox hbx (k := 4) (v := .slice a A.length cap) rfl
          have HBA7 := Lib.hid hba7
          clear hokr hs hcs hca hJk hb hbx hb7 hbw7 hba7 hok7 m7 c7 s7
          subst hW7
          obtain ⟨b3, hb3⟩ : ∃ b, G (i : Int) = b := ⟨_, rfl⟩
          obtain ⟨b4, hb4⟩ : ∃ b, G (k : Int) = b := ⟨_, rfl⟩
          obtain ⟨b5, hb5⟩ : ∃ b, ovS A A' = b := ⟨_, rfl⟩
          rw [hb3] at HSI HPI
          rw [hb4] at HSK HPI
          rw [hb5] at HOV HPI
          clear hb3 hb4 hb5
          have fin : ∀ (pb : Bool), ovP t.tr G i k = pb → ovI (ovP t.tr G i) i (k + 1) = ovI (ovP t.tr G i) i k ++ (if pb = true then [(5, (i : Int), (k : Int))] else []) := fun pb h => by rw [ovI, h]
          have HFIN := Lib.hid fin
          clear fin
          have hk1 : k + 1 ≤ t.tr.length := by omega
          by_cases hik : i = k
          · subst hik
            have HPN := Lib.hid (HFIN.out false (by rw [HPI.out]; simp))
            gi_wp2
            repeat (first | (refine ⟨fun _ h => (by cases h), ?_⟩; gi_wp2) | (refine ⟨(trivial : Fence.wide.fn 73), ?_⟩; gi_wp2))
            go_roundw
            case rel => exact ⟨i + 1, hk1, by go_num, by rw [HPN.out]; simpa using HJ7.out, HB7.out, HBA7.out⟩
            case measure => simp [intOf]; omega
          · have hik2 : ((i : Int) != (k : Int)) = true := by simp; omega
            by_cases hca : cal = cal'
            · subst hca
              cases b3
              · cases b4
                · cases b5
                  · have HPN := Lib.hid (HFIN.out false (by rw [HPI.out]; simp))
                    gi_wp2_with (first | (refine ⟨(trivial : Fence.wide.fn 71), ?_⟩; gi_at_call 71; refine (callsIn_wide.2 HSI.out).mono ?_; rintro e w9 ⟨rfl, rfl⟩; clear HSI) | (refine ⟨(trivial : Fence.wide.fn 71), ?_⟩; gi_at_call 71; refine (callsIn_wide.2 HSK.out).mono ?_; rintro e w9 ⟨rfl, rfl⟩; clear HSK) | (refine ⟨(trivial : Fence.wide.fn 73), ?_⟩; gi_at_call 73; refine (callsIn_wide.2 HOV.out).mono ?_; rintro e w9 ⟨rfl, hb9⟩) | (gi_at_call 73; refine (callsIn_wide.2 HOV.out).mono ?_; rintro e w9 ⟨rfl, hb9⟩))
                    repeat (first | (refine ⟨fun _ h => (by cases h), ?_⟩; gi_wp2) | (refine ⟨(trivial : Fence.wide.fn 73), ?_⟩; gi_wp2))
                    go_roundw
                    case rel => exact ⟨k + 1, hk1, by go_num, by rw [HPN.out]; simpa using hJ _ _ _ none HJ7.out (below_grown hb9) (fun r e => by cases e), HB7.out.trans (KB.of (by have := HB7.out.size; omega) hb9), (hb9.block _ (by simp; omega)).trans HBA7.out⟩
                    case measure => simp [intOf]; omega
                  · have HPN := Lib.hid (HFIN.out true (by rw [HPI.out]; simp; omega))
                    have HLT := Lib.hid (ov_lt (ovP t.tr G) (show i < t.tr.length from HI1.out) hkt)
                    have HPR := Lib.hid (ov_pre (ovP t.tr G) (show i < t.tr.length from HI1.out) hk1)
                    gi_wp2_with (first | (refine ⟨(trivial : Fence.wide.fn 71), ?_⟩; gi_at_call 71; refine (callsIn_wide.2 HSI.out).mono ?_; rintro e w9 ⟨rfl, rfl⟩; clear HSI) | (refine ⟨(trivial : Fence.wide.fn 71), ?_⟩; gi_at_call 71; refine (callsIn_wide.2 HSK.out).mono ?_; rintro e w9 ⟨rfl, rfl⟩; clear HSK) | (refine ⟨(trivial : Fence.wide.fn 73), ?_⟩; gi_at_call 73; refine (callsIn_wide.2 HOV.out).mono ?_; rintro e w9 ⟨rfl, hb9⟩; obtain ⟨fn, tmps, assign, body, hy, hR⟩ := hY _ (5, (i : Int), (k : Int)) w9 (hJ _ _ _ none HJ7.out (below_grown hb9) (fun r e => by cases e)) HLT.out; dsimp only [encW] at hy) | (gi_at_call 73; refine (callsIn_wide.2 HOV.out).mono ?_; rintro e w9 ⟨rfl, hb9⟩; obtain ⟨fn, tmps, assign, body, hy, hR⟩ := hY _ (5, (i : Int), (k : Int)) w9 (hJ _ _ _ none HJ7.out (below_grown hb9) (fun r e => by cases e)) HLT.out; dsimp only [encW] at hy))
                    have HB9 := Lib.hid (show KB O Bi W w9 from HB7.out.trans (KB.of (by have := HB7.out.size; omega) hb9))
                    have HBX9 := Lib.hid ((hb9.block _ (by simp; omega)).trans HBA7.out)
                    clear hb9
                    refine hR.mono ?_
                    rintro e W3 (⟨rfl, hJ3, hk3⟩ | ⟨rfl, hJx3⟩)
                    · have HJ3 := Lib.hid hJ3
                      have HK3 := Lib.hid hk3
                      clear hJ3 hk3
                      gi_wp2
                      go_roundw
                      case rel => exact ⟨k + 1, hk1, by go_num, by rw [HPN.out, ← List.append_assoc]; simpa using HJ3.out, HB9.out.trans HK3.out.1, HK3.out.2 _ _ _ HBX9.out⟩
                      case measure => simp [intOf]; omega
                    · gi_wp2
                      refine bodyPost_ret (results_none rfl _ _ _) rfl ?_
                      exact ⟨⟨_, rfl⟩, .inr ⟨_, by have := HPR.out; rw [HPN.out, ← List.append_assoc] at this; simpa using this, hJx3⟩⟩
                · have HPN := Lib.hid (HFIN.out false (by rw [HPI.out]; simp))
                  gi_wp2_with (first | (refine ⟨(trivial : Fence.wide.fn 71), ?_⟩; gi_at_call 71; refine (callsIn_wide.2 HSI.out).mono ?_; rintro e w9 ⟨rfl, rfl⟩; clear HSI) | (refine ⟨(trivial : Fence.wide.fn 71), ?_⟩; gi_at_call 71; refine (callsIn_wide.2 HSK.out).mono ?_; rintro e w9 ⟨rfl, rfl⟩; clear HSK))
                  repeat (first | (refine ⟨fun _ h => (by cases h), ?_⟩; gi_wp2) | (refine ⟨(trivial : Fence.wide.fn 73), ?_⟩; gi_wp2))
                  go_roundw
                  case rel => exact ⟨k + 1, hk1, by go_num, by rw [HPN.out]; simpa using HJ7.out, HB7.out, HBA7.out⟩
                  case measure => simp [intOf]; omega
              · have HPN := Lib.hid (HFIN.out false (by rw [HPI.out]; simp))
                gi_wp2_with (first | (refine ⟨(trivial : Fence.wide.fn 71), ?_⟩; gi_at_call 71; refine (callsIn_wide.2 HSI.out).mono ?_; rintro e w9 ⟨rfl, rfl⟩; clear HSI))
                repeat (first | (refine ⟨fun _ h => (by cases h), ?_⟩; gi_wp2) | (refine ⟨(trivial : Fence.wide.fn 73), ?_⟩; gi_wp2))
                go_roundw
                case rel => exact ⟨k + 1, hk1, by go_num, by rw [HPN.out]; simpa using HJ7.out, HB7.out, HBA7.out⟩
                case measure => simp [intOf]; omega
            · have HPN := Lib.hid (HFIN.out false (by rw [HPI.out]; simp [hca]))
              gi_wp2
              repeat (first | (refine ⟨fun _ h => (by cases h), ?_⟩; gi_wp2) | (refine ⟨(trivial : Fence.wide.fn 73), ?_⟩; gi_wp2))
              go_roundw
              case rel => exact ⟨k + 1, hk1, by go_num, by rw [HPN.out]; simpa using HJ7.out, HB7.out, HBA7.out⟩
              case measure => simp [intOf]; omega
        · have hkt' : ¬ (k : Int) < (t.tr.length : Int) := by omega
          have HJ2 := Lib.hid (show J (ovO (ovP t.tr G) t.tr.length (i + 1)) wr by have := HJK.out; rw [show k = t.tr.length by omega] at this; exact this)
          clear hb hbx hJk
          gi_wp2
          go_roundw
          case rel => exact ⟨i + 1, HI1.out, by go_num, HJ2.out, HB.out⟩
          case measure => have := HI1.out; simp [intOf]; omega
    · have hlt' : ¬ (i : Int) < (t.tr.length : Int) := by omega
      obtain rfl : i = t.tr.length := by omega
      clear hb
      gi_wp2
      go_end0
      exact ⟨⟨_, rfl⟩, .inl HJI.out⟩
/-- **WHAT lint.overtaking MAKES GIVES ITS WARNINGS ONE BY ONE.** -/
theorem ov_stops (n : Nat) (hn : 1 ≤ n) (O Bi bt bs bm mb c : Nat) (t : TT) (G : Int → Bool) (W : World) (hok : ∀ W', KB O Bi W W' → t.ok W') (h1 : ∀ k u, t.cells[k]? = some u → W.cell? ⟨bt, k, none⟩ = some u) (h2 : W.cell? ⟨bs, 0, none⟩ = some (.func (.func 71) #[] #[.pointer (some ⟨bm, 0, none⟩)])) (h3 : W.cell? ⟨bm, 0, none⟩ = some (.map (some mb))) (hm : MapI W mb c G)
    (k1 : bt < Bi ∧ bt ≠ O) (k2 : bs < Bi ∧ bs ≠ O) (k3 : bm < Bi ∧ bm ≠ O) (k4 : mb < Bi ∧ mb ≠ O) (hn0 : Bi ≤ W.heap.size) (hl4 : t.tr.length < 1000000) :
    SeqStopsK Fence.wide n Tryz.prog 72 #[.pointer (some ⟨bt, 0, none⟩), .pointer (some ⟨bs, 0, none⟩)] encW (KT O Bi) (fun ys => ys = ovO (ovP t.tr G) t.tr.length t.tr.length) (fun pre => pre <+: ovO (ovP t.tr G) t.tr.length t.tr.length) (t.tr.length * t.tr.length) W := fun l J Jx W1 hW hJ _ hY h0 =>
  have hW' : KB O Bi W W1 := KB.of hn0 hW
  ov72_in n hn l O Bi bt bs bm mb c t G W1.heap.size J Jx hJ hY W1 (hok W1 hW') (fun W' h => hok W' (hW'.trans h)) (fun k u hk => keepC hW (by omega) (h1 k u hk)) (keepC hW (by omega) h2) (keepC hW (by omega) h3) (hm.below (by omega) hW) k1 k2 k3 k4 (Nat.le_trans hn0 hW.size) hl4 h0
end Go.Proofs.Tt
