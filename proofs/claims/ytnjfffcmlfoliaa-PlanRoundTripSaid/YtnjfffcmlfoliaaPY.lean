/-
  A part of the proof: lemmas of my own.
-/
import Derived.Test.YtnjfffcmlfoliaaPU
import Derived.Test.YtnjfffcmlfoliaaPG
import Derived.Test.YtnjfffcmlfoliaaPO
set_option linter.unusedVariables false
set_option linter.unusedSimpArgs false
namespace Go.Proofs
open Go.RowKit Go.Shelf
set_option maxRecDepth 1000000
attribute [local go_sem] Oper.semAt_some

theorem gath_own (w : World) (B : Nat) (hB : w.heap.size + 4 ≤ B) : OwnFrom B (Gath w) := by
  rintro pre W W' row ⟨v, g1, g2, g3, g4, g5, g6⟩ hg hr
  have hk : ∀ k, k < w.heap.size + 4 → W'.heap[k]? = W.heap[k]? := fun k hk => hg.block k (by omega) (fun e => by have := (hr k e.symm).1; omega)
  refine ⟨v, (hk _ (by omega)).trans g1, g2.kept hg ?_, (hk _ (by omega)).trans g3, (hk _ (by omega)).trans g4, g5.grown hg (by omega) (fun k e => by have := (hr k e).1; omega), by have := hg.size; omega⟩
  cases hv : v.ownBlock with
  | none => exact .inl rfl
  | some g =>
    refine .inr fun e => ?_
    obtain ⟨_, o, ho, hc⟩ := hr g e.symm
    rcases g2.2 with ⟨rfl, _⟩ | ⟨g0, cap, cur, rfl, hb, hgg, _⟩
    · simp [Value.ownBlock] at hv
    · simp [Value.ownBlock] at hv
      subst hv
      rw [hgg] at ho
      cases ho
      cases hc

theorem gath_box (w : World) (pre : List (List UInt8)) (W : World) (u : Value) (h : Gath w pre W) : Gath w pre (W.setCell ⟨w.heap.size + 3, 0, none⟩ u) := by
  obtain ⟨v, g1, g2, g3, g4, g5, g6⟩ := h
  refine ⟨v, (setCell_other (by omega)).trans g1, g2.kept (row := some (w.heap.size + 3)) ⟨rfl, rfl, rfl, by simp [World.setCell], fun k _ hne => setCell_other (fun e => hne (by rw [e]))⟩ ?_, (setCell_other (by omega)).trans g3, (setCell_other (by omega)).trans g4, g5.setCell (by simp) _, by simp; omega⟩
  cases hv : v.ownBlock with
  | none => exact .inl rfl
  | some g => exact .inr fun e => by have := (g2.lt g hv).1; cases e; omega

/-- The reader behind the loop. -/
theorem gath_rd (w W : World) (ls : List (List UInt8)) (hne : ls ≠ []) (h : Gath w ls W) : ∃ g, w.heap.size + 4 ≤ g ∧ Rd W (w.heap.size + 1) g (ls.map mkB) false false := by
  obtain ⟨v, g1, g2, g3, g4, g5, g6⟩ := h
  have hlen : 0 < ls.length := List.length_pos_iff.2 hne
  have own := g2
  obtain ⟨g, cap, rfl, hg, hc, hcells⟩ := own_cells g2 hlen
  refine ⟨g, (own.lt g rfl).1, ⟨?_, hg, 0, cap, ?_, hc, ?_, hcells⟩⟩
  · have := (own.lt g rfl).1; omega
  · unfold rdRow; rw [List.length_map] at g1 ⊢; exact g1
  · rcases own.2 with ⟨h1, _⟩ | ⟨g', cap', cur, h1, _, _, _, hm, _⟩
    · cases h1
    · injection h1 with _ _ h3; subst h3; exact hm

end Go.Proofs

namespace Go.Proofs
open Go.RowKit Go.Shelf
set_option maxRecDepth 1000000

def AllW (ws : List ByteArray) : Prop := ∀ x ∈ ws, x.size ≤ 9223372036854775807 ∧ noMinus x

theorem AllW.tail {ws : List ByteArray} (h : AllW ws) : AllW ws.tail := fun x hx => h x (List.mem_of_mem_tail hx)

theorem AllW.hd {ws : List ByteArray} (h : AllW ws) : (hd ws).size ≤ 9223372036854775807 ∧ noMinus (hd ws) := by
  cases ws with
  | nil => exact ⟨by decide, fun h => absurd h (by decide)⟩
  | cons x l => exact h x (List.mem_cons_self ..)

/-- The state of program's ParseQuery behind the loop: the reader at b + 1, its pointer in b + 2. -/
structure RS (b g : Nat) (W0 W : World) (ws : List ByteArray) (bad great : Bool) : Prop where
  rd : Rd W (b + 1) g ws bad great
  only : Only (b + 1) W0 W
  all : AllW ws
  ptr0 : W0.heap[b + 2]? = some (.cells #[.pointer (some ⟨b + 1, 0, none⟩)] 36 (0, 0))

theorem RS.ptr {b g : Nat} {W0 W : World} {ws : List ByteArray} {bad great : Bool} (h : RS b g W0 W ws bad great) : W.cell? ⟨b + 1 + 1, 0, none⟩ = some (.pointer (some ⟨b + 1, 0, none⟩)) := by
  have hb : b + 2 < W0.heap.size := (Array.getElem?_eq_some_iff.1 h.ptr0).1
  have := (h.only.block (b + 2) hb (by omega)).trans h.ptr0
  show W.cell? ⟨b + 2, 0, none⟩ = _
  simp [World.cell?, this]

theorem RS.plt {b g : Nat} {W0 W : World} {ws : List ByteArray} {bad great : Bool} (h : RS b g W0 W ws bad great) : b + 1 + 1 < W.heap.size := by
  have hb : b + 2 < W0.heap.size := (Array.getElem?_eq_some_iff.1 h.ptr0).1
  have := h.only.size
  omega

theorem RS.below {b g : Nat} {W0 W W' : World} {ws : List ByteArray} {bad great : Bool} (h : RS b g W0 W ws bad great) (hb : Below W.heap.size W W') : RS b g W0 W' ws bad great :=
  ⟨h.rd.below hb, h.only.trans (Only.of_below hb), h.all, h.ptr0⟩

theorem number17s {b g : Nat} {W0 W : World} {ws : List ByteArray} {bad great : Bool} (h : RS b g W0 W ws bad great) :
    CallsIn Fence.wide 0 Try.prog 17 #[.pointer (some ⟨b + 1, 0, none⟩)] W fun e W' => e = .returned (.int .i64 (parseN (hd ws)).1) ∧ RS b g W0 W' ws.tail (numBad ws bad) (numGreat ws great) :=
  callsIn_wide.2 ((number17 h.rd h.all.hd.1 h.all.hd.2).mono fun _ _ ⟨h1, h2, h3⟩ => ⟨h1, h2, h.only.trans h3, h.all.tail, h.ptr0⟩)

theorem direction18s {b g : Nat} {W0 W : World} {ws : List ByteArray} {bad great : Bool} (h : RS b g W0 W ws bad great) :
    CallsIn Fence.wide 0 Try.prog 18 #[.pointer (some ⟨b + 1, 0, none⟩)] W fun e W' => e = .returned (.bool ((hd ws).toList == bwdL)) ∧ RS b g W0 W' ws.tail (dirBad ws bad) great :=
  callsIn_wide.2 ((direction18 h.rd).mono fun _ _ ⟨h1, h2, h3⟩ => ⟨h1, h2, h.only.trans h3, h.all.tail, h.ptr0⟩)

def flagDrop (ws : List ByteArray) (x : ByteArray) : List ByteArray := bif flagHit ws x then ws.tail else ws

theorem flag19s {b g : Nat} {W0 W : World} {ws : List ByteArray} {bad great : Bool} (x : ByteArray) (h : RS b g W0 W ws bad great) :
    CallsIn Fence.wide 0 Try.prog 19 #[.pointer (some ⟨b + 1, 0, none⟩), .string x] W fun e W' => e = .returned (.bool (flagHit ws x)) ∧ RS b g W0 W' (flagDrop ws x) bad great :=
  callsIn_wide.2 ((flag19 x h.rd).mono fun _ _ ⟨h1, h2, h3⟩ => ⟨h1, h2, h.only.trans h3, by
    unfold flagDrop
    cases flagHit ws x with
    | false => exact h.all
    | true => exact h.all.tail, h.ptr0⟩)
end Go.Proofs

namespace Go.Proofs
open Go.RowKit Go.Shelf
set_option maxRecDepth 1000000
attribute [local go_sem] Oper.semAt_some

theorem ret8 {b D : Nat} {W : World} {tmps : Array Value} {err : Int} {v0 v1 v2 v3 v4 v5 v6 v7 v8 v9 : Value} {R : Ending → World → Prop} (h2 : tmps[2]?.getD undef = .pointer (some ⟨b, 0, none⟩)) (h3 : tmps[3]?.getD undef = .int .i64 err)
    (hq : W.heap[b]? = some (.cells #[v0, v1, v2, v3, v4, v5, v6, v7, v8, v9] 23 (0, 0))) (hD : W.heap[D]? = some (.deferred (some []))) (hne : D ≠ b)
    (hR : R (.returned (.tuple #[.agg #[v0, v1, v2, v3, v4, v5, v6, v7, v8, v9], .int .i64 err])) (W.putObj D (.deferred none))) :
    bodyPostM Fence.wide 0 Try.prog Try.f8 R Exit.ret { tmps := tmps, defers := [{ target := .collected D, args := #[] }] } W := by
  have hq' : (W.putObj D (.deferred none)).heap[b]? = some (.cells #[v0, v1, v2, v3, v4, v5, v6, v7, v8, v9] 23 (0, 0)) := (World.putObj_heap_other (by omega)).trans hq
  obtain ⟨z0, z1, z2, z3, z4, z5, z6, z7, z8, z9⟩ := q_all hq'
  refine ⟨by simp, .inl ⟨_, _, rfl, run_takeDeferred hD, ?_⟩⟩
  refine ⟨_, ?_, hR⟩
  generalize W.putObj D (.deferred none) = V at *
  simp only [results, Try.results8]
  simp [go_sem, h2, h3, z0, z1, z2, z3, z4, z5, z6, z7, z8, z9]
end Go.Proofs

namespace Go.Proofs
open Go.RowKit Go.Shelf
set_option maxRecDepth 1000000

theorem set10 {W : World} {b : Nat} {a0 a1 a2 a3 a4 a5 a6 a7 a8 a9 : Value} (h0 : W.heap[b]? = some (.cells #[a0, a1, a2, a3, a4, a5, a6, a7, a8, a9] 23 (0, 0))) (v0 v1 v2 v3 v4 v5 v6 v7 v8 v9 : Value) :
    ((((((((((W.setCell ⟨b, 0, none⟩ v0).setCell ⟨b, 1, none⟩ v1).setCell ⟨b, 2, none⟩ v2).setCell ⟨b, 3, none⟩ v3).setCell ⟨b, 4, none⟩ v4).setCell ⟨b, 5, none⟩ v5).setCell ⟨b, 6, none⟩ v6).setCell ⟨b, 7, none⟩ v7).setCell ⟨b, 8, none⟩ v8).setCell ⟨b, 9, none⟩ v9).heap[b]? = some (.cells #[v0, v1, v2, v3, v4, v5, v6, v7, v8, v9] 23 (0, 0)) := by
  have h1 : (W.setCell ⟨b, 0, none⟩ v0).heap[b]? = some (.cells #[v0, a1, a2, a3, a4, a5, a6, a7, a8, a9] 23 (0, 0)) := rd_set h0 0 v0
  have h2 : ((W.setCell ⟨b, 0, none⟩ v0).setCell ⟨b, 1, none⟩ v1).heap[b]? = some (.cells #[v0, v1, a2, a3, a4, a5, a6, a7, a8, a9] 23 (0, 0)) := rd_set h1 1 v1
  have h3 : (((W.setCell ⟨b, 0, none⟩ v0).setCell ⟨b, 1, none⟩ v1).setCell ⟨b, 2, none⟩ v2).heap[b]? = some (.cells #[v0, v1, v2, a3, a4, a5, a6, a7, a8, a9] 23 (0, 0)) := rd_set h2 2 v2
  have h4 : ((((W.setCell ⟨b, 0, none⟩ v0).setCell ⟨b, 1, none⟩ v1).setCell ⟨b, 2, none⟩ v2).setCell ⟨b, 3, none⟩ v3).heap[b]? = some (.cells #[v0, v1, v2, v3, a4, a5, a6, a7, a8, a9] 23 (0, 0)) := rd_set h3 3 v3
  have h5 : (((((W.setCell ⟨b, 0, none⟩ v0).setCell ⟨b, 1, none⟩ v1).setCell ⟨b, 2, none⟩ v2).setCell ⟨b, 3, none⟩ v3).setCell ⟨b, 4, none⟩ v4).heap[b]? = some (.cells #[v0, v1, v2, v3, v4, a5, a6, a7, a8, a9] 23 (0, 0)) := rd_set h4 4 v4
  have h6 : ((((((W.setCell ⟨b, 0, none⟩ v0).setCell ⟨b, 1, none⟩ v1).setCell ⟨b, 2, none⟩ v2).setCell ⟨b, 3, none⟩ v3).setCell ⟨b, 4, none⟩ v4).setCell ⟨b, 5, none⟩ v5).heap[b]? = some (.cells #[v0, v1, v2, v3, v4, v5, a6, a7, a8, a9] 23 (0, 0)) := rd_set h5 5 v5
  have h7 : (((((((W.setCell ⟨b, 0, none⟩ v0).setCell ⟨b, 1, none⟩ v1).setCell ⟨b, 2, none⟩ v2).setCell ⟨b, 3, none⟩ v3).setCell ⟨b, 4, none⟩ v4).setCell ⟨b, 5, none⟩ v5).setCell ⟨b, 6, none⟩ v6).heap[b]? = some (.cells #[v0, v1, v2, v3, v4, v5, v6, a7, a8, a9] 23 (0, 0)) := rd_set h6 6 v6
  have h8 : ((((((((W.setCell ⟨b, 0, none⟩ v0).setCell ⟨b, 1, none⟩ v1).setCell ⟨b, 2, none⟩ v2).setCell ⟨b, 3, none⟩ v3).setCell ⟨b, 4, none⟩ v4).setCell ⟨b, 5, none⟩ v5).setCell ⟨b, 6, none⟩ v6).setCell ⟨b, 7, none⟩ v7).heap[b]? = some (.cells #[v0, v1, v2, v3, v4, v5, v6, v7, a8, a9] 23 (0, 0)) := rd_set h7 7 v7
  have h9 : (((((((((W.setCell ⟨b, 0, none⟩ v0).setCell ⟨b, 1, none⟩ v1).setCell ⟨b, 2, none⟩ v2).setCell ⟨b, 3, none⟩ v3).setCell ⟨b, 4, none⟩ v4).setCell ⟨b, 5, none⟩ v5).setCell ⟨b, 6, none⟩ v6).setCell ⟨b, 7, none⟩ v7).setCell ⟨b, 8, none⟩ v8).heap[b]? = some (.cells #[v0, v1, v2, v3, v4, v5, v6, v7, v8, a9] 23 (0, 0)) := rd_set h8 8 v8
  have h10 : ((((((((((W.setCell ⟨b, 0, none⟩ v0).setCell ⟨b, 1, none⟩ v1).setCell ⟨b, 2, none⟩ v2).setCell ⟨b, 3, none⟩ v3).setCell ⟨b, 4, none⟩ v4).setCell ⟨b, 5, none⟩ v5).setCell ⟨b, 6, none⟩ v6).setCell ⟨b, 7, none⟩ v7).setCell ⟨b, 8, none⟩ v8).setCell ⟨b, 9, none⟩ v9).heap[b]? = some (.cells #[v0, v1, v2, v3, v4, v5, v6, v7, v8, v9] 23 (0, 0)) := rd_set h9 9 v9
  exact h10

theorem set10_other {W : World} {b k : Nat} (hk : k ≠ b) (v0 v1 v2 v3 v4 v5 v6 v7 v8 v9 : Value) :
    ((((((((((W.setCell ⟨b, 0, none⟩ v0).setCell ⟨b, 1, none⟩ v1).setCell ⟨b, 2, none⟩ v2).setCell ⟨b, 3, none⟩ v3).setCell ⟨b, 4, none⟩ v4).setCell ⟨b, 5, none⟩ v5).setCell ⟨b, 6, none⟩ v6).setCell ⟨b, 7, none⟩ v7).setCell ⟨b, 8, none⟩ v8).setCell ⟨b, 9, none⟩ v9).heap[k]? = W.heap[k]? := by
  rw [setCell_other hk, setCell_other hk, setCell_other hk, setCell_other hk, setCell_other hk, setCell_other hk, setCell_other hk, setCell_other hk, setCell_other hk, setCell_other hk]

theorem set10_cell {W : World} {b k o : Nat} (hk : k ≠ b) (v0 v1 v2 v3 v4 v5 v6 v7 v8 v9 : Value) :
    ((((((((((W.setCell ⟨b, 0, none⟩ v0).setCell ⟨b, 1, none⟩ v1).setCell ⟨b, 2, none⟩ v2).setCell ⟨b, 3, none⟩ v3).setCell ⟨b, 4, none⟩ v4).setCell ⟨b, 5, none⟩ v5).setCell ⟨b, 6, none⟩ v6).setCell ⟨b, 7, none⟩ v7).setCell ⟨b, 8, none⟩ v8).setCell ⟨b, 9, none⟩ v9).cell? ⟨k, o, none⟩ = W.cell? ⟨k, o, none⟩ :=
  World.cell?_of_block (set10_other hk _ _ _ _ _ _ _ _ _ _)

theorem below_put {B D : Nat} {a W : World} (h : Below B a W) (hD : B ≤ D) (o : Obj) : Below B a (W.putObj D o) :=
  h.trans ⟨rfl, rfl, rfl, by simp, fun k hk => World.putObj_heap_other (by omega)⟩

theorem RS.drew {b g : Nat} {W0 W : World} {ws : List ByteArray} {bad great : Bool} (h : RS b g W0 W ws bad great) : RS b g W0 W.drew ws bad great := h.below ((Below.refl _ _).drew)
theorem RS.alloc {b g : Nat} {W0 W : World} {ws : List ByteArray} {bad great : Bool} (h : RS b g W0 W ws bad great) (o : Obj) : RS b g W0 (W.alloc o) ws bad great := h.below ((Below.refl _ _).alloc (Nat.le_refl _) o)

/-- what a call that only turns the reader leaves alone, as rules for the walk -/
theorem Only.rules {b : Nat} {W w1 : World} (h : Only (b + 1) W w1) (hp : b + 1 + 1 < W.heap.size) :
    (∀ k o, b + 1 < k → k < W.heap.size → w1.cell? ⟨k, o, none⟩ = W.cell? ⟨k, o, none⟩) ∧ (∀ k o, b + 1 < k → k < W.heap.size → w1.frozen? ⟨k, o, none⟩ = W.frozen? ⟨k, o, none⟩) ∧ (∀ k, k < W.heap.size → k < w1.heap.size) ∧ b + 1 < w1.heap.size :=
  ⟨fun k o h1 h2 => World.cell?_of_block (h.block k h2 (by omega)), fun k o h1 h2 => World.frozen?_of_block (h.block k h2 (by omega)), fun k hk => Nat.lt_of_lt_of_le hk h.size, by have := h.size; omega⟩

theorem number17r {b g : Nat} {W0 W : World} {ws : List ByteArray} {bad great : Bool} (h : RS b g W0 W ws bad great) :
    Calls Try.prog 17 #[.pointer (some ⟨b + 1, 0, none⟩)] W fun e W' => e = .returned (.int .i64 (parseN (hd ws)).1) ∧ RS b g W0 W' ws.tail (numBad ws bad) (numGreat ws great) ∧ Only (b + 1) W W' ∧ b + 1 + 1 < W.heap.size :=
  (number17 h.rd h.all.hd.1 h.all.hd.2).mono fun _ _ ⟨h1, h2, h3⟩ => ⟨h1, ⟨h2, h.only.trans h3, h.all.tail, h.ptr0⟩, h3, h.plt⟩

/-- the query under way, in a block q that was made since W0 -/
structure QS (W0 : World) (q : Nat) (W : World) (c : Array Value) : Prop where
  ge : W0.heap.size ≤ q
  row : W.heap[q]? = some (.cells c 23 (0, 0))

def sfB : ByteArray := ⟨#[115, 116, 101, 112, 45, 102, 114, 101, 101]⟩
def biB : ByteArray := ⟨#[98, 105, 99, 121, 99, 108, 101]⟩
def chB : ByteArray := ⟨#[99, 104, 97, 110, 103, 105, 110, 103]⟩

/-- what the program's ParseQuery reads out of the words, flags and all -/
def progQ (ws : List ByteArray) : Qy :=
  let w4 := ws.tail.tail.tail.tail
  let w7 := w4.tail.tail.tail
  ⟨(parseN (hd ws)).1, (parseN (hd ws.tail)).1, (parseN (hd ws.tail.tail)).1, (hd ws.tail.tail.tail).toList == bwdL, (parseN (hd w4)).1, (parseN (hd w4.tail)).1, flagHit w7 sfB, flagHit (flagDrop w7 sfB) biB, (parseN (hd w4.tail.tail)).1, flagHit (flagDrop (flagDrop w7 sfB) biB) chB⟩

def progBad (ws : List ByteArray) : Bool :=
  let w4 := ws.tail.tail.tail.tail
  numBad w4.tail.tail (numBad w4.tail (numBad w4 (dirBad ws.tail.tail.tail (numBad ws.tail.tail (numBad ws.tail (numBad ws false))))))

def progGreat (ws : List ByteArray) : Bool :=
  let w4 := ws.tail.tail.tail.tail
  numGreat w4.tail.tail (numGreat w4.tail (numGreat w4 (numGreat ws.tail.tail (numGreat ws.tail (numGreat ws false)))))

def progRest (ws : List ByteArray) : List ByteArray := flagDrop (flagDrop (flagDrop ws.tail.tail.tail.tail.tail.tail.tail sfB) biB) chB

def parseProg (ws : List ByteArray) : Qy × Int :=
  if ws.any isNeg then (zeroQy, 3) else if progBad ws || !(progRest ws).isEmpty then (zeroQy, 3) else if progGreat ws || !(progQ ws).valid then (zeroQy, 22) else (progQ ws, 0)

theorem allW_of {ls : List (List UInt8)} (h1 : ∀ x ∈ ls, x.length ≤ 70000) (h2 : (ls.map mkB).any isNeg = false) : AllW (ls.map mkB) := by
  intro y hy
  have hy' := hy
  rw [List.mem_map] at hy
  obtain ⟨x, hx, rfl⟩ := hy
  refine ⟨?_, fun h => ?_⟩
  · have := h1 x hx
    rw [mkB_size]
    omega
  · intro e
    have h3 : isNeg (mkB x) = false := by
      cases hn : isNeg (mkB x) with
      | false => rfl
      | true => rw [List.any_eq_true.2 ⟨_, hy', hn⟩] at h2; cases h2
    have h4 := head_get (mkB x) h
    have h5 : (mkB x)[0] = 45 := UInt8.toNat_inj.1 e
    rw [h5] at h4
    unfold isNeg at h3
    cases hl : (mkB x).data.toList with
    | nil => rw [hl] at h4; cases h4
    | cons a t =>
      rw [hl] at h4 h3
      simp only [List.head?_cons, Option.some.injEq] at h4
      subst h4
      simp [Lib.hasPrefix] at h3
end Go.Proofs

namespace Go.Proofs
open Go.RowKit Go.Shelf
set_option maxRecDepth 1000000

theorem Rd.below_of {B : Nat} {w w' : World} {p g : Nat} {ws : List ByteArray} {bad great : Bool} (h : Rd w p g ws bad great) (hb : Below B w w') (hp : p < B) (hg : g < B) : Rd w' p g ws bad great := by
  obtain ⟨off, cap, h1, h2, h3, h4⟩ := h.row
  exact ⟨h.ne, Nat.lt_of_lt_of_le h.lt hb.size, off, cap, by rw [hb.block p hp]; exact h1, h2, h3, fun j x hx => by rw [hb.cell (p := ⟨g, off + j, none⟩) hg]; exact h4 j x hx⟩

/-- stores into blocks that are younger than W0 leave the reader's state -/
theorem RS.young {b g : Nat} {W0 W W' : World} {ws : List ByteArray} {bad great : Bool} (h : RS b g W0 W ws bad great) (hg : g < W0.heap.size) (hb : Below W0.heap.size W W') : RS b g W0 W' ws bad great := by
  have h2 : b + 2 < W0.heap.size := (Array.getElem?_eq_some_iff.1 h.ptr0).1
  exact ⟨h.rd.below_of hb (by omega) hg, ⟨hb.os.trans h.only.os, hb.tape.trans h.only.tape, hb.output.trans h.only.output, Nat.le_trans h.only.size hb.size, fun k hk hn => (hb.block k hk).trans (h.only.block k hk hn)⟩, h.all, h.ptr0⟩
theorem Only.rowr {b : Nat} {W w1 : World} (h : Only (b + 1) W w1) : ∀ k, b + 1 < k → k < W.heap.size → w1.heap[k]? = W.heap[k]? :=
  fun k h1 h2 => h.block k h2 (by omega)
theorem q10 {W : World} {q : Nat} {a0 a1 a2 a3 a4 a5 a6 a7 a8 a9 : Value} (h : W.heap[q]? = some (.cells #[a0, a1, a2, a3, a4, a5, a6, a7, a8, a9] 23 (0, 0))) :
    (∀ o, W.frozen? ⟨q, o, none⟩ = false) ∧ q < W.heap.size ∧ (W.cell? ⟨q, 3, none⟩ = some a3 ∧ W.cell? ⟨q, 4, none⟩ = some a4 ∧ W.cell? ⟨q, 5, none⟩ = some a5 ∧ W.cell? ⟨q, 6, none⟩ = some a6 ∧ W.cell? ⟨q, 7, none⟩ = some a7 ∧ W.cell? ⟨q, 8, none⟩ = some a8 ∧ W.cell? ⟨q, 9, none⟩ = some a9) :=
  ⟨fun o => by simp [World.frozen?, h], (Array.getElem?_eq_some_iff.1 h).1, by simp [World.cell?, h], by simp [World.cell?, h], by simp [World.cell?, h], by simp [World.cell?, h], by simp [World.cell?, h], by simp [World.cell?, h], by simp [World.cell?, h]⟩

theorem direction18r {b g : Nat} {W0 W : World} {ws : List ByteArray} {bad great : Bool} (h : RS b g W0 W ws bad great) :
    Calls Try.prog 18 #[.pointer (some ⟨b + 1, 0, none⟩)] W fun e W' => e = .returned (.bool ((hd ws).toList == bwdL)) ∧ RS b g W0 W' ws.tail (dirBad ws bad) great ∧ Only (b + 1) W W' :=
  (direction18 h.rd).mono fun _ _ ⟨h1, h2, h3⟩ => ⟨h1, ⟨h2, h.only.trans h3, h.all.tail, h.ptr0⟩, h3⟩
theorem cell_set_other {W : World} {b k o o' : Nat} {v : Value} {x : Option Value} (hk : k ≠ b) (h : W.cell? ⟨k, o, none⟩ = x) : (W.setCell ⟨b, o', none⟩ v).cell? ⟨k, o, none⟩ = x :=
  (World.cell?_of_block (Below.heap_setCell W ⟨b, o', none⟩ v k hk)).trans h
theorem flag19r {b g : Nat} {W0 W : World} {ws : List ByteArray} {bad great : Bool} (x : ByteArray) (h : RS b g W0 W ws bad great) :
    Calls Try.prog 19 #[.pointer (some ⟨b + 1, 0, none⟩), .string x] W fun e W' => e = .returned (.bool (flagHit ws x)) ∧ RS b g W0 W' (flagDrop ws x) bad great ∧ Only (b + 1) W W' ∧ b + 1 + 1 < W.heap.size :=
  (flag19 x h.rd).mono fun _ _ ⟨h1, h2, h3⟩ => ⟨h1, ⟨h2, h.only.trans h3, by
    unfold flagDrop
    cases flagHit ws x with
    | false => exact h.all
    | true => exact h.all.tail, h.ptr0⟩, h3, h.plt⟩
end Go.Proofs
