/-
  A part of the proof: lemmas of my own.
-/
import Derived.Test.YtpfkdbhflciifaaGreatDoorCmp
import Derived.Test.YtpfkdbhflciifaaGreatDoorXRh
import Derived.WalkKit
import Derived.Lib.Hide
set_option linter.unusedVariables false
set_option linter.unusedSimpArgs false
namespace Go.Proofs
open Go Go.AV Go.RowKit
set_option maxRecDepth 1000000

theorem ex_any (w : World) : Calls Tryz.prog 6 #[] w fun e w' => e = .returned (.bool true) ∧ Below w.heap.size w w' :=
  (calls_of_ent e50_ok w).mono fun _ _ ⟨h1, h2, h3, h4, h5, h6⟩ => ⟨h1, ⟨h2, h3, h4, h5, h6⟩⟩

theorem dom_not_both (a0 a1 a2 a3 b0 b1 b2 b3 : Int) : ¬ (domB a0 a1 a2 a3 b0 b1 b2 b3 = true ∧ domB b0 b1 b2 b3 a0 a1 a2 a3 = true) := by
  simp only [domB, eq4, leB, Bool.and_eq_true, Bool.not_eq_true', decide_eq_true_eq, decide_eq_false_iff_not]
  rintro ⟨⟨h1, h2⟩, ⟨h3, h4⟩⟩
  exact h1 ⟨by omega, by omega, by omega, by omega⟩

theorem heap_allocL (w : World) (o : Obj) : (w.alloc o).heap[w.heap.size]? = some o := by show (w.heap.push o)[w.heap.size]? = some o; exact Array.getElem?_push_size
theorem cells10 {w : World} {b : Nat} {e : TypeId} {v0 v1 v2 v3 v4 v5 v6 v7 v8 v9 : Value} (h : w.heap[b]? = some (.cells #[v0, v1, v2, v3, v4, v5, v6, v7, v8, v9] e (0, 0))) :
    w.cell? ⟨b, 0, none⟩ = some v0 ∧ w.cell? ⟨b, 1, none⟩ = some v1 ∧ w.cell? ⟨b, 2, none⟩ = some v2 ∧ w.cell? ⟨b, 3, none⟩ = some v3 ∧ w.cell? ⟨b, 4, none⟩ = some v4 ∧ w.cell? ⟨b, 5, none⟩ = some v5 ∧ w.cell? ⟨b, 6, none⟩ = some v6 ∧ w.cell? ⟨b, 7, none⟩ = some v7 ∧ w.cell? ⟨b, 8, none⟩ = some v8 ∧ w.cell? ⟨b, 9, none⟩ = some v9 := by
  refine ⟨?_, ?_, ?_, ?_, ?_, ?_, ?_, ?_, ?_, ?_⟩ <;> simp [World.cell?, h]
theorem cells5 {w : World} {b : Nat} {e : TypeId} {v0 v1 v2 v3 v4 : Value} (h : w.heap[b]? = some (.cells #[v0, v1, v2, v3, v4] e (0, 0))) :
    w.cell? ⟨b, 0, none⟩ = some v0 ∧ w.cell? ⟨b, 1, none⟩ = some v1 ∧ w.cell? ⟨b, 2, none⟩ = some v2 ∧ w.cell? ⟨b, 3, none⟩ = some v3 ∧ w.cell? ⟨b, 4, none⟩ = some v4 := by
  refine ⟨?_, ?_, ?_, ?_, ?_⟩ <;> simp [World.cell?, h]

/-- the three arguments' blocks -/
structure Rows3 (w W : World) (q c c' : Array Value) : Prop where
  r0 : W.heap[w.heap.size]? = some (.cells q 23 (0, 0))
  r1 : W.heap[w.heap.size + 1]? = some (.cells c 25 (0, 0))
  r2 : W.heap[w.heap.size + 1 + 1]? = some (.cells c' 25 (0, 0))
  bel : Below w.heap.size w W

theorem Rows3.lt {w W : World} {q c c' : Array Value} (h : Rows3 w W q c c') : w.heap.size + 1 + 1 < W.heap.size := (Array.getElem?_eq_some_iff.1 h.r2).1
theorem Rows3.after {w W W' : World} {q c c' : Array Value} (h : Rows3 w W q c c') (hb : Below W.heap.size W W') : Rows3 w W' q c c' := by
  have := h.lt
  exact ⟨(hb.block _ (by omega)).trans h.r0, (hb.block _ (by omega)).trans h.r1, (hb.block _ (by omega)).trans h.r2, h.bel.trans (hb.mono (by omega))⟩
theorem Rows3.start (w : World) (q c c' : Array Value) : Rows3 w (((w.alloc (.cells q 23)).alloc (.cells c 25)).alloc (.cells c' 25)) q c c' := by
  have e1 : (w.alloc (.cells q 23)).heap.size = w.heap.size + 1 := by simp
  have e2 : ((w.alloc (.cells q 23)).alloc (.cells c 25)).heap.size = w.heap.size + 1 + 1 := by simp
  refine ⟨?_, ?_, ?_, (((Below.refl _ _).alloc (Nat.le_refl _) _).alloc (by simp) _).alloc (by simp; omega) _⟩
  · rw [Below.heap_alloc _ _ _ (by omega), Below.heap_alloc _ _ _ (by omega)]; exact heap_allocL _ _
  · rw [Below.heap_alloc _ _ _ (by omega), ← e1]; exact heap_allocL _ _
  · rw [← e2]; exact heap_allocL _ _

theorem lawC (f t m : Int) (b : Bool) (r k : Int) (sf bi : Bool) (o : Int) (ch : Bool) (d a x y z d' a' x' y' z' : Int) (w : World) :
    Calls Tryz.prog 3 #[.agg #[.int .i64 f, .int .i64 t, .int .i64 m, .bool b, .int .i64 r, .int .i64 k, .bool sf, .bool bi, .int .i64 o, .bool ch], .agg #[.int .i64 d, .int .i64 a, .int .i64 x, .int .i64 y, .int .i64 z], .agg #[.int .i64 d', .int .i64 a', .int .i64 x', .int .i64 y', .int .i64 z']] w fun e w' => e = .returned (.bool true) ∧ Below w.heap.size w w' := by
  have nb := dom_not_both (first b d a) x y z (first b d' a') x' y' z'
  have C4 := Lib.hid fun w => cmp4 f t m b r k sf bi o ch d a x y z d' a' x' y' z' w
  have C4' := Lib.hid fun w => cmp4 f t m b r k sf bi o ch d' a' x' y' z' d a x y z w
  have C5 := Lib.hid fun w => cmp5 f t m b r k sf bi o ch d a x y z d' a' x' y' z' w
  unfold cmpV at C4 C4' C5
  generalize domB (first b d a) x y z (first b d' a') x' y' z' = u at C4 C4' C5 nb
  generalize domB (first b d' a') x' y' z' (first b d a) x y z = v at C4 C4' C5 nb
  cases u <;> cases v
  case true.true => exact absurd ⟨rfl, rfl⟩ nb
  all_goals
    go_enter Tryz.func3, Tryz.ntmps3
    have R0 := Rows3.start w #[.int .i64 f, .int .i64 t, .int .i64 m, .bool b, .int .i64 r, .int .i64 k, .bool sf, .bool bi, .int .i64 o, .bool ch] #[.int .i64 d, .int .i64 a, .int .i64 x, .int .i64 y, .int .i64 z] #[.int .i64 d', .int .i64 a', .int .i64 x', .int .i64 y', .int .i64 z']
    go_upto_region 2 with (go_at_call 4; refine (C4.out _).mono ?_; rintro e w1 ⟨rfl, hb⟩; have R1 := R0.after hb; clear hb R0)
    have lt1 := R1.lt
    obtain ⟨y0, y1, y2, y3, y4, y5, y6, y7, y8, y9⟩ := cells10 R1.r0
    obtain ⟨x0, x1, x2, x3, x4⟩ := cells5 R1.r1
    obtain ⟨z0, z1, z2, z3, z4⟩ := cells5 R1.r2
    go_upto_region 3 with (go_at_call 5; refine (C5.out _).mono ?_; rintro e w2 ⟨rfl, hb⟩; have R2 := R1.after hb; clear hb R1 y0 y1 y2 y3 y4 y5 y6 y7 y8 y9 x0 x1 x2 x3 x4 z0 z1 z2 z3 z4 lt1)
    have lt2 := R2.lt
    obtain ⟨y0, y1, y2, y3, y4, y5, y6, y7, y8, y9⟩ := cells10 R2.r0
    obtain ⟨x0, x1, x2, x3, x4⟩ := cells5 R2.r1
    obtain ⟨z0, z1, z2, z3, z4⟩ := cells5 R2.r2
    go_upto_region 4 with (go_at_call 4; refine (C4'.out _).mono ?_; rintro e w3 ⟨rfl, hb⟩; have R3 := R2.after hb; clear hb R2 y0 y1 y2 y3 y4 y5 y6 y7 y8 y9 x0 x1 x2 x3 x4 z0 z1 z2 z3 z4 lt2)
    go_wp2_with (go_at_call 6; refine (ex_any _).mono ?_; rintro e w4 ⟨rfl, hb⟩)
    refine bodyPost_ret (v := .bool true) (by simp [results, Tryz.results3, go_sem]) rfl ?_
    exact ⟨rfl, (R3.after hb).bel⟩
end Go.Proofs
