/-
  A part of the proof: lemmas of my own.
-/
import Derived.Test.YtpfkdbhflciifaaGreatDoorProg
import Derived.WalkKit
import Derived.DeepKeys
import Derived.KernelRfl
import Derived.Below
import Derived.Lib.Hide
import Derived.LoopTactic
import Derived.RegionTactic
import Derived.Deep.DeepCutAuto
set_option linter.unusedVariables false
set_option linter.unusedSimpArgs false
namespace Go.Proofs
open Go Go.RowKit
set_option maxRecDepth 1000000
def eq4 (a0 a1 a2 a3 b0 b1 b2 b3 : Int) : Bool := decide (a0 = b0 ∧ a1 = b1 ∧ a2 = b2 ∧ a3 = b3)
theorem cells3 : Tryz.prog.cellsOf 3 = 1 := by kernel_rfl
theorem plain3 : Tryz.prog.plainKey 3 = true := by kernel_rfl

theorem item_step (i : Nat) (is : List Nat) (xs ys : Array Value) (a b : Int) (w : World) (hx : xs[i]? = some (.int .i64 a)) (hy : ys[i]? = some (.int .i64 b)) :
    (Op.eqItems 9999 3 1 xs ys (i :: is)).run Tryz.prog w = if a = b then (Op.eqItems 9999 3 1 xs ys is).run Tryz.prog w else .ok false w := by
  have h1 := run_part_plain (P := Tryz.prog) w plain3 (xs := xs) (off := i * 1) (v := .int .i64 a) (by rw [Nat.mul_one]; exact hx)
  have h2 := run_part_plain (P := Tryz.prog) w plain3 (xs := ys) (off := i * 1) (v := .int .i64 b) (by rw [Nat.mul_one]; exact hy)
  have h3 : (Op.equalIn 9999 3 (.int .i64 a) (.int .i64 b)).run Tryz.prog w = .ok (a == b) w := run_equalIn_int w 9998 3 .i64 .i64 a b Tryz.underlying3
  simp only [Op.eqItems, Sem.run_bind, h1, h2, h3, Result.andThen_ok]
  by_cases e : a = b
  · simp [e]
  · simp [e]

theorem items4 (a0 a1 a2 a3 b0 b1 b2 b3 : Int) (w : World) : (Op.eqItems 9999 3 1 #[.int .i64 a0, .int .i64 a1, .int .i64 a2, .int .i64 a3] #[.int .i64 b0, .int .i64 b1, .int .i64 b2, .int .i64 b3] [0, 1, 2, 3]).run Tryz.prog w = .ok (eq4 a0 a1 a2 a3 b0 b1 b2 b3) w := by
  rw [item_step 0 _ _ _ a0 b0 w rfl rfl, item_step 1 _ _ _ a1 b1 w rfl rfl, item_step 2 _ _ _ a2 b2 w rfl rfl, item_step 3 _ _ _ a3 b3 w rfl rfl]
  unfold eq4
  by_cases e0 : a0 = b0
  · by_cases e1 : a1 = b1
    · by_cases e2 : a2 = b2
      · by_cases e3 : a3 = b3
        · simp [e0, e1, e2, e3, Op.eqItems]
        · simp [e0, e1, e2, e3]
      · simp [e0, e1, e2]
    · simp [e0, e1]
  · simp [e0]
theorem arr30 (a0 a1 a2 a3 b0 b1 b2 b3 : Int) (w : World) :
    (Op.equalIn 10000 30 (.agg #[.int .i64 a0, .int .i64 a1, .int .i64 a2, .int .i64 a3]) (.agg #[.int .i64 b0, .int .i64 b1, .int .i64 b2, .int .i64 b3])).run Tryz.prog w = .ok (eq4 a0 a1 a2 a3 b0 b1 b2 b3) w := by
  obtain ⟨i, hi⟩ : ∃ i, Tryz.prog.info? 3 = some i := info_of_underlying Tryz.underlying3
  rw [show (10000 : Nat) = 9999 + 1 from rfl, run_equalIn_array w 9999 _ _ Tryz.underlying30 hi, show List.range 4 = [0, 1, 2, 3] from rfl, cells3]
  exact items4 a0 a1 a2 a3 b0 b1 b2 b3 w
theorem arr31 (a0 a1 a2 a3 b0 b1 b2 b3 : Int) (w : World) :
    (Op.equalIn 10000 31 (.agg #[.int .i64 a0, .int .i64 a1, .int .i64 a2, .int .i64 a3]) (.agg #[.int .i64 b0, .int .i64 b1, .int .i64 b2, .int .i64 b3])).run Tryz.prog w = .ok (eq4 a0 a1 a2 a3 b0 b1 b2 b3) w := by
  obtain ⟨i, hi⟩ : ∃ i, Tryz.prog.info? 3 = some i := info_of_underlying Tryz.underlying3
  rw [show (10000 : Nat) = 9999 + 1 from rfl, run_equalIn_array w 9999 _ _ Tryz.underlying31 hi, show List.range 4 = [0, 1, 2, 3] from rfl, cells3]
  exact items4 a0 a1 a2 a3 b0 b1 b2 b3 w
end Go.Proofs

namespace Go.Proofs
open Go.RowKit
set_option maxRecDepth 1000000

def leB (a0 a1 a2 a3 b0 b1 b2 b3 : Int) : Bool := decide (a0 ≤ b0) && decide (a1 ≤ b1) && decide (a2 ≤ b2) && decide (a3 ≤ b3)
def domB (a0 a1 a2 a3 b0 b1 b2 b3 : Int) : Bool := !eq4 a0 a1 a2 a3 b0 b1 b2 b3 && leB a0 a1 a2 a3 b0 b1 b2 b3

theorem four_cells {w : World} {b : Nat} {e : TypeId} {v0 v1 v2 v3 : Value} (h : w.heap[b]? = some (.cells #[v0, v1, v2, v3] e (0, 0))) :
    w.cell? ⟨b, 0, none⟩ = some v0 ∧ w.cell? ⟨b, 1, none⟩ = some v1 ∧ w.cell? ⟨b, 2, none⟩ = some v2 ∧ w.cell? ⟨b, 3, none⟩ = some v3 ∧ (∀ o, w.frozen? ⟨b, o, none⟩ = false) ∧ b < w.heap.size :=
  ⟨by simp [World.cell?, h], by simp [World.cell?, h], by simp [World.cell?, h], by simp [World.cell?, h], fun o => by simp [World.frozen?, h], (Array.getElem?_eq_some_iff.1 h).1⟩

theorem heap_allocC (w : World) (o : Obj) : (w.alloc o).heap[w.heap.size]? = some o := by show (w.heap.push o)[w.heap.size]? = some o; exact Array.getElem?_push_size

set_option maxHeartbeats 2000000 in
theorem below14 (a0 a1 a2 a3 b0 b1 b2 b3 : Int) (w : World) :
    Calls Tryz.prog 14 #[.agg #[.int .i64 a0, .int .i64 a1, .int .i64 a2, .int .i64 a3], .agg #[.int .i64 b0, .int .i64 b1, .int .i64 b2, .int .i64 b3]] w fun e w' => e = .returned (.bool (leB a0 a1 a2 a3 b0 b1 b2 b3)) ∧ Below w.heap.size w w' := by
  go_enter Tryz.func14, Tryz.ntmps14
  go_wp2
  have hbel : Below w.heap.size w ((w.alloc (.cells #[.int .i64 a0, .int .i64 a1, .int .i64 a2, .int .i64 a3] 31)).alloc (.cells #[.int .i64 b0, .int .i64 b1, .int .i64 b2, .int .i64 b3] 31)) := ((Below.refl _ _).alloc (Nat.le_refl _) _).alloc (by simp) _
  have hr1 : ((w.alloc (.cells #[.int .i64 a0, .int .i64 a1, .int .i64 a2, .int .i64 a3] 31)).alloc (.cells #[.int .i64 b0, .int .i64 b1, .int .i64 b2, .int .i64 b3] 31)).heap[w.heap.size]? = some (.cells #[.int .i64 a0, .int .i64 a1, .int .i64 a2, .int .i64 a3] 31 (0, 0)) := (Below.heap_alloc _ _ _ (by simp)).trans (heap_allocC _ _)
  have hr2 : ((w.alloc (.cells #[.int .i64 a0, .int .i64 a1, .int .i64 a2, .int .i64 a3] 31)).alloc (.cells #[.int .i64 b0, .int .i64 b1, .int .i64 b2, .int .i64 b3] 31)).heap[w.heap.size + 1]? = some (.cells #[.int .i64 b0, .int .i64 b1, .int .i64 b2, .int .i64 b3] 31 (0, 0)) := by
    have := heap_allocC (w.alloc (.cells #[.int .i64 a0, .int .i64 a1, .int .i64 a2, .int .i64 a3] 31)) (.cells #[.int .i64 b0, .int .i64 b1, .int .i64 b2, .int .i64 b3] 31)
    simpa using this
  go_loopw [6] (fun i wr => ((i = .int .i64 0) ∨ (i = .int .i64 1 ∧ a0 ≤ b0) ∨ (i = .int .i64 2 ∧ a0 ≤ b0 ∧ a1 ≤ b1) ∨ (i = .int .i64 3 ∧ a0 ≤ b0 ∧ a1 ≤ b1 ∧ a2 ≤ b2) ∨ (i = .int .i64 4 ∧ a0 ≤ b0 ∧ a1 ≤ b1 ∧ a2 ≤ b2 ∧ a3 ≤ b3)) ∧ wr.heap[w.heap.size]? = some (.cells #[.int .i64 a0, .int .i64 a1, .int .i64 a2, .int .i64 a3] 31 (0, 0)) ∧ wr.heap[w.heap.size + 1]? = some (.cells #[.int .i64 b0, .int .i64 b1, .int .i64 b2, .int .i64 b3] 31 (0, 0)) ∧ Below w.heap.size w wr) (fun i _ => 4 - (intOf i).toNat)
  case atStart => exact ⟨.inl rfl, hr1, hr2, hbel⟩
  case round =>
    clear hbel hr1 hr2
    obtain ⟨hrel, hr1, hr2, hbel⟩ := hrel
    obtain ⟨c0, c1, c2, c3, cf, cl⟩ := four_cells hr1
    obtain ⟨d0, d1, d2, d3, df, dl⟩ := four_cells hr2
    have H1 := Lib.hid hr1
    have H2 := Lib.hid hr2
    clear hr1 hr2
    rcases hrel with rfl | ⟨rfl, h0⟩ | ⟨rfl, h0, h1⟩ | ⟨rfl, h0, h1, h2⟩ | ⟨rfl, h0, h1, h2, h3⟩
    · by_cases hc : b0 < a0
      · have HL := Lib.hid (show leB a0 a1 a2 a3 b0 b1 b2 b3 = false by simp [domB, leB, show ¬ a0 ≤ b0 by omega])
        go_upto_region 4 with fail
        go_region
        go_wp2
        go_ret
        exact ⟨by rw [HL.out]; rfl, hbel.drew⟩
      · have HC := Lib.hid (show a0 ≤ b0 by omega)
        go_upto_region 4 with fail
        go_region
        go_wp2
        go_roundw
        case rel => exact ⟨.inr (.inl ⟨rfl, HC.out⟩), H1.out, H2.out, hbel.drew⟩
        case measure => simp [intOf]
    · by_cases hc : b1 < a1
      · have HL := Lib.hid (show leB a0 a1 a2 a3 b0 b1 b2 b3 = false by simp [domB, leB, show ¬ a1 ≤ b1 by omega])
        go_upto_region 4 with fail
        go_region
        go_wp2
        go_ret
        exact ⟨by rw [HL.out]; rfl, hbel.drew⟩
      · have HC := Lib.hid (show a1 ≤ b1 by omega)
        go_upto_region 4 with fail
        go_region
        go_wp2
        go_roundw
        case rel => exact ⟨.inr (.inr (.inl ⟨rfl, h0, HC.out⟩)), H1.out, H2.out, hbel.drew⟩
        case measure => simp [intOf]
    · by_cases hc : b2 < a2
      · have HL := Lib.hid (show leB a0 a1 a2 a3 b0 b1 b2 b3 = false by simp [domB, leB, show ¬ a2 ≤ b2 by omega])
        go_upto_region 4 with fail
        go_region
        go_wp2
        go_ret
        exact ⟨by rw [HL.out]; rfl, hbel.drew⟩
      · have HC := Lib.hid (show a2 ≤ b2 by omega)
        go_upto_region 4 with fail
        go_region
        go_wp2
        go_roundw
        case rel => exact ⟨.inr (.inr (.inr (.inl ⟨rfl, h0, h1, HC.out⟩))), H1.out, H2.out, hbel.drew⟩
        case measure => simp [intOf]
    · by_cases hc : b3 < a3
      · have HL := Lib.hid (show leB a0 a1 a2 a3 b0 b1 b2 b3 = false by simp [domB, leB, show ¬ a3 ≤ b3 by omega])
        go_upto_region 4 with fail
        go_region
        go_wp2
        go_ret
        exact ⟨by rw [HL.out]; rfl, hbel.drew⟩
      · have HC := Lib.hid (show a3 ≤ b3 by omega)
        go_upto_region 4 with fail
        go_region
        go_wp2
        go_roundw
        case rel => exact ⟨.inr (.inr (.inr (.inr (⟨rfl, h0, h1, h2, HC.out⟩)))), H1.out, H2.out, hbel.drew⟩
        case measure => simp [intOf]
    · have HL := Lib.hid (show leB a0 a1 a2 a3 b0 b1 b2 b3 = true by simp [leB, h0, h1, h2, h3])
      have HE : (leB a0 a1 a2 a3 b0 b1 b2 b3) = (true) := by simp [domB, HL.out]
      have HE := Lib.hid HE
      go_wp2
      go_ret
      exact ⟨by rw [HE.out]; rfl, hbel⟩

set_option maxHeartbeats 2000000 in
theorem dom10 (a0 a1 a2 a3 b0 b1 b2 b3 : Int) (w : World) :
    Calls Tryz.prog 10 #[.agg #[.int .i64 a0, .int .i64 a1, .int .i64 a2, .int .i64 a3], .agg #[.int .i64 b0, .int .i64 b1, .int .i64 b2, .int .i64 b3]] w fun e w' => e = .returned (.bool (domB a0 a1 a2 a3 b0 b1 b2 b3)) ∧ Below w.heap.size w w' := by
  have HQ := Lib.hid fun w => arr30 a0 a1 a2 a3 b0 b1 b2 b3 w
  go_enter Tryz.func10, Tryz.ntmps10
  go_wp2
  have hbel : Below w.heap.size w ((w.alloc (.cells #[.int .i64 a0, .int .i64 a1, .int .i64 a2, .int .i64 a3] 30)).alloc (.cells #[.int .i64 b0, .int .i64 b1, .int .i64 b2, .int .i64 b3] 30)) := ((Below.refl _ _).alloc (Nat.le_refl _) _).alloc (by simp) _
  have hr1 : ((w.alloc (.cells #[.int .i64 a0, .int .i64 a1, .int .i64 a2, .int .i64 a3] 30)).alloc (.cells #[.int .i64 b0, .int .i64 b1, .int .i64 b2, .int .i64 b3] 30)).heap[w.heap.size]? = some (.cells #[.int .i64 a0, .int .i64 a1, .int .i64 a2, .int .i64 a3] 30 (0, 0)) := (Below.heap_alloc _ _ _ (by simp)).trans (heap_allocC _ _)
  have hr2 : ((w.alloc (.cells #[.int .i64 a0, .int .i64 a1, .int .i64 a2, .int .i64 a3] 30)).alloc (.cells #[.int .i64 b0, .int .i64 b1, .int .i64 b2, .int .i64 b3] 30)).heap[w.heap.size + 1]? = some (.cells #[.int .i64 b0, .int .i64 b1, .int .i64 b2, .int .i64 b3] 30 (0, 0)) := by
    have := heap_allocC (w.alloc (.cells #[.int .i64 a0, .int .i64 a1, .int .i64 a2, .int .i64 a3] 30)) (.cells #[.int .i64 b0, .int .i64 b1, .int .i64 b2, .int .i64 b3] 30)
    simpa using this
  go_loopw [5] (fun i wr => ((i = .int .i64 0) ∨ (i = .int .i64 1 ∧ a0 ≤ b0) ∨ (i = .int .i64 2 ∧ a0 ≤ b0 ∧ a1 ≤ b1) ∨ (i = .int .i64 3 ∧ a0 ≤ b0 ∧ a1 ≤ b1 ∧ a2 ≤ b2) ∨ (i = .int .i64 4 ∧ a0 ≤ b0 ∧ a1 ≤ b1 ∧ a2 ≤ b2 ∧ a3 ≤ b3)) ∧ wr.heap[w.heap.size]? = some (.cells #[.int .i64 a0, .int .i64 a1, .int .i64 a2, .int .i64 a3] 30 (0, 0)) ∧ wr.heap[w.heap.size + 1]? = some (.cells #[.int .i64 b0, .int .i64 b1, .int .i64 b2, .int .i64 b3] 30 (0, 0)) ∧ Below w.heap.size w wr) (fun i _ => 4 - (intOf i).toNat)
  case atStart => exact ⟨.inl rfl, hr1, hr2, hbel⟩
  case round =>
    clear hbel hr1 hr2
    obtain ⟨hrel, hr1, hr2, hbel⟩ := hrel
    obtain ⟨c0, c1, c2, c3, cf, cl⟩ := four_cells hr1
    obtain ⟨d0, d1, d2, d3, df, dl⟩ := four_cells hr2
    have H1 := Lib.hid hr1
    have H2 := Lib.hid hr2
    clear hr1 hr2
    rcases hrel with rfl | ⟨rfl, h0⟩ | ⟨rfl, h0, h1⟩ | ⟨rfl, h0, h1, h2⟩ | ⟨rfl, h0, h1, h2, h3⟩
    · by_cases hc : b0 < a0
      · have HL := Lib.hid (show domB a0 a1 a2 a3 b0 b1 b2 b3 = false by simp [domB, leB, show ¬ a0 ≤ b0 by omega])
        go_upto_region 4 with fail
        go_region
        go_wp2
        go_ret
        exact ⟨by rw [HL.out]; rfl, hbel.drew⟩
      · have HC := Lib.hid (show a0 ≤ b0 by omega)
        go_upto_region 4 with fail
        go_region
        go_wp2
        go_roundw
        case rel => exact ⟨.inr (.inl ⟨rfl, HC.out⟩), H1.out, H2.out, hbel.drew⟩
        case measure => simp [intOf]
    · by_cases hc : b1 < a1
      · have HL := Lib.hid (show domB a0 a1 a2 a3 b0 b1 b2 b3 = false by simp [domB, leB, show ¬ a1 ≤ b1 by omega])
        go_upto_region 4 with fail
        go_region
        go_wp2
        go_ret
        exact ⟨by rw [HL.out]; rfl, hbel.drew⟩
      · have HC := Lib.hid (show a1 ≤ b1 by omega)
        go_upto_region 4 with fail
        go_region
        go_wp2
        go_roundw
        case rel => exact ⟨.inr (.inr (.inl ⟨rfl, h0, HC.out⟩)), H1.out, H2.out, hbel.drew⟩
        case measure => simp [intOf]
    · by_cases hc : b2 < a2
      · have HL := Lib.hid (show domB a0 a1 a2 a3 b0 b1 b2 b3 = false by simp [domB, leB, show ¬ a2 ≤ b2 by omega])
        go_upto_region 4 with fail
        go_region
        go_wp2
        go_ret
        exact ⟨by rw [HL.out]; rfl, hbel.drew⟩
      · have HC := Lib.hid (show a2 ≤ b2 by omega)
        go_upto_region 4 with fail
        go_region
        go_wp2
        go_roundw
        case rel => exact ⟨.inr (.inr (.inr (.inl ⟨rfl, h0, h1, HC.out⟩))), H1.out, H2.out, hbel.drew⟩
        case measure => simp [intOf]
    · by_cases hc : b3 < a3
      · have HL := Lib.hid (show domB a0 a1 a2 a3 b0 b1 b2 b3 = false by simp [domB, leB, show ¬ a3 ≤ b3 by omega])
        go_upto_region 4 with fail
        go_region
        go_wp2
        go_ret
        exact ⟨by rw [HL.out]; rfl, hbel.drew⟩
      · have HC := Lib.hid (show a3 ≤ b3 by omega)
        go_upto_region 4 with fail
        go_region
        go_wp2
        go_roundw
        case rel => exact ⟨.inr (.inr (.inr (.inr (⟨rfl, h0, h1, h2, HC.out⟩)))), H1.out, H2.out, hbel.drew⟩
        case measure => simp [intOf]
    · have HL := Lib.hid (show leB a0 a1 a2 a3 b0 b1 b2 b3 = true by simp [leB, h0, h1, h2, h3])
      have HE : (domB a0 a1 a2 a3 b0 b1 b2 b3) = (!eq4 a0 a1 a2 a3 b0 b1 b2 b3) := by simp [domB, HL.out]
      have HE := Lib.hid HE
      have HQ := HQ.out
      go_wp2
      go_ret
      exact ⟨by rw [HE.out]; rfl, hbel⟩

end Go.Proofs

namespace Go.Proofs
open Go Go.RowKit
set_option maxRecDepth 1000000

theorem dom8 (a0 a1 a2 a3 b0 b1 b2 b3 : Int) (w : World) :
    Calls Tryz.prog 8 #[.agg #[.int .i64 a0, .int .i64 a1, .int .i64 a2, .int .i64 a3], .agg #[.int .i64 b0, .int .i64 b1, .int .i64 b2, .int .i64 b3]] w fun e w' => e = .returned (.bool (domB a0 a1 a2 a3 b0 b1 b2 b3)) ∧ Below w.heap.size w w' := by
  obtain ⟨q, hq⟩ : ∃ q, eq4 a0 a1 a2 a3 b0 b1 b2 b3 = q := ⟨_, rfl⟩
  obtain ⟨l, hl⟩ : ∃ l, leB a0 a1 a2 a3 b0 b1 b2 b3 = l := ⟨_, rfl⟩
  have HQ : ∀ w, (Op.equalIn 10000 31 (.agg #[.int .i64 a0, .int .i64 a1, .int .i64 a2, .int .i64 a3]) (.agg #[.int .i64 b0, .int .i64 b1, .int .i64 b2, .int .i64 b3])).run Tryz.prog w = .ok q w := fun w => by rw [arr31 a0 a1 a2 a3 b0 b1 b2 b3 w, hq]
  have HB := Lib.hid fun w => below14 a0 a1 a2 a3 b0 b1 b2 b3 w
  have HR := Lib.hid (show domB a0 a1 a2 a3 b0 b1 b2 b3 = (!q && l) by unfold domB; rw [hq, hl])
  rw [hl] at HB
  clear hq hl
  have bel : ∀ o1 o2, Below w.heap.size w ((w.alloc o1).alloc o2) := fun o1 o2 => ((Below.refl _ _).alloc (Nat.le_refl _) o1).alloc (by simp) o2
  cases q
  · go_enter Tryz.func8, Tryz.ntmps8
    go_wp2_with (go_at_call 14; refine (HB.out _).mono ?_; rintro e w1 ⟨rfl, hb⟩)
    go_ret
    exact ⟨by rw [HR.out]; rfl, (bel _ _).trans (hb.mono (by simp; omega))⟩
  · go_enter Tryz.func8, Tryz.ntmps8
    go_wp2
    go_ret
    exact ⟨by rw [HR.out]; rfl, bel _ _⟩
end Go.Proofs
