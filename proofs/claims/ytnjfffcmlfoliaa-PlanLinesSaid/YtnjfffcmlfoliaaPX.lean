/-
  A part of the proof: lemmas of my own.
-/
import Derived.Test.YtnjfffcmlfoliaaPU
set_option linter.unusedVariables false
set_option linter.unusedSimpArgs false
namespace Go.Proofs
open Go.RowKit Go.Shelf
set_option maxRecDepth 1000000
attribute [local go_sem] Oper.semAt_some
attribute [local go_sem ↓] appS_eq

set_option maxHeartbeats 8000000 in
theorem body8 (s : ByteArray) (w : World) (l : Nat) (pre : List (List UInt8)) (x : List UInt8) (W : World) (hlen : pre.length ≤ 70000) (hG : Gath w pre W) :
    (Code.block 1 (Code.region 4 #[{ dst := some 12, op := Op.load 36 (Operand.tmp 4), type := 36, pos := "plan.go:203", after := #[], guard := none }, { dst := some 13, op := Op.load 36 (Operand.tmp 4), type := 36, pos := "plan.go:203", after := #[], guard := none }, { dst := some 14, op := Op.nilCheck (Operand.tmp 13), type := 0, pos := "plan.go:203", after := #[{ on := 1, ground := Ground.data }], guard := none }, { dst := some 15, op := Op.fieldAddr 38 (Operand.tmp 14) 0, type := 0, pos := "plan.go:203", after := #[{ on := 2, ground := Ground.data }], guard := none }, { dst := some 16, op := Op.load 33 (Operand.tmp 15), type := 33, pos := "plan.go:203", after := #[{ on := 3, ground := Ground.data }], guard := none }, { dst := some 17, op := Op.move (Operand.tmp 5), type := 9, pos := "plan.go:203", after := #[], guard := none }, { dst := some 18, op := Op.buildSlice 33 1 #[(0, Operand.tmp 17)], type := 33, pos := "plan.go:203", after := #[{ on := 5, ground := Ground.data }], guard := none }, { dst := some 19, op := Op.call { callee := Callee.builtin Builtin.append, args := #[Operand.tmp 16, Operand.tmp 18], argTypes := #[33, 33] }, type := 33, pos := "plan.go:203", after := #[{ on := 4, ground := Ground.data }, { on := 6, ground := Ground.data }], guard := none }, { dst := some 20, op := Op.nilCheck (Operand.tmp 12), type := 0, pos := "plan.go:203", after := #[{ on := 0, ground := Ground.data }, { on := 0, ground := Ground.phase }, { on := 1, ground := Ground.phase }, { on := 2, ground := Ground.phase }, { on := 3, ground := Ground.phase }, { on := 4, ground := Ground.phase }, { on := 5, ground := Ground.phase }, { on := 6, ground := Ground.phase }, { on := 7, ground := Ground.phase }], guard := none }, { dst := some 21, op := Op.fieldAddr 38 (Operand.tmp 20) 0, type := 0, pos := "plan.go:203", after := #[{ on := 8, ground := Ground.data }, { on := 0, ground := Ground.phase }, { on := 1, ground := Ground.phase }, { on := 2, ground := Ground.phase }, { on := 3, ground := Ground.phase }, { on := 4, ground := Ground.phase }, { on := 5, ground := Ground.phase }, { on := 6, ground := Ground.phase }, { on := 7, ground := Ground.phase }], guard := none }, { dst := none, op := Op.store 33 (Operand.tmp 21) (Operand.tmp 19), type := 0, pos := "plan.go:203", after := #[{ on := 9, ground := Ground.data }, { on := 7, ground := Ground.data }, { on := 7, ground := Ground.chain }, { on := 0, ground := Ground.phase }, { on := 1, ground := Ground.phase }, { on := 2, ground := Ground.phase }, { on := 3, ground := Ground.phase }, { on := 4, ground := Ground.phase }, { on := 5, ground := Ground.phase }, { on := 6, ground := Ground.phase }, { on := 7, ground := Ground.phase }], guard := none }] true)).wpIn (Fence.wide.inRound l) 0 Try.prog (fun e _ W' => e = .normal ∧ KeepsOthers W W' ∧ Gath w (pre ++ [x]) W' ∧ W'.heap[w.heap.size + 3]? = W.heap[w.heap.size + 3]? ∧ W.heap.size ≤ W'.heap.size) (fr8 s w x) W := by
  obtain ⟨v, g1, g2, g3, g4, g5, g6⟩ := hG
  have r1 : W.cell? ⟨w.heap.size + 1, 0, none⟩ = some v := by simp [World.cell?, g1]
  have r2 : W.cell? ⟨w.heap.size + 1 + 1, 0, none⟩ = some (.pointer (some ⟨w.heap.size + 1, 0, none⟩)) := by simp [World.cell?, g4]
  have f1 : W.frozen? ⟨w.heap.size + 1, 0, none⟩ = false := by simp [World.frozen?, g1]
  obtain ⟨i0, hi, hz0, hz1, hz2⟩ := info_parts Try.info9
  have hm1 : pre.length + 1 ≤ maxLen := by unfold maxLen; omega
  have hm2 : (pre.length + 1) * 16 ≤ 140737488355328 := by omega
  have r1a : (W.alloc (.cells #[.string (mkB x)] 9)).cell? ⟨w.heap.size + 1, 0, none⟩ = some v := by rw [World.cell?_of_block (Below.heap_alloc W _ (w.heap.size + 1) (by omega))]; exact r1
  have r2a : (W.alloc (.cells #[.string (mkB x)] 9)).cell? ⟨w.heap.size + 1 + 1, 0, none⟩ = some (.pointer (some ⟨w.heap.size + 1, 0, none⟩)) := by rw [World.cell?_of_block (Below.heap_alloc W _ (w.heap.size + 1 + 1) (by omega))]; exact r2
  unfold fr8
  gi_wp2
  obtain ⟨v2, w2, hrun, hown', hgrow, _, _⟩ := run_append_own_at (P := Try.prog) (w := (W.alloc (.cells #[.string (mkB x)] 9)).drew) (w.heap.size + 4) 33 33 9 i0 (.string ⟨#[]⟩) 1 16 Try.underlying33 hi hz0 hz1 hz2 rfl (by decide) v pre.length ((pre.map mkB).map Value.string) (ownsRow_drew (g2.alloc _)) ⟨W.heap.size, 0, none⟩ 1 1 [.string (mkB x)] rfl (fun j u h => (World.news_of_block (cs := #[.string (mkB x)]) (heap_alloc_new W _)) j u h) (one_str _) hm1 hm2 (by simp; omega)
  obtain ⟨g', cap', rfl⟩ := ownsRow_succ hown'
  rw [appS_eq] at hrun
  have hne : v.ownBlock ≠ some (w.heap.size + 1) := fun e => by have := (g2.lt (w.heap.size + 1) e).1; omega
  have hblk : ∀ k, k < w.heap.size + 4 → w2.heap[k]? = W.heap[k]? := fun k hk => by
    have h1 := hgrow.block k (by simp; omega) (fun e => by have := (g2.lt k e.symm).1; omega)
    rw [h1]
    exact Below.heap_alloc W _ k (by omega)
  have q1 : w2.cell? ⟨w.heap.size + 1, 0, none⟩ = some v := by rw [World.cell?_of_block (hblk (w.heap.size + 1) (by omega))]; exact r1
  have q3 : w2.cell? ⟨w.heap.size + 1 + 1, 0, none⟩ = some (.pointer (some ⟨w.heap.size + 1, 0, none⟩)) := by rw [World.cell?_of_block (hblk (w.heap.size + 1 + 1) (by omega))]; exact r2
  have q2 : w2.frozen? ⟨w.heap.size + 1, 0, none⟩ = false := by rw [World.frozen?_of_block (hblk (w.heap.size + 1) (by omega))]; exact f1
  have hfin := fin8 w W w2 pre x v g' cap' hlen g1 g2 g3 g4 g5 g6 hblk hown' hgrow
  have HF := Lib.hid hfin
  clear hblk hown' hgrow hfin g1 g2 g3 g4 g5
  gi_region
  all_goals exact ⟨rfl, HF.out⟩
end Go.Proofs
