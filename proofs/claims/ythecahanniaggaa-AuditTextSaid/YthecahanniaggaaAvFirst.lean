/-
  The operations' soundness, fourth part: the cells of a slice or string.
-/
import Derived.Test.YthecahanniaggaaAvOpC
namespace Go.AV

section
variable {P : Program} {ρ : Ren} {w : World} {h : Hs}

theorem bytesV_eq : ∀ l : List UInt8, bytesV l = l.map fun b => Value.int .u8 b.toNat
  | [] => rfl
  | b :: l => by simp [bytesV, bytesV_eq l]

theorem bytesV_VRs (l : List UInt8) : VRs ρ (bytesV l) (bytesV l) := by
  induction l with
  | nil => exact .nil
  | cons b l ih => exact .cons _ _ _ _ (.sc _ rfl) ih

theorem firstC_sound {size n : Nat} {x x' : Value} {cs : List Value} (hh : HRel ρ h.heap.get w) (hx : VR ρ x x') (hc : firstC h size n x = some cs) :
    ∃ cs', (∀ w1 : World, w1.heap = w.heap → (Builtin.firstCells size n x').run P w1 = .ok ⟨cs'⟩ w1) ∧ VRs ρ cs cs' := by
  cases hx with
  | sc _ hs =>
    cases x <;> simp only [firstC] at hc <;> try (cases hc; done)
    · rename_i s
      split at hc
      · rename_i l hl
        cases hc
        obtain ⟨h1, h2⟩ := takeN_spec hl
        refine ⟨bytesV l, fun w1 _ => ?_, bytesV_VRs l⟩
        simp only [Builtin.firstCells, Sem.run_pure]
        congr 1
        rw [bytesV_eq]
        apply Array.ext'
        rw [Array.toList_map]
        congr 1
        have e : (s.extract 0 n).data.toList = s.data.toList.take n := by
          rw [ByteArray.data_extract]
          simp [List.extract]
        rw [e]
        apply List.ext_getElem?
        intro j
        by_cases hj : j < n
        · rw [List.getElem?_take_of_lt hj, h2 j hj]
        · rw [List.getElem?_take_eq_none (by omega), List.getElem?_eq_none (by omega)]
      · cases hc
    · rename_i a _ _
      cases a with
      | none => simp only [Option.some.injEq] at hc; subst hc; exact ⟨[], fun w1 _ => by simp [Builtin.firstCells], .nil⟩
      | some a => simp [simple] at hs
  | sl b o m c L hL =>
    simp only [firstC] at hc
    split at hc
    · cases hc; exact ⟨[], fun w1 _ => by simp [Builtin.firstCells, loadCells, loadCellsFrom], .nil⟩
    · split at hc
      · rename_i n' k hsp hk
        obtain ⟨L0, x, hL0, hx0, hR⟩ := hh.obj _ _ hk
        rw [hL] at hL0; cases hL0
        obtain ⟨c', fr, rfl, hR⟩ := blk_of_or hR
        obtain ⟨cs', h1, h2, h3⟩ := hR.cellsAt hx0 hc
        refine ⟨cs', fun w1 hw1 => ?_, h2⟩
        have hl := run_loadCells_list (P := P) w1 ⟨L.φ, L.δ + o, none⟩ cs' (fun j v hj => by
          rw [addr_add]
          have := h3 j v hj
          simp only [World.cell?] at this ⊢
          rw [hw1]; exact this)
        rw [h1] at hl
        simp only [Builtin.firstCells]; exact hl
      · cases hc
  | ptr => simp [firstC] at hc
  | map => simp [firstC] at hc
  | fn => simp [firstC] at hc
  | yield => simp [firstC] at hc
  | agg => simp [firstC] at hc
  | tuple => simp [firstC] at hc

theorem lenV_sound {x x' : Value} {n : Nat} (hx : VR ρ x x') (hc : lenV x = some n) : (Builtin.lenOf x').run P w = .ok n w := by
  cases hx with
  | sc _ hs => cases x <;> simp only [lenV] at hc <;> first | (cases hc; done) | (cases hc; simp [Builtin.lenOf])
  | sl b o m c L hL => simp only [lenV, Option.some.injEq] at hc; subst hc; simp [Builtin.lenOf]
  | ptr => simp [lenV] at hc
  | map => simp [lenV] at hc
  | fn => simp [lenV] at hc
  | yield => simp [lenV] at hc
  | agg => simp [lenV] at hc
  | tuple => simp [lenV] at hc

end
end Go.AV
