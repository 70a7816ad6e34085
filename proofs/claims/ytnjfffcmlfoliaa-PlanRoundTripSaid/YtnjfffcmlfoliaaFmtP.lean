/-
  A part of the proof: lemmas of my own.
-/
import Derived.Test.YtnjfffcmlfoliaaProg
import Derived.WalkKit
import Derived.Below
import Derived.ScopeJumps
import Derived.Laws.IdiomStrings
import Derived.Lib.Hide
set_option linter.unusedVariables false
set_option linter.unusedSimpArgs false
namespace Go.Proofs
open Go.RowKit
set_option maxRecDepth 1000000

def digit (m : Nat) : UInt8 := UInt8.ofNat (48 + m % 10)

def fmtGo : Nat → Nat → List UInt8 → List UInt8
  | 0, _, l => l
  | i + 1, m, l => if 0 < m / 10 then fmtGo i (m / 10) (digit m :: l) else digit m :: l

def Jf (w0 : World) (n : Int) (goal : List UInt8) (a : Act) (w : World) : Prop :=
  ∃ (k : Nat) (m : Nat) (c : Array Value) (l : List UInt8) (u6 u7 u8 u9 u10 u11 u12 u13 u14 u15 u16 u17 u18 u19 u20 u21 u22 u23 : Value), k < 20 ∧ m < 10 ^ (k + 1) ∧ m < 2 ^ 64 ∧ (n < 0 → 0 < m ∧ m < 10 ^ k) ∧ c.size = 20 ∧
    l.length + (k + 1) = 20 ∧ (∀ j (hj : j < l.length), c[k + 1 + j]? = some (Value.int .u8 l[j].toNat)) ∧ fmtGo (k + 1) m l = goal ∧
    w.heap[w0.heap.size]? = some (.cells c 50 (0, 0)) ∧ Below w0.heap.size w0 w ∧ w.heap.size = w0.heap.size + 1 ∧
    a = { tmps := #[.int .i64 n, undef, .string { data := #[] }, .pointer (some ⟨w0.heap.size, 0, none⟩), .int .i64 (k + 1 : Nat), .int .u64 m,
      u6, u7, u8, u9, u10, u11, u12, u13, u14, u15, u16, u17, u18, u19, u20, u21, u22, u23, undef, undef, undef, undef, undef, undef, undef, undef, undef], defers := [] }

theorem cells_after {w' : World} {b k : Nat} {c : Array Value} {l : List UInt8} {d : UInt8} (h11 : w'.heap[b]? = some (.cells c 50 (0, 0))) (h6 : c.size = 20) (h7 : l.length + (k + 1) = 20)
    (h8 : ∀ j (hj : j < l.length), c[k + 1 + j]? = some (Value.int .u8 l[j].toNat)) :
    (w'.setCell ⟨b, k, none⟩ (.int .u8 d.toNat)).heap[b]? = some (.cells (c.setIfInBounds k (.int .u8 d.toNat)) 50 (0, 0)) ∧
      ∀ j (hj : j < (d :: l).length), (c.setIfInBounds k (.int .u8 d.toNat))[k + j]? = some (Value.int .u8 (d :: l)[j].toNat) := by
  have hb : b < w'.heap.size := (Array.getElem?_eq_some_iff.1 h11).1
  refine ⟨by simp [World.setCell, Array.getElem?_modify, h11], fun j hj => ?_⟩
  cases j with
  | zero => simp [show k < c.size by omega]
  | succ j =>
    rw [Array.getElem?_setIfInBounds_ne (by omega)]
    have := h8 j (by simpa using hj)
    rw [show k + (j + 1) = k + 1 + j by omega, this]
    rfl

theorem wp_scope_jumps2 {P : Program} {c rest : Code} {Q : Exit → Act → World → Prop} {a : Act} {w : World} (l : Nat) (J : Act → World → Prop) (μ : Act → World → Nat) (hf : findLabel c l = some (.seq .skip rest))
    (first : (∀ a w, J a w → rest.wp P (Exit.jump l J Q) a w) → c.wp P (Exit.jump l J Q) a w)
    (pass : ∀ a w, J a w → rest.wp P (Exit.jump l (fun a' w' => J a' w' ∧ μ a' w' < μ a w) Q) a w) : (Code.scope c).wp P Q a w := by
  refine wp_scope_jumps l J μ hf (first fun a w hJ => ?_) (fun a w hJ => ?_)
  · refine wp_mono (pass a w hJ) ?_
    intro e a' w' h
    cases e <;> first | exact h | exact ⟨h.1, h.2.1⟩
  · refine wp_seq (wp_skip ?_)
    exact pass a w hJ
theorem heap_alloc (w : World) (o : Obj) : (w.alloc o).heap[w.heap.size]? = some o := by show (w.heap.push o)[w.heap.size]? = some o; exact Array.getElem?_push_size
theorem p64 (k : Nat) (h : k < 18446744073709551616) : k < 2 ^ 64 := by simpa using h
theorem p20 (k : Nat) (h : k < 100000000000000000000) : k < 10 ^ (19 + 1) := by simpa using h
theorem p19 (k : Nat) (h : k < 10000000000000000000) : k < 10 ^ 19 := by simpa using h

theorem walkF (n : Int) (w : World) (hlo : -9223372036854775808 ≤ n) (hhi : n ≤ 9223372036854775807) :
    Calls Try.prog 11 #[.int .i64 n] w fun e w' => e = .returned (.string ⟨((if n < 0 then [45] else []) ++ fmtGo 20 n.natAbs []).toArray⟩) ∧ Below w.heap.size w w' := by
  go_enter Try.func11, Try.ntmps11
  go_wp2
  refine wp_scope_jumps2 0 (Jf w n (fmtGo 20 n.natAbs [])) (fun a' _ => (match a'.tmps.getD 4 undef with | .int _ q => q.toNat | _ => 0)) rfl ?_ ?_
  · intro hrest
    by_cases hn : n < 0
    · have hu : IntKind.u64.wrap (-IntKind.u64.wrap n) = (n.natAbs : Int) := by
        simp [IntKind.wrap, IntKind.bits, IntKind.signed]; omega
      have HU := Lib.hid hu
      clear hu
      go_wp2
      go_step3
      simp only [Exit.then]
      rename_i hK
      rw [HU.out]
      refine hK _ _ (hrest _ _ ⟨19, n.natAbs, (List.replicate 20 (Value.int .u8 0)).toArray, [], _, _, _, _, _, _, _, _, _, _, _, _, _, _, _, _, _, _, by omega, p20 _ (by omega), p64 _ (by omega), fun _ => ⟨by omega, p19 _ (by omega)⟩, rfl, rfl, fun j hj => by simp at hj, rfl, ?_, (Below.refl _ _).alloc (Nat.le_refl _) _, by simp, rfl⟩)
      exact (heap_alloc _ _)
    · obtain ⟨m, rfl⟩ : ∃ m : Nat, n = m := ⟨n.toNat, by omega⟩
      go_wp2
      go_step3
      simp only [Exit.then]
      rename_i hK
      refine hK _ _ (hrest _ _ ⟨19, m, (List.replicate 20 (Value.int .u8 0)).toArray, [], _, _, _, _, _, _, _, _, _, _, _, _, _, _, _, _, _, _, by omega, p20 _ (by omega), p64 _ (by omega), fun h => absurd h (by omega), rfl, rfl, fun j hj => by simp at hj, rfl, ?_, (Below.refl _ _).alloc (Nat.le_refl _) _, by simp, rfl⟩)
      exact (heap_alloc _ _)
  · rintro a' w' ⟨k, m, c, l, u6, u7, u8, u9, u10, u11, u12, u13, u14, u15, u16, u17, u18, u19, u20, u21, u22, u23, h2, h3, h4, h5, h6, h7, h8, h10, h11, h12, h13, rfl⟩
    have e1 : ((k + 1 : Nat) : Int) - 1 = (k : Int) := by omega
    have hcell : ∃ x, w'.cell? ⟨w.heap.size, k, none⟩ = some x := by
      have : k < c.size := by omega
      exact ⟨c[k], by simp [World.cell?, h11, this]⟩
    obtain ⟨x, hcell⟩ := hcell
    have hfz : w'.frozen? ⟨w.heap.size, k, none⟩ = false := by simp [World.frozen?, h11]
    by_cases hm : 0 < (m : Int) / 10
    · go_wp2
      go_step3
      have hd : (48 + (m : Int) % 10) = ((digit m).toNat : Int) := by
        unfold digit
        have : (48 + m % 10) < 256 := by omega
        simp [UInt8.toNat_ofNat', Nat.mod_eq_of_lt this]
      have hm' : 0 < m / 10 := by omega
      obtain ⟨j, rfl⟩ : ∃ j, k = j + 1 := ⟨k - 1, by
        have : k ≠ 0 := fun h => by subst h; omega
        omega⟩
      rw [hd]
      obtain ⟨g1, g2⟩ := cells_after (d := digit m) h11 h6 h7 h8
      refine ⟨rfl, ⟨j, m / 10, _, digit m :: l, _, _, _, _, _, _, _, _, _, _, _, _, _, _, _, _, _, _, by omega, ?_, by omega, ?_, by simp [h6], by simp; omega, g2, ?_, g1, h12.setCell (by simp) _, by simp [World.setCell, h13], rfl⟩, ?_⟩
      · rw [Nat.pow_succ] at h3; omega
      · intro hn
        obtain ⟨q1, q2⟩ := h5 hn
        rw [Nat.pow_succ] at q2
        exact ⟨hm', by omega⟩
      · rw [← h10]
        conv => rhs; rw [fmtGo, if_pos hm']
      · simp only [Array.getD_eq_getD_getElem?]
        simp; omega
    · by_cases hn : n < 0
      · obtain ⟨j, rfl⟩ : ∃ j, k = j + 1 := ⟨k - 1, by
          obtain ⟨q1, q2⟩ := h5 hn
          have : k ≠ 0 := fun h => by subst h; omega
          omega⟩
        have e2 : ((j + 1 : Nat) : Int) - 1 = (j : Int) := by omega
        have hd : (48 + (m : Int) % 10) = ((digit m).toNat : Int) := by
          unfold digit
          have : (48 + m % 10) < 256 := by omega
          simp [UInt8.toNat_ofNat', Nat.mod_eq_of_lt this]
        obtain ⟨g1, g2⟩ := cells_after (d := digit m) h11 h6 h7 h8
        obtain ⟨f1, f2⟩ := cells_after (k := j) (d := 45) g1 (by simp [h6]) (by simp; omega) g2
        have hfz2 : (w'.setCell ⟨w.heap.size, j + 1, none⟩ (.int .u8 (digit m).toNat)).frozen? ⟨w.heap.size, j, none⟩ = false := by simp [World.frozen?, g1]
        have hcell2 : ∃ y, (w'.setCell ⟨w.heap.size, j + 1, none⟩ (.int .u8 (digit m).toNat)).cell? ⟨w.heap.size, j, none⟩ = some y := by
          have : j < (c.setIfInBounds (j + 1) (.int .u8 (digit m).toNat)).size := by simp [h6]; omega
          exact ⟨_, by simp only [World.cell?, g1]; exact Array.getElem?_eq_getElem this⟩
        obtain ⟨y, hcell2⟩ := hcell2
        have hk0 : (0 : Int) ≤ j := by omega
        have hk1 : (j : Int) ≤ 20 := by omega
        have h45 : (((45 : UInt8).toNat : Nat) : Int) = 45 := rfl
        rw [h45] at f1 f2
        have hW : ∀ i (hi : i < (45 :: digit m :: l).length), ((w'.setCell ⟨w.heap.size, j + 1, none⟩ (.int .u8 (digit m).toNat)).setCell ⟨w.heap.size, j, none⟩ (.int .u8 45)).cell? ⟨w.heap.size, j + i, none⟩ = some (.int .u8 ((45 :: digit m :: l)[i].toNat : Int)) := by
          intro i hi
          simp only [World.cell?, f1]
          exact f2 i hi
        have hconv := run_convert_bytes_back (P := Try.prog) ((w'.setCell ⟨w.heap.size, j + 1, none⟩ (.int .u8 (digit m).toNat)).setCell ⟨w.heap.size, j, none⟩ (.int .u8 45)) 52 9 5 ⟨w.heap.size, j, none⟩ (20 - j) (45 :: digit m :: l) (by kernel_rfl) (by kernel_rfl) (by kernel_rfl) (fun i hj => by have h := hW i hj; by_cases h0 : i = 0 <;> simp [Addr.add, h0] at h ⊢ <;> exact h)
        have hlen : (45 :: digit m :: l).length = 20 - j := by simp; omega
        rw [hlen] at hconv
        go_wp2
        simp only [Exit.jump]
        go_ret
        have hm' : ¬ 0 < m / 10 := by omega
        rw [fmtGo, if_neg hm'] at h10
        refine ⟨?_, (h12.setCell (by simp) _).setCell (by simp) _⟩
        rw [if_pos hn, ← h10]
        rfl
      · have hk0 : (0 : Int) ≤ k := by omega
        have hk1 : (k : Int) ≤ 20 := by omega
        have hd : (48 + (m : Int) % 10) = ((digit m).toNat : Int) := by
          unfold digit
          have : (48 + m % 10) < 256 := by omega
          simp [UInt8.toNat_ofNat', Nat.mod_eq_of_lt this]
        have hW : ∀ j (hj : j < (digit m :: l).length), (w'.setCell ⟨w.heap.size, k, none⟩ (.int .u8 (48 + (m : Int) % 10))).cell? ⟨w.heap.size, k + j, none⟩ = some (.int .u8 ((digit m :: l)[j].toNat : Int)) := by
          obtain ⟨g1, g2⟩ := cells_after (d := digit m) h11 h6 h7 h8
          intro j hj
          rw [hd]
          simp only [World.cell?, g1]
          exact g2 j hj
        have hconv := run_convert_bytes_back (P := Try.prog) (w'.setCell ⟨w.heap.size, k, none⟩ (.int .u8 (48 + (m : Int) % 10))) 52 9 5 ⟨w.heap.size, k, none⟩ (20 - k) (digit m :: l) (by kernel_rfl) (by kernel_rfl) (by kernel_rfl) (fun j hj => by have h := hW j hj; by_cases h0 : j = 0 <;> simp [Addr.add, h0] at h ⊢ <;> exact h)
        have hlen : (digit m :: l).length = 20 - k := by simp; omega
        rw [hlen, hd] at hconv
        go_wp2
        simp only [Exit.jump]
        go_ret
        have hm' : ¬ 0 < m / 10 := by omega
        rw [fmtGo, if_neg hm'] at h10
        refine ⟨?_, h12.setCell (by simp) _⟩
        rw [if_neg (show ¬ n < 0 by omega), List.nil_append, ← h10]
        rfl
end Go.Proofs
