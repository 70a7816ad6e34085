/-
  A part of the proof: lemmas of my own.
-/
import Derived.Test.YtamocmgfbonodaaGreatTi
import Derived.Deep.Cut
set_option linter.unusedVariables false
set_option linter.unusedSimpArgs false
namespace Go.Proofs.Tt
open Go Go.Proofs
open Go.RowKit Go.Maps
set_option maxRecDepth 1000000


def CkS (n0 n1 n2 : Int) (W0 : World) (s5 s6 s7 : Value) (wx : World) : Prop := ∃ b5 b6 b7, s5 = .pointer (some ⟨b5, 0, none⟩) ∧ s6 = .pointer (some ⟨b6, 0, none⟩) ∧ s7 = .pointer (some ⟨b7, 0, none⟩) ∧ wx.cell? ⟨b5, 0, none⟩ = some (.int .i64 n0) ∧ wx.cell? ⟨b6, 0, none⟩ = some (.int .i64 n1) ∧ wx.cell? ⟨b7, 0, none⟩ = some (.int .i64 n2) ∧ Below W0.heap.size W0 wx
theorem al3 (W : World) (x y z : Value) (T : TypeId) : ((((W.alloc (Obj.cells #[x] T)).alloc (Obj.cells #[y] T)).alloc (Obj.cells #[z] T)).drew).cell? ⟨W.heap.size, 0, none⟩ = some x ∧ ((((W.alloc (Obj.cells #[x] T)).alloc (Obj.cells #[y] T)).alloc (Obj.cells #[z] T)).drew).cell? ⟨W.heap.size + 1, 0, none⟩ = some y ∧ ((((W.alloc (Obj.cells #[x] T)).alloc (Obj.cells #[y] T)).alloc (Obj.cells #[z] T)).drew).cell? ⟨W.heap.size + 1 + 1, 0, none⟩ = some z ∧ Below W.heap.size W ((((W.alloc (Obj.cells #[x] T)).alloc (Obj.cells #[y] T)).alloc (Obj.cells #[z] T)).drew) := by
  refine ⟨keepC (blD (blA (blA (bl0 _) _) _)) (by simp) (boxC _ _ _ 0 _ rfl), ?_, ?_, blD (blA (blA (blA (bl0 _) _) _) _)⟩
  · have := boxC (W.alloc (Obj.cells #[x] T)) #[y] T 0 y rfl
    simp only [World.size_alloc] at this
    exact keepC (blD (blA (bl0 _) _)) (by simp) this
  · have := boxC ((W.alloc (Obj.cells #[x] T)).alloc (Obj.cells #[y] T)) #[z] T 0 z rfl
    simp only [World.size_alloc] at this
    exact keepC (blD (bl0 _)) (by simp) this
set_option maxHeartbeats 3200000 in
theorem tt13 (t : TT) (w : World) (hok : t.ok w) :
    Calls Tryz.prog 13 #[t.val] w fun e w' => e = .returned (.tuple #[.int .i64 (ttRes t).1, .int .i64 (ttRes t).2.1, .int .i64 (ttRes t).2.2]) ∧ Below w.heap.size w w' := by
  obtain ⟨R, hR⟩ : ∃ R, ttRes t = R := ⟨_, rfl⟩
  rw [hR]
  have HR := Lib.hid (show ttGo t 10 0 = R from hR)
  have HOK := Lib.hid hok
  clear hR hok
  go_enter Tryz.func13, Tryz.ntmps13
  obtain ⟨W0, hW0⟩ : ∃ W0, w.alloc (Obj.cells t.cells 35) = W0 := ⟨_, rfl⟩
  have hbx : w.heap.size < W0.heap.size := by rw [← hW0]; simp
  have hcl : ∀ k v, t.cells[k]? = some v → W0.cell? ⟨w.heap.size, k, none⟩ = some v := fun k v hk => by rw [← hW0]; exact boxC _ _ _ k _ hk
  have HB0 := Lib.hid (show Below w.heap.size w W0 by rw [← hW0]; exact blA (bl0 _) _)
  have HW0 := Lib.hid (show w.alloc (Obj.cells #[.slice t.a0 t.st.length t.c0, .slice t.a1 t.ro.length t.c1, .slice t.a2 t.ca.length t.c2, .slice t.a3 t.ex.length t.c3, .slice t.a4 t.tr.length t.c4, .slice t.a5 t.fq.length t.c5, .slice t.a6 t.th.length t.c6, .slice t.a7 t.gu.length t.c7, .slice t.a8 t.pa.length t.c8, .slice t.a9 t.pr.length t.c9, .int .i64 t.d, .int .i64 t.wi, .int .i64 t.cp] 35) = W0 from hW0)
  have x0 : W0.cell? ⟨w.heap.size, 0, none⟩ = some (.slice t.a0 t.st.length t.c0) := hcl 0 _ rfl
  have x1 : W0.cell? ⟨w.heap.size, 1, none⟩ = some (.slice t.a1 t.ro.length t.c1) := hcl 1 _ rfl
  have x2 : W0.cell? ⟨w.heap.size, 2, none⟩ = some (.slice t.a2 t.ca.length t.c2) := hcl 2 _ rfl
  have HCL := Lib.hid hcl
  clear hW0 hcl
  go_upto_region 1 with (fail)
  rw [HW0.out]
  go_cut [5, 6, 7] from 13 to 22 (fun s5 s6 s7 wx => CkS t.st.length t.ro.length t.ca.length W0 s5 s6 s7 wx)
  case first =>
    go_region_held3 (fun wx => KS W0 wx)
      (first | assumption | (exact KS.mk' (blD (bl0 _))) | (exact KS.mk' (blD (blA (bl0 _) _))) | (exact KS.mk' (blD (blA (blA (bl0 _) _) _))) | (exact KS.mk' (blD (blA (blA (blA (bl0 _) _) _) _))) | (exact KS.step (by assumption) (blA (bl0 _) _)) | (exact KS.set (by assumption) (by simp <;> omega)))
      (first | fail)
    all_goals
      go_wp2
      go_meet
      case rel => first | (exact ⟨_, _, _, rfl, rfl, rfl, (al3 _ _ _ _ _).1, (al3 _ _ _ _ _).2.1, (al3 _ _ _ _ _).2.2.1, (al3 _ _ _ _ _).2.2.2⟩) | (exact ⟨_, _, _, rfl, rfl, rfl, (al3 _ _ _ _ _).1, (al3 _ _ _ _ _).2.2.1, (al3 _ _ _ _ _).2.1, (al3 _ _ _ _ _).2.2.2⟩) | (exact ⟨_, _, _, rfl, rfl, rfl, (al3 _ _ _ _ _).2.1, (al3 _ _ _ _ _).1, (al3 _ _ _ _ _).2.2.1, (al3 _ _ _ _ _).2.2.2⟩) | (exact ⟨_, _, _, rfl, rfl, rfl, (al3 _ _ _ _ _).2.1, (al3 _ _ _ _ _).2.2.1, (al3 _ _ _ _ _).1, (al3 _ _ _ _ _).2.2.2⟩) | (exact ⟨_, _, _, rfl, rfl, rfl, (al3 _ _ _ _ _).2.2.1, (al3 _ _ _ _ _).1, (al3 _ _ _ _ _).2.1, (al3 _ _ _ _ _).2.2.2⟩) | (exact ⟨_, _, _, rfl, rfl, rfl, (al3 _ _ _ _ _).2.2.1, (al3 _ _ _ _ _).2.1, (al3 _ _ _ _ _).1, (al3 _ _ _ _ _).2.2.2⟩)
  case rest =>
    obtain ⟨b5, b6, b7, rfl, rfl, rfl, u5, u6, u7, hB5⟩ := hcut
    have HBX := Lib.hid (blt HB0.out hB5)
    have hbxx : w.heap.size < wc.heap.size := Nat.lt_of_lt_of_le hbx hB5.size
    have HCX := Lib.hid (fun k v hk => keepC hB5 hbx (HCL.out k v hk))
    clear hB5 x0 x1 x2
    go_upto_region 3 with (fail)
    have hb5 : b5 < wc.heap.size := World.block_lt_of_cell? _ _ u5
    have hb6 : b6 < wc.heap.size := World.block_lt_of_cell? _ _ u6
    have hb7 : b7 < wc.heap.size := World.block_lt_of_cell? _ _ u7
    have hS : wc.heap.size < (wc.alloc (Obj.cells #[.func (.func 20) #[] #[.pointer (some ⟨w.heap.size, 0, none⟩)], .func (.func 22) #[] #[.pointer (some ⟨w.heap.size, 0, none⟩)], .func (.func 24) #[] #[.pointer (some ⟨w.heap.size, 0, none⟩)], .func (.func 26) #[] #[.pointer (some ⟨w.heap.size, 0, none⟩), .pointer (some ⟨b7, 0, none⟩)], .func (.func 28) #[] #[.pointer (some ⟨w.heap.size, 0, none⟩), .pointer (some ⟨b5, 0, none⟩), .pointer (some ⟨b6, 0, none⟩), .pointer (some ⟨b7, 0, none⟩)], .func (.func 30) #[] #[.pointer (some ⟨w.heap.size, 0, none⟩)], .func (.func 32) #[] #[.pointer (some ⟨w.heap.size, 0, none⟩)], .func (.func 34) #[] #[.pointer (some ⟨w.heap.size, 0, none⟩), .pointer (some ⟨b5, 0, none⟩)], .func (.func 36) #[] #[.pointer (some ⟨w.heap.size, 0, none⟩), .pointer (some ⟨b5, 0, none⟩)], .func (.func 38) #[] #[.pointer (some ⟨w.heap.size, 0, none⟩)]] 78)).heap.size := by simp
    have HS := Lib.hid (fun k v (hk : (#[.func (.func 20) #[] #[.pointer (some ⟨w.heap.size, 0, none⟩)], .func (.func 22) #[] #[.pointer (some ⟨w.heap.size, 0, none⟩)], .func (.func 24) #[] #[.pointer (some ⟨w.heap.size, 0, none⟩)], .func (.func 26) #[] #[.pointer (some ⟨w.heap.size, 0, none⟩), .pointer (some ⟨b7, 0, none⟩)], .func (.func 28) #[] #[.pointer (some ⟨w.heap.size, 0, none⟩), .pointer (some ⟨b5, 0, none⟩), .pointer (some ⟨b6, 0, none⟩), .pointer (some ⟨b7, 0, none⟩)], .func (.func 30) #[] #[.pointer (some ⟨w.heap.size, 0, none⟩)], .func (.func 32) #[] #[.pointer (some ⟨w.heap.size, 0, none⟩)], .func (.func 34) #[] #[.pointer (some ⟨w.heap.size, 0, none⟩), .pointer (some ⟨b5, 0, none⟩)], .func (.func 36) #[] #[.pointer (some ⟨w.heap.size, 0, none⟩), .pointer (some ⟨b5, 0, none⟩)], .func (.func 38) #[] #[.pointer (some ⟨w.heap.size, 0, none⟩)]] : Array Value)[k]? = some v) => boxC wc #[.func (.func 20) #[] #[.pointer (some ⟨w.heap.size, 0, none⟩)], .func (.func 22) #[] #[.pointer (some ⟨w.heap.size, 0, none⟩)], .func (.func 24) #[] #[.pointer (some ⟨w.heap.size, 0, none⟩)], .func (.func 26) #[] #[.pointer (some ⟨w.heap.size, 0, none⟩), .pointer (some ⟨b7, 0, none⟩)], .func (.func 28) #[] #[.pointer (some ⟨w.heap.size, 0, none⟩), .pointer (some ⟨b5, 0, none⟩), .pointer (some ⟨b6, 0, none⟩), .pointer (some ⟨b7, 0, none⟩)], .func (.func 30) #[] #[.pointer (some ⟨w.heap.size, 0, none⟩)], .func (.func 32) #[] #[.pointer (some ⟨w.heap.size, 0, none⟩)], .func (.func 34) #[] #[.pointer (some ⟨w.heap.size, 0, none⟩), .pointer (some ⟨b5, 0, none⟩)], .func (.func 36) #[] #[.pointer (some ⟨w.heap.size, 0, none⟩), .pointer (some ⟨b5, 0, none⟩)], .func (.func 38) #[] #[.pointer (some ⟨w.heap.size, 0, none⟩)]] 78 k v hk)
    obtain ⟨W1, hW1⟩ : ∃ W1, wc.alloc (Obj.cells #[.func (.func 20) #[] #[.pointer (some ⟨w.heap.size, 0, none⟩)], .func (.func 22) #[] #[.pointer (some ⟨w.heap.size, 0, none⟩)], .func (.func 24) #[] #[.pointer (some ⟨w.heap.size, 0, none⟩)], .func (.func 26) #[] #[.pointer (some ⟨w.heap.size, 0, none⟩), .pointer (some ⟨b7, 0, none⟩)], .func (.func 28) #[] #[.pointer (some ⟨w.heap.size, 0, none⟩), .pointer (some ⟨b5, 0, none⟩), .pointer (some ⟨b6, 0, none⟩), .pointer (some ⟨b7, 0, none⟩)], .func (.func 30) #[] #[.pointer (some ⟨w.heap.size, 0, none⟩)], .func (.func 32) #[] #[.pointer (some ⟨w.heap.size, 0, none⟩)], .func (.func 34) #[] #[.pointer (some ⟨w.heap.size, 0, none⟩), .pointer (some ⟨b5, 0, none⟩)], .func (.func 36) #[] #[.pointer (some ⟨w.heap.size, 0, none⟩), .pointer (some ⟨b5, 0, none⟩)], .func (.func 38) #[] #[.pointer (some ⟨w.heap.size, 0, none⟩)]] 78) = W1 := ⟨_, rfl⟩
    have HB1 := Lib.hid (show Below wc.heap.size wc W1 by rw [← hW1]; exact blA (bl0 _) _)
    rw [hW1] at HS hS
    have HW1 := Lib.hid hW1
    clear hW1
    rw [HW1.out]
    go_wp2
    go_loopw [35] (fun i wr => ∃ k : Nat, k ≤ 10 ∧ i = .int .i64 k ∧ ttGo t (10 - k) k = R ∧ (∀ j, j < k → (resT t j).2 = 0) ∧ Below W1.heap.size W1 wr) (fun i _ => 10 - (intOf i).toNat)
    case atStart => exact ⟨0, by omega, rfl, HR.out, (fun j hj => by omega), bl0 _⟩
    case round =>
      obtain ⟨k, hk, rfl, hv, hz, hbel⟩ := hrel
      have hbc : Below wc.heap.size wc wr := blt HB1.out hbel
      have hok := HOK.out.below (blt HBX.out hbc)
      have hcx := fun k v hk => keepC hbc hbxx (HCX.out k v hk)
      have hbw := blt HBX.out hbc
      have hk10 : k = 0 ∨ k = 1 ∨ k = 2 ∨ k = 3 ∨ k = 4 ∨ k = 5 ∨ k = 6 ∨ k = 7 ∨ k = 8 ∨ k = 9 ∨ k = 10 := by omega
      rcases hk10 with rfl | rfl | rfl | rfl | rfl | rfl | rfl | rfl | rfl | rfl | rfl
      · have cf := keepC hbel hS (HS.out 0 _ rfl)
        have HC := Lib.hid (ck0 t w.heap.size wr hok hcx)
        obtain ⟨r1, r2, hr⟩ : ∃ r1 r2, resT t 0 = (r1, r2) := ⟨_, _, rfl⟩
        rw [hr] at HC
        have hV : (if (resT t 0).2 ≠ 0 then (((0 : Nat) : Int), resT t 0) else ttGo t (10 - 1) 1) = R := hv
        rw [hr] at hV
        have HV := Lib.hid hV
        have HZ := Lib.hid (And.intro hr hz)
        have HBW := Lib.hid hbw
        have HBL := Lib.hid hbel
        clear hV hv hr hz hbw hbel hbc hok hcx u5 u6 u7 hb5 hb6 hb7
        by_cases h0 : r2 = 0
        · subst h0
          have HX := Lib.hid (show ttGo t (10 - 1) 1 = R by have := HV.out; simpa using this)
          go_wp2_with (go_at_call 20; refine HC.out.mono ?_; rintro e w2 ⟨rfl, hb2⟩)
          go_roundw
          case rel => exact ⟨1, by omega, by first | rfl | go_num, HX.out, (fun j hj => by rcases Nat.lt_succ_iff_lt_or_eq.1 hj with h | h; exact HZ.out.2 j h; subst h; rw [HZ.out.1]), blt HBL.out hb2⟩
          case measure => simp [intOf]
        · have HX := Lib.hid (show R = (((0 : Nat) : Int), r1, r2) by have := HV.out; rw [if_pos h0] at this; exact this.symm)
          go_wp2_with (go_at_call 20; refine HC.out.mono ?_; rintro e w2 ⟨rfl, hb2⟩)
          go_ret3
          exact ⟨by rw [HX.out]; rfl, blt HBW.out hb2⟩
      · have cf := keepC hbel hS (HS.out 1 _ rfl)
        have HC := Lib.hid (ck1 t w.heap.size wr hok hcx)
        obtain ⟨r1, r2, hr⟩ : ∃ r1 r2, resT t 1 = (r1, r2) := ⟨_, _, rfl⟩
        rw [hr] at HC
        have hV : (if (resT t 1).2 ≠ 0 then (((1 : Nat) : Int), resT t 1) else ttGo t (10 - 2) 2) = R := hv
        rw [hr] at hV
        have HV := Lib.hid hV
        have HZ := Lib.hid (And.intro hr hz)
        have HBW := Lib.hid hbw
        have HBL := Lib.hid hbel
        clear hV hv hr hz hbw hbel hbc hok hcx u5 u6 u7 hb5 hb6 hb7
        by_cases h0 : r2 = 0
        · subst h0
          have HX := Lib.hid (show ttGo t (10 - 2) 2 = R by have := HV.out; simpa using this)
          go_wp2_with (go_at_call 22; refine HC.out.mono ?_; rintro e w2 ⟨rfl, hb2⟩)
          go_roundw
          case rel => exact ⟨2, by omega, by first | rfl | go_num, HX.out, (fun j hj => by rcases Nat.lt_succ_iff_lt_or_eq.1 hj with h | h; exact HZ.out.2 j h; subst h; rw [HZ.out.1]), blt HBL.out hb2⟩
          case measure => simp [intOf]
        · have HX := Lib.hid (show R = (((1 : Nat) : Int), r1, r2) by have := HV.out; rw [if_pos h0] at this; exact this.symm)
          go_wp2_with (go_at_call 22; refine HC.out.mono ?_; rintro e w2 ⟨rfl, hb2⟩)
          go_ret3
          exact ⟨by rw [HX.out]; rfl, blt HBW.out hb2⟩
      · have cf := keepC hbel hS (HS.out 2 _ rfl)
        have HC := Lib.hid (ck2 t w.heap.size wr hok hcx)
        obtain ⟨r1, r2, hr⟩ : ∃ r1 r2, resT t 2 = (r1, r2) := ⟨_, _, rfl⟩
        rw [hr] at HC
        have hV : (if (resT t 2).2 ≠ 0 then (((2 : Nat) : Int), resT t 2) else ttGo t (10 - 3) 3) = R := hv
        rw [hr] at hV
        have HV := Lib.hid hV
        have HZ := Lib.hid (And.intro hr hz)
        have HBW := Lib.hid hbw
        have HBL := Lib.hid hbel
        clear hV hv hr hz hbw hbel hbc hok hcx u5 u6 u7 hb5 hb6 hb7
        by_cases h0 : r2 = 0
        · subst h0
          have HX := Lib.hid (show ttGo t (10 - 3) 3 = R by have := HV.out; simpa using this)
          go_wp2_with (go_at_call 24; refine HC.out.mono ?_; rintro e w2 ⟨rfl, hb2⟩)
          go_roundw
          case rel => exact ⟨3, by omega, by first | rfl | go_num, HX.out, (fun j hj => by rcases Nat.lt_succ_iff_lt_or_eq.1 hj with h | h; exact HZ.out.2 j h; subst h; rw [HZ.out.1]), blt HBL.out hb2⟩
          case measure => simp [intOf]
        · have HX := Lib.hid (show R = (((2 : Nat) : Int), r1, r2) by have := HV.out; rw [if_pos h0] at this; exact this.symm)
          go_wp2_with (go_at_call 24; refine HC.out.mono ?_; rintro e w2 ⟨rfl, hb2⟩)
          go_ret3
          exact ⟨by rw [HX.out]; rfl, blt HBW.out hb2⟩
      · have cf := keepC hbel hS (HS.out 3 _ rfl)
        have HC := Lib.hid (ck3 t w.heap.size b7 wr hok hcx (keepC hbc hb7 u7))
        obtain ⟨r1, r2, hr⟩ : ∃ r1 r2, resT t 3 = (r1, r2) := ⟨_, _, rfl⟩
        rw [hr] at HC
        have hV : (if (resT t 3).2 ≠ 0 then (((3 : Nat) : Int), resT t 3) else ttGo t (10 - 4) 4) = R := hv
        rw [hr] at hV
        have HV := Lib.hid hV
        have HZ := Lib.hid (And.intro hr hz)
        have HBW := Lib.hid hbw
        have HBL := Lib.hid hbel
        clear hV hv hr hz hbw hbel hbc hok hcx u5 u6 u7 hb5 hb6 hb7
        by_cases h0 : r2 = 0
        · subst h0
          have HX := Lib.hid (show ttGo t (10 - 4) 4 = R by have := HV.out; simpa using this)
          go_wp2_with (go_at_call 26; refine HC.out.mono ?_; rintro e w2 ⟨rfl, hb2⟩)
          go_roundw
          case rel => exact ⟨4, by omega, by first | rfl | go_num, HX.out, (fun j hj => by rcases Nat.lt_succ_iff_lt_or_eq.1 hj with h | h; exact HZ.out.2 j h; subst h; rw [HZ.out.1]), blt HBL.out hb2⟩
          case measure => simp [intOf]
        · have HX := Lib.hid (show R = (((3 : Nat) : Int), r1, r2) by have := HV.out; rw [if_pos h0] at this; exact this.symm)
          go_wp2_with (go_at_call 26; refine HC.out.mono ?_; rintro e w2 ⟨rfl, hb2⟩)
          go_ret3
          exact ⟨by rw [HX.out]; rfl, blt HBW.out hb2⟩
      · have cf := keepC hbel hS (HS.out 4 _ rfl)
        have HC := Lib.hid (ck4 t w.heap.size b5 b6 b7 wr hok hcx (keepC hbc hb5 u5) (keepC hbc hb6 u6) (keepC hbc hb7 u7))
        obtain ⟨r1, r2, hr⟩ : ∃ r1 r2, resT t 4 = (r1, r2) := ⟨_, _, rfl⟩
        rw [hr] at HC
        have hV : (if (resT t 4).2 ≠ 0 then (((4 : Nat) : Int), resT t 4) else ttGo t (10 - 5) 5) = R := hv
        rw [hr] at hV
        have HV := Lib.hid hV
        have HZ := Lib.hid (And.intro hr hz)
        have HBW := Lib.hid hbw
        have HBL := Lib.hid hbel
        clear hV hv hr hz hbw hbel hbc hok hcx u5 u6 u7 hb5 hb6 hb7
        by_cases h0 : r2 = 0
        · subst h0
          have HX := Lib.hid (show ttGo t (10 - 5) 5 = R by have := HV.out; simpa using this)
          go_wp2_with (go_at_call 28; refine HC.out.mono ?_; rintro e w2 ⟨rfl, hb2⟩)
          go_roundw
          case rel => exact ⟨5, by omega, by first | rfl | go_num, HX.out, (fun j hj => by rcases Nat.lt_succ_iff_lt_or_eq.1 hj with h | h; exact HZ.out.2 j h; subst h; rw [HZ.out.1]), blt HBL.out hb2⟩
          case measure => simp [intOf]
        · have HX := Lib.hid (show R = (((4 : Nat) : Int), r1, r2) by have := HV.out; rw [if_pos h0] at this; exact this.symm)
          go_wp2_with (go_at_call 28; refine HC.out.mono ?_; rintro e w2 ⟨rfl, hb2⟩)
          go_ret3
          exact ⟨by rw [HX.out]; rfl, blt HBW.out hb2⟩
      · have cf := keepC hbel hS (HS.out 5 _ rfl)
        have HC := Lib.hid (ck5 t w.heap.size wr hok hcx (trips_day' (hz 4 (by omega))))
        obtain ⟨r1, r2, hr⟩ : ∃ r1 r2, resT t 5 = (r1, r2) := ⟨_, _, rfl⟩
        rw [hr] at HC
        have hV : (if (resT t 5).2 ≠ 0 then (((5 : Nat) : Int), resT t 5) else ttGo t (10 - 6) 6) = R := hv
        rw [hr] at hV
        have HV := Lib.hid hV
        have HZ := Lib.hid (And.intro hr hz)
        have HBW := Lib.hid hbw
        have HBL := Lib.hid hbel
        clear hV hv hr hz hbw hbel hbc hok hcx u5 u6 u7 hb5 hb6 hb7
        by_cases h0 : r2 = 0
        · subst h0
          have HX := Lib.hid (show ttGo t (10 - 6) 6 = R by have := HV.out; simpa using this)
          go_wp2_with (go_at_call 30; refine HC.out.mono ?_; rintro e w2 ⟨rfl, hb2⟩)
          go_roundw
          case rel => exact ⟨6, by omega, by first | rfl | go_num, HX.out, (fun j hj => by rcases Nat.lt_succ_iff_lt_or_eq.1 hj with h | h; exact HZ.out.2 j h; subst h; rw [HZ.out.1]), blt HBL.out hb2⟩
          case measure => simp [intOf]
        · have HX := Lib.hid (show R = (((5 : Nat) : Int), r1, r2) by have := HV.out; rw [if_pos h0] at this; exact this.symm)
          go_wp2_with (go_at_call 30; refine HC.out.mono ?_; rintro e w2 ⟨rfl, hb2⟩)
          go_ret3
          exact ⟨by rw [HX.out]; rfl, blt HBW.out hb2⟩
      · have cf := keepC hbel hS (HS.out 6 _ rfl)
        have HC := Lib.hid (ck6 t w.heap.size wr hok hcx)
        obtain ⟨r1, r2, hr⟩ : ∃ r1 r2, resT t 6 = (r1, r2) := ⟨_, _, rfl⟩
        rw [hr] at HC
        have hV : (if (resT t 6).2 ≠ 0 then (((6 : Nat) : Int), resT t 6) else ttGo t (10 - 7) 7) = R := hv
        rw [hr] at hV
        have HV := Lib.hid hV
        have HZ := Lib.hid (And.intro hr hz)
        have HBW := Lib.hid hbw
        have HBL := Lib.hid hbel
        clear hV hv hr hz hbw hbel hbc hok hcx u5 u6 u7 hb5 hb6 hb7
        by_cases h0 : r2 = 0
        · subst h0
          have HX := Lib.hid (show ttGo t (10 - 7) 7 = R by have := HV.out; simpa using this)
          go_wp2_with (go_at_call 32; refine HC.out.mono ?_; rintro e w2 ⟨rfl, hb2⟩)
          go_roundw
          case rel => exact ⟨7, by omega, by first | rfl | go_num, HX.out, (fun j hj => by rcases Nat.lt_succ_iff_lt_or_eq.1 hj with h | h; exact HZ.out.2 j h; subst h; rw [HZ.out.1]), blt HBL.out hb2⟩
          case measure => simp [intOf]
        · have HX := Lib.hid (show R = (((6 : Nat) : Int), r1, r2) by have := HV.out; rw [if_pos h0] at this; exact this.symm)
          go_wp2_with (go_at_call 32; refine HC.out.mono ?_; rintro e w2 ⟨rfl, hb2⟩)
          go_ret3
          exact ⟨by rw [HX.out]; rfl, blt HBW.out hb2⟩
      · have cf := keepC hbel hS (HS.out 7 _ rfl)
        have HC := Lib.hid (ck7 t w.heap.size b5 wr hok hcx (keepC hbc hb5 u5))
        obtain ⟨r1, r2, hr⟩ : ∃ r1 r2, resT t 7 = (r1, r2) := ⟨_, _, rfl⟩
        rw [hr] at HC
        have hV : (if (resT t 7).2 ≠ 0 then (((7 : Nat) : Int), resT t 7) else ttGo t (10 - 8) 8) = R := hv
        rw [hr] at hV
        have HV := Lib.hid hV
        have HZ := Lib.hid (And.intro hr hz)
        have HBW := Lib.hid hbw
        have HBL := Lib.hid hbel
        clear hV hv hr hz hbw hbel hbc hok hcx u5 u6 u7 hb5 hb6 hb7
        by_cases h0 : r2 = 0
        · subst h0
          have HX := Lib.hid (show ttGo t (10 - 8) 8 = R by have := HV.out; simpa using this)
          go_wp2_with (go_at_call 34; refine HC.out.mono ?_; rintro e w2 ⟨rfl, hb2⟩)
          go_roundw
          case rel => exact ⟨8, by omega, by first | rfl | go_num, HX.out, (fun j hj => by rcases Nat.lt_succ_iff_lt_or_eq.1 hj with h | h; exact HZ.out.2 j h; subst h; rw [HZ.out.1]), blt HBL.out hb2⟩
          case measure => simp [intOf]
        · have HX := Lib.hid (show R = (((7 : Nat) : Int), r1, r2) by have := HV.out; rw [if_pos h0] at this; exact this.symm)
          go_wp2_with (go_at_call 34; refine HC.out.mono ?_; rintro e w2 ⟨rfl, hb2⟩)
          go_ret3
          exact ⟨by rw [HX.out]; rfl, blt HBW.out hb2⟩
      · have cf := keepC hbel hS (HS.out 8 _ rfl)
        have HC := Lib.hid (ck8 t w.heap.size b5 wr hok hcx (keepC hbc hb5 u5))
        obtain ⟨r1, r2, hr⟩ : ∃ r1 r2, resT t 8 = (r1, r2) := ⟨_, _, rfl⟩
        rw [hr] at HC
        have hV : (if (resT t 8).2 ≠ 0 then (((8 : Nat) : Int), resT t 8) else ttGo t (10 - 9) 9) = R := hv
        rw [hr] at hV
        have HV := Lib.hid hV
        have HZ := Lib.hid (And.intro hr hz)
        have HBW := Lib.hid hbw
        have HBL := Lib.hid hbel
        clear hV hv hr hz hbw hbel hbc hok hcx u5 u6 u7 hb5 hb6 hb7
        by_cases h0 : r2 = 0
        · subst h0
          have HX := Lib.hid (show ttGo t (10 - 9) 9 = R by have := HV.out; simpa using this)
          go_wp2_with (go_at_call 36; refine HC.out.mono ?_; rintro e w2 ⟨rfl, hb2⟩)
          go_roundw
          case rel => exact ⟨9, by omega, by first | rfl | go_num, HX.out, (fun j hj => by rcases Nat.lt_succ_iff_lt_or_eq.1 hj with h | h; exact HZ.out.2 j h; subst h; rw [HZ.out.1]), blt HBL.out hb2⟩
          case measure => simp [intOf]
        · have HX := Lib.hid (show R = (((8 : Nat) : Int), r1, r2) by have := HV.out; rw [if_pos h0] at this; exact this.symm)
          go_wp2_with (go_at_call 36; refine HC.out.mono ?_; rintro e w2 ⟨rfl, hb2⟩)
          go_ret3
          exact ⟨by rw [HX.out]; rfl, blt HBW.out hb2⟩
      · have cf := keepC hbel hS (HS.out 9 _ rfl)
        have HC := Lib.hid (ck9 t w.heap.size wr hok hcx)
        obtain ⟨r1, r2, hr⟩ : ∃ r1 r2, resT t 9 = (r1, r2) := ⟨_, _, rfl⟩
        rw [hr] at HC
        have hV : (if (resT t 9).2 ≠ 0 then (((9 : Nat) : Int), resT t 9) else ttGo t (10 - 10) 10) = R := hv
        rw [hr] at hV
        have HV := Lib.hid hV
        have HZ := Lib.hid (And.intro hr hz)
        have HBW := Lib.hid hbw
        have HBL := Lib.hid hbel
        clear hV hv hr hz hbw hbel hbc hok hcx u5 u6 u7 hb5 hb6 hb7
        by_cases h0 : r2 = 0
        · subst h0
          have HX := Lib.hid (show ttGo t (10 - 10) 10 = R by have := HV.out; simpa using this)
          go_wp2_with (go_at_call 38; refine HC.out.mono ?_; rintro e w2 ⟨rfl, hb2⟩)
          go_roundw
          case rel => exact ⟨10, by omega, by first | rfl | go_num, HX.out, (fun j hj => by rcases Nat.lt_succ_iff_lt_or_eq.1 hj with h | h; exact HZ.out.2 j h; subst h; rw [HZ.out.1]), blt HBL.out hb2⟩
          case measure => simp [intOf]
        · have HX := Lib.hid (show R = (((9 : Nat) : Int), r1, r2) by have := HV.out; rw [if_pos h0] at this; exact this.symm)
          go_wp2_with (go_at_call 38; refine HC.out.mono ?_; rintro e w2 ⟨rfl, hb2⟩)
          go_ret3
          exact ⟨by rw [HX.out]; rfl, blt HBW.out hb2⟩
      · have HX := Lib.hid (show R = (0, 0, 0) from hv.symm)
        have HBW := Lib.hid hbw
        clear hv hz hbw hbel hbc hok hcx u5 u6 u7 hb5 hb6 hb7
        go_wp2
        go_ret3
        exact ⟨by rw [HX.out]; rfl, HBW.out⟩
end Go.Proofs.Tt
