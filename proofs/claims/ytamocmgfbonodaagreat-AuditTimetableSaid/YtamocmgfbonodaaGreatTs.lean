/-
  A part of the proof: lemmas of my own.
-/
import Derived.Test.YtamocmgfbonodaaGreatTr
set_option linter.unusedVariables false
set_option linter.unusedSimpArgs false
namespace Go.Proofs.Tt
open Go Go.Proofs
open Go.RowKit Go.Maps Go.Shelf
set_option maxRecDepth 1000000

theorem own_at {w : World} {base : Nat} {e : TypeId} {size n : Nat} {v : Value} {xs : List Value} (h : w.ownsRow base e size v n xs) :
    ∃ a c, v = .slice a n c ∧ ∀ j u, xs[j]? = some u → ∃ g, a = some ⟨g, 0, none⟩ ∧ base ≤ g ∧ g < w.heap.size ∧ w.cell? ⟨g, j, none⟩ = some u := by
  rcases h.2 with ⟨hv, hn⟩ | ⟨g, cap, cur, hv, _⟩
  · subst hv hn
    refine ⟨none, 0, rfl, fun j u hj => ?_⟩
    have h1 := h.1
    rw [Nat.zero_mul] at h1
    rw [List.eq_nil_of_length_eq_zero h1] at hj
    cases hj
  · subst hv
    exact ⟨_, _, rfl, fun j u hj => ⟨g, rfl, (h.lt g rfl).1, (h.lt g rfl).2, by have := h.cells (g := g) rfl j u hj; rwa [addr_add] at this⟩⟩
theorem ownsRow_low {w : World} {base b2 : Nat} {e : TypeId} {size n : Nat} {v : Value} {xs : List Value} (h : w.ownsRow base e size v n xs) (hb : b2 ≤ base) : w.ownsRow b2 e size v n xs :=
  ⟨h.1, h.2.imp id (fun ⟨g, cap, cur, a, b, c⟩ => ⟨g, cap, cur, a, Nat.le_trans hb b, c⟩)⟩
theorem KB.mono {O Bi B2 : Nat} {A B : World} (h : KB O Bi A B) (hb : B2 ≤ Bi) : KB O B2 A B := ⟨h.os, h.tape, h.output, h.size, fun b h1 h2 => h.block b (by omega) h2⟩

def toF (x : Wn) : Fd := (2, x.1, x.2.1, 0)
def fdL (t : TT) : List Fd := if (ttRes t).2.2 ≠ 0 then [(1, (ttRes t).1, (ttRes t).2.1, (ttRes t).2.2)] else (wrnL t).map toF
def FdR (w : World) (l : List Fd) (e : Ending) (w' : World) : Prop := ∃ a c, e = .returned (.slice a l.length c) ∧ RowsAt w' a 4 (l.map rowF) ∧ Below w.heap.size w w'
theorem rowsAt_fd {w : World} {base : Nat} {v : Value} {l : List Fd} (h : w.ownsRow base 62 4 v l.length (rowsF l)) : ∃ a c, v = .slice a l.length c ∧ RowsAt w a 4 (l.map rowF) := by
  obtain ⟨a, c, hv, hc⟩ := own_at h
  refine ⟨a, c, hv, fun i r hr => ?_⟩
  obtain ⟨x, hx, rfl⟩ : ∃ x, l[i]? = some x ∧ rowF x = r := by
    rw [List.getElem?_map] at hr
    cases hx : l[i]? with
    | none => rw [hx] at hr; cases hr
    | some x => rw [hx] at hr; exact ⟨x, rfl, Option.some.inj hr⟩
  have k := fun j u hj => hc (i * 4 + j) u (rowsF_get l i x j u hx hj)
  obtain ⟨g, ha, _, hg, _⟩ := k 0 _ rfl
  refine ⟨g, 0, ha, hg, fun j u hj => ?_⟩
  obtain ⟨g', ha', _, _, hu⟩ := k j u hj
  rw [ha] at ha'
  cases ha'
  rw [Nat.zero_add]
  exact hu

theorem rowsW_at {w : World} {base : Nat} {v : Value} {L : List Wn} (h : w.ownsRow base 70 3 v L.length (rowsW L)) : ∃ a c, v = .slice a L.length c ∧ ∀ i x, L[i]? = some x → ∃ g, a = some ⟨g, 0, none⟩ ∧ base ≤ g ∧ g < w.heap.size ∧ w.cell? ⟨g, i * 3, none⟩ = some (.int .i64 x.1) ∧ w.cell? ⟨g, i * 3 + 1, none⟩ = some (.int .i64 x.2.1) ∧ w.cell? ⟨g, i * 3 + 2, none⟩ = some (.int .i64 x.2.2) := by
  obtain ⟨a, c, hv, hc⟩ := own_at h
  refine ⟨a, c, hv, fun i x hx => ?_⟩
  have k := fun j u hj => hc (i * 3 + j) u (rowsW_get L i x j u hx hj)
  obtain ⟨g, ha, hb, hg, h0⟩ := k 0 _ rfl
  obtain ⟨g1, ha1, _, _, h1⟩ := k 1 _ rfl
  obtain ⟨g2, ha2, _, _, h2⟩ := k 2 _ rfl
  rw [ha] at ha1 ha2
  cases ha1; cases ha2
  exact ⟨g, ha, hb, hg, h0, h1, h2⟩

set_option maxHeartbeats 3200000 in
theorem tim12 (t : TT) (w : World) (O Bx : Nat) (hok : t.ok w) (hsm : t.small) (hbx : Bx < w.heap.size) (hcl : ∀ k v, t.cells[k]? = some v → w.cell? ⟨Bx, k, none⟩ = some v)
    (hO : Boxed w O 39 (.slice none 0 0)) :
    Calls Tryz.prog 12 #[.func (.func 19) #[] #[.pointer (some ⟨O, 0, none⟩)], .pointer (some ⟨Bx, 0, none⟩)] w (FdP O w.heap.size w (fdL t)) := by
  have HOK := Lib.hid hok
  obtain ⟨r1, r2, r3, hr⟩ : ∃ r1 r2 r3, ttRes t = (r1, r2, r3) := ⟨_, _, _, rfl⟩
  have HR := Lib.hid hr
  have HT := Lib.hid (tt13 t w hok)
  rw [hr] at HT
  have x0 : w.cell? ⟨Bx, 0, none⟩ = some (.slice t.a0 t.st.length t.c0) := hcl 0 _ rfl
  have x1 : w.cell? ⟨Bx, 1, none⟩ = some (.slice t.a1 t.ro.length t.c1) := hcl 1 _ rfl
  have x2 : w.cell? ⟨Bx, 2, none⟩ = some (.slice t.a2 t.ca.length t.c2) := hcl 2 _ rfl
  have x3 : w.cell? ⟨Bx, 3, none⟩ = some (.slice t.a3 t.ex.length t.c3) := hcl 3 _ rfl
  have x4 : w.cell? ⟨Bx, 4, none⟩ = some (.slice t.a4 t.tr.length t.c4) := hcl 4 _ rfl
  have x5 : w.cell? ⟨Bx, 5, none⟩ = some (.slice t.a5 t.fq.length t.c5) := hcl 5 _ rfl
  have x6 : w.cell? ⟨Bx, 6, none⟩ = some (.slice t.a6 t.th.length t.c6) := hcl 6 _ rfl
  have x7 : w.cell? ⟨Bx, 7, none⟩ = some (.slice t.a7 t.gu.length t.c7) := hcl 7 _ rfl
  have x8 : w.cell? ⟨Bx, 8, none⟩ = some (.slice t.a8 t.pa.length t.c8) := hcl 8 _ rfl
  have x9 : w.cell? ⟨Bx, 9, none⟩ = some (.slice t.a9 t.pr.length t.c9) := hcl 9 _ rfl
  have xa : w.cell? ⟨Bx, 10, none⟩ = some (.int .i64 t.d) := hcl 10 _ rfl
  have xb : w.cell? ⟨Bx, 11, none⟩ = some (.int .i64 t.wi) := hcl 11 _ rfl
  have xc : w.cell? ⟨Bx, 12, none⟩ = some (.int .i64 t.cp) := hcl 12 _ rfl
  have HO := Lib.hid hO
  have hOB := hO.lt
  clear hok hr hcl hO
  go_enter Tryz.func12, Tryz.ntmps12
  go_upto_if 15 with ((go_at_call 13; refine HT.out.mono ?_; rintro e w2 ⟨rfl, hb2⟩))
  by_cases h0 : r3 = 0
  · subst h0
    have y0 := keepC hb2 hbx x0
    have y1 := keepC hb2 hbx x1
    have y2 := keepC hb2 hbx x2
    have y3 := keepC hb2 hbx x3
    have y4 := keepC hb2 hbx x4
    have y5 := keepC hb2 hbx x5
    have y6 := keepC hb2 hbx x6
    have y7 := keepC hb2 hbx x7
    have y8 := keepC hb2 hbx x8
    have y9 := keepC hb2 hbx x9
    have ya := keepC hb2 hbx xa
    have yb := keepC hb2 hbx xb
    have yc := keepC hb2 hbx xc
    have HWN := Lib.hid (warn14 t w2 (HOK.out.below hb2) hsm)
    have hle := wacc_le hsm 7
    have hwl : wrnL t = wacc t 7 := by unfold wrnL; rw [if_neg (by rw [HR.out]; simp)]
    obtain ⟨L, hL⟩ : ∃ L, wrnL t = L := ⟨_, rfl⟩
    rw [← hwl, hL] at hle
    rw [hL] at HWN
    have HX := Lib.hid (show fdL t = L.map toF by unfold fdL; rw [if_neg (by rw [HR.out]; simp), hL])
    have HB2 := Lib.hid hb2
    have HW2 := Lib.hid hb2.size
    clear x0 x1 x2 x3 x4 x5 x6 x7 x8 x9 xa xb xc hwl hL hb2 hbx
    go_wp2_with (go_at_call 14; refine HWN.out.mono ?_; rintro e w3 ⟨v0, rfl, hrow, hb3⟩; obtain ⟨a, c, rfl, hx⟩ := rowsW_at hrow)
    have HX3 := Lib.hid hx
    have HB3 := Lib.hid (blt HB2.out hb3)
    have hO3 : Boxed w3 O 39 (.slice none 0 0) := (HB3.out.block O hOB).trans HO.out
    have HWL := Lib.hid hb3.size
    have HO3 := Lib.hid hO3
    have hz3 : O < w3.heap.size := Nat.lt_of_lt_of_le hOB HB3.out.size
    clear hx hrow hb3 hO3 HT HWN HOK HR HB2
    go_loopw [25] (fun i wr => ∃ k : Nat, k ≤ L.length ∧ i = .int .i64 k ∧ KB O w3.heap.size w3 wr ∧ ∃ v, Boxed wr O 39 v ∧ wr.ownsRow w3.heap.size 62 4 v ((L.take k).map toF).length (rowsF ((L.take k).map toF))) (fun i _ => L.length - (intOf i).toNat)
    case atStart => exact ⟨0, by omega, rfl, KB.refl _ _ _, _, HO3.out, World.ownsRow_nil _ _ _ _⟩
    case round =>
      obtain ⟨k, hk, rfl, hkb, v, hv, hrow⟩ := hrel
      by_cases hlt : k < L.length
      · have hlt' : (k : Int) < (L.length : Int) := by omega
        obtain ⟨x, hx⟩ : ∃ x, L[k]? = some x := ⟨_, List.getElem?_eq_getElem hlt⟩
        obtain ⟨g, rfl, hg1, hg2, p0, p1, p2⟩ := HX3.out k x hx
        have htk : (L.take k).map toF ++ [toF x] = (L.take (k + 1)).map toF := by rw [List.take_add_one, hx]; simp
        have hlk : ((L.take k).map toF).length < 100000 := by simp; omega
        have hgO : g ≠ O := by have := HW2.out; omega
        have q0 := hkb.cell hg2 hgO p0
        have q1 := hkb.cell hg2 hgO p1
        have q2 := hkb.cell hg2 hgO p2
        obtain ⟨k1, k2, k3⟩ := x
        obtain ⟨F, hF⟩ : ∃ F, (L.take k).map toF = F := ⟨_, rfl⟩
        rw [hF] at htk hlk hrow
        simp only at q0 q1 q2
        obtain ⟨W5, hW5⟩ : ∃ W5, wr.alloc (Obj.cells #[.int .i64 k1, .int .i64 k2, .int .i64 k3] 70) = W5 := ⟨_, rfl⟩
        have hs5 : w3.heap.size ≤ wr.heap.size := hkb.size
        have hk5 : KB O w3.heap.size w3 W5 := by rw [← hW5]; exact hkb.trans (KB.of hs5 (blA (bl0 _) _))
        have z0 : W5.cell? ⟨wr.heap.size, 0, none⟩ = some (.int .i64 k1) := by rw [← hW5]; exact boxC _ _ _ 0 _ rfl
        have z1 : W5.cell? ⟨wr.heap.size, 1, none⟩ = some (.int .i64 k2) := by rw [← hW5]; exact boxC _ _ _ 1 _ rfl
        have HA := Lib.hid (add19 O w3.heap.size F 2 k1 k2 0 W5 v (by rw [← hW5]; exact hv.alloc _) (by rw [← hW5]; exact hrow.alloc _) hz3 hk5.size hlk)
        have HK5 := Lib.hid hk5
        have HTK := Lib.hid htk
        have HW5 := Lib.hid hW5
        have hgw : g < wr.heap.size := by omega
        clear hx p0 p1 p2 hF htk hW5 hk5 hkb hv hrow hlk
        go_upto_region 6 with (fail)
        rw [HW5.out]
        clear q0 q1 q2
        go_wp2_with (go_at_call 19; refine HA.out.mono ?_; rintro e w9 ⟨⟨u, rfl⟩, v', hv', hr', hk'⟩)
        go_roundw
        case rel => exact ⟨k + 1, by omega, by first | rfl | go_num, HK5.out.trans hk', v', hv', by rw [← HTK.out]; exact hr'⟩
        case measure => simp [intOf]; omega
      · obtain rfl : k = L.length := by omega
        have HV := Lib.hid (And.intro hv (And.intro hrow hkb))
        clear hv hrow hkb
        go_wp2
        go_end0
        obtain ⟨hv, hrow, hkb⟩ := HV.out
        rw [List.take_length] at hrow
        rw [HX.out]
        exact ⟨⟨_, rfl⟩, v, hv, ownsRow_low hrow HB3.out.size, (KB.of (Nat.le_refl _) HB3.out).trans (hkb.mono HB3.out.size)⟩
  · have HX := Lib.hid (show fdL t = [(1, r1, r2, r3)] by unfold fdL; rw [if_pos (by rw [HR.out]; exact h0), HR.out])
    clear x0 x1 x2 x3 x4 x5 x6 x7 x8 x9 xa xb xc
    have HA := Lib.hid (add19 O w.heap.size [] 1 r1 r2 r3 w2 _ ((hb2.block O hOB).trans HO.out) (World.ownsRow_nil _ _ _ _) hOB hb2.size (by simp))
    go_wp2_with (go_at_call 19; refine HA.out.mono ?_; rintro e w3 ⟨⟨u, rfl⟩, v', hv', hr', hk'⟩)
    (try simp only [Exit.inBlock, Exit.then]); refine bodyPost_ret (results_none rfl _ _ _) rfl ?_
    rw [HX.out]
    exact ⟨⟨_, rfl⟩, v', hv', hr', (KB.of (Nat.le_refl _) hb2).trans hk'⟩
end Go.Proofs.Tt

namespace Go.Proofs.Tt
open Go Go.Proofs
open Go.RowKit Go.Maps Go.Shelf
set_option maxRecDepth 1000000

set_option maxHeartbeats 1600000 in
theorem list11 (t : TT) (w : World) (Bx : Nat) (hok : t.ok w) (hsm : t.small) (hbx : Bx < w.heap.size) (hcl : ∀ k v, t.cells[k]? = some v → w.cell? ⟨Bx, k, none⟩ = some v) :
    Calls Tryz.prog 11 #[.func (.func 12) #[] #[.pointer (some ⟨Bx, 0, none⟩)]] w (FdR w (fdL t)) := by
  obtain ⟨W1, hW1⟩ : ∃ W1, w.alloc (Obj.cells #[.slice none 0 0] 39) = W1 := ⟨_, rfl⟩
  have hb1 : Below w.heap.size w W1 := by rw [← hW1]; exact blA (bl0 _) _
  have hO1 : Boxed W1 w.heap.size 39 (.slice none 0 0) := by rw [← hW1]; exact Boxed.new _ _ _
  have HT := Lib.hid (tim12 t W1 w.heap.size Bx (hok.below hb1) hsm (Nat.lt_of_lt_of_le hbx hb1.size) (fun k v hk => keepC hb1 hbx (hcl k v hk)) hO1)
  have HW1 := Lib.hid hW1
  have HB1 := Lib.hid hb1
  clear hcl hok hO1 hb1 hW1
  go_enter Tryz.func11, Tryz.ntmps11
  go_upto_region 2 with (fail)
  rw [HW1.out]
  go_wp2_with (go_at_call 12; refine HT.out.mono ?_; rintro e w2 ⟨⟨u, rfl⟩, v, hv, hrow, hk⟩; have hvc := hv.cell)
  go_ret
  obtain ⟨a, c, rfl, hx⟩ := rowsAt_fd hrow
  exact ⟨a, c, rfl, hx, HB1.out.trans (hk.below HB1.out.size (Nat.le_refl _))⟩

set_option maxHeartbeats 1600000 in
theorem tim7 (t : TT) (w : World) (hok : t.ok w) (hsm : t.small) : Calls Tryz.prog 7 #[t.val] w (FdR w (fdL t)) := by
  obtain ⟨W0, hW0⟩ : ∃ W0, w.alloc (Obj.cells t.cells 35) = W0 := ⟨_, rfl⟩
  have hbx : w.heap.size < W0.heap.size := by rw [← hW0]; simp
  have HB0 := Lib.hid (show Below w.heap.size w W0 by rw [← hW0]; exact blA (bl0 _) _)
  have hcl : ∀ k v, t.cells[k]? = some v → W0.cell? ⟨w.heap.size, k, none⟩ = some v := fun k v hk => by rw [← hW0]; exact boxC _ _ _ k _ hk
  have HW0 := Lib.hid (show w.alloc (Obj.cells #[.slice t.a0 t.st.length t.c0, .slice t.a1 t.ro.length t.c1, .slice t.a2 t.ca.length t.c2, .slice t.a3 t.ex.length t.c3, .slice t.a4 t.tr.length t.c4, .slice t.a5 t.fq.length t.c5, .slice t.a6 t.th.length t.c6, .slice t.a7 t.gu.length t.c7, .slice t.a8 t.pa.length t.c8, .slice t.a9 t.pr.length t.c9, .int .i64 t.d, .int .i64 t.wi, .int .i64 t.cp] 35) = W0 from hW0)
  have HT := Lib.hid (list11 t W0 w.heap.size (hok.below HB0.out) hsm hbx hcl)
  clear hW0 hok hcl
  go_enter Tryz.func7, Tryz.ntmps7
  go_upto_region 1 with (fail)
  rw [HW0.out]
  go_wp2_with (go_at_call 11; refine HT.out.mono ?_; rintro e w2 ⟨a, c, rfl, hx, hb⟩)
  go_ret
  exact ⟨a, c, rfl, hx, blt HB0.out hb⟩
end Go.Proofs.Tt

namespace Go.Proofs.Tt
open Go Go.Proofs
open Go.RowKit Go.Maps Go.Shelf
set_option maxRecDepth 1000000

abbrev OfS (w3 : World) (g k : Nat) (k1 k2 : Int) (wx : World) : Prop := wx.cell? ⟨g, k * 3, none⟩ = some (.int .i64 k1) ∧ wx.cell? ⟨g, k * 3 + 1, none⟩ = some (.int .i64 k2) ∧ Below w3.heap.size w3 wx
theorem OfS.keep {w3 wa wb : World} {g k : Nat} {k1 k2 : Int} (h : Below wa.heap.size wa wb) (hg : g < w3.heap.size) (hs : OfS w3 g k k1 k2 wa) : OfS w3 g k k1 k2 wb := by
  have := hs.2.2.size
  exact ⟨keepC h (by omega) hs.1, keepC h (by omega) hs.2.1, hs.2.2.trans (h.mono this)⟩
theorem OfS.grown {w3 wa wb : World} {g k : Nat} {k1 k2 : Int} {v : Option Nat} (h : wa.grownBy wb v) (hv : ∀ j, v = some j → w3.heap.size ≤ j) (hg : g < w3.heap.size) (hs : OfS w3 g k k1 k2 wa) : OfS w3 g k k1 k2 wb := by
  have h1 := hs.2.2.size
  have h2 : Below w3.heap.size w3 wb := hs.2.2.grown h h1 hv
  have hb : Below w3.heap.size wa wb := ⟨h.os, h.tape, h.output, h.size, fun b hb => h.block b (by omega) (fun e => by have := hv b e.symm; omega)⟩
  exact ⟨keepC hb hg hs.1, keepC hb hg hs.2.1, h2⟩

set_option maxHeartbeats 1600000 in
theorem same6 (L : List Fd) (a b : Option Addr) (ca cb : Nat) (w : World) (ha : RowsAt w a 4 (L.map rowF)) (hb : RowsAt w b 4 (L.map rowF)) (hl : L.length < 100000) :
    Calls Tryz.prog 6 #[.slice a L.length ca, .slice b L.length cb] w fun e w' => e = .returned (.bool true) ∧ Below w.heap.size w w' := by
  have HA := Lib.hid (And.intro ha hb)
  clear ha hb
  go_enter Tryz.func6, Tryz.ntmps6
  go_wp2
  go_loopw [5, 13] (fun _ i wr => ∃ k : Nat, k ≤ L.length ∧ i = .int .i64 k ∧ Below w.heap.size w wr) (fun _ i _ => L.length - (intOf i).toNat)
  case atStart => exact ⟨0, by omega, rfl, bl0 _⟩
  case round =>
    obtain ⟨k, hk, rfl, hbel⟩ := hrel
    by_cases hlt : k < L.length
    · have hlt' : (k : Int) < (L.length : Int) := by omega
      obtain ⟨x, hx⟩ : ∃ x, L[k]? = some x := ⟨_, List.getElem?_eq_getElem hlt⟩
      obtain ⟨g, f, rfl, hg, hc⟩ := HA.out.1 k (rowF x) (by simp [hx])
      obtain ⟨g2, f2, rfl, hg2, hc2⟩ := HA.out.2 k (rowF x) (by simp [hx])
      obtain ⟨x1, x2, x3, x4⟩ := x
      have p0 := keepC hbel hg (hc 0 _ rfl)
      have p1 := keepC hbel hg (hc 1 _ rfl)
      have p2 := keepC hbel hg (hc 2 _ rfl)
      have p3 := keepC hbel hg (hc 3 _ rfl)
      have q0 := keepC hbel hg2 (hc2 0 _ rfl)
      have q1 := keepC hbel hg2 (hc2 1 _ rfl)
      have q2 := keepC hbel hg2 (hc2 2 _ rfl)
      have q3 := keepC hbel hg2 (hc2 3 _ rfl)
      simp only [Nat.add_zero] at p0 q0
      have hgr : g < wr.heap.size := Nat.lt_of_lt_of_le hg hbel.size
      have hgr2 : g2 < wr.heap.size := Nat.lt_of_lt_of_le hg2 hbel.size
      clear hx hc hc2
      go_upto_region 6 with (fail)
      go_region_held3 (fun wx => KS wr wx) (first | assumption | (exact KS.mk' (bl0 _)) | (exact KS.mk' (blD (bl0 _))) | (exact KS.step (by assumption) (by assumption))) (fail)
      rename_i hH
      have HH := Lib.hid hH.1
      clear hH
      go_wp2
      exact ⟨⟨k + 1, by omega, by first | rfl | go_num, blt hbel HH.out⟩, by simp [intOf]; omega⟩
    · have hlt' : ¬ (k : Int) < (L.length : Int) := by omega
      go_wp2
      go_ret
      exact ⟨rfl, hbel⟩

theorem rowsAt1 (w : World) (r1 r2 r3 : Int) : RowsAt (w.alloc (Obj.cells #[.int .i64 1, .int .i64 r1, .int .i64 r2, .int .i64 r3] 62)) (some ⟨w.heap.size, 0, none⟩) 4 ([((1 : Int), r1, r2, r3)].map rowF) := fun i r hr => by
  cases i with
  | succ i => simp at hr
  | zero =>
    simp at hr
    subst hr
    refine ⟨_, 0, rfl, by simp, fun j x hx => ?_⟩
    rw [show 0 + 0 * 4 + j = j by omega]
    exact boxC _ _ _ j x (by simpa [rowF] using hx)

set_option maxHeartbeats 3200000 in
theorem of8 (t : TT) (w : World) (hok : t.ok w) (hsm : t.small) : Calls Tryz.prog 8 #[t.val] w (FdR w (fdL t)) := by
  obtain ⟨i0, hi, hz0, hz1, hz2⟩ := info_parts infoF
  have HI := Lib.hid (And.intro hi (And.intro hz0 (And.intro hz1 hz2)))
  clear hi hz0 hz1 hz2
  have HOK := Lib.hid hok
  obtain ⟨r1, r2, r3, hr⟩ : ∃ r1 r2 r3, ttRes t = (r1, r2, r3) := ⟨_, _, _, rfl⟩
  have HR := Lib.hid hr
  obtain ⟨W0, hW0⟩ : ∃ W0, w.alloc (Obj.cells t.cells 35) = W0 := ⟨_, rfl⟩
  have hbx : w.heap.size < W0.heap.size := by rw [← hW0]; simp
  have HB0 := Lib.hid (show Below w.heap.size w W0 by rw [← hW0]; exact blA (bl0 _) _)
  have hcl : ∀ k v, t.cells[k]? = some v → W0.cell? ⟨w.heap.size, k, none⟩ = some v := fun k v hk => by rw [← hW0]; exact boxC _ _ _ k _ hk
  have HW0 := Lib.hid (show w.alloc (Obj.cells #[.slice t.a0 t.st.length t.c0, .slice t.a1 t.ro.length t.c1, .slice t.a2 t.ca.length t.c2, .slice t.a3 t.ex.length t.c3, .slice t.a4 t.tr.length t.c4, .slice t.a5 t.fq.length t.c5, .slice t.a6 t.th.length t.c6, .slice t.a7 t.gu.length t.c7, .slice t.a8 t.pa.length t.c8, .slice t.a9 t.pr.length t.c9, .int .i64 t.d, .int .i64 t.wi, .int .i64 t.cp] 35) = W0 from hW0)
  have HT := Lib.hid (tt13 t W0 (hok.below HB0.out))
  rw [hr] at HT
  have x0 : W0.cell? ⟨w.heap.size, 0, none⟩ = some (.slice t.a0 t.st.length t.c0) := hcl 0 _ rfl
  have x1 : W0.cell? ⟨w.heap.size, 1, none⟩ = some (.slice t.a1 t.ro.length t.c1) := hcl 1 _ rfl
  have x2 : W0.cell? ⟨w.heap.size, 2, none⟩ = some (.slice t.a2 t.ca.length t.c2) := hcl 2 _ rfl
  have x3 : W0.cell? ⟨w.heap.size, 3, none⟩ = some (.slice t.a3 t.ex.length t.c3) := hcl 3 _ rfl
  have x4 : W0.cell? ⟨w.heap.size, 4, none⟩ = some (.slice t.a4 t.tr.length t.c4) := hcl 4 _ rfl
  have x5 : W0.cell? ⟨w.heap.size, 5, none⟩ = some (.slice t.a5 t.fq.length t.c5) := hcl 5 _ rfl
  have x6 : W0.cell? ⟨w.heap.size, 6, none⟩ = some (.slice t.a6 t.th.length t.c6) := hcl 6 _ rfl
  have x7 : W0.cell? ⟨w.heap.size, 7, none⟩ = some (.slice t.a7 t.gu.length t.c7) := hcl 7 _ rfl
  have x8 : W0.cell? ⟨w.heap.size, 8, none⟩ = some (.slice t.a8 t.pa.length t.c8) := hcl 8 _ rfl
  have x9 : W0.cell? ⟨w.heap.size, 9, none⟩ = some (.slice t.a9 t.pr.length t.c9) := hcl 9 _ rfl
  have xa : W0.cell? ⟨w.heap.size, 10, none⟩ = some (.int .i64 t.d) := hcl 10 _ rfl
  have xb : W0.cell? ⟨w.heap.size, 11, none⟩ = some (.int .i64 t.wi) := hcl 11 _ rfl
  have xc : W0.cell? ⟨w.heap.size, 12, none⟩ = some (.int .i64 t.cp) := hcl 12 _ rfl
  clear hW0 hok hr hcl
  go_enter Tryz.func8, Tryz.ntmps8
  go_upto_region 1 with (fail)
  rw [HW0.out]
  go_upto_if 16 with ((go_at_call 13; refine HT.out.mono ?_; rintro e w2 ⟨rfl, hb2⟩))
  by_cases h0 : r3 = 0
  · subst h0
    have y0 := keepC hb2 hbx x0
    have y1 := keepC hb2 hbx x1
    have y2 := keepC hb2 hbx x2
    have y3 := keepC hb2 hbx x3
    have y4 := keepC hb2 hbx x4
    have y5 := keepC hb2 hbx x5
    have y6 := keepC hb2 hbx x6
    have y7 := keepC hb2 hbx x7
    have y8 := keepC hb2 hbx x8
    have y9 := keepC hb2 hbx x9
    have ya := keepC hb2 hbx xa
    have yb := keepC hb2 hbx xb
    have yc := keepC hb2 hbx xc
    have HWN := Lib.hid (warn14 t w2 (HOK.out.below (blt HB0.out hb2)) hsm)
    have hle := wacc_le hsm 7
    have hwl : wrnL t = wacc t 7 := by unfold wrnL; rw [if_neg (by rw [HR.out]; simp)]
    obtain ⟨L, hL⟩ : ∃ L, wrnL t = L := ⟨_, rfl⟩
    rw [← hwl, hL] at hle
    rw [hL] at HWN
    have HX := Lib.hid (show fdL t = L.map toF by unfold fdL; rw [if_neg (by rw [HR.out]; simp), hL])
    have HB2 := Lib.hid (blt HB0.out hb2)
    clear x0 x1 x2 x3 x4 x5 x6 x7 x8 x9 xa xb xc hwl hL hb2 hbx
    go_wp2_with (go_at_call 14; refine HWN.out.mono ?_; rintro e w3 ⟨v0, rfl, hrow, hb3⟩; obtain ⟨a, c, rfl, hx⟩ := rowsW_at hrow)
    have HX3 := Lib.hid hx
    have HB3 := Lib.hid (blt HB2.out hb3)
    have HWL := Lib.hid hb3.size
    clear hx hrow hb3 HT HWN HOK HR HB2
    go_loopw [6, 8, 26] (fun v _ i wr => ∃ k : Nat, k ≤ L.length ∧ i = .int .i64 k ∧ Below w3.heap.size w3 wr ∧ wr.ownsRow w3.heap.size 62 4 v ((L.take k).map toF).length (rowsF ((L.take k).map toF))) (fun _ _ i _ => L.length - (intOf i).toNat)
    case atStart => exact ⟨0, by omega, rfl, bl0 _, World.ownsRow_nil _ _ _ _⟩
    case round =>
      obtain ⟨k, hk, rfl, hbel, hrow⟩ := hrel
      by_cases hlt : k < L.length
      · have hlt' : (k : Int) < (L.length : Int) := by omega
        obtain ⟨x, hx⟩ : ∃ x, L[k]? = some x := ⟨_, List.getElem?_eq_getElem hlt⟩
        obtain ⟨g, rfl, hg1, hg2, p0, p1, p2⟩ := HX3.out k x hx
        have htk : (L.take k).map toF ++ [toF x] = (L.take (k + 1)).map toF := by rw [List.take_add_one, hx]; simp
        have hlk : ((L.take k).map toF).length < 100000 := by simp; omega
        obtain ⟨k1, k2, k3⟩ := x
        obtain ⟨F, hF⟩ : ∃ F, (L.take k).map toF = F := ⟨_, rfl⟩
        rw [hF] at htk hlk hrow
        have hS0 : OfS w3 g k k1 k2 wr := ⟨keepC hbel hg2 p0, keepC hbel hg2 p1, hbel⟩
        have HTK := Lib.hid htk
        have hsz : w3.heap.size ≤ wr.heap.size := hbel.size
        have hOD : wr.drew.ownsRow w3.heap.size 62 4 u6 F.length (rowsF F) := hrow
        have HOD := Lib.hid hOD
        have hgw : g < wr.heap.size := by omega
        clear hx p0 p1 p2 hF htk hbel hOD
        go_upto_region 9 with (fail)
        go_region_held3 (fun wx => OfS w3 g k k1 k2 wx)
          (first | assumption | (exact OfS.keep (by assumption) hg2 (by assumption)) | (exact OfS.keep (blD (bl0 _)) hg2 (by assumption)) | (exact OfS.keep (blA (bl0 _) _) hg2 (by assumption)))
          (first
            | (refine step_append_lies _ rfl (.tmp 29) (.tmp 41) 39 rfl w3.heap.size 62 i0 _ 4 32 Tryz.underlying39 HI.out.1 HI.out.2.1 HI.out.2.2.1 HI.out.2.2.2 rfl (by decide) u6 F.length (rowsF F) (by simp [Act.eval, Act.put]) (HOD.out.alloc _) ⟨wr.heap.size, 0, none⟩ 1 1 [.int .i64 2, .int .i64 k1, .int .i64 k2, .int .i64 0] (by simp [Act.eval, Act.put]) rfl (news4 wr.drew _ _ _ _ _) (by simp [Value.oneCell']) (by decide) (by unfold maxLen; omega) (by omega) (by simp; omega) _ rfl ?_; intro g3 cap3 w6 hown6 hgrow6 hat6 hlt6; have hS6 := OfS.grown hgrow6 (fun j hj => (HOD.out.lt j hj).1) hg2 (by assumption)))
        go_wp2
        go_roundw
        case rel => exact ⟨k + 1, by omega, by first | rfl | go_num, hS6.2.2, by rw [← HTK.out, List.length_append, rowsF, List.flatMap_append]; simpa [rowsF, rowF, toF] using hown6⟩
        case measure => simp [intOf]; omega
      · obtain rfl : k = L.length := by omega
        have HV := Lib.hid (And.intro hrow hbel)
        clear hrow hbel
        go_wp2
        go_ret
        obtain ⟨hrow, hbel⟩ := HV.out
        rw [List.take_length] at hrow
        obtain ⟨a, c, rfl, hx⟩ := rowsAt_fd hrow
        rw [HX.out]
        exact ⟨a, c, rfl, hx, HB3.out.trans (hbel.mono HB3.out.size)⟩
  · have HX := Lib.hid (show fdL t = [(1, r1, r2, r3)] by unfold fdL; rw [if_pos (by rw [HR.out]; exact h0), HR.out])
    clear x0 x1 x2 x3 x4 x5 x6 x7 x8 x9 xa xb xc
    go_wp2
    go_ret
    rw [HX.out]
    exact ⟨some ⟨w2.heap.size, 0, none⟩, 1, rfl, rowsAt1 w2 r1 r2 r3, blt HB0.out (blA hb2 _)⟩
end Go.Proofs.Tt
