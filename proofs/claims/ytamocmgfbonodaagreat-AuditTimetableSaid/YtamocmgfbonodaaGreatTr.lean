/-
  A part of the proof: lemmas of my own.
-/
import Derived.Test.YtamocmgfbonodaaGreatTj
import Derived.Test.YtamocmgfbonodaaGreatTn
import Derived.Test.YtamocmgfbonodaaGreatTo
import Derived.Test.YtamocmgfbonodaaGreatTq
set_option linter.unusedVariables false
set_option linter.unusedSimpArgs false
namespace Go.Proofs.Tt
open Go Go.Proofs
open Go.RowKit Go.Maps Go.Shelf
set_option maxRecDepth 1000000

/-- what the seven iterators give -/
def wxs (t : TT) : Nat → List Wn
  | 0 => misL 1 (stopsF t) t.st.length
  | 1 => misL 2 (namF TripD.route (fun _ => false) t.tr) t.ro.length
  | 2 => misL 3 (namF TripD.cal (fun _ => false) t.tr) t.ca.length
  | 3 => misL 4 (idleF t (fun _ => false) 0 t.tr) t.tr.length
  | 4 => ovO (ovP t.tr (repF (fun _ => false) t.fq)) t.tr.length t.tr.length
  | 5 => misL 6 (reachF t) t.st.length
  | _ => misL 7 (unpF t) t.ro.length
def wN (t : TT) : Nat → Nat
  | 0 => t.st.length
  | 1 => t.ro.length
  | 2 => t.ca.length
  | 3 => t.tr.length
  | 4 => t.tr.length * t.tr.length
  | 5 => t.st.length
  | _ => t.ro.length
def wacc (t : TT) : Nat → List Wn
  | 0 => []
  | k + 1 => colL (wacc t k) (wxs t k)
def wrnL (t : TT) : List Wn := if (ttRes t).2.2 ≠ 0 then [] else wacc t 7
def TT.small (t : TT) : Prop := t.st.length ≤ 100 ∧ t.ro.length ≤ 100 ∧ t.ca.length ≤ 100 ∧ t.tr.length ≤ 100
theorem wN_le {t : TT} (h : t.small) (k : Nat) : wN t k ≤ 10000 := by
  obtain ⟨h1, h2, h3, h4⟩ := h
  have h5 : t.tr.length * t.tr.length ≤ 100 * 100 := Nat.mul_le_mul h4 h4
  unfold wN
  split <;> omega
theorem wxs_le (t : TT) (k : Nat) : (wxs t k).length ≤ wN t k := by
  unfold wxs wN
  split
  · exact misL_len _ _ _
  · exact misL_len _ _ _
  · exact misL_len _ _ _
  · exact misL_len _ _ _
  · exact ovO_len _ _ _
  · exact misL_len _ _ _
  · exact misL_len _ _ _
theorem wacc_le {t : TT} (h : t.small) : ∀ k, (wacc t k).length ≤ k * 10000
  | 0 => Nat.le_refl _
  | k + 1 => by
    have h1 := wacc_le h k
    have h2 := colL_len (wacc t k) (wxs t k)
    have h3 := wxs_le t k
    have h4 := wN_le h k
    rw [wacc]
    omega

/-- one iterator taken in -/
theorem warIter {X wr : World} {O N : Nat} {u v : Value} {xs out : List Wn} (hi : IterOK X O u xs N) (hk : KB O X.heap.size X wr) (hO : Boxed wr O 67 v) (hrow : wr.ownsRow X.heap.size 70 3 v out.length (rowsW out)) (hOB : O < X.heap.size) (hN : out.length + N < 100000) :
    Calls Tryz.prog 40 #[u, .pointer (some ⟨O, 0, none⟩)] wr fun e W' => (∃ r, e = .returned r) ∧ ∃ v', Boxed W' O 67 v' ∧ W'.ownsRow X.heap.size 70 3 v' (colL out xs).length (rowsW (colL out xs)) ∧ KB O X.heap.size wr W' := by
  obtain ⟨gf, lb, rfl, eg, hs⟩ := hi
  exact callsIn_wide.1 (war40 8 (by omega) gf lb O X.heap.size N xs out wr v eg (hs 7 X.heap.size wr (by omega) (Nat.le_refl _) hk hk.size) hO hrow hOB hk.size hN)
def WrS (t : TT) (w : World) (O : Nat) (s33 s34 s35 : Value) (wx : World) : Prop := ∃ B, s33 = .slice (some ⟨B, 0, none⟩) 7 7 ∧ s34 = .int .i64 7 ∧ s35 = .int .i64 0 ∧ B < wx.heap.size ∧ B ≠ O ∧ Boxed wx O 67 (.slice none 0 0) ∧ Below w.heap.size w wx ∧ w.heap.size ≤ O ∧ O < wx.heap.size ∧ ∀ k, k < 7 → ∃ u, wx.cell? ⟨B, k, none⟩ = some u ∧ IterOK wx O u (wxs t k) (wN t k)
theorem wrS_of {t : TT} {w W1 w11 w12 w13 w14 w15 w16 w17 : World} {O : Nat} {T : TypeId} {u1 u2 u3 u4 u5 u6 u7 : Value} (hok : t.ok w) (hsm : t.small) (hb : Below w.heap.size w W1) (hwO : w.heap.size ≤ O) (hO1 : O < W1.heap.size) (hO : Boxed W1 O 67 (.slice none 0 0))
    (hb1 : Below W1.drew.heap.size W1.drew w11) (hb2 : Below w11.heap.size w11 w12) (hb3 : Below w12.heap.size w12 w13) (hb4 : Below w13.heap.size w13 w14) (hb5 : Below w14.heap.size w14 w15) (hb6 : Below w15.heap.size w15 w16) (hb7 : Below w16.heap.size w16 w17)
    (m1 : MissV w11 u1 1 ((t.st.length : Nat) : Int) (stopsF t)) (m2 : MissV w12 u2 2 ((t.ro.length : Nat) : Int) (namF TripD.route (fun _ => false) t.tr)) (m3 : MissV w13 u3 3 ((t.ca.length : Nat) : Int) (namF TripD.cal (fun _ => false) t.tr)) (m4 : MissV w14 u4 4 ((t.tr.length : Nat) : Int) (idleF t (fun _ => false) 0 t.tr)) (m6 : MissV w16 u6 6 ((t.st.length : Nat) : Int) (reachF t)) (m7 : MissV w17 u7 7 ((t.ro.length : Nat) : Int) (unpF t)) (m5 : OvV w15 u5 t (repF (fun _ => false) t.fq)) :
    WrS t w O (.slice (some ⟨w17.heap.size, 0, none⟩) 7 7) (.int .i64 7) (.int .i64 0) (w17.alloc (Obj.cells #[u1, u2, u3, u4, u5, u6, u7] T)) := by
  have HC := fun k v h => boxC w17 #[u1, u2, u3, u4, u5, u6, u7] T k v h
  have B7 : Below w17.heap.size w17 (w17.alloc (Obj.cells #[u1, u2, u3, u4, u5, u6, u7] T)) := blA (bl0 _) _
  have hsz : w17.heap.size < (w17.alloc (Obj.cells #[u1, u2, u3, u4, u5, u6, u7] T)).heap.size := by simp
  obtain ⟨X, hX⟩ : ∃ X, w17.alloc (Obj.cells #[u1, u2, u3, u4, u5, u6, u7] T) = X := ⟨_, rfl⟩
  rw [hX] at HC B7 hsz ⊢
  clear hX
  have hd : Below W1.heap.size W1 w11 := blt (blD (bl0 W1)) hb1
  have B6 := blt hb7 B7
  have B5 := blt hb6 B6
  have B4 := blt hb5 B5
  have B3 := blt hb4 B4
  have B2 := blt hb3 B3
  have B1 := blt hb2 B2
  have B0 := blt hd B1
  have hOX : Boxed X O 67 (.slice none 0 0) := (B0.block O hO1).trans hO
  have e1 := hd.size
  have e2 := hb2.size
  have e3 := hb3.size
  have e4 := hb4.size
  have e5 := hb5.size
  have e6 := hb6.size
  have e7 := hb7.size
  obtain ⟨s1, s2, s3, s4⟩ := hsm
  refine ⟨w17.heap.size, rfl, rfl, rfl, hsz, by omega, hOX, blt hb B0, hwO, by omega, fun k hk => ?_⟩
  have hk7 : k = 0 ∨ k = 1 ∨ k = 2 ∨ k = 3 ∨ k = 4 ∨ k = 5 ∨ k = 6 := by omega
  rcases hk7 with rfl | rfl | rfl | rfl | rfl | rfl | rfl
  · exact ⟨u1, HC 0 _ rfl, iter_mis hOX (m1.below B1) (by omega)⟩
  · exact ⟨u2, HC 1 _ rfl, iter_mis hOX (m2.below B2) (by omega)⟩
  · exact ⟨u3, HC 2 _ rfl, iter_mis hOX (m3.below B3) (by omega)⟩
  · exact ⟨u4, HC 3 _ rfl, iter_mis hOX (m4.below B4) (by omega)⟩
  · exact ⟨u5, HC 4 _ rfl, iter_ov hok (blt hb B0) hwO hOX (m5.below B5)⟩
  · exact ⟨u6, HC 5 _ rfl, iter_mis hOX (m6.below B6) (by omega)⟩
  · exact ⟨u7, HC 6 _ rfl, iter_mis hOX (m7.below B7) (by omega)⟩

theorem tt_routes {t : TT} (h : (ttRes t).2.2 = 0) : (routeRes t.ro).2 = 0 := by
  unfold ttRes at h
  rw [ttGo] at h
  split at h
  · rename_i q; exact absurd h q
  · rw [ttGo] at h
    split at h
    · rename_i q; exact absurd h q
    · rename_i q; exact Decidable.not_not.1 q
def RetW (w : World) (l : List Wn) (e : Ending) (w' : World) : Prop := ∃ v, e = .returned v ∧ w'.ownsRow w.heap.size 70 3 v l.length (rowsW l) ∧ Below w.heap.size w w'

set_option maxHeartbeats 3200000 in
theorem warn14 (t : TT) (w : World) (hok : t.ok w) (hsm : t.small) : Calls Tryz.prog 14 #[t.val] w (RetW w (wrnL t)) := by
  have HOK := Lib.hid hok
  obtain ⟨r1, r2, r3, hr⟩ : ∃ r1 r2 r3, ttRes t = (r1, r2, r3) := ⟨_, _, _, rfl⟩
  have HR := Lib.hid hr
  obtain ⟨W0, hW0⟩ : ∃ W0, w.alloc (Obj.cells t.cells 35) = W0 := ⟨_, rfl⟩
  have hbx : w.heap.size < W0.heap.size := by rw [← hW0]; simp
  have HB0 := Lib.hid (show Below w.heap.size w W0 by rw [← hW0]; exact blA (bl0 _) _)
  have HCL := Lib.hid (show ∀ k v, t.cells[k]? = some v → W0.cell? ⟨w.heap.size, k, none⟩ = some v from fun k v hk => by rw [← hW0]; exact boxC _ _ _ k _ hk)
  have HW0 := Lib.hid (show w.alloc (Obj.cells #[.slice t.a0 t.st.length t.c0, .slice t.a1 t.ro.length t.c1, .slice t.a2 t.ca.length t.c2, .slice t.a3 t.ex.length t.c3, .slice t.a4 t.tr.length t.c4, .slice t.a5 t.fq.length t.c5, .slice t.a6 t.th.length t.c6, .slice t.a7 t.gu.length t.c7, .slice t.a8 t.pa.length t.c8, .slice t.a9 t.pr.length t.c9, .int .i64 t.d, .int .i64 t.wi, .int .i64 t.cp] 35) = W0 from hW0)
  have HT := Lib.hid (tt13 t W0 (hok.below HB0.out))
  rw [hr] at HT
  have x0 : W0.cell? ⟨w.heap.size, 0, none⟩ = some (.slice t.a0 t.st.length t.c0) := HCL.out 0 _ rfl
  have x1 : W0.cell? ⟨w.heap.size, 1, none⟩ = some (.slice t.a1 t.ro.length t.c1) := HCL.out 1 _ rfl
  have x2 : W0.cell? ⟨w.heap.size, 2, none⟩ = some (.slice t.a2 t.ca.length t.c2) := HCL.out 2 _ rfl
  have x3 : W0.cell? ⟨w.heap.size, 3, none⟩ = some (.slice t.a3 t.ex.length t.c3) := HCL.out 3 _ rfl
  have x4 : W0.cell? ⟨w.heap.size, 4, none⟩ = some (.slice t.a4 t.tr.length t.c4) := HCL.out 4 _ rfl
  have x5 : W0.cell? ⟨w.heap.size, 5, none⟩ = some (.slice t.a5 t.fq.length t.c5) := HCL.out 5 _ rfl
  have x6 : W0.cell? ⟨w.heap.size, 6, none⟩ = some (.slice t.a6 t.th.length t.c6) := HCL.out 6 _ rfl
  have x7 : W0.cell? ⟨w.heap.size, 7, none⟩ = some (.slice t.a7 t.gu.length t.c7) := HCL.out 7 _ rfl
  have x8 : W0.cell? ⟨w.heap.size, 8, none⟩ = some (.slice t.a8 t.pa.length t.c8) := HCL.out 8 _ rfl
  have x9 : W0.cell? ⟨w.heap.size, 9, none⟩ = some (.slice t.a9 t.pr.length t.c9) := HCL.out 9 _ rfl
  have xa : W0.cell? ⟨w.heap.size, 10, none⟩ = some (.int .i64 t.d) := HCL.out 10 _ rfl
  have xb : W0.cell? ⟨w.heap.size, 11, none⟩ = some (.int .i64 t.wi) := HCL.out 11 _ rfl
  have xc : W0.cell? ⟨w.heap.size, 12, none⟩ = some (.int .i64 t.cp) := HCL.out 12 _ rfl
  clear hW0 hok hr
  go_enter Tryz.func14, Tryz.ntmps14
  go_upto_region 1 with (fail)
  rw [HW0.out]
  go_upto_if 17 with ((go_at_call 13; refine HT.out.mono ?_; rintro e w2 ⟨rfl, hb2⟩))
  by_cases h0 : r3 = 0
  · subst h0
    have hmo := Lib.hid (route_mode' (tt_routes (t := t) (by rw [HR.out])))
    have y0 := keepC hb2 hbx x0
    have y1 := keepC hb2 hbx x1
    have y2 := keepC hb2 hbx x2
    have y3 := keepC hb2 hbx x3
    have y4 := keepC hb2 hbx x4
    have y5 := keepC hb2 hbx x5
    have y6 := keepC hb2 hbx x6
    have y7 := keepC hb2 hbx x7
    have y8 := keepC hb2 hbx x8
    have y9 := keepC hb2 hbx x9
    have ya := keepC hb2 hbx xa
    have yb := keepC hb2 hbx xb
    have yc := keepC hb2 hbx xc
    have hbx2 : w.heap.size < w2.heap.size := Nat.lt_of_lt_of_le hbx hb2.size
    have HB2 := Lib.hid (blt HB0.out hb2)
    clear x0 x1 x2 x3 x4 x5 x6 x7 x8 x9 xa xb xc hb2
    obtain ⟨W1, hW1⟩ : ∃ W1, w2.alloc (Obj.cells #[.slice none 0 0] 67) = W1 := ⟨_, rfl⟩
    have hb1 : Below w2.heap.size w2 W1 := by rw [← hW1]; exact blA (bl0 _) _
    have hO : Boxed W1 w2.heap.size 67 (.slice none 0 0) := by rw [← hW1]; exact Boxed.new _ _ _
    have z0 := keepC hb1 hbx2 y0
    have z1 := keepC hb1 hbx2 y1
    have z2 := keepC hb1 hbx2 y2
    have z3 := keepC hb1 hbx2 y3
    have z4 := keepC hb1 hbx2 y4
    have z5 := keepC hb1 hbx2 y5
    have z6 := keepC hb1 hbx2 y6
    have z7 := keepC hb1 hbx2 y7
    have z8 := keepC hb1 hbx2 y8
    have z9 := keepC hb1 hbx2 y9
    have za := keepC hb1 hbx2 ya
    have zb := keepC hb1 hbx2 yb
    have zc := keepC hb1 hbx2 yc
    have hbx3 : w.heap.size < W1.heap.size := Nat.lt_of_lt_of_le hbx2 hb1.size
    have HB3 := Lib.hid (blt HB2.out hb1)
    have hwO : w.heap.size ≤ w2.heap.size := HB2.out.size
    have hO1 : w2.heap.size < W1.heap.size := by rw [← hW1]; simp
    have HOB := Lib.hid hO
    have HW1 := Lib.hid hW1
    clear y0 y1 y2 y3 y4 y5 y6 y7 y8 y9 ya yb yc hb1 hO hW1 hbx hbx2
    have C1 := Lib.hid (fun wx (h : Below W1.heap.size W1 wx) => sto41 t wx (HOK.out.below (blt HB3.out h)))
    have C2 := Lib.hid (fun wx (h : Below W1.heap.size W1 wx) => rou42 t wx (HOK.out.below (blt HB3.out h)))
    have C3 := Lib.hid (fun wx (h : Below W1.heap.size W1 wx) => cal43 t wx (HOK.out.below (blt HB3.out h)))
    have C4 := Lib.hid (fun wx (h : Below W1.heap.size W1 wx) => idl44 t wx (HOK.out.below (blt HB3.out h)))
    have C5 := Lib.hid (fun wx (h : Below W1.heap.size W1 wx) => ovt45 t wx (HOK.out.below (blt HB3.out h)))
    have C6 := Lib.hid (fun wx (h : Below W1.heap.size W1 wx) => unr46 t wx (HOK.out.below (blt HB3.out h)))
    have C7 := Lib.hid (fun wx (h : Below W1.heap.size W1 wx) => unp47 t wx (HOK.out.below (blt HB3.out h)) hmo.out)
    go_upto_region 6 with (fail)
    rw [HW1.out]
    go_cut [33, 34, 35] from 19 to 33 (fun s33 s34 s35 wx => WrS t w w2.heap.size s33 s34 s35 wx)
    case first =>
     go_region_held3 (fun wx => KS W1 wx)
       (first | assumption | (exact KS.mk' (bl0 _)) | (exact KS.mk' (blD (bl0 _))) | (exact KS.step (by assumption) (by assumption)) | (exact KS.step (by assumption) (blA (bl0 _) _)))
       (first | (go_at_call 41; refine (C1.out _ (And.left (by assumption))).mono ?_; rintro en w11 ⟨_, rfl, ⟨n1, v1, q1, b1, c1, rfl, f1⟩, hb1⟩) | (go_at_call 42; refine (C2.out _ (And.left (by assumption))).mono ?_; rintro en w12 ⟨_, rfl, ⟨n2, v2, q2, b2, c2, rfl, f2⟩, hb2⟩) | (go_at_call 43; refine (C3.out _ (And.left (by assumption))).mono ?_; rintro en w13 ⟨_, rfl, ⟨n3, v3, q3, b3, c3, rfl, f3⟩, hb3⟩) | (go_at_call 44; refine (C4.out _ (And.left (by assumption))).mono ?_; rintro en w14 ⟨_, rfl, ⟨n4, v4, q4, b4, c4, rfl, f4⟩, hb4⟩) | (go_at_call 45; refine (C5.out _ (And.left (by assumption))).mono ?_; rintro en w15 ⟨_, rfl, ⟨n5, v5, q5, b5, c5, rfl, f5⟩, hb5⟩) | (go_at_call 46; refine (C6.out _ (And.left (by assumption))).mono ?_; rintro en w16 ⟨_, rfl, ⟨n6, v6, q6, b6, c6, rfl, f6⟩, hb6⟩) | (go_at_call 47; refine (C7.out _ (And.left (by assumption))).mono ?_; rintro en w17 ⟨_, rfl, ⟨n7, v7, q7, b7, c7, rfl, f7⟩, hb7⟩))
     all_goals
      rename_i hH
      go_wp2
      go_meet
      case rel =>
        exact wrS_of HOK.out hsm HB3.out hwO hO1 HOB.out hb1 hb2 hb3 hb4 hb5 hb6 hb7 ⟨n1, v1, q1, b1, c1, rfl, f1⟩ ⟨n2, v2, q2, b2, c2, rfl, f2⟩ ⟨n3, v3, q3, b3, c3, rfl, f3⟩ ⟨n4, v4, q4, b4, c4, rfl, f4⟩ ⟨n6, v6, q6, b6, c6, rfl, f6⟩ ⟨n7, v7, q7, b7, c7, rfl, f7⟩ ⟨n5, v5, q5, b5, c5, rfl, f5⟩
    case rest =>
      obtain ⟨B, rfl, rfl, rfl, hBl, hBO, hbO, hwB, hwO', hOl, hit⟩ := hcut
      have HIT := Lib.hid hit
      have HBX := Lib.hid (And.intro hBl (And.intro hBO (And.intro hwO' hOl)))
      have HWB := Lib.hid hwB
      have HSM := Lib.hid hsm
      have HL := Lib.hid (show wrnL t = wacc t 7 by unfold wrnL; rw [if_neg (by rw [HR.out]; simp)])
      clear hit hBl hBO hwB hwO' hOl hwO hO1 hbx3 z0 z1 z2 z3 z4 z5 z6 z7 z8 z9 za zb zc C1 C2 C3 C4 C5 C6 C7 HOK HT HCL HW0 HW1 HOB hmo hsm HB0 HB2 HB3 HR
      go_wp2
      go_loopw [35] (fun i wr => ∃ k : Nat, k ≤ 7 ∧ i = .int .i64 k ∧ KB w2.heap.size wc.heap.size wc wr ∧ ∃ v, Boxed wr w2.heap.size 67 v ∧ wr.ownsRow wc.heap.size 70 3 v (wacc t k).length (rowsW (wacc t k))) (fun i _ => 7 - (intOf i).toNat)
      case atStart => exact ⟨0, by omega, rfl, KB.refl _ _ _, _, hbO, World.ownsRow_nil _ _ _ _⟩
      case round =>
        obtain ⟨k, hk, rfl, hkb, v, hv, hrow⟩ := hrel
        by_cases hk7 : k < 7
        · obtain ⟨u, hu, hi⟩ := HIT.out k hk7
          have hu' := hkb.cell HBX.out.1 HBX.out.2.1 hu
          have HC := Lib.hid (warIter hi hkb hv hrow HBX.out.2.2.2 (by have h1 := wacc_le HSM.out k; have h2 := wN_le HSM.out k; omega))
          have HKB := Lib.hid hkb
          clear hi hu hkb hv hrow hbO
          go_wp2_with (go_at_call 40; refine HC.out.mono ?_; rintro e w9 ⟨⟨r, rfl⟩, v', hv', hr', hk'⟩)
          go_roundw
          case rel => exact ⟨_, _, _, _, _, _, _, _, _, ⟨k + 1, by omega, by first | rfl | go_num, HKB.out.trans hk', v', hv', hr'⟩, rfl⟩
          case measure => simp [intOf]; omega
        · obtain rfl : k = 7 := by omega
          have hvc := hv.cell
          have HV := Lib.hid hrow
          have HKB := Lib.hid hkb
          clear hkb hv hrow hbO
          go_wp2
          go_ret
          exact ⟨v, rfl, by rw [HL.out]; exact ⟨HV.out.1, HV.out.2.imp id (fun ⟨g, cap, cur, a, b, c⟩ => ⟨g, cap, cur, a, Nat.le_trans HWB.out.size b, c⟩)⟩, HWB.out.trans (HKB.out.below HWB.out.size HBX.out.2.2.1)⟩
  · have HX := Lib.hid (show wrnL t = [] by unfold wrnL; rw [if_pos (by rw [HR.out]; exact h0)])
    clear x0 x1 x2 x3 x4 x5 x6 x7 x8 x9 xa xb xc
    go_wp2
    go_ret
    exact ⟨.slice none 0 0, rfl, by rw [HX.out]; exact World.ownsRow_nil _ _ _ _, blt HB0.out hb2⟩
end Go.Proofs.Tt

namespace Go.Proofs.Tt
open Go Go.Proofs
open Go.RowKit Go.Maps Go.Shelf
set_option maxRecDepth 1000000

abbrev Fd := Int × Int × Int × Int
def rowF (x : Fd) : List Value := [.int .i64 x.1, .int .i64 x.2.1, .int .i64 x.2.2.1, .int .i64 x.2.2.2]
def rowsF (l : List Fd) : List Value := l.flatMap rowF
theorem rowsF_snoc (l : List Fd) (x : Fd) : rowsF (l ++ [x]) = rowsF l ++ rowF x := by simp [rowsF]
theorem rowsF_get : ∀ (l : List Fd) (i : Nat) (s : Fd) (j : Nat) (v : Value), l[i]? = some s → (rowF s)[j]? = some v → (rowsF l)[i * 4 + j]? = some v
  | c :: l, 0, s, j, v, h, hj => by
    simp at h; subst h
    have hl : j < (rowF c).length := (List.getElem?_eq_some_iff.1 hj).1
    show (rowF c ++ rowsF l)[0 * 4 + j]? = _
    rw [Nat.zero_mul, Nat.zero_add, List.getElem?_append_left hl]; exact hj
  | c :: l, i + 1, s, j, v, h, hj => by
    show (rowF c ++ rowsF l)[(i + 1) * 4 + j]? = _
    have hl : (rowF c).length = 4 := rfl
    rw [List.getElem?_append_right (by rw [hl]; omega), hl, show (i + 1) * 4 + j - 4 = i * 4 + j by omega]
    exact rowsF_get l i s j v (by simpa using h) hj
theorem infoF : (Tryz.prog.info? 62).map (fun i => (i.zero, i.size, i.bytes)) = some (some (.agg #[.int .i64 0, .int .i64 0, .int .i64 0, .int .i64 0]), 4, 32) := by kernel_rfl
theorem news4 (w : World) (x y z u : Value) (T : TypeId) : ∀ j v, [x, y, z, u][j]? = some v → (w.alloc (Obj.cells #[x, y, z, u] T)).cell? ((⟨w.heap.size, 0, none⟩ : Addr).add j) = some v := World.news_of_block (cs := #[x, y, z, u]) (heap_alloc_new _ _)
abbrev Fd.val (x : Fd) : Value := .agg #[.int .i64 x.1, .int .i64 x.2.1, .int .i64 x.2.2.1, .int .i64 x.2.2.2]
def FdP (O Bi : Nat) (w : World) (out : List Fd) (e : Ending) (W' : World) : Prop := (∃ u, e = .returned u) ∧ ∃ v', Boxed W' O 39 v' ∧ W'.ownsRow Bi 62 4 v' out.length (rowsF out) ∧ KB O Bi w W'

set_option maxHeartbeats 1600000 in
theorem add19 (O Bi : Nat) (out : List Fd) (x1 x2 x3 x4 : Int) (w : World) (v : Value)
    (hO : Boxed w O 39 v) (hrow : w.ownsRow Bi 62 4 v out.length (rowsF out)) (hOB : O < Bi) (hBi : Bi ≤ w.heap.size) (hN : out.length < 100000) :
    Calls Tryz.prog 19 #[.agg #[.int .i64 x1, .int .i64 x2, .int .i64 x3, .int .i64 x4], .pointer (some ⟨O, 0, none⟩)] w (FdP O Bi w (out ++ [(x1, x2, x3, x4)])) := by
  obtain ⟨i0, hi, hz0, hz1, hz2⟩ := info_parts infoF
  have HI := Lib.hid (And.intro hi (And.intro hz0 (And.intro hz1 hz2)))
  clear hi hz0 hz1 hz2
  obtain ⟨W1, hW1⟩ : ∃ W1, w.alloc (Obj.cells #[.int .i64 x1, .int .i64 x2, .int .i64 x3, .int .i64 x4] 62) = W1 := ⟨_, rfl⟩
  have hO1 : Boxed W1 O 39 v := by rw [← hW1]; exact hO.alloc _
  have hrow1 : W1.ownsRow Bi 62 4 v out.length (rowsF out) := by rw [← hW1]; exact hrow.alloc _
  have hs1 : Bi ≤ W1.heap.size := by rw [← hW1]; simp; omega
  have hkb : KB O Bi w W1 := by rw [← hW1]; exact KB.of hBi (blA (bl0 _) _)
  have hx0 : W1.cell? ⟨w.heap.size, 0, none⟩ = some (.int .i64 x1) := by rw [← hW1]; exact boxC _ _ _ 0 _ rfl
  have hx1 : W1.cell? ⟨w.heap.size, 1, none⟩ = some (.int .i64 x2) := by rw [← hW1]; exact boxC _ _ _ 1 _ rfl
  have hx2 : W1.cell? ⟨w.heap.size, 2, none⟩ = some (.int .i64 x3) := by rw [← hW1]; exact boxC _ _ _ 2 _ rfl
  have hx3 : W1.cell? ⟨w.heap.size, 3, none⟩ = some (.int .i64 x4) := by rw [← hW1]; exact boxC _ _ _ 3 _ rfl
  have HW1 := Lib.hid hW1
  have HKB := Lib.hid hkb
  have HR0 := Lib.hid (And.intro hrow1 hO1)
  have hvc := hO1.cell
  have hvf := hO1.frozen
  have hgx : w.heap.size ≠ O := by omega
  clear hW1 hkb hrow hO hrow1 hO1
  go_enter Tryz.func19, Tryz.ntmps19
  go_upto_region 1 with (fail)
  rw [HW1.out]
  go_wp2_with (at_builtin; refine wpList_append_own _ rfl _ _ 39 rfl Bi 62 i0 _ 4 32 Tryz.underlying39 HI.out.1 HI.out.2.1 HI.out.2.2.1 HI.out.2.2.2 rfl (by decide) _ _ _ rfl (HR0.out.1.alloc _) ⟨W1.heap.size, 0, none⟩ 1 1 [.int .i64 x1, .int .i64 x2, .int .i64 x3, .int .i64 x4] rfl rfl (news4 W1 _ _ _ _ _) (by simp [Value.oneCell']) (by unfold maxLen; omega) (by omega) (by simp; omega) ?_; intro v' w1 hown' hgrow _; obtain ⟨g', cap', rfl⟩ := ownsRow_succ hown'; obtain ⟨hv1, hv2, hr2, hk2, hb2⟩ := appW HR0.out.2 (by decide) (by decide) (by decide) HR0.out.1 (by show Bi ≤ W1.heap.size; exact hs1) hown' hgrow; have hc1 := hv1.cell; have hf1 := hv1.frozen)
  go_end0
  exact ⟨⟨_, rfl⟩, _, hv2, by rw [rowsF_snoc, List.length_append]; exact hr2, HKB.out.trans hb2.1⟩
end Go.Proofs.Tt
