/-
  A part of the proof: lemmas of my own.
-/
import Derived.Test.YtamocmgfbonodaaGreatTf
import Derived.Deep.RegionHeld3
import Derived.BigRegion
set_option linter.unusedVariables false
set_option linter.unusedSimpArgs false
namespace Go.Proofs.Tt
open Go Go.Proofs
open Go.RowKit Go.Maps
set_option maxRecDepth 1000000

def tripAtD (T : List TripD) (x : Int) : TripD := T[x.toNat]?.getD ⟨⟨#[]⟩, 0, 0, false, none, 0, []⟩
/-- the error of a row, those of p before it -/
def thrE (T : List TripD) (F : List FrqD) (p : List ThrD) (s : ThrD) : Int :=
  if (pairS T.length F s.fr s.to_).1 ≠ 0 then (pairS T.length F s.fr s.to_).1 else if (pairS T.length F s.fr s.to_).2 ≠ 0 then (pairS T.length F s.fr s.to_).2
  else if follS (tripAtD T s.fr) (tripAtD T s.to_) ≠ 0 then follS (tripAtD T s.fr) (tripAtD T s.to_)
  else if s.fr ∈ p.map ThrD.fr ∨ s.to_ ∈ p.map ThrD.to_ then 6 else if anyGo s.fr (chainS p s.to_) = true then 19 else 0
def thrGo (T : List TripD) (F : List FrqD) (l : List ThrD) : Nat → List ThrD → Int × Int
  | _, [] => (0, 0)
  | k, s :: r => if thrE T F (l.take k) s ≠ 0 then (k, thrE T F (l.take k) s) else thrGo T F l (k + 1) r
def thrRes (T : List TripD) (F : List FrqD) (l : List ThrD) : Int × Int := if 128 < l.length then (0, 5) else thrGo T F l 0 l
theorem pairS_ok {n : Nat} {l : List FrqD} {x y : Int} (h : (pairS n l x y).1 = 0) : 0 ≤ x ∧ x < n ∧ 0 ≤ y ∧ y < n ∧ x ≠ y := by
  unfold pairS at h
  split at h
  · cases h
  · omega

set_option maxHeartbeats 3200000 in
theorem thr33 (a ta fa : Option Addr) (cap tc fc : Nat) (l : List ThrD) (T : List TripD) (F : List FrqD) (w : World) (hr : RowsAt w a 2 (l.map ThrD.row)) (hid : ∀ s ∈ l, inW s.fr ∧ inW s.to_) (hl : l.length ≤ cap)
    (hl2 : l.length < 1000000) (ht : RowsAt w ta 5 (T.map TripD.row)) (htc : ∀ s ∈ T, RowsAt w s.a 5 (s.calls.map CallD.row) ∧ s.calls.length < 1000000) (htl : T.length < 1000000) (hf : RowsAt w fa 4 (F.map FrqD.row)) (hfl : F.length < 1000000) :
    Calls Tryz.prog 33 #[.slice a l.length cap, .slice ta T.length tc, .slice fa F.length fc] w fun e w' => e = .returned (.tuple #[.int .i64 (thrRes T F l).1, .int .i64 (thrRes T F l).2]) ∧ Below w.heap.size w w' := by
  have hmm := @run_makeMap Tryz.prog
  by_cases h64 : 128 < l.length
  · have HR := Lib.hid (show thrRes T F l = (0, 5) by unfold thrRes; rw [if_pos h64])
    have h64' : (128 : Int) < (l.length : Int) := by omega
    clear hr hid ht htc hf
    go_enter Tryz.func33, Tryz.ntmps33
    go_wp2
    go_ret2
    exact ⟨by rw [HR.out]; rfl, Below.refl _ _⟩
  · have h64' : ¬ (128 : Int) < (l.length : Int) := by omega
    obtain ⟨R, hR⟩ : ∃ R, thrRes T F l = R := ⟨_, rfl⟩
    rw [hR]
    have HR := Lib.hid (show thrGo T F l 0 l = R by rw [← hR]; unfold thrRes; rw [if_neg h64])
    have HRW := Lib.hid hr
    have HID := Lib.hid hid
    have HT := Lib.hid ht
    have HTC := Lib.hid htc
    have HF := Lib.hid hf
    clear hR hr hid ht htc hf
    go_enter Tryz.func33, Tryz.ntmps33
    go_wp2
    have b0 : Below w.heap.size w ((w.alloc (.map #[] 0)).alloc (.map #[] 0)) := blA (blA (bl0 _) _) _
    have s0 : SetK 3 ((w.alloc (.map #[] 0)).alloc (.map #[] 0)) w.heap.size 0 [] := (SetK.made 3 w).at (heap_alloc_old _ _ (by simp))
    have s1 : SetK 3 ((w.alloc (.map #[] 0)).alloc (.map #[] 0)) (w.heap.size + 1) 0 [] := by have := SetK.made 3 (w.alloc (.map #[] 0)); simpa using this
    have A0 := Lib.hid (And.intro b0 (And.intro s0 s1))
    clear b0 s0 s1
    go_loopw [22] (fun i wr => ∃ (k : Nat), k ≤ l.length ∧ i = .int .i64 k ∧ SetK 3 wr w.heap.size k (((l.take k).map ThrD.fr).map ikey).reverse ∧ SetK 3 wr (w.heap.size + 1) k (((l.take k).map ThrD.to_).map ikey).reverse ∧ thrGo T F l k (l.drop k) = R ∧ Below w.heap.size w wr) (fun i _ => l.length - (intOf i).toNat)
    case atStart => exact ⟨0, Nat.zero_le _, rfl, A0.out.2.1, A0.out.2.2, HR.out, A0.out.1⟩
    case round =>
      obtain ⟨k, hk, rfl, hset, hset', hv, hbel⟩ := hrel
      by_cases hlt : k < l.length
      · have hlt' : (k : Int) < (l.length : Int) := by omega
        obtain ⟨s, hs⟩ : ∃ s, l[k]? = some s := ⟨l[k], List.getElem?_eq_getElem hlt⟩
        have hdrop : l.drop k = s :: l.drop (k + 1) := by
          rw [List.drop_eq_getElem_cons hlt]
          rw [List.getElem?_eq_getElem hlt] at hs
          cases hs; rfl
        obtain ⟨hw1, hw2⟩ := HID.out s (List.mem_of_getElem? hs)
        obtain ⟨g, off, ha, hg, hc⟩ := HRW.out k _ (by rw [List.getElem?_map, hs]; rfl)
        subst ha
        rw [hdrop, thrGo] at hv
        have hst := hset'.lt
        have c0 : wr.cell? ⟨g, off + k * 2, none⟩ = some (.int .i64 s.fr) := keepC hbel hg (hc 0 _ rfl)
        have c1 : wr.cell? ⟨g, off + k * 2 + 1, none⟩ = some (.int .i64 s.to_) := keepC hbel hg (hc 1 _ rfl)
        have hgw : g < wr.heap.size := by omega
        have HK1 := Lib.hid (keyOfI s.fr hw1)
        have HK2 := Lib.hid (keyOfI s.to_ hw2)
        have HW := Lib.hid (And.intro hw1 hw2)
        have HS := Lib.hid hs
        have HB := Lib.hid hbel
        have HV := Lib.hid hv
        have H0 := Lib.hid hset
        have H1 := Lib.hid hset'
        obtain ⟨fr, to_⟩ := s
        simp only at c0 c1 hw1 hw2
        have belA : Below w.heap.size w (wr.alloc (Obj.cells #[.int .i64 fr, .int .i64 to_] 129)) := blA hbel _
        have HP := Lib.hid (pair63 fr to_ ta fa T.length tc fc F _ ((HF.out.below belA)) hfl)
        obtain ⟨m, r, hp⟩ : ∃ m r, pairS T.length F fr to_ = (m, r) := ⟨_, _, rfl⟩
        rw [hp] at HP
        have hE : thrE T F (l.take k) ⟨fr, to_⟩ = if m ≠ 0 then m else if r ≠ 0 then r else if follS (tripAtD T fr) (tripAtD T to_) ≠ 0 then follS (tripAtD T fr) (tripAtD T to_) else if fr ∈ (l.take k).map ThrD.fr ∨ to_ ∈ (l.take k).map ThrD.to_ then 6 else if anyGo fr (chainS (l.take k) to_) = true then 19 else 0 := by unfold thrE; simp only [hp]
        have hpo := @pairS_ok T.length F fr to_
        rw [hp] at hpo
        have HPO := Lib.hid hpo
        have HE := Lib.hid hE
        obtain ⟨W0, hW0⟩ : ∃ W0, wr.alloc (Obj.cells #[.int .i64 fr, .int .i64 to_] 129) = W0 := ⟨_, rfl⟩
        rw [hW0] at HP belA
        have bx0 : W0.cell? ⟨wr.heap.size, 0, none⟩ = some (.int .i64 fr) := by rw [← hW0]; exact boxC _ _ _ 0 _ rfl
        have bx1 : W0.cell? ⟨wr.heap.size, 1, none⟩ = some (.int .i64 to_) := by rw [← hW0]; exact boxC _ _ _ 1 _ rfl
        have hz0 : W0.heap.size = wr.heap.size + 1 := by rw [← hW0]; simp
        have HW0 := Lib.hid hW0
        have HZ := Lib.hid hz0
        have HBA := Lib.hid belA
        have hbx : wr.heap.size < W0.heap.size := by omega
        clear hs hdrop hc hw1 hw2 hset hset' hv hbel belA hp hpo hE hW0 hz0
        go_upto_region 7 with (fail)
        rw [HW0.out]
        go_upto_if 38 with ((go_at_call 63; refine HP.out.mono ?_; rintro e w2 ⟨rfl, hb2⟩))
        have y0 : w2.cell? ⟨wr.heap.size, 0, none⟩ = some (.int .i64 fr) := keepC hb2 hbx bx0
        have y1 : w2.cell? ⟨wr.heap.size, 1, none⟩ = some (.int .i64 to_) := keepC hb2 hbx bx1
        have hbx2 : wr.heap.size < w2.heap.size := Nat.lt_of_lt_of_le hbx hb2.size
        have HB2 := Lib.hid (blt HBA.out (hb2.mono (Nat.le_refl _)))
        have HVE := Lib.hid (fun e (h : thrE T F (l.take k) ⟨fr, to_⟩ = e) (h0 : e ≠ 0) => (show R = ((k : Int), e) by rw [← HV.out, if_pos (by rw [h]; exact h0), h]))
        have HVN := Lib.hid (fun (h : thrE T F (l.take k) ⟨fr, to_⟩ = 0) => (show thrGo T F l (k + 1) (l.drop (k + 1)) = R by rw [← HV.out, if_neg (by rw [h]; simp)]))
        have Hb2 := Lib.hid hb2
        clear bx0 bx1 c0 c1 hb2
        by_cases hm : m = 0
        · subst hm
          go_upto_if 42 with (fail)
          by_cases hr0 : r = 0
          · subst hr0
            obtain ⟨q0, q1, q2, q3, q4⟩ := HPO.out rfl
            obtain ⟨i, rfl⟩ : ∃ i : Nat, fr = i := ⟨fr.toNat, by omega⟩
            obtain ⟨j, rfl⟩ : ∃ j : Nat, to_ = j := ⟨to_.toNat, by omega⟩
            obtain ⟨x, hx⟩ : ∃ x, T[i]? = some x := ⟨_, List.getElem?_eq_getElem (by omega)⟩
            obtain ⟨y, hy⟩ : ∃ y, T[j]? = some y := ⟨_, List.getElem?_eq_getElem (by omega)⟩
            have ex : tripAtD T (i : Int) = x := by simp [tripAtD, hx]
            have ey : tripAtD T (j : Int) = y := by simp [tripAtD, hy]
            obtain ⟨gt, ft, hta, hgt, hxa⟩ := tripAt HT.out hx
            obtain ⟨gt', ft', hta', -, hya⟩ := tripAt HT.out hy
            rw [hta] at hta'
            cases hta'
            subst hta
            obtain ⟨x0, x1, x2, x3, x4⟩ := hxa.keep hgt HB2.out
            obtain ⟨z0, z1, z2, z3, z4⟩ := hya.keep hgt HB2.out
            have hgt2 : gt < w2.heap.size := Nat.lt_of_lt_of_le hgt HB2.out.size
            obtain ⟨hx1, hx2⟩ := HTC.out x (List.mem_of_getElem? hx)
            obtain ⟨hy1, hy2⟩ := HTC.out y (List.mem_of_getElem? hy)
            have HFO := Lib.hid (fun wx (h : Below w2.heap.size w2 wx) => foll64 x y wx (hx1.below (HB2.out.trans (h.mono HB2.out.size))) (hy1.below (HB2.out.trans (h.mono HB2.out.size))) hx2 hy2)
            have HE2 := HE.out
            rw [ex, ey] at HE2
            obtain ⟨e, he⟩ : ∃ e, follS x y = e := ⟨_, rfl⟩
            rw [he] at HE2
            simp only [he] at HFO
            have HE3 := Lib.hid HE2
            have i1 : (i : Int) < (T.length : Int) := q1
            have j1 : (j : Int) < (T.length : Int) := q3
            have i2 : i < T.length := by omega
            have j2 : j < T.length := by omega
            clear hx hy ex ey hxa hya hx1 hx2 hy1 hy2 HE2 he q0 q1 q2 q3 q4
            go_upto_region 12 with (fail)
            go_region_held3 (fun wx => KS w2 wx)
              (first | (exact KS.mk' (bl0 _)) | (exact KS.mk' (blD (bl0 _))) | (exact KS.step (by assumption) (by assumption)))
              (first | (go_at_call 64; refine (HFO.out _ (And.left (by assumption))).mono ?_; rintro en wx ⟨rfl, hbx⟩))
            rename_i hH
            have v0 : wx.cell? ⟨wr.heap.size, 0, none⟩ = some (.int .i64 (i : Int)) := keepC hH.1 hbx2 y0
            have v1 : wx.cell? ⟨wr.heap.size, 1, none⟩ = some (.int .i64 (j : Int)) := keepC hH.1 hbx2 y1
            have hbx3 : wr.heap.size < wx.heap.size := Nat.lt_of_lt_of_le hbx2 hH.1.size
            have HB3 := Lib.hid (blt HB2.out (hH.1.mono (Nat.le_refl _)))
            have hWr : Below wr.heap.size wr wx := by
              have q : Below wr.heap.size wr W0 := by rw [← HW0.out]; exact blA (bl0 _) _
              exact blt (blt q Hb2.out) hH.1
            have M0 := Lib.hid (H0.out.below (by omega) hWr)
            have M1 := Lib.hid (H1.out.below hst hWr)
            have HWr := Lib.hid hWr
            clear y0 y1 x0 x1 x2 x3 x4 z0 z1 z2 z3 z4 hgt hgt2 hWr hbx2 hH
            go_upto_if 57 with (fail)
            by_cases he0 : e = 0
            · subst he0
              obtain ⟨b0, hb0, hl0⟩ := M0.out.lookB keyedI Tryz.underlying127 HK1.out
              obtain ⟨b1, hb1, hl1⟩ := M1.out.lookB keyedI Tryz.underlying127 HK2.out
              rw [ikey_mem] at hb0 hb1
              have HM0 := Lib.hid hb0
              have HM1 := Lib.hid hb1
              clear hb0 hb1
              cases b0
              · cases b1
                · have hno : ¬ ((i : Int) ∈ (l.take k).map ThrD.fr ∨ (j : Int) ∈ (l.take k).map ThrD.to_) := fun h => h.elim (fun h => by have := HM0.out.2 h; cases this) (fun h => by have := HM1.out.2 h; cases this)
                  have HNO := Lib.hid hno
                  clear hno
                  go_upto_region 17 with (fail)
                  clear hl0 hl1
                  have hlen : (l.take k).length = k := by simp; omega
                  have hLD := fun wy (h : Below wx.heap.size wx wy) => leads65 (some ⟨g, off, none⟩) cap (l.take k) (j : Int) (i : Int) wy (by rw [List.map_take]; exact ((HRW.out.below HB3.out).below h).take) (by simpa using HW.out.2) (fun s hs => (HID.out s (List.mem_of_mem_take hs)).2) (by omega)
                  obtain ⟨b, hb⟩ : ∃ b, anyGo (i : Int) (chainS (l.take k) (j : Int)) = b := ⟨_, rfl⟩
                  simp only [hlen, hb] at hLD
                  have HLD := Lib.hid hLD
                  have HBB := Lib.hid hb
                  have hkc : k ≤ cap := by omega
                  have hkc' : (k : Int) ≤ (cap : Int) := by omega
                  clear hlen hLD hb
                  go_region_held3 (fun wy => KS wx wy)
                    (first | (exact KS.mk' (bl0 _)) | (exact KS.mk' (blD (bl0 _))) | (exact KS.step (by assumption) (by assumption)))
                    (first | (go_at_call 65; refine (HLD.out _ (And.left (by assumption))).mono ?_; rintro en wy ⟨rfl, hby⟩))
                  rename_i hH
                  have u0 : wy.cell? ⟨wr.heap.size, 0, none⟩ = some (.int .i64 (i : Int)) := keepC hH.1 hbx3 v0
                  have u1 : wy.cell? ⟨wr.heap.size, 1, none⟩ = some (.int .i64 (j : Int)) := keepC hH.1 hbx3 v1
                  have HB4 := Lib.hid (blt HB3.out (hH.1.mono (Nat.le_refl _)))
                  have hsx : wr.heap.size ≤ wx.heap.size := by omega
                  have hsy : wr.heap.size < wy.heap.size := Nat.lt_of_lt_of_le hbx3 hH.1.size
                  have N0 := Lib.hid (M0.out.below (by omega) hH.1)
                  have N1 := Lib.hid (M1.out.below (by omega) hH.1)
                  clear v0 v1 hby hH
                  cases b
                  · have HX := Lib.hid (HVN.out (by rw [HE3.out, if_neg (by simp), if_neg (by simp), if_neg (by simp), if_neg HNO.out, if_neg (by rw [HBB.out]; simp)]))
                    obtain ⟨W1, hr1, hs1, hg1⟩ := (SetK.at (W' := wy.drew) N0.out rfl).add keyedI Tryz.underlying127 (show k < maxLen by unfold maxLen; omega) HK1.out trivial
                    have n1 : SetK 3 W1 (w.heap.size + 1) k (((l.take k).map ThrD.to_).map ikey).reverse := N1.out.at ((hg1.block _ (by show _ < wy.heap.size; omega) (by simp)).trans rfl)
                    obtain ⟨W2, hr2, hs2, hg2⟩ := n1.add keyedI Tryz.underlying127 (show k < maxLen by unfold maxLen; omega) HK2.out trivial
                    have t0 : W1.cell? ⟨wr.heap.size, 0, none⟩ = some (.int .i64 (i : Int)) := hg1.cell (by exact u0) (by simp; omega)
                    have t1 : W1.cell? ⟨wr.heap.size, 1, none⟩ = some (.int .i64 (j : Int)) := hg1.cell (by exact u1) (by simp; omega)
                    have HS2 := Lib.hid (And.intro hs1 (And.intro hg1 (And.intro hs2 hg2)))
                    clear hs1 hg1 n1 hs2 hg2
                    go_upto_region 19 with (fail)
                    go_region
                    go_wp2
                    go_roundw
                    case rel =>
                      obtain ⟨hs1, hg1, hs2, hg2⟩ := HS2.out
                      have e1 : (((l.take (k + 1)).map ThrD.fr).map ikey).reverse = ikey (i : Int) :: (((l.take k).map ThrD.fr).map ikey).reverse := by rw [List.take_add_one, HS.out]; simp
                      have e2 : (((l.take (k + 1)).map ThrD.to_).map ikey).reverse = ikey (j : Int) :: (((l.take k).map ThrD.to_).map ikey).reverse := by rw [List.take_add_one, HS.out]; simp
                      have q1 := hg1.size
                      have q2 : wy.drew.heap.size = wy.heap.size := rfl
                      refine ⟨k + 1, by omega, by go_num, by rw [e1]; exact hs1.at (hg2.block _ (by omega) (by simp)), by rw [e2]; exact hs2, HX.out, ((HB4.out.drew).grown hg1 (by omega) (fun n hn => by cases hn; exact Nat.le_refl _)).grown hg2 (by have := HB4.out.size; omega) (fun n hn => by simp at hn; omega)⟩
                    case measure => simp [intOf]; omega
                  · have HX := Lib.hid (HVE.out 19 (by rw [HE3.out, if_neg (by simp), if_neg (by simp), if_neg (by simp), if_neg HNO.out, if_pos HBB.out]) (by decide))
                    go_wp2
                    go_ret2
                    exact ⟨by rw [HX.out]; rfl, HB4.out⟩
                · have HX := Lib.hid (HVE.out 6 (by rw [HE3.out, if_neg (by simp), if_neg (by simp), if_neg (by simp), if_pos (.inr (HM1.out.1 rfl))]) (by decide))
                  go_wp2
                  go_ret2
                  exact ⟨by rw [HX.out]; rfl, HB3.out⟩
              · have HX := Lib.hid (HVE.out 6 (by rw [HE3.out, if_neg (by simp), if_neg (by simp), if_neg (by simp), if_pos (.inl (HM0.out.1 rfl))]) (by decide))
                go_wp2
                go_ret2
                exact ⟨by rw [HX.out]; rfl, HB3.out⟩
            · have HX := Lib.hid (HVE.out e (by rw [HE3.out, if_neg (by simp), if_neg (by simp), if_pos he0]) he0)
              go_wp2
              go_ret2
              exact ⟨by rw [HX.out]; rfl, HB3.out⟩
          · have HX := Lib.hid (HVE.out r (by rw [HE.out, if_neg (by simp), if_pos hr0]) hr0)
            go_wp2
            go_ret2
            exact ⟨by rw [HX.out]; rfl, HB2.out⟩
        · have HX := Lib.hid (HVE.out m (by rw [HE.out, if_pos hm]) hm)
          go_wp2
          go_ret2
          exact ⟨by rw [HX.out]; rfl, HB2.out⟩
      · have hlt' : ¬ (k : Int) < (l.length : Int) := by omega
        rw [List.drop_of_length_le (by omega)] at hv
        have HE := Lib.hid hv
        have HB := Lib.hid hbel
        clear hv hset hset' hbel
        go_wp2
        go_ret2
        exact ⟨by rw [← HE.out]; rfl, HB.out⟩
end Go.Proofs.Tt

namespace Go.Proofs.Tt
open Go Go.Proofs
open Go.RowKit Go.Maps
set_option maxRecDepth 1000000

structure GuaD where
  fr : Int
  to_ : Int
  stop : Int
def GuaD.row (s : GuaD) : List Value := [.int .i64 s.fr, .int .i64 s.to_, .int .i64 s.stop]
def GuaD.key (s : GuaD) : Int × Int × Int := (s.fr, s.to_, s.stop)
/-- the error of a row, those of p before it -/
def guaE (T : List TripD) (F : List FrqD) (stops : Int) (p : List GuaD) (s : GuaD) : Int :=
  if (pairS T.length F s.fr s.to_).1 ≠ 0 then 9 else if s.stop < 0 then 9 else if stops ≤ s.stop then 9 else if (pairS T.length F s.fr s.to_).2 ≠ 0 then (pairS T.length F s.fr s.to_).2
  else if (meetS s.stop (tripAtD T s.fr).calls (tripAtD T s.to_).calls).2.2 = false then 19
  else if s.key ∈ p.map GuaD.key then 6 else 0
def guaGo (T : List TripD) (F : List FrqD) (stops : Int) (l : List GuaD) : Nat → List GuaD → Int × Int
  | _, [] => (0, 0)
  | k, s :: r => if guaE T F stops (l.take k) s ≠ 0 then (k, guaE T F stops (l.take k) s) else guaGo T F stops l (k + 1) r
def guaRes (T : List TripD) (F : List FrqD) (stops : Int) (l : List GuaD) : Int × Int := if 128 < l.length then (0, 5) else guaGo T F stops l 0 l
theorem gkey_mem {a : Int × Int × Int} {l : List (Int × Int × Int)} (ha : inW a.1 ∧ inW a.2.1 ∧ inW a.2.2) (hl : ∀ x ∈ l, inW x.1 ∧ inW x.2.1 ∧ inW x.2.2) : gkey a ∈ (l.map gkey).reverse ↔ a ∈ l := by
  rw [List.mem_reverse, List.mem_map]
  exact ⟨fun ⟨x, h1, h2⟩ => by have := gkey_inj (hl x h1).1 (hl x h1).2.1 (hl x h1).2.2 ha.1 ha.2.1 ha.2.2 h2; rw [← this]; exact h1, fun h => ⟨a, h, rfl⟩⟩

set_option maxHeartbeats 3200000 in
theorem gua35 (a ta fa : Option Addr) (cap tc fc : Nat) (l : List GuaD) (T : List TripD) (F : List FrqD) (stops : Int) (w : World) (hr : RowsAt w a 3 (l.map GuaD.row)) (hid : ∀ s ∈ l, inW s.fr ∧ inW s.to_ ∧ inW s.stop)
    (hl2 : l.length < 1000000) (ht : RowsAt w ta 5 (T.map TripD.row)) (htc : ∀ s ∈ T, RowsAt w s.a 5 (s.calls.map CallD.row) ∧ s.calls.length < 1000000) (htl : T.length < 1000000) (hf : RowsAt w fa 4 (F.map FrqD.row)) (hfl : F.length < 1000000) :
    Calls Tryz.prog 35 #[.slice a l.length cap, .slice ta T.length tc, .slice fa F.length fc, .int .i64 stops] w fun e w' => e = .returned (.tuple #[.int .i64 (guaRes T F stops l).1, .int .i64 (guaRes T F stops l).2]) ∧ Below w.heap.size w w' := by
  have hmm := @run_makeMap Tryz.prog
  by_cases h64 : 128 < l.length
  · have HR := Lib.hid (show guaRes T F stops l = (0, 5) by unfold guaRes; rw [if_pos h64])
    have h64' : (128 : Int) < (l.length : Int) := by omega
    clear hr hid ht htc hf
    go_enter Tryz.func35, Tryz.ntmps35
    go_wp2
    go_ret2
    exact ⟨by rw [HR.out]; rfl, Below.refl _ _⟩
  · have h64' : ¬ (128 : Int) < (l.length : Int) := by omega
    obtain ⟨R, hR⟩ : ∃ R, guaRes T F stops l = R := ⟨_, rfl⟩
    rw [hR]
    have HR := Lib.hid (show guaGo T F stops l 0 l = R by rw [← hR]; unfold guaRes; rw [if_neg h64])
    have HRW := Lib.hid hr
    have HID := Lib.hid hid
    have HT := Lib.hid ht
    have HTC := Lib.hid htc
    have HF := Lib.hid hf
    clear hR hr hid ht htc hf
    go_enter Tryz.func35, Tryz.ntmps35
    go_wp2
    have b0 : Below w.heap.size w (w.alloc (.map #[] 0)) := blA (bl0 _) _
    have s0 : SetK 136 (w.alloc (.map #[] 0)) w.heap.size 0 [] := (SetK.made 136 w)
    have A0 := Lib.hid (And.intro b0 s0)
    clear b0 s0
    go_loopw [24] (fun i wr => ∃ (k : Nat), k ≤ l.length ∧ i = .int .i64 k ∧ SetK 136 wr w.heap.size k (((l.take k).map GuaD.key).map gkey).reverse ∧ guaGo T F stops l k (l.drop k) = R ∧ Below w.heap.size w wr) (fun i _ => l.length - (intOf i).toNat)
    case atStart => exact ⟨0, Nat.zero_le _, rfl, A0.out.2, HR.out, A0.out.1⟩
    case round =>
      obtain ⟨k, hk, rfl, hset, hv, hbel⟩ := hrel
      by_cases hlt : k < l.length
      · have hlt' : (k : Int) < (l.length : Int) := by omega
        obtain ⟨s, hs⟩ : ∃ s, l[k]? = some s := ⟨l[k], List.getElem?_eq_getElem hlt⟩
        have hdrop : l.drop k = s :: l.drop (k + 1) := by
          rw [List.drop_eq_getElem_cons hlt]
          rw [List.getElem?_eq_getElem hlt] at hs
          cases hs; rfl
        have HW := Lib.hid (HID.out s (List.mem_of_getElem? hs))
        obtain ⟨g, off, ha, hg, hc⟩ := HRW.out k _ (by rw [List.getElem?_map, hs]; rfl)
        subst ha
        rw [hdrop, guaGo] at hv
        have hst := hset.lt
        have c0 : wr.cell? ⟨g, off + k * 3, none⟩ = some (.int .i64 s.fr) := keepC hbel hg (hc 0 _ rfl)
        have c1 : wr.cell? ⟨g, off + k * 3 + 1, none⟩ = some (.int .i64 s.to_) := keepC hbel hg (hc 1 _ rfl)
        have c2 : wr.cell? ⟨g, off + k * 3 + 2, none⟩ = some (.int .i64 s.stop) := keepC hbel hg (hc 2 _ rfl)
        have hgw : g < wr.heap.size := by omega
        have HKE := Lib.hid (keyOfG s.fr s.to_ s.stop HW.out.1 HW.out.2.1 HW.out.2.2)
        have HS := Lib.hid hs
        have HB := Lib.hid hbel
        have HV := Lib.hid hv
        have H0 := Lib.hid hset
        obtain ⟨fr, to_, sp⟩ := s
        simp only at c0 c1 c2
        have belA : Below w.heap.size w (wr.alloc (Obj.cells #[.int .i64 fr, .int .i64 to_, .int .i64 sp] 136)) := blA hbel _
        have HP := Lib.hid (pair63 fr to_ ta fa T.length tc fc F _ ((HF.out.below belA)) hfl)
        obtain ⟨m, r, hp⟩ : ∃ m r, pairS T.length F fr to_ = (m, r) := ⟨_, _, rfl⟩
        rw [hp] at HP
        have hE : guaE T F stops (l.take k) ⟨fr, to_, sp⟩ = if m ≠ 0 then 9 else if sp < 0 then 9 else if stops ≤ sp then 9 else if r ≠ 0 then r else if (meetS sp (tripAtD T fr).calls (tripAtD T to_).calls).2.2 = false then 19 else if (fr, to_, sp) ∈ (l.take k).map GuaD.key then 6 else 0 := by unfold guaE; simp only [hp]; rfl
        have hpo := @pairS_ok T.length F fr to_
        rw [hp] at hpo
        have HPO := Lib.hid hpo
        have HE := Lib.hid hE
        obtain ⟨W0, hW0⟩ : ∃ W0, wr.alloc (Obj.cells #[.int .i64 fr, .int .i64 to_, .int .i64 sp] 136) = W0 := ⟨_, rfl⟩
        rw [hW0] at HP belA
        have bx0 : W0.cell? ⟨wr.heap.size, 0, none⟩ = some (.int .i64 fr) := by rw [← hW0]; exact boxC _ _ _ 0 _ rfl
        have bx1 : W0.cell? ⟨wr.heap.size, 1, none⟩ = some (.int .i64 to_) := by rw [← hW0]; exact boxC _ _ _ 1 _ rfl
        have bx2 : W0.cell? ⟨wr.heap.size, 2, none⟩ = some (.int .i64 sp) := by rw [← hW0]; exact boxC _ _ _ 2 _ rfl
        have hz0 : W0.heap.size = wr.heap.size + 1 := by rw [← hW0]; simp
        have HW0 := Lib.hid hW0
        have HBA := Lib.hid belA
        have hbx : wr.heap.size < W0.heap.size := by omega
        clear hs hdrop hc hset hv hbel belA hp hpo hE hW0 hz0
        go_upto_region 7 with (fail)
        rw [HW0.out]
        go_upto_region 8 with ((go_at_call 63; refine HP.out.mono ?_; rintro e w2 ⟨rfl, hb2⟩))
        have y0 : w2.cell? ⟨wr.heap.size, 0, none⟩ = some (.int .i64 fr) := keepC hb2 hbx bx0
        have y1 : w2.cell? ⟨wr.heap.size, 1, none⟩ = some (.int .i64 to_) := keepC hb2 hbx bx1
        have y2 : w2.cell? ⟨wr.heap.size, 2, none⟩ = some (.int .i64 sp) := keepC hb2 hbx bx2
        have hbx2 : wr.heap.size < w2.heap.size := Nat.lt_of_lt_of_le hbx hb2.size
        have HB2 := Lib.hid (blt HBA.out (hb2.mono (Nat.le_refl _)))
        have HVE := Lib.hid (fun e (h : guaE T F stops (l.take k) ⟨fr, to_, sp⟩ = e) (h0 : e ≠ 0) => (show R = ((k : Int), e) by rw [← HV.out, if_pos (by rw [h]; exact h0), h]))
        have HVN := Lib.hid (fun (h : guaE T F stops (l.take k) ⟨fr, to_, sp⟩ = 0) => (show guaGo T F stops l (k + 1) (l.drop (k + 1)) = R by rw [← HV.out, if_neg (by rw [h]; simp)]))
        have Hb2 := Lib.hid hb2
        clear bx0 bx1 bx2 c0 c1 c2 hb2
        have hways : (¬ m = 0) ∨ (m = 0 ∧ sp < 0) ∨ (m = 0 ∧ ¬ sp < 0 ∧ stops ≤ sp) ∨ (m = 0 ∧ ¬ sp < 0 ∧ ¬ stops ≤ sp) := by omega
        rcases hways with z1 | ⟨z1, z2⟩ | ⟨z1, z2, z3⟩ | ⟨z1, z2, z3⟩
        · have HX := Lib.hid (HVE.out 9 (by rw [HE.out, if_pos z1]) (by decide))
          go_wp2
          go_ret2
          exact ⟨by rw [HX.out]; rfl, HB2.out⟩
        · have HX := Lib.hid (HVE.out 9 (by rw [HE.out, if_neg (by simp [z1]), if_pos z2]) (by decide))
          subst z1
          go_wp2
          go_ret2
          exact ⟨by rw [HX.out]; rfl, HB2.out⟩
        · have HX := Lib.hid (HVE.out 9 (by rw [HE.out, if_neg (by simp [z1]), if_neg z2, if_pos z3]) (by decide))
          subst z1
          go_wp2
          go_ret2
          exact ⟨by rw [HX.out]; rfl, HB2.out⟩
        · subst z1
          go_upto_if 54 with (fail)
          by_cases hr0 : r = 0
          · subst hr0
            obtain ⟨q0, q1, q2, q3, q4⟩ := HPO.out rfl
            obtain ⟨i, rfl⟩ : ∃ i : Nat, fr = i := ⟨fr.toNat, by omega⟩
            obtain ⟨j, rfl⟩ : ∃ j : Nat, to_ = j := ⟨to_.toNat, by omega⟩
            obtain ⟨x, hx⟩ : ∃ x, T[i]? = some x := ⟨_, List.getElem?_eq_getElem (by omega)⟩
            obtain ⟨y, hy⟩ : ∃ y, T[j]? = some y := ⟨_, List.getElem?_eq_getElem (by omega)⟩
            have ex : tripAtD T (i : Int) = x := by simp [tripAtD, hx]
            have ey : tripAtD T (j : Int) = y := by simp [tripAtD, hy]
            obtain ⟨gt, ft, hta, hgt, hxa⟩ := tripAt HT.out hx
            obtain ⟨gt', ft', hta', -, hya⟩ := tripAt HT.out hy
            rw [hta] at hta'
            cases hta'
            subst hta
            obtain ⟨-, -, -, -, x4⟩ := hxa.keep hgt HB2.out
            obtain ⟨-, -, -, -, y4⟩ := hya.keep hgt HB2.out
            have hgt2 : gt < w2.heap.size := Nat.lt_of_lt_of_le hgt HB2.out.size
            obtain ⟨hx1, hx2⟩ := HTC.out x (List.mem_of_getElem? hx)
            obtain ⟨hy1, hy2⟩ := HTC.out y (List.mem_of_getElem? hy)
            have HFO := Lib.hid (fun wx (h : Below w2.heap.size w2 wx) => meets66 sp x.a y.a x.cap y.cap x.calls y.calls wx (hx1.below (HB2.out.trans (h.mono HB2.out.size))) (hy1.below (HB2.out.trans (h.mono HB2.out.size))) hx2 hy2)
            have HE2 := HE.out
            rw [ex, ey] at HE2
            obtain ⟨e1, e2, e, he⟩ : ∃ e1 e2 e, meetS sp x.calls y.calls = (e1, e2, e) := ⟨_, _, _, rfl⟩
            rw [he] at HE2
            simp only [he] at HFO
            have HE3 := Lib.hid HE2
            have i1 : (i : Int) < (T.length : Int) := q1
            have j1 : (j : Int) < (T.length : Int) := q3
            have i2 : i < T.length := by omega
            have j2 : j < T.length := by omega
            clear hx hy ex ey hxa hya hx1 hx2 hy1 hy2 HE2 he q0 q1 q2 q3 q4
            go_upto_region 12 with (fail)
            go_region_held3 (fun wx => KS w2 wx)
              (first | (exact KS.mk' (bl0 _)) | (exact KS.mk' (blD (bl0 _))) | (exact KS.step (by assumption) (by assumption)))
              (first | (go_at_call 66; refine (HFO.out _ (And.left (by assumption))).mono ?_; rintro en wx ⟨rfl, hbx⟩))
            rename_i hH
            have v0 : wx.cell? ⟨wr.heap.size, 0, none⟩ = some (.int .i64 (i : Int)) := keepC hH.1 hbx2 y0
            have v1 : wx.cell? ⟨wr.heap.size, 1, none⟩ = some (.int .i64 (j : Int)) := keepC hH.1 hbx2 y1
            have v2 : wx.cell? ⟨wr.heap.size, 2, none⟩ = some (.int .i64 sp) := keepC hH.1 hbx2 y2
            have hbx3 : wr.heap.size < wx.heap.size := Nat.lt_of_lt_of_le hbx2 hH.1.size
            have HB3 := Lib.hid (blt HB2.out (hH.1.mono (Nat.le_refl _)))
            have hWr : Below wr.heap.size wr wx := by
              have q : Below wr.heap.size wr W0 := by rw [← HW0.out]; exact blA (bl0 _) _
              exact blt (blt q Hb2.out) hH.1
            have M0 := Lib.hid (H0.out.below (by omega) hWr)
            clear y0 y1 y2 x4 y4 hgt hgt2 hWr hbx2 hH
            cases e
            · have HX := Lib.hid (HVE.out 19 (by rw [HE3.out, if_neg (by simp), if_neg (show ¬ sp < 0 by omega), if_neg (show ¬ stops ≤ sp by omega), if_neg (by simp), if_pos rfl]) (by decide))
              go_wp2
              go_ret2
              exact ⟨by rw [HX.out]; rfl, HB3.out⟩
            · obtain ⟨b0, hb0, hl0⟩ := M0.out.lookB keyedG Tryz.underlying134 HKE.out
              rw [gkey_mem (a := ((i : Int), (j : Int), sp)) HW.out (fun x hx => by obtain ⟨s, h1, h2⟩ := List.mem_map.1 hx; rw [← h2]; exact HID.out s (List.mem_of_mem_take h1))] at hb0
              have HM0 := Lib.hid hb0
              clear hb0
              cases b0
              · have HX := Lib.hid (HVN.out (by rw [HE3.out, if_neg (by simp), if_neg (show ¬ sp < 0 by omega), if_neg (show ¬ stops ≤ sp by omega), if_neg (by simp), if_neg (by simp), if_neg (fun h => by have := HM0.out.2 h; cases this)]))
                go_wp2_with (first | (at_mapUpdate; refine wpList_set_add _ rfl _ _ _ 134 rfl 136 keyedG Tryz.underlying134 w.heap.size k _ rfl M0.out (by unfold maxLen; omega) _ _ rfl rfl HKE.out trivial ?_; intro w5 hset1 hgrow1))
                go_roundw
                case rel =>
                  have e1 : (((l.take (k + 1)).map GuaD.key).map gkey).reverse = gkey ((i : Int), (j : Int), sp) :: (((l.take k).map GuaD.key).map gkey).reverse := by rw [List.take_add_one, HS.out]; simp [GuaD.key]
                  exact ⟨k + 1, by omega, by go_num, by rw [e1]; exact hset1, HX.out, HB3.out.grown hgrow1 HB3.out.size (fun n hn => by cases hn; exact Nat.le_refl _)⟩
                case measure => simp [intOf]; omega
              · have HX := Lib.hid (HVE.out 6 (by rw [HE3.out, if_neg (by simp), if_neg (show ¬ sp < 0 by omega), if_neg (show ¬ stops ≤ sp by omega), if_neg (by simp), if_neg (by simp), if_pos (HM0.out.1 rfl)]) (by decide))
                go_wp2
                go_ret2
                exact ⟨by rw [HX.out]; rfl, HB3.out⟩
          · have HX := Lib.hid (HVE.out r (by rw [HE.out, if_neg (by simp), if_neg (show ¬ sp < 0 by omega), if_neg (show ¬ stops ≤ sp by omega), if_pos hr0]) hr0)
            go_wp2
            go_ret2
            exact ⟨by rw [HX.out]; rfl, HB2.out⟩
      · have hlt' : ¬ (k : Int) < (l.length : Int) := by omega
        rw [List.drop_of_length_le (by omega)] at hv
        have HE := Lib.hid hv
        have HB := Lib.hid hbel
        clear hv hset hbel
        go_wp2
        go_ret2
        exact ⟨by rw [← HE.out]; rfl, HB.out⟩
end Go.Proofs.Tt
