/-
  A part of the proof: lemmas of my own.
-/
import Derived.Test.YtamocmgfbonodaaGreatTn
import Derived.Test.YtamocmgfbonodaaGreatTm
import Derived.Laws.EntriesVeiled
set_option linter.unusedVariables false
set_option linter.unusedSimpArgs false
namespace Go.Proofs.Tt
open Go Go.Proofs
open Go.RowKit Go.Maps
set_option maxRecDepth 1000000
def orM : Int → List ProdD → Int
  | x, [] => x
  | x, p :: l => orM (bits BinOp.or IntKind.i64 x p.modes) l
def fineB (m mo : Int) : Bool := bits BinOp.and IntKind.i64 (m / 2 ^ mo.toNat) 1 == 1
def fineF (m : Int) : (Int → Bool) → Nat → List RouteD → Int → Bool
  | F, _, [] => F
  | F, k, s :: l => fineF m (upd F k (fineB m s.mode)) (k + 1) l
def payF (U : Int → Bool) : (Int → Bool) → Nat → Nat → Int → Bool
  | F, _, 0 => F
  | F, k, n + 1 => payF U (upd F k (F k || !U k)) (k + 1) n
def unpF (t : TT) : Int → Bool := payF (namF TripD.route (fun _ => false) t.tr) (fineF (orM 0 t.pr) (fun _ => false) 0 t.ro) 0 t.ro.length
theorem route_mode : ∀ (l : List RouteD) (k : Nat) (seen : List (List UInt8)), (routeGo k seen l).2 = 0 → ∀ s ∈ l, 0 ≤ s.mode ∧ s.mode < 8
  | [], _, _, _ => fun s hs => by cases hs
  | s :: l, k, seen, h => by
    rw [routeGo] at h
    split at h
    · cases h
    · split at h
      · cases h
      · split at h
        · cases h
        · rename_i q
          intro s' hs'
          rcases List.mem_cons.1 hs' with rfl | hs'
          · unfold routeBad at q; omega
          · exact route_mode l _ _ h s' hs'
theorem route_mode' {l : List RouteD} (h : (routeRes l).2 = 0) : ∀ s ∈ l, 0 ≤ s.mode ∧ s.mode < 8 := by
  unfold routeRes at h
  split at h
  · cases h
  · exact route_mode l _ _ h
set_option maxHeartbeats 1600000 in
theorem unp47 (t : TT) (w : World) (hok : t.ok w) (hmo : ∀ s ∈ t.ro, 0 ≤ s.mode ∧ s.mode < 8) : Calls Tryz.prog 47 #[t.val] w (RetM w 7 t.ro.length (unpF t)) := by
  have hmm := @run_makeMap Tryz.prog
  have HOK := Lib.hid hok
  have HMO := Lib.hid hmo
  obtain ⟨M, hM⟩ : ∃ M, orM 0 t.pr = M := ⟨_, rfl⟩
  have HOR := Lib.hid hM
  obtain ⟨G1, hG1⟩ : ∃ G, fineF M (fun _ => false) 0 t.ro = G := ⟨_, rfl⟩
  obtain ⟨G2, hG2⟩ : ∃ G, namF TripD.route (fun _ => false) t.tr = G := ⟨_, rfl⟩
  obtain ⟨G3, hG3⟩ : ∃ G, payF G2 G1 0 t.ro.length = G := ⟨_, rfl⟩
  rw [show unpF t = G3 by unfold unpF; rw [hM, hG1, hG2, hG3]]
  have HG1 := Lib.hid hG1
  have HG2 := Lib.hid hG2
  have HG3 := Lib.hid hG3
  clear hok hmo hM hG1 hG2 hG3
  obtain ⟨W0, hW0⟩ : ∃ W0, w.alloc (Obj.cells #[.slice t.a0 t.st.length t.c0, .slice t.a1 t.ro.length t.c1, .slice t.a2 t.ca.length t.c2, .slice t.a3 t.ex.length t.c3, .slice t.a4 t.tr.length t.c4, .slice t.a5 t.fq.length t.c5, .slice t.a6 t.th.length t.c6, .slice t.a7 t.gu.length t.c7, .slice t.a8 t.pa.length t.c8, .slice t.a9 t.pr.length t.c9, .int .i64 t.d, .int .i64 t.wi, .int .i64 t.cp] 35) = W0 := ⟨_, rfl⟩
  have HB0 := Lib.hid (show Below w.heap.size w W0 by rw [← hW0]; exact blA (bl0 _) _)
  have hbx : w.heap.size < W0.heap.size := by rw [← hW0]; simp
  have X1 := Lib.hid (show W0.cell? ⟨w.heap.size, 1, none⟩ = some (.slice t.a1 t.ro.length t.c1) by rw [← hW0]; exact boxC _ _ _ 1 _ rfl)
  have X4 := Lib.hid (show W0.cell? ⟨w.heap.size, 4, none⟩ = some (.slice t.a4 t.tr.length t.c4) by rw [← hW0]; exact boxC _ _ _ 4 _ rfl)
  have x9 : W0.cell? ⟨w.heap.size, 9, none⟩ = some (.slice t.a9 t.pr.length t.c9) := by rw [← hW0]; exact boxC _ _ _ 9 _ rfl
  have HW0 := Lib.hid hW0
  have hl9 := HOK.out.l9
  clear hW0
  go_enter Tryz.func47, Tryz.ntmps47
  go_upto_region 1 with (fail)
  rw [HW0.out]
  go_wp2
  clear x9
  go_loopw [3, 17] (fun m i wr => ∃ (k : Nat) (x : Int), m = .int .i64 x ∧ orM x (t.pr.drop k) = M ∧ k ≤ t.pr.length ∧ i = .int .i64 k ∧ Below W0.heap.size W0 wr) (fun _ i _ => t.pr.length - (intOf i).toNat)
  case atStart => exact ⟨0, 0, rfl, HOR.out, Nat.zero_le _, rfl, bl0 _⟩
  case round =>
    obtain ⟨k, x, rfl, hv, hk, rfl, hbel⟩ := hrel
    by_cases hlt : k < t.pr.length
    · have hlt' : (k : Int) < (t.pr.length : Int) := by omega
      obtain ⟨s, hs⟩ : ∃ s, t.pr[k]? = some s := ⟨_, List.getElem?_eq_getElem hlt⟩
      obtain ⟨g, off, ha, hg, hc⟩ := HOK.out.r9 k _ (by rw [List.getElem?_map, hs]; rfl)
      have p0 : wr.cell? ⟨g, off + k * 6, none⟩ = some (.string s.id) := keepC (blt HB0.out hbel) hg (hc 0 _ rfl)
      have p1 : wr.cell? ⟨g, off + k * 6 + 1, none⟩ = some (.int .i64 s.price) := keepC (blt HB0.out hbel) hg (hc 1 _ rfl)
      have p2 : wr.cell? ⟨g, off + k * 6 + 2, none⟩ = some (.int .i64 s.rides) := keepC (blt HB0.out hbel) hg (hc 2 _ rfl)
      have p3 : wr.cell? ⟨g, off + k * 6 + 3, none⟩ = some (.int .i64 s.zones) := keepC (blt HB0.out hbel) hg (hc 3 _ rfl)
      have p4 : wr.cell? ⟨g, off + k * 6 + 4, none⟩ = some (.int .i64 s.secs) := keepC (blt HB0.out hbel) hg (hc 4 _ rfl)
      have p5 : wr.cell? ⟨g, off + k * 6 + 5, none⟩ = some (.int .i64 s.modes) := keepC (blt HB0.out hbel) hg (hc 5 _ rfl)
      have hdrop : t.pr.drop k = s :: t.pr.drop (k + 1) := by
        rw [List.drop_eq_getElem_cons hlt]
        rw [List.getElem?_eq_getElem hlt] at hs
        cases hs; rfl
      rw [hdrop, orM] at hv
      have HV := Lib.hid hv
      have HBL := Lib.hid hbel
      rw [ha]
      clear hs hdrop hv hbel hc
      go_wp2
      go_roundw
      case rel => exact ⟨k + 1, _, rfl, HV.out, by omega, by go_num, blA HBL.out _⟩
      case measure => simp [intOf]; omega
    · have hlt' : ¬ (k : Int) < (t.pr.length : Int) := by omega
      rw [List.drop_of_length_le (by omega), orM] at hv
      subst hv
      have M1 := Lib.hid (MapI.made wr)
      have HB1 := Lib.hid hbel
      obtain ⟨B6, hB6⟩ : ∃ B6, wr.heap.size = B6 := ⟨_, rfl⟩
      obtain ⟨W6, hW6⟩ : ∃ W6, wr.alloc (.map #[] 0) = W6 := ⟨_, rfl⟩
      have hB0 : W0.heap.size ≤ B6 := by rw [← hB6]; exact hbel.size
      have HB6 := Lib.hid (show Below W0.heap.size W0 W6 by rw [← hW6]; exact blA hbel _)
      rw [hB6, hW6] at M1
      have x1 := keepC HB6.out hbx X1.out
      have HW6 := Lib.hid hW6
      have HBB := Lib.hid hB6
      clear hbel hW6 hB6
      go_upto_region 8 with (fail)
      rw [HW6.out, HBB.out]
      go_wp2
      clear x1
      have hl1 := HOK.out.l1
      go_loopw [30] (fun i wr => ∃ (k : Nat) (F : Int → Bool), k ≤ t.ro.length ∧ i = .int .i64 k ∧ MapI wr B6 k F ∧ fineF x F k (t.ro.drop k) = G1 ∧ Below W0.heap.size W0 wr) (fun i _ => t.ro.length - (intOf i).toNat)
      case atStart => exact ⟨0, _, Nat.zero_le _, rfl, M1.out, HG1.out, HB6.out⟩
      case round =>
        obtain ⟨k, F, hk, rfl, hm, hv, hbel⟩ := hrel
        have HM := Lib.hid hm
        clear hm
        by_cases hlt : k < t.ro.length
        · have hlt' : (k : Int) < (t.ro.length : Int) := by omega
          obtain ⟨s, hs⟩ : ∃ s, t.ro[k]? = some s := ⟨_, List.getElem?_eq_getElem hlt⟩
          obtain ⟨g, off, ha, hg, hc⟩ := HOK.out.r1 k _ (by rw [List.getElem?_map, hs]; rfl)
          have p0 : wr.cell? ⟨g, off + k * 3, none⟩ = some (.string s.id) := keepC (blt HB0.out hbel) hg (hc 0 _ rfl)
          have p1 : wr.cell? ⟨g, off + k * 3 + 1, none⟩ = some (.int .i64 s.mode) := keepC (blt HB0.out hbel) hg (hc 1 _ rfl)
          have p2 : wr.cell? ⟨g, off + k * 3 + 2, none⟩ = some (.bool s.bic) := keepC (blt HB0.out hbel) hg (hc 2 _ rfl)
          have hin := inW_nat (k := k) (by omega)
          obtain ⟨hm1, hm2⟩ := HMO.out s (List.mem_of_getElem? hs)
          obtain ⟨id, mo, bi⟩ := s
          simp only at p0 p1 p2 hm1 hm2
          have hdrop : t.ro.drop k = ⟨id, mo, bi⟩ :: t.ro.drop (k + 1) := by
            rw [List.drop_eq_getElem_cons hlt]
            rw [List.getElem?_eq_getElem hlt] at hs
            rw [Option.some.inj hs]
          rw [hdrop, fineF] at hv
          simp only [fineB] at hv
          have HV := Lib.hid hv
          rw [ha]
          have HBL := Lib.hid hbel
          obtain ⟨W7, hW7⟩ : ∃ W7, wr.alloc (Obj.cells #[.string id, .int .i64 mo, .bool bi] 47) = W7 := ⟨_, rfl⟩
          have HM7 := Lib.hid (show MapI W7 B6 k F by rw [← hW7]; exact HM.out.below HM.out.lt (blA (bl0 _) _))
          have HB7 := Lib.hid (show Below W0.heap.size W0 W7 by rw [← hW7]; exact blA HBL.out _)
          have HW7 := Lib.hid hW7
          have hgw : g < wr.heap.size := Nat.lt_of_lt_of_le hg (by have := HB0.out.size; have := HBL.out.size; omega)
          clear hs hbel hc hdrop hv hW7
          go_wp2_with (first | (at_mapUpdate; rw [HW7.out]; refine wpList_mapI _ rfl _ _ _ rfl B6 k F rfl HM7.out (by unfold maxLen; omega) _ _ rfl rfl hin ?_; intro w8 hm8 hg8))
          go_roundw
          case rel => exact ⟨k + 1, _, by omega, by go_num, hm8, HV.out, HB7.out.grown hg8 (by have := HB7.out.size; omega) (fun j hj => by cases hj; exact hB0)⟩
          case measure => simp [intOf]; omega
        · have hlt' : ¬ (k : Int) < (t.ro.length : Int) := by omega
          rw [List.drop_of_length_le (by omega), fineF] at hv
          subst hv
          have hB6l := HM.out.lt
          have M2 := Lib.hid (MapI.made wr)
          obtain ⟨B9, hB9⟩ : ∃ B9, wr.heap.size = B9 := ⟨_, rfl⟩
          obtain ⟨W9, hW9⟩ : ∃ W9, wr.alloc (.map #[] 0) = W9 := ⟨_, rfl⟩
          have hB9 : W0.heap.size ≤ B9 := by rw [← hB9]; exact hbel.size
          rename_i hB9e
          have h69 : B6 < B9 := by omega
          have HB9 := Lib.hid (show Below W0.heap.size W0 W9 by rw [← hW9]; exact blA hbel _)
          have HM9 := Lib.hid (show MapI W9 B6 k F by rw [← hW9]; exact HM.out.below HM.out.lt (blA (bl0 _) _))
          rw [hB9e, hW9] at M2
          have x4 := keepC HB9.out hbx X4.out
          have HW9 := Lib.hid hW9
          have HBB9 := Lib.hid hB9e
          have hl4 := HOK.out.l4
          clear hbel hW9 hB9e hB6l
          go_upto_region 14 with (fail)
          rw [HW9.out, HBB9.out]
          go_wp2
          clear x4
          go_loopw [48] (fun i wr => ∃ (k2 : Nat) (U : Int → Bool), k2 ≤ t.tr.length ∧ i = .int .i64 k2 ∧ MapI wr B9 k2 U ∧ MapI wr B6 k F ∧ namF TripD.route U (t.tr.drop k2) = G2 ∧ Below W0.heap.size W0 wr) (fun i _ => t.tr.length - (intOf i).toNat)
          case atStart => exact ⟨0, _, Nat.zero_le _, rfl, M2.out, HM9.out, HG2.out, HB9.out⟩
          case round =>
            obtain ⟨k2, U, hk2, rfl, hm2, hm6, hv, hbel⟩ := hrel
            have HM2 := Lib.hid hm2
            have HM6 := Lib.hid hm6
            have HBL := Lib.hid hbel
            clear hm2 hm6
            by_cases hlt2 : k2 < t.tr.length
            · have hlt2' : (k2 : Int) < (t.tr.length : Int) := by omega
              obtain ⟨s, hs⟩ : ∃ s, t.tr[k2]? = some s := ⟨_, List.getElem?_eq_getElem hlt2⟩
              have hdrop : t.tr.drop k2 = s :: t.tr.drop (k2 + 1) := by
                rw [List.drop_eq_getElem_cons hlt2]
                rw [List.getElem?_eq_getElem hlt2] at hs
                cases hs; rfl
              rw [hdrop, namF] at hv
              obtain ⟨g, f, ea, hg, hta⟩ := tripAt HOK.out.r4 hs
              obtain ⟨p0, p1, p2, p3, p4⟩ := hta.keep hg (blt HB0.out hbel)
              have hin := (HOK.out.i4r s (List.mem_of_getElem? hs)).1
              have HV := Lib.hid hv
              obtain ⟨id, ro, cal, sf, a, cap, A⟩ := s
              simp only at p0 p1 p2 p3 p4 hin
              rw [ea]
              obtain ⟨W5, hW5⟩ : ∃ W5, wr.alloc (Obj.cells #[.string id, .int .i64 ro, .int .i64 cal, .bool sf, .slice a A.length cap] 43) = W5 := ⟨_, rfl⟩
              have HM5 := Lib.hid (show MapI W5 B9 k2 U by rw [← hW5]; exact HM2.out.below HM2.out.lt (blA (bl0 _) _))
              have HM5b := Lib.hid (show MapI W5 B6 k F by rw [← hW5]; exact HM6.out.below HM6.out.lt (blA (bl0 _) _))
              have HB5 := Lib.hid (show Below W0.heap.size W0 W5 by rw [← hW5]; exact blA HBL.out _)
              have HW5 := Lib.hid hW5
              have hgw : g < wr.heap.size := Nat.lt_of_lt_of_le hg (by have := HB0.out.size; have := HBL.out.size; omega)
              clear hs hdrop hta hv hbel hW5 ea
              go_wp2_with (first | (at_mapUpdate; rw [HW5.out]; refine wpList_mapI _ rfl _ _ _ rfl B9 k2 U rfl HM5.out (by unfold maxLen; omega) _ _ rfl rfl hin ?_; intro w6 hm6 hg6))
              go_roundw
              case rel => exact ⟨k2 + 1, _, by omega, by go_num, hm6, HM5b.out.at (hg6.block _ HM5b.out.lt (by simp; omega)), HV.out, HB5.out.grown hg6 (by have := HB5.out.size; omega) (fun j hj => by cases hj; exact hB9)⟩
              case measure => simp [intOf]; omega
            · have hlt2' : ¬ (k2 : Int) < (t.tr.length : Int) := by omega
              rw [List.drop_of_length_le (by omega), namF] at hv
              subst hv
              have x1 := keepC hbel hbx X1.out
              clear hbel
              go_wp2
              clear x1
              go_loopw [59] (fun i wr => ∃ (m : Nat) (F : Int → Bool), m ≤ t.ro.length ∧ i = .int .i64 m ∧ MapI wr B9 k2 U ∧ MapI wr B6 (k + m) F ∧ payF U F m (t.ro.length - m) = G3 ∧ Below W0.heap.size W0 wr) (fun i _ => t.ro.length - (intOf i).toNat)
              case atStart => exact ⟨0, F, Nat.zero_le _, rfl, HM2.out, HM6.out, HG3.out, HBL.out⟩
              case round =>
                obtain ⟨m, F, hm0, rfl, hm2, hm6, hv, hbel⟩ := hrel
                have HM2 := Lib.hid hm2
                have HM6 := Lib.hid hm6
                have HBL := Lib.hid hbel
                clear hm2 hm6
                by_cases hlt3 : m < t.ro.length
                · have hlt3' : (m : Int) < (t.ro.length : Int) := by omega
                  rw [show t.ro.length - m = (t.ro.length - (m + 1)) + 1 by omega, payF] at hv
                  have hin := inW_nat (k := m) (by omega)
                  have l1 := HM6.out.look hin
                  have l2 := HM2.out.look hin
                  obtain ⟨b1, hb1⟩ : ∃ b, F (m : Int) = b := ⟨_, rfl⟩
                  obtain ⟨b2, hb2⟩ : ∃ b, U (m : Int) = b := ⟨_, rfl⟩
                  rw [hb1] at l1
                  rw [hb2] at l2
                  rw [hb1, hb2] at hv
                  have HV := Lib.hid hv
                  clear hb1 hb2 hv hbel
                  cases b1 <;> cases b2
                  all_goals
                    go_wp2_with (first | (at_mapUpdate; refine wpList_mapI _ rfl _ _ _ rfl B6 (k + m) F rfl HM6.out (by unfold maxLen; omega) _ _ rfl rfl hin ?_; intro w6 hm6 hg6))
                    go_roundw
                    case rel => exact ⟨m + 1, _, by omega, by go_num, HM2.out.at (hg6.block _ HM2.out.lt (by simp; omega)), hm6, HV.out, HBL.out.grown hg6 (by have := HBL.out.size; omega) (fun j hj => by cases hj; exact hB0)⟩
                    case measure => simp [intOf]; omega
                · have hlt3' : ¬ (m : Int) < (t.ro.length : Int) := by omega
                  rw [show t.ro.length - m = 0 by omega, payF] at hv
                  subst hv
                  have x1 := keepC hbel hbx X1.out
                  have HC := Lib.hid (missing69 7 t.ro.length B6 (k + m) F wr HM6.out)
                  clear hbel
                  go_wp2_with (go_at_call 69; refine HC.out.mono ?_; rintro e w8 ⟨v, rfl, hmv, hb8⟩)
                  go_ret
                  exact ⟨v, rfl, hmv, blt HB0.out (blt HBL.out hb8)⟩
end Go.Proofs.Tt

namespace Go.Proofs.Tt
open Go Go.Proofs
open Go.RowKit Go.Maps
set_option maxRecDepth 1000000

def repF : (Int → Bool) → List FrqD → Int → Bool
  | F, [] => F
  | F, s :: l => repF (upd F s.trip true) l
/-- the iterator that lint.overtaking makes -/
def OvV (W : World) (v : Value) (t : TT) (F : Int → Bool) : Prop := ∃ bt bs bm mb c, v = .func (.func 72) #[] #[.pointer (some ⟨bt, 0, none⟩), .pointer (some ⟨bs, 0, none⟩)] ∧ bt < W.heap.size ∧ (∀ k u, t.cells[k]? = some u → W.cell? ⟨bt, k, none⟩ = some u) ∧ W.cell? ⟨bs, 0, none⟩ = some (.func (.func 71) #[] #[.pointer (some ⟨bm, 0, none⟩)]) ∧ W.cell? ⟨bm, 0, none⟩ = some (.map (some mb)) ∧ MapI W mb c F
theorem OvV.below {W W' : World} {v : Value} {t : TT} {F : Int → Bool} (h : OvV W v t F) (hb : Below W.heap.size W W') : OvV W' v t F := by
  obtain ⟨bt, bs, bm, mb, c, h1, h0, h2, h3, h4, h5⟩ := h
  exact ⟨bt, bs, bm, mb, c, h1, Nat.lt_of_lt_of_le h0 hb.size, fun k u hk => keepC hb h0 (h2 k u hk), keepC hb (World.block_lt_of_cell? _ _ h3) h3, keepC hb (World.block_lt_of_cell? _ _ h4) h4, h5.below h5.lt hb⟩
def RetO (w : World) (t : TT) (F : Int → Bool) (e : Ending) (w' : World) : Prop := ∃ v, e = .returned v ∧ OvV w' v t F ∧ Below w.heap.size w w'

set_option maxHeartbeats 1600000 in
theorem ovt45 (t : TT) (w : World) (hok : t.ok w) : Calls Tryz.prog 45 #[t.val] w (RetO w t (repF (fun _ => false) t.fq)) := by
  have hmm := @run_makeMap Tryz.prog
  have HOK := Lib.hid hok
  obtain ⟨G, hG⟩ : ∃ G, repF (fun _ => false) t.fq = G := ⟨_, rfl⟩
  rw [hG]
  have HG := Lib.hid hG
  clear hG hok
  obtain ⟨W0, hW0⟩ : ∃ W0, w.alloc (Obj.cells #[.slice t.a0 t.st.length t.c0, .slice t.a1 t.ro.length t.c1, .slice t.a2 t.ca.length t.c2, .slice t.a3 t.ex.length t.c3, .slice t.a4 t.tr.length t.c4, .slice t.a5 t.fq.length t.c5, .slice t.a6 t.th.length t.c6, .slice t.a7 t.gu.length t.c7, .slice t.a8 t.pa.length t.c8, .slice t.a9 t.pr.length t.c9, .int .i64 t.d, .int .i64 t.wi, .int .i64 t.cp] 35) = W0 := ⟨_, rfl⟩
  have HB0 := Lib.hid (show Below w.heap.size w W0 by rw [← hW0]; exact blA (bl0 _) _)
  have hbx : w.heap.size < W0.heap.size := by rw [← hW0]; simp
  have x5 : W0.cell? ⟨w.heap.size, 5, none⟩ = some (.slice t.a5 t.fq.length t.c5) := by rw [← hW0]; exact boxC _ _ _ 5 _ rfl
  have HCL := Lib.hid (show ∀ k u, t.cells[k]? = some u → W0.cell? ⟨w.heap.size, k, none⟩ = some u from fun k u hk => by rw [← hW0]; exact boxC _ _ _ k _ hk)
  have HW0 := Lib.hid hW0
  have hl5 := HOK.out.l5
  clear hW0
  go_enter Tryz.func45, Tryz.ntmps45
  go_upto_region 1 with (fail)
  rw [HW0.out]
  have M0 := Lib.hid (show MapI ((W0.alloc (.map #[] 0)).alloc (Obj.cells #[.map (some W0.heap.size)] 127)) W0.heap.size 0 (fun _ => false) from (MapI.made W0).below (by simp) (blA (bl0 _) _))
  have C0 := Lib.hid (show ((W0.alloc (.map #[] 0)).alloc (Obj.cells #[.map (some W0.heap.size)] 127)).cell? ⟨W0.heap.size + 1, 0, none⟩ = some (.map (some W0.heap.size)) by have := boxC (W0.alloc (.map #[] 0)) #[.map (some W0.heap.size)] 127 0 _ rfl; simp)
  go_wp2
  clear x5
  go_loopw [11] (fun i wr => ∃ (k : Nat) (F : Int → Bool), k ≤ t.fq.length ∧ i = .int .i64 k ∧ MapI wr W0.heap.size k F ∧ repF F (t.fq.drop k) = G ∧ wr.cell? ⟨W0.heap.size + 1, 0, none⟩ = some (.map (some W0.heap.size)) ∧ Below W0.heap.size W0 wr) (fun i _ => t.fq.length - (intOf i).toNat)
  case atStart => exact ⟨0, _, Nat.zero_le _, rfl, M0.out, HG.out, C0.out, blA (blA (bl0 _) _) _⟩
  case round =>
    obtain ⟨k, F, hk, rfl, hm, hv, hcb, hbel⟩ := hrel
    have HM := Lib.hid hm
    have HBL := Lib.hid hbel
    have HCB := Lib.hid hcb
    have hlt1 := World.block_lt_of_cell? _ _ hcb
    simp only at hlt1
    clear hm
    by_cases hlt : k < t.fq.length
    · have hlt' : (k : Int) < (t.fq.length : Int) := by omega
      obtain ⟨s, hs⟩ : ∃ s, t.fq[k]? = some s := ⟨_, List.getElem?_eq_getElem hlt⟩
      have hdrop : t.fq.drop k = s :: t.fq.drop (k + 1) := by
        rw [List.drop_eq_getElem_cons hlt]
        rw [List.getElem?_eq_getElem hlt] at hs
        cases hs; rfl
      rw [hdrop, repF] at hv
      obtain ⟨g, off, ha, hg, hc⟩ := HOK.out.r5 k _ (by rw [List.getElem?_map, hs]; rfl)
      have hin := HOK.out.i5 s (List.mem_of_getElem? hs)
      have p0 : wr.cell? ⟨g, off + k * 4, none⟩ = some (.int .i64 s.trip) := keepC (blt HB0.out hbel) hg (hc 0 _ rfl)
      have p1 : wr.cell? ⟨g, off + k * 4 + 1, none⟩ = some (.int .i64 s.fr) := keepC (blt HB0.out hbel) hg (hc 1 _ rfl)
      have p2 : wr.cell? ⟨g, off + k * 4 + 2, none⟩ = some (.int .i64 s.to_) := keepC (blt HB0.out hbel) hg (hc 2 _ rfl)
      have p3 : wr.cell? ⟨g, off + k * 4 + 3, none⟩ = some (.int .i64 s.ev) := keepC (blt HB0.out hbel) hg (hc 3 _ rfl)
      have HV := Lib.hid hv
      obtain ⟨tr, fr, to_, ev⟩ := s
      simp only at p0 p1 p2 p3 hin
      rw [ha]
      obtain ⟨W5, hW5⟩ : ∃ W5, wr.alloc (Obj.cells #[.int .i64 tr, .int .i64 fr, .int .i64 to_, .int .i64 ev] 123) = W5 := ⟨_, rfl⟩
      have HM5 := Lib.hid (show MapI W5 W0.heap.size k F by rw [← hW5]; exact HM.out.below HM.out.lt (blA (bl0 _) _))
      have HB5 := Lib.hid (show Below W0.heap.size W0 W5 by rw [← hW5]; exact blA HBL.out _)
      have q1 : W5.cell? ⟨W0.heap.size + 1, 0, none⟩ = some (.map (some W0.heap.size)) := by rw [← hW5]; exact keepC (blA (bl0 _) _) hlt1 hcb
      have q0 : W5.cell? ⟨wr.heap.size, 0, none⟩ = some (.int .i64 tr) := by rw [← hW5]; exact boxC _ _ _ 0 _ rfl
      have Q1 := Lib.hid q1
      have HW5 := Lib.hid hW5
      have hgw : g < wr.heap.size := Nat.lt_of_lt_of_le hg (by have := HB0.out.size; have := HBL.out.size; omega)
      clear hs hdrop hc hv hbel hW5 ha hcb
      go_upto_region 5 with (fail)
      rw [HW5.out]
      clear p0 p1 p2 p3
      go_wp2_with (first | (at_mapUpdate; refine wpList_mapI _ rfl _ _ _ rfl W0.heap.size k F rfl HM5.out (by unfold maxLen; omega) _ _ rfl rfl hin ?_; intro w6 hm6 hg6))
      go_roundw
      case rel => exact ⟨k + 1, _, by omega, by go_num, hm6, HV.out, hg6.cell Q1.out (by simp), HB5.out.grown hg6 (by have := HB5.out.size; omega) (fun j hj => by cases hj; exact Nat.le_refl _)⟩
      case measure => simp [intOf]; omega
    · have hlt' : ¬ (k : Int) < (t.fq.length : Int) := by omega
      rw [List.drop_of_length_le (by omega), repF] at hv
      subst hv
      clear hbel hcb
      go_wp2
      go_ret
      refine ⟨_, rfl, ⟨w.heap.size, wr.heap.size, W0.heap.size + 1, W0.heap.size, k, rfl, ?_, ?_, ?_, ?_, ?_⟩, ?_⟩
      · have := HB0.out.size; have := HBL.out.size; simp; omega
      · exact fun k u hk => keepC (blA HBL.out _) hbx (HCL.out k u hk)
      · exact boxC _ _ _ 0 _ rfl
      · exact keepC (blA (bl0 _) _) hlt1 HCB.out
      · exact HM.out.below HM.out.lt (blA (bl0 _) _)
      · exact blA (blt HB0.out HBL.out) _
end Go.Proofs.Tt
