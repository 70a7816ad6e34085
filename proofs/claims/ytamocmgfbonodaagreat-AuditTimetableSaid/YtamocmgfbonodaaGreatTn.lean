/-
  A part of the proof: lemmas of my own.
-/
import Derived.Test.YtamocmgfbonodaaGreatTm
import Derived.BigRegion
import Derived.Test.YtamocmgfbonodaaGreatTk
set_option linter.unusedVariables false
set_option linter.unusedSimpArgs false
namespace Go.Proofs.Tt
open Go Go.Proofs
open Go.RowKit Go.Maps
set_option maxRecDepth 1000000

/-- the stops of calls that P names -/
def callF (P : Nat → CallD → Bool) : (Int → Bool) → Nat → List CallD → Int → Bool
  | F, _, [] => F
  | F, j, c :: l => callF P (if P j c = true then upd F c.stop true else F) (j + 1) l
def tripsF (P : Nat → CallD → Bool) : (Int → Bool) → List TripD → Int → Bool
  | F, [] => F
  | F, s :: l => tripsF P (callF P F 0 s.calls) l
def pathF (fr : Bool) : (Int → Bool) → List PathD → Int → Bool
  | F, [] => F
  | F, p :: l => pathF fr (upd (if fr = true then upd F p.fr true else F) p.to_ true) l
def allP (_ : Nat) (_ : CallD) : Bool := true
def alightP (j : Nat) (c : CallD) : Bool := decide (0 < j) && c.alight
def stopsF (t : TT) : Int → Bool := pathF true (tripsF allP (fun _ => false) t.tr) t.pa
def reachF (t : TT) : Int → Bool := pathF false (tripsF alightP (fun _ => false) t.tr) t.pa

set_option maxHeartbeats 1600000 in
theorem sto41 (t : TT) (w : World) (hok : t.ok w) : Calls Tryz.prog 41 #[t.val] w (RetM w 1 t.st.length (stopsF t)) := by
  have hmm := @run_makeMap Tryz.prog
  have HOK := Lib.hid hok
  obtain ⟨G, hG⟩ : ∃ G, tripsF allP (fun _ => false) t.tr = G := ⟨_, rfl⟩
  obtain ⟨G2, hG2⟩ : ∃ G2, pathF true G t.pa = G2 := ⟨_, rfl⟩
  rw [show stopsF t = G2 by unfold stopsF; rw [hG, hG2]]
  have HG := Lib.hid hG
  have HG2 := Lib.hid hG2
  clear hG hG2 hok
  obtain ⟨W0, hW0⟩ : ∃ W0, w.alloc (Obj.cells #[.slice t.a0 t.st.length t.c0, .slice t.a1 t.ro.length t.c1, .slice t.a2 t.ca.length t.c2, .slice t.a3 t.ex.length t.c3, .slice t.a4 t.tr.length t.c4, .slice t.a5 t.fq.length t.c5, .slice t.a6 t.th.length t.c6, .slice t.a7 t.gu.length t.c7, .slice t.a8 t.pa.length t.c8, .slice t.a9 t.pr.length t.c9, .int .i64 t.d, .int .i64 t.wi, .int .i64 t.cp] 35) = W0 := ⟨_, rfl⟩
  have HB0 := Lib.hid (show Below w.heap.size w W0 by rw [← hW0]; exact blA (bl0 _) _)
  have hbx : w.heap.size < W0.heap.size := by rw [← hW0]; simp
  have x0 : W0.cell? ⟨w.heap.size, 0, none⟩ = some (.slice t.a0 t.st.length t.c0) := by rw [← hW0]; exact boxC _ _ _ 0 _ rfl
  have x4 : W0.cell? ⟨w.heap.size, 4, none⟩ = some (.slice t.a4 t.tr.length t.c4) := by rw [← hW0]; exact boxC _ _ _ 4 _ rfl
  have x8 : W0.cell? ⟨w.heap.size, 8, none⟩ = some (.slice t.a8 t.pa.length t.c8) := by rw [← hW0]; exact boxC _ _ _ 8 _ rfl
  have HW0 := Lib.hid hW0
  have hl4 := HOK.out.l4
  have hl8 := HOK.out.l8
  clear hW0
  go_enter Tryz.func41, Tryz.ntmps41
  go_upto_region 1 with (fail)
  rw [HW0.out]
  go_wp2
  have X0 := Lib.hid x0
  have X8 := Lib.hid x8
  clear x0 x4 x8
  have M0 := Lib.hid (MapI.made W0)
  go_loopw [14] (fun i wr => ∃ (k c : Nat) (F : Int → Bool), k ≤ t.tr.length ∧ i = .int .i64 k ∧ MapI wr W0.heap.size c F ∧ c ≤ 1000000 * k ∧ tripsF allP F (t.tr.drop k) = G ∧ Below W0.heap.size W0 wr) (fun i _ => t.tr.length - (intOf i).toNat)
  case atStart => exact ⟨0, 0, _, Nat.zero_le _, rfl, M0.out, Nat.le_refl _, HG.out, blA (bl0 _) _⟩
  case round =>
    obtain ⟨k, c, F, hk, rfl, hm, hck, hv, hbel⟩ := hrel
    have HM := Lib.hid hm
    have HBL := Lib.hid hbel
    clear hm
    by_cases hlt : k < t.tr.length
    · have hlt' : (k : Int) < (t.tr.length : Int) := by omega
      obtain ⟨s, hs⟩ : ∃ s, t.tr[k]? = some s := ⟨_, List.getElem?_eq_getElem hlt⟩
      have hdrop : t.tr.drop k = s :: t.tr.drop (k + 1) := by
        rw [List.drop_eq_getElem_cons hlt]
        rw [List.getElem?_eq_getElem hlt] at hs
        cases hs; rfl
      rw [hdrop, tripsF] at hv
      obtain ⟨g, f, ea, hg, hta⟩ := tripAt HOK.out.r4 hs
      obtain ⟨p0, p1, p2, p3, p4⟩ := hta.keep hg (blt HB0.out hbel)
      have HIN := Lib.hid (HOK.out.i4r s (List.mem_of_getElem? hs)).2.2
      have hcs := HOK.out.cs s (List.mem_of_getElem? hs)
      have HRC := Lib.hid hcs.1
      have hlc := hcs.2
      have HV := Lib.hid hv
      obtain ⟨id, ro, cal, sf, a, cap, A⟩ := s
      simp only at p0 p1 p2 p3 p4 HIN HRC hlc
      rw [ea]
      obtain ⟨W5, hW5⟩ : ∃ W5, wr.alloc (Obj.cells #[.string id, .int .i64 ro, .int .i64 cal, .bool sf, .slice a A.length cap] 43) = W5 := ⟨_, rfl⟩
      have HM5 := Lib.hid (show MapI W5 W0.heap.size c F by rw [← hW5]; exact HM.out.below HM.out.lt (blA (bl0 _) _))
      have HB5 := Lib.hid (show Below W0.heap.size W0 W5 by rw [← hW5]; exact blA HBL.out _)
      have z4 : W5.cell? ⟨wr.heap.size, 4, none⟩ = some (.slice a A.length cap) := by rw [← hW5]; exact boxC _ _ _ 4 _ rfl
      have HW5 := Lib.hid hW5
      have hgw : g < wr.heap.size := Nat.lt_of_lt_of_le hg (by have := HB0.out.size; have := HBL.out.size; omega)
      clear hs hdrop hta hv hbel hW5 ea hcs
      go_upto_region 5 with (fail)
      rw [HW5.out]
      clear p0 p1 p2 p3 p4
      go_wp2
      clear z4
      go_loopw [21] (fun i wr => ∃ (j c : Nat) (F : Int → Bool), j ≤ A.length ∧ i = .int .i64 j ∧ MapI wr W0.heap.size c F ∧ c ≤ 1000000 * k + j ∧ tripsF allP (callF allP F j (A.drop j)) (t.tr.drop (k + 1)) = G ∧ Below W0.heap.size W0 wr) (fun i _ => A.length - (intOf i).toNat)
      case atStart => exact ⟨0, c, F, Nat.zero_le _, rfl, HM5.out, by omega, HV.out, HB5.out⟩
      case round =>
        obtain ⟨j, c, F, hj, rfl, hm, hcj, hv, hbel⟩ := hrel
        have HM := Lib.hid hm
        have HBL := Lib.hid hbel
        clear hm HV HM5 HB5 HW5
        by_cases hjt : j < A.length
        · have hjt' : (j : Int) < (A.length : Int) := by omega
          obtain ⟨u, hu⟩ : ∃ u, A[j]? = some u := ⟨_, List.getElem?_eq_getElem hjt⟩
          have hdrop : A.drop j = u :: A.drop (j + 1) := by
            rw [List.drop_eq_getElem_cons hjt]
            rw [List.getElem?_eq_getElem hjt] at hu
            cases hu; rfl
          rw [hdrop, callF] at hv
          obtain ⟨g', f', ea, hg', hca⟩ := callAt HRC.out hu
          obtain ⟨p0, p1, p2, p3, p4⟩ := hca.keep hg' (blt HB0.out hbel)
          have hin := HIN.out u (List.mem_of_getElem? hu)
          have HV := Lib.hid hv
          subst ea
          obtain ⟨st, ar, dp, bo, al⟩ := u
          simp only at p0 p1 p2 p3 p4 hin
          obtain ⟨W7, hW7⟩ : ∃ W7, wr.alloc (Obj.cells #[.int .i64 st, .int .i64 ar, .int .i64 dp, .bool bo, .bool al] 49) = W7 := ⟨_, rfl⟩
          have HM7 := Lib.hid (show MapI W7 W0.heap.size c F by rw [← hW7]; exact HM.out.below HM.out.lt (blA (bl0 _) _))
          have HB7 := Lib.hid (show Below W0.heap.size W0 W7 by rw [← hW7]; exact blA HBL.out _)
          have HW7 := Lib.hid hW7
          have hgw : g' < wr.heap.size := Nat.lt_of_lt_of_le hg' (by have := HB0.out.size; have := HBL.out.size; omega)
          clear hu hdrop hca hv hbel hW7
          go_wp2_with (first | (at_mapUpdate; rw [HW7.out]; refine wpList_mapI _ rfl _ _ _ rfl W0.heap.size c F rfl HM7.out (by unfold maxLen; omega) _ _ rfl rfl hin ?_; intro w8 hm8 hg8))
          go_roundw
          case rel => exact ⟨j + 1, c + 1, _, by omega, by go_num, hm8, by omega, HV.out, HB7.out.grown hg8 (by have := HB7.out.size; omega) (fun j hj => by cases hj; exact Nat.le_refl _)⟩
          case measure => simp [intOf]; omega
        · have hjt' : ¬ (j : Int) < (A.length : Int) := by omega
          rw [List.drop_of_length_le (by omega), callF] at hv
          have HV := Lib.hid hv
          clear hv hbel
          go_wp2
          go_roundw
          case rel => exact ⟨k + 1, c, F, by omega, by go_num, HM.out, by omega, HV.out, HBL.out⟩
          case measure => simp [intOf]; omega
    · have hlt' : ¬ (k : Int) < (t.tr.length : Int) := by omega
      rw [List.drop_of_length_le (by omega), tripsF] at hv
      subst hv
      have x8 := keepC hbel hbx X8.out
      clear hbel
      go_wp2
      clear x8
      have hcc : c ≤ 1000000000000 := by omega
      go_loopw [33] (fun i wr => ∃ (m c : Nat) (F : Int → Bool), m ≤ t.pa.length ∧ i = .int .i64 m ∧ MapI wr W0.heap.size c F ∧ c ≤ 1000000000000 + 2 * m ∧ pathF true F (t.pa.drop m) = G2 ∧ Below W0.heap.size W0 wr) (fun i _ => t.pa.length - (intOf i).toNat)
      case atStart => exact ⟨0, c, F, Nat.zero_le _, rfl, HM.out, by omega, HG2.out, HBL.out⟩
      case round =>
      obtain ⟨m, c, F, hmm2, rfl, hm, hcm, hv, hbel⟩ := hrel
      have HM := Lib.hid hm
      have HBL := Lib.hid hbel
      have hml := hm.lt
      clear hm
      by_cases hmt : m < t.pa.length
      · have hmt' : (m : Int) < (t.pa.length : Int) := by omega
        obtain ⟨s, hs⟩ : ∃ s, t.pa[m]? = some s := ⟨_, List.getElem?_eq_getElem hmt⟩
        have hdrop : t.pa.drop m = s :: t.pa.drop (m + 1) := by
          rw [List.drop_eq_getElem_cons hmt]
          rw [List.getElem?_eq_getElem hmt] at hs
          cases hs; rfl
        rw [hdrop, pathF] at hv
        obtain ⟨g, off, ha, hg, hc⟩ := HOK.out.r8 m _ (by rw [List.getElem?_map, hs]; rfl)
        obtain ⟨hin1, hin2⟩ := HOK.out.i8 s (List.mem_of_getElem? hs)
        have p0 : wr.cell? ⟨g, off + m * 4, none⟩ = some (.int .i64 s.fr) := keepC (blt HB0.out hbel) hg (hc 0 _ rfl)
        have p1 : wr.cell? ⟨g, off + m * 4 + 1, none⟩ = some (.int .i64 s.to_) := keepC (blt HB0.out hbel) hg (hc 1 _ rfl)
        have p2 : wr.cell? ⟨g, off + m * 4 + 2, none⟩ = some (.int .i64 s.secs) := keepC (blt HB0.out hbel) hg (hc 2 _ rfl)
        have p3 : wr.cell? ⟨g, off + m * 4 + 3, none⟩ = some (.bool s.free) := keepC (blt HB0.out hbel) hg (hc 3 _ rfl)
        have HV := Lib.hid hv
        rw [ha]
        obtain ⟨fr, to_, secs, free⟩ := s
        simp only at p0 p1 p2 p3 hin1 hin2
        obtain ⟨wr5, hW5⟩ : ∃ W5, wr.alloc (Obj.cells #[.int .i64 fr, .int .i64 to_, .int .i64 secs, .bool free] 143) = W5 := ⟨_, rfl⟩
        have HM5 := Lib.hid (show MapI wr5 W0.heap.size c F by rw [← hW5]; exact HM.out.below HM.out.lt (blA (bl0 _) _))
        have HB5 := Lib.hid (show Below W0.heap.size W0 wr5 by rw [← hW5]; exact blA HBL.out _)
        have q0 : wr5.cell? ⟨wr.heap.size, 0, none⟩ = some (.int .i64 fr) := by rw [← hW5]; exact boxC _ _ _ 0 _ rfl
        have q1 : wr5.cell? ⟨wr.heap.size, 1, none⟩ = some (.int .i64 to_) := by rw [← hW5]; exact boxC _ _ _ 1 _ rfl
        have HW5 := Lib.hid hW5
        have hgw : g < wr.heap.size := Nat.lt_of_lt_of_le hg (by have := HB0.out.size; have := HBL.out.size; omega)
        clear hs hdrop hc hv hbel hW5 ha
        obtain ⟨w7, hr7, hm7, hg7⟩ := (MapI.at (W' := wr5.drew) HM5.out rfl).add (show c < maxLen by unfold maxLen; omega) hin1 true
        obtain ⟨w8, hr8, hm8, hg8⟩ := hm7.add (show c + 1 < maxLen by unfold maxLen; omega) hin2 true
        have e0 : w7.cell? ⟨wr.heap.size, 0, none⟩ = some (.int .i64 fr) := hg7.cell (by exact q0) (by simp; omega)
        have e1 : w7.cell? ⟨wr.heap.size, 1, none⟩ = some (.int .i64 to_) := hg7.cell (by exact q1) (by simp; omega)
        have HS2 := Lib.hid (And.intro hm7 (And.intro hg7 (And.intro hm8 hg8)))
        clear hm7 hg7 hm8 hg8
        go_upto_region 14 with (fail)
        rw [HW5.out]
        clear p0 p1 p2 p3
        go_region
        go_wp2
        go_roundw
        case rel =>
          obtain ⟨hm7, hg7, hm8, hg8⟩ := HS2.out
          have q1 := hg7.size
          have q2 : wr5.drew.heap.size = wr5.heap.size := rfl
          exact ⟨m + 1, c + 2, _, by omega, by go_num, hm8, by omega, HV.out, ((HB5.out.drew).grown hg7 (by have := HB5.out.size; omega) (fun n hn => by cases hn; exact Nat.le_refl _)).grown hg8 (by have := HB5.out.size; omega) (fun n hn => by cases hn; exact Nat.le_refl _)⟩
        case measure => simp [intOf]; omega
      · have hmt' : ¬ (m : Int) < (t.pa.length : Int) := by omega
        rw [List.drop_of_length_le (by omega), pathF] at hv
        subst hv
        have x0 := keepC hbel hbx X0.out
        have HC := Lib.hid (missing69 1 t.st.length W0.heap.size c F wr HM.out)
        clear hbel
        go_wp2_with (go_at_call 69; refine HC.out.mono ?_; rintro e w8 ⟨v, rfl, hmv, hb8⟩)
        go_ret
        exact ⟨v, rfl, hmv, blt HB0.out (blt HBL.out hb8)⟩

set_option maxHeartbeats 1600000 in
theorem unr46 (t : TT) (w : World) (hok : t.ok w) : Calls Tryz.prog 46 #[t.val] w (RetM w 6 t.st.length (reachF t)) := by
  have hmm := @run_makeMap Tryz.prog
  have HOK := Lib.hid hok
  obtain ⟨G, hG⟩ : ∃ G, tripsF alightP (fun _ => false) t.tr = G := ⟨_, rfl⟩
  obtain ⟨G2, hG2⟩ : ∃ G2, pathF false G t.pa = G2 := ⟨_, rfl⟩
  rw [show reachF t = G2 by unfold reachF; rw [hG, hG2]]
  have HG := Lib.hid hG
  have HG2 := Lib.hid hG2
  clear hG hG2 hok
  obtain ⟨W0, hW0⟩ : ∃ W0, w.alloc (Obj.cells #[.slice t.a0 t.st.length t.c0, .slice t.a1 t.ro.length t.c1, .slice t.a2 t.ca.length t.c2, .slice t.a3 t.ex.length t.c3, .slice t.a4 t.tr.length t.c4, .slice t.a5 t.fq.length t.c5, .slice t.a6 t.th.length t.c6, .slice t.a7 t.gu.length t.c7, .slice t.a8 t.pa.length t.c8, .slice t.a9 t.pr.length t.c9, .int .i64 t.d, .int .i64 t.wi, .int .i64 t.cp] 35) = W0 := ⟨_, rfl⟩
  have HB0 := Lib.hid (show Below w.heap.size w W0 by rw [← hW0]; exact blA (bl0 _) _)
  have hbx : w.heap.size < W0.heap.size := by rw [← hW0]; simp
  have x0 : W0.cell? ⟨w.heap.size, 0, none⟩ = some (.slice t.a0 t.st.length t.c0) := by rw [← hW0]; exact boxC _ _ _ 0 _ rfl
  have x4 : W0.cell? ⟨w.heap.size, 4, none⟩ = some (.slice t.a4 t.tr.length t.c4) := by rw [← hW0]; exact boxC _ _ _ 4 _ rfl
  have x8 : W0.cell? ⟨w.heap.size, 8, none⟩ = some (.slice t.a8 t.pa.length t.c8) := by rw [← hW0]; exact boxC _ _ _ 8 _ rfl
  have HW0 := Lib.hid hW0
  have hl4 := HOK.out.l4
  have hl8 := HOK.out.l8
  clear hW0
  go_enter Tryz.func46, Tryz.ntmps46
  go_upto_region 1 with (fail)
  rw [HW0.out]
  go_wp2
  have X0 := Lib.hid x0
  have X8 := Lib.hid x8
  clear x0 x4 x8
  have M0 := Lib.hid (MapI.made W0)
  go_loopw [14] (fun i wr => ∃ (k c : Nat) (F : Int → Bool), k ≤ t.tr.length ∧ i = .int .i64 k ∧ MapI wr W0.heap.size c F ∧ c ≤ 1000000 * k ∧ tripsF alightP F (t.tr.drop k) = G ∧ Below W0.heap.size W0 wr) (fun i _ => t.tr.length - (intOf i).toNat)
  case atStart => exact ⟨0, 0, _, Nat.zero_le _, rfl, M0.out, Nat.le_refl _, HG.out, blA (bl0 _) _⟩
  case round =>
    obtain ⟨k, c, F, hk, rfl, hm, hck, hv, hbel⟩ := hrel
    have HM := Lib.hid hm
    have HBL := Lib.hid hbel
    clear hm
    by_cases hlt : k < t.tr.length
    · have hlt' : (k : Int) < (t.tr.length : Int) := by omega
      obtain ⟨s, hs⟩ : ∃ s, t.tr[k]? = some s := ⟨_, List.getElem?_eq_getElem hlt⟩
      have hdrop : t.tr.drop k = s :: t.tr.drop (k + 1) := by
        rw [List.drop_eq_getElem_cons hlt]
        rw [List.getElem?_eq_getElem hlt] at hs
        cases hs; rfl
      rw [hdrop, tripsF] at hv
      obtain ⟨g, f, ea, hg, hta⟩ := tripAt HOK.out.r4 hs
      obtain ⟨p0, p1, p2, p3, p4⟩ := hta.keep hg (blt HB0.out hbel)
      have HIN := Lib.hid (HOK.out.i4r s (List.mem_of_getElem? hs)).2.2
      have hcs := HOK.out.cs s (List.mem_of_getElem? hs)
      have HRC := Lib.hid hcs.1
      have hlc := hcs.2
      have HV := Lib.hid hv
      obtain ⟨id, ro, cal, sf, a, cap, A⟩ := s
      simp only at p0 p1 p2 p3 p4 HIN HRC hlc
      rw [ea]
      obtain ⟨W5, hW5⟩ : ∃ W5, wr.alloc (Obj.cells #[.string id, .int .i64 ro, .int .i64 cal, .bool sf, .slice a A.length cap] 43) = W5 := ⟨_, rfl⟩
      have HM5 := Lib.hid (show MapI W5 W0.heap.size c F by rw [← hW5]; exact HM.out.below HM.out.lt (blA (bl0 _) _))
      have HB5 := Lib.hid (show Below W0.heap.size W0 W5 by rw [← hW5]; exact blA HBL.out _)
      have z4 : W5.cell? ⟨wr.heap.size, 4, none⟩ = some (.slice a A.length cap) := by rw [← hW5]; exact boxC _ _ _ 4 _ rfl
      have HW5 := Lib.hid hW5
      have hgw : g < wr.heap.size := Nat.lt_of_lt_of_le hg (by have := HB0.out.size; have := HBL.out.size; omega)
      clear hs hdrop hta hv hbel hW5 ea hcs
      go_upto_region 5 with (fail)
      rw [HW5.out]
      clear p0 p1 p2 p3 p4
      go_wp2
      clear z4
      go_loopw [21] (fun i wr => ∃ (j c : Nat) (F : Int → Bool), j ≤ A.length ∧ i = .int .i64 j ∧ MapI wr W0.heap.size c F ∧ c ≤ 1000000 * k + j ∧ tripsF alightP (callF alightP F j (A.drop j)) (t.tr.drop (k + 1)) = G ∧ Below W0.heap.size W0 wr) (fun i _ => A.length - (intOf i).toNat)
      case atStart => exact ⟨0, c, F, Nat.zero_le _, rfl, HM5.out, by omega, HV.out, HB5.out⟩
      case round =>
        obtain ⟨j, c, F, hj, rfl, hm, hcj, hv, hbel⟩ := hrel
        have HM := Lib.hid hm
        have HBL := Lib.hid hbel
        clear hm HV HM5 HB5 HW5
        by_cases hjt : j < A.length
        · have hjt' : (j : Int) < (A.length : Int) := by omega
          obtain ⟨u, hu⟩ : ∃ u, A[j]? = some u := ⟨_, List.getElem?_eq_getElem hjt⟩
          have hdrop : A.drop j = u :: A.drop (j + 1) := by
            rw [List.drop_eq_getElem_cons hjt]
            rw [List.getElem?_eq_getElem hjt] at hu
            cases hu; rfl
          rw [hdrop, callF] at hv
          obtain ⟨g', f', ea, hg', hca⟩ := callAt HRC.out hu
          obtain ⟨p0, p1, p2, p3, p4⟩ := hca.keep hg' (blt HB0.out hbel)
          have hin := HIN.out u (List.mem_of_getElem? hu)
          have HV := Lib.hid hv
          subst ea
          obtain ⟨st, ar, dp, bo, al⟩ := u
          simp only at p0 p1 p2 p3 p4 hin
          obtain ⟨W7, hW7⟩ : ∃ W7, wr.alloc (Obj.cells #[.int .i64 st, .int .i64 ar, .int .i64 dp, .bool bo, .bool al] 49) = W7 := ⟨_, rfl⟩
          have HM7 := Lib.hid (show MapI W7 W0.heap.size c F by rw [← hW7]; exact HM.out.below HM.out.lt (blA (bl0 _) _))
          have HB7 := Lib.hid (show Below W0.heap.size W0 W7 by rw [← hW7]; exact blA HBL.out _)
          have HW7 := Lib.hid hW7
          have hgw : g' < wr.heap.size := Nat.lt_of_lt_of_le hg' (by have := HB0.out.size; have := HBL.out.size; omega)
          clear hu hdrop hca hv hbel hW7
          by_cases hj0 : 0 < j
          · cases al
            · have HV2 := Lib.hid (show tripsF alightP (callF alightP F (j + 1) (A.drop (j + 1))) (t.tr.drop (k + 1)) = G by have := HV.out; simpa [alightP] using this)
              go_wp2
              rw [HW7.out]
              go_roundw
              case rel => exact ⟨j + 1, c, _, by omega, by go_num, HM7.out, by omega, HV2.out, HB7.out⟩
              case measure => simp [intOf]; omega
            · have HV2 := Lib.hid (show tripsF alightP (callF alightP (upd F st true) (j + 1) (A.drop (j + 1))) (t.tr.drop (k + 1)) = G by have := HV.out; simpa [alightP, hj0] using this)
              go_wp2_with (first | (at_mapUpdate; rw [HW7.out]; refine wpList_mapI _ rfl _ _ _ rfl W0.heap.size c F rfl HM7.out (by unfold maxLen; omega) _ _ rfl rfl hin ?_; intro w8 hm8 hg8))
              go_roundw
              case rel => exact ⟨j + 1, c + 1, _, by omega, by go_num, hm8, by omega, HV2.out, HB7.out.grown hg8 (by have := HB7.out.size; omega) (fun j hj => by cases hj; exact Nat.le_refl _)⟩
              case measure => simp [intOf]; omega
          · have hj1 : ¬ (0 : Int) < (j : Int) := by omega
            have HV2 := Lib.hid (show tripsF alightP (callF alightP F (j + 1) (A.drop (j + 1))) (t.tr.drop (k + 1)) = G by have := HV.out; simpa [alightP, hj0] using this)
            go_wp2
            rw [HW7.out]
            go_roundw
            case rel => exact ⟨j + 1, c, _, by omega, by go_num, HM7.out, by omega, HV2.out, HB7.out⟩
            case measure => simp [intOf]; omega
        · have hjt' : ¬ (j : Int) < (A.length : Int) := by omega
          rw [List.drop_of_length_le (by omega), callF] at hv
          have HV := Lib.hid hv
          clear hv hbel
          go_wp2
          go_roundw
          case rel => exact ⟨k + 1, c, F, by omega, by go_num, HM.out, by omega, HV.out, HBL.out⟩
          case measure => simp [intOf]; omega
    · have hlt' : ¬ (k : Int) < (t.tr.length : Int) := by omega
      rw [List.drop_of_length_le (by omega), tripsF] at hv
      subst hv
      have x8 := keepC hbel hbx X8.out
      clear hbel
      go_wp2
      clear x8
      have hcc : c ≤ 1000000000000 := by omega
      go_loopw [40] (fun i wr => ∃ (m c : Nat) (F : Int → Bool), m ≤ t.pa.length ∧ i = .int .i64 m ∧ MapI wr W0.heap.size c F ∧ c ≤ 1000000000000 + 2 * m ∧ pathF false F (t.pa.drop m) = G2 ∧ Below W0.heap.size W0 wr) (fun i _ => t.pa.length - (intOf i).toNat)
      case atStart => exact ⟨0, c, F, Nat.zero_le _, rfl, HM.out, by omega, HG2.out, HBL.out⟩
      case round =>
      obtain ⟨m, c, F, hmm2, rfl, hm, hcm, hv, hbel⟩ := hrel
      have HM := Lib.hid hm
      have HBL := Lib.hid hbel
      have hml := hm.lt
      clear hm
      by_cases hmt : m < t.pa.length
      · have hmt' : (m : Int) < (t.pa.length : Int) := by omega
        obtain ⟨s, hs⟩ : ∃ s, t.pa[m]? = some s := ⟨_, List.getElem?_eq_getElem hmt⟩
        have hdrop : t.pa.drop m = s :: t.pa.drop (m + 1) := by
          rw [List.drop_eq_getElem_cons hmt]
          rw [List.getElem?_eq_getElem hmt] at hs
          cases hs; rfl
        rw [hdrop, pathF] at hv
        obtain ⟨g, off, ha, hg, hc⟩ := HOK.out.r8 m _ (by rw [List.getElem?_map, hs]; rfl)
        obtain ⟨hin1, hin2⟩ := HOK.out.i8 s (List.mem_of_getElem? hs)
        have p0 : wr.cell? ⟨g, off + m * 4, none⟩ = some (.int .i64 s.fr) := keepC (blt HB0.out hbel) hg (hc 0 _ rfl)
        have p1 : wr.cell? ⟨g, off + m * 4 + 1, none⟩ = some (.int .i64 s.to_) := keepC (blt HB0.out hbel) hg (hc 1 _ rfl)
        have p2 : wr.cell? ⟨g, off + m * 4 + 2, none⟩ = some (.int .i64 s.secs) := keepC (blt HB0.out hbel) hg (hc 2 _ rfl)
        have p3 : wr.cell? ⟨g, off + m * 4 + 3, none⟩ = some (.bool s.free) := keepC (blt HB0.out hbel) hg (hc 3 _ rfl)
        have HV := Lib.hid hv
        rw [ha]
        obtain ⟨fr, to_, secs, free⟩ := s
        simp only at p0 p1 p2 p3 hin1 hin2
        obtain ⟨wr5, hW5⟩ : ∃ W5, wr.alloc (Obj.cells #[.int .i64 fr, .int .i64 to_, .int .i64 secs, .bool free] 143) = W5 := ⟨_, rfl⟩
        have HM5 := Lib.hid (show MapI wr5 W0.heap.size c F by rw [← hW5]; exact HM.out.below HM.out.lt (blA (bl0 _) _))
        have HB5 := Lib.hid (show Below W0.heap.size W0 wr5 by rw [← hW5]; exact blA HBL.out _)
        have q0 : wr5.cell? ⟨wr.heap.size, 0, none⟩ = some (.int .i64 fr) := by rw [← hW5]; exact boxC _ _ _ 0 _ rfl
        have q1 : wr5.cell? ⟨wr.heap.size, 1, none⟩ = some (.int .i64 to_) := by rw [← hW5]; exact boxC _ _ _ 1 _ rfl
        have HW5 := Lib.hid hW5
        have hgw : g < wr.heap.size := Nat.lt_of_lt_of_le hg (by have := HB0.out.size; have := HBL.out.size; omega)
        clear hs hdrop hc hv hbel hW5 ha
        go_wp2_with (first | (at_mapUpdate; rw [HW5.out]; refine wpList_mapI _ rfl _ _ _ rfl W0.heap.size c F rfl HM5.out (by unfold maxLen; omega) _ _ rfl rfl hin2 ?_; intro w8 hm8 hg8))
        go_roundw
        case rel => exact ⟨m + 1, c + 1, _, by omega, by go_num, hm8, by omega, HV.out, HB5.out.grown hg8 (by have := HB5.out.size; omega) (fun j hj => by cases hj; exact Nat.le_refl _)⟩
        case measure => simp [intOf]; omega
      · have hmt' : ¬ (m : Int) < (t.pa.length : Int) := by omega
        rw [List.drop_of_length_le (by omega), pathF] at hv
        subst hv
        have x0 := keepC hbel hbx X0.out
        have HC := Lib.hid (missing69 6 t.st.length W0.heap.size c F wr HM.out)
        clear hbel
        go_wp2_with (go_at_call 69; refine HC.out.mono ?_; rintro e w8 ⟨v, rfl, hmv, hb8⟩)
        go_ret
        exact ⟨v, rfl, hmv, blt HB0.out (blt HBL.out hb8)⟩
end Go.Proofs.Tt

namespace Go.Proofs.Tt
open Go Go.Proofs
open Go.RowKit Go.Maps
set_option maxRecDepth 1000000

/-- which trips run on some day -/
def idleF (t : TT) : (Int → Bool) → Nat → List TripD → Int → Bool
  | F, _, [] => F
  | F, k, s :: l => idleF t (upd F k (nxtS t.ca t.ex s.cal 36525 0).2) (k + 1) l

set_option maxHeartbeats 1600000 in
theorem idl44 (t : TT) (w : World) (hok : t.ok w) : Calls Tryz.prog 44 #[t.val] w (RetM w 4 t.tr.length (idleF t (fun _ => false) 0 t.tr)) := by
  have hmm := @run_makeMap Tryz.prog
  have HOK := Lib.hid hok
  obtain ⟨G, hG⟩ : ∃ G, idleF t (fun _ => false) 0 t.tr = G := ⟨_, rfl⟩
  rw [hG]
  have HG := Lib.hid hG
  clear hG hok
  obtain ⟨W0, hW0⟩ : ∃ W0, w.alloc (Obj.cells #[.slice t.a0 t.st.length t.c0, .slice t.a1 t.ro.length t.c1, .slice t.a2 t.ca.length t.c2, .slice t.a3 t.ex.length t.c3, .slice t.a4 t.tr.length t.c4, .slice t.a5 t.fq.length t.c5, .slice t.a6 t.th.length t.c6, .slice t.a7 t.gu.length t.c7, .slice t.a8 t.pa.length t.c8, .slice t.a9 t.pr.length t.c9, .int .i64 t.d, .int .i64 t.wi, .int .i64 t.cp] 35) = W0 := ⟨_, rfl⟩
  have HB0 := Lib.hid (show Below w.heap.size w W0 by rw [← hW0]; exact blA (bl0 _) _)
  have hbx : w.heap.size < W0.heap.size := by rw [← hW0]; simp
  have x2 : W0.cell? ⟨w.heap.size, 2, none⟩ = some (.slice t.a2 t.ca.length t.c2) := by rw [← hW0]; exact boxC _ _ _ 2 _ rfl
  have x3 : W0.cell? ⟨w.heap.size, 3, none⟩ = some (.slice t.a3 t.ex.length t.c3) := by rw [← hW0]; exact boxC _ _ _ 3 _ rfl
  have x4 : W0.cell? ⟨w.heap.size, 4, none⟩ = some (.slice t.a4 t.tr.length t.c4) := by rw [← hW0]; exact boxC _ _ _ 4 _ rfl
  have HW0 := Lib.hid hW0
  have hl4 := HOK.out.l4
  clear hW0
  go_enter Tryz.func44, Tryz.ntmps44
  go_upto_region 1 with (fail)
  rw [HW0.out]
  go_wp2
  have X2 := Lib.hid x2
  have X3 := Lib.hid x3
  have X4 := Lib.hid x4
  clear x2 x3 x4
  have M0 := Lib.hid (MapI.made W0)
  go_loopw [10] (fun i wr => ∃ (k : Nat) (F : Int → Bool), k ≤ t.tr.length ∧ i = .int .i64 k ∧ MapI wr W0.heap.size k F ∧ idleF t F k (t.tr.drop k) = G ∧ Below W0.heap.size W0 wr) (fun i _ => t.tr.length - (intOf i).toNat)
  case atStart => exact ⟨0, _, Nat.zero_le _, rfl, M0.out, HG.out, blA (bl0 _) _⟩
  case round =>
    obtain ⟨k, F, hk, rfl, hm, hv, hbel⟩ := hrel
    have HM := Lib.hid hm
    have HBL := Lib.hid hbel
    clear hm
    by_cases hlt : k < t.tr.length
    · have hlt' : (k : Int) < (t.tr.length : Int) := by omega
      obtain ⟨s, hs⟩ : ∃ s, t.tr[k]? = some s := ⟨_, List.getElem?_eq_getElem hlt⟩
      have hdrop : t.tr.drop k = s :: t.tr.drop (k + 1) := by
        rw [List.drop_eq_getElem_cons hlt]
        rw [List.getElem?_eq_getElem hlt] at hs
        cases hs; rfl
      rw [hdrop, idleF] at hv
      obtain ⟨g, f, ea, hg, hta⟩ := tripAt HOK.out.r4 hs
      obtain ⟨p0, p1, p2, p3, p4⟩ := hta.keep hg (blt HB0.out hbel)
      have hin := inW_nat (k := k) (by omega)
      have HV := Lib.hid hv
      obtain ⟨id, ro, cal, sf, a, cap, A⟩ := s
      simp only at p0 p1 p2 p3 p4 HV
      rw [ea]
      obtain ⟨W5, hW5⟩ : ∃ W5, wr.alloc (Obj.cells #[.string id, .int .i64 ro, .int .i64 cal, .bool sf, .slice a A.length cap] 43) = W5 := ⟨_, rfl⟩
      have HB5 := Lib.hid (show Below W0.heap.size W0 W5 by rw [← hW5]; exact blA HBL.out _)
      have HM5 := Lib.hid (show MapI W5 W0.heap.size k F by rw [← hW5]; exact HM.out.below HM.out.lt (blA (bl0 _) _))
      have q2 : W5.cell? ⟨wr.heap.size, 2, none⟩ = some (.int .i64 cal) := by rw [← hW5]; exact boxC _ _ _ 2 _ rfl
      have v2 := keepC HB5.out hbx X2.out
      have v3 := keepC HB5.out hbx X3.out
      have HNX := Lib.hid (next70 t.a2 t.a3 t.c2 t.c3 t.ca t.ex cal W5 (HOK.out.r2.below (blt HB0.out HB5.out)) (HOK.out.r3.below (blt HB0.out HB5.out)) HOK.out.l2 HOK.out.l3)
      obtain ⟨y1, y2, hy⟩ : ∃ y1 y2, nxtS t.ca t.ex cal 36525 0 = (y1, y2) := ⟨_, _, rfl⟩
      rw [hy] at HNX HV
      simp only at HNX HV
      have HW5 := Lib.hid hW5
      have hgw : g < wr.heap.size := Nat.lt_of_lt_of_le hg (by have := HB0.out.size; have := HBL.out.size; omega)
      clear hs hdrop hta hv hbel hW5 ea hy
      go_upto_region 5 with (fail)
      rw [HW5.out]
      clear p0 p1 p2 p3 p4
      go_wp2_with (first | (go_at_call 70; refine HNX.out.mono ?_; rintro e w6 ⟨rfl, hb6⟩; have hm6 := HM5.out.below HM5.out.lt hb6; have HM6 := Lib.hid hm6; clear hm6) | (at_mapUpdate; refine wpList_mapI _ rfl _ _ _ rfl W0.heap.size k F rfl HM6.out (by unfold maxLen; omega) _ _ rfl rfl hin ?_; intro w7 hm7 hg7))
      go_roundw
      case rel => exact ⟨k + 1, _, by omega, by go_num, hm7, HV.out, (blt HB5.out hb6).grown hg7 (by have := HB5.out.size; have := hb6.size; omega) (fun j hj => by cases hj; exact Nat.le_refl _)⟩
      case measure => simp [intOf]; omega
    · have hlt' : ¬ (k : Int) < (t.tr.length : Int) := by omega
      rw [List.drop_of_length_le (by omega), idleF] at hv
      subst hv
      have x4 := keepC hbel hbx X4.out
      have HC := Lib.hid (missing69 4 t.tr.length W0.heap.size k F wr HM.out)
      clear hbel
      go_wp2_with (go_at_call 69; refine HC.out.mono ?_; rintro e w8 ⟨v, rfl, hmv, hb8⟩)
      go_ret
      exact ⟨v, rfl, hmv, blt HB0.out (blt HBL.out hb8)⟩
end Go.Proofs.Tt
