/-
  A part of the proof: lemmas of my own.
-/
import Derived.Test.YtamocmgfbonodaaGreatTi
set_option linter.unusedVariables false
set_option linter.unusedSimpArgs false
namespace Go.Proofs.Tt
open Go Go.Proofs
open Go.RowKit Go.Maps
set_option maxRecDepth 1000000

theorem inW_nat {k : Nat} (h : k < 1000000000) : inW (k : Int) := by
  unfold inW
  simp [Lit.wf, IntKind.min, IntKind.max, IntKind.signed, IntKind.bits]
  omega
/-- block b is a map of n entries at most that reads as F -/
def MapI (W : World) (b n : Nat) (F : Int → Bool) : Prop :=
  ∃ D : DataW Unit, W.ownsMap Tryz.prog 3 (plainElem Tryz.prog 4) b n D ∧ IsMap D ∧ ∀ x, D.atKey (ikey x) (.lit (.bool false)) = .lit (.bool (F x))
def upd (F : Int → Bool) (x : Int) (v : Bool) : Int → Bool := fun y => if y = x then v else F y
theorem MapI.made (w : World) : MapI (w.alloc (.map #[] 0)) w.heap.size 0 (fun _ => false) := ⟨_, World.ownsMap_made _ _ _ _, isMap_empty, fun _ => rfl⟩
theorem MapI.at {W W' : World} {b n : Nat} {F : Int → Bool} (h : MapI W b n F) (hb : W'.heap[b]? = W.heap[b]?) : MapI W' b n F := by
  obtain ⟨D, ⟨es, clock, h1, h2⟩, h3⟩ := h
  exact ⟨D, ⟨es, clock, hb.trans h1, h2⟩, h3⟩
theorem MapI.lt {W : World} {b n : Nat} {F : Int → Bool} (h : MapI W b n F) : b < W.heap.size := by
  obtain ⟨D, h1, _⟩ := h
  exact h1.lt
theorem MapI.below {W W' : World} {b n : Nat} {F : Int → Bool} (h : MapI W b n F) {B : Nat} (hB : b < B) (hb : Below B W W') : MapI W' b n F := h.at (hb.block _ hB)
theorem MapI.look {W : World} {b n : Nat} {F : Int → Bool} (h : MapI W b n F) {x : Int} (hx : inW x) : (Instr.lookup 127 (.map (some b)) (.int .i64 x) false).run Tryz.prog W = .ok (.bool (F x)) W := by
  obtain ⟨D, h1, _, h3⟩ := h
  obtain ⟨v, ps, hrun, hv⟩ := h1.lookup keyedI Tryz.underlying127 (zero4 W) (plainElem_bool Tryz.underlying4 false) (keyOfI x hx)
  rw [h3 x] at hv
  rw [hrun, plain_bool_inv hv rfl]
theorem MapI.add {W : World} {b n : Nat} {F : Int → Bool} (h : MapI W b n F) (hn : n < maxLen) {x : Int} (hx : inW x) (v : Bool) :
    ∃ W', (Instr.mapUpdate 127 (.map (some b)) (.int .i64 x) (.bool v)).run Tryz.prog W = .ok () W' ∧ MapI W' b (n + 1) (upd F x v) ∧ W.grownBy W' (some b) := by
  obtain ⟨D, h1, h2, h3⟩ := h
  obtain ⟨W', hrun, r1, r2⟩ := h1.update keyedI Tryz.underlying127 hn (keyOfI x hx) (plainElem_bool (H := Unit) Tryz.underlying4 v)
  refine ⟨W', hrun, ⟨_, r1, h2.put _ _, fun y => ?_⟩, r2⟩
  unfold upd
  by_cases e : y = x
  · subst e; rw [atKey_put_same h2 (by unfold ikey; trivial) _ _, if_pos rfl]
  · rw [atKey_put_other (by unfold ikey; simpa using e), if_neg e]; exact h3 y
theorem wpList_mapI {ops : Array Oper} {rest : List Oper} {o : Oper} {a : Act} {Q : Exit → Act → World → Prop} (W : World)
    (hg : o.guard = none) (m x v : Operand) (hop : o.op = Op.mapUpdate 127 m x v) (b n : Nat) (F : Int → Bool)
    (hm : a.eval m = .map (some b)) (h : MapI W b n F) (hn : n < maxLen) (k : Int) (c : Bool) (hx : a.eval x = .int .i64 k) (hv : a.eval v = .bool c) (hk : inW k)
    (hK : ∀ W', MapI W' b (n + 1) (upd F k c) → W.grownBy W' (some b) → wpList Tryz.prog ops Q rest (a.put o.dst undef) W') :
    wpList Tryz.prog ops Q (o :: rest) a W := by
  obtain ⟨W', hrun, r1, r2⟩ := h.add hn hk c
  refine wpList_plain hg fun K' hK' => ?_
  unfold Oper.wp
  simp [execOp, hop, hm, hx, hv, hrun, Result.andThen]
  exact hK' _ _ (hK W' r1 r2)

/-- the iterator that lint.missing makes -/
def MissV (W : World) (v : Value) (kind n : Int) (F : Int → Bool) : Prop := ∃ bn bu bk mb c, v = .func (.func 87) #[] #[.pointer (some ⟨bn, 0, none⟩), .pointer (some ⟨bu, 0, none⟩), .pointer (some ⟨bk, 0, none⟩)] ∧ W.cell? ⟨bn, 0, none⟩ = some (.int .i64 n) ∧ W.cell? ⟨bu, 0, none⟩ = some (.map (some mb)) ∧ W.cell? ⟨bk, 0, none⟩ = some (.int .i64 kind) ∧ MapI W mb c F
theorem MissV.below {W W' : World} {v : Value} {kind n : Int} {F : Int → Bool} (h : MissV W v kind n F) (hb : Below W.heap.size W W') : MissV W' v kind n F := by
  obtain ⟨bn, bu, bk, mb, c, h1, h2, h3, h4, h5⟩ := h
  exact ⟨bn, bu, bk, mb, c, h1, keepC hb (World.block_lt_of_cell? _ _ h2) h2, keepC hb (World.block_lt_of_cell? _ _ h3) h3, keepC hb (World.block_lt_of_cell? _ _ h4) h4, h5.below h5.lt hb⟩
theorem missing69 (kind n : Int) (mb c : Nat) (F : Int → Bool) (w : World) (h : MapI w mb c F) :
    Calls Tryz.prog 69 #[.int .i64 kind, .int .i64 n, .map (some mb)] w fun e w' => ∃ v, e = .returned v ∧ MissV w' v kind n F ∧ Below w.heap.size w w' := by
  obtain ⟨R, hR⟩ : ∃ R, R = (fun (e : Ending) (w' : World) => ∃ v, e = .returned v ∧ MissV w' v kind n F ∧ Below w.heap.size w w') := ⟨_, rfl⟩
  rw [← hR]
  have HR := Lib.hid hR
  have HM := Lib.hid h
  clear hR h
  go_enter Tryz.func69, Tryz.ntmps69
  go_wp2
  rw [HR.out]
  refine ⟨_, rfl, ⟨w.heap.size + 1, w.heap.size + 1 + 1, w.heap.size, mb, c, rfl, ?_, ?_, ?_, HM.out.below HM.out.lt (blA (blA (blA (bl0 _) _) _) _)⟩, blA (blA (blA (bl0 _) _) _) _⟩
  · have := boxC (w.alloc (Obj.cells #[.int .i64 kind] 3)) #[.int .i64 n] 3 0 _ rfl
    simp only [World.size_alloc] at this
    exact keepC (blA (bl0 _) _) (by simp) this
  · have := boxC ((w.alloc (Obj.cells #[.int .i64 kind] 3)).alloc (Obj.cells #[.int .i64 n] 3)) #[.map (some mb)] 127 0 _ rfl
    simp only [World.size_alloc] at this
    exact this
  · exact keepC (blA (blA (bl0 _) _) _) (by simp) (boxC _ _ _ 0 _ rfl)

def RetM (w : World) (kind n : Int) (F : Int → Bool) (e : Ending) (w' : World) : Prop := ∃ v, e = .returned v ∧ MissV w' v kind n F ∧ Below w.heap.size w w'
/-- what the trips name -/
def namF (f : TripD → Int) : (Int → Bool) → List TripD → Int → Bool
  | F, [] => F
  | F, s :: l => namF f (upd F (f s) true) l

set_option maxHeartbeats 1600000 in
theorem rou42 (t : TT) (w : World) (hok : t.ok w) : Calls Tryz.prog 42 #[t.val] w (RetM w 2 t.ro.length (namF TripD.route (fun _ => false) t.tr)) := by
  have hmm := @run_makeMap Tryz.prog
  have HOK := Lib.hid hok
  obtain ⟨G, hG⟩ : ∃ G, namF TripD.route (fun _ => false) t.tr = G := ⟨_, rfl⟩
  rw [hG]
  have HG := Lib.hid hG
  clear hG hok
  obtain ⟨W0, hW0⟩ : ∃ W0, w.alloc (Obj.cells #[.slice t.a0 t.st.length t.c0, .slice t.a1 t.ro.length t.c1, .slice t.a2 t.ca.length t.c2, .slice t.a3 t.ex.length t.c3, .slice t.a4 t.tr.length t.c4, .slice t.a5 t.fq.length t.c5, .slice t.a6 t.th.length t.c6, .slice t.a7 t.gu.length t.c7, .slice t.a8 t.pa.length t.c8, .slice t.a9 t.pr.length t.c9, .int .i64 t.d, .int .i64 t.wi, .int .i64 t.cp] 35) = W0 := ⟨_, rfl⟩
  have HB0 := Lib.hid (show Below w.heap.size w W0 by rw [← hW0]; exact blA (bl0 _) _)
  have hbx : w.heap.size < W0.heap.size := by rw [← hW0]; simp
  have x1 : W0.cell? ⟨w.heap.size, 1, none⟩ = some (.slice t.a1 t.ro.length t.c1) := by rw [← hW0]; exact boxC _ _ _ 1 _ rfl
  have x4 : W0.cell? ⟨w.heap.size, 4, none⟩ = some (.slice t.a4 t.tr.length t.c4) := by rw [← hW0]; exact boxC _ _ _ 4 _ rfl
  have HW0 := Lib.hid hW0
  clear hW0
  go_enter Tryz.func42, Tryz.ntmps42
  go_upto_region 1 with (fail)
  rw [HW0.out]
  go_wp2
  have X1 := Lib.hid x1
  clear x1 x4
  have M0 := Lib.hid (MapI.made W0)
  go_loopw [10] (fun i wr => ∃ (k : Nat) (F : Int → Bool), k ≤ t.tr.length ∧ i = .int .i64 k ∧ MapI wr W0.heap.size k F ∧ namF TripD.route F (t.tr.drop k) = G ∧ Below W0.heap.size W0 wr) (fun i _ => t.tr.length - (intOf i).toNat)
  case atStart => exact ⟨0, _, Nat.zero_le _, rfl, M0.out, HG.out, blA (bl0 _) _⟩
  case round =>
    obtain ⟨k, F, hk, rfl, hm, hv, hbel⟩ := hrel
    have HM := Lib.hid hm
    have HBL := Lib.hid hbel
    have hml := hm.lt
    clear hm
    by_cases hlt : k < t.tr.length
    · have hlt' : (k : Int) < (t.tr.length : Int) := by omega
      obtain ⟨s, hs⟩ : ∃ s, t.tr[k]? = some s := ⟨_, List.getElem?_eq_getElem hlt⟩
      have hdrop : t.tr.drop k = s :: t.tr.drop (k + 1) := by
        rw [List.drop_eq_getElem_cons hlt]
        rw [List.getElem?_eq_getElem hlt] at hs
        cases hs; rfl
      rw [hdrop, namF] at hv
      obtain ⟨g, f, ea, hg, hta⟩ := tripAt HOK.out.r4 hs
      obtain ⟨p0, p1, p2, p3, p4⟩ := hta.keep hg (blt HB0.out hbel)
      have hin := (HOK.out.i4r s (List.mem_of_getElem? hs)).1
      have hl := HOK.out.l4
      have HV := Lib.hid hv
      have EA := Lib.hid ea
      obtain ⟨id, ro, cal, sf, a, cap, A⟩ := s
      simp only at p0 p1 p2 p3 p4 hin
      rw [ea]
      obtain ⟨W5, hW5⟩ : ∃ W5, wr.alloc (Obj.cells #[.string id, .int .i64 ro, .int .i64 cal, .bool sf, .slice a A.length cap] 43) = W5 := ⟨_, rfl⟩
      have HM5 := Lib.hid (show MapI W5 W0.heap.size k F by rw [← hW5]; exact HM.out.below HM.out.lt (blA (bl0 _) _))
      have HB5 := Lib.hid (show Below W0.heap.size W0 W5 by rw [← hW5]; exact blA HBL.out _)
      have HW5 := Lib.hid hW5
      have hgw : g < wr.heap.size := Nat.lt_of_lt_of_le hg (by have := HB0.out.size; have := HBL.out.size; omega)
      clear hs hdrop hta hv hbel hW5 ea
      go_wp2_with (first | (at_mapUpdate; rw [HW5.out]; refine wpList_mapI _ rfl _ _ _ rfl W0.heap.size k F rfl HM5.out (by unfold maxLen; omega) _ _ rfl rfl hin ?_; intro w6 hm6 hg6))
      go_roundw
      case rel => exact ⟨k + 1, _, by omega, by go_num, hm6, HV.out, HB5.out.grown hg6 (by have := HB5.out.size; omega) (fun j hj => by cases hj; exact Nat.le_refl _)⟩
      case measure => simp [intOf]; omega
    · have hlt' : ¬ (k : Int) < (t.tr.length : Int) := by omega
      rw [List.drop_of_length_le (by omega), namF] at hv
      subst hv
      have x1 := keepC hbel hbx X1.out
      have HC := Lib.hid (missing69 2 t.ro.length W0.heap.size k F wr HM.out)
      clear hbel
      go_wp2_with (go_at_call 69; refine HC.out.mono ?_; rintro e w8 ⟨v, rfl, hmv, hb8⟩)
      go_ret
      exact ⟨v, rfl, hmv, blt HB0.out (blt HBL.out hb8)⟩

set_option maxHeartbeats 1600000 in
theorem cal43 (t : TT) (w : World) (hok : t.ok w) : Calls Tryz.prog 43 #[t.val] w (RetM w 3 t.ca.length (namF TripD.cal (fun _ => false) t.tr)) := by
  have hmm := @run_makeMap Tryz.prog
  have HOK := Lib.hid hok
  obtain ⟨G, hG⟩ : ∃ G, namF TripD.cal (fun _ => false) t.tr = G := ⟨_, rfl⟩
  rw [hG]
  have HG := Lib.hid hG
  clear hG hok
  obtain ⟨W0, hW0⟩ : ∃ W0, w.alloc (Obj.cells #[.slice t.a0 t.st.length t.c0, .slice t.a1 t.ro.length t.c1, .slice t.a2 t.ca.length t.c2, .slice t.a3 t.ex.length t.c3, .slice t.a4 t.tr.length t.c4, .slice t.a5 t.fq.length t.c5, .slice t.a6 t.th.length t.c6, .slice t.a7 t.gu.length t.c7, .slice t.a8 t.pa.length t.c8, .slice t.a9 t.pr.length t.c9, .int .i64 t.d, .int .i64 t.wi, .int .i64 t.cp] 35) = W0 := ⟨_, rfl⟩
  have HB0 := Lib.hid (show Below w.heap.size w W0 by rw [← hW0]; exact blA (bl0 _) _)
  have hbx : w.heap.size < W0.heap.size := by rw [← hW0]; simp
  have x1 : W0.cell? ⟨w.heap.size, 2, none⟩ = some (.slice t.a2 t.ca.length t.c2) := by rw [← hW0]; exact boxC _ _ _ 2 _ rfl
  have x4 : W0.cell? ⟨w.heap.size, 4, none⟩ = some (.slice t.a4 t.tr.length t.c4) := by rw [← hW0]; exact boxC _ _ _ 4 _ rfl
  have HW0 := Lib.hid hW0
  clear hW0
  go_enter Tryz.func43, Tryz.ntmps43
  go_upto_region 1 with (fail)
  rw [HW0.out]
  go_wp2
  have X1 := Lib.hid x1
  clear x1 x4
  have M0 := Lib.hid (MapI.made W0)
  go_loopw [10] (fun i wr => ∃ (k : Nat) (F : Int → Bool), k ≤ t.tr.length ∧ i = .int .i64 k ∧ MapI wr W0.heap.size k F ∧ namF TripD.cal F (t.tr.drop k) = G ∧ Below W0.heap.size W0 wr) (fun i _ => t.tr.length - (intOf i).toNat)
  case atStart => exact ⟨0, _, Nat.zero_le _, rfl, M0.out, HG.out, blA (bl0 _) _⟩
  case round =>
    obtain ⟨k, F, hk, rfl, hm, hv, hbel⟩ := hrel
    have HM := Lib.hid hm
    have HBL := Lib.hid hbel
    have hml := hm.lt
    clear hm
    by_cases hlt : k < t.tr.length
    · have hlt' : (k : Int) < (t.tr.length : Int) := by omega
      obtain ⟨s, hs⟩ : ∃ s, t.tr[k]? = some s := ⟨_, List.getElem?_eq_getElem hlt⟩
      have hdrop : t.tr.drop k = s :: t.tr.drop (k + 1) := by
        rw [List.drop_eq_getElem_cons hlt]
        rw [List.getElem?_eq_getElem hlt] at hs
        cases hs; rfl
      rw [hdrop, namF] at hv
      obtain ⟨g, f, ea, hg, hta⟩ := tripAt HOK.out.r4 hs
      obtain ⟨p0, p1, p2, p3, p4⟩ := hta.keep hg (blt HB0.out hbel)
      have hin := (HOK.out.i4r s (List.mem_of_getElem? hs)).2.1
      have hl := HOK.out.l4
      have HV := Lib.hid hv
      have EA := Lib.hid ea
      obtain ⟨id, ro, cal, sf, a, cap, A⟩ := s
      simp only at p0 p1 p2 p3 p4 hin
      rw [ea]
      obtain ⟨W5, hW5⟩ : ∃ W5, wr.alloc (Obj.cells #[.string id, .int .i64 ro, .int .i64 cal, .bool sf, .slice a A.length cap] 43) = W5 := ⟨_, rfl⟩
      have HM5 := Lib.hid (show MapI W5 W0.heap.size k F by rw [← hW5]; exact HM.out.below HM.out.lt (blA (bl0 _) _))
      have HB5 := Lib.hid (show Below W0.heap.size W0 W5 by rw [← hW5]; exact blA HBL.out _)
      have HW5 := Lib.hid hW5
      have hgw : g < wr.heap.size := Nat.lt_of_lt_of_le hg (by have := HB0.out.size; have := HBL.out.size; omega)
      clear hs hdrop hta hv hbel hW5 ea
      go_wp2_with (first | (at_mapUpdate; rw [HW5.out]; refine wpList_mapI _ rfl _ _ _ rfl W0.heap.size k F rfl HM5.out (by unfold maxLen; omega) _ _ rfl rfl hin ?_; intro w6 hm6 hg6))
      go_roundw
      case rel => exact ⟨k + 1, _, by omega, by go_num, hm6, HV.out, HB5.out.grown hg6 (by have := HB5.out.size; omega) (fun j hj => by cases hj; exact Nat.le_refl _)⟩
      case measure => simp [intOf]; omega
    · have hlt' : ¬ (k : Int) < (t.tr.length : Int) := by omega
      rw [List.drop_of_length_le (by omega), namF] at hv
      subst hv
      have x1 := keepC hbel hbx X1.out
      have HC := Lib.hid (missing69 3 t.ca.length W0.heap.size k F wr HM.out)
      clear hbel
      go_wp2_with (go_at_call 69; refine HC.out.mono ?_; rintro e w8 ⟨v, rfl, hmv, hb8⟩)
      go_ret
      exact ⟨v, rfl, hmv, blt HB0.out (blt HBL.out hb8)⟩
end Go.Proofs.Tt
