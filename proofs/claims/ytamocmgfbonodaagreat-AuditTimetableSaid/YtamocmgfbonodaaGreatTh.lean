/-
  A part of the proof: lemmas of my own.
-/
import Derived.Test.YtamocmgfbonodaaGreatTe
import Derived.Deep.RegionHeld3
import Derived.Laws.CopyRow
import Derived.Laws.CopyOwn
import Derived.Laws.OwnMore
import Derived.Test.YtamocmgfbonodaaGreatTg
set_option linter.unusedVariables false
set_option linter.unusedSimpArgs false
namespace Go.Proofs.Tt
open Go Go.Proofs
open Go.RowKit Go.Maps
set_option maxRecDepth 1000000

/-- a copy of rows of sz cells: the whole slice -/
theorem run_copy_wide {P : Program} (w : World) (dT sT ty elem : TypeId) (sz g n dCap sCap : Nat) (ad : Addr) (cur : Array Value) (t : TypeId) (cs : List Value)
    (hu : P.underlying dT = some (.slice elem)) (hs : (P.info? elem).map (·.size) = some sz)
    (hg : w.heap[g]? = some (.cells cur t (0, 0))) (hn : cs.length = n * sz)
    (hsrc : ∀ j v, cs[j]? = some v → w.cell? (ad.add j) = some v) (hfit : cs.length = cur.size) (h1 : ∀ v ∈ cs, v.oneCell' = true) :
    (Builtin.copy_ #[dT, sT] ty #[.slice (some ⟨g, 0, none⟩) n dCap, .slice (some ad) n sCap]).run P w = .ok (goInt n) (w.setRow g cs.toArray) := by
  have hl := run_loadCells_list (P := P) w ad cs hsrc
  have hst := run_storeCells_at P g 0 t cs 0 cur w hg (by omega) h1
  cases hq : P.info? elem with
  | none => simp [hq] at hs
  | some i =>
    have hi : i.size = sz := by simpa [hq] using hs
    have hd : List.drop cs.length cur.toList = [] := List.drop_of_length_le (by simp; omega)
    have hm : Nat.min n n = n := Nat.min_self n
    simp [Builtin.copy_, run_underlying hu, Builtin.lenOf, Builtin.firstCells, sizeOf, typeInfo, hq, hi, hm, ← hn, hl, hst, hd]

theorem wpList_copy_eq {P : Program} (w : World) {ops : Array Oper} {rest : List Oper} {o : Oper} {a : Act} {Q : Exit → Act → World → Prop} (hgd : o.guard = none) (d s : Operand) (t t' : TypeId)
    (ho : o.op = .call { callee := .builtin .copy, args := #[d, s], argTypes := #[t, t'] }) (v u : Value) (hd : a.eval d = v) (hs : a.eval s = u) {v' : Value} {w' : World}
    (hr : (Builtin.copy_ #[t, t'] o.type #[v, u]).run P w = .ok v' w') (h : wpList P ops Q rest (a.put o.dst v') w') : wpList P ops Q (o :: rest) a w := by
  refine wpList_plain hgd fun _ hK => ?_
  unfold Oper.wp execOp
  simp only [ho, resolve, invoke, builtin, Sem.run_bind, Sem.run_pure, Result.andThen_ok, List.map_toArray, List.map_cons, List.map_nil, hd, hs, hr]
  exact hK _ _ h
def dayT (x : Int) : Prop := 0 ≤ x ∧ x ≤ 172800
instance (x : Int) : Decidable (dayT x) := by unfold dayT; infer_instance
/-- the error of a list of calls, moved from f to s -/
def callsE (f s : Int) : List CallD → Int
  | [] => 0
  | c :: r => if ¬ dayT (c.arr - f + s) ∨ ¬ dayT (c.dep - f + s) then 10 else callsE f s r
def callsF (l : List CallD) (s : Int) : Int := if l.length = 0 then 16 else callsE (firstC l).dep s l
def CalP (E : Int) (e : Ending) : Prop := ∃ v, e = .returned (.tuple #[v, .int .i64 E])
theorem infoC : (Tryz.prog.info? 49).map (fun i => (i.zero, i.size, i.bytes)) = some (some (.agg #[.int .i64 0, .int .i64 0, .int .i64 0, .bool false, .bool false]), 5, 32) := by kernel_rfl
def flatC (l : List CallD) : List Value := l.flatMap CallD.row
theorem flatC_len : ∀ (l : List CallD), (flatC l).length = l.length * 5
  | [] => rfl
  | c :: l => by show (c.row ++ flatC l).length = _; rw [List.length_append, flatC_len l, List.length_cons]; show 5 + _ = _; omega
theorem flatC_get : ∀ (l : List CallD) (i : Nat) (s : CallD) (j : Nat) (v : Value), l[i]? = some s → s.row[j]? = some v → (flatC l)[i * 5 + j]? = some v
  | c :: l, 0, s, j, v, h, hj => by
    simp at h; subst h
    have hl : j < c.row.length := (List.getElem?_eq_some_iff.1 hj).1
    show (c.row ++ flatC l)[0 * 5 + j]? = _
    rw [Nat.zero_mul, Nat.zero_add, List.getElem?_append_left hl]; exact hj
  | c :: l, i + 1, s, j, v, h, hj => by
    show (c.row ++ flatC l)[(i + 1) * 5 + j]? = _
    have hl : c.row.length = 5 := rfl
    rw [List.getElem?_append_right (by rw [hl]; omega), hl, show (i + 1) * 5 + j - 5 = i * 5 + j by omega]
    exact flatC_get l i s j v (by simpa using h) hj
theorem flatC_one : ∀ (l : List CallD), ∀ v ∈ flatC l, v.oneCell' = true
  | c :: l, v, h => by
    rcases List.mem_append.1 (show v ∈ c.row ++ flatC l from h) with h | h
    · simp [CallD.row] at h; rcases h with rfl | rfl | rfl | rfl | rfl <;> rfl
    · exact flatC_one l v h
theorem flatC_src {w : World} {g f : Nat} {l : List CallD} (h : ∀ i s, l[i]? = some s → CallAt w g (f + i * 5) s) : ∀ j v, (flatC l)[j]? = some v → w.cell? ((⟨g, f, none⟩ : Addr).add j) = some v := by
  intro j v hj
  have hadd : (⟨g, f, none⟩ : Addr).add j = ⟨g, f + j, none⟩ := by unfold Addr.add; split <;> simp_all
  rw [hadd]
  have hlt : j < l.length * 5 := by rw [← flatC_len]; exact (List.getElem?_eq_some_iff.1 hj).1
  have hi : j / 5 < l.length := by omega
  obtain ⟨q0, q1, q2, q3, q4⟩ := h (j / 5) l[j / 5] (List.getElem?_eq_getElem hi)
  generalize hs : l[j / 5] = s at *
  have hg := fun k u hk => flatC_get l (j / 5) s k u (by rw [← hs]; exact List.getElem?_eq_getElem hi) hk
  have hk : j % 5 = 0 ∨ j % 5 = 1 ∨ j % 5 = 2 ∨ j % 5 = 3 ∨ j % 5 = 4 := by omega
  have e : j = j / 5 * 5 + j % 5 := by omega
  rcases hk with k | k | k | k | k <;> rw [k] at e <;> rw [e] at hj
  · rw [hg 0 _ rfl] at hj; cases hj; rw [show f + j = f + j / 5 * 5 by omega]; exact q0
  · rw [hg 1 _ rfl] at hj; cases hj; rw [show f + j = f + j / 5 * 5 + 1 by omega]; exact q1
  · rw [hg 2 _ rfl] at hj; cases hj; rw [show f + j = f + j / 5 * 5 + 2 by omega]; exact q2
  · rw [hg 3 _ rfl] at hj; cases hj; rw [show f + j = f + j / 5 * 5 + 3 by omega]; exact q3
  · rw [hg 4 _ rfl] at hj; cases hj; rw [show f + j = f + j / 5 * 5 + 4 by omega]; exact q4

theorem made_block {w : World} {B n : Nat} {T : TypeId} {xs : List Value} (h : w.ownsRow B T 5 (.slice (some ⟨B, 0, none⟩) n n) n xs) : ∃ cur, w.heap[B]? = some (.cells cur T (0, 0)) ∧ cur.size = n * 5 := by
  rcases h.2 with ⟨h4, _⟩ | ⟨g', cap', cur, h4, _, h5, _, _, h6, _⟩
  · cases h4
  · cases h4
    exact ⟨cur, h5, h6⟩
set_option maxHeartbeats 1600000 in
theorem calls80 (t : TripD) (s : Int) (w : World) (hr : RowsAt w t.a 5 (t.calls.map CallD.row)) (hl : t.calls.length < 1000000) (hd : ∀ c ∈ t.calls, dayT c.arr ∧ dayT c.dep) (hs : dayT s) :
    Calls Tryz.prog 80 #[t.val, .int .i64 s] w fun e w' => CalP (callsF t.calls s) e ∧ Below w.heap.size w w' := by
  obtain ⟨id, ro, cal, sf, a, cap, A⟩ := t
  simp only at hr hl hd
  dsimp only [TripD.val]
  obtain ⟨R, hR⟩ : ∃ R, callsF A s = R := ⟨_, rfl⟩
  rw [hR]
  have belA : ∀ o, Below w.heap.size w (w.alloc o) := fun o => blA (bl0 _) _
  by_cases h0 : A.length = 0
  · have HX := Lib.hid (show R = 16 by rw [← hR]; unfold callsF; rw [if_pos h0])
    have d2 : (A.length : Int) = 0 := by omega
    clear hR hr hd
    go_enter Tryz.func80, Tryz.ntmps80
    go_wp2
    go_ret2
    exact ⟨⟨_, by rw [HX.out]; rfl⟩, belA _⟩
  · obtain ⟨u, hu⟩ : ∃ u, A[0]? = some u := ⟨_, List.getElem?_eq_getElem (show 0 < A.length by omega)⟩
    have e1 : firstC A = u := by simp [firstC, hu]
    have HR := Lib.hid (show callsE u.dep s A = R by rw [← hR]; unfold callsF; rw [if_neg h0, e1])
    obtain ⟨g, f, rfl, hg, hc⟩ := callAt hr hu
    have HD := Lib.hid hd
    have hud := (hd u (List.mem_of_getElem? hu)).2
    have HU := Lib.hid hud
    have HS := Lib.hid hs
    have hall : ∀ i c, A[i]? = some c → CallAt w g (f + i * 5) c := fun i c hi => by
      obtain ⟨g', f', h1, _, h2⟩ := callAt hr hi
      cases h1; exact h2
    have HALL := Lib.hid hall
    have hc2 := hc.2.2.1
    rw [Nat.zero_mul, Nat.add_zero] at hc2
    obtain ⟨n, hn⟩ : ∃ n, A.length = n := ⟨_, rfl⟩
    have HN := Lib.hid hn
    rw [hn] at h0 hl ⊢
    have q1 : ((n : Int) == 0) = false := by simp; omega
    have k1 : (0 : Int) < (n : Int) := by omega
    have k2 : 0 < n := by omega
    clear hR hr hd hc hu e1 hud hs hall hn
    obtain ⟨W0, hW0⟩ : ∃ W0, w.alloc (Obj.cells #[.string id, .int .i64 ro, .int .i64 cal, .bool sf, .slice (some ⟨g, f, none⟩) n cap] 43) = W0 := ⟨_, rfl⟩
    have x4 : W0.cell? ⟨w.heap.size, 4, none⟩ = some (.slice (some ⟨g, f, none⟩) n cap) := by rw [← hW0]; exact boxC _ _ _ 4 _ rfl
    have y2 : W0.cell? ⟨g, f + 2, none⟩ = some (.int .i64 u.dep) := by rw [← hW0]; exact keepC (belA _) hg hc2
    have hz : W0.heap.size = w.heap.size + 1 := by rw [← hW0]; simp
    have HZ := Lib.hid hz
    have HB0 := Lib.hid (show Below w.heap.size w W0 by rw [← hW0]; exact belA _)
    have HW0 := Lib.hid hW0
    clear hW0 hz hc2
    go_enter Tryz.func80, Tryz.ntmps80
    go_upto_region 1 with (fail)
    rw [HW0.out]
    go_upto_region 4 with (fail)
    obtain ⟨i0, hi, hi1, hi2, hi3⟩ := info_parts infoC
    have HI := Lib.hid (And.intro hi (And.intro hi1 (And.intro hi2 hi3)))
    clear hi hi1 hi2 hi3
    go_wp2_with (first
      | (refine wpList_make_full _ rfl _ _ _ rfl W0.heap.size 49 i0 _ 5 Tryz.underlying41 HI.out.1 HI.out.2.1 HI.out.2.2.1 .i64 .i64 _ _ n rfl rfl rfl rfl (by rw [HI.out.2.2.2]; omega) (by unfold maxLen; omega) (Nat.le_refl _) ?_; intro w2 hown hgr; have z4 : w2.cell? ⟨w.heap.size, 4, none⟩ = some (.slice (some ⟨g, f, none⟩) n cap) := hgr.cell x4 (by simp); obtain ⟨cur, hcur, hcs⟩ := made_block hown)
      | (refine wpList_copy_eq w2 rfl _ _ 41 41 rfl _ _ rfl rfl (run_copy_wide w2 _ _ _ 49 5 W0.heap.size n n cap ⟨g, f, none⟩ cur 49 (flatC A) Tryz.underlying41 (by rw [HI.out.1]; simp [HI.out.2.2.1]) hcur (by rw [flatC_len, HN.out]) (flatC_src (fun i c hi => (HALL.out i c hi).keep hg ((HB0.out).grown hgr HB0.out.size (fun j hj => by cases hj)))) (by rw [flatC_len, HN.out, hcs]) (flatC_one A)) ?_; obtain ⟨w3, hw3⟩ : ∃ w3, w2.setRow W0.heap.size (flatC A).toArray = w3 := ⟨_, rfl⟩; rw [hw3]; have HW3 := Lib.hid hw3; have HOW := Lib.hid (And.intro hown (And.intro hgr (And.intro hcur hcs))); clear hw3 hown hgr hcur hcs z4))
    have hrow : w3.heap[W0.heap.size]? = some (.cells (flatC A).toArray 49 (0, 0)) := by rw [← HW3.out]; exact setRow_heap _ _ _ _ _ _ HOW.out.2.2.1
    have hb3 : Below w.heap.size w w3 := by rw [← HW3.out]; exact below_setRow ((HB0.out).grown HOW.out.2.1 HB0.out.size (fun j hj => by cases hj)) HB0.out.size _
    have hfz : ∀ o, w3.frozen? ⟨W0.heap.size, o, none⟩ = false := fun o => by simp [World.frozen?, hrow]
    have hce : ∀ j c, A[j]? = some c → w3.cell? ⟨W0.heap.size, j * 5 + 1, none⟩ = some (.int .i64 c.arr) ∧ w3.cell? ⟨W0.heap.size, j * 5 + 2, none⟩ = some (.int .i64 c.dep) := fun j c hj => by
      have q1 := flatC_get A j c 1 _ hj rfl
      have q2 := flatC_get A j c 2 _ hj rfl
      constructor <;> simp only [World.cell?, hrow] <;> simpa
    have H3 := Lib.hid (And.intro hb3 (And.intro hfz hce))
    clear hrow hb3 hfz hce
    go_loopw [30] (fun i wr => ∃ k : Nat, k ≤ n ∧ i = .int .i64 k ∧ Below w.heap.size w wr ∧ (∀ o, wr.frozen? ⟨W0.heap.size, o, none⟩ = false) ∧ (∀ j c, k ≤ j → A[j]? = some c → wr.cell? ⟨W0.heap.size, j * 5 + 1, none⟩ = some (.int .i64 c.arr) ∧ wr.cell? ⟨W0.heap.size, j * 5 + 2, none⟩ = some (.int .i64 c.dep)) ∧ callsE u.dep s (A.drop k) = R) (fun i _ => n - (intOf i).toNat)
    case atStart => exact ⟨0, Nat.zero_le _, rfl, H3.out.1, H3.out.2.1, (fun j c _ h => H3.out.2.2 j c h), HR.out⟩
    case round =>
      obtain ⟨k, hk, rfl, hbel, hfz, hce, hv⟩ := hrel
      by_cases hlt : k < n
      · have hlt' : (k : Int) < (n : Int) := by omega
        obtain ⟨c, hc⟩ : ∃ c, A[k]? = some c := ⟨_, List.getElem?_eq_getElem (by have := HN.out; omega)⟩
        have hdrop : A.drop k = c :: A.drop (k + 1) := by
          rw [List.drop_eq_getElem_cons (by have := HN.out; omega)]
          rw [List.getElem?_eq_getElem (by have := HN.out; omega)] at hc
          cases hc; rfl
        obtain ⟨c1, c2⟩ := hce k c (Nat.le_refl _) hc
        obtain ⟨hd1, hd2⟩ := HD.out c (List.mem_of_getElem? hc)
        rw [hdrop, callsE] at hv
        have f1 := hfz (k * 5 + 1)
        have f2 := hfz (k * 5 + 2)
        have M1 := Lib.hid (fun w => moved93 c.arr u.dep s w hd1 HU.out HS.out)
        have M2 := Lib.hid (fun w => moved93 c.dep u.dep s w hd2 HU.out HS.out)
        have HV := Lib.hid hv
        have HFZ := Lib.hid hfz
        have HCE := Lib.hid hce
        have HBL := Lib.hid hbel
        obtain ⟨st, ar, dp, bo, al⟩ := c
        simp only at c1 c2 M1 M2 HV
        obtain ⟨x1, hx1⟩ : ∃ x, ar - u.dep + s = x := ⟨_, rfl⟩
        obtain ⟨x2, hx2⟩ : ∃ x, dp - u.dep + s = x := ⟨_, rfl⟩
        obtain ⟨b1, hb1⟩ : ∃ b, decide (0 ≤ x1 ∧ x1 ≤ 172800) = b := ⟨_, rfl⟩
        obtain ⟨b2, hb2⟩ : ∃ b, decide (0 ≤ x2 ∧ x2 ≤ 172800) = b := ⟨_, rfl⟩
        simp only [hx1, hb1] at M1
        simp only [hx2, hb2] at M2
        rw [hx1, hx2] at HV
        have HBB := Lib.hid (And.intro hb1 hb2)
        have HCC := Lib.hid hc
        clear hx1 hx2 hb1 hb2 hc hdrop hd1 hd2 hv hfz hce hbel
        have HOUT := Lib.hid (fun (h : b1 = false ∨ b2 = false) => (show R = 10 by
          rw [← HV.out, if_pos]
          rcases h with h | h
          · left; intro hd; have := HBB.out.1; rw [h] at this; exact (of_decide_eq_false this) hd
          · right; intro hd; have := HBB.out.2; rw [h] at this; exact (of_decide_eq_false this) hd))
        have HON := Lib.hid (fun (h1 : b1 = true) (h2 : b2 = true) => (show callsE u.dep s (A.drop (k + 1)) = R by
          rw [← HV.out, if_neg]
          rintro (h | h)
          · have := HBB.out.1; rw [h1] at this; exact h (of_decide_eq_true this)
          · have := HBB.out.2; rw [h2] at this; exact h (of_decide_eq_true this)))
        have keepB : ∀ (W : World) (o : Nat) (v : Value), Below w.heap.size w W → Below w.heap.size w (W.setCell ⟨W0.heap.size, o, none⟩ v) := fun W o v h => h.setCell (p := ⟨W0.heap.size, o, none⟩) HB0.out.size v
        have KB := Lib.hid keepB
        clear keepB
        cases b1
        · cases b2
          all_goals
            have HX := Lib.hid (HOUT.out (by simp))
            go_wp2_with (go_at_call 93; first | (with_reducible refine (M1.out _).mono ?_; rintro e w5 ⟨rfl, rfl⟩) | (with_reducible refine (M2.out _).mono ?_; rintro e w5 ⟨rfl, rfl⟩))
            go_ret2
            exact ⟨⟨_, by rw [HX.out]; rfl⟩, KB.out _ _ _ (KB.out _ _ _ HBL.out)⟩
        · cases b2
          · have HX := Lib.hid (HOUT.out (by simp))
            go_wp2_with (go_at_call 93; first | (with_reducible refine (M1.out _).mono ?_; rintro e w5 ⟨rfl, rfl⟩) | (with_reducible refine (M2.out _).mono ?_; rintro e w5 ⟨rfl, rfl⟩))
            go_ret2
            exact ⟨⟨_, by rw [HX.out]; rfl⟩, KB.out _ _ _ (KB.out _ _ _ HBL.out)⟩
          · have HX := Lib.hid (HON.out rfl rfl)
            go_wp2_with (go_at_call 93; first | (with_reducible refine (M1.out _).mono ?_; rintro e w5 ⟨rfl, rfl⟩) | (with_reducible refine (M2.out _).mono ?_; rintro e w5 ⟨rfl, rfl⟩))
            go_roundw
            case rel =>
              refine ⟨k + 1, by omega, by go_num, KB.out _ _ _ (KB.out _ _ _ HBL.out), fun o => by rw [World.frozen?_setCell, World.frozen?_setCell]; exact HFZ.out o, fun j c hj hc => ?_, HX.out⟩
              obtain ⟨r1, r2⟩ := HCE.out j c (by omega) hc
              constructor
              · rw [World.cell?_setCell_other _ _ _ _ (by simp <;> omega), World.cell?_setCell_other _ _ _ _ (by simp <;> omega)]; exact r1
              · rw [World.cell?_setCell_other _ _ _ _ (by simp <;> omega), World.cell?_setCell_other _ _ _ _ (by simp <;> omega)]; exact r2
            case measure => simp [intOf]; omega
      · have hlt' : ¬ (k : Int) < (n : Int) := by omega
        rw [List.drop_of_length_le (by have := HN.out; omega)] at hv
        have HE := Lib.hid hv
        have HBL := Lib.hid hbel
        clear hv hbel hfz hce
        go_wp2
        go_ret2
        exact ⟨⟨_, by rw [← HE.out]; rfl⟩, HBL.out⟩
def fitsS (t : TripD) (f : FrqD) : Bool := if t.calls.length = 0 then true else (decide (callsF t.calls f.fr = 0) && decide (callsF t.calls (lastS f) = 0))
theorem last_day (f : FrqD) (h : soundS f) : dayT (lastS f) := by
  obtain ⟨q1, q2, q3, q4⟩ := cnt_bounds f h
  obtain ⟨h1, h2, h3, h4, h5⟩ := h
  unfold dayT lastS
  omega
set_option maxHeartbeats 1600000 in
theorem fits61 (t : TripD) (f : FrqD) (w : World) (hr : RowsAt w t.a 5 (t.calls.map CallD.row)) (hl : t.calls.length < 1000000) (hd : ∀ c ∈ t.calls, dayT c.arr ∧ dayT c.dep) (hf : soundS f) :
    Calls Tryz.prog 61 #[t.val, f.val] w fun e w' => e = .returned (.bool (fitsS t f)) ∧ Below w.heap.size w w' := by
  have hL := last_day f hf
  have hF : dayT f.fr := by have := hf.1; have := hf.2.1; have := hf.2.2.1; unfold dayT; omega
  have HC1 := Lib.hid (fun wx (hb : Below w.heap.size w wx) => calls80 t f.fr wx (hr.below hb) hl hd hF)
  have HC2 := Lib.hid (fun wx (hb : Below w.heap.size w wx) => calls80 t (lastS f) wx (hr.below hb) hl hd hL)
  have HLS := Lib.hid (fun wx => last81 f wx hf)
  obtain ⟨R, hR⟩ : ∃ R, fitsS t f = R := ⟨_, rfl⟩
  rw [hR]
  unfold fitsS at hR
  obtain ⟨x1, hx1⟩ : ∃ x, callsF t.calls f.fr = x := ⟨_, rfl⟩
  obtain ⟨x2, hx2⟩ : ∃ x, callsF t.calls (lastS f) = x := ⟨_, rfl⟩
  rw [hx1, hx2] at hR
  simp only [hx1] at HC1
  simp only [hx2] at HC2
  have HR := Lib.hid hR
  clear hR hx1 hx2 hL hF hr hd hf
  obtain ⟨L, hL⟩ : ∃ L, lastS f = L := ⟨_, rfl⟩
  simp only [hL] at HC2 HLS
  clear hL
  obtain ⟨id, ro, cal, sf, a, cap, A⟩ := t
  obtain ⟨tr, fr, to_, ev⟩ := f
  simp only at hl HR HC1
  dsimp only [TripD.val, FrqD.val] at HC1 HC2 HLS ⊢
  obtain ⟨n, hn⟩ : ∃ n, A.length = n := ⟨_, rfl⟩
  rw [hn] at HR hl ⊢
  simp only [hn] at HC1 HC2
  clear hn
  obtain ⟨W0, hW0⟩ : ∃ W0, (w.alloc (Obj.cells #[.string id, .int .i64 ro, .int .i64 cal, .bool sf, .slice a n cap] 43)).alloc (Obj.cells #[.int .i64 tr, .int .i64 fr, .int .i64 to_, .int .i64 ev] 123) = W0 := ⟨_, rfl⟩
  have HB0 := Lib.hid (show Below w.heap.size w W0 by rw [← hW0]; exact blA (blA (bl0 _) _) _)
  have keepX : ∀ k v, (#[Value.string id, .int .i64 ro, .int .i64 cal, .bool sf, .slice a n cap] : Array Value)[k]? = some v → W0.cell? ⟨w.heap.size, k, none⟩ = some v := fun k v hk => by rw [← hW0]; exact keepC (blA (bl0 _) _) (by simp) (boxC _ _ _ k _ hk)
  have keepY : ∀ k v, (#[Value.int .i64 tr, .int .i64 fr, .int .i64 to_, .int .i64 ev] : Array Value)[k]? = some v → W0.cell? ⟨w.heap.size + 1, k, none⟩ = some v := fun k v hk => by rw [← hW0]; have := boxC (w.alloc (Obj.cells #[.string id, .int .i64 ro, .int .i64 cal, .bool sf, .slice a n cap] 43)) #[.int .i64 tr, .int .i64 fr, .int .i64 to_, .int .i64 ev] 123 k _ hk; simpa using this
  have x0 := keepX 0 _ rfl
  have x1' := keepX 1 _ rfl
  have x2' := keepX 2 _ rfl
  have x3 := keepX 3 _ rfl
  have x4 := keepX 4 _ rfl
  have y0 := keepY 0 _ rfl
  have y1 := keepY 1 _ rfl
  have y2 := keepY 2 _ rfl
  have y3 := keepY 3 _ rfl
  have hs1 : w.heap.size + 1 < W0.heap.size := by rw [← hW0]; simp
  have hs0 : w.heap.size < W0.heap.size := by omega
  have HW0 := Lib.hid hW0
  clear keepX keepY hW0
  by_cases h0 : n = 0
  · have HX := Lib.hid (show R = true by rw [← HR.out, if_pos h0])
    have H0 := Lib.hid h0
    clear h0
    go_enter Tryz.func61, Tryz.ntmps61
    go_upto_region 1 with (fail)
    rw [HW0.out]
    have q1 : (n : Int) = 0 := by have := H0.out; omega
    go_wp2
    go_ret
    exact ⟨by rw [HX.out]; rfl, HB0.out⟩
  · have HX := Lib.hid (show R = (decide (x1 = 0) && decide (x2 = 0)) by rw [← HR.out, if_neg h0])
    have q1 : ((n : Int) == 0) = false := by simp; omega
    have q2 : ¬ (n : Int) = 0 := by omega
    go_enter Tryz.func61, Tryz.ntmps61
    go_upto_region 1 with (fail)
    rw [HW0.out]
    go_upto_region 4 with ((go_at_call 80; refine (HC1.out _ HB0.out).mono ?_; rintro e w2 ⟨⟨v1, rfl⟩, hb2⟩))
    have hH2 := Lib.hid (KS.mk' hb2)
    have z0 := keepC hb2 hs0 x0
    have z1 := keepC hb2 hs0 x1'
    have z2 := keepC hb2 hs0 x2'
    have z3 := keepC hb2 hs0 x3
    have z4 := keepC hb2 hs0 x4
    have u0 := keepC hb2 hs1 y0
    have u1 := keepC hb2 hs1 y1
    have u2 := keepC hb2 hs1 y2
    have u3 := keepC hb2 hs1 y3
    have HB2 := Lib.hid (blt HB0.out (hb2.mono (Nat.le_refl _)))
    have t1 : w.heap.size + 1 < w2.heap.size := Nat.lt_of_lt_of_le hs1 hb2.size
    have t0 : w.heap.size < w2.heap.size := by omega
    clear hb2 x0 x1' x2' x3 x4 y0 y1 y2 y3 hs0 hs1
    go_region_held3 (fun wx => KS w2 wx)
      (first | (exact KS.mk' (bl0 _)) | (exact KS.mk' (blD (bl0 _))) | (exact KS.step (by assumption) (by assumption)))
      (first | (go_at_call 81; refine (HLS.out _).mono ?_; rintro en wx ⟨rfl, hbx⟩) | (go_at_call 80; refine (HC2.out _ (blt HB2.out (And.left (by assumption)))).mono ?_; rintro en wy ⟨⟨v2, rfl⟩, hby⟩))
    rename_i hH
    have HB3 := Lib.hid (blt HB2.out hH.1)
    clear hH z0 z1 z2 z3 z4 u0 u1 u2 u3
    have hw : (x1 = 0 ∧ x2 = 0) ∨ (x1 = 0 ∧ ¬ x2 = 0) ∨ ¬ x1 = 0 := by omega
    rcases hw with ⟨c1, c2⟩ | ⟨c1, c2⟩ | c1
    · have HY := Lib.hid (show R = true by rw [HX.out]; simp [c1, c2])
      subst c1 c2
      go_wp2
      go_ret
      exact ⟨by rw [HY.out]; rfl, HB3.out⟩
    · have HY := Lib.hid (show R = false by rw [HX.out]; simp [c2])
      subst c1
      go_wp2
      go_ret
      exact ⟨by rw [HY.out]; first | rfl | simp [c2], HB3.out⟩
    · have HY := Lib.hid (show R = false by rw [HX.out]; simp [c1])
      go_wp2
      go_ret
      exact ⟨by rw [HY.out]; first | rfl | simp [c1], HB3.out⟩
end Go.Proofs.Tt

namespace Go.Proofs.Tt
open Go Go.Proofs
open Go.RowKit Go.Maps
set_option maxRecDepth 1000000

/-- starts of the trip's other frequencies, and whether one meets it -/
def inGo (f : FrqD) : Int × Bool → List FrqD → Int × Bool
  | acc, [] => acc
  | acc, g :: r => if g.trip = f.trip then inGo f (acc.1 + cntS g, acc.2 || (decide (g.fr < f.to_) && decide (f.fr < g.to_))) r else inGo f acc r
def frqE (T : List TripD) (p : List FrqD) (f : FrqD) : Int :=
  if f.trip < 0 then 9 else if (T.length : Int) ≤ f.trip then 9 else if ¬ soundS f then 10 else if fitsS (tripAtD T f.trip) f = false then 10
  else if 256 < (inGo f (cntS f, false) p).1 then 17 else if (inGo f (cntS f, false) p).2 = true then 8 else 0
def frqGo (T : List TripD) (l : List FrqD) : Nat → List FrqD → Int × Int
  | _, [] => (0, 0)
  | k, s :: r => if frqE T (l.take k) s ≠ 0 then (k, frqE T (l.take k) s) else frqGo T l (k + 1) r
def frqRes (T : List TripD) (l : List FrqD) : Int × Int := if 64 < l.length then (0, 5) else frqGo T l 0 l
theorem frqE_sound {T : List TripD} {p : List FrqD} {f : FrqD} (h : frqE T p f = 0) : soundS f := by
  unfold frqE at h
  repeat' split at h
  all_goals first | (cases h; done) | (rename_i q _ _ _; exact Decidable.not_not.1 q)

set_option maxHeartbeats 3200000 in
theorem frq31 (a ta : Option Addr) (cap tc : Nat) (l : List FrqD) (T : List TripD) (w : World) (hr : RowsAt w a 4 (l.map FrqD.row)) (hl : l.length ≤ cap) (hl2 : l.length < 1000000)
    (ht : RowsAt w ta 5 (T.map TripD.row)) (htc : ∀ s ∈ T, RowsAt w s.a 5 (s.calls.map CallD.row) ∧ s.calls.length < 1000000) (hday : ∀ s ∈ T, ∀ c ∈ s.calls, dayT c.arr ∧ dayT c.dep) (htl : T.length < 1000000) :
    Calls Tryz.prog 31 #[.slice a l.length cap, .slice ta T.length tc] w fun e w' => e = .returned (.tuple #[.int .i64 (frqRes T l).1, .int .i64 (frqRes T l).2]) ∧ Below w.heap.size w w' := by
  by_cases h64 : 64 < l.length
  · have HR := Lib.hid (show frqRes T l = (0, 5) by unfold frqRes; rw [if_pos h64])
    have h64' : (64 : Int) < (l.length : Int) := by omega
    clear hr ht htc hday
    go_enter Tryz.func31, Tryz.ntmps31
    go_wp2
    go_ret2
    exact ⟨by rw [HR.out]; rfl, Below.refl _ _⟩
  · have h64' : ¬ (64 : Int) < (l.length : Int) := by omega
    obtain ⟨R, hR⟩ : ∃ R, frqRes T l = R := ⟨_, rfl⟩
    rw [hR]
    have HR := Lib.hid (show frqGo T l 0 l = R by rw [← hR]; unfold frqRes; rw [if_neg h64])
    have HRW := Lib.hid hr
    have HT := Lib.hid ht
    have HTC := Lib.hid htc
    have HDAY := Lib.hid hday
    clear hR hr ht htc hday
    go_enter Tryz.func31, Tryz.ntmps31
    go_wp2
    go_loopw [17] (fun i wr => ∃ (k : Nat), k ≤ l.length ∧ i = .int .i64 k ∧ (∀ s ∈ l.take k, soundS s) ∧ frqGo T l k (l.drop k) = R ∧ Below w.heap.size w wr) (fun i _ => l.length - (intOf i).toNat)
    case atStart => exact ⟨0, Nat.zero_le _, rfl, (fun s hs => by simp at hs), HR.out, Below.refl _ _⟩
    case round =>
      obtain ⟨k, hk, rfl, hsnd, hv, hbel⟩ := hrel
      by_cases hlt : k < l.length
      · have hlt' : (k : Int) < (l.length : Int) := by omega
        obtain ⟨s, hs⟩ : ∃ s, l[k]? = some s := ⟨l[k], List.getElem?_eq_getElem hlt⟩
        have hdrop : l.drop k = s :: l.drop (k + 1) := by
          rw [List.drop_eq_getElem_cons hlt]
          rw [List.getElem?_eq_getElem hlt] at hs
          cases hs; rfl
        obtain ⟨g, off, ha, hg, hc⟩ := HRW.out k _ (by rw [List.getElem?_map, hs]; rfl)
        subst ha
        rw [hdrop, frqGo] at hv
        have c0 : wr.cell? ⟨g, off + k * 4, none⟩ = some (.int .i64 s.trip) := keepC hbel hg (hc 0 _ rfl)
        have c1 : wr.cell? ⟨g, off + k * 4 + 1, none⟩ = some (.int .i64 s.fr) := keepC hbel hg (hc 1 _ rfl)
        have c2 : wr.cell? ⟨g, off + k * 4 + 2, none⟩ = some (.int .i64 s.to_) := keepC hbel hg (hc 2 _ rfl)
        have c3 : wr.cell? ⟨g, off + k * 4 + 3, none⟩ = some (.int .i64 s.ev) := keepC hbel hg (hc 3 _ rfl)
        have HS := Lib.hid hs
        have HV := Lib.hid hv
        have HSND := Lib.hid hsnd
        obtain ⟨tr, fr, to_, ev⟩ := s
        simp only at c0 c1 c2 c3
        obtain ⟨W0, hW0⟩ : ∃ W0, wr.alloc (Obj.cells #[.int .i64 tr, .int .i64 fr, .int .i64 to_, .int .i64 ev] 123) = W0 := ⟨_, rfl⟩
        have HB0 := Lib.hid (show Below w.heap.size w W0 by rw [← hW0]; exact blA hbel _)
        have hbx : wr.heap.size < W0.heap.size := by rw [← hW0]; simp
        have x0 : W0.cell? ⟨wr.heap.size, 0, none⟩ = some (.int .i64 tr) := by rw [← hW0]; exact boxC _ _ _ 0 _ rfl
        have x1 : W0.cell? ⟨wr.heap.size, 1, none⟩ = some (.int .i64 fr) := by rw [← hW0]; exact boxC _ _ _ 1 _ rfl
        have x2 : W0.cell? ⟨wr.heap.size, 2, none⟩ = some (.int .i64 to_) := by rw [← hW0]; exact boxC _ _ _ 2 _ rfl
        have x3 : W0.cell? ⟨wr.heap.size, 3, none⟩ = some (.int .i64 ev) := by rw [← hW0]; exact boxC _ _ _ 3 _ rfl
        have HW0 := Lib.hid hW0
        have HVE := Lib.hid (fun e (h : frqE T (l.take k) ⟨tr, fr, to_, ev⟩ = e) (h0 : e ≠ 0) => (show R = ((k : Int), e) by rw [← HV.out, if_pos (by rw [h]; exact h0), h]))
        have HVN := Lib.hid (fun (h : frqE T (l.take k) ⟨tr, fr, to_, ev⟩ = 0) => (show frqGo T l (k + 1) (l.drop (k + 1)) = R by rw [← HV.out, if_neg (by rw [h]; simp)]))
        have hgw : g < wr.heap.size := Nat.lt_of_lt_of_le hg hbel.size
        clear hs hdrop hc hv hbel hW0 hsnd
        go_upto_region 6 with (fail)
        rw [HW0.out]
        clear c0 c1 c2 c3
        have hways : tr < 0 ∨ (¬ tr < 0 ∧ (T.length : Int) ≤ tr) ∨ (¬ tr < 0 ∧ ¬ (T.length : Int) ≤ tr) := by omega
        rcases hways with z1 | ⟨z1, z2⟩ | ⟨z1, z2⟩
        · have HX := Lib.hid (HVE.out 9 (by unfold frqE; rw [if_pos z1]) (by decide))
          go_wp2
          go_ret2
          exact ⟨by rw [HX.out]; rfl, HB0.out⟩
        · have HX := Lib.hid (HVE.out 9 (by unfold frqE; rw [if_neg z1, if_pos z2]) (by decide))
          go_wp2
          go_ret2
          exact ⟨by rw [HX.out]; rfl, HB0.out⟩
        · obtain ⟨i0, rfl⟩ : ∃ i0 : Nat, tr = i0 := ⟨tr.toNat, by omega⟩
          have HE : frqE T (l.take k) ⟨i0, fr, to_, ev⟩ = if ¬ soundS ⟨i0, fr, to_, ev⟩ then 10 else if fitsS (tripAtD T i0) ⟨i0, fr, to_, ev⟩ = false then 10 else if 256 < (inGo ⟨i0, fr, to_, ev⟩ (cntS ⟨i0, fr, to_, ev⟩, false) (l.take k)).1 then 17 else if (inGo ⟨i0, fr, to_, ev⟩ (cntS ⟨i0, fr, to_, ev⟩, false) (l.take k)).2 = true then 8 else 0 := by unfold frqE; rw [if_neg z1, if_neg z2]
          have HE1 := Lib.hid HE
          have HSO := Lib.hid (fun wx => sound60 ⟨i0, fr, to_, ev⟩ wx)
          dsimp only [FrqD.val] at HSO
          clear HE
          go_upto_region 8 with (fail)
          by_cases hso : soundS ⟨i0, fr, to_, ev⟩
          · rw [decide_eq_true hso] at HSO
            obtain ⟨x, hx⟩ : ∃ x, T[i0]? = some x := ⟨_, List.getElem?_eq_getElem (by omega)⟩
            have ex : tripAtD T (i0 : Int) = x := by simp [tripAtD, hx]
            obtain ⟨gt, ft, hta, hgt, hxa⟩ := tripAt HT.out hx
            subst hta
            obtain ⟨p0, p1, p2, p3, p4⟩ := hxa.keep hgt HB0.out
            obtain ⟨hx1, hx2⟩ := HTC.out x (List.mem_of_getElem? hx)
            have hx3 := HDAY.out x (List.mem_of_getElem? hx)
            have HFI := Lib.hid (fun wx (h : Below W0.heap.size W0 wx) => fits61 x ⟨i0, fr, to_, ev⟩ wx (hx1.below (HB0.out.trans (h.mono HB0.out.size))) hx2 hx3 hso)
            have HE2 := HE1.out
            rw [ex, if_neg (by simpa using hso)] at HE2
            obtain ⟨b, hb⟩ : ∃ b, fitsS x ⟨i0, fr, to_, ev⟩ = b := ⟨_, rfl⟩
            simp only [hb] at HFI
            rw [hb] at HE2
            dsimp only [FrqD.val, TripD.val] at HFI
            have HE3 := Lib.hid HE2
            have HCO := Lib.hid (fun wx => count62 ⟨i0, fr, to_, ev⟩ wx hso)
            dsimp only [FrqD.val] at HCO
            have HSD := Lib.hid hso
            have hgt2 : gt < W0.heap.size := Nat.lt_of_lt_of_le hgt HB0.out.size
            have i1 : (i0 : Int) < (T.length : Int) := by omega
            have i2 : i0 < T.length := by omega
            obtain ⟨xi, xr, xc, xf, xa, xp, xl⟩ := x
            simp only at p0 p1 p2 p3 p4 HFI
            clear hx ex hxa hx1 hx2 hx3 HE2 hb hso
            go_region_held3 (fun wx => KS W0 wx)
              (first | assumption | (exact KS.mk' (bl0 _)) | (exact KS.mk' (blD (bl0 _))) | (exact KS.step (by assumption) (by assumption)))
              (first | (go_at_call 60; refine (HSO.out _).mono ?_; rintro en wx ⟨rfl, hbc⟩) | (go_at_call 61; refine (HFI.out _ (And.left (by assumption))).mono ?_; rintro en wy ⟨rfl, hby⟩))
            rename_i hH
            have v0 : wy.cell? ⟨wr.heap.size, 0, none⟩ = some (.int .i64 (i0 : Int)) := keepC hH.1 hbx x0
            have v1 : wy.cell? ⟨wr.heap.size, 1, none⟩ = some (.int .i64 fr) := keepC hH.1 hbx x1
            have v2 : wy.cell? ⟨wr.heap.size, 2, none⟩ = some (.int .i64 to_) := keepC hH.1 hbx x2
            have v3 : wy.cell? ⟨wr.heap.size, 3, none⟩ = some (.int .i64 ev) := keepC hH.1 hbx x3
            have hbx3 : wr.heap.size < wy.heap.size := Nat.lt_of_lt_of_le hbx hH.1.size
            have HB3 := Lib.hid (blt HB0.out (hH.1.mono (Nat.le_refl _)))
            clear x0 x1 x2 x3 p0 p1 p2 p3 p4 hgt2 hH
            cases b
            · have HX := Lib.hid (HVE.out 10 (by rw [HE3.out, if_pos rfl]) (by decide))
              go_wp2
              go_ret2
              exact ⟨by rw [HX.out]; rfl, HB3.out⟩
            · have HE4 := Lib.hid (HE3.out.trans (if_neg (by simp)))
              obtain ⟨q, hq⟩ : ∃ q, cntS ⟨i0, fr, to_, ev⟩ = q := ⟨_, rfl⟩
              have hqb := cnt_bounds _ HSD.out
              rw [hq] at hqb
              obtain ⟨qb1, qb2, -, -⟩ := hqb
              rw [hq] at HE4
              simp only [hq] at HCO
              have hkc : k ≤ cap := by omega
              have hkc' : (k : Int) ≤ (cap : Int) := by omega
              clear hq
              go_upto_region 11 with ((go_at_call 62; refine (HCO.out _).mono ?_; rintro en wz ⟨rfl, hbz⟩))
              have u0 : wz.cell? ⟨wr.heap.size, 0, none⟩ = some (.int .i64 (i0 : Int)) := keepC hbz hbx3 v0
              have u1 : wz.cell? ⟨wr.heap.size, 1, none⟩ = some (.int .i64 fr) := keepC hbz hbx3 v1
              have u2 : wz.cell? ⟨wr.heap.size, 2, none⟩ = some (.int .i64 to_) := keepC hbz hbx3 v2
              have hbx4 : wr.heap.size < wz.heap.size := Nat.lt_of_lt_of_le hbx3 hbz.size
              have HB4 := Lib.hid (blt HB3.out (hbz.mono (Nat.le_refl _)))
              clear v0 v1 v2 v3 hbz
              obtain ⟨N, M, hin⟩ : ∃ N M, inGo ⟨i0, fr, to_, ev⟩ (q, false) (l.take k) = (N, M) := ⟨_, _, rfl⟩
              have HIN := Lib.hid hin
              clear hin
              go_wp2
              obtain ⟨Bx, hBx⟩ : ∃ Bx, wr.heap.size = Bx := ⟨_, rfl⟩
              rw [hBx] at hbx4 u0 u1 u2 ⊢
              clear hBx HW0 hbx3 hbx hgw
              go_loopw [8, 9, 53] (fun n m i wi => ∃ (j : Nat) (nn : Int) (mm : Bool), j ≤ k ∧ i = .int .i64 j ∧ n = .int .i64 nn ∧ m = .bool mm ∧ 0 ≤ nn ∧ nn ≤ 172800 * (j + 1) ∧ inGo ⟨i0, fr, to_, ev⟩ (nn, mm) ((l.take k).drop j) = (N, M) ∧ Below wz.heap.size wz wi) (fun _ _ i _ => k - (intOf i).toNat)
              case atStart => exact ⟨0, q, false, Nat.zero_le _, rfl, rfl, rfl, by omega, by omega, HIN.out, bl0 _⟩
              case round =>
                obtain ⟨j, nn, mm, hj, rfl, rfl, rfl, hn0, hn1, hiv, hib⟩ := hrel
                have w0 : wr.cell? ⟨Bx, 0, none⟩ = some (.int .i64 (i0 : Int)) := keepC hib hbx4 u0
                have w1 : wr.cell? ⟨Bx, 1, none⟩ = some (.int .i64 fr) := keepC hib hbx4 u1
                have w2 : wr.cell? ⟨Bx, 2, none⟩ = some (.int .i64 to_) := keepC hib hbx4 u2
                have HIB := Lib.hid hib
                have HB5 := Lib.hid (blt HB4.out (hib.mono (Nat.le_refl _)))
                have hbx5 : Bx < wr.heap.size := Nat.lt_of_lt_of_le hbx4 hib.size
                have HIV := Lib.hid hiv
                clear u0 u1 u2 hib hiv
                by_cases hjk : j < k
                · have hjk' : (j : Int) < (k : Int) := by omega
                  obtain ⟨s, hs⟩ : ∃ s, (l.take k)[j]? = some s := ⟨_, List.getElem?_eq_getElem (by simp; omega)⟩
                  have hdr : (l.take k).drop j = s :: (l.take k).drop (j + 1) := by
                    rw [List.drop_eq_getElem_cons (by simp; omega)]
                    rw [List.getElem?_eq_getElem (by simp; omega)] at hs
                    cases hs; rfl
                  have hsl : l[j]? = some s := by rw [List.getElem?_take] at hs; split at hs <;> simp_all
                  have hso := HSND.out s (List.mem_of_getElem? hs)
                  have hcq := cnt_bounds s hso
                  have HCG := Lib.hid (fun wx => count62 s wx hso)
                  have hV := HIV.out
                  rw [hdr, inGo] at hV
                  obtain ⟨g', off', ha, -, hc⟩ := HRW.out j _ (by rw [List.getElem?_map, hsl]; rfl)
                  cases ha
                  have c0 : wr.cell? ⟨g, off + j * 4, none⟩ = some (.int .i64 s.trip) := keepC HB5.out hg (hc 0 _ rfl)
                  have c1 : wr.cell? ⟨g, off + j * 4 + 1, none⟩ = some (.int .i64 s.fr) := keepC HB5.out hg (hc 1 _ rfl)
                  have c2 : wr.cell? ⟨g, off + j * 4 + 2, none⟩ = some (.int .i64 s.to_) := keepC HB5.out hg (hc 2 _ rfl)
                  have c3 : wr.cell? ⟨g, off + j * 4 + 3, none⟩ = some (.int .i64 s.ev) := keepC HB5.out hg (hc 3 _ rfl)
                  obtain ⟨q', hq'⟩ : ∃ q', cntS s = q' := ⟨_, rfl⟩
                  rw [hq'] at hV hcq
                  simp only [hq'] at HCG
                  obtain ⟨cq1, cq2, -, -⟩ := hcq
                  obtain ⟨gtr, gfr, gto, gev⟩ := s
                  dsimp only [FrqD.val] at c0 c1 c2 c3 HCG hV
                  have hn2 : nn ≤ 20000000 := by omega
                  have hgw2 : g < wr.heap.size := Nat.lt_of_lt_of_le hg HB5.out.size
                  clear hs hdr hsl hso hc hq'
                  obtain ⟨W5, hW5⟩ : ∃ W5, wr.alloc (Obj.cells #[.int .i64 gtr, .int .i64 gfr, .int .i64 gto, .int .i64 gev] 123) = W5 := ⟨_, rfl⟩
                  have HB6 := Lib.hid (show Below wz.heap.size wz W5 by rw [← hW5]; exact blA HIB.out _)
                  have hbb : wr.heap.size < W5.heap.size := by rw [← hW5]; simp
                  have d0 : W5.cell? ⟨wr.heap.size, 0, none⟩ = some (.int .i64 gtr) := by rw [← hW5]; exact boxC _ _ _ 0 _ rfl
                  have d1 : W5.cell? ⟨wr.heap.size, 1, none⟩ = some (.int .i64 gfr) := by rw [← hW5]; exact boxC _ _ _ 1 _ rfl
                  have d2 : W5.cell? ⟨wr.heap.size, 2, none⟩ = some (.int .i64 gto) := by rw [← hW5]; exact boxC _ _ _ 2 _ rfl
                  have d3 : W5.cell? ⟨wr.heap.size, 3, none⟩ = some (.int .i64 gev) := by rw [← hW5]; exact boxC _ _ _ 3 _ rfl
                  have e0 : W5.cell? ⟨Bx, 0, none⟩ = some (.int .i64 (i0 : Int)) := by rw [← hW5]; exact keepC (blA (bl0 _) _) hbx5 w0
                  have e1 : W5.cell? ⟨Bx, 1, none⟩ = some (.int .i64 fr) := by rw [← hW5]; exact keepC (blA (bl0 _) _) hbx5 w1
                  have e2 : W5.cell? ⟨Bx, 2, none⟩ = some (.int .i64 to_) := by rw [← hW5]; exact keepC (blA (bl0 _) _) hbx5 w2
                  have hbx6 : Bx < W5.heap.size := by omega
                  have HW5 := Lib.hid hW5
                  clear hW5
                  go_upto_region 14 with (fail)
                  rw [HW5.out]
                  clear c0 c1 c2 c3 w0 w1 w2
                  by_cases hgt : gtr = (i0 : Int)
                  · rw [if_pos hgt] at hV
                    have HV2 := Lib.hid hV
                    subst hgt
                    clear hV
                    go_upto_region 16 with ((go_at_call 62; refine (HCG.out _).mono ?_; rintro en w6 ⟨rfl, hb6⟩))
                    have f1 : w6.cell? ⟨wr.heap.size, 1, none⟩ = some (.int .i64 gfr) := keepC hb6 hbb d1
                    have f2 : w6.cell? ⟨wr.heap.size, 2, none⟩ = some (.int .i64 gto) := keepC hb6 hbb d2
                    have f3 : w6.cell? ⟨Bx, 1, none⟩ = some (.int .i64 fr) := keepC hb6 hbx6 e1
                    have f4 : w6.cell? ⟨Bx, 2, none⟩ = some (.int .i64 to_) := keepC hb6 hbx6 e2
                    have HB7 := Lib.hid (blt HB6.out (hb6.mono (Nat.le_refl _)))
                    clear hb6 d0 d1 d2 d3 e0 e1 e2
                    have hways : (mm = true) ∨ (mm = false ∧ ¬ gfr < to_) ∨ (mm = false ∧ gfr < to_ ∧ fr < gto) ∨ (mm = false ∧ gfr < to_ ∧ ¬ fr < gto) := by cases mm <;> simp <;> omega
                    rcases hways with z1 | ⟨z1, z2⟩ | ⟨z1, z2, z3⟩ | ⟨z1, z2, z3⟩
                    · subst z1
                      have HX := Lib.hid (show inGo ⟨i0, fr, to_, ev⟩ (nn + q', true) ((l.take k).drop (j + 1)) = (N, M) by have := HV2.out; simpa using this)
                      go_wp2
                      go_roundw
                      case rel => exact ⟨j + 1, nn + q', true, by omega, by go_num, rfl, rfl, by omega, by push_cast; omega, HX.out, HB7.out⟩
                      case measure => simp [intOf]; omega
                    · subst z1
                      have HX := Lib.hid (show inGo ⟨i0, fr, to_, ev⟩ (nn + q', false) ((l.take k).drop (j + 1)) = (N, M) by have := HV2.out; simpa [z2] using this)
                      go_wp2
                      go_roundw
                      case rel => exact ⟨j + 1, nn + q', false, by omega, by go_num, rfl, rfl, by omega, by push_cast; omega, HX.out, HB7.out⟩
                      case measure => simp [intOf]; omega
                    · subst z1
                      have HX := Lib.hid (show inGo ⟨i0, fr, to_, ev⟩ (nn + q', true) ((l.take k).drop (j + 1)) = (N, M) by have := HV2.out; simpa [z2, z3] using this)
                      go_wp2
                      go_roundw
                      case rel => exact ⟨j + 1, nn + q', true, by omega, by go_num, rfl, rfl, by omega, by push_cast; omega, HX.out, HB7.out⟩
                      case measure => simp [intOf]; omega
                    · subst z1
                      have HX := Lib.hid (show inGo ⟨i0, fr, to_, ev⟩ (nn + q', false) ((l.take k).drop (j + 1)) = (N, M) by have := HV2.out; simpa [z2, z3] using this)
                      go_wp2
                      go_roundw
                      case rel => exact ⟨j + 1, nn + q', false, by omega, by go_num, rfl, rfl, by omega, by push_cast; omega, HX.out, HB7.out⟩
                      case measure => simp [intOf]; omega
                  · rw [if_neg hgt] at hV
                    have HV2 := Lib.hid hV
                    clear hV
                    go_wp2
                    go_roundw
                    case rel => exact ⟨j + 1, nn, mm, by omega, by go_num, rfl, rfl, by omega, by push_cast; omega, HV2.out, HB6.out⟩
                    case measure => simp [intOf]; omega
                · have hjk' : ¬ (j : Int) < (k : Int) := by omega
                  have hE := HIV.out
                  rw [List.drop_of_length_le (by simp; omega), inGo] at hE
                  obtain ⟨rfl, rfl⟩ : nn = N ∧ mm = M := by cases hE; exact ⟨rfl, rfl⟩
                  clear hE
                  clear w0 w1 w2
                  have hways : (256 < nn) ∨ (¬ 256 < nn ∧ mm = true) ∨ (¬ 256 < nn ∧ mm = false) := by cases mm <;> simp <;> omega
                  rcases hways with z1 | ⟨z1, z2⟩ | ⟨z1, z2⟩
                  · have HX := Lib.hid (HVE.out 17 (by rw [HE4.out, HIN.out, if_pos z1]) (by decide))
                    go_wp2
                    go_ret2
                    exact ⟨by rw [HX.out]; rfl, HB5.out⟩
                  · have HX := Lib.hid (HVE.out 8 (by rw [HE4.out, HIN.out, if_neg z1, if_pos z2]) (by decide))
                    subst z2
                    go_wp2
                    go_ret2
                    exact ⟨by rw [HX.out]; rfl, HB5.out⟩
                  · have HX := Lib.hid (HVN.out (by rw [HE4.out, HIN.out, if_neg z1, if_neg (by simp [z2])]))
                    subst z2
                    go_wp2
                    go_roundw
                    case rel => exact ⟨k + 1, by omega, by go_num, (fun s hs => by rw [List.take_add_one, HS.out] at hs; rcases List.mem_append.1 hs with h | h; exact HSND.out s h; simp at h; subst h; exact HSD.out), HX.out, HB5.out⟩
                    case measure => simp [intOf]; omega
          · have HX := Lib.hid (HVE.out 10 (by rw [HE1.out, if_pos hso]) (by decide))
            rw [decide_eq_false hso] at HSO
            have HN := Lib.hid hso
            clear hso
            refine wp_region_held_drew (S := fun wx => KS W0 wx) (by kernel_rfl) (KS.mk' (blD (bl0 _))) (fun hHeld => ?_)
            refine wpAnyH_take (i := 0) (v := .agg #[.int .i64 i0, .int .i64 fr, .int .i64 to_, .int .i64 ev]) rfl (by kernel_rfl) (by kernel_rfl) (by kernel_rfl) (fun _ _ _ h => h) (Or.inl ⟨by rfl, ?_⟩) hHeld ?_
            · intro w hSw
              obtain ⟨-, hSw⟩ := hSw
              go_simp
            try simp only [Act.put, List.getElem_toArray, List.getElem_cons_succ, List.getElem_cons_zero, List.setIfInBounds_toArray, List.set_cons_zero, List.set_cons_succ]
            refine wpAnyH_ready (rs := [1]) (by kernel_rfl) (by simp) ?_
            refine AllReadyH.cons rfl (fun K hK => ?_) AllReadyH.nil
            go_simp
            refine (HSO.out _).mono ?_
            rintro en wx ⟨rfl, hbx⟩
            have hH : KS W0 wx := KS.step hHeld hbx
            refine hK.out _ _ hH (fun _ => ?_)
            clear hK K
            try simp only [Act.put, List.getElem_toArray, List.getElem_cons_succ, List.getElem_cons_zero, List.setIfInBounds_toArray, List.set_cons_zero, List.set_cons_succ]
            refine wpAnyH_take (i := 2) (v := .bool true) rfl (by kernel_rfl) (by kernel_rfl) (by kernel_rfl) (fun _ _ _ h => h) (Or.inl ⟨by rfl, ?_⟩) hH ?_
            · intro w _; clear hHeld hbx hH; go_simp
            try simp only [Act.put, List.getElem_toArray, List.getElem_cons_succ, List.getElem_cons_zero, List.setIfInBounds_toArray, List.set_cons_zero, List.set_cons_succ]
            refine wpAnyH_take (i := 3) (v := .bool true) rfl (by kernel_rfl) (by kernel_rfl) (by kernel_rfl) (fun _ _ _ h => h) (Or.inl ⟨by rfl, ?_⟩) hH ?_
            · intro w _; clear hHeld hbx hH; go_simp
            try simp only [Act.put, List.getElem_toArray, List.getElem_cons_succ, List.getElem_cons_zero, List.setIfInBounds_toArray, List.set_cons_zero, List.set_cons_succ]
            refine wpAnyH_take (i := 4) (v := undef) rfl (by kernel_rfl) (by kernel_rfl) (by kernel_rfl) (fun _ _ _ h => h) (Or.inr ⟨by kernel_rfl, rfl⟩) hH ?_
            try simp only [Act.put, List.getElem_toArray, List.getElem_cons_succ, List.getElem_cons_zero, List.setIfInBounds_toArray, List.set_cons_zero, List.set_cons_succ]
            refine wpAnyH_take (i := 5) (v := undef) rfl (by kernel_rfl) (by kernel_rfl) (by kernel_rfl) (fun _ _ _ h => h) (Or.inr ⟨by kernel_rfl, rfl⟩) hH ?_
            try simp only [Act.put, List.getElem_toArray, List.getElem_cons_succ, List.getElem_cons_zero, List.setIfInBounds_toArray, List.set_cons_zero, List.set_cons_succ]
            refine wpAnyH_take (i := 6) (v := undef) rfl (by kernel_rfl) (by kernel_rfl) (by kernel_rfl) (fun _ _ _ h => h) (Or.inr ⟨by kernel_rfl, rfl⟩) hH ?_
            try simp only [Act.put, List.getElem_toArray, List.getElem_cons_succ, List.getElem_cons_zero, List.setIfInBounds_toArray, List.set_cons_zero, List.set_cons_succ]
            refine wpAnyH_take (i := 7) (v := undef) rfl (by kernel_rfl) (by kernel_rfl) (by kernel_rfl) (fun _ _ _ h => h) (Or.inr ⟨by kernel_rfl, rfl⟩) hH ?_
            try simp only [Act.put, List.getElem_toArray, List.getElem_cons_succ, List.getElem_cons_zero, List.setIfInBounds_toArray, List.set_cons_zero, List.set_cons_succ]
            refine wpAnyH_take (i := 8) (v := undef) rfl (by kernel_rfl) (by kernel_rfl) (by kernel_rfl) (fun _ _ _ h => h) (Or.inr ⟨by kernel_rfl, rfl⟩) hH ?_
            try simp only [Act.put, List.getElem_toArray, List.getElem_cons_succ, List.getElem_cons_zero, List.setIfInBounds_toArray, List.set_cons_zero, List.set_cons_succ]
            refine wpAnyH_take (i := 9) (v := undef) rfl (by kernel_rfl) (by kernel_rfl) (by kernel_rfl) (fun _ _ _ h => h) (Or.inr ⟨by kernel_rfl, rfl⟩) hH ?_
            try simp only [Act.put, List.getElem_toArray, List.getElem_cons_succ, List.getElem_cons_zero, List.setIfInBounds_toArray, List.set_cons_zero, List.set_cons_succ]
            refine wpAnyH_take (i := 10) (v := undef) rfl (by kernel_rfl) (by kernel_rfl) (by kernel_rfl) (fun _ _ _ h => h) (Or.inr ⟨by kernel_rfl, rfl⟩) hH ?_
            try simp only [Act.put, List.getElem_toArray, List.getElem_cons_succ, List.getElem_cons_zero, List.setIfInBounds_toArray, List.set_cons_zero, List.set_cons_succ]
            refine wpAnyH_take (i := 11) (v := undef) rfl (by kernel_rfl) (by kernel_rfl) (by kernel_rfl) (fun _ _ _ h => h) (Or.inr ⟨by kernel_rfl, rfl⟩) hH ?_
            try simp only [Act.put, List.getElem_toArray, List.getElem_cons_succ, List.getElem_cons_zero, List.setIfInBounds_toArray, List.set_cons_zero, List.set_cons_succ]
            refine wpAnyH_take (i := 12) (v := .bool true) rfl (by kernel_rfl) (by kernel_rfl) (by kernel_rfl) (fun _ _ _ h => h) (Or.inl ⟨by rfl, ?_⟩) hH ?_
            · intro w _; clear hHeld hbx hH; go_simp
            try simp only [Act.put, List.getElem_toArray, List.getElem_cons_succ, List.getElem_cons_zero, List.setIfInBounds_toArray, List.set_cons_zero, List.set_cons_succ]
            refine wpAnyH_done (by kernel_rfl) ?_ _
            have HB3 := Lib.hid (blt HB0.out hH.1)
            clear hH hHeld hbx
            go_wp2
            go_ret2
            exact ⟨by rw [HX.out]; rfl, HB3.out⟩
      · have hlt' : ¬ (k : Int) < (l.length : Int) := by omega
        rw [List.drop_of_length_le (by omega)] at hv
        have HE := Lib.hid hv
        have HB := Lib.hid hbel
        clear hv hbel hsnd
        go_wp2
        go_ret2
        exact ⟨by rw [← HE.out]; rfl, HB.out⟩
end Go.Proofs.Tt
