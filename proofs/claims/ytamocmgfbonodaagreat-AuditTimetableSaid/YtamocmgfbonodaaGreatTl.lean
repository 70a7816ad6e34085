/-
  A part of the proof: lemmas of my own.
-/
import Derived.Test.YtamocmgfbonodaaGreatTi
import Derived.Deep.Cut
set_option linter.unusedVariables false
set_option linter.unusedSimpArgs false
namespace Go.Proofs.Tt
open Go Go.Proofs
open Go.RowKit Go.Maps
set_option maxRecDepth 1000000

/-- two calls in boxes of their own -/
def TwoS (c d : CallD) (W0 : World) (s6 s7 : Value) (wx : World) : Prop := ∃ B6 B7, s6 = .pointer (some ⟨B6, 0, none⟩) ∧ s7 = .pointer (some ⟨B7, 0, none⟩) ∧ CallAt wx B6 0 c ∧ CallAt wx B7 0 d ∧ B6 < wx.heap.size ∧ B7 < wx.heap.size ∧ Below W0.heap.size W0 wx
theorem callBox (w : World) (c : CallD) : CallAt (w.alloc (Obj.cells #[.int .i64 c.stop, .int .i64 c.arr, .int .i64 c.dep, .bool c.board, .bool c.alight] 49)) w.heap.size 0 c :=
  ⟨boxC _ _ _ 0 _ rfl, boxC _ _ _ 1 _ rfl, boxC _ _ _ 2 _ rfl, boxC _ _ _ 3 _ rfl, boxC _ _ _ 4 _ rfl⟩
theorem tw1 (c d : CallD) (w : World) : TwoS c d w (.pointer (some ⟨w.heap.size, 0, none⟩)) (.pointer (some ⟨w.heap.size + 1, 0, none⟩)) ((w.alloc (Obj.cells #[.int .i64 c.stop, .int .i64 c.arr, .int .i64 c.dep, .bool c.board, .bool c.alight] 49)).alloc (Obj.cells #[.int .i64 d.stop, .int .i64 d.arr, .int .i64 d.dep, .bool d.board, .bool d.alight] 49)).drew :=
  ⟨w.heap.size, w.heap.size + 1, rfl, rfl, (callBox w c).keep (by simp) (blD (blA (bl0 _) _)), by have := callBox (w.alloc (Obj.cells #[.int .i64 c.stop, .int .i64 c.arr, .int .i64 c.dep, .bool c.board, .bool c.alight] 49)) d; simp only [World.size_alloc] at this; exact this.keep (by simp) (blD (bl0 _)), by simp; omega, by simp, blD (blA (blA (bl0 _) _) _)⟩
theorem TwoS.swap {c d : CallD} {w wx : World} {a b : Value} (h : TwoS c d w a b wx) : TwoS d c w b a wx := by
  obtain ⟨B6, B7, h1, h2, h3, h4, h5, h6, h7⟩ := h
  exact ⟨B7, B6, h2, h1, h4, h3, h6, h5, h7⟩

/-- calls of one pattern -/
def patGo : List CallD → List CallD → Bool
  | c :: l, d :: r => if c.stop ≠ d.stop then false else if c.board ≠ d.board then false else if c.alight ≠ d.alight then false else patGo l r
  | _, _ => true
def patS (A B : List CallD) : Bool := if A.length ≠ B.length then false else patGo A B

set_option maxHeartbeats 3200000 in
theorem pat89 (x y : TripD) (w : World) (ha : RowsAt w x.a 5 (x.calls.map CallD.row)) (hb : RowsAt w y.a 5 (y.calls.map CallD.row)) (hla : x.calls.length < 1000000) (hlb : y.calls.length < 1000000) :
    Calls Tryz.prog 89 #[x.val, y.val] w fun e w' => e = .returned (.bool (patS x.calls y.calls)) ∧ Below w.heap.size w w' := by
  obtain ⟨id, ro, cal, sf, a, cap, A⟩ := x
  obtain ⟨id', ro', cal', sf', b, cap', B⟩ := y
  simp only at ha hb hla hlb
  dsimp only [TripD.val]
  obtain ⟨R, hR⟩ : ∃ R, patS A B = R := ⟨_, rfl⟩
  rw [hR]
  unfold patS at hR
  by_cases h1 : A.length = B.length
  · rw [if_neg (by simp [h1])] at hR
    obtain ⟨n, hn⟩ : ∃ n, A.length = n := ⟨_, rfl⟩
    have hn' : B.length = n := by omega
    rw [hn, hn']
    rw [hn] at hla
    have HN := Lib.hid (And.intro hn hn')
    have HR := Lib.hid hR
    have HA := Lib.hid ha
    have HB := Lib.hid hb
    obtain ⟨W0, hW0⟩ : ∃ W0, (w.alloc (Obj.cells #[.string id, .int .i64 ro, .int .i64 cal, .bool sf, .slice a n cap] 43)).alloc (Obj.cells #[.string id', .int .i64 ro', .int .i64 cal', .bool sf', .slice b n cap'] 43) = W0 := ⟨_, rfl⟩
    have HB0 := Lib.hid (show Below w.heap.size w W0 by rw [← hW0]; exact blA (blA (bl0 _) _) _)
    have x4 : W0.cell? ⟨w.heap.size, 4, none⟩ = some (.slice a n cap) := by rw [← hW0]; exact keepC (blA (bl0 _) _) (by simp) (boxC _ _ _ 4 _ rfl)
    have y4 : W0.cell? ⟨w.heap.size + 1, 4, none⟩ = some (.slice b n cap') := by rw [← hW0]; have := boxC (w.alloc (Obj.cells #[.string id, .int .i64 ro, .int .i64 cal, .bool sf, .slice a n cap] 43)) #[.string id', .int .i64 ro', .int .i64 cal', .bool sf', .slice b n cap'] 43 4 _ rfl; simp
    have hs1 : w.heap.size + 1 < W0.heap.size := by rw [← hW0]; simp
    have hs0 : w.heap.size < W0.heap.size := by omega
    have HW0 := Lib.hid hW0
    clear hW0 h1 hn hn' hR ha hb
    go_enter Tryz.func89, Tryz.ntmps89
    go_upto_region 1 with (fail)
    rw [HW0.out]
    go_wp2
    have X4 := Lib.hid x4
    have Y4 := Lib.hid y4
    clear x4 y4
    go_loopw [18] (fun i wr => ∃ k : Nat, k ≤ n ∧ i = .int .i64 k ∧ patGo (A.drop k) (B.drop k) = R ∧ Below W0.heap.size W0 wr) (fun i _ => n - (intOf i).toNat)
    case atStart => exact ⟨0, Nat.zero_le _, rfl, HR.out, bl0 _⟩
    case round =>
      obtain ⟨k, hk, rfl, hv, hbel⟩ := hrel
      have HBW := Lib.hid (blt HB0.out hbel)
      by_cases hlt : k < n
      · have hlt' : (k : Int) < (n : Int) := by omega
        obtain ⟨c, hc⟩ : ∃ c, A[k]? = some c := ⟨_, List.getElem?_eq_getElem (by have := HN.out.1; omega)⟩
        obtain ⟨d, hd⟩ : ∃ d, B[k]? = some d := ⟨_, List.getElem?_eq_getElem (by have := HN.out.2; omega)⟩
        have hda : A.drop k = c :: A.drop (k + 1) := by
          rw [List.drop_eq_getElem_cons (by have := HN.out.1; omega)]
          rw [List.getElem?_eq_getElem (by have := HN.out.1; omega)] at hc
          cases hc; rfl
        have hdb : B.drop k = d :: B.drop (k + 1) := by
          rw [List.drop_eq_getElem_cons (by have := HN.out.2; omega)]
          rw [List.getElem?_eq_getElem (by have := HN.out.2; omega)] at hd
          cases hd; rfl
        rw [hda, hdb, patGo] at hv
        obtain ⟨g, f, ea, hg, hca⟩ := callAt HA.out hc
        obtain ⟨g', f', eb, hg', hcb⟩ := callAt HB.out hd
        subst ea eb
        have x4 := keepC hbel hs0 X4.out
        have y4 := keepC hbel hs1 Y4.out
        obtain ⟨p0, p1, p2, p3, p4⟩ := hca.keep hg HBW.out
        obtain ⟨q0, q1, q2, q3, q4⟩ := hcb.keep hg' HBW.out
        have hbb := hbel.size
        have r1 : w.heap.size + 1 < wr.heap.size := by omega
        have r0 : w.heap.size < wr.heap.size := by omega
        have r2 : g < wr.heap.size := by omega
        have r3 : g' < wr.heap.size := by omega
        have HV := Lib.hid hv
        have HBL := Lib.hid hbel
        clear hc hd hda hdb hca hcb hv hbel hbb
        go_upto_region 6 with (fail)
        go_cut [6, 7] from 21 to 31 (fun s6 s7 wx => TwoS c d wr s6 s7 wx)
        case first =>
          go_region_held3 (fun wx => KS wr wx)
            (first | assumption | (exact KS.mk' (blD (bl0 _))) | (exact KS.mk' (blD (blA (bl0 _) _))) | (exact KS.mk' (blD (blA (blA (bl0 _) _) _))) | (exact KS.step (by assumption) (blA (bl0 _) _)) | (exact KS.set (by assumption) (by simp <;> omega)))
            (first | fail)
          all_goals
            go_wp2
            go_meet
            case rel => first | exact tw1 _ _ _ | exact (tw1 _ _ _).swap
        case rest =>
          obtain ⟨B6, B7, rfl, rfl, u, v, hB6, hB7, hbc⟩ := hcut
          obtain ⟨u0, u1, u2, u3, u4⟩ := u
          obtain ⟨v0, v1, v2, v3, v4⟩ := v
          simp only [Nat.zero_add] at u0 u1 u2 u3 u4 v0 v1 v2 v3 v4
          have HBC := Lib.hid (blt HBL.out hbc)
          obtain ⟨st, ar, dp, bo, al⟩ := c
          obtain ⟨st', ar', dp', bo', al'⟩ := d
          simp only at u0 u1 u2 u3 u4 v0 v1 v2 v3 v4 HV
          clear p0 p1 p2 p3 p4 q0 q1 q2 q3 q4 x4 y4 hbc
          by_cases z1 : st = st'
          · subst z1
            cases bo <;> cases bo' <;> cases al <;> cases al'
            all_goals first
              | (have HX := Lib.hid (show R = false by have := HV.out; simpa using this.symm)
                 go_wp2
                 go_ret
                 exact ⟨by rw [HX.out]; rfl, blt HB0.out HBC.out⟩)
              | (have HX := Lib.hid (show patGo (A.drop (k + 1)) (B.drop (k + 1)) = R by have := HV.out; simpa using this)
                 go_wp2
                 go_roundw
                 case rel => exact ⟨k + 1, by omega, by go_num, HX.out, HBC.out⟩
                 case measure => simp [intOf]; omega)
          · have HX := Lib.hid (show R = false by rw [← HV.out, if_pos z1])
            have z2 : (st != st') = true := by simp [z1]
            go_wp2
            go_ret
            exact ⟨by rw [HX.out]; rfl, blt HB0.out HBC.out⟩
      · have hlt' : ¬ (k : Int) < (n : Int) := by omega
        rw [List.drop_of_length_le (by have := HN.out.1; omega), patGo] at hv
        · have HV := Lib.hid hv
          clear hv hbel
          go_wp2
          go_ret
          exact ⟨by rw [← HV.out]; rfl, HBW.out⟩
        · intro _ _ _ _ h; cases h
  · have HX := Lib.hid (show R = false by rw [← hR, if_pos h1])
    have h2 : ¬ (A.length : Int) = (B.length : Int) := by omega
    clear hR ha hb
    go_enter Tryz.func89, Tryz.ntmps89
    go_wp2
    go_ret
    exact ⟨by rw [HX.out]; rfl, blA (blA (bl0 _) _) _⟩
/-- behind the first call's arrivals, with later = x -/
def ovGo : Bool → List CallD → List CallD → Bool
  | x, c :: l, d :: r => if x = true ∧ c.arr < d.arr then true else if (x || decide (d.arr < c.arr)) = true ∧ c.dep < d.dep then true else ovGo ((x || decide (d.arr < c.arr)) || decide (d.dep < c.dep)) l r
  | _, _, _ => false
def ovS (A B : List CallD) : Bool := if patS A B = false then false else ovGo false A B
/-- within a call's two events -/
def ovJ (c d : CallD) (l r : List CallD) : Nat → Bool → Bool
  | 0, x => if x = true ∧ c.arr < d.arr then true else if (x || decide (d.arr < c.arr)) = true ∧ c.dep < d.dep then true else ovGo ((x || decide (d.arr < c.arr)) || decide (d.dep < c.dep)) l r
  | 1, x => if x = true ∧ c.dep < d.dep then true else ovGo (x || decide (d.dep < c.dep)) l r
  | _, x => ovGo x l r
theorem patS_len {A B : List CallD} (h : patS A B = true) : A.length = B.length := by
  unfold patS at h
  split at h
  · cases h
  · rename_i q; exact Decidable.not_not.1 q

theorem wpList_index_eq {P : Program} (w : World) {ops : Array Oper} {rest : List Oper} {o : Oper} {a : Act} {Q : Exit → Act → World → Prop} (hgd : o.guard = none) (T : TypeId) (x i : Operand)
    (ho : o.op = .index T x i) (v u r : Value) (hx : a.eval x = v) (hi : a.eval i = u) (hr : (Instr.index T v u).run P w = .ok r w) (h : wpList P ops Q rest (a.put o.dst r) w) : wpList P ops Q (o :: rest) a w := by
  refine wpList_plain hgd fun _ hK => ?_
  unfold Oper.wp
  simp [execOp, ho, hx, hi, hr, Result.andThen]
  exact hK _ _ h
theorem idx0 (a b c d : Value) (w : World) : (Instr.index 172 (.agg #[a, b, c, d]) (.int .i64 ((0 : Nat) : Int))).run Tryz.prog w = .ok (.agg #[a, b]) w := by kernel_rfl
theorem idx1 (a b c d : Value) (w : World) : (Instr.index 172 (.agg #[a, b, c, d]) (.int .i64 ((1 : Nat) : Int))).run Tryz.prog w = .ok (.agg #[c, d]) w := by kernel_rfl
set_option maxHeartbeats 3200000 in
theorem ov73 (x y : TripD) (w : World) (ha : RowsAt w x.a 5 (x.calls.map CallD.row)) (hb : RowsAt w y.a 5 (y.calls.map CallD.row)) (hla : x.calls.length < 1000000) (hlb : y.calls.length < 1000000) :
    Calls Tryz.prog 73 #[x.val, y.val] w fun e w' => e = .returned (.bool (ovS x.calls y.calls)) ∧ Below w.heap.size w w' := by
  have HP := Lib.hid (fun wx (h : Below w.heap.size w wx) => pat89 x y wx (ha.below h) (hb.below h) hla hlb)
  have hpl := @patS_len x.calls y.calls
  obtain ⟨R, hR⟩ : ∃ R, ovS x.calls y.calls = R := ⟨_, rfl⟩
  rw [hR]
  unfold ovS at hR
  obtain ⟨ps, hps⟩ : ∃ ps, patS x.calls y.calls = ps := ⟨_, rfl⟩
  rw [hps] at hR hpl
  simp only [hps] at HP
  obtain ⟨id, ro, cal, sf, a, cap, A⟩ := x
  obtain ⟨id', ro', cal', sf', b, cap', B⟩ := y
  simp only at ha hb hla hlb hpl hR
  dsimp only [TripD.val] at HP ⊢
  have HA := Lib.hid ha
  have HB := Lib.hid hb
  have HPL := Lib.hid hpl
  obtain ⟨n, hn⟩ : ∃ n, A.length = n := ⟨_, rfl⟩
  obtain ⟨m, hm⟩ : ∃ m, B.length = m := ⟨_, rfl⟩
  simp only [hn, hm] at HP ⊢
  rw [hn] at hla
  rw [hm] at hlb
  have HN := Lib.hid (And.intro hn hm)
  have HR := Lib.hid hR
  obtain ⟨W0, hW0⟩ : ∃ W0, (w.alloc (Obj.cells #[.string id, .int .i64 ro, .int .i64 cal, .bool sf, .slice a n cap] 43)).alloc (Obj.cells #[.string id', .int .i64 ro', .int .i64 cal', .bool sf', .slice b m cap'] 43) = W0 := ⟨_, rfl⟩
  have HB0 := Lib.hid (show Below w.heap.size w W0 by rw [← hW0]; exact blA (blA (bl0 _) _) _)
  have hx : ∀ k v, (#[Value.string id, .int .i64 ro, .int .i64 cal, .bool sf, .slice a n cap] : Array Value)[k]? = some v → W0.cell? ⟨w.heap.size, k, none⟩ = some v := fun k v hk => by rw [← hW0]; exact keepC (blA (bl0 _) _) (by simp) (boxC _ _ _ k _ hk)
  have hy : ∀ k v, (#[Value.string id', .int .i64 ro', .int .i64 cal', .bool sf', .slice b m cap'] : Array Value)[k]? = some v → W0.cell? ⟨w.heap.size + 1, k, none⟩ = some v := fun k v hk => by rw [← hW0]; have := boxC (w.alloc (Obj.cells #[.string id, .int .i64 ro, .int .i64 cal, .bool sf, .slice a n cap] 43)) #[.string id', .int .i64 ro', .int .i64 cal', .bool sf', .slice b m cap'] 43 k _ hk; simpa using this
  have x0 := hx 0 _ rfl
  have x1 := hx 1 _ rfl
  have x2 := hx 2 _ rfl
  have x3 := hx 3 _ rfl
  have x4 := hx 4 _ rfl
  have y0 := hy 0 _ rfl
  have y1 := hy 1 _ rfl
  have y2 := hy 2 _ rfl
  have y3 := hy 3 _ rfl
  have y4 := hy 4 _ rfl
  have hs1 : w.heap.size + 1 < W0.heap.size := by rw [← hW0]; simp
  have hs0 : w.heap.size < W0.heap.size := by omega
  have HW0 := Lib.hid hW0
  clear hx hy hW0 hn hm hR ha hb hps hpl
  go_enter Tryz.func73, Tryz.ntmps73
  go_upto_region 1 with (fail)
  rw [HW0.out]
  cases ps
  · have HX := Lib.hid (show R = false by rw [← HR.out, if_pos rfl])
    go_wp2_with (go_at_call 89; refine (HP.out _ HB0.out).mono ?_; rintro e w2 ⟨rfl, hb2⟩)
    go_ret
    exact ⟨by rw [HX.out]; rfl, blt HB0.out hb2⟩
  · have HR2 := Lib.hid (show ovGo false A B = R by rw [← HR.out, if_neg (by simp)])
    obtain rfl : n = m := by have := HPL.out rfl; have := HN.out.1; have := HN.out.2; omega
    go_upto_region 3 with ((go_at_call 89; refine (HP.out _ HB0.out).mono ?_; rintro e w2 ⟨rfl, hb2⟩))
    have z4 := keepC hb2 hs0 x4
    have u4 := keepC hb2 hs1 y4
    have t1 : w.heap.size + 1 < w2.heap.size := Nat.lt_of_lt_of_le hs1 hb2.size
    have t0 : w.heap.size < w2.heap.size := by omega
    have HB2 := Lib.hid (blt HB0.out hb2)
    clear x0 x1 x2 x3 x4 y0 y1 y2 y3 y4 hs0 hs1 hb2
    go_wp2
    have X4 := Lib.hid z4
    have Y4 := Lib.hid u4
    clear z4 u4
    go_loopw [5, 18] (fun lt i wr => ∃ (k : Nat) (x : Bool), k ≤ n ∧ i = .int .i64 k ∧ lt = .bool x ∧ ovGo x (A.drop k) (B.drop k) = R ∧ Below w2.heap.size w2 wr) (fun _ i _ => n - (intOf i).toNat)
    case atStart => exact ⟨0, false, Nat.zero_le _, rfl, rfl, HR2.out, bl0 _⟩
    case round =>
      obtain ⟨k, x, hk, rfl, rfl, hv, hbel⟩ := hrel
      have HBW := Lib.hid (blt HB2.out hbel)
      by_cases hlt : k < n
      · have hlt' : (k : Int) < (n : Int) := by omega
        obtain ⟨c, hc⟩ : ∃ c, A[k]? = some c := ⟨_, List.getElem?_eq_getElem (by have := HN.out.1; omega)⟩
        obtain ⟨d, hd⟩ : ∃ d, B[k]? = some d := ⟨_, List.getElem?_eq_getElem (by have := HN.out.2; omega)⟩
        have hda : A.drop k = c :: A.drop (k + 1) := by
          rw [List.drop_eq_getElem_cons (by have := HN.out.1; omega)]
          rw [List.getElem?_eq_getElem (by have := HN.out.1; omega)] at hc
          cases hc; rfl
        have hdb : B.drop k = d :: B.drop (k + 1) := by
          rw [List.drop_eq_getElem_cons (by have := HN.out.2; omega)]
          rw [List.getElem?_eq_getElem (by have := HN.out.2; omega)] at hd
          cases hd; rfl
        rw [hda, hdb] at hv
        have HV := Lib.hid (show ovJ c d (A.drop (k + 1)) (B.drop (k + 1)) 0 x = R from hv)
        obtain ⟨g, f, ea, hg, hca⟩ := callAt HA.out hc
        obtain ⟨g', f', eb, hg', hcb⟩ := callAt HB.out hd
        subst ea eb
        have x4 := keepC hbel t0 X4.out
        have y4 := keepC hbel t1 Y4.out
        obtain ⟨p0, p1, p2, p3, p4⟩ := hca.keep hg HBW.out
        obtain ⟨q0, q1, q2, q3, q4⟩ := hcb.keep hg' HBW.out
        have hbb := hbel.size
        have r1 : w.heap.size + 1 < wr.heap.size := by omega
        have r0 : w.heap.size < wr.heap.size := by omega
        have hws := HBW.out.size
        have r2 : g < wr.heap.size := by omega
        have r3 : g' < wr.heap.size := by omega
        have HBL := Lib.hid hbel
        clear hc hd hda hdb hca hcb hv hbel hbb hws
        go_upto_region 7 with (fail)
        go_cut [7, 8] from 21 to 31 (fun s6 s7 wx => TwoS c d wr s6 s7 wx)
        case first =>
          go_region_held3 (fun wx => KS wr wx)
            (first | assumption | (exact KS.mk' (blD (bl0 _))) | (exact KS.mk' (blD (blA (bl0 _) _))) | (exact KS.mk' (blD (blA (blA (bl0 _) _) _))) | (exact KS.step (by assumption) (blA (bl0 _) _)) | (exact KS.set (by assumption) (by simp <;> omega)))
            (first | fail)
          all_goals
            go_wp2
            go_meet
            case rel => first | exact tw1 _ _ _ | exact (tw1 _ _ _).swap
        case rest =>
          obtain ⟨B6, B7, rfl, rfl, u, v, hB6, hB7, hbc⟩ := hcut
          obtain ⟨u0, u1, u2, u3, u4⟩ := u
          obtain ⟨v0, v1, v2, v3, v4⟩ := v
          simp only [Nat.zero_add] at u0 u1 u2 u3 u4 v0 v1 v2 v3 v4
          have HBC := Lib.hid (blt HBL.out hbc)
          clear p0 p1 p2 p3 p4 q0 q1 q2 q3 q4 x4 y4 hbc r0 r1 r2 r3
          go_wp2
          clear u0 u1 u2 u3 u4 v0 v1 v2 v3 v4
          go_loopw [5, 42] (fun lt i wr => ∃ (j : Nat) (x : Bool), j ≤ 2 ∧ i = .int .i64 j ∧ lt = .bool x ∧ ovJ c d (A.drop (k + 1)) (B.drop (k + 1)) j x = R ∧ Below wc.heap.size wc wr) (fun _ i _ => 2 - (intOf i).toNat)
          case atStart => exact ⟨0, x, by omega, rfl, rfl, HV.out, bl0 _⟩
          case round =>
            obtain ⟨j, x, hj, rfl, rfl, hvi, hbi⟩ := hrel
            have HVI := Lib.hid hvi
            clear hvi
            have hj3 : j = 0 ∨ j = 1 ∨ j = 2 := by omega
            rcases hj3 with rfl | rfl | rfl
            · have HW5 := Lib.hid hbi
              clear hbi hj
              cases x
              · by_cases z1 : d.arr < c.arr
                · have HX := Lib.hid (show ovJ c d (A.drop (k + 1)) (B.drop (k + 1)) 1 true = R by have := HVI.out; simpa [ovJ, z1] using this)
                  go_wp2_with (refine wpList_index_eq _ rfl 172 _ _ rfl _ _ _ rfl rfl (by first | exact idx0 _ _ _ _ _ | exact idx1 _ _ _ _ _) ?_)
                  go_roundw
                  case rel => exact ⟨1, true, by omega, by first | rfl | go_num, rfl, HX.out, blA HW5.out _⟩
                  case measure => simp [intOf]
                · have HX := Lib.hid (show ovJ c d (A.drop (k + 1)) (B.drop (k + 1)) 1 false = R by have := HVI.out; simpa [ovJ, z1] using this)
                  go_wp2_with (refine wpList_index_eq _ rfl 172 _ _ rfl _ _ _ rfl rfl (by first | exact idx0 _ _ _ _ _ | exact idx1 _ _ _ _ _) ?_)
                  go_roundw
                  case rel => exact ⟨1, false, by omega, by first | rfl | go_num, rfl, HX.out, blA HW5.out _⟩
                  case measure => simp [intOf]
              · by_cases z1 : c.arr < d.arr
                · have HX := Lib.hid (show R = true by have := HVI.out; simpa [ovJ, z1] using this.symm)
                  go_wp2_with (refine wpList_index_eq _ rfl 172 _ _ rfl _ _ _ rfl rfl (by first | exact idx0 _ _ _ _ _ | exact idx1 _ _ _ _ _) ?_)
                  go_ret
                  exact ⟨by rw [HX.out]; rfl, blt HB2.out (blt HBC.out (blA HW5.out _))⟩
                · have HX := Lib.hid (show ovJ c d (A.drop (k + 1)) (B.drop (k + 1)) 1 true = R by have := HVI.out; simpa [ovJ, z1] using this)
                  go_wp2_with (refine wpList_index_eq _ rfl 172 _ _ rfl _ _ _ rfl rfl (by first | exact idx0 _ _ _ _ _ | exact idx1 _ _ _ _ _) ?_)
                  go_roundw
                  case rel => exact ⟨1, true, by omega, by first | rfl | go_num, rfl, HX.out, blA HW5.out _⟩
                  case measure => simp [intOf]
            · have HW5 := Lib.hid hbi
              clear hbi hj
              cases x
              · by_cases z1 : d.dep < c.dep
                · have HX := Lib.hid (show ovJ c d (A.drop (k + 1)) (B.drop (k + 1)) 2 true = R by have := HVI.out; simpa [ovJ, z1] using this)
                  go_wp2_with (refine wpList_index_eq _ rfl 172 _ _ rfl _ _ _ rfl rfl (by first | exact idx0 _ _ _ _ _ | exact idx1 _ _ _ _ _) ?_)
                  go_roundw
                  case rel => exact ⟨2, true, by omega, by first | rfl | go_num, rfl, HX.out, blA HW5.out _⟩
                  case measure => simp [intOf]
                · have HX := Lib.hid (show ovJ c d (A.drop (k + 1)) (B.drop (k + 1)) 2 false = R by have := HVI.out; simpa [ovJ, z1] using this)
                  go_wp2_with (refine wpList_index_eq _ rfl 172 _ _ rfl _ _ _ rfl rfl (by first | exact idx0 _ _ _ _ _ | exact idx1 _ _ _ _ _) ?_)
                  go_roundw
                  case rel => exact ⟨2, false, by omega, by first | rfl | go_num, rfl, HX.out, blA HW5.out _⟩
                  case measure => simp [intOf]
              · by_cases z1 : c.dep < d.dep
                · have HX := Lib.hid (show R = true by have := HVI.out; simpa [ovJ, z1] using this.symm)
                  go_wp2_with (refine wpList_index_eq _ rfl 172 _ _ rfl _ _ _ rfl rfl (by first | exact idx0 _ _ _ _ _ | exact idx1 _ _ _ _ _) ?_)
                  go_ret
                  exact ⟨by rw [HX.out]; rfl, blt HB2.out (blt HBC.out (blA HW5.out _))⟩
                · have HX := Lib.hid (show ovJ c d (A.drop (k + 1)) (B.drop (k + 1)) 2 true = R by have := HVI.out; simpa [ovJ, z1] using this)
                  go_wp2_with (refine wpList_index_eq _ rfl 172 _ _ rfl _ _ _ rfl rfl (by first | exact idx0 _ _ _ _ _ | exact idx1 _ _ _ _ _) ?_)
                  go_roundw
                  case rel => exact ⟨2, true, by omega, by first | rfl | go_num, rfl, HX.out, blA HW5.out _⟩
                  case measure => simp [intOf]
            · have HX := Lib.hid (show ovGo x (A.drop (k + 1)) (B.drop (k + 1)) = R from HVI.out)
              have HW5 := Lib.hid hbi
              clear hbi hj
              go_wp2
              go_roundw
              case rel => exact ⟨k + 1, x, by omega, by go_num, rfl, HX.out, blt HBC.out HW5.out⟩
              case measure => simp [intOf]; omega
      · have hlt' : ¬ (k : Int) < (n : Int) := by omega
        rw [List.drop_of_length_le (by have := HN.out.1; omega), ovGo] at hv
        · have HV := Lib.hid hv
          clear hv hbel
          go_wp2
          go_ret
          exact ⟨by rw [← HV.out]; rfl, HBW.out⟩
        · intro _ _ _ _ h; cases h
end Go.Proofs.Tt
