/-
  A part of the proof: lemmas of my own.
-/
import Derived.Test.YtamocmgfbonodaaGreatTi
import Derived.WalkMore
set_option linter.unusedVariables false
set_option linter.unusedSimpArgs false
namespace Go.Proofs.Tt
open Go Go.Proofs
open Go.RowKit Go.Maps
set_option maxRecDepth 1000000

theorem week104 (d : Int) (w : World) (h : dateOk d = true) : Calls Tryz.prog 104 #[.int .i64 d] w fun e w' => e = .returned (.tuple #[.int .i64 ((d + 5) % 7), .bool true]) ∧ w = w' := by
  have hd : 0 ≤ d ∧ d ≤ 36524 := of_decide_eq_true h
  obtain ⟨h1, h2⟩ := hd
  go_enter Tryz.func104, Tryz.ntmps104
  go_wp2_with (go_at_call 58; refine (dateT _ _ h).mono ?_; rintro e w1 ⟨rfl, rfl⟩)
  go_ret2
  exact ⟨rfl, rfl⟩

/-- what the exceptions say: 2 added, 3 removed, 5 nothing -/
def exS (i day : Int) : List ExcD → Int
  | [] => 5
  | e :: r => if e.cal ≠ i then exS i day r else if e.day ≠ day then exS i day r else if e.added = true then 2 else 3
def wkS (c : CalD) (d : Int) : Bool := if d = 0 then c.w0 else if d = 1 then c.w1 else if d = 2 then c.w2 else if d = 3 then c.w3 else if d = 4 then c.w4 else if d = 5 then c.w5 else c.w6
def reaS (l : List CalD) (x : List ExcD) (i day : Int) : Int :=
  if i < 0 then 0 else if (l.length : Int) ≤ i then 0 else if dateOk day = false then 0
  else if exS i day x = 2 then 2 else if exS i day x = 3 then 3
  else match l[i.toNat]? with
    | none => 0
    | some c => if day < c.fr then 5 else if c.to_ < day then 5 else if wkS c ((day + 5) % 7) = true then 1 else 4

theorem exS_in (i day : Int) : ∀ x, exS i day x = 2 ∨ exS i day x = 3 ∨ exS i day x = 5
  | [] => .inr (.inr rfl)
  | e :: r => by
    have := exS_in i day r
    rw [exS]
    repeat' split
    all_goals first | exact this | (first | exact .inl rfl | exact .inr (.inl rfl))

set_option maxHeartbeats 3200000 in
theorem rea95 (la xa : Option Addr) (lc xc : Nat) (l : List CalD) (x : List ExcD) (i day : Int) (w : World) (hl : RowsAt w la 10 (l.map CalD.row)) (hx : RowsAt w xa 3 (x.map ExcD.row)) (hl2 : l.length < 1000000) (hx2 : x.length < 1000000) :
    Calls Tryz.prog 95 #[.slice la l.length lc, .slice xa x.length xc, .int .i64 i, .int .i64 day] w fun e w' => e = .returned (.int .i64 (reaS l x i day)) ∧ Below w.heap.size w w' := by
  obtain ⟨R, hR⟩ : ∃ R, reaS l x i day = R := ⟨_, rfl⟩
  rw [hR]
  unfold reaS at hR
  have hways : i < 0 ∨ (¬ i < 0 ∧ (l.length : Int) ≤ i) ∨ (¬ i < 0 ∧ ¬ (l.length : Int) ≤ i) := by omega
  rcases hways with z1 | ⟨z1, z2⟩ | ⟨z1, z2⟩
  · have HX := Lib.hid (show R = 0 by rw [← hR, if_pos z1])
    clear hR hl hx
    go_enter Tryz.func95, Tryz.ntmps95
    go_wp2
    go_step3
    go_wp2
    try rw [Exit.noGoto_ret]
    go_ret
    exact ⟨by rw [HX.out]; rfl, bl0 _⟩
  · have HX := Lib.hid (show R = 0 by rw [← hR, if_neg z1, if_pos z2])
    clear hR hl hx
    go_enter Tryz.func95, Tryz.ntmps95
    go_wp2
    go_step3
    go_wp2
    try rw [Exit.noGoto_ret]
    go_ret
    exact ⟨by rw [HX.out]; rfl, bl0 _⟩
  · rw [if_neg z1, if_neg z2] at hR
    cases hdo : dateOk day
    · have HX := Lib.hid (show R = 0 by rw [← hR, if_pos hdo])
      clear hR hl hx
      go_enter Tryz.func95, Tryz.ntmps95
      go_wp2
      go_step3
      go_wp2_with (go_at_call 58; refine (dateF _ _ hdo).mono ?_; rintro e w1 ⟨rfl, rfl⟩)
      try rw [Exit.noGoto_ret]
      go_ret
      exact ⟨by rw [HX.out]; rfl, bl0 _⟩
    · rw [if_neg (by rw [hdo]; decide)] at hR
      obtain ⟨n, rfl⟩ : ∃ n : Nat, i = n := ⟨i.toNat, by omega⟩
      obtain ⟨c, hc⟩ : ∃ c, l[n]? = some c := ⟨_, List.getElem?_eq_getElem (by omega)⟩
      have hc' : l[((n : Int)).toNat]? = some c := by simpa using hc
      rw [hc'] at hR
      simp only at hR
      obtain ⟨g, f, ha, hg, hcc⟩ := hl n c.row (by rw [List.getElem?_map, hc]; rfl)
      subst ha
      have HR := Lib.hid hR
      have HDO := Lib.hid hdo
      have HXR := Lib.hid hx
      have n1 : (n : Int) < (l.length : Int) := by omega
      have n2 : n < l.length := by omega
      obtain ⟨id, w0, w1, w2, w3, w4, w5, w6, fr, to_⟩ := c
      have c0 : w.cell? ⟨g, f + n * 10, none⟩ = some (.string id) := hcc 0 _ rfl
      have c1 : w.cell? ⟨g, f + n * 10 + 1, none⟩ = some (.bool w0) := hcc 1 _ rfl
      have c2 : w.cell? ⟨g, f + n * 10 + 2, none⟩ = some (.bool w1) := hcc 2 _ rfl
      have c3 : w.cell? ⟨g, f + n * 10 + 3, none⟩ = some (.bool w2) := hcc 3 _ rfl
      have c4 : w.cell? ⟨g, f + n * 10 + 4, none⟩ = some (.bool w3) := hcc 4 _ rfl
      have c5 : w.cell? ⟨g, f + n * 10 + 5, none⟩ = some (.bool w4) := hcc 5 _ rfl
      have c6 : w.cell? ⟨g, f + n * 10 + 6, none⟩ = some (.bool w5) := hcc 6 _ rfl
      have c7 : w.cell? ⟨g, f + n * 10 + 7, none⟩ = some (.bool w6) := hcc 7 _ rfl
      have c8 : w.cell? ⟨g, f + n * 10 + 8, none⟩ = some (.int .i64 fr) := hcc 8 _ rfl
      have c9 : w.cell? ⟨g, f + n * 10 + 9, none⟩ = some (.int .i64 to_) := hcc 9 _ rfl
      obtain ⟨W0, hW0⟩ : ∃ W0, w.alloc (Obj.cells #[.string id, .bool w0, .bool w1, .bool w2, .bool w3, .bool w4, .bool w5, .bool w6, .int .i64 fr, .int .i64 to_] 116) = W0 := ⟨_, rfl⟩
      have HB0 := Lib.hid (show Below w.heap.size w W0 by rw [← hW0]; exact blA (bl0 _) _)
      have hbx : w.heap.size < W0.heap.size := by rw [← hW0]; simp
      have HBC := Lib.hid (show ∀ k v, (#[.string id, .bool w0, .bool w1, .bool w2, .bool w3, .bool w4, .bool w5, .bool w6, .int .i64 fr, .int .i64 to_] : Array Value)[k]? = some v → W0.cell? ⟨w.heap.size, k, none⟩ = some v from fun k v hk => by rw [← hW0]; exact boxC _ _ _ k _ hk)
      have HW0 := Lib.hid hW0
      clear hW0 hcc hc hc' hl hx hR hdo
      go_enter Tryz.func95, Tryz.ntmps95
      go_wp2
      go_step3
      go_wp2_with (go_at_call 58; refine (dateT _ _ HDO.out).mono ?_; rintro e w1 ⟨rfl, rfl⟩)
      rw [HW0.out]
      clear c0 c1 c2 c3 c4 c5 c6 c7 c8 c9
      go_step3
      go_wp2
      obtain ⟨r, hr⟩ : ∃ r, exS n day x = r := ⟨_, rfl⟩
      have hR2 := HR.out
      rw [hr] at hR2
      have HR2 := Lib.hid hR2
      have HR3 := Lib.hid hr
      clear hR2 hr
      go_loopw [9, 34] (fun r9 i wr => ∃ k : Nat, r9 = .int .i64 5 ∧ k ≤ x.length ∧ i = .int .i64 k ∧ exS n day (x.drop k) = r ∧ Below W0.heap.size W0 wr) (fun _ i _ => x.length - (intOf i).toNat)
      case atStart => exact ⟨0, rfl, Nat.zero_le _, rfl, HR3.out, bl0 _⟩
      case round =>
        obtain ⟨k, rfl, hk, rfl, hv, hbel⟩ := hrel
        have HBW := Lib.hid (blt HB0.out hbel)
        by_cases hlt : k < x.length
        · have hlt' : (k : Int) < (x.length : Int) := by omega
          obtain ⟨s, hs⟩ : ∃ s, x[k]? = some s := ⟨_, List.getElem?_eq_getElem hlt⟩
          have hdrop : x.drop k = s :: x.drop (k + 1) := by
            rw [List.drop_eq_getElem_cons hlt]
            rw [List.getElem?_eq_getElem hlt] at hs
            cases hs; rfl
          obtain ⟨g', off, ha, hg', hc⟩ := HXR.out k _ (by rw [List.getElem?_map, hs]; rfl)
          subst ha
          rw [hdrop, exS] at hv
          have e0 : wr.cell? ⟨g', off + k * 3, none⟩ = some (.int .i64 s.cal) := keepC HBW.out hg' (hc 0 _ rfl)
          have e1 : wr.cell? ⟨g', off + k * 3 + 1, none⟩ = some (.int .i64 s.day) := keepC HBW.out hg' (hc 1 _ rfl)
          have e2 : wr.cell? ⟨g', off + k * 3 + 2, none⟩ = some (.bool s.added) := keepC HBW.out hg' (hc 2 _ rfl)
          obtain ⟨ec, ed, ea⟩ := s
          simp only at e0 e1 e2 hv
          have v3 := keepC hbel hbx (HBC.out 8 _ rfl)
          have v4 := keepC hbel hbx (HBC.out 9 _ rfl)
          have hbx2 : w.heap.size < wr.heap.size := Nat.lt_of_lt_of_le hbx hbel.size
          have HBL := Lib.hid hbel
          have HV := Lib.hid hv
          clear hs hdrop hc hbel hv
          have hways : (¬ ec = (n : Int)) ∨ (ec = (n : Int) ∧ ¬ ed = day) ∨ (ec = (n : Int) ∧ ed = day ∧ ea = true) ∨ (ec = (n : Int) ∧ ed = day ∧ ea = false) := by cases ea <;> simp <;> omega
          rcases hways with y1 | ⟨y1, y2⟩ | ⟨y1, y2, y3⟩ | ⟨y1, y2, y3⟩
          · have HX := Lib.hid (show exS n day (x.drop (k + 1)) = r by rw [← HV.out, if_pos y1])
            have y2 : (ec != (n : Int)) = true := by simp [y1]
            go_wp2
            go_roundw
            case rel => exact ⟨k + 1, rfl, by omega, by go_num, HX.out, blA HBL.out _⟩
            case measure => simp [intOf]; omega
          · have HX := Lib.hid (show exS n day (x.drop (k + 1)) = r by rw [← HV.out, if_neg (by simp [y1]), if_pos y2])
            subst y1
            go_wp2
            go_roundw
            case rel => exact ⟨k + 1, rfl, by omega, by go_num, HX.out, blA HBL.out _⟩
            case measure => simp [intOf]; omega
          · have h2 : r = 2 := by rw [← HV.out, if_neg (by simp [y1]), if_neg (by simp [y2]), if_pos y3]
            have HX := Lib.hid (show R = 2 by rw [← HR2.out, if_pos h2])
            subst y1 y2 y3
            clear h2
            go_wp2
            try rw [Exit.noGoto_ret]
            go_ret
            exact ⟨by rw [HX.out]; rfl, blA HBW.out _⟩
          · have h2 : r = 3 := by rw [← HV.out, if_neg (by simp [y1]), if_neg (by simp [y2]), if_neg (by simp [y3])]
            have HX := Lib.hid (show R = 3 by rw [← HR2.out, if_neg (by rw [h2]; decide), if_pos h2])
            subst y1 y2 y3
            clear h2
            go_wp2
            try rw [Exit.noGoto_ret]
            go_ret
            exact ⟨by rw [HX.out]; rfl, blA HBW.out _⟩
        · have hlt' : ¬ (k : Int) < (x.length : Int) := by omega
          rw [List.drop_of_length_le (by omega), exS] at hv
          have hR4 := HR2.out
          rw [← hv, if_neg (by decide), if_neg (by decide)] at hR4
          have v0 := keepC hbel hbx (HBC.out 1 _ rfl)
          have v1 := keepC hbel hbx (HBC.out 2 _ rfl)
          have v2 := keepC hbel hbx (HBC.out 3 _ rfl)
          have v3 := keepC hbel hbx (HBC.out 4 _ rfl)
          have v4 := keepC hbel hbx (HBC.out 5 _ rfl)
          have v5 := keepC hbel hbx (HBC.out 6 _ rfl)
          have v6 := keepC hbel hbx (HBC.out 7 _ rfl)
          have v7 := keepC hbel hbx (HBC.out 8 _ rfl)
          have v8 := keepC hbel hbx (HBC.out 9 _ rfl)
          have HR4 := Lib.hid hR4
          clear hbel hv hR4
          have hways : (day < fr) ∨ (¬ day < fr ∧ to_ < day) ∨ (¬ day < fr ∧ ¬ to_ < day) := by omega
          rcases hways with y1 | ⟨y1, y2⟩ | ⟨y1, y2⟩
          · have HX := Lib.hid (show R = 5 by rw [← HR4.out, if_pos y1])
            go_wp2
            try rw [Exit.noGoto_ret]
            go_ret
            exact ⟨by rw [HX.out]; rfl, HBW.out⟩
          · have HX := Lib.hid (show R = 5 by rw [← HR4.out, if_neg y1, if_pos y2])
            go_wp2
            try rw [Exit.noGoto_ret]
            go_ret
            exact ⟨by rw [HX.out]; rfl, HBW.out⟩
          · obtain ⟨d, hd⟩ : ∃ d, (day + 5) % 7 = d := ⟨_, rfl⟩
            have HX := Lib.hid (show R = if wkS ⟨id, w0, w1, w2, w3, w4, w5, w6, fr, to_⟩ d = true then 1 else 4 by rw [← HR4.out, if_neg y1, if_neg y2, hd])
            have HWD := Lib.hid (fun W => week104 day W HDO.out)
            simp only [hd] at HWD
            have hd7 : d = 0 ∨ d = 1 ∨ d = 2 ∨ d = 3 ∨ d = 4 ∨ d = 5 ∨ d = 6 := by omega
            clear hd
            go_upto_region 16 with ((go_at_call 104; refine (HWD.out _).mono ?_; rintro e w9 ⟨rfl, rfl⟩))
            rcases hd7 with rfl | rfl | rfl | rfl | rfl | rfl | rfl
            · cases w0
              all_goals
                go_wp2
                try rw [Exit.noGoto_ret]
                go_ret
                exact ⟨by rw [HX.out]; rfl, HBW.out⟩
            · cases w1
              all_goals
                go_wp2
                try rw [Exit.noGoto_ret]
                go_ret
                exact ⟨by rw [HX.out]; rfl, HBW.out⟩
            · cases w2
              all_goals
                go_wp2
                try rw [Exit.noGoto_ret]
                go_ret
                exact ⟨by rw [HX.out]; rfl, HBW.out⟩
            · cases w3
              all_goals
                go_wp2
                try rw [Exit.noGoto_ret]
                go_ret
                exact ⟨by rw [HX.out]; rfl, HBW.out⟩
            · cases w4
              all_goals
                go_wp2
                try rw [Exit.noGoto_ret]
                go_ret
                exact ⟨by rw [HX.out]; rfl, HBW.out⟩
            · cases w5
              all_goals
                go_wp2
                try rw [Exit.noGoto_ret]
                go_ret
                exact ⟨by rw [HX.out]; rfl, HBW.out⟩
            · cases w6
              all_goals
                go_wp2
                try rw [Exit.noGoto_ret]
                go_ret
                exact ⟨by rw [HX.out]; rfl, HBW.out⟩
def actS (l : List CalD) (x : List ExcD) (i day : Int) : Bool := decide (reaS l x i day = 1) || decide (reaS l x i day = 2)
theorem act88 (la xa : Option Addr) (lc xc : Nat) (l : List CalD) (x : List ExcD) (i day : Int) (w : World) (hl : RowsAt w la 10 (l.map CalD.row)) (hx : RowsAt w xa 3 (x.map ExcD.row)) (hl2 : l.length < 1000000) (hx2 : x.length < 1000000) :
    Calls Tryz.prog 88 #[.slice la l.length lc, .slice xa x.length xc, .int .i64 i, .int .i64 day] w fun e w' => e = .returned (.bool (actS l x i day)) ∧ Below w.heap.size w w' := by
  have HC := Lib.hid (rea95 la xa lc xc l x i day w hl hx hl2 hx2)
  obtain ⟨R, hR⟩ : ∃ R, actS l x i day = R := ⟨_, rfl⟩
  rw [hR]
  unfold actS at hR
  obtain ⟨r, hr⟩ : ∃ r, reaS l x i day = r := ⟨_, rfl⟩
  rw [hr] at hR HC
  have HR := Lib.hid hR
  clear hR hr hl hx
  have hways : r = 1 ∨ r = 2 ∨ (¬ r = 1 ∧ ¬ r = 2) := by omega
  rcases hways with z1 | z1 | ⟨z1, z2⟩
  · have HX := Lib.hid (show R = true by rw [← HR.out]; simp [z1])
    subst z1
    go_enter Tryz.func88, Tryz.ntmps88
    go_wp2_with (go_at_call 95; refine HC.out.mono ?_; rintro e w2 ⟨rfl, hb2⟩)
    go_ret
    exact ⟨by rw [HX.out]; rfl, hb2⟩
  · have HX := Lib.hid (show R = true by rw [← HR.out]; simp [z1])
    subst z1
    go_enter Tryz.func88, Tryz.ntmps88
    go_wp2_with (go_at_call 95; refine HC.out.mono ?_; rintro e w2 ⟨rfl, hb2⟩)
    go_ret
    exact ⟨by rw [HX.out]; rfl, hb2⟩
  · have HX := Lib.hid (show R = false by rw [← HR.out]; simp [z1, z2])
    go_enter Tryz.func88, Tryz.ntmps88
    go_wp2_with (go_at_call 95; refine HC.out.mono ?_; rintro e w2 ⟨rfl, hb2⟩)
    go_ret
    exact ⟨by rw [HX.out]; first | rfl | simp [z1, z2], hb2⟩
/-- the first active day from d on, n days -/
def nxtS (l : List CalD) (x : List ExcD) (i : Int) : Nat → Int → Int × Bool
  | 0, _ => (0, false)
  | n + 1, d => if actS l x i d = true then (d, true) else nxtS l x i n (d + 1)
theorem next70 (la xa : Option Addr) (lc xc : Nat) (l : List CalD) (x : List ExcD) (i : Int) (w : World) (hl : RowsAt w la 10 (l.map CalD.row)) (hx : RowsAt w xa 3 (x.map ExcD.row)) (hl2 : l.length < 1000000) (hx2 : x.length < 1000000) :
    Calls Tryz.prog 70 #[.slice la l.length lc, .slice xa x.length xc, .int .i64 i, .int .i64 0] w fun e w' => e = .returned (.tuple #[.int .i64 (nxtS l x i 36525 0).1, .bool (nxtS l x i 36525 0).2]) ∧ Below w.heap.size w w' := by
  obtain ⟨R, hR⟩ : ∃ R, nxtS l x i 36525 0 = R := ⟨_, rfl⟩
  rw [hR]
  have HR := Lib.hid hR
  have HL := Lib.hid hl
  have HX := Lib.hid hx
  clear hR hl hx
  go_enter Tryz.func70, Tryz.ntmps70
  go_wp2
  go_loopw [10] (fun d wr => ∃ k : Nat, k ≤ 36525 ∧ d = .int .i64 k ∧ nxtS l x i (36525 - k) k = R ∧ Below w.heap.size w wr) (fun d _ => 36525 - (intOf d).toNat)
  case atStart => exact ⟨0, Nat.zero_le _, rfl, HR.out, bl0 _⟩
  case round =>
    obtain ⟨k, hk, rfl, hv, hbel⟩ := hrel
    by_cases hlt : k ≤ 36524
    · have hlt' : (k : Int) ≤ 36524 := by omega
      rw [show 36525 - k = (36524 - k) + 1 by omega, nxtS] at hv
      obtain ⟨b, hb⟩ : ∃ b, actS l x i k = b := ⟨_, rfl⟩
      have HA := Lib.hid (act88 la xa lc xc l x i k wr (HL.out.below hbel) (HX.out.below hbel) hl2 hx2)
      rw [hb] at hv HA
      have HV := Lib.hid hv
      have HB := Lib.hid hbel
      clear hb hv hbel
      cases b
      · go_wp2_with (go_at_call 88; refine HA.out.mono ?_; rintro e w2 ⟨rfl, hb2⟩)
        go_roundw
        case rel => exact ⟨k + 1, by omega, by go_num, by have := HV.out; simp only [Bool.false_eq_true, if_false] at this; rw [show 36525 - (k + 1) = 36524 - k by omega]; exact this, blt HB.out hb2⟩
        case measure => simp [intOf]; omega
      · go_wp2_with (go_at_call 88; refine HA.out.mono ?_; rintro e w2 ⟨rfl, hb2⟩)
        go_ret2
        exact ⟨by have := HV.out; simp only [if_true] at this; rw [← this]; rfl, blt HB.out hb2⟩
    · have hlt' : ¬ (k : Int) ≤ 36524 := by omega
      obtain rfl : k = 36525 := by omega
      have HV := Lib.hid hv
      have HB := Lib.hid hbel
      clear hv hbel
      go_wp2
      go_ret2
      exact ⟨by rw [← HV.out]; rfl, HB.out⟩
end Go.Proofs.Tt
