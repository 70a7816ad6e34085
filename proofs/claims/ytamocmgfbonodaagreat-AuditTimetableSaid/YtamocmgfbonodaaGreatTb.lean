/-
  A part of the proof: lemmas of my own.
-/
import Derived.Test.YtamocmgfbonodaaGreatTa
set_option linter.unusedVariables false
set_option linter.unusedSimpArgs false
namespace Go.Proofs.Tt
open Go Go.Proofs
open Go.RowKit Go.Maps
set_option maxRecDepth 1000000

structure ProdD where
  id : ByteArray
  price : Int
  rides : Int
  zones : Int
  secs : Int
  modes : Int
def ProdD.row (s : ProdD) : List Value := [.string s.id, .int .i64 s.price, .int .i64 s.rides, .int .i64 s.zones, .int .i64 s.secs, .int .i64 s.modes]

def prodOk (s : ProdD) : Prop := (0 ≤ s.price ∧ s.price ≤ 1000000) ∧ (1 ≤ s.rides ∧ s.rides ≤ 8) ∧ (1 ≤ s.zones ∧ s.zones ≤ 16) ∧ (0 ≤ s.secs ∧ s.secs ≤ 86400) ∧ (1 ≤ s.modes ∧ s.modes ≤ 255)
instance (s : ProdD) : Decidable (prodOk s) := by unfold prodOk; infer_instance
def prodGo : Nat → List (List UInt8) → List ProdD → Int × Int
  | _, _, [] => (0, 0)
  | k, seen, s :: l => if okId s.id = false then (k, 12) else if s.id.data.toList ∈ seen then (k, 6) else if ¬ prodOk s then (k, 2) else prodGo (k + 1) (s.id.data.toList :: seen) l
def fareOk (d wi c : Int) : Prop := (0 ≤ d ∧ d ≤ 1000000) ∧ (0 ≤ wi ∧ wi ≤ 86400) ∧ (0 ≤ c ∧ c ≤ 1000000)
instance (d wi c : Int) : Decidable (fareOk d wi c) := by unfold fareOk; infer_instance
def fareRes (d wi c : Int) (l : List ProdD) : Int × Int := if ¬ fareOk d wi c then (-1, 2) else if 16 < l.length then (0, 5) else prodGo 0 [] l

theorem in29 (x lo hi : Int) (w : World) : Calls Tryz.prog 68 #[.int .i64 x, .int .i64 lo, .int .i64 hi] w fun e w' => e = .returned (.bool (decide (lo ≤ x ∧ x ≤ hi))) ∧ w = w' := by
  obtain ⟨q, hq⟩ : ∃ q, decide (lo ≤ x ∧ x ≤ hi) = q := ⟨_, rfl⟩
  rw [hq]
  have HQ := Lib.hid hq
  clear hq
  by_cases h1 : lo ≤ x
  · by_cases h2 : x ≤ hi
    · have HX := Lib.hid (show q = true by rw [← HQ.out]; exact decide_eq_true ⟨h1, h2⟩)
      go_enter Tryz.func68, Tryz.ntmps68
      go_wp2
      go_ret
      exact ⟨by rw [HX.out]; rfl, rfl⟩
    · have HX := Lib.hid (show q = false by rw [← HQ.out]; exact decide_eq_false (by omega))
      go_enter Tryz.func68, Tryz.ntmps68
      go_wp2
      go_ret
      exact ⟨by rw [HX.out]; rfl, rfl⟩
  · have HX := Lib.hid (show q = false by rw [← HQ.out]; exact decide_eq_false (by omega))
    go_enter Tryz.func68, Tryz.ntmps68
    go_wp2
    go_ret
    exact ⟨by rw [HX.out]; rfl, rfl⟩
theorem yes29 (x lo hi : Int) (h : lo ≤ x ∧ x ≤ hi) (w : World) : Calls Tryz.prog 68 #[.int .i64 x, .int .i64 lo, .int .i64 hi] w fun e w' => e = .returned (.bool true) ∧ w = w' := by rw [← decide_eq_true h]; exact in29 x lo hi w
theorem no29 (x lo hi : Int) (h : ¬ (lo ≤ x ∧ x ≤ hi)) (w : World) : Calls Tryz.prog 68 #[.int .i64 x, .int .i64 lo, .int .i64 hi] w fun e w' => e = .returned (.bool false) ∧ w = w' := by rw [← decide_eq_false h]; exact in29 x lo hi w
set_option maxHeartbeats 3000000 in
theorem prod17 (a : Option Addr) (cap : Nat) (l : List ProdD) (d wi c : Int) (w : World) (hr : RowsAt w a 6 (l.map ProdD.row)) (hid : ∀ s ∈ l, s.id.size ≤ maxLen) (hl : l.length ≤ 9223372036854775807) :
    Calls Tryz.prog 39 #[.agg #[.slice a l.length cap, .int .i64 d, .int .i64 wi, .int .i64 c]] w fun e w' => e = .returned (.tuple #[.int .i64 (fareRes d wi c l).1, .int .i64 (fareRes d wi c l).2]) ∧ Below w.heap.size w w' := by
  have bel0 : ∀ o, Below w.heap.size w (w.alloc o) := fun o => (Below.refl _ _).alloc (Nat.le_refl _) o
  have hmm := @run_makeMap Tryz.prog
  have hways : (¬ (0 ≤ d ∧ d ≤ 1000000)) ∨ ((0 ≤ d ∧ d ≤ 1000000) ∧ ¬ (0 ≤ wi ∧ wi ≤ 86400)) ∨ ((0 ≤ d ∧ d ≤ 1000000) ∧ (0 ≤ wi ∧ wi ≤ 86400) ∧ ¬ (0 ≤ c ∧ c ≤ 1000000)) ∨ ((0 ≤ d ∧ d ≤ 1000000) ∧ (0 ≤ wi ∧ wi ≤ 86400) ∧ (0 ≤ c ∧ c ≤ 1000000)) := by omega
  rcases hways with z1 | ⟨z1, z2⟩ | ⟨z1, z2, z3⟩ | ⟨z1, z2, z3⟩
  · have HX := Lib.hid (show fareRes d wi c l = (-1, 2) by unfold fareRes; rw [if_pos (by unfold fareOk; omega)])
    have J0 := Lib.hid fun W => no29 d 0 1000000 z1 W
    clear z1
    go_enter Tryz.func39, Tryz.ntmps39
    go_wp2_with (first | (go_at_call 68; with_reducible refine (J0.out _).mono ?_; rintro e w1 ⟨rfl, rfl⟩))
    go_ret2
    exact ⟨by rw [HX.out]; rfl, bel0 _⟩
  · have HX := Lib.hid (show fareRes d wi c l = (-1, 2) by unfold fareRes; rw [if_pos (by unfold fareOk; omega)])
    have J0 := Lib.hid fun W => yes29 d 0 1000000 z1 W
    have J1 := Lib.hid fun W => no29 wi 0 86400 z2 W
    clear z1 z2
    go_enter Tryz.func39, Tryz.ntmps39
    go_wp2_with (first | (go_at_call 68; with_reducible refine (J0.out _).mono ?_; rintro e w1 ⟨rfl, rfl⟩) | (go_at_call 68; with_reducible refine (J1.out _).mono ?_; rintro e w1 ⟨rfl, rfl⟩))
    go_ret2
    exact ⟨by rw [HX.out]; rfl, bel0 _⟩
  · have HX := Lib.hid (show fareRes d wi c l = (-1, 2) by unfold fareRes; rw [if_pos (by unfold fareOk; omega)])
    have J0 := Lib.hid fun W => yes29 d 0 1000000 z1 W
    have J1 := Lib.hid fun W => yes29 wi 0 86400 z2 W
    have J2 := Lib.hid fun W => no29 c 0 1000000 z3 W
    clear z1 z2 z3
    go_enter Tryz.func39, Tryz.ntmps39
    go_wp2_with (first | (go_at_call 68; with_reducible refine (J0.out _).mono ?_; rintro e w1 ⟨rfl, rfl⟩) | (go_at_call 68; with_reducible refine (J1.out _).mono ?_; rintro e w1 ⟨rfl, rfl⟩) | (go_at_call 68; with_reducible refine (J2.out _).mono ?_; rintro e w1 ⟨rfl, rfl⟩))
    go_ret2
    exact ⟨by rw [HX.out]; rfl, bel0 _⟩
  · have hres : fareRes d wi c l = if 16 < l.length then (0, 5) else prodGo 0 [] l := by unfold fareRes; rw [if_neg (by unfold fareOk; omega)]
    have J0 := Lib.hid fun W => yes29 d 0 1000000 z1 W
    have J1 := Lib.hid fun W => yes29 wi 0 86400 z2 W
    have J2 := Lib.hid fun W => yes29 c 0 1000000 z3 W
    clear z1 z2 z3
    by_cases h16 : 16 < l.length
    · have HR := Lib.hid (show fareRes d wi c l = (0, 5) by rw [hres, if_pos h16])
      have h16' : (16 : Int) < (l.length : Int) := by omega
      clear hres
      go_enter Tryz.func39, Tryz.ntmps39
      go_wp2_with (first | (go_at_call 68; with_reducible refine (J0.out _).mono ?_; rintro e w1 ⟨rfl, rfl⟩) | (go_at_call 68; with_reducible refine (J1.out _).mono ?_; rintro e w1 ⟨rfl, rfl⟩) | (go_at_call 68; with_reducible refine (J2.out _).mono ?_; rintro e w1 ⟨rfl, rfl⟩))
      go_ret2
      exact ⟨by rw [HR.out]; rfl, bel0 _⟩
    · have HR := Lib.hid (show fareRes d wi c l = prodGo 0 [] l by rw [hres, if_neg h16])
      have h16' : ¬ (16 : Int) < (l.length : Int) := by omega
      clear hres
      go_enter Tryz.func39, Tryz.ntmps39
      go_wp2_with (first | (go_at_call 68; with_reducible refine (J0.out _).mono ?_; rintro e w1 ⟨rfl, rfl⟩) | (go_at_call 68; with_reducible refine (J1.out _).mono ?_; rintro e w1 ⟨rfl, rfl⟩) | (go_at_call 68; with_reducible refine (J2.out _).mono ?_; rintro e w1 ⟨rfl, rfl⟩))
      go_loopw [31] (fun i wr => ∃ (k : Nat) (seen : List (List UInt8)), k ≤ l.length ∧ i = .int .i64 k ∧ SetK 9 wr (w.heap.size + 1) k (seen.map key) ∧ prodGo k seen (l.drop k) = prodGo 0 [] l ∧ Below w.heap.size w wr ∧ w.heap.size + 1 < wr.heap.size) (fun i _ => l.length - (intOf i).toNat)
      case atStart =>
        refine ⟨0, [], Nat.zero_le _, rfl, ?_, rfl, (bel0 _).alloc (by simp) _, by simp⟩
        have := SetK.made 9 (w.alloc (.cells #[.slice a l.length cap, .int .i64 d, .int .i64 wi, .int .i64 c] 33))
        simpa using this
      case round =>
        obtain ⟨k, seen, hk, rfl, hset, hv, hbel, hsz⟩ := hrel
        have HV := Lib.hid hv
        clear hv J0 J1 J2
        by_cases hlt : k < l.length
        · have hlt' : (k : Int) < (l.length : Int) := by omega
          obtain ⟨s, hs⟩ : ∃ s, l[k]? = some s := ⟨l[k], List.getElem?_eq_getElem hlt⟩
          have hdrop : l.drop k = s :: l.drop (k + 1) := by
            rw [List.drop_eq_getElem_cons hlt]
            rw [List.getElem?_eq_getElem hlt] at hs
            cases hs; rfl
          have hsl : s.id.size ≤ maxLen := hid s (List.mem_of_getElem? hs)
          have hrow : (l.map ProdD.row)[k]? = some s.row := by rw [List.getElem?_map, hs]; rfl
          obtain ⟨g, off, ha, hg, hc⟩ := hr k _ hrow
          subst ha
          have hcc := fun j x hx => (hbel.cell (p := ⟨g, off + k * 6 + j, none⟩) hg).trans (hc j x hx)
          have c0 : wr.cell? ⟨g, off + k * 6, none⟩ = some (.string s.id) := hcc 0 _ rfl
          have c1 : wr.cell? ⟨g, off + k * 6 + 1, none⟩ = some (.int .i64 s.price) := hcc 1 _ rfl
          have c2 : wr.cell? ⟨g, off + k * 6 + 2, none⟩ = some (.int .i64 s.rides) := hcc 2 _ rfl
          have c3 : wr.cell? ⟨g, off + k * 6 + 3, none⟩ = some (.int .i64 s.zones) := hcc 3 _ rfl
          have c4 : wr.cell? ⟨g, off + k * 6 + 4, none⟩ = some (.int .i64 s.secs) := hcc 4 _ rfl
          have c5 : wr.cell? ⟨g, off + k * 6 + 5, none⟩ = some (.int .i64 s.modes) := hcc 5 _ rfl
          have hV := HV.out
          rw [hdrop, prodGo] at hV
          have HS := Lib.hid hset
          have HID := Lib.hid hid
          have HRR := Lib.hid hr
          clear hset hrow hs hdrop hid hr HV hc hcc
          cases hok : okId s.id
          · have HX := Lib.hid (show prodGo 0 [] l = ((k : Int), 12) by rw [← hV, if_pos hok])
            clear hV
            go_wp2_with (go_at_call 56; refine (valid24 _ _ (by unfold maxLen at hsl; omega)).mono ?_; rw [hok]; rintro e w1 ⟨rfl, rfl⟩)
            go_ret2
            exact ⟨by rw [HR.out, HX.out]; rfl, hbel.trans ((Below.refl _ _).alloc (by omega) _)⟩
          · rw [if_neg (by rw [hok]; decide)] at hV
            have hkey : keyOf Tryz.prog 9 (.string s.id) = some (key s.id.data.toList) := Go.WideMaps.keyOf_string_mk Tryz.underlying9 hsl
            have hsetA : ∀ o, SetK 9 (wr.alloc o) (w.heap.size + 1) k (seen.map key) := fun o => HS.out.at (Below.heap_alloc _ _ _ hsz)
            have belA : ∀ o, Below w.heap.size w (wr.alloc o) := fun o => hbel.trans ((Below.refl _ _).alloc (by omega) o)
            have HSA := Lib.hid hsetA
            by_cases hin : s.id.data.toList ∈ seen
            · have HX := Lib.hid (show prodGo 0 [] l = ((k : Int), 6) by rw [← hV, if_pos hin])
              have hlk : ∀ o, (Instr.lookup 111 (.map (some (w.heap.size + 1))) (.string s.id) false).run Tryz.prog (wr.alloc o) = .ok (.bool true) (wr.alloc o) := fun o => ((hsetA o).look keyed9 Tryz.underlying111 hkey).1 (key_mem.2 hin)
              clear hV hsetA
              go_wp2_with (go_at_call 56; refine (valid24 _ _ (by unfold maxLen at hsl; omega)).mono ?_; rw [hok]; rintro e w1 ⟨rfl, rfl⟩)
              go_ret2
              exact ⟨by rw [HR.out, HX.out]; rfl, belA _⟩
            · rw [if_neg hin] at hV
              have hlk : ∀ o, (Instr.lookup 111 (.map (some (w.heap.size + 1))) (.string s.id) false).run Tryz.prog (wr.alloc o) = .ok (.bool false) (wr.alloc o) := fun o => ((hsetA o).look keyed9 Tryz.underlying111 hkey).2 (fun h => hin (key_mem.1 h))
              clear hsetA
              have hways : (¬ (0 ≤ s.price ∧ s.price ≤ 1000000)) ∨ ((0 ≤ s.price ∧ s.price ≤ 1000000) ∧ ¬ (1 ≤ s.rides ∧ s.rides ≤ 8)) ∨ ((0 ≤ s.price ∧ s.price ≤ 1000000) ∧ (1 ≤ s.rides ∧ s.rides ≤ 8) ∧ ¬ (1 ≤ s.zones ∧ s.zones ≤ 16)) ∨ ((0 ≤ s.price ∧ s.price ≤ 1000000) ∧ (1 ≤ s.rides ∧ s.rides ≤ 8) ∧ (1 ≤ s.zones ∧ s.zones ≤ 16) ∧ ¬ (0 ≤ s.secs ∧ s.secs ≤ 86400)) ∨ ((0 ≤ s.price ∧ s.price ≤ 1000000) ∧ (1 ≤ s.rides ∧ s.rides ≤ 8) ∧ (1 ≤ s.zones ∧ s.zones ≤ 16) ∧ (0 ≤ s.secs ∧ s.secs ≤ 86400) ∧ ¬ (1 ≤ s.modes ∧ s.modes ≤ 255)) ∨ ((0 ≤ s.price ∧ s.price ≤ 1000000) ∧ (1 ≤ s.rides ∧ s.rides ≤ 8) ∧ (1 ≤ s.zones ∧ s.zones ≤ 16) ∧ (0 ≤ s.secs ∧ s.secs ≤ 86400) ∧ (1 ≤ s.modes ∧ s.modes ≤ 255)) := by omega
              rcases hways with z1 | ⟨z1, z2⟩ | ⟨z1, z2, z3⟩ | ⟨z1, z2, z3, z4⟩ | ⟨z1, z2, z3, z4, z5⟩ | ⟨z1, z2, z3, z4, z5⟩
              · have HX := Lib.hid (show prodGo 0 [] l = ((k : Int), 2) by rw [← hV, if_pos (by unfold prodOk; omega)])
                have J0 := Lib.hid fun W => no29 s.price 0 1000000 z1 W
                clear hV z1
                go_wp2_with (first | (go_at_call 68; with_reducible refine (J0.out _).mono ?_; rintro e w1 ⟨rfl, rfl⟩) | (go_at_call 56; refine (valid24 _ _ (by unfold maxLen at hsl; omega)).mono ?_; rw [hok]; rintro e w1 ⟨rfl, rfl⟩))
                go_ret2
                exact ⟨by rw [HR.out, HX.out]; rfl, belA _⟩
              · have HX := Lib.hid (show prodGo 0 [] l = ((k : Int), 2) by rw [← hV, if_pos (by unfold prodOk; omega)])
                have J0 := Lib.hid fun W => yes29 s.price 0 1000000 z1 W
                have J1 := Lib.hid fun W => no29 s.rides 1 8 z2 W
                clear hV z1 z2
                go_wp2_with (first | (go_at_call 68; with_reducible refine (J0.out _).mono ?_; rintro e w1 ⟨rfl, rfl⟩) | (go_at_call 68; with_reducible refine (J1.out _).mono ?_; rintro e w1 ⟨rfl, rfl⟩) | (go_at_call 56; refine (valid24 _ _ (by unfold maxLen at hsl; omega)).mono ?_; rw [hok]; rintro e w1 ⟨rfl, rfl⟩))
                go_ret2
                exact ⟨by rw [HR.out, HX.out]; rfl, belA _⟩
              · have HX := Lib.hid (show prodGo 0 [] l = ((k : Int), 2) by rw [← hV, if_pos (by unfold prodOk; omega)])
                have J0 := Lib.hid fun W => yes29 s.price 0 1000000 z1 W
                have J1 := Lib.hid fun W => yes29 s.rides 1 8 z2 W
                have J2 := Lib.hid fun W => no29 s.zones 1 16 z3 W
                clear hV z1 z2 z3
                go_wp2_with (first | (go_at_call 68; with_reducible refine (J0.out _).mono ?_; rintro e w1 ⟨rfl, rfl⟩) | (go_at_call 68; with_reducible refine (J1.out _).mono ?_; rintro e w1 ⟨rfl, rfl⟩) | (go_at_call 68; with_reducible refine (J2.out _).mono ?_; rintro e w1 ⟨rfl, rfl⟩) | (go_at_call 56; refine (valid24 _ _ (by unfold maxLen at hsl; omega)).mono ?_; rw [hok]; rintro e w1 ⟨rfl, rfl⟩))
                go_ret2
                exact ⟨by rw [HR.out, HX.out]; rfl, belA _⟩
              · have HX := Lib.hid (show prodGo 0 [] l = ((k : Int), 2) by rw [← hV, if_pos (by unfold prodOk; omega)])
                have J0 := Lib.hid fun W => yes29 s.price 0 1000000 z1 W
                have J1 := Lib.hid fun W => yes29 s.rides 1 8 z2 W
                have J2 := Lib.hid fun W => yes29 s.zones 1 16 z3 W
                have J3 := Lib.hid fun W => no29 s.secs 0 86400 z4 W
                clear hV z1 z2 z3 z4
                go_wp2_with (first | (go_at_call 68; with_reducible refine (J0.out _).mono ?_; rintro e w1 ⟨rfl, rfl⟩) | (go_at_call 68; with_reducible refine (J1.out _).mono ?_; rintro e w1 ⟨rfl, rfl⟩) | (go_at_call 68; with_reducible refine (J2.out _).mono ?_; rintro e w1 ⟨rfl, rfl⟩) | (go_at_call 68; with_reducible refine (J3.out _).mono ?_; rintro e w1 ⟨rfl, rfl⟩) | (go_at_call 56; refine (valid24 _ _ (by unfold maxLen at hsl; omega)).mono ?_; rw [hok]; rintro e w1 ⟨rfl, rfl⟩))
                go_ret2
                exact ⟨by rw [HR.out, HX.out]; rfl, belA _⟩
              · have HX := Lib.hid (show prodGo 0 [] l = ((k : Int), 2) by rw [← hV, if_pos (by unfold prodOk; omega)])
                have J0 := Lib.hid fun W => yes29 s.price 0 1000000 z1 W
                have J1 := Lib.hid fun W => yes29 s.rides 1 8 z2 W
                have J2 := Lib.hid fun W => yes29 s.zones 1 16 z3 W
                have J3 := Lib.hid fun W => yes29 s.secs 0 86400 z4 W
                have J4 := Lib.hid fun W => no29 s.modes 1 255 z5 W
                clear hV z1 z2 z3 z4 z5
                go_wp2_with (first | (go_at_call 68; with_reducible refine (J0.out _).mono ?_; rintro e w1 ⟨rfl, rfl⟩) | (go_at_call 68; with_reducible refine (J1.out _).mono ?_; rintro e w1 ⟨rfl, rfl⟩) | (go_at_call 68; with_reducible refine (J2.out _).mono ?_; rintro e w1 ⟨rfl, rfl⟩) | (go_at_call 68; with_reducible refine (J3.out _).mono ?_; rintro e w1 ⟨rfl, rfl⟩) | (go_at_call 68; with_reducible refine (J4.out _).mono ?_; rintro e w1 ⟨rfl, rfl⟩) | (go_at_call 56; refine (valid24 _ _ (by unfold maxLen at hsl; omega)).mono ?_; rw [hok]; rintro e w1 ⟨rfl, rfl⟩))
                go_ret2
                exact ⟨by rw [HR.out, HX.out]; rfl, belA _⟩
              · have HX := Lib.hid (show prodGo (k + 1) (s.id.data.toList :: seen) (l.drop (k + 1)) = prodGo 0 [] l by rw [← hV, if_neg (by unfold prodOk; omega)])
                have J0 := Lib.hid fun W => yes29 s.price 0 1000000 z1 W
                have J1 := Lib.hid fun W => yes29 s.rides 1 8 z2 W
                have J2 := Lib.hid fun W => yes29 s.zones 1 16 z3 W
                have J3 := Lib.hid fun W => yes29 s.secs 0 86400 z4 W
                have J4 := Lib.hid fun W => yes29 s.modes 1 255 z5 W
                clear hV z1 z2 z3 z4 z5
                go_wp2_with (first | (go_at_call 68; with_reducible refine (J0.out _).mono ?_; rintro e w1 ⟨rfl, rfl⟩) | (go_at_call 68; with_reducible refine (J1.out _).mono ?_; rintro e w1 ⟨rfl, rfl⟩) | (go_at_call 68; with_reducible refine (J2.out _).mono ?_; rintro e w1 ⟨rfl, rfl⟩) | (go_at_call 68; with_reducible refine (J3.out _).mono ?_; rintro e w1 ⟨rfl, rfl⟩) | (go_at_call 68; with_reducible refine (J4.out _).mono ?_; rintro e w1 ⟨rfl, rfl⟩) | (go_at_call 56; refine (valid24 _ _ (by unfold maxLen at hsl; omega)).mono ?_; rw [hok]; rintro e w1 ⟨rfl, rfl⟩) | (at_mapUpdate; refine wpList_set_add _ rfl _ _ _ 111 rfl 9 keyed9 Tryz.underlying111 (w.heap.size + 1) k _ rfl (HSA.out _) (by unfold maxLen; omega) _ _ rfl rfl hkey trivial ?_; intro w1 hset1 hgrow1) | go_in)
                go_roundw
                case rel => exact ⟨k + 1, s.id.data.toList :: seen, by omega, by go_num, hset1, HX.out, (belA _).grown hgrow1 (by simp; omega) (fun j hj => by cases hj; exact Nat.le_succ _), by have := hgrow1.size; simp at this; omega⟩
                case measure => simp [intOf]; omega
        · have hlt' : ¬ (k : Int) < (l.length : Int) := by omega
          have hE := HV.out
          rw [List.drop_of_length_le (by omega)] at hE
          have HE := Lib.hid hE
          clear hE
          go_wp2
          go_ret2
          exact ⟨by rw [HR.out, ← HE.out]; rfl, hbel⟩
end Go.Proofs.Tt
