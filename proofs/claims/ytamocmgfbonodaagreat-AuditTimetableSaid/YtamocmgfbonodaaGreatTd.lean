/-
  A part of the proof: lemmas of my own.
-/
import Derived.Test.YtamocmgfbonodaaGreatTc
import Derived.Deep.RegionHeld3
import Derived.DeepKeys4
import Derived.ChangeKeys
set_option linter.unusedVariables false
set_option linter.unusedSimpArgs false
namespace Go.Proofs.Tt
open Go Go.Proofs
open Go.RowKit Go.Maps
set_option maxRecDepth 1000000

structure TripD where
  id : ByteArray
  route : Int
  cal : Int
  sf : Bool
  a : Option Addr
  cap : Nat
  calls : List CallD
def TripD.row (s : TripD) : List Value := [.string s.id, .int .i64 s.route, .int .i64 s.cal, .bool s.sf, .slice s.a s.calls.length s.cap]
def tripBad (routes cals : Int) (s : TripD) : Prop := s.route < 0 ∨ routes ≤ s.route ∨ s.cal < 0 ∨ cals ≤ s.cal
instance (routes cals : Int) (s : TripD) : Decidable (tripBad routes cals s) := by unfold tripBad; infer_instance
def tripGo (stops routes cals : Int) : Nat → List (List UInt8) → List TripD → Int × Int
  | _, _, [] => (0, 0)
  | k, seen, s :: l => if okId s.id = false then (k, 12) else if s.id.data.toList ∈ seen then (k, 6) else if tripBad routes cals s then (k, 9) else if (callsRes s.calls stops 0 172800).2 ≠ 0 then (k, (callsRes s.calls stops 0 172800).2) else tripGo stops routes cals (k + 1) (s.id.data.toList :: seen) l
def tripRes (stops routes cals : Int) (l : List TripD) : Int × Int := if 256 < l.length then (0, 5) else tripGo stops routes cals 0 [] l

theorem heapNew (w : World) (o : Obj) : (w.alloc o).heap[w.heap.size]? = some o := by show (w.heap.push o)[w.heap.size]? = some o; exact Array.getElem?_push_size

set_option maxHeartbeats 1600000 in
theorem trip29 (a : Option Addr) (cap : Nat) (l : List TripD) (stops routes cals : Int) (w : World) (hr : RowsAt w a 5 (l.map TripD.row)) (hcs : ∀ s ∈ l, RowsAt w s.a 5 (s.calls.map CallD.row) ∧ s.calls.length ≤ 9223372036854775807) (hid : ∀ s ∈ l, s.id.size ≤ maxLen) (hl : l.length ≤ 9223372036854775807) :
    Calls Tryz.prog 29 #[.slice a l.length cap, .int .i64 stops, .int .i64 routes, .int .i64 cals] w fun e w' => e = .returned (.tuple #[.int .i64 (tripRes stops routes cals l).1, .int .i64 (tripRes stops routes cals l).2]) ∧ Below w.heap.size w w' := by
  have hmm := @run_makeMap Tryz.prog
  by_cases h64 : 256 < l.length
  · have HR := Lib.hid (show tripRes stops routes cals l = (0, 5) by unfold tripRes; rw [if_pos h64])
    have h64' : (256 : Int) < (l.length : Int) := by omega
    go_enter Tryz.func29, Tryz.ntmps29
    go_wp2
    go_ret2
    exact ⟨by rw [HR.out]; rfl, Below.refl _ _⟩
  · have HR := Lib.hid (show tripRes stops routes cals l = tripGo stops routes cals 0 [] l by unfold tripRes; rw [if_neg h64])
    have h64' : ¬ (256 : Int) < (l.length : Int) := by omega
    go_enter Tryz.func29, Tryz.ntmps29
    go_wp2
    go_loopw [21] (fun i wr => ∃ (k : Nat) (seen : List (List UInt8)), k ≤ l.length ∧ i = .int .i64 k ∧ SetK 9 wr w.heap.size k (seen.map key) ∧ tripGo stops routes cals k seen (l.drop k) = tripGo stops routes cals 0 [] l ∧ Below w.heap.size w wr ∧ w.heap.size < wr.heap.size) (fun i _ => l.length - (intOf i).toNat)
    case atStart => exact ⟨0, [], Nat.zero_le _, rfl, SetK.made 9 w, rfl, (Below.refl _ _).alloc (Nat.le_refl _) _, by simp⟩
    case round =>
      obtain ⟨k, seen, hk, rfl, hset, hv, hbel, hsz⟩ := hrel
      have HV := Lib.hid hv
      clear hv
      by_cases hlt : k < l.length
      · have hlt' : (k : Int) < (l.length : Int) := by omega
        obtain ⟨s, hs⟩ : ∃ s, l[k]? = some s := ⟨l[k], List.getElem?_eq_getElem hlt⟩
        have hdrop : l.drop k = s :: l.drop (k + 1) := by
          rw [List.drop_eq_getElem_cons hlt]
          rw [List.getElem?_eq_getElem hlt] at hs
          cases hs; rfl
        have hsl : s.id.size ≤ maxLen := hid s (List.mem_of_getElem? hs)
        have hrow : (l.map TripD.row)[k]? = some s.row := by rw [List.getElem?_map, hs]; rfl
        obtain ⟨g, off, ha, hg, hc⟩ := hr k _ hrow
        subst ha
        have hcc := fun j x hx => (hbel.cell (p := ⟨g, off + k * 5 + j, none⟩) hg).trans (hc j x hx)
        have c0 : wr.cell? ⟨g, off + k * 5, none⟩ = some (.string s.id) := hcc 0 _ rfl
        have c1 : wr.cell? ⟨g, off + k * 5 + 1, none⟩ = some (.int .i64 s.route) := hcc 1 _ rfl
        have c2 : wr.cell? ⟨g, off + k * 5 + 2, none⟩ = some (.int .i64 s.cal) := hcc 2 _ rfl
        have c3 : wr.cell? ⟨g, off + k * 5 + 3, none⟩ = some (.bool s.sf) := hcc 3 _ rfl
        have c4 : wr.cell? ⟨g, off + k * 5 + 4, none⟩ = some (.slice s.a s.calls.length s.cap) := hcc 4 _ rfl
        obtain ⟨hca, hcl⟩ := hcs s (List.mem_of_getElem? hs)
        have HCA := Lib.hid hca
        have HCS := Lib.hid hcs
        clear hca hcs
        have hV := HV.out
        rw [hdrop, tripGo] at hV
        have HS := Lib.hid hset
        have HID := Lib.hid hid
        have HRR := Lib.hid hr
        clear hset hrow hs hdrop hid hr HV hc hcc
        cases hok : okId s.id
        · have HX := Lib.hid (show tripGo stops routes cals 0 [] l = ((k : Int), 12) by rw [← hV, if_pos hok])
          clear hV
          go_wp2_with (go_at_call 56; refine (valid24 _ _ (by unfold maxLen at hsl; omega)).mono ?_; rw [hok]; rintro e w1 ⟨rfl, rfl⟩)
          go_ret2
          exact ⟨by rw [HR.out, HX.out]; rfl, hbel.trans ((Below.refl _ _).alloc (by omega) _)⟩
        · rw [if_neg (by rw [hok]; decide)] at hV
          have hkey : keyOf Tryz.prog 9 (.string s.id) = some (key s.id.data.toList) := Go.WideMaps.keyOf_string_mk Tryz.underlying9 hsl
          have hsetA : ∀ o, SetK 9 (wr.alloc o) w.heap.size k (seen.map key) := fun o => HS.out.at (Below.heap_alloc _ _ _ hsz)
          have belA : ∀ o, Below w.heap.size w (wr.alloc o) := fun o => hbel.trans ((Below.refl _ _).alloc (by omega) o)
          have HSA := Lib.hid hsetA
          by_cases hin : s.id.data.toList ∈ seen
          · have HX := Lib.hid (show tripGo stops routes cals 0 [] l = ((k : Int), 6) by rw [← hV, if_pos hin])
            have hlk : ∀ o, (Instr.lookup 111 (.map (some w.heap.size)) (.string s.id) false).run Tryz.prog (wr.alloc o) = .ok (.bool true) (wr.alloc o) := fun o => ((hsetA o).look keyed9 Tryz.underlying111 hkey).1 (key_mem.2 hin)
            clear hV hsetA
            go_wp2_with (go_at_call 56; refine (valid24 _ _ (by unfold maxLen at hsl; omega)).mono ?_; rw [hok]; rintro e w1 ⟨rfl, rfl⟩)
            go_ret2
            exact ⟨by rw [HR.out, HX.out]; rfl, belA _⟩
          · rw [if_neg hin] at hV
            have hlk : ∀ o, (Instr.lookup 111 (.map (some w.heap.size)) (.string s.id) false).run Tryz.prog (wr.alloc o) = .ok (.bool false) (wr.alloc o) := fun o => ((hsetA o).look keyed9 Tryz.underlying111 hkey).2 (fun h => hin (key_mem.1 h))
            clear hsetA
            have hways : s.route < 0 ∨ (¬ s.route < 0 ∧ routes ≤ s.route) ∨ (¬ s.route < 0 ∧ ¬ routes ≤ s.route ∧ s.cal < 0) ∨ (¬ s.route < 0 ∧ ¬ routes ≤ s.route ∧ ¬ s.cal < 0 ∧ cals ≤ s.cal) ∨ (¬ s.route < 0 ∧ ¬ routes ≤ s.route ∧ ¬ s.cal < 0 ∧ ¬ cals ≤ s.cal) := by omega
            rcases hways with z1 | ⟨z1, z2⟩ | ⟨z1, z2, z3⟩ | ⟨z1, z2, z3, z4⟩ | ⟨z1, z2, z3, z4⟩
            iterate 4
              · have HX := Lib.hid (show tripGo stops routes cals 0 [] l = ((k : Int), 9) by rw [← hV, if_pos (by unfold tripBad; omega)])
                clear hV
                go_wp2_with (go_at_call 56; refine (valid24 _ _ (by unfold maxLen at hsl; omega)).mono ?_; rw [hok]; rintro e w1 ⟨rfl, rfl⟩)
                go_ret2
                exact ⟨by rw [HR.out, HX.out]; rfl, belA _⟩
            · rw [if_neg (by unfold tripBad; omega)] at hV
              obtain ⟨ci, ce, hcr⟩ : ∃ ci ce, callsRes s.calls stops 0 172800 = (ci, ce) := ⟨_, _, rfl⟩
              have HCR := Lib.hid hcr
              rw [hcr] at hV
              simp only at hV
              clear hcr
              by_cases he : ce = 0
              · subst he
                have HX := Lib.hid (show tripGo stops routes cals (k + 1) (s.id.data.toList :: seen) (l.drop (k + 1)) = tripGo stops routes cals 0 [] l by rw [← hV, if_neg (by simp)])
                clear hV
                go_wp2_with (first | (go_at_call 56; refine (valid24 _ _ (by unfold maxLen at hsl; omega)).mono ?_; rw [hok]; rintro e w1 ⟨rfl, rfl⟩) | (go_at_call 59; refine (callsA s.a s.cap s.calls stops 0 172800 _ (HCA.out.below (hbel.trans (((Below.refl _ wr).alloc (Nat.le_refl _) _).mono hbel.size))) hcl).mono ?_; rw [HCR.out]; rintro e w2 ⟨rfl, hb2⟩; have bc := (hb2.block wr.heap.size (by simp)).trans (heapNew wr (Obj.cells #[Value.string s.id, .int .i64 s.route, .int .i64 s.cal, .bool s.sf, .slice s.a s.calls.length s.cap] 43)); have bx0 : w2.cell? ⟨wr.heap.size, 0, none⟩ = some (.string s.id) := (by simp [World.cell?, bc]); have HS2 := Lib.hid ((HSA.out (Obj.cells #[Value.string s.id, .int .i64 s.route, .int .i64 s.cal, .bool s.sf, .slice s.a s.calls.length s.cap] 43)).below (by simp; omega) hb2); have hbel2 := (belA (Obj.cells #[Value.string s.id, .int .i64 s.route, .int .i64 s.cal, .bool s.sf, .slice s.a s.calls.length s.cap] 43)).trans (hb2.mono (by simp; omega))) | (at_mapUpdate; refine wpList_set_add _ rfl _ _ _ 111 rfl 9 keyed9 Tryz.underlying111 w.heap.size k _ rfl HS2.out (by unfold maxLen; omega) _ _ rfl rfl hkey trivial ?_; intro w1 hset1 hgrow1) | go_in)
                go_roundw
                case rel => exact ⟨k + 1, s.id.data.toList :: seen, by omega, by go_num, hset1, HX.out, hbel2.grown hgrow1 (by have := hb2.size; simp at this; omega) (fun j hj => by cases hj; exact Nat.le_refl _), by have h1 := hgrow1.size; have h2 := hb2.size; simp at h2; omega⟩
                case measure => simp [intOf]; omega
              · have HX := Lib.hid (show tripGo stops routes cals 0 [] l = ((k : Int), ce) by rw [← hV, if_pos he])
                clear hV
                go_wp2_with (first | (go_at_call 56; refine (valid24 _ _ (by unfold maxLen at hsl; omega)).mono ?_; rw [hok]; rintro e w1 ⟨rfl, rfl⟩) | (go_at_call 59; refine (callsA s.a s.cap s.calls stops 0 172800 _ (HCA.out.below (hbel.trans (((Below.refl _ wr).alloc (Nat.le_refl _) _).mono hbel.size))) hcl).mono ?_; rw [HCR.out]; rintro e w2 ⟨rfl, hb2⟩; have bc := (hb2.block wr.heap.size (by simp)).trans (heapNew wr (Obj.cells #[Value.string s.id, .int .i64 s.route, .int .i64 s.cal, .bool s.sf, .slice s.a s.calls.length s.cap] 43)); have bx0 : w2.cell? ⟨wr.heap.size, 0, none⟩ = some (.string s.id) := (by simp [World.cell?, bc]); have HS2 := Lib.hid ((HSA.out (Obj.cells #[Value.string s.id, .int .i64 s.route, .int .i64 s.cal, .bool s.sf, .slice s.a s.calls.length s.cap] 43)).below (by simp; omega) hb2); have hbel2 := (belA (Obj.cells #[Value.string s.id, .int .i64 s.route, .int .i64 s.cal, .bool s.sf, .slice s.a s.calls.length s.cap] 43)).trans (hb2.mono (by simp; omega))))
                go_ret2
                exact ⟨by rw [HR.out, HX.out]; rfl, hbel2⟩
      · have hlt' : ¬ (k : Int) < (l.length : Int) := by omega
        have hE := HV.out
        rw [List.drop_of_length_le (by omega)] at hE
        have HE := Lib.hid hE
        clear hE
        go_wp2
        go_ret2
        exact ⟨by rw [HR.out, ← HE.out]; rfl, hbel⟩
end Go.Proofs.Tt

namespace Go.Proofs.Tt
open Go Go.Proofs
open Go.RowKit Go.Maps
set_option maxRecDepth 1000000

structure FrqD where
  trip : Int
  fr : Int
  to_ : Int
  ev : Int
def FrqD.row (f : FrqD) : List Value := [.int .i64 f.trip, .int .i64 f.fr, .int .i64 f.to_, .int .i64 f.ev]
abbrev FrqD.val (f : FrqD) : Value := .agg #[.int .i64 f.trip, .int .i64 f.fr, .int .i64 f.to_, .int .i64 f.ev]
def soundS (f : FrqD) : Prop := 0 ≤ f.fr ∧ f.fr < f.to_ ∧ f.to_ ≤ 172800 ∧ 1 ≤ f.ev ∧ f.ev ≤ 86400
instance (f : FrqD) : Decidable (soundS f) := by unfold soundS; infer_instance
theorem sound60 (f : FrqD) (w : World) : Calls Tryz.prog 60 #[f.val] w fun e w' => e = .returned (.bool (decide (soundS f))) ∧ Below w.heap.size w w' := by
  obtain ⟨q, hq⟩ : ∃ q, decide (soundS f) = q := ⟨_, rfl⟩
  rw [hq]
  have HQ := Lib.hid hq
  clear hq
  obtain ⟨tr, a, b, c⟩ := f
  have hw : a < 0 ∨ (0 ≤ a ∧ ¬ a < b) ∨ (0 ≤ a ∧ a < b ∧ ¬ b ≤ 172800) ∨ (0 ≤ a ∧ a < b ∧ b ≤ 172800 ∧ ¬ 1 ≤ c) ∨ (0 ≤ a ∧ a < b ∧ b ≤ 172800 ∧ 1 ≤ c ∧ ¬ c ≤ 86400) ∨ (0 ≤ a ∧ a < b ∧ b ≤ 172800 ∧ 1 ≤ c ∧ c ≤ 86400) := by omega
  rcases hw with z1 | ⟨z1, z2⟩ | ⟨z1, z2, z3⟩ | ⟨z1, z2, z3, z4⟩ | ⟨z1, z2, z3, z4, z5⟩ | ⟨z1, z2, z3, z4, z5⟩
  iterate 5
    · have HX := Lib.hid (show q = false by rw [← HQ.out]; exact decide_eq_false (by unfold soundS; simp only; omega))
      go_enter Tryz.func60, Tryz.ntmps60
      go_wp2
      go_ret
      exact ⟨by rw [HX.out]; rfl, (Below.refl _ _).alloc (Nat.le_refl _) _⟩
  · have HX := Lib.hid (show q = true by rw [← HQ.out]; exact decide_eq_true (by unfold soundS; simp only; omega))
    go_enter Tryz.func60, Tryz.ntmps60
    go_wp2
    go_ret
    exact ⟨by rw [HX.out]; rfl, (Below.refl _ _).alloc (Nat.le_refl _) _⟩

/-- how many starts -/
def cntS (f : FrqD) : Int := (f.to_ - f.fr + f.ev - 1) / f.ev
theorem count62 (f : FrqD) (w : World) (h : soundS f) : Calls Tryz.prog 62 #[f.val] w fun e w' => e = .returned (.int .i64 (cntS f)) ∧ Below w.heap.size w w' := by
  obtain ⟨tr, a, b, c⟩ := f
  obtain ⟨h1, h2, h3, h4, h5⟩ := h
  simp only at h1 h2 h3 h4 h5
  have w1 : IntKind.i64.wrap (b - a) = b - a := by simp only [IntKind.wrap, IntKind.signed, IntKind.bits]; simp; omega
  have w2 : IntKind.i64.wrap (b - a + c) = b - a + c := by simp only [IntKind.wrap, IntKind.signed, IntKind.bits]; simp; omega
  have w3 : IntKind.i64.wrap (b - a + c - 1) = b - a + c - 1 := by simp only [IntKind.wrap, IntKind.signed, IntKind.bits]; simp; omega
  have h0 : ¬ c = 0 := by omega
  go_enter Tryz.func62, Tryz.ntmps62
  go_wp2
  go_ret
  exact ⟨rfl, (Below.refl _ _).alloc (Nat.le_refl _) _⟩
theorem cnt_bounds (f : FrqD) (h : soundS f) : 1 ≤ cntS f ∧ cntS f ≤ 172800 ∧ 0 ≤ (cntS f - 1) * f.ev ∧ (cntS f - 1) * f.ev ≤ f.to_ - f.fr - 1 := by
  obtain ⟨h1, h2, h3, h4, h5⟩ := h
  obtain ⟨tr, a, b, c⟩ := f
  simp only at h1 h2 h3 h4 h5
  unfold cntS
  simp only
  have q1 : (b - a + c - 1) / c * c ≤ b - a + c - 1 := Int.ediv_mul_le _ (by omega)
  have q2 : 1 ≤ (b - a + c - 1) / c := by
    rw [Int.le_ediv_iff_mul_le (by omega)]; omega
  generalize (b - a + c - 1) / c = q at q1 q2
  have q3 : (q - 1) * c = q * c - c := by rw [Int.sub_mul, Int.one_mul]
  have q4 : q ≤ q * c := by
    have := Int.mul_le_mul_of_nonneg_left h4 (show 0 ≤ q by omega)
    simpa using this
  refine ⟨q2, ?_, ?_, ?_⟩
  · have q5 : (q - 1) * 1 ≤ (q - 1) * c := Int.mul_le_mul_of_nonneg_left h4 (by omega)
    rw [q3, Int.mul_one] at q5
    omega
  · exact Int.mul_nonneg (by omega) (by omega)
  · rw [q3]; omega
/-- a frequency's own box -/
abbrev FqS (w : World) (tr a b c : Int) (wx : World) : Prop := wx.cell? ⟨w.heap.size, 0, none⟩ = some (.int .i64 tr) ∧ wx.cell? ⟨w.heap.size, 1, none⟩ = some (.int .i64 a) ∧ wx.cell? ⟨w.heap.size, 2, none⟩ = some (.int .i64 b) ∧ wx.cell? ⟨w.heap.size, 3, none⟩ = some (.int .i64 c) ∧ w.heap.size < wx.heap.size ∧ Below w.heap.size w wx
theorem FqS.of {w wx : World} {tr a b c : Int} {T : TypeId} (h : wx.heap[w.heap.size]? = some (.cells #[.int .i64 tr, .int .i64 a, .int .i64 b, .int .i64 c] T (0, 0))) (hb : Below w.heap.size w wx) : FqS w tr a b c wx := by
  refine ⟨?_, ?_, ?_, ?_, (Array.getElem?_eq_some_iff.1 h).1, hb⟩ <;> simp [World.cell?, h]
theorem FqS.keep {w w1 w2 : World} {tr a b c : Int} (hb : Below w1.heap.size w1 w2) (h : FqS w tr a b c w1) : FqS w tr a b c w2 := by
  obtain ⟨q0, q1, q2, q3, q4, q5⟩ := h
  have k := fun (o : Nat) => hb.cell (p := ⟨w.heap.size, o, none⟩) q4
  exact ⟨(k 0).trans q0, (k 1).trans q1, (k 2).trans q2, (k 3).trans q3, Nat.lt_of_lt_of_le q4 hb.size, q5.trans (hb.mono q5.size)⟩
/-- the last start -/
def lastS (f : FrqD) : Int := f.fr + (cntS f - 1) * f.ev
theorem last81 (f : FrqD) (w : World) (h : soundS f) : Calls Tryz.prog 81 #[f.val] w fun e w' => e = .returned (.int .i64 (lastS f)) ∧ Below w.heap.size w w' := by
  obtain ⟨b1, b2, b3, b4⟩ := cnt_bounds f h
  have HL := Lib.hid (show f.fr + (cntS f - 1) * f.ev = lastS f from rfl)
  have HC := Lib.hid (fun w => count62 f w h)
  obtain ⟨h1, h2, h3, h4, h5⟩ := h
  obtain ⟨tr, a, b, c⟩ := f
  simp only at h1 h2 h3 h4 h5 HL HC b1 b2 b3 b4
  generalize cntS ⟨tr, a, b, c⟩ = q at HL HC b1 b2 b3 b4
  generalize lastS ⟨tr, a, b, c⟩ = L at HL
  have w1 : IntKind.i64.wrap (q - 1) = q - 1 := by simp only [IntKind.wrap, IntKind.signed, IntKind.bits]; simp; omega
  have w2 : IntKind.i64.wrap ((q - 1) * c) = (q - 1) * c := by simp only [IntKind.wrap, IntKind.signed, IntKind.bits]; simp; omega
  have w3 : IntKind.i64.wrap (a + (q - 1) * c) = a + (q - 1) * c := by simp only [IntKind.wrap, IntKind.signed, IntKind.bits]; simp; omega
  have hbx := heapNew w (Obj.cells #[.int .i64 tr, .int .i64 a, .int .i64 b, .int .i64 c] 123)
  have hS : FqS w tr a b c (w.alloc (Obj.cells #[.int .i64 tr, .int .i64 a, .int .i64 b, .int .i64 c] 123)) := FqS.of hbx ((Below.refl _ _).alloc (Nat.le_refl _) _)
  go_enter Tryz.func81, Tryz.ntmps81
  go_wp2_with fail
  go_region_held3 (fun wx => FqS w tr a b c wx)
    (first | assumption | (exact FqS.keep (by assumption) (by assumption)) | (exact FqS.keep ((Below.refl _ _).drew) (by assumption)) | go_keep)
    (first | (go_at_call 62; refine (HC.out _).mono ?_; rintro e w2 ⟨rfl, hb2⟩))
  rename_i hH
  go_wp2
  go_ret
  exact ⟨by rw [← HL.out]; rfl, hH.2.2.2.2.2⟩
def farS (x : Int) : Bool := decide (x < -2305843009213693952) || decide (2305843009213693952 < x)
theorem far102 (x : Int) (w : World) : Calls Tryz.prog 102 #[.int .i64 x] w fun e w' => e = .returned (.bool (farS x)) ∧ w = w' := by
  obtain ⟨q, hq⟩ : ∃ q, farS x = q := ⟨_, rfl⟩
  rw [hq]
  unfold farS at hq
  have HQ := Lib.hid hq
  clear hq
  have hw : x < -2305843009213693952 ∨ (¬ x < -2305843009213693952 ∧ 2305843009213693952 < x) ∨ (¬ x < -2305843009213693952 ∧ ¬ 2305843009213693952 < x) := by omega
  rcases hw with z1 | ⟨z1, z2⟩ | ⟨z1, z2⟩
  · have HX := Lib.hid (show q = true by rw [← HQ.out]; simp [z1])
    go_enter Tryz.func102, Tryz.ntmps102
    go_wp2
    go_ret
    exact ⟨by rw [HX.out]; rfl, rfl⟩
  · have HX := Lib.hid (show q = true by rw [← HQ.out]; simp [z2])
    go_enter Tryz.func102, Tryz.ntmps102
    go_wp2
    go_ret
    exact ⟨by rw [HX.out]; rfl, rfl⟩
  · have HX := Lib.hid (show q = false by rw [← HQ.out]; simp; omega)
    go_enter Tryz.func102, Tryz.ntmps102
    go_wp2
    go_ret
    exact ⟨by rw [HX.out]; rfl, rfl⟩
theorem farF (x : Int) (w : World) (h : 0 ≤ x ∧ x ≤ 172800) : Calls Tryz.prog 102 #[.int .i64 x] w fun e w' => e = .returned (.bool false) ∧ w = w' := by
  have : farS x = false := by unfold farS; simp; omega
  rw [← this]; exact far102 x w
set_option maxHeartbeats 1000000 in
/-- a time moved: the parts are times of the day -/
theorem moved93 (t f s : Int) (w : World) (ht : 0 ≤ t ∧ t ≤ 172800) (hf : 0 ≤ f ∧ f ≤ 172800) (hs : 0 ≤ s ∧ s ≤ 172800) : Calls Tryz.prog 93 #[.int .i64 t, .int .i64 f, .int .i64 s] w fun e w' => e = .returned (.tuple #[.int .i64 (t - f + s), .bool (decide (0 ≤ t - f + s ∧ t - f + s ≤ 172800))]) ∧ w = w' := by
  obtain ⟨q, hq⟩ : ∃ q, decide (0 ≤ t - f + s ∧ t - f + s ≤ 172800) = q := ⟨_, rfl⟩
  rw [hq]
  have HQ := Lib.hid hq
  clear hq
  have w1 : IntKind.i64.wrap (t - f) = t - f := by simp only [IntKind.wrap, IntKind.signed, IntKind.bits]; simp; omega
  obtain ⟨n, hn⟩ : ∃ n, t - f + s = n := ⟨_, rfl⟩
  have w2 : IntKind.i64.wrap (t - f + s) = n := by rw [← hn]; simp only [IntKind.wrap, IntKind.signed, IntKind.bits]; simp; omega
  rw [hn] at HQ ⊢
  clear hn
  have FT := Lib.hid (fun w => farF t w ht)
  have FF := Lib.hid (fun w => farF f w hf)
  have FS := Lib.hid (fun w => farF s w hs)
  have hw : n < 0 ∨ (0 ≤ n ∧ ¬ n ≤ 172800) ∨ (0 ≤ n ∧ n ≤ 172800) := by omega
  clear ht hf hs
  rcases hw with z1 | ⟨z1, z2⟩ | ⟨z1, z2⟩
  iterate 2
    · have HX := Lib.hid (show q = false by rw [← HQ.out]; exact decide_eq_false (by omega))
      go_enter Tryz.func93, Tryz.ntmps93
      go_wp2_with (go_at_call 102; first | (with_reducible refine (FT.out _).mono ?_; rintro e w2 ⟨rfl, rfl⟩) | (with_reducible refine (FF.out _).mono ?_; rintro e w2 ⟨rfl, rfl⟩) | (with_reducible refine (FS.out _).mono ?_; rintro e w2 ⟨rfl, rfl⟩))
      go_ret2
      exact ⟨by rw [HX.out]; first | rfl | (show Ending.returned (Value.tuple #[.int .i64 n, .bool (decide (n ≤ 172800))]) = _; rw [decide_eq_false (by omega)]) | (show Ending.returned (Value.tuple #[.int .i64 n, .bool (decide (n ≤ 172800))]) = _; rw [decide_eq_true (by omega)]), rfl⟩
  · have HX := Lib.hid (show q = true by rw [← HQ.out]; exact decide_eq_true (by omega))
    go_enter Tryz.func93, Tryz.ntmps93
    go_wp2_with (go_at_call 102; first | (with_reducible refine (FT.out _).mono ?_; rintro e w2 ⟨rfl, rfl⟩) | (with_reducible refine (FF.out _).mono ?_; rintro e w2 ⟨rfl, rfl⟩) | (with_reducible refine (FS.out _).mono ?_; rintro e w2 ⟨rfl, rfl⟩))
    go_ret2
    exact ⟨by rw [HX.out]; first | rfl | (show Ending.returned (Value.tuple #[.int .i64 n, .bool (decide (n ≤ 172800))]) = _; rw [decide_eq_false (by omega)]) | (show Ending.returned (Value.tuple #[.int .i64 n, .bool (decide (n ≤ 172800))]) = _; rw [decide_eq_true (by omega)]), rfl⟩
end Go.Proofs.Tt

namespace Go.Proofs.Tt
open Go Go.Proofs
open Go.RowKit Go.Maps
set_option maxRecDepth 1000000

def inW (n : Int) : Prop := (Lit.int .i64 n).wf = true
theorem cellsI : Tryz.prog.cellsOf 3 = 1 := by kernel_rfl
theorem cellsB : Tryz.prog.cellsOf 4 = 1 := by kernel_rfl
theorem cells2 : Tryz.prog.cellsOf 120 = 2 := by kernel_rfl
theorem cellsP : Tryz.prog.cellsOf 170 = 3 := by kernel_rfl
theorem cellsG : Tryz.prog.cellsOf 136 = 3 := by kernel_rfl
theorem keyedE : Keyed Tryz.prog 120 := Keyed.of_law (deep_law_laid (m := 3) (by kernel_rfl) (by decide) (by decide +kernel) (by kernel_rfl) (by kernel_rfl))
theorem keyedP : Keyed Tryz.prog 170 := Keyed.of_law (deep_law_laid (m := 3) (by kernel_rfl) (by decide) (by decide +kernel) (by kernel_rfl) (by kernel_rfl))
theorem keyedG : Keyed Tryz.prog 136 := Keyed.of_law (deep_law_laid (m := 3) (by kernel_rfl) (by decide) (by decide +kernel) (by kernel_rfl) (by kernel_rfl))
theorem keyedI : Keyed Tryz.prog 3 := int_keyed Tryz.underlying3
def ekey (x : Int × Int) : Lit := .string (keyBytes [.int .i64 x.1, .int .i64 x.2])
def pkey (x : Int × Int × Bool) : Lit := .string (keyBytes [.int .i64 x.1, .int .i64 x.2.1, .bool x.2.2])
def gkey (x : Int × Int × Int) : Lit := .string (keyBytes [.int .i64 x.1, .int .i64 x.2.1, .int .i64 x.2.2])
theorem litsE (n : Nat) (a b : Int) (ha : inW a) (hb : inW b) : Tryz.prog.keyLits (n + 2) 120 [.int .i64 a, .int .i64 b] = some [.int .i64 a, .int .i64 b] := by
  unfold inW at ha hb
  have hr : List.range 2 = [0, 1] := rfl
  simp [Program.keyLits, Tryz.underlying120, Tryz.underlying3, cellsI, cells2, ha, hb, hr]
theorem keyOfE (a b : Int) (ha : inW a) (hb : inW b) : keyOf Tryz.prog 120 (.agg #[.int .i64 a, .int .i64 b]) = some (ekey (a, b)) := by
  have h1 : Tryz.prog.keyType 120 = true := by kernel_rfl
  have h2 : (Value.agg #[.int .i64 a, .int .i64 b]).formed Tryz.prog 120 = true := by kernel_rfl
  have h3 : Tryz.prog.types.size + 1 = (Tryz.prog.types.size - 1) + 2 := by decide +kernel
  unfold keyOf
  rw [Tryz.underlying120]
  simp only [h1, h2, Bool.and_self, if_true]
  rw [h3]
  show (Tryz.prog.keyLits _ 120 [.int .i64 a, .int .i64 b]).map _ = _
  rw [litsE _ a b ha hb]
  rfl
theorem ekey_inj {x y : Int × Int} (x1 : inW x.1) (x2 : inW x.2) (y1 : inW y.1) (y2 : inW y.2) (h : ekey x = ekey y) : x = y := by
  unfold ekey at h
  simp only [Lit.string.injEq] at h
  have := keyBytes_inj (l := [.int .i64 x.1, .int .i64 x.2]) (l' := [.int .i64 y.1, .int .i64 y.2]) (by simp [Alike, Lit.sameKind]) (by simp [Lit.keyWf]; exact ⟨x1, x2⟩) (by simp [Lit.keyWf]; exact ⟨y1, y2⟩) h
  simp only [List.cons.injEq, Lit.int.injEq, true_and, and_true] at this
  obtain ⟨a, b⟩ := x
  obtain ⟨a', b'⟩ := y
  simp only at this
  rw [this.1, this.2]
theorem litsP (n : Nat) (a b : Int) (c : Bool) (ha : inW a) (hb : inW b) : Tryz.prog.keyLits (n + 2) 170 [.int .i64 a, .int .i64 b, .bool c] = some [.int .i64 a, .int .i64 b, .bool c] := by
  unfold inW at ha hb
  simp [Program.keyLits, Tryz.underlying170, Tryz.underlying3, Tryz.underlying4, cellsI, cellsB, cellsP, ha, hb]
theorem keyOfP (a b : Int) (c : Bool) (ha : inW a) (hb : inW b) : keyOf Tryz.prog 170 (.agg #[.int .i64 a, .int .i64 b, .bool c]) = some (pkey (a, b, c)) := by
  have h1 : Tryz.prog.keyType 170 = true := by kernel_rfl
  have h2 : (Value.agg #[.int .i64 a, .int .i64 b, .bool c]).formed Tryz.prog 170 = true := by kernel_rfl
  have h3 : Tryz.prog.types.size + 1 = (Tryz.prog.types.size - 1) + 2 := by decide +kernel
  unfold keyOf
  rw [Tryz.underlying170]
  simp only [h1, h2, Bool.and_self, if_true]
  rw [h3]
  show (Tryz.prog.keyLits _ 170 [.int .i64 a, .int .i64 b, .bool c]).map _ = _
  rw [litsP _ a b c ha hb]
  rfl
theorem pkey_inj {x y : Int × Int × Bool} (x1 : inW x.1) (x2 : inW x.2.1) (y1 : inW y.1) (y2 : inW y.2.1) (h : pkey x = pkey y) : x = y := by
  unfold pkey at h
  simp only [Lit.string.injEq] at h
  have := keyBytes_inj (l := [.int .i64 x.1, .int .i64 x.2.1, .bool x.2.2]) (l' := [.int .i64 y.1, .int .i64 y.2.1, .bool y.2.2]) (by simp [Alike, Lit.sameKind]) (by simp [Lit.keyWf]; exact ⟨x1, x2⟩) (by simp [Lit.keyWf]; exact ⟨y1, y2⟩) h
  simp only [List.cons.injEq, Lit.int.injEq, Lit.bool.injEq, true_and, and_true] at this
  obtain ⟨a, b, c⟩ := x
  obtain ⟨a', b', c'⟩ := y
  simp only at this
  rw [this.1, this.2.1, this.2.2]
theorem litsG (n : Nat) (a b c : Int) (ha : inW a) (hb : inW b) (hc : inW c) : Tryz.prog.keyLits (n + 2) 136 [.int .i64 a, .int .i64 b, .int .i64 c] = some [.int .i64 a, .int .i64 b, .int .i64 c] := by
  unfold inW at ha hb hc
  simp [Program.keyLits, Tryz.underlying136, Tryz.underlying3, cellsI, cellsG, ha, hb, hc]
theorem keyOfG (a b c : Int) (ha : inW a) (hb : inW b) (hc : inW c) : keyOf Tryz.prog 136 (.agg #[.int .i64 a, .int .i64 b, .int .i64 c]) = some (gkey (a, b, c)) := by
  have h1 : Tryz.prog.keyType 136 = true := by kernel_rfl
  have h2 : (Value.agg #[.int .i64 a, .int .i64 b, .int .i64 c]).formed Tryz.prog 136 = true := by kernel_rfl
  have h3 : Tryz.prog.types.size + 1 = (Tryz.prog.types.size - 1) + 2 := by decide +kernel
  unfold keyOf
  rw [Tryz.underlying136]
  simp only [h1, h2, Bool.and_self, if_true]
  rw [h3]
  show (Tryz.prog.keyLits _ 136 [.int .i64 a, .int .i64 b, .int .i64 c]).map _ = _
  rw [litsG _ a b c ha hb hc]
  rfl
theorem gkey_inj {x y : Int × Int × Int} (x1 : inW x.1) (x2 : inW x.2.1) (x3 : inW x.2.2) (y1 : inW y.1) (y2 : inW y.2.1) (y3 : inW y.2.2) (h : gkey x = gkey y) : x = y := by
  unfold gkey at h
  simp only [Lit.string.injEq] at h
  have := keyBytes_inj (l := [.int .i64 x.1, .int .i64 x.2.1, .int .i64 x.2.2]) (l' := [.int .i64 y.1, .int .i64 y.2.1, .int .i64 y.2.2]) (by simp [Alike, Lit.sameKind]) (by simp [Lit.keyWf]; exact ⟨x1, x2, x3⟩) (by simp [Lit.keyWf]; exact ⟨y1, y2, y3⟩) h
  simp only [List.cons.injEq, Lit.int.injEq, true_and, and_true] at this
  obtain ⟨a, b, c⟩ := x
  obtain ⟨a', b', c'⟩ := y
  simp only at this
  rw [this.1, this.2.1, this.2.2]
end Go.Proofs.Tt

namespace Go.Proofs.Tt
open Go Go.Proofs
open Go.RowKit Go.Maps
set_option maxRecDepth 1000000

structure ExcD where
  cal : Int
  day : Int
  added : Bool
def ExcD.row (s : ExcD) : List Value := [.int .i64 s.cal, .int .i64 s.day, .bool s.added]
def excGo (cals : Int) : Nat → List (Int × Int) → List ExcD → Int × Int
  | _, _, [] => (0, 0)
  | k, seen, s :: l => if s.cal < 0 ∨ cals ≤ s.cal then (k, 9) else if dateOk s.day = false then (k, 11) else if (s.cal, s.day) ∈ seen then (k, 6) else excGo cals (k + 1) ((s.cal, s.day) :: seen) l
def excRes (cals : Int) (l : List ExcD) : Int × Int := if 256 < l.length then (0, 5) else excGo cals 0 [] l
theorem ekey_mem {a : Int × Int} {l : List (Int × Int)} (ha : inW a.1 ∧ inW a.2) (hl : ∀ x ∈ l, inW x.1 ∧ inW x.2) : ekey a ∈ l.map ekey ↔ a ∈ l := by
  rw [List.mem_map]
  exact ⟨fun ⟨x, h1, h2⟩ => by have := ekey_inj (hl x h1).1 (hl x h1).2 ha.1 ha.2 h2; rw [← this]; exact h1, fun h => ⟨a, h, rfl⟩⟩

set_option maxHeartbeats 1600000 in
theorem exc27 (a : Option Addr) (cap : Nat) (l : List ExcD) (cals : Int) (w : World) (hr : RowsAt w a 3 (l.map ExcD.row)) (hid : ∀ s ∈ l, inW s.cal ∧ inW s.day) (hl : l.length ≤ 9223372036854775807) :
    Calls Tryz.prog 27 #[.slice a l.length cap, .int .i64 cals] w fun e w' => e = .returned (.tuple #[.int .i64 (excRes cals l).1, .int .i64 (excRes cals l).2]) ∧ Below w.heap.size w w' := by
  have hmm := @run_makeMap Tryz.prog
  by_cases h64 : 256 < l.length
  · have HR := Lib.hid (show excRes cals l = (0, 5) by unfold excRes; rw [if_pos h64])
    have h64' : (256 : Int) < (l.length : Int) := by omega
    go_enter Tryz.func27, Tryz.ntmps27
    go_wp2
    go_ret2
    exact ⟨by rw [HR.out]; rfl, Below.refl _ _⟩
  · have HR := Lib.hid (show excRes cals l = excGo cals 0 [] l by unfold excRes; rw [if_neg h64])
    have h64' : ¬ (256 : Int) < (l.length : Int) := by omega
    go_enter Tryz.func27, Tryz.ntmps27
    go_wp2
    go_loopw [16] (fun i wr => ∃ (k : Nat) (seen : List (Int × Int)), k ≤ l.length ∧ i = .int .i64 k ∧ SetK 120 wr w.heap.size k (seen.map ekey) ∧ excGo cals k seen (l.drop k) = excGo cals 0 [] l ∧ (∀ x ∈ seen, inW x.1 ∧ inW x.2) ∧ Below w.heap.size w wr ∧ w.heap.size < wr.heap.size) (fun i _ => l.length - (intOf i).toNat)
    case atStart => exact ⟨0, [], Nat.zero_le _, rfl, SetK.made 120 w, rfl, (fun x hx => by cases hx), (Below.refl _ _).alloc (Nat.le_refl _) _, by simp⟩
    case round =>
      obtain ⟨k, seen, hk, rfl, hset, hv, hsw, hbel, hsz⟩ := hrel
      have HV := Lib.hid hv
      have HSW := Lib.hid hsw
      clear hv hsw
      by_cases hlt : k < l.length
      · have hlt' : (k : Int) < (l.length : Int) := by omega
        obtain ⟨s, hs⟩ : ∃ s, l[k]? = some s := ⟨l[k], List.getElem?_eq_getElem hlt⟩
        have hdrop : l.drop k = s :: l.drop (k + 1) := by
          rw [List.drop_eq_getElem_cons hlt]
          rw [List.getElem?_eq_getElem hlt] at hs
          cases hs; rfl
        obtain ⟨hw1, hw2⟩ := hid s (List.mem_of_getElem? hs)
        have hrow : (l.map ExcD.row)[k]? = some s.row := by rw [List.getElem?_map, hs]; rfl
        obtain ⟨g, off, ha, hg, hc⟩ := hr k _ hrow
        subst ha
        have hcc := fun j x hx => (hbel.cell (p := ⟨g, off + k * 3 + j, none⟩) hg).trans (hc j x hx)
        have c0 : wr.cell? ⟨g, off + k * 3, none⟩ = some (.int .i64 s.cal) := hcc 0 _ rfl
        have c1 : wr.cell? ⟨g, off + k * 3 + 1, none⟩ = some (.int .i64 s.day) := hcc 1 _ rfl
        have c2 : wr.cell? ⟨g, off + k * 3 + 2, none⟩ = some (.bool s.added) := hcc 2 _ rfl
        have hV := HV.out
        rw [hdrop, excGo] at hV
        have HS := Lib.hid hset
        have HID := Lib.hid hid
        have HRR := Lib.hid hr
        have hkey : keyOf Tryz.prog 120 (.agg #[.int .i64 s.cal, .int .i64 s.day]) = some (ekey (s.cal, s.day)) := keyOfE _ _ hw1 hw2
        have hmem := ekey_mem (a := (s.cal, s.day)) ⟨hw1, hw2⟩ HSW.out
        have hsetA : ∀ o o', SetK 120 ((wr.alloc o).alloc o') w.heap.size k (seen.map ekey) := fun o o' => (HS.out.at (Below.heap_alloc _ _ _ hsz)).at (Below.heap_alloc _ _ _ (by simp; omega))
        have belA : ∀ o o', Below w.heap.size w ((wr.alloc o).alloc o') := fun o o' => (hbel.trans ((Below.refl _ _).alloc (by omega) o)).trans ((Below.refl _ _).alloc (by simp; omega) o')
        have HSA := Lib.hid hsetA
        have HMEM := Lib.hid hmem
        have HW := Lib.hid (And.intro hw1 hw2)
        clear hset hrow hs hdrop hid hr HV hc hcc hmem hw1 hw2
        have hways : s.cal < 0 ∨ (¬ s.cal < 0 ∧ cals ≤ s.cal) ∨ (¬ s.cal < 0 ∧ ¬ cals ≤ s.cal ∧ dateOk s.day = false) ∨ (¬ s.cal < 0 ∧ ¬ cals ≤ s.cal ∧ dateOk s.day = true) := by
          cases dateOk s.day <;> simp <;> omega
        rcases hways with z1 | ⟨z1, z2⟩ | ⟨z1, z2, z3⟩ | ⟨z1, z2, z3⟩
        iterate 2
          · have HX := Lib.hid (show excGo cals 0 [] l = ((k : Int), 9) by rw [← hV, if_pos (by omega)])
            clear hV hsetA
            go_wp2
            go_ret2
            exact ⟨by rw [HR.out, HX.out]; rfl, belA _ _⟩
        · have HX := Lib.hid (show excGo cals 0 [] l = ((k : Int), 11) by rw [← hV, if_neg (by omega), if_pos z3])
          clear hV hsetA
          go_wp2_with (go_at_call 58; refine (dateF _ _ z3).mono ?_; rintro e w1 ⟨rfl, rfl⟩)
          go_ret2
          exact ⟨by rw [HR.out, HX.out]; rfl, belA _ _⟩
        · rw [if_neg (by omega), if_neg (by rw [z3]; decide)] at hV
          by_cases hin : (s.cal, s.day) ∈ seen
          · have HX := Lib.hid (show excGo cals 0 [] l = ((k : Int), 6) by rw [← hV, if_pos hin])
            have hlk : ∀ o o', (Instr.lookup 117 (.map (some w.heap.size)) (.agg #[.int .i64 s.cal, .int .i64 s.day]) false).run Tryz.prog ((wr.alloc o).alloc o') = .ok (.bool true) ((wr.alloc o).alloc o') := fun o o' => ((hsetA o o').look keyedE Tryz.underlying117 hkey).1 (HMEM.out.2 hin)
            clear hV hsetA
            go_wp2_with (go_at_call 58; refine (dateT _ _ z3).mono ?_; rintro e w1 ⟨rfl, rfl⟩)
            go_ret2
            exact ⟨by rw [HR.out, HX.out]; rfl, belA _ _⟩
          · rw [if_neg hin] at hV
            have hlk : ∀ o o', (Instr.lookup 117 (.map (some w.heap.size)) (.agg #[.int .i64 s.cal, .int .i64 s.day]) false).run Tryz.prog ((wr.alloc o).alloc o') = .ok (.bool false) ((wr.alloc o).alloc o') := fun o o' => ((hsetA o o').look keyedE Tryz.underlying117 hkey).2 (fun h => hin (HMEM.out.1 h))
            have HX := Lib.hid (show excGo cals (k + 1) ((s.cal, s.day) :: seen) (l.drop (k + 1)) = excGo cals 0 [] l from hV)
            clear hV hsetA
            go_wp2_with (first | (go_at_call 58; refine (dateT _ _ z3).mono ?_; rintro e w1 ⟨rfl, rfl⟩) | (at_mapUpdate; refine wpList_set_add _ rfl _ _ _ 117 rfl 120 keyedE Tryz.underlying117 w.heap.size k _ rfl (HSA.out _ _) (by unfold maxLen; omega) _ _ rfl rfl hkey trivial ?_; intro w1 hset1 hgrow1) | go_in)
            go_roundw
            case rel => exact ⟨k + 1, (s.cal, s.day) :: seen, by omega, by go_num, hset1, HX.out, (fun x hx => (List.mem_cons.1 hx).elim (fun e => by subst e; exact HW.out) (fun h => HSW.out x h)), (belA _ _).grown hgrow1 (by simp; omega) (fun j hj => by cases hj; exact Nat.le_refl _), by have := hgrow1.size; simp at this; omega⟩
            case measure => simp [intOf]; omega
      · have hlt' : ¬ (k : Int) < (l.length : Int) := by omega
        have hE := HV.out
        rw [List.drop_of_length_le (by omega)] at hE
        have HE := Lib.hid hE
        clear hE
        go_wp2
        go_ret2
        exact ⟨by rw [HR.out, ← HE.out]; rfl, hbel⟩
end Go.Proofs.Tt
