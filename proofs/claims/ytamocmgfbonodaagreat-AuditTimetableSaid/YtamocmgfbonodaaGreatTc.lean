/-
  A part of the proof: lemmas of my own.
-/
import Derived.Test.YtamocmgfbonodaaGreatTb
set_option linter.unusedVariables false
set_option linter.unusedSimpArgs false
namespace Go.Proofs.Tt
open Go Go.Proofs
open Go.RowKit Go.Maps
set_option maxRecDepth 1000000

structure CallD where
  stop : Int
  arr : Int
  dep : Int
  board : Bool
  alight : Bool
def CallD.row (s : CallD) : List Value := [.int .i64 s.stop, .int .i64 s.arr, .int .i64 s.dep, .bool s.board, .bool s.alight]

def sameStop (p : Option CallD) (c : CallD) : Bool := match p with | some p => decide (p.stop = c.stop) | none => false
def early (p : Option CallD) (c : CallD) : Bool := match p with | some p => decide (c.arr < p.dep) | none => false
/-- the error of a call behind another one -/
def callOne (p : Option CallD) (c : CallD) (stops low high : Int) : Int :=
  if c.stop < 0 ∨ stops ≤ c.stop then 9 else if sameStop p c = true then 13 else if (c.arr < low ∨ c.dep < c.arr ∨ high < c.dep) ∨ early p c = true then 10 else 0

set_option maxHeartbeats 4000000 in
theorem one41_0 (g off cap : Nat) (l : List CallD) (c : CallD) (stops low high : Int) (w : World) (hr : Rows w g off 5 (l.map CallD.row)) (hc : l[0]? = some c) (hl : l.length ≤ 9223372036854775807) :
    Calls Tryz.prog 79 #[.slice (some ⟨g, off, none⟩) l.length cap, .int .i64 0, .int .i64 stops, .int .i64 low, .int .i64 high] w fun e w' => e = .returned (.int .i64 (callOne none c stops low high)) ∧ Below w.heap.size w w' := by
  have hg := hr.1
  have hrow : (l.map CallD.row)[0]? = some c.row := by rw [List.getElem?_map, hc]; rfl
  have hlt : 0 < l.length := (List.getElem?_eq_some_iff.1 hc).1
  have hlt' : (0 : Int) < (l.length : Int) := by omega
  have c0 : w.cell? ⟨g, off, none⟩ = some (.int .i64 c.stop) := by have := hr.2 _ _ hrow 0 _ rfl; simpa using this
  have c1 : w.cell? ⟨g, off + 1, none⟩ = some (.int .i64 c.arr) := by have := hr.2 _ _ hrow 1 _ rfl; simpa using this
  have c2 : w.cell? ⟨g, off + 2, none⟩ = some (.int .i64 c.dep) := by have := hr.2 _ _ hrow 2 _ rfl; simpa using this
  have c3 : w.cell? ⟨g, off + 3, none⟩ = some (.bool c.board) := by have := hr.2 _ _ hrow 3 _ rfl; simpa using this
  have c4 : w.cell? ⟨g, off + 4, none⟩ = some (.bool c.alight) := by have := hr.2 _ _ hrow 4 _ rfl; simpa using this
  have bel : ∀ o, Below w.heap.size w (w.alloc o) := fun o => (Below.refl _ _).alloc (Nat.le_refl _) o
  have hways : (c.stop < 0) ∨ (¬ c.stop < 0 ∧ stops ≤ c.stop) ∨ (¬ c.stop < 0 ∧ ¬ stops ≤ c.stop ∧ c.arr < low) ∨ (¬ c.stop < 0 ∧ ¬ stops ≤ c.stop ∧ ¬ c.arr < low ∧ c.dep < c.arr) ∨ (¬ c.stop < 0 ∧ ¬ stops ≤ c.stop ∧ ¬ c.arr < low ∧ ¬ c.dep < c.arr ∧ high < c.dep) ∨ (¬ c.stop < 0 ∧ ¬ stops ≤ c.stop ∧ ¬ c.arr < low ∧ ¬ c.dep < c.arr ∧ ¬ high < c.dep) := by omega
  clear hr hrow hc
  rcases hways with z0 | ⟨z0, z1⟩ | ⟨z0, z1, z2⟩ | ⟨z0, z1, z2, z3⟩ | ⟨z0, z1, z2, z3, z4⟩ | ⟨z0, z1, z2, z3, z4⟩
  · have HX := Lib.hid (show callOne none c stops low high = 9 by unfold callOne; rw [if_pos (by omega)])
    go_enter Tryz.func79, Tryz.ntmps79
    go_wp2
    go_ret
    exact ⟨by rw [HX.out]; rfl, bel _⟩
  · have HX := Lib.hid (show callOne none c stops low high = 9 by unfold callOne; rw [if_pos (by omega)])
    go_enter Tryz.func79, Tryz.ntmps79
    go_wp2
    go_ret
    exact ⟨by rw [HX.out]; rfl, bel _⟩
  · have HX := Lib.hid (show callOne none c stops low high = 10 by unfold callOne; rw [if_neg (by omega), if_neg (by simp [sameStop]), if_pos (.inl (by omega))])
    go_enter Tryz.func79, Tryz.ntmps79
    go_upto_region 4 with fail
    go_region
    go_upto_region 6 with fail
    go_region
    go_wp2
    go_ret
    exact ⟨by rw [HX.out]; rfl, (bel _).drew.drew⟩
  · have HX := Lib.hid (show callOne none c stops low high = 10 by unfold callOne; rw [if_neg (by omega), if_neg (by simp [sameStop]), if_pos (.inl (by omega))])
    go_enter Tryz.func79, Tryz.ntmps79
    go_upto_region 4 with fail
    go_region
    go_upto_region 6 with fail
    go_region
    go_wp2
    go_ret
    exact ⟨by rw [HX.out]; rfl, (bel _).drew.drew⟩
  · have HX := Lib.hid (show callOne none c stops low high = 10 by unfold callOne; rw [if_neg (by omega), if_neg (by simp [sameStop]), if_pos (.inl (by omega))])
    go_enter Tryz.func79, Tryz.ntmps79
    go_upto_region 4 with fail
    go_region
    go_upto_region 6 with fail
    go_region
    go_wp2
    go_ret
    exact ⟨by rw [HX.out]; rfl, (bel _).drew.drew⟩
  · have HX := Lib.hid (show callOne none c stops low high = 0 by unfold callOne; rw [if_neg (by omega), if_neg (by simp [sameStop]), if_neg (by simp [early]; omega)])
    go_enter Tryz.func79, Tryz.ntmps79
    go_upto_region 4 with fail
    go_region
    go_upto_region 6 with fail
    go_region
    go_wp2
    go_ret
    exact ⟨by rw [HX.out]; rfl, (bel _).drew.drew⟩

set_option maxHeartbeats 4000000 in
theorem one41_s (g off cap : Nat) (l : List CallD) (k : Nat) (c : CallD) (p : CallD) (stops low high : Int) (w : World) (hr : Rows w g off 5 (l.map CallD.row)) (hc : l[(k + 1)]? = some c) (hp : l[k]? = some p) (hl : l.length ≤ 9223372036854775807) :
    Calls Tryz.prog 79 #[.slice (some ⟨g, off, none⟩) l.length cap, .int .i64 ((k : Int) + 1), .int .i64 stops, .int .i64 low, .int .i64 high] w fun e w' => e = .returned (.int .i64 (callOne (some p) c stops low high)) ∧ Below w.heap.size w w' := by
  have hg := hr.1
  have hrow : (l.map CallD.row)[(k + 1)]? = some c.row := by rw [List.getElem?_map, hc]; rfl
  have hlt : (k + 1) < l.length := (List.getElem?_eq_some_iff.1 hc).1
  have hlt' : (k : Int) + 1 < (l.length : Int) := by omega
  have hlt2 : (k : Int) < (l.length : Int) := by omega
  have hkm : ¬ 9223372036854775807 < (k : Int) := by omega
  have hrowp : (l.map CallD.row)[k]? = some p.row := by rw [List.getElem?_map, hp]; rfl
  have c0 : w.cell? ⟨g, off + (k + 1) * 5, none⟩ = some (.int .i64 c.stop) := hr.2 _ _ hrow 0 _ rfl
  have c1 : w.cell? ⟨g, off + (k + 1) * 5 + 1, none⟩ = some (.int .i64 c.arr) := hr.2 _ _ hrow 1 _ rfl
  have c2 : w.cell? ⟨g, off + (k + 1) * 5 + 2, none⟩ = some (.int .i64 c.dep) := hr.2 _ _ hrow 2 _ rfl
  have c3 : w.cell? ⟨g, off + (k + 1) * 5 + 3, none⟩ = some (.bool c.board) := hr.2 _ _ hrow 3 _ rfl
  have c4 : w.cell? ⟨g, off + (k + 1) * 5 + 4, none⟩ = some (.bool c.alight) := hr.2 _ _ hrow 4 _ rfl
  have p0 : ∀ o, (w.alloc o).cell? ⟨g, off + k * 5, none⟩ = some (.int .i64 p.stop) := fun o => (World.cell?_of_block (Below.heap_alloc _ _ _ hg)).trans (hr.2 _ _ hrowp 0 _ rfl)
  have p1 : ∀ o, (w.alloc o).cell? ⟨g, off + k * 5 + 1, none⟩ = some (.int .i64 p.arr) := fun o => (World.cell?_of_block (Below.heap_alloc _ _ _ hg)).trans (hr.2 _ _ hrowp 1 _ rfl)
  have p2 : ∀ o, (w.alloc o).cell? ⟨g, off + k * 5 + 2, none⟩ = some (.int .i64 p.dep) := fun o => (World.cell?_of_block (Below.heap_alloc _ _ _ hg)).trans (hr.2 _ _ hrowp 2 _ rfl)
  have bel : ∀ o, Below w.heap.size w (w.alloc o) := fun o => (Below.refl _ _).alloc (Nat.le_refl _) o
  have hways : (c.stop < 0) ∨ (¬ c.stop < 0 ∧ stops ≤ c.stop) ∨ (¬ c.stop < 0 ∧ ¬ stops ≤ c.stop ∧ p.stop = c.stop) ∨ (¬ c.stop < 0 ∧ ¬ stops ≤ c.stop ∧ ¬ p.stop = c.stop ∧ c.arr < low) ∨ (¬ c.stop < 0 ∧ ¬ stops ≤ c.stop ∧ ¬ p.stop = c.stop ∧ ¬ c.arr < low ∧ c.dep < c.arr) ∨ (¬ c.stop < 0 ∧ ¬ stops ≤ c.stop ∧ ¬ p.stop = c.stop ∧ ¬ c.arr < low ∧ ¬ c.dep < c.arr ∧ high < c.dep) ∨ (¬ c.stop < 0 ∧ ¬ stops ≤ c.stop ∧ ¬ p.stop = c.stop ∧ ¬ c.arr < low ∧ ¬ c.dep < c.arr ∧ ¬ high < c.dep ∧ c.arr < p.dep) ∨ (¬ c.stop < 0 ∧ ¬ stops ≤ c.stop ∧ ¬ p.stop = c.stop ∧ ¬ c.arr < low ∧ ¬ c.dep < c.arr ∧ ¬ high < c.dep ∧ ¬ c.arr < p.dep) := by omega
  clear hr hrow hc hp hrowp
  rcases hways with z0 | ⟨z0, z1⟩ | ⟨z0, z1, z2⟩ | ⟨z0, z1, z2, z3⟩ | ⟨z0, z1, z2, z3, z4⟩ | ⟨z0, z1, z2, z3, z4, z5⟩ | ⟨z0, z1, z2, z3, z4, z5, z6⟩ | ⟨z0, z1, z2, z3, z4, z5, z6⟩
  · have HX := Lib.hid (show callOne (some p) c stops low high = 9 by unfold callOne; rw [if_pos (by omega)])
    go_enter Tryz.func79, Tryz.ntmps79
    go_wp2
    go_ret
    exact ⟨by rw [HX.out]; rfl, bel _⟩
  · have HX := Lib.hid (show callOne (some p) c stops low high = 9 by unfold callOne; rw [if_pos (by omega)])
    go_enter Tryz.func79, Tryz.ntmps79
    go_wp2
    go_ret
    exact ⟨by rw [HX.out]; rfl, bel _⟩
  · have HX := Lib.hid (show callOne (some p) c stops low high = 13 by unfold callOne; rw [if_neg (by omega), if_pos (by simp [sameStop]; omega)])
    go_enter Tryz.func79, Tryz.ntmps79
    go_upto_region 4 with fail
    go_region
    go_wp2
    go_ret
    exact ⟨by rw [HX.out]; rfl, (bel _).drew⟩
  · have HX := Lib.hid (show callOne (some p) c stops low high = 10 by unfold callOne; rw [if_neg (by omega), if_neg (by simp [sameStop]; omega), if_pos (.inl (by omega))])
    go_enter Tryz.func79, Tryz.ntmps79
    go_upto_region 4 with fail
    go_region
    go_upto_region 6 with fail
    go_region
    go_wp2
    go_ret
    exact ⟨by rw [HX.out]; rfl, (bel _).drew.drew⟩
  · have HX := Lib.hid (show callOne (some p) c stops low high = 10 by unfold callOne; rw [if_neg (by omega), if_neg (by simp [sameStop]; omega), if_pos (.inl (by omega))])
    go_enter Tryz.func79, Tryz.ntmps79
    go_upto_region 4 with fail
    go_region
    go_upto_region 6 with fail
    go_region
    go_wp2
    go_ret
    exact ⟨by rw [HX.out]; rfl, (bel _).drew.drew⟩
  · have HX := Lib.hid (show callOne (some p) c stops low high = 10 by unfold callOne; rw [if_neg (by omega), if_neg (by simp [sameStop]; omega), if_pos (.inl (by omega))])
    go_enter Tryz.func79, Tryz.ntmps79
    go_upto_region 4 with fail
    go_region
    go_upto_region 6 with fail
    go_region
    go_wp2
    go_ret
    exact ⟨by rw [HX.out]; rfl, (bel _).drew.drew⟩
  · have HX := Lib.hid (show callOne (some p) c stops low high = 10 by unfold callOne; rw [if_neg (by omega), if_neg (by simp [sameStop]; omega), if_pos (.inr (by simp [early]; omega))])
    go_enter Tryz.func79, Tryz.ntmps79
    go_upto_region 4 with fail
    go_region
    go_upto_region 6 with fail
    go_region
    go_wp2
    go_ret
    exact ⟨by rw [HX.out]; rfl, (bel _).drew.drew⟩
  · have HX := Lib.hid (show callOne (some p) c stops low high = 0 by unfold callOne; rw [if_neg (by omega), if_neg (by simp [sameStop]; omega), if_neg (by simp [early]; omega)])
    go_enter Tryz.func79, Tryz.ntmps79
    go_upto_region 4 with fail
    go_region
    go_upto_region 6 with fail
    go_region
    go_wp2
    go_ret
    exact ⟨by rw [HX.out]; rfl, (bel _).drew.drew⟩

end Go.Proofs.Tt

namespace Go.Proofs.Tt
open Go Go.Proofs
open Go.RowKit Go.Maps
set_option maxRecDepth 1000000

def callsGo (stops low high : Int) : Option CallD → Nat → List CallD → Int × Int
  | _, _, [] => (0, 0)
  | p, k, c :: t => if callOne p c stops low high = 0 then callsGo stops low high (some c) (k + 1) t else (k, callOne p c stops low high)
def callsRes (l : List CallD) (stops low high : Int) : Int × Int := if l.length < 2 ∨ 32 < l.length then (0, 5) else callsGo stops low high none 0 l
def prevOf (l : List CallD) : Nat → Option CallD
  | 0 => none
  | k + 1 => l[k]?

set_option maxHeartbeats 2000000 in
theorem calls26 (g off cap : Nat) (l : List CallD) (stops low high : Int) (w : World) (hr : Rows w g off 5 (l.map CallD.row)) (hl : l.length ≤ 9223372036854775807) :
    Calls Tryz.prog 59 #[.slice (some ⟨g, off, none⟩) l.length cap, .int .i64 stops, .int .i64 low, .int .i64 high] w fun e w' => e = .returned (.tuple #[.int .i64 (callsRes l stops low high).1, .int .i64 (callsRes l stops low high).2]) ∧ Below w.heap.size w w' := by
  have hg := hr.1
  by_cases h2 : l.length < 2
  · have HR := Lib.hid (show callsRes l stops low high = (0, 5) by unfold callsRes; rw [if_pos (.inl h2)])
    have h2' : (l.length : Int) < 2 := by omega
    go_enter Tryz.func59, Tryz.ntmps59
    go_wp2
    go_ret2
    exact ⟨by rw [HR.out]; rfl, Below.refl _ _⟩
  by_cases h32 : 32 < l.length
  · have HR := Lib.hid (show callsRes l stops low high = (0, 5) by unfold callsRes; rw [if_pos (.inr h32)])
    have h2' : ¬ (l.length : Int) < 2 := by omega
    have h32' : (32 : Int) < (l.length : Int) := by omega
    go_enter Tryz.func59, Tryz.ntmps59
    go_wp2
    go_ret2
    exact ⟨by rw [HR.out]; rfl, Below.refl _ _⟩
  have HR := Lib.hid (show callsRes l stops low high = callsGo stops low high none 0 l by unfold callsRes; rw [if_neg (by omega)])
  have h2' : ¬ (l.length : Int) < 2 := by omega
  have h32' : ¬ (32 : Int) < (l.length : Int) := by omega
  go_enter Tryz.func59, Tryz.ntmps59
  go_wp2
  go_loopw [22] (fun i wr => ∃ (k : Nat), k ≤ l.length ∧ ((k = 0 ∧ i = .int .i64 0) ∨ ∃ j : Nat, k = j + 1 ∧ i = .int .i64 ((j : Int) + 1)) ∧ callsGo stops low high (prevOf l k) k (l.drop k) = callsGo stops low high none 0 l ∧ Below w.heap.size w wr) (fun i _ => l.length - (intOf i).toNat)
  case atStart => exact ⟨0, Nat.zero_le _, .inl ⟨rfl, rfl⟩, rfl, Below.refl _ _⟩
  case round =>
    obtain ⟨k, hk, hki, hv, hbel⟩ := hrel
    rcases hki with ⟨rfl, rfl⟩ | ⟨j, rfl, rfl⟩
    · have hlt : 0 < l.length := by omega
      have hlt' : (0 : Int) < (l.length : Int) := by omega
      obtain ⟨c, hc⟩ : ∃ c, l[0]? = some c := ⟨l[0], List.getElem?_eq_getElem hlt⟩
      have hdrop : l.drop 0 = c :: l.drop (0 + 1) := by
        rw [List.drop_eq_getElem_cons hlt]
        rw [List.getElem?_eq_getElem hlt] at hc
        cases hc; rfl
      have hprev : prevOf l 0 = none := rfl
      rw [hprev, hdrop, callsGo] at hv
      have hnx : prevOf l (0 + 1) = some c := hc
      have HC := Lib.hid (one41_0 g off cap l c stops low high wr (hr.below hg hbel) hc hl)
      obtain ⟨e, he⟩ : ∃ e, callOne none c stops low high = e := ⟨_, rfl⟩
      rw [he] at HC hv
      have HR2 := Lib.hid hr
      clear hr
      by_cases h0 : e = 0
      · subst h0
        rw [if_pos rfl] at hv
        have HX := Lib.hid hv
        clear hv hdrop hc hprev he
        go_wp2_with (go_at_call 79; refine HC.out.mono ?_; rintro e w1 ⟨rfl, hb⟩)
        go_roundw
        case rel => exact ⟨0 + 1, by omega, .inr ⟨0, rfl, by go_num⟩, by rw [hnx]; exact HX.out, hbel.trans (hb.mono hbel.size)⟩
        case measure => simp [intOf]; omega
      · rw [if_neg h0] at hv
        have HX := Lib.hid hv
        have hne : (e != 0) = true := by rw [bne_iff_ne]; exact h0
        clear hv hdrop hc hprev he
        go_wp2_with (go_at_call 79; refine HC.out.mono ?_; rintro e w1 ⟨rfl, hb⟩)
        go_ret2
        exact ⟨by rw [HR.out, ← HX.out]; rfl, hbel.trans (hb.mono hbel.size)⟩
    · by_cases hlt : j + 1 < l.length
      · have hlt' : (j : Int) + 1 < (l.length : Int) := by omega
        obtain ⟨c, hc⟩ : ∃ c, l[(j + 1)]? = some c := ⟨l[(j + 1)], List.getElem?_eq_getElem hlt⟩
        have hdrop : l.drop (j + 1) = c :: l.drop ((j + 1) + 1) := by
          rw [List.drop_eq_getElem_cons hlt]
          rw [List.getElem?_eq_getElem hlt] at hc
          cases hc; rfl
        obtain ⟨p, hp⟩ : ∃ p, l[j]? = some p := ⟨l[j], List.getElem?_eq_getElem (by omega)⟩
        have hprev : prevOf l (j + 1) = some p := hp
        rw [hprev, hdrop, callsGo] at hv
        have hnx : prevOf l ((j + 1) + 1) = some c := hc
        have HC := Lib.hid (one41_s g off cap l j c p stops low high wr (hr.below hg hbel) hc hp hl)
        obtain ⟨e, he⟩ : ∃ e, callOne (some p) c stops low high = e := ⟨_, rfl⟩
        rw [he] at HC hv
        have HR2 := Lib.hid hr
        clear hr
        by_cases h0 : e = 0
        · subst h0
          rw [if_pos rfl] at hv
          have HX := Lib.hid hv
          clear hv hdrop hc hp hprev he
          go_wp2_with (go_at_call 79; refine HC.out.mono ?_; rintro e w1 ⟨rfl, hb⟩)
          go_roundw
          case rel => exact ⟨(j + 1) + 1, by omega, .inr ⟨(j + 1), rfl, by go_num⟩, by rw [hnx]; exact HX.out, hbel.trans (hb.mono hbel.size)⟩
          case measure => simp [intOf]; omega
        · rw [if_neg h0] at hv
          have HX := Lib.hid hv
          have hne : (e != 0) = true := by rw [bne_iff_ne]; exact h0
          clear hv hdrop hc hp hprev he
          go_wp2_with (go_at_call 79; refine HC.out.mono ?_; rintro e w1 ⟨rfl, hb⟩)
          go_ret2
          exact ⟨by rw [HR.out, ← HX.out]; rfl, hbel.trans (hb.mono hbel.size)⟩
      · have hlt' : ¬ (j : Int) + 1 < (l.length : Int) := by omega
        rw [List.drop_of_length_le (by omega), callsGo] at hv
        have HX := Lib.hid hv
        clear hv
        go_wp2
        go_ret2
        exact ⟨by rw [HR.out, ← HX.out]; rfl, hbel⟩

theorem RowsAt.rows {w : World} {a : Option Addr} {sz : Nat} {rows : List (List Value)} (h : RowsAt w a sz rows) (hn : 0 < rows.length) : ∃ g f, a = some ⟨g, f, none⟩ ∧ Rows w g f sz rows := by
  obtain ⟨r0, h0⟩ : ∃ r, rows[0]? = some r := ⟨_, List.getElem?_eq_getElem hn⟩
  obtain ⟨g, f, rfl, hg, _⟩ := h 0 r0 h0
  refine ⟨g, f, rfl, hg, fun i r hr j x hx => ?_⟩
  obtain ⟨g', f', e, _, h3⟩ := h i r hr
  injection e with e
  injection e with e1 e2
  subst e1 e2
  exact h3 j x hx
/-- .. at whatever slice -/
theorem callsA (a : Option Addr) (cap : Nat) (l : List CallD) (stops low high : Int) (w : World) (hr : RowsAt w a 5 (l.map CallD.row)) (hl : l.length ≤ 9223372036854775807) :
    Calls Tryz.prog 59 #[.slice a l.length cap, .int .i64 stops, .int .i64 low, .int .i64 high] w fun e w' => e = .returned (.tuple #[.int .i64 (callsRes l stops low high).1, .int .i64 (callsRes l stops low high).2]) ∧ Below w.heap.size w w' := by
  by_cases h0 : l.length = 0
  · have HR := Lib.hid (show callsRes l stops low high = (0, 5) by unfold callsRes; rw [if_pos (.inl (by omega))])
    have h0' : (l.length : Int) < 2 := by omega
    clear hr
    go_enter Tryz.func59, Tryz.ntmps59
    go_wp2
    go_ret2
    exact ⟨by rw [HR.out]; rfl, Below.refl _ _⟩
  · obtain ⟨g, f, rfl, h⟩ := hr.rows (by simp; omega)
    exact calls26 g f cap l stops low high w h hl
end Go.Proofs.Tt

namespace Go.Proofs.Tt
open Go Go.Proofs
open Go.RowKit Go.Maps
set_option maxRecDepth 1000000

def dateOk (d : Int) : Bool := decide (0 ≤ d ∧ d ≤ 36524)
theorem dateV (d : Int) (w : World) : Calls Tryz.prog 58 #[.int .i64 d] w fun e w' => e = .returned (.bool (dateOk d)) ∧ w = w' := by
  obtain ⟨q, hq⟩ : ∃ q, dateOk d = q := ⟨_, rfl⟩
  rw [hq]
  unfold dateOk at hq
  have HQ := Lib.hid hq
  clear hq
  by_cases h1 : 0 ≤ d
  · by_cases h2 : d ≤ 36524
    · have HX := Lib.hid (show q = true by rw [← HQ.out]; exact decide_eq_true ⟨h1, h2⟩)
      go_enter Tryz.func58, Tryz.ntmps58
      go_wp2
      go_ret
      exact ⟨by rw [HX.out]; rfl, rfl⟩
    · have HX := Lib.hid (show q = false by rw [← HQ.out]; exact decide_eq_false (by omega))
      go_enter Tryz.func58, Tryz.ntmps58
      go_wp2
      go_ret
      exact ⟨by rw [HX.out]; rfl, rfl⟩
  · have HX := Lib.hid (show q = false by rw [← HQ.out]; exact decide_eq_false (by omega))
    go_enter Tryz.func58, Tryz.ntmps58
    go_wp2
    go_ret
    exact ⟨by rw [HX.out]; rfl, rfl⟩
theorem dateT (d : Int) (w : World) (h : dateOk d = true) : Calls Tryz.prog 58 #[.int .i64 d] w fun e w' => e = .returned (.bool true) ∧ w = w' := by rw [← h]; exact dateV d w
theorem dateF (d : Int) (w : World) (h : dateOk d = false) : Calls Tryz.prog 58 #[.int .i64 d] w fun e w' => e = .returned (.bool false) ∧ w = w' := by rw [← h]; exact dateV d w

structure CalD where
  id : ByteArray
  w0 : Bool
  w1 : Bool
  w2 : Bool
  w3 : Bool
  w4 : Bool
  w5 : Bool
  w6 : Bool
  fr : Int
  to_ : Int
def CalD.row (s : CalD) : List Value := [.string s.id, .bool s.w0, .bool s.w1, .bool s.w2, .bool s.w3, .bool s.w4, .bool s.w5, .bool s.w6, .int .i64 s.fr, .int .i64 s.to_]
def calBad (s : CalD) : Prop := dateOk s.fr = false ∨ dateOk s.to_ = false ∨ s.to_ < s.fr
instance (s : CalD) : Decidable (calBad s) := by unfold calBad; infer_instance
def calGo : Nat → List (List UInt8) → List CalD → Int × Int
  | _, _, [] => (0, 0)
  | k, seen, s :: l => if okId s.id = false then (k, 12) else if s.id.data.toList ∈ seen then (k, 6) else if calBad s then (k, 11) else calGo (k + 1) (s.id.data.toList :: seen) l
def calRes (l : List CalD) : Int × Int := if 64 < l.length then (0, 5) else calGo 0 [] l

theorem cal25 (a : Option Addr) (cap : Nat) (l : List CalD) (w : World) (hr : RowsAt w a 10 (l.map CalD.row)) (hid : ∀ s ∈ l, s.id.size ≤ maxLen) (hl : l.length ≤ 9223372036854775807) :
    Calls Tryz.prog 25 #[.slice a l.length cap] w fun e w' => e = .returned (.tuple #[.int .i64 (calRes l).1, .int .i64 (calRes l).2]) ∧ Below w.heap.size w w' := by
  have hmm := @run_makeMap Tryz.prog
  by_cases h64 : 64 < l.length
  · have HR := Lib.hid (show calRes l = (0, 5) by unfold calRes; rw [if_pos h64])
    have h64' : (64 : Int) < (l.length : Int) := by omega
    go_enter Tryz.func25, Tryz.ntmps25
    go_wp2
    go_ret2
    exact ⟨by rw [HR.out]; rfl, Below.refl _ _⟩
  · have HR := Lib.hid (show calRes l = calGo 0 [] l by unfold calRes; rw [if_neg h64])
    have h64' : ¬ (64 : Int) < (l.length : Int) := by omega
    go_enter Tryz.func25, Tryz.ntmps25
    go_wp2
    go_loopw [13] (fun i wr => ∃ (k : Nat) (seen : List (List UInt8)), k ≤ l.length ∧ i = .int .i64 k ∧ SetK 9 wr w.heap.size k (seen.map key) ∧ calGo k seen (l.drop k) = calGo 0 [] l ∧ Below w.heap.size w wr ∧ w.heap.size < wr.heap.size) (fun i _ => l.length - (intOf i).toNat)
    case atStart => exact ⟨0, [], Nat.zero_le _, rfl, SetK.made 9 w, rfl, (Below.refl _ _).alloc (Nat.le_refl _) _, by simp⟩
    case round =>
      obtain ⟨k, seen, hk, rfl, hset, hv, hbel, hsz⟩ := hrel
      have HV := Lib.hid hv
      clear hv
      by_cases hlt : k < l.length
      · have hlt' : (k : Int) < (l.length : Int) := by omega
        obtain ⟨s, hs⟩ : ∃ s, l[k]? = some s := ⟨l[k], List.getElem?_eq_getElem hlt⟩
        have hdrop : l.drop k = s :: l.drop (k + 1) := by
          rw [List.drop_eq_getElem_cons hlt]
          rw [List.getElem?_eq_getElem hlt] at hs
          cases hs; rfl
        have hsl : s.id.size ≤ maxLen := hid s (List.mem_of_getElem? hs)
        have hrow : (l.map CalD.row)[k]? = some s.row := by rw [List.getElem?_map, hs]; rfl
        obtain ⟨g, off, ha, hg, hc⟩ := hr k _ hrow
        subst ha
        have hcc := fun j x hx => (hbel.cell (p := ⟨g, off + k * 10 + j, none⟩) hg).trans (hc j x hx)
        have c0 : wr.cell? ⟨g, off + k * 10, none⟩ = some (.string s.id) := hcc 0 _ rfl
        have c1 : wr.cell? ⟨g, off + k * 10 + 1, none⟩ = some (.bool s.w0) := hcc 1 _ rfl
        have c2 : wr.cell? ⟨g, off + k * 10 + 2, none⟩ = some (.bool s.w1) := hcc 2 _ rfl
        have c3 : wr.cell? ⟨g, off + k * 10 + 3, none⟩ = some (.bool s.w2) := hcc 3 _ rfl
        have c4 : wr.cell? ⟨g, off + k * 10 + 4, none⟩ = some (.bool s.w3) := hcc 4 _ rfl
        have c5 : wr.cell? ⟨g, off + k * 10 + 5, none⟩ = some (.bool s.w4) := hcc 5 _ rfl
        have c6 : wr.cell? ⟨g, off + k * 10 + 6, none⟩ = some (.bool s.w5) := hcc 6 _ rfl
        have c7 : wr.cell? ⟨g, off + k * 10 + 7, none⟩ = some (.bool s.w6) := hcc 7 _ rfl
        have c8 : wr.cell? ⟨g, off + k * 10 + 8, none⟩ = some (.int .i64 s.fr) := hcc 8 _ rfl
        have c9 : wr.cell? ⟨g, off + k * 10 + 9, none⟩ = some (.int .i64 s.to_) := hcc 9 _ rfl
        have hV := HV.out
        rw [hdrop, calGo] at hV
        have HS := Lib.hid hset
        have HID := Lib.hid hid
        have HRR := Lib.hid hr
        clear hset hrow hs hdrop hid hr HV hc hcc
        cases hok : okId s.id
        · have HX := Lib.hid (show calGo 0 [] l = ((k : Int), 12) by rw [← hV, if_pos hok])
          clear hV
          go_wp2_with (go_at_call 56; refine (valid24 _ _ (by unfold maxLen at hsl; omega)).mono ?_; rw [hok]; rintro e w1 ⟨rfl, rfl⟩)
          go_ret2
          exact ⟨by rw [HR.out, HX.out]; rfl, hbel.trans ((Below.refl _ _).alloc (by omega) _)⟩
        · rw [if_neg (by rw [hok]; decide)] at hV
          have hkey : keyOf Tryz.prog 9 (.string s.id) = some (key s.id.data.toList) := Go.WideMaps.keyOf_string_mk Tryz.underlying9 hsl
          have hsetA : ∀ o, SetK 9 (wr.alloc o) w.heap.size k (seen.map key) := fun o => HS.out.at (Below.heap_alloc _ _ _ hsz)
          have belA : ∀ o, Below w.heap.size w (wr.alloc o) := fun o => hbel.trans ((Below.refl _ _).alloc (by omega) o)
          have HSA := Lib.hid hsetA
          by_cases hin : s.id.data.toList ∈ seen
          · have HX := Lib.hid (show calGo 0 [] l = ((k : Int), 6) by rw [← hV, if_pos hin])
            have hlk : ∀ o, (Instr.lookup 111 (.map (some w.heap.size)) (.string s.id) false).run Tryz.prog (wr.alloc o) = .ok (.bool true) (wr.alloc o) := fun o => ((hsetA o).look keyed9 Tryz.underlying111 hkey).1 (key_mem.2 hin)
            clear hV hsetA
            go_wp2_with (go_at_call 56; refine (valid24 _ _ (by unfold maxLen at hsl; omega)).mono ?_; rw [hok]; rintro e w1 ⟨rfl, rfl⟩)
            go_ret2
            exact ⟨by rw [HR.out, HX.out]; rfl, belA _⟩
          · rw [if_neg hin] at hV
            have hlk : ∀ o, (Instr.lookup 111 (.map (some w.heap.size)) (.string s.id) false).run Tryz.prog (wr.alloc o) = .ok (.bool false) (wr.alloc o) := fun o => ((hsetA o).look keyed9 Tryz.underlying111 hkey).2 (fun h => hin (key_mem.1 h))
            clear hsetA
            have hways : dateOk s.fr = false ∨ (dateOk s.fr = true ∧ dateOk s.to_ = false) ∨ (dateOk s.fr = true ∧ dateOk s.to_ = true ∧ s.to_ < s.fr) ∨ (dateOk s.fr = true ∧ dateOk s.to_ = true ∧ ¬ s.to_ < s.fr) := by
              cases dateOk s.fr <;> cases dateOk s.to_ <;> simp <;> omega
            rcases hways with z1 | ⟨z1, z2⟩ | ⟨z1, z2, z3⟩ | ⟨z1, z2, z3⟩
            iterate 3
              · have HX := Lib.hid (show calGo 0 [] l = ((k : Int), 11) by rw [← hV, if_pos (by unfold calBad; simp_all)])
                clear hV
                go_wp2_with (first | (go_at_call 56; refine (valid24 _ _ (by unfold maxLen at hsl; omega)).mono ?_; rw [hok]; rintro e w1 ⟨rfl, rfl⟩) | (go_at_call 58; first | (refine (dateT _ _ (by assumption)).mono ?_; rintro e w2 ⟨rfl, rfl⟩) | (refine (dateF _ _ (by assumption)).mono ?_; rintro e w2 ⟨rfl, rfl⟩)))
                go_ret2
                exact ⟨by rw [HR.out, HX.out]; rfl, belA _⟩
            · have HX := Lib.hid (show calGo (k + 1) (s.id.data.toList :: seen) (l.drop (k + 1)) = calGo 0 [] l by rw [← hV, if_neg (by unfold calBad; simp_all)])
              clear hV
              go_wp2_with (first | (go_at_call 56; refine (valid24 _ _ (by unfold maxLen at hsl; omega)).mono ?_; rw [hok]; rintro e w1 ⟨rfl, rfl⟩) | (go_at_call 58; first | (refine (dateT _ _ (by assumption)).mono ?_; rintro e w2 ⟨rfl, rfl⟩) | (refine (dateF _ _ (by assumption)).mono ?_; rintro e w2 ⟨rfl, rfl⟩)) | (at_mapUpdate; refine wpList_set_add _ rfl _ _ _ 111 rfl 9 keyed9 Tryz.underlying111 w.heap.size k _ rfl (HSA.out _) (by unfold maxLen; omega) _ _ rfl rfl hkey trivial ?_; intro w1 hset1 hgrow1) | go_in)
              go_roundw
              case rel => exact ⟨k + 1, s.id.data.toList :: seen, by omega, by go_num, hset1, HX.out, (belA _).grown hgrow1 (by simp; omega) (fun j hj => by cases hj; exact Nat.le_refl _), by have := hgrow1.size; simp at this; omega⟩
              case measure => simp [intOf]; omega
      · have hlt' : ¬ (k : Int) < (l.length : Int) := by omega
        have hE := HV.out
        rw [List.drop_of_length_le (by omega)] at hE
        have HE := Lib.hid hE
        clear hE
        go_wp2
        go_ret2
        exact ⟨by rw [HR.out, ← HE.out]; rfl, hbel⟩
end Go.Proofs.Tt
