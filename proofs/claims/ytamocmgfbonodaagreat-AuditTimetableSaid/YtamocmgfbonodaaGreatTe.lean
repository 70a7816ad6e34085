/-
  A part of the proof: lemmas of my own.
-/
import Derived.Test.YtamocmgfbonodaaGreatTd
import Derived.Deep.QuietTactic
import Derived.BigQuiet
set_option linter.unusedVariables false
set_option linter.unusedSimpArgs false
namespace Go.Proofs.Tt
open Go Go.Proofs
open Go.RowKit Go.Maps
set_option maxRecDepth 1000000

structure PathD where
  fr : Int
  to_ : Int
  secs : Int
  free : Bool
def PathD.row (s : PathD) : List Value := [.int .i64 s.fr, .int .i64 s.to_, .int .i64 s.secs, .bool s.free]
def PathD.key (s : PathD) : Int × Int × Bool := (s.fr, s.to_, s.free)
def pathRef (stops : Int) (s : PathD) : Prop := s.fr < 0 ∨ stops ≤ s.fr ∨ s.to_ < 0 ∨ stops ≤ s.to_ ∨ s.fr = s.to_
instance (stops : Int) (s : PathD) : Decidable (pathRef stops s) := by unfold pathRef; infer_instance
def pathGo (stops : Int) : Nat → List (Int × Int × Bool) → List PathD → Int × Int
  | _, _, [] => (0, 0)
  | k, seen, s :: l => if pathRef stops s then (k, 9) else if s.secs < 1 ∨ 14400 < s.secs then (k, 2) else if s.key ∈ seen then (k, 6) else pathGo stops (k + 1) (s.key :: seen) l
theorem pkey_mem {a : Int × Int × Bool} {l : List (Int × Int × Bool)} (ha : inW a.1 ∧ inW a.2.1) (hl : ∀ x ∈ l, inW x.1 ∧ inW x.2.1) : pkey a ∈ l.map pkey ↔ a ∈ l := by
  rw [List.mem_map]
  exact ⟨fun ⟨x, h1, h2⟩ => by have := pkey_inj (hl x h1).1 (hl x h1).2 ha.1 ha.2 h2; rw [← this]; exact h1, fun h => ⟨a, h, rfl⟩⟩

set_option maxHeartbeats 1600000 in
theorem sound67 (a : Option Addr) (cap : Nat) (l : List PathD) (stops : Int) (w : World) (hr : RowsAt w a 4 (l.map PathD.row)) (hid : ∀ s ∈ l, inW s.fr ∧ inW s.to_) (hl : l.length < 100000) :
    Calls Tryz.prog 67 #[.slice a l.length cap, .int .i64 stops] w fun e w' => e = .returned (.tuple #[.int .i64 (pathGo stops 0 [] l).1, .int .i64 (pathGo stops 0 [] l).2]) ∧ Below w.heap.size w w' := by
  have hmm := @run_makeMap Tryz.prog
  obtain ⟨R, hR⟩ : ∃ R, pathGo stops 0 [] l = R := ⟨_, rfl⟩
  rw [hR]
  have HR0 := Lib.hid hR
  clear hR
  go_enter Tryz.func67, Tryz.ntmps67
  go_wp2
  go_loopw [13] (fun i wr => ∃ (k : Nat) (seen : List (Int × Int × Bool)), k ≤ l.length ∧ i = .int .i64 k ∧ SetK 170 wr w.heap.size k (seen.map pkey) ∧ pathGo stops k seen (l.drop k) = R ∧ (∀ x ∈ seen, inW x.1 ∧ inW x.2.1) ∧ Below w.heap.size w wr ∧ w.heap.size < wr.heap.size) (fun i _ => l.length - (intOf i).toNat)
  case atStart => exact ⟨0, [], Nat.zero_le _, rfl, SetK.made 170 w, HR0.out, (fun x hx => by cases hx), (Below.refl _ _).alloc (Nat.le_refl _) _, by simp⟩
  case round =>
    obtain ⟨k, seen, hk, rfl, hset, hv, hsw, hbel, hsz⟩ := hrel
    have HV := Lib.hid hv
    have HSW := Lib.hid hsw
    clear hv hsw
    by_cases hlt : k < l.length
    · have hlt' : (k : Int) < (l.length : Int) := by omega
      obtain ⟨s, hs⟩ : ∃ s, l[k]? = some s := ⟨l[k], List.getElem?_eq_getElem hlt⟩
      have hdrop : l.drop k = s :: l.drop (k + 1) := by
        rw [List.drop_eq_getElem_cons hlt]
        rw [List.getElem?_eq_getElem hlt] at hs
        cases hs; rfl
      obtain ⟨hw1, hw2⟩ := hid s (List.mem_of_getElem? hs)
      have hrow : (l.map PathD.row)[k]? = some s.row := by rw [List.getElem?_map, hs]; rfl
      obtain ⟨g, off, ha, hg, hc⟩ := hr k _ hrow
      subst ha
      have hcc := fun j x hx => (hbel.cell (p := ⟨g, off + k * 4 + j, none⟩) hg).trans (hc j x hx)
      have c0 : wr.cell? ⟨g, off + k * 4, none⟩ = some (.int .i64 s.fr) := hcc 0 _ rfl
      have c1 : wr.cell? ⟨g, off + k * 4 + 1, none⟩ = some (.int .i64 s.to_) := hcc 1 _ rfl
      have c2 : wr.cell? ⟨g, off + k * 4 + 2, none⟩ = some (.int .i64 s.secs) := hcc 2 _ rfl
      have c3 : wr.cell? ⟨g, off + k * 4 + 3, none⟩ = some (.bool s.free) := hcc 3 _ rfl
      have hV := HV.out
      rw [hdrop, pathGo] at hV
      have HS := Lib.hid hset
      have HID := Lib.hid hid
      have HRR := Lib.hid hr
      have hkey : keyOf Tryz.prog 170 (.agg #[.int .i64 s.fr, .int .i64 s.to_, .bool s.free]) = some (pkey s.key) := keyOfP _ _ _ hw1 hw2
      have hmem := pkey_mem (a := s.key) ⟨hw1, hw2⟩ HSW.out
      have hsetA : ∀ o o', SetK 170 ((wr.alloc o).alloc o') w.heap.size k (seen.map pkey) := fun o o' => (HS.out.at (Below.heap_alloc _ _ _ hsz)).at (Below.heap_alloc _ _ _ (by simp; omega))
      have belA : ∀ o o', Below w.heap.size w ((wr.alloc o).alloc o') := fun o o' => (hbel.trans ((Below.refl _ _).alloc (by omega) o)).trans ((Below.refl _ _).alloc (by simp; omega) o')
      have HSA := Lib.hid hsetA
      have HMEM := Lib.hid hmem
      have HW := Lib.hid (And.intro hw1 hw2)
      clear hset hrow hs hdrop hid hr HV hc hcc hmem hw1 hw2
      have hways : s.fr < 0 ∨ (¬ s.fr < 0 ∧ stops ≤ s.fr) ∨ (¬ s.fr < 0 ∧ ¬ stops ≤ s.fr ∧ s.to_ < 0) ∨ (¬ s.fr < 0 ∧ ¬ stops ≤ s.fr ∧ ¬ s.to_ < 0 ∧ stops ≤ s.to_) ∨ (¬ s.fr < 0 ∧ ¬ stops ≤ s.fr ∧ ¬ s.to_ < 0 ∧ ¬ stops ≤ s.to_ ∧ s.fr = s.to_) ∨ (¬ s.fr < 0 ∧ ¬ stops ≤ s.fr ∧ ¬ s.to_ < 0 ∧ ¬ stops ≤ s.to_ ∧ ¬ s.fr = s.to_ ∧ s.secs < 1) ∨ (¬ s.fr < 0 ∧ ¬ stops ≤ s.fr ∧ ¬ s.to_ < 0 ∧ ¬ stops ≤ s.to_ ∧ ¬ s.fr = s.to_ ∧ ¬ s.secs < 1 ∧ 14400 < s.secs) ∨ (¬ s.fr < 0 ∧ ¬ stops ≤ s.fr ∧ ¬ s.to_ < 0 ∧ ¬ stops ≤ s.to_ ∧ ¬ s.fr = s.to_ ∧ ¬ s.secs < 1 ∧ ¬ 14400 < s.secs) := by omega
      rcases hways with z1 | ⟨z1, z2⟩ | ⟨z1, z2, z3⟩ | ⟨z1, z2, z3, z4⟩ | ⟨z1, z2, z3, z4, z5⟩ | ⟨z1, z2, z3, z4, z5, z6⟩ | ⟨z1, z2, z3, z4, z5, z6, z7⟩ | ⟨z1, z2, z3, z4, z5, z6, z7⟩
      iterate 5
        · have HX := Lib.hid (show R = ((k : Int), 9) by rw [← hV, if_pos (by unfold pathRef; omega)])
          clear hV hsetA
          go_wp2
          go_ret2
          exact ⟨by rw [HX.out]; rfl, belA _ _⟩
      iterate 2
        · have HX := Lib.hid (show R = ((k : Int), 2) by rw [← hV, if_neg (by unfold pathRef; omega), if_pos (by omega)])
          clear hV hsetA
          go_wp2
          go_ret2
          exact ⟨by rw [HX.out]; rfl, belA _ _⟩
      · rw [if_neg (by unfold pathRef; omega), if_neg (by omega)] at hV
        by_cases hin : s.key ∈ seen
        · have HX := Lib.hid (show R = ((k : Int), 6) by rw [← hV, if_pos hin])
          have hlk : ∀ o o', (Instr.lookup 168 (.map (some w.heap.size)) (.agg #[.int .i64 s.fr, .int .i64 s.to_, .bool s.free]) false).run Tryz.prog ((wr.alloc o).alloc o') = .ok (.bool true) ((wr.alloc o).alloc o') := fun o o' => ((hsetA o o').look keyedP Tryz.underlying168 hkey).1 (HMEM.out.2 hin)
          clear hV hsetA
          go_wp2
          go_ret2
          exact ⟨by rw [HX.out]; rfl, belA _ _⟩
        · rw [if_neg hin] at hV
          have hlk : ∀ o o', (Instr.lookup 168 (.map (some w.heap.size)) (.agg #[.int .i64 s.fr, .int .i64 s.to_, .bool s.free]) false).run Tryz.prog ((wr.alloc o).alloc o') = .ok (.bool false) ((wr.alloc o).alloc o') := fun o o' => ((hsetA o o').look keyedP Tryz.underlying168 hkey).2 (fun h => hin (HMEM.out.1 h))
          have HX := Lib.hid (show pathGo stops (k + 1) (s.key :: seen) (l.drop (k + 1)) = R from hV)
          clear hV hsetA
          go_wp2_with (first | (at_mapUpdate; refine wpList_set_add _ rfl _ _ _ 168 rfl 170 keyedP Tryz.underlying168 w.heap.size k _ rfl (HSA.out _ _) (by unfold maxLen; omega) _ _ rfl rfl hkey trivial ?_; intro w1 hset1 hgrow1) | go_in)
          go_roundw
          case rel => exact ⟨k + 1, s.key :: seen, by omega, by go_num, hset1, HX.out, (fun x hx => (List.mem_cons.1 hx).elim (fun e => by subst e; exact HW.out) (fun h => HSW.out x h)), (belA _ _).grown hgrow1 (by simp; omega) (fun j hj => by cases hj; exact Nat.le_refl _), by have := hgrow1.size; simp at this; omega⟩
          case measure => simp [intOf]; omega
    · have hlt' : ¬ (k : Int) < (l.length : Int) := by omega
      have hE := HV.out
      rw [List.drop_of_length_le (by omega)] at hE
      have HE := Lib.hid hE
      clear hE
      go_wp2
      go_ret2
      exact ⟨by rw [← HE.out]; rfl, hbel⟩
def pathRes (stops : Int) (l : List PathD) : Int × Int := if 512 < l.length then (0, 5) else pathGo stops 0 [] l
theorem path37 (a : Option Addr) (cap : Nat) (l : List PathD) (stops : Int) (w : World) (hr : RowsAt w a 4 (l.map PathD.row)) (hid : ∀ s ∈ l, inW s.fr ∧ inW s.to_) (hl : l.length ≤ 9223372036854775807) :
    Calls Tryz.prog 37 #[.slice a l.length cap, .int .i64 stops] w fun e w' => e = .returned (.tuple #[.int .i64 (pathRes stops l).1, .int .i64 (pathRes stops l).2]) ∧ Below w.heap.size w w' := by
  by_cases h5 : 512 < l.length
  · have HR := Lib.hid (show pathRes stops l = (0, 5) by unfold pathRes; rw [if_pos h5])
    have h5' : (512 : Int) < (l.length : Int) := by omega
    clear hr hid
    go_enter Tryz.func37, Tryz.ntmps37
    go_wp2
    go_ret2
    exact ⟨by rw [HR.out]; rfl, Below.refl _ _⟩
  · have HR := Lib.hid (show pathRes stops l = pathGo stops 0 [] l by unfold pathRes; rw [if_neg h5])
    have h5' : ¬ (512 : Int) < (l.length : Int) := by omega
    have HS := Lib.hid (sound67 a cap l stops w hr hid (by omega))
    clear hr hid
    go_enter Tryz.func37, Tryz.ntmps37
    go_wp2_with (go_at_call 67; refine HS.out.mono ?_; rintro e w2 ⟨rfl, hb2⟩)
    go_ret2
    exact ⟨by rw [HR.out]; rfl, hb2⟩
end Go.Proofs.Tt

namespace Go.Proofs.Tt
open Go Go.Proofs
open Go.RowKit Go.Maps
set_option maxRecDepth 1000000

structure ThrD where
  fr : Int
  to_ : Int
def ThrD.row (s : ThrD) : List Value := [.int .i64 s.fr, .int .i64 s.to_]
def repGo (x : Int) : Nat → List FrqD → Bool
  | _, [] => false
  | k, s :: l => if s.trip = x then true else repGo x (k + 1) l
def nextGo (x : Int) : Nat → List ThrD → Int × Bool
  | _, [] => (0, false)
  | k, s :: l => if s.fr = x then (s.to_, true) else nextGo x (k + 1) l
def alGo (x : Int) : Nat → List CallD → Int
  | _, [] => -1
  | k, s :: l => if 0 < k ∧ s.stop = x ∧ s.alight = true then k else alGo x (k + 1) l
def bdGo (n : Nat) (x : Int) : Nat → List CallD → Int
  | _, [] => -1
  | k, s :: l => if k + 1 < n ∧ s.stop = x ∧ s.board = true then k else bdGo n x (k + 1) l

set_option maxHeartbeats 800000 in
theorem rep83 (a : Option Addr) (cap : Nat) (l : List FrqD) (x : Int) (w : World) (hr : RowsAt w a 4 (l.map FrqD.row)) (hl : l.length < 1000000) :
    Calls Tryz.prog 83 #[.slice a l.length cap, .int .i64 x] w fun e w' => e = .returned (.bool (repGo x 0 l)) ∧ Below w.heap.size w w' := by
  obtain ⟨R, hR⟩ : ∃ R, repGo x 0 l = R := ⟨_, rfl⟩
  rw [hR]
  have HR0 := Lib.hid hR
  clear hR
  go_enter Tryz.func83, Tryz.ntmps83
  go_wp2
  go_loopw [9] (fun i wr => ∃ (k : Nat), k ≤ l.length ∧ i = .int .i64 k ∧ repGo x k (l.drop k) = R ∧ Below w.heap.size w wr) (fun i _ => l.length - (intOf i).toNat)
  case atStart => exact ⟨0, Nat.zero_le _, rfl, HR0.out, Below.refl _ _⟩
  case round =>
    obtain ⟨k, hk, rfl, hv, hbel⟩ := hrel
    have HV := Lib.hid hv
    clear hv
    by_cases hlt : k < l.length
    · have hlt' : (k : Int) < (l.length : Int) := by omega
      obtain ⟨s, hs⟩ : ∃ s, l[k]? = some s := ⟨l[k], List.getElem?_eq_getElem hlt⟩
      have hdrop : l.drop k = s :: l.drop (k + 1) := by
        rw [List.drop_eq_getElem_cons hlt]
        rw [List.getElem?_eq_getElem hlt] at hs
        cases hs; rfl
      have hrow : (l.map FrqD.row)[k]? = some s.row := by rw [List.getElem?_map, hs]; rfl
      obtain ⟨g, off, ha, hg, hc⟩ := hr k _ hrow
      subst ha
      have hcc := fun j x hx => (hbel.cell (p := ⟨g, off + k * 4 + j, none⟩) hg).trans (hc j x hx)
      have c0 : wr.cell? ⟨g, off + k * 4, none⟩ = some (.int .i64 s.trip) := hcc 0 _ rfl
      have c1 : wr.cell? ⟨g, off + k * 4 + 1, none⟩ = some (.int .i64 s.fr) := hcc 1 _ rfl
      have c2 : wr.cell? ⟨g, off + k * 4 + 2, none⟩ = some (.int .i64 s.to_) := hcc 2 _ rfl
      have c3 : wr.cell? ⟨g, off + k * 4 + 3, none⟩ = some (.int .i64 s.ev) := hcc 3 _ rfl
      have hV := HV.out
      rw [hdrop, repGo] at hV
      have HRR := Lib.hid hr
      have belA : ∀ o, Below w.heap.size w (wr.alloc o) := fun o => hbel.trans ((Below.refl _ _).alloc hbel.size o)
      clear hrow hs hdrop hr hc hcc
      have hways : (¬ s.trip = x) ∨ (s.trip = x) := by omega
      rcases hways with z1 | z1
      · rw [if_neg (z1)] at hV
        have HX := Lib.hid hV
        clear hV
        go_wp2
        exact ⟨⟨k + 1, by omega, by first | rfl | (congr 1; omega), HX.out, belA _⟩, by simp [intOf]; omega⟩
      · rw [if_pos z1] at hV
        have HX := Lib.hid hV
        clear hV
        go_wp2
        go_ret
        exact ⟨by rw [← HX.out]; first | rfl | (simp_all; done), belA _⟩
    · have hlt' : ¬ (k : Int) < (l.length : Int) := by omega
      have hE := HV.out
      rw [List.drop_of_length_le (by omega)] at hE
      have HE := Lib.hid hE
      clear hE
      go_wp2
      go_ret
      exact ⟨by rw [← HE.out]; rfl, hbel⟩

set_option maxHeartbeats 800000 in
theorem next94 (a : Option Addr) (cap : Nat) (l : List ThrD) (x : Int) (w : World) (hr : RowsAt w a 2 (l.map ThrD.row)) (hl : l.length < 1000000) :
    Calls Tryz.prog 94 #[.slice a l.length cap, .int .i64 x] w fun e w' => e = .returned (.tuple #[.int .i64 (nextGo x 0 l).1, .bool (nextGo x 0 l).2]) ∧ Below w.heap.size w w' := by
  obtain ⟨R, hR⟩ : ∃ R, nextGo x 0 l = R := ⟨_, rfl⟩
  rw [hR]
  have HR0 := Lib.hid hR
  clear hR
  go_enter Tryz.func94, Tryz.ntmps94
  go_wp2
  go_loopw [10] (fun i wr => ∃ (k : Nat), k ≤ l.length ∧ i = .int .i64 k ∧ nextGo x k (l.drop k) = R ∧ Below w.heap.size w wr) (fun i _ => l.length - (intOf i).toNat)
  case atStart => exact ⟨0, Nat.zero_le _, rfl, HR0.out, Below.refl _ _⟩
  case round =>
    obtain ⟨k, hk, rfl, hv, hbel⟩ := hrel
    have HV := Lib.hid hv
    clear hv
    by_cases hlt : k < l.length
    · have hlt' : (k : Int) < (l.length : Int) := by omega
      obtain ⟨s, hs⟩ : ∃ s, l[k]? = some s := ⟨l[k], List.getElem?_eq_getElem hlt⟩
      have hdrop : l.drop k = s :: l.drop (k + 1) := by
        rw [List.drop_eq_getElem_cons hlt]
        rw [List.getElem?_eq_getElem hlt] at hs
        cases hs; rfl
      have hrow : (l.map ThrD.row)[k]? = some s.row := by rw [List.getElem?_map, hs]; rfl
      obtain ⟨g, off, ha, hg, hc⟩ := hr k _ hrow
      subst ha
      have hcc := fun j x hx => (hbel.cell (p := ⟨g, off + k * 2 + j, none⟩) hg).trans (hc j x hx)
      have c0 : wr.cell? ⟨g, off + k * 2, none⟩ = some (.int .i64 s.fr) := hcc 0 _ rfl
      have c1 : wr.cell? ⟨g, off + k * 2 + 1, none⟩ = some (.int .i64 s.to_) := hcc 1 _ rfl
      have hV := HV.out
      rw [hdrop, nextGo] at hV
      have HRR := Lib.hid hr
      have belA : ∀ o, Below w.heap.size w (wr.alloc o) := fun o => hbel.trans ((Below.refl _ _).alloc hbel.size o)
      clear hrow hs hdrop hr hc hcc
      have hways : (¬ s.fr = x) ∨ (s.fr = x) := by omega
      rcases hways with z1 | z1
      · rw [if_neg (z1)] at hV
        have HX := Lib.hid hV
        clear hV
        go_wp2
        exact ⟨⟨k + 1, by omega, by first | rfl | (congr 1; omega), HX.out, belA _⟩, by simp [intOf]; omega⟩
      · rw [if_pos z1] at hV
        have HX := Lib.hid hV
        clear hV
        go_wp2
        go_ret2
        exact ⟨by rw [← HX.out]; first | rfl | (simp_all; done), belA _⟩
    · have hlt' : ¬ (k : Int) < (l.length : Int) := by omega
      have hE := HV.out
      rw [List.drop_of_length_le (by omega)] at hE
      have HE := Lib.hid hE
      clear hE
      go_wp2
      go_ret2
      exact ⟨by rw [← HE.out]; rfl, hbel⟩

set_option maxHeartbeats 800000 in
theorem al85 (a : Option Addr) (cap : Nat) (l : List CallD) (x : Int) (w : World) (hr : RowsAt w a 5 (l.map CallD.row)) (hl : l.length < 1000000) :
    Calls Tryz.prog 85 #[.slice a l.length cap, .int .i64 x] w fun e w' => e = .returned (.int .i64 (alGo x 0 l)) ∧ Below w.heap.size w w' := by
  obtain ⟨R, hR⟩ : ∃ R, alGo x 0 l = R := ⟨_, rfl⟩
  rw [hR]
  have HR0 := Lib.hid hR
  clear hR
  go_enter Tryz.func85, Tryz.ntmps85
  go_wp2
  go_loopw [9] (fun i wr => ∃ (k : Nat), k ≤ l.length ∧ i = .int .i64 k ∧ alGo x k (l.drop k) = R ∧ Below w.heap.size w wr) (fun i _ => l.length - (intOf i).toNat)
  case atStart => exact ⟨0, Nat.zero_le _, rfl, HR0.out, Below.refl _ _⟩
  case round =>
    obtain ⟨k, hk, rfl, hv, hbel⟩ := hrel
    have HV := Lib.hid hv
    clear hv
    by_cases hlt : k < l.length
    · have hlt' : (k : Int) < (l.length : Int) := by omega
      obtain ⟨s, hs⟩ : ∃ s, l[k]? = some s := ⟨l[k], List.getElem?_eq_getElem hlt⟩
      have hdrop : l.drop k = s :: l.drop (k + 1) := by
        rw [List.drop_eq_getElem_cons hlt]
        rw [List.getElem?_eq_getElem hlt] at hs
        cases hs; rfl
      have hrow : (l.map CallD.row)[k]? = some s.row := by rw [List.getElem?_map, hs]; rfl
      obtain ⟨g, off, ha, hg, hc⟩ := hr k _ hrow
      subst ha
      have hcc := fun j x hx => (hbel.cell (p := ⟨g, off + k * 5 + j, none⟩) hg).trans (hc j x hx)
      have c0 : wr.cell? ⟨g, off + k * 5, none⟩ = some (.int .i64 s.stop) := hcc 0 _ rfl
      have c1 : wr.cell? ⟨g, off + k * 5 + 1, none⟩ = some (.int .i64 s.arr) := hcc 1 _ rfl
      have c2 : wr.cell? ⟨g, off + k * 5 + 2, none⟩ = some (.int .i64 s.dep) := hcc 2 _ rfl
      have c3 : wr.cell? ⟨g, off + k * 5 + 3, none⟩ = some (.bool s.board) := hcc 3 _ rfl
      have c4 : wr.cell? ⟨g, off + k * 5 + 4, none⟩ = some (.bool s.alight) := hcc 4 _ rfl
      have hV := HV.out
      rw [hdrop, alGo] at hV
      have HRR := Lib.hid hr
      have belA : ∀ o, Below w.heap.size w (wr.alloc o) := fun o => hbel.trans ((Below.refl _ _).alloc hbel.size o)
      clear hrow hs hdrop hr hc hcc
      have hways : (¬ 0 < k) ∨ (0 < k ∧ ¬ s.stop = x) ∨ (0 < k ∧ s.stop = x ∧ ¬ s.alight = true) ∨ (0 < k ∧ s.stop = x ∧ s.alight = true) := by (cases s.alight <;> simp <;> omega)
      rcases hways with z1 | ⟨z1, z2⟩ | ⟨z1, z2, z3⟩ | ⟨z1, z2, z3⟩
      · rw [if_neg (fun h => z1 h.1)] at hV
        have HX := Lib.hid hV
        clear hV
        go_wp2
        exact ⟨⟨k + 1, by omega, by first | rfl | (congr 1; omega), HX.out, belA _⟩, by simp [intOf]; omega⟩
      · rw [if_neg (fun h => z2 h.2.1)] at hV
        have HX := Lib.hid hV
        clear hV
        go_wp2
        exact ⟨⟨k + 1, by omega, by first | rfl | (congr 1; omega), HX.out, belA _⟩, by simp [intOf]; omega⟩
      · rw [if_neg (fun h => z3 h.2.2)] at hV
        have HX := Lib.hid hV
        clear hV
        go_wp2
        exact ⟨⟨k + 1, by omega, by first | rfl | (congr 1; omega), HX.out, belA _⟩, by simp [intOf]; omega⟩
      · rw [if_pos ⟨z1, z2, z3⟩] at hV
        have HX := Lib.hid hV
        clear hV
        go_wp2
        go_ret
        exact ⟨by rw [← HX.out]; first | rfl | (simp_all; done), belA _⟩
    · have hlt' : ¬ (k : Int) < (l.length : Int) := by omega
      have hE := HV.out
      rw [List.drop_of_length_le (by omega)] at hE
      have HE := Lib.hid hE
      clear hE
      go_wp2
      go_ret
      exact ⟨by rw [← HE.out]; rfl, hbel⟩

set_option maxHeartbeats 800000 in
theorem bd86 (a : Option Addr) (cap : Nat) (l : List CallD) (x : Int) (w : World) (hr : RowsAt w a 5 (l.map CallD.row)) (hl : l.length < 1000000) :
    Calls Tryz.prog 86 #[.slice a l.length cap, .int .i64 x] w fun e w' => e = .returned (.int .i64 (bdGo l.length x 0 l)) ∧ Below w.heap.size w w' := by
  obtain ⟨R, hR⟩ : ∃ R, bdGo l.length x 0 l = R := ⟨_, rfl⟩
  rw [hR]
  have HR0 := Lib.hid hR
  clear hR
  go_enter Tryz.func86, Tryz.ntmps86
  go_wp2
  go_loopw [9] (fun i wr => ∃ (k : Nat), k ≤ l.length ∧ i = .int .i64 k ∧ bdGo l.length x k (l.drop k) = R ∧ Below w.heap.size w wr) (fun i _ => l.length - (intOf i).toNat)
  case atStart => exact ⟨0, Nat.zero_le _, rfl, HR0.out, Below.refl _ _⟩
  case round =>
    obtain ⟨k, hk, rfl, hv, hbel⟩ := hrel
    have HV := Lib.hid hv
    clear hv
    by_cases hlt : k < l.length
    · have hlt' : (k : Int) < (l.length : Int) := by omega
      obtain ⟨s, hs⟩ : ∃ s, l[k]? = some s := ⟨l[k], List.getElem?_eq_getElem hlt⟩
      have hdrop : l.drop k = s :: l.drop (k + 1) := by
        rw [List.drop_eq_getElem_cons hlt]
        rw [List.getElem?_eq_getElem hlt] at hs
        cases hs; rfl
      have hrow : (l.map CallD.row)[k]? = some s.row := by rw [List.getElem?_map, hs]; rfl
      obtain ⟨g, off, ha, hg, hc⟩ := hr k _ hrow
      subst ha
      have hcc := fun j x hx => (hbel.cell (p := ⟨g, off + k * 5 + j, none⟩) hg).trans (hc j x hx)
      have c0 : wr.cell? ⟨g, off + k * 5, none⟩ = some (.int .i64 s.stop) := hcc 0 _ rfl
      have c1 : wr.cell? ⟨g, off + k * 5 + 1, none⟩ = some (.int .i64 s.arr) := hcc 1 _ rfl
      have c2 : wr.cell? ⟨g, off + k * 5 + 2, none⟩ = some (.int .i64 s.dep) := hcc 2 _ rfl
      have c3 : wr.cell? ⟨g, off + k * 5 + 3, none⟩ = some (.bool s.board) := hcc 3 _ rfl
      have c4 : wr.cell? ⟨g, off + k * 5 + 4, none⟩ = some (.bool s.alight) := hcc 4 _ rfl
      have hV := HV.out
      rw [hdrop, bdGo] at hV
      have HRR := Lib.hid hr
      have belA : ∀ o, Below w.heap.size w (wr.alloc o) := fun o => hbel.trans ((Below.refl _ _).alloc hbel.size o)
      clear hrow hs hdrop hr hc hcc
      have hways : (¬ k + 1 < l.length) ∨ (k + 1 < l.length ∧ ¬ s.stop = x) ∨ (k + 1 < l.length ∧ s.stop = x ∧ ¬ s.board = true) ∨ (k + 1 < l.length ∧ s.stop = x ∧ s.board = true) := by (cases s.board <;> simp <;> omega)
      rcases hways with z1 | ⟨z1, z2⟩ | ⟨z1, z2, z3⟩ | ⟨z1, z2, z3⟩
      · rw [if_neg (fun h => z1 h.1)] at hV
        have HX := Lib.hid hV
        clear hV
        go_wp2
        exact ⟨⟨k + 1, by omega, by first | rfl | (congr 1; omega), HX.out, belA _⟩, by simp [intOf]; omega⟩
      · rw [if_neg (fun h => z2 h.2.1)] at hV
        have HX := Lib.hid hV
        clear hV
        go_wp2
        exact ⟨⟨k + 1, by omega, by first | rfl | (congr 1; omega), HX.out, belA _⟩, by simp [intOf]; omega⟩
      · rw [if_neg (fun h => z3 h.2.2)] at hV
        have HX := Lib.hid hV
        clear hV
        go_wp2
        exact ⟨⟨k + 1, by omega, by first | rfl | (congr 1; omega), HX.out, belA _⟩, by simp [intOf]; omega⟩
      · rw [if_pos ⟨z1, z2, z3⟩] at hV
        have HX := Lib.hid hV
        clear hV
        go_wp2
        go_ret
        exact ⟨by rw [← HX.out]; first | rfl | (simp_all; done), belA _⟩
    · have hlt' : ¬ (k : Int) < (l.length : Int) := by omega
      have hE := HV.out
      rw [List.drop_of_length_le (by omega)] at hE
      have HE := Lib.hid hE
      clear hE
      go_wp2
      go_ret
      exact ⟨by rw [← HE.out]; rfl, hbel⟩
end Go.Proofs.Tt

namespace Go.Proofs.Tt
open Go Go.Proofs
open Go.RowKit Go.Maps
set_option maxRecDepth 1000000

theorem ex82 (x : Int) (B n cap : Nat) (a : Option Addr) (w : World) (h : w.cell? ⟨B, 0, none⟩ = some (.slice a n cap)) :
    Calls Tryz.prog 82 #[.int .i64 x, .pointer (some ⟨B, 0, none⟩)] w fun e w' => e = .returned (.bool (decide (0 ≤ x ∧ x < n))) ∧ w = w' := by
  obtain ⟨q, hq⟩ : ∃ q, decide (0 ≤ x ∧ x < n) = q := ⟨_, rfl⟩
  rw [hq]
  have HQ := Lib.hid hq
  clear hq
  have hw : ¬ 0 ≤ x ∨ (0 ≤ x ∧ ¬ x < n) ∨ (0 ≤ x ∧ x < n) := by omega
  rcases hw with z1 | ⟨z1, z2⟩ | ⟨z1, z2⟩
  iterate 2
    · have HX := Lib.hid (show q = false by rw [← HQ.out]; exact decide_eq_false (by omega))
      go_enter Tryz.func82, Tryz.ntmps82
      go_wp2
      go_ret
      exact ⟨by rw [HX.out]; rfl, rfl⟩
  · have HX := Lib.hid (show q = true by rw [← HQ.out]; exact decide_eq_true (by omega))
    go_enter Tryz.func82, Tryz.ntmps82
    go_wp2
    go_ret
    exact ⟨by rw [HX.out]; rfl, rfl⟩
theorem exT (x : Int) (B n cap : Nat) (a : Option Addr) (w : World) (h : w.cell? ⟨B, 0, none⟩ = some (.slice a n cap)) (hx : 0 ≤ x ∧ x < n) :
    Calls Tryz.prog 82 #[.int .i64 x, .pointer (some ⟨B, 0, none⟩)] w fun e w' => e = .returned (.bool true) ∧ w = w' := by
  have := ex82 x B n cap a w h
  rwa [decide_eq_true hx] at this
theorem exF (x : Int) (B n cap : Nat) (a : Option Addr) (w : World) (h : w.cell? ⟨B, 0, none⟩ = some (.slice a n cap)) (hx : ¬ (0 ≤ x ∧ x < n)) :
    Calls Tryz.prog 82 #[.int .i64 x, .pointer (some ⟨B, 0, none⟩)] w fun e w' => e = .returned (.bool false) ∧ w = w' := by
  have := ex82 x B n cap a w h
  rwa [decide_eq_false hx] at this

def pairS (n : Nat) (l : List FrqD) (x y : Int) : Int × Int := if ¬ (0 ≤ x ∧ x < n) ∨ ¬ (0 ≤ y ∧ y < n) ∨ x = y then (9, 0) else if repGo x 0 l = true ∨ repGo y 0 l = true then (0, 17) else (0, 0)
set_option maxHeartbeats 1600000 in
theorem pair63 (x y : Int) (ta fa : Option Addr) (n tc fc : Nat) (l : List FrqD) (w : World) (hr : RowsAt w fa 4 (l.map FrqD.row)) (hl : l.length < 1000000) :
    Calls Tryz.prog 63 #[.int .i64 x, .int .i64 y, .slice ta n tc, .slice fa l.length fc] w fun e w' => e = .returned (.tuple #[.int .i64 (pairS n l x y).1, .int .i64 (pairS n l x y).2]) ∧ Below w.heap.size w w' := by
  obtain ⟨R, hR⟩ : ∃ R, pairS n l x y = R := ⟨_, rfl⟩
  rw [hR]
  unfold pairS at hR
  have HR := Lib.hid hR
  clear hR
  have hbx := heapNew w (Obj.cells #[.slice ta n tc] 26)
  have hcl : (w.alloc (Obj.cells #[.slice ta n tc] 26)).cell? ⟨w.heap.size, 0, none⟩ = some (.slice ta n tc) := by simp only [World.cell?, hbx]; rfl
  have belA : Below w.heap.size w (w.alloc (Obj.cells #[.slice ta n tc] 26)) := (Below.refl _ _).alloc (Nat.le_refl _) _
  have HXT := Lib.hid (fun h => exT x w.heap.size n tc ta _ hcl h)
  have HXF := Lib.hid (fun h => exF x w.heap.size n tc ta _ hcl h)
  have HYT := Lib.hid (fun h => exT y w.heap.size n tc ta _ hcl h)
  have HYF := Lib.hid (fun h => exF y w.heap.size n tc ta _ hcl h)
  have HRX := Lib.hid (rep83 fa fc l x _ (hr.below belA) hl)
  have HRY := Lib.hid (fun w2 (hb : Below (w.alloc (Obj.cells #[.slice ta n tc] 26)).heap.size (w.alloc (Obj.cells #[.slice ta n tc] 26)) w2) => rep83 fa fc l y w2 ((hr.below belA).below hb) hl)
  clear hcl hbx hr
  by_cases hx : 0 ≤ x ∧ x < n
  · by_cases hy : 0 ≤ y ∧ y < n
    · by_cases hxy : x = y
      · have HX := Lib.hid (show R = (9, 0) by rw [← HR.out, if_pos (.inr (.inr hxy))])
        have HX1 := Lib.hid (HXT.out hx)
        have HY1 := Lib.hid (HYT.out hy)
        clear hx hy HXT HXF HYT HYF
        go_enter Tryz.func63, Tryz.ntmps63
        go_wp2_with (go_at_call 82; first | (with_reducible refine HX1.out.mono ?_; rintro e w2 ⟨rfl, rfl⟩) | (with_reducible refine HY1.out.mono ?_; rintro e w2 ⟨rfl, rfl⟩))
        go_ret2
        exact ⟨by rw [HX.out]; rfl, belA⟩
      · have h0 : ¬ (¬ (0 ≤ x ∧ x < n) ∨ ¬ (0 ≤ y ∧ y < n) ∨ x = y) := by omega
        have HX1 := Lib.hid (HXT.out hx)
        have HY1 := Lib.hid (HYT.out hy)
        clear hx hy HXT HXF HYT HYF
        obtain ⟨b1, hb1⟩ : ∃ b, repGo x 0 l = b := ⟨_, rfl⟩
        obtain ⟨b2, hb2⟩ : ∃ b, repGo y 0 l = b := ⟨_, rfl⟩
        rw [hb1] at HRX
        simp only [hb2] at HRY
        have hR := HR.out
        rw [if_neg h0, hb1, hb2] at hR
        have HX := Lib.hid hR
        clear hR hb1 hb2 h0 HR
        cases b1 <;> cases b2
        all_goals (
          go_enter Tryz.func63, Tryz.ntmps63
          go_wp2_with (first
            | (go_at_call 82; first | (with_reducible refine HX1.out.mono ?_; rintro e w2 ⟨rfl, rfl⟩) | (with_reducible refine HY1.out.mono ?_; rintro e w2 ⟨rfl, rfl⟩))
            | (go_at_call 83; first | (with_reducible refine HRX.out.mono ?_; rintro e w3 ⟨rfl, hb3⟩) | (with_reducible refine (HRY.out _ hb3).mono ?_; rintro e w4 ⟨rfl, hb4⟩)))
          go_ret2
          exact ⟨by rw [← HX.out]; rfl, by first | exact belA.trans ((hb3.trans (hb4.mono hb3.size)).mono belA.size) | exact belA.trans (hb3.mono belA.size)⟩)
    · have HX := Lib.hid (show R = (9, 0) by rw [← HR.out, if_pos (.inr (.inl hy))])
      have HX1 := Lib.hid (HXT.out hx)
      have HY1 := Lib.hid (HYF.out hy)
      clear hx hy HXT HXF HYT HYF
      go_enter Tryz.func63, Tryz.ntmps63
      go_wp2_with (go_at_call 82; first | (with_reducible refine HX1.out.mono ?_; rintro e w2 ⟨rfl, rfl⟩) | (with_reducible refine HY1.out.mono ?_; rintro e w2 ⟨rfl, rfl⟩))
      go_ret2
      exact ⟨by rw [HX.out]; rfl, belA⟩
  · have HX := Lib.hid (show R = (9, 0) by rw [← HR.out, if_pos (.inl hx)])
    have HX1 := Lib.hid (HXF.out hx)
    clear hx HXT HXF HYT HYF
    go_enter Tryz.func63, Tryz.ntmps63
    go_wp2_with (go_at_call 82; first | (with_reducible refine HX1.out.mono ?_; rintro e w2 ⟨rfl, rfl⟩))
    go_ret2
    exact ⟨by rw [HX.out]; rfl, belA⟩
end Go.Proofs.Tt

namespace Go.Proofs.Tt
open Go Go.Proofs
open Go.RowKit Go.Maps
theorem blt {a b c : World} (h : Below a.heap.size a b) (k : Below b.heap.size b c) : Below a.heap.size a c := h.trans (k.mono h.size)
theorem blA {a b : World} (h : Below a.heap.size a b) (o : Obj) : Below a.heap.size a (b.alloc o) := h.alloc h.size o
theorem blD {a b : World} (h : Below a.heap.size a b) : Below a.heap.size a b.drew := h.drew
theorem bl0 (w : World) : Below w.heap.size w w := Below.refl _ _
theorem blN {n0 : Nat} {a b : World} (h : Below n0 a b) (n : Nat) : Below n0 a (b.drewN n) := by
  refine ⟨h.os, h.tape, h.output, ?_, fun k hk => ?_⟩
  · simpa using h.size
  · simpa using h.block k hk
theorem keepC {W W' : World} {B : Nat} (h : Below B W W') {g o : Nat} {v : Value} (hg : g < B) (hc : W.cell? ⟨g, o, none⟩ = some v) : W'.cell? ⟨g, o, none⟩ = some v := (h.cell (p := ⟨g, o, none⟩) hg).trans hc
/-- a new box's cell -/
theorem boxC (w : World) (cs : Array Value) (t : TypeId) (k : Nat) (v : Value) (h : cs[k]? = some v) : (w.alloc (Obj.cells cs t)).cell? ⟨w.heap.size, k, none⟩ = some v := by
  simp only [World.cell?, heapNew]
  simpa using h
/-- a call's cells, in the walk's spelling -/
def CallAt (W : World) (g o : Nat) (s : CallD) : Prop := W.cell? ⟨g, o, none⟩ = some (.int .i64 s.stop) ∧ W.cell? ⟨g, o + 1, none⟩ = some (.int .i64 s.arr) ∧ W.cell? ⟨g, o + 2, none⟩ = some (.int .i64 s.dep) ∧ W.cell? ⟨g, o + 3, none⟩ = some (.bool s.board) ∧ W.cell? ⟨g, o + 4, none⟩ = some (.bool s.alight)
theorem CallAt.keep {W W' : World} {g o : Nat} {s : CallD} {B : Nat} (h : CallAt W g o s) (hg : g < B) (hb : Below B W W') : CallAt W' g o s := ⟨keepC hb hg h.1, keepC hb hg h.2.1, keepC hb hg h.2.2.1, keepC hb hg h.2.2.2.1, keepC hb hg h.2.2.2.2⟩
theorem callAt {w : World} {a : Option Addr} {l : List CallD} {i : Nat} {s : CallD} (h : RowsAt w a 5 (l.map CallD.row)) (hs : l[i]? = some s) : ∃ g f, a = some ⟨g, f, none⟩ ∧ g < w.heap.size ∧ CallAt w g (f + i * 5) s := by
  obtain ⟨g, f, h1, h2, h3⟩ := h i s.row (by rw [List.getElem?_map, hs]; rfl)
  exact ⟨g, f, h1, h2, h3 0 _ rfl, h3 1 _ rfl, h3 2 _ rfl, h3 3 _ rfl, h3 4 _ rfl⟩
abbrev TripD.val (s : TripD) : Value := .agg #[.string s.id, .int .i64 s.route, .int .i64 s.cal, .bool s.sf, .slice s.a s.calls.length s.cap]
/-- a trip's cells -/
def TripAt (W : World) (g o : Nat) (s : TripD) : Prop := W.cell? ⟨g, o, none⟩ = some (.string s.id) ∧ W.cell? ⟨g, o + 1, none⟩ = some (.int .i64 s.route) ∧ W.cell? ⟨g, o + 2, none⟩ = some (.int .i64 s.cal) ∧ W.cell? ⟨g, o + 3, none⟩ = some (.bool s.sf) ∧ W.cell? ⟨g, o + 4, none⟩ = some (.slice s.a s.calls.length s.cap)
theorem TripAt.keep {W W' : World} {g o : Nat} {s : TripD} {B : Nat} (h : TripAt W g o s) (hg : g < B) (hb : Below B W W') : TripAt W' g o s := ⟨keepC hb hg h.1, keepC hb hg h.2.1, keepC hb hg h.2.2.1, keepC hb hg h.2.2.2.1, keepC hb hg h.2.2.2.2⟩
theorem tripAt {w : World} {a : Option Addr} {l : List TripD} {i : Nat} {s : TripD} (h : RowsAt w a 5 (l.map TripD.row)) (hs : l[i]? = some s) : ∃ g f, a = some ⟨g, f, none⟩ ∧ g < w.heap.size ∧ TripAt w g (f + i * 5) s := by
  obtain ⟨g, f, h1, h2, h3⟩ := h i s.row (by rw [List.getElem?_map, hs]; rfl)
  exact ⟨g, f, h1, h2, h3 0 _ rfl, h3 1 _ rfl, h3 2 _ rfl, h3 3 _ rfl, h3 4 _ rfl⟩
/-- a map literal's entry -/
theorem wpList_set_ins {ops : Array Oper} {rest : List Oper} {o : Oper} {a : Act} {Q : Exit → Act → World → Prop} (W : World)
    (hg : o.guard = none) (m x v : Operand) (t : TypeId) (hop : o.op = Op.insert t m x v)
    (k : TypeId) (K : Keyed Tryz.prog k) (ht : Tryz.prog.underlying t = some (.map k 4)) (b n : Nat) (ks : List Lit)
    (hm : a.eval m = .map (some b)) (h : SetK k W b n ks) (hn : n < maxLen) (key : Value) (kl : Lit) (hx : a.eval x = key) (hv : a.eval v = .bool true) (hkey : keyOf Tryz.prog k key = some kl) (hkl : WideAt.IsKeyLit kl)
    (hK : ∀ W', SetK k W' b (n + 1) (kl :: ks) → W.grownBy W' (some b) → wpList Tryz.prog ops Q rest (a.put o.dst undef) W') :
    wpList Tryz.prog ops Q (o :: rest) a W := by
  obtain ⟨D, h1, h2, h3, h4⟩ := h
  obtain ⟨W', hrun, r1, r2⟩ := h1.update K ht hn hkey (plainElem_bool (H := Unit) Tryz.underlying4 true)
  refine wpList_plain hg fun K' hK' => ?_
  unfold Oper.wp
  simp [execOp, hop, hm, hx, hv, hrun, Result.andThen]
  refine hK' _ _ (hK W' ⟨_, r1, h2.put _ _, fun l hl => ?_, fun l hl => ?_⟩ r2)
  · by_cases e : l = kl
    · subst e; exact atKey_put_same h2 hkl _ _
    · rw [atKey_put_other e]; exact h3 l ((List.mem_cons.1 hl).resolve_left e)
  · rw [List.mem_cons, not_or] at hl
    rw [atKey_put_other hl.1]; exact h4 l hl.2
/-- a world above W: all that lay in W reads as it did -/
abbrev KS (W wx : World) : Prop := Below W.heap.size W wx ∧ ∀ b o, b < W.heap.size → wx.cell? ⟨b, o, none⟩ = W.cell? ⟨b, o, none⟩
theorem KS.mk' {W wx : World} (h : Below W.heap.size W wx) : KS W wx := ⟨h, fun b o hb => h.cell (p := ⟨b, o, none⟩) hb⟩
theorem KS.step {W wa wb : World} (h : KS W wa) (hb : Below wa.heap.size wa wb) : KS W wb := KS.mk' (blt h.1 hb)
theorem KS.set {W wa : World} {b o : Nat} {v : Value} (h : KS W wa) (hb : W.heap.size ≤ b) : KS W (wa.setCell ⟨b, o, none⟩ v) := KS.mk' (h.1.setCell (p := ⟨b, o, none⟩) hb v)
theorem RowsAt.take {w : World} {a : Option Addr} {sz k : Nat} {rows : List (List Value)} (h : RowsAt w a sz rows) : RowsAt w a sz (rows.take k) := fun i r hr => h i r (by rw [List.getElem?_take] at hr; split at hr <;> simp_all)
theorem SetK.add {k t : TypeId} {W : World} {b n : Nat} {ks : List Lit} (h : SetK k W b n ks) (K : Keyed Tryz.prog k) (ht : Tryz.prog.underlying t = some (.map k 4)) (hn : n < maxLen) {key : Value} {kl : Lit} (hkey : keyOf Tryz.prog k key = some kl) (hkl : WideAt.IsKeyLit kl) :
    ∃ W', (Instr.mapUpdate t (.map (some b)) key (.bool true)).run Tryz.prog W = .ok () W' ∧ SetK k W' b (n + 1) (kl :: ks) ∧ W.grownBy W' (some b) := by
  obtain ⟨D, h1, h2, h3, h4⟩ := h
  obtain ⟨W', hrun, r1, r2⟩ := h1.update K ht hn hkey (plainElem_bool (H := Unit) Tryz.underlying4 true)
  refine ⟨W', hrun, ⟨_, r1, h2.put _ _, fun l hl => ?_, fun l hl => ?_⟩, r2⟩
  · by_cases e : l = kl
    · subst e; exact atKey_put_same h2 hkl _ _
    · rw [atKey_put_other e]; exact h3 l ((List.mem_cons.1 hl).resolve_left e)
  · rw [List.mem_cons, not_or] at hl
    rw [atKey_put_other hl.1]; exact h4 l hl.2
theorem SetK.lookB {k t : TypeId} {W : World} {b n : Nat} {ks : List Lit} (h : SetK k W b n ks) (K : Keyed Tryz.prog k) (ht : Tryz.prog.underlying t = some (.map k 4)) {key : Value} {kl : Lit} (hkey : keyOf Tryz.prog k key = some kl) :
    ∃ x, (x = true ↔ kl ∈ ks) ∧ (Instr.lookup t (.map (some b)) key false).run Tryz.prog W = .ok (.bool x) W := by
  by_cases hm : kl ∈ ks
  · exact ⟨true, by simp [hm], (h.look K ht hkey).1 hm⟩
  · exact ⟨false, by simp [hm], (h.look K ht hkey).2 hm⟩
def lastC (l : List CallD) : CallD := l[l.length - 1]?.getD ⟨0, 0, 0, false, false⟩
def firstC (l : List CallD) : CallD := l[0]?.getD ⟨0, 0, 0, false, false⟩
end Go.Proofs.Tt
