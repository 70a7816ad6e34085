/-
  A part of the proof: lemmas of my own.
-/
import Derived.Test.YtamocmgfbonodaaGreatTe
import Derived.BigRegion
import Derived.Deep.Cut
import Derived.WalkMore
import Derived.Deep.AppendLies
import Derived.RangeFuncBox
set_option linter.unusedVariables false
set_option linter.unusedSimpArgs false
namespace Go.Proofs.Tt
open Go Go.Proofs
open Go.RowKit Go.Maps
set_option maxRecDepth 1000000

theorem al_range (x : Int) : ∀ (l : List CallD) (k : Nat), alGo x k l = -1 ∨ ∃ j : Nat, alGo x k l = (j : Int) ∧ k ≤ j ∧ j < k + l.length
  | [], k => .inl rfl
  | s :: l, k => by
    rw [alGo]
    split
    · exact .inr ⟨k, rfl, Nat.le_refl _, by simp⟩
    · rcases al_range x l (k + 1) with h | ⟨j, h1, h2, h3⟩
      · exact .inl h
      · exact .inr ⟨j, h1, by omega, by simp; omega⟩
theorem bd_range (n : Nat) (x : Int) : ∀ (l : List CallD) (k : Nat), bdGo n x k l = -1 ∨ ∃ j : Nat, bdGo n x k l = (j : Int) ∧ k ≤ j ∧ j < k + l.length
  | [], k => .inl rfl
  | s :: l, k => by
    rw [bdGo]
    split
    · exact .inr ⟨k, rfl, Nat.le_refl _, by simp⟩
    · rcases bd_range n x l (k + 1) with h | ⟨j, h1, h2, h3⟩
      · exact .inl h
      · exact .inr ⟨j, h1, by omega, by simp; omega⟩
def arrAt (l : List CallD) (i : Int) : Int := (l[i.toNat]?.map (·.arr)).getD 0
def depAt (l : List CallD) (i : Int) : Int := (l[i.toNat]?.map (·.dep)).getD 0
def meetS (x : Int) (A B : List CallD) : Int × Int × Bool := if alGo x 0 A < 0 ∨ bdGo B.length x 0 B < 0 then (0, 0, false) else if depAt B (bdGo B.length x 0 B) < arrAt A (alGo x 0 A) then (0, 0, false) else (alGo x 0 A, bdGo B.length x 0 B, true)

set_option maxHeartbeats 1600000 in
theorem meets66 (x : Int) (a b : Option Addr) (ac bc : Nat) (A B : List CallD) (w : World) (ha : RowsAt w a 5 (A.map CallD.row)) (hb : RowsAt w b 5 (B.map CallD.row)) (hla : A.length < 1000000) (hlb : B.length < 1000000) :
    Calls Tryz.prog 66 #[.slice a A.length ac, .slice b B.length bc, .int .i64 x] w fun e w' => e = .returned (.tuple #[.int .i64 (meetS x A B).1, .int .i64 (meetS x A B).2.1, .bool (meetS x A B).2.2]) ∧ Below w.heap.size w w' := by
  obtain ⟨R, hR⟩ : ∃ R, meetS x A B = R := ⟨_, rfl⟩
  rw [hR]
  unfold meetS at hR
  have HA := Lib.hid (al85 a ac A x w ha hla)
  have HB := Lib.hid (fun w2 (h : Below w.heap.size w w2) => bd86 b bc B x w2 (hb.below h) hlb)
  rcases al_range x A 0 with hi | ⟨i, hi, -, hi2⟩
  · rw [hi] at hR HA
    have HX := Lib.hid (show R = (0, 0, false) by rw [← hR, if_pos (.inl (by decide))])
    obtain ⟨k, hk⟩ : ∃ k, bdGo B.length x 0 B = k := ⟨_, rfl⟩
    simp only [hk] at HB
    clear hR hi hk ha hb
    go_enter Tryz.func66, Tryz.ntmps66
    go_wp2_with (first | (go_at_call 85; refine HA.out.mono ?_; rintro e w2 ⟨rfl, hb2⟩) | (go_at_call 86; refine (HB.out _ hb2).mono ?_; rintro e w3 ⟨rfl, hb3⟩))
    go_quiet (fail)
    go_wp2
    go_ret3
    exact ⟨by rw [HX.out]; rfl, by first | exact hb2.trans (hb3.mono hb2.size) | exact blN (hb2.trans (hb3.mono hb2.size)) _⟩
  · rcases bd_range B.length x B 0 with hk | ⟨k, hk, -, hk2⟩
    · rw [hi, hk] at hR
      rw [hi] at HA
      simp only [hk] at HB
      have d0 : decide ((-1 : Int) < 0) = true := by decide
      have HX := Lib.hid (show R = (0, 0, false) by rw [← hR, if_pos (.inr (by decide))])
      have d1 : decide ((i : Int) < 0) = false := decide_eq_false (by omega)
      clear hR hi hk ha hb
      go_enter Tryz.func66, Tryz.ntmps66
      go_wp2_with (first | (go_at_call 85; refine HA.out.mono ?_; rintro e w2 ⟨rfl, hb2⟩) | (go_at_call 86; refine (HB.out _ hb2).mono ?_; rintro e w3 ⟨rfl, hb3⟩))
      go_quiet (fail)
      go_wp2
      go_ret3
      exact ⟨by rw [HX.out]; rfl, by first | exact hb2.trans (hb3.mono hb2.size) | exact blN (hb2.trans (hb3.mono hb2.size)) _⟩
    · rw [hi, hk] at hR
      rw [hi] at HA
      simp only [hk] at HB
      have hi3 : i < A.length := by omega
      have hk3 : k < B.length := by omega
      obtain ⟨s, hs⟩ : ∃ s, A[i]? = some s := ⟨_, List.getElem?_eq_getElem hi3⟩
      obtain ⟨u, hu⟩ : ∃ u, B[k]? = some u := ⟨_, List.getElem?_eq_getElem hk3⟩
      obtain ⟨g, f, rfl, hg, hc⟩ := ha i s.row (by rw [List.getElem?_map, hs]; rfl)
      obtain ⟨g', f', rfl, hg', hc'⟩ := hb k u.row (by rw [List.getElem?_map, hu]; rfl)
      have cA := hc 1 _ rfl
      have cB := hc' 2 _ rfl
      have CA := Lib.hid (fun w2 (h : Below w.heap.size w w2) => (h.cell (p := ⟨g, f + i * 5 + 1, none⟩) hg).trans cA)
      have CB := Lib.hid (fun w2 (h : Below w.heap.size w w2) => (h.cell (p := ⟨g', f' + k * 5 + 2, none⟩) hg').trans cB)
      have ea : arrAt A i = s.arr := by simp [arrAt, hs]
      have eb : depAt B k = u.dep := by simp [depAt, hu]
      rw [ea, eb, if_neg (by omega)] at hR
      have d1 : decide ((i : Int) < 0) = false := decide_eq_false (by omega)
      have d2 : decide ((k : Int) < 0) = false := decide_eq_false (by omega)
      have i3 : (i : Int) < (A.length : Int) := by omega
      have k3 : (k : Int) < (B.length : Int) := by omega
      by_cases ht : u.dep < s.arr
      · rw [if_pos ht] at hR
        have HX := Lib.hid hR.symm
        have d3 : decide (u.dep < s.arr) = true := decide_eq_true ht
        clear hR hi hk ha hb hc hc' cA cB ea eb hs hu
        go_enter Tryz.func66, Tryz.ntmps66
        go_wp2_with (first | (go_at_call 85; refine HA.out.mono ?_; rintro e w2 ⟨rfl, hb2⟩) | (go_at_call 86; refine (HB.out _ hb2).mono ?_; rintro e w3 ⟨rfl, hb3⟩; have hW := hb2.trans (hb3.mono hb2.size); have xA := CA.out _ hW; have xB := CB.out _ hW))
        go_quiet (fail)
        go_wp2
        go_ret3
        exact ⟨by rw [HX.out]; rfl, by first | exact hW | exact blN hW _⟩
      · rw [if_neg ht] at hR
        have HX := Lib.hid hR.symm
        have d3 : decide (u.dep < s.arr) = false := decide_eq_false ht
        clear hR hi hk ha hb hc hc' cA cB ea eb hs hu
        go_enter Tryz.func66, Tryz.ntmps66
        go_wp2_with (first | (go_at_call 85; refine HA.out.mono ?_; rintro e w2 ⟨rfl, hb2⟩) | (go_at_call 86; refine (HB.out _ hb2).mono ?_; rintro e w3 ⟨rfl, hb3⟩; have hW := hb2.trans (hb3.mono hb2.size); have xA := CA.out _ hW; have xB := CB.out _ hW))
        go_quiet (fail)
        go_wp2
        go_ret3
        exact ⟨by rw [HX.out]; rfl, by first | exact hW | exact blN hW _⟩
end Go.Proofs.Tt

namespace Go.Proofs.Tt
open Go Go.Proofs
open Go.RowKit Go.Maps
set_option maxRecDepth 1000000

def follS (a b : TripD) : Int := if a.cal ≠ b.cal then 15 else if a.calls.length = 0 ∨ b.calls.length = 0 then 13 else if (lastC a.calls).stop ≠ (firstC b.calls).stop then 13 else if (firstC b.calls).dep < (lastC a.calls).arr then 10 else 0

def FoS (st ar st' dp' : Int) (w2 : World) (s5 s6 : Value) (wx : World) : Prop := ∃ B5 B6, s5 = .pointer (some ⟨B5, 0, none⟩) ∧ s6 = .pointer (some ⟨B6, 0, none⟩) ∧ wx.cell? ⟨B5, 0, none⟩ = some (.int .i64 st) ∧ wx.cell? ⟨B5, 1, none⟩ = some (.int .i64 ar) ∧ wx.cell? ⟨B6, 0, none⟩ = some (.int .i64 st') ∧ wx.cell? ⟨B6, 2, none⟩ = some (.int .i64 dp') ∧ Below w2.heap.size w2 wx
theorem fo1 (st ar dp st' ar' dp' : Int) (bo al bo' al' : Bool) (w2 : World) : FoS st ar st' dp' w2 (.pointer (some ⟨w2.heap.size, 0, none⟩)) (.pointer (some ⟨w2.heap.size + 1, 0, none⟩)) ((w2.alloc (Obj.cells #[.int .i64 st, .int .i64 ar, .int .i64 dp, .bool bo, .bool al] 49)).alloc (Obj.cells #[.int .i64 st', .int .i64 ar', .int .i64 dp', .bool bo', .bool al'] 49)).drew :=
  ⟨w2.heap.size, w2.heap.size + 1, rfl, rfl, keepC (blD (blA (bl0 _) _)) (by simp) (boxC _ _ _ 0 _ rfl), keepC (blD (blA (bl0 _) _)) (by simp) (boxC _ _ _ 1 _ rfl), by have := boxC (w2.alloc (Obj.cells #[.int .i64 st, .int .i64 ar, .int .i64 dp, .bool bo, .bool al] 49)) #[.int .i64 st', .int .i64 ar', .int .i64 dp', .bool bo', .bool al'] 49 0 _ rfl; simp, by have := boxC (w2.alloc (Obj.cells #[.int .i64 st, .int .i64 ar, .int .i64 dp, .bool bo, .bool al] 49)) #[.int .i64 st', .int .i64 ar', .int .i64 dp', .bool bo', .bool al'] 49 2 _ rfl; simp, blD (blA (blA (bl0 _) _) _)⟩
theorem fo2 (st ar dp st' ar' dp' : Int) (bo al bo' al' : Bool) (w2 : World) : FoS st ar st' dp' w2 (.pointer (some ⟨w2.heap.size + 1, 0, none⟩)) (.pointer (some ⟨w2.heap.size, 0, none⟩)) ((w2.alloc (Obj.cells #[.int .i64 st', .int .i64 ar', .int .i64 dp', .bool bo', .bool al'] 49)).alloc (Obj.cells #[.int .i64 st, .int .i64 ar, .int .i64 dp, .bool bo, .bool al] 49)).drew :=
  ⟨w2.heap.size + 1, w2.heap.size, rfl, rfl, by have := boxC (w2.alloc (Obj.cells #[.int .i64 st', .int .i64 ar', .int .i64 dp', .bool bo', .bool al'] 49)) #[.int .i64 st, .int .i64 ar, .int .i64 dp, .bool bo, .bool al] 49 0 _ rfl; simp, by have := boxC (w2.alloc (Obj.cells #[.int .i64 st', .int .i64 ar', .int .i64 dp', .bool bo', .bool al'] 49)) #[.int .i64 st, .int .i64 ar, .int .i64 dp, .bool bo, .bool al] 49 1 _ rfl; simp, keepC (blD (blA (bl0 _) _)) (by simp) (boxC _ _ _ 0 _ rfl), keepC (blD (blA (bl0 _) _)) (by simp) (boxC _ _ _ 2 _ rfl), blD (blA (blA (bl0 _) _) _)⟩
set_option maxHeartbeats 1600000 in
theorem foll64 (x y : TripD) (w : World) (ha : RowsAt w x.a 5 (x.calls.map CallD.row)) (hb : RowsAt w y.a 5 (y.calls.map CallD.row)) (hla : x.calls.length < 1000000) (hlb : y.calls.length < 1000000) :
    Calls Tryz.prog 64 #[x.val, y.val] w fun e w' => e = .returned (.int .i64 (follS x y)) ∧ Below w.heap.size w w' := by
  obtain ⟨R, hR⟩ : ∃ R, follS x y = R := ⟨_, rfl⟩
  rw [hR]
  obtain ⟨id, ro, cal, sf, a, cap, A⟩ := x
  obtain ⟨id', ro', cal', sf', b, cap', B⟩ := y
  simp only at ha hb hla hlb
  dsimp only [TripD.val]
  unfold follS at hR
  simp only at hR
  have belA : ∀ o o', Below w.heap.size w ((w.alloc o).alloc o') := fun o o' => blA (blA (bl0 _) _) _
  by_cases h1 : cal = cal'
  · subst h1
    rw [if_neg (by simp)] at hR
    by_cases h2 : A.length = 0
    · have HX := Lib.hid (show R = 13 by rw [← hR, if_pos (.inl h2)])
      have d2 : (A.length : Int) = 0 := by omega
      clear hR ha hb
      go_enter Tryz.func64, Tryz.ntmps64
      go_wp2
      go_ret
      exact ⟨by rw [HX.out]; rfl, belA _ _⟩
    · by_cases h3 : B.length = 0
      · have HX := Lib.hid (show R = 13 by rw [← hR, if_pos (.inr h3)])
        have d2 : ¬ (A.length : Int) = 0 := by omega
        have d3 : (B.length : Int) = 0 := by omega
        clear hR ha hb
        go_enter Tryz.func64, Tryz.ntmps64
        go_wp2
        go_ret
        exact ⟨by rw [HX.out]; rfl, belA _ _⟩
      · rw [if_neg (by omega)] at hR
        have d2 : ¬ (A.length : Int) = 0 := by omega
        have d3 : ¬ (B.length : Int) = 0 := by omega
        obtain ⟨m, hm⟩ : ∃ m, A.length = m + 1 := ⟨A.length - 1, by omega⟩
        have hi3 : A.length - 1 < A.length := by omega
        obtain ⟨s, hs⟩ : ∃ s, A[A.length - 1]? = some s := ⟨_, List.getElem?_eq_getElem hi3⟩
        obtain ⟨u, hu⟩ : ∃ u, B[0]? = some u := ⟨_, List.getElem?_eq_getElem (show 0 < B.length by omega)⟩
        have e1 : lastC A = s := by simp [lastC, hs]
        have e2 : firstC B = u := by simp [firstC, hu]
        rw [e1, e2] at hR
        obtain ⟨g, f, rfl, hg, hc⟩ := callAt ha hs
        obtain ⟨g', f', rfl, hg', hc'⟩ := callAt hb hu
        have cs := Lib.hid (fun W2 (hB : Below w.heap.size w W2) => hc.keep hg hB)
        have ct := Lib.hid (fun W2 (hB : Below w.heap.size w W2) => hc'.keep hg' hB)
        obtain ⟨k, hk⟩ : ∃ k, A.length - 1 = k := ⟨_, rfl⟩
        obtain ⟨n, hn⟩ : ∃ n, A.length = n := ⟨_, rfl⟩
        obtain ⟨n', hn'⟩ : ∃ n', B.length = n' := ⟨_, rfl⟩
        rw [hk] at cs
        clear hc hc' ha hb hs hu e1 e2
        rw [hn] at hm hla hi3 d2 hk h2 ⊢
        rw [hn'] at hlb d3 h3 ⊢
        have wr1 : IntKind.i64.wrap ((n : Int) - 1) = (k : Int) := by simp only [IntKind.wrap, IntKind.signed, IntKind.bits]; simp; omega
        have k1 : (k : Int) < (n : Int) := by omega
        have k2 : (0 : Int) < (n' : Int) := by omega
        obtain ⟨st, ar, dp, bo, al⟩ := s
        obtain ⟨st', ar', dp', bo', al'⟩ := u
        simp only at hR
        clear hn hn' hk hm h2 h3
        obtain ⟨w2, hw2⟩ : ∃ w2, (w.alloc (Obj.cells #[.string id, .int .i64 ro, .int .i64 cal, .bool sf, .slice (some ⟨g, f, none⟩) n cap] 43)).alloc (Obj.cells #[.string id', .int .i64 ro', .int .i64 cal, .bool sf', .slice (some ⟨g', f', none⟩) n' cap'] 43) = w2 := ⟨_, rfl⟩
        have hB2 : Below w.heap.size w w2 := by rw [← hw2]; exact belA _ _
        obtain ⟨a0, a1, a2, a3, a4⟩ := cs.out _ hB2
        obtain ⟨b0, b1, b2, b3, b4⟩ := ct.out _ hB2
        simp only [Nat.zero_mul, Nat.add_zero] at b0 b1 b2 b3 b4
        simp only at a0 a1 a2 a3 a4
        have x4 : w2.cell? ⟨w.heap.size, 4, none⟩ = some (.slice (some ⟨g, f, none⟩) n cap) := by rw [← hw2]; exact keepC (blA (bl0 _) _) (by simp) (boxC _ _ _ 4 _ rfl)
        have y4 : w2.cell? ⟨w.heap.size + 1, 4, none⟩ = some (.slice (some ⟨g', f', none⟩) n' cap') := by rw [← hw2]; have := boxC (w.alloc (Obj.cells #[.string id, .int .i64 ro, .int .i64 cal, .bool sf, .slice (some ⟨g, f, none⟩) n cap] 43)) #[.string id', .int .i64 ro', .int .i64 cal, .bool sf', .slice (some ⟨g', f', none⟩) n' cap'] 43 4 _ rfl; simp
        have q1 : ((n : Int) == 0) = false := by simp; omega
        have q2 : ((n' : Int) == 0) = false := by simp; omega
        have s1 : w.heap.size + 1 < w2.heap.size := by rw [← hw2]; simp
        have s2 : w.heap.size < w2.heap.size := by omega
        have s3 : g < w2.heap.size := by omega
        have s4 : g' < w2.heap.size := by omega
        have k3 : 0 < n' := by omega
        have k4 : k < n := by omega
        have HW2 := Lib.hid hw2
        clear cs ct hw2
        go_enter Tryz.func64, Tryz.ntmps64
        go_upto_region 5 with (fail)
        rw [HW2.out]
        have HR := Lib.hid hR
        clear hR
        go_cut [5, 6] from 22 to 44 (fun s5 s6 wx => FoS st ar st' dp' w2 s5 s6 wx)
        case first =>
          go_region
          all_goals
            go_wp2
            go_meet
            case rel => first | exact fo1 _ _ _ _ _ _ _ _ _ _ _ | exact fo2 _ _ _ _ _ _ _ _ _ _ _
        case rest =>
          obtain ⟨B5, B6, rfl, rfl, u0, u1, u2, u3, hB5⟩ := hcut
          have hw : (¬ st = st') ∨ (st = st' ∧ dp' < ar) ∨ (st = st' ∧ ¬ dp' < ar) := by omega
          rcases hw with z1 | ⟨z1, z2⟩ | ⟨z1, z2⟩
          · have HX := Lib.hid (show R = 13 by rw [← HR.out, if_pos z1])
            go_wp2
            go_ret
            exact ⟨by rw [HX.out]; rfl, blt hB2 hB5⟩
          · have HX := Lib.hid (show R = 10 by rw [← HR.out, if_neg (by simp [z1]), if_pos z2])
            subst z1
            go_wp2
            go_ret
            exact ⟨by rw [HX.out]; rfl, blt hB2 hB5⟩
          · have HX := Lib.hid (show R = 0 by rw [← HR.out, if_neg (by simp [z1]), if_neg z2])
            subst z1
            go_wp2
            go_ret
            exact ⟨by rw [HX.out]; rfl, blt hB2 hB5⟩
  · have HX := Lib.hid (show R = 15 by rw [← hR, if_pos h1])
    clear hR ha hb
    go_enter Tryz.func64, Tryz.ntmps64
    go_wp2
    go_ret
    exact ⟨by rw [HX.out]; rfl, belA _ _⟩
end Go.Proofs.Tt

namespace Go.Proofs.Tt
open Go Go.Proofs
open Go.RowKit Go.Maps
set_option maxRecDepth 1000000

/-- the trips that a vehicle makes: out so far -/
def chainGo (l : List ThrD) : Nat → List Int → List Int
  | 0, out => out
  | n + 1, out => if (nextGo (out.getLast?.getD 0) 0 l).2 = true ∧ (nextGo (out.getLast?.getD 0) 0 l).1 ∉ out then chainGo l n (out ++ [(nextGo (out.getLast?.getD 0) 0 l).1]) else out
def chainS (l : List ThrD) (x : Int) : List Int := chainGo l (l.length + 1) [x]
theorem next_mem (x : Int) : ∀ (l : List ThrD) (k : Nat), (nextGo x k l).2 = true → ∃ s ∈ l, (nextGo x k l).1 = s.to_
  | [], k, h => by cases h
  | s :: l, k, h => by
    rw [nextGo] at h ⊢
    split
    · exact ⟨s, by simp, rfl⟩
    · rename_i hx
      rw [if_neg hx] at h
      obtain ⟨s2, h1, h2⟩ := next_mem x l (k + 1) h
      exact ⟨s2, List.mem_cons_of_mem _ h1, h2⟩
def ikey (x : Int) : Lit := .int .i64 x
theorem ikey_mem {a : Int} {l : List Int} : ikey a ∈ (l.map ikey).reverse ↔ a ∈ l := by
  simp [ikey, List.mem_reverse, List.mem_map]
theorem keyOfI (a : Int) (h : inW a) : keyOf Tryz.prog 3 (.int .i64 a) = some (ikey a) := keyOf_int_mk Tryz.underlying3 h
theorem infoI : (Tryz.prog.info? 3).map (fun i => (i.zero, i.size, i.bytes)) = some (some (.int .i64 0), 1, 8) := by kernel_rfl
theorem one_int (n : Int) : ∀ u ∈ [Value.int .i64 n], u.oneCell' = true := by simp [Value.oneCell']
theorem nodup_le {x : Int} {l : List ThrD} {out : List Int} (hd : out.Nodup) (hm : ∀ y ∈ out, y = x ∨ ∃ s ∈ l, y = s.to_) : out.length ≤ l.length + 1 := by
  have := List.Nodup.length_le_of_subset hd (l₂ := x :: l.map ThrD.to_) (fun y hy => by
    rcases hm y hy with h | ⟨s, h1, h2⟩
    · simp [h]
    · rw [h2]; exact List.mem_cons_of_mem _ (List.mem_map.2 ⟨s, h1, rfl⟩))
  simpa using this
/-- an own row of numbers -/
theorem own_int {w : World} {B g n cap : Nat} {T : TypeId} {out : List Int} (h : w.ownsRow B T 1 (.slice (some ⟨g, 0, none⟩) n cap) n (out.map (Value.int .i64))) {i : Nat} {y : Int} (hy : out[i]? = some y) : w.cell? ⟨g, i, none⟩ = some (.int .i64 y) := by
  have := h.cells (g := g) rfl i (.int .i64 y) (by simp [hy])
  by_cases h0 : i = 0
  · simpa [Addr.add, h0] using this
  · simpa [Addr.add, h0] using this
def lenOf : Value → Nat
  | .slice _ n _ => n
  | _ => 0
theorem own_ne {w : World} {B g n cap b m : Nat} {k T : TypeId} {xs : List Value} {ks : List Lit} (h : w.ownsRow B T 1 (.slice (some ⟨g, 0, none⟩) n cap) n xs) (hs : SetK k w b m ks) : g ≠ b := by
  rintro rfl
  obtain ⟨D, ⟨es, clock, h1, h2⟩, h3⟩ := hs
  rcases h.2 with ⟨h4, _⟩ | ⟨g', cap', cur, h4, _, h5, _⟩
  · cases h4
  · cases h4
    rw [h1] at h5
    cases h5
/-- what is known at the loop -/
def ChI (w : World) (l : List ThrD) (x : Int) (R : List Int) (v : Value) (wr : World) : Prop :=
  ∃ (out : List Int) (g cap : Nat), v = .slice (some ⟨g, 0, none⟩) out.length cap ∧ 0 < out.length ∧ wr.ownsRow w.heap.size 3 1 v out.length (out.map (Value.int .i64)) ∧ SetK 3 wr (w.heap.size + 1) out.length (out.map ikey).reverse ∧ out.Nodup ∧ (∀ y ∈ out, y = x ∨ ∃ s ∈ l, y = s.to_) ∧ chainGo l (l.length + 2 - out.length) out = R ∧ Below w.heap.size w wr
def ChP (w : World) (R : List Int) (e : Ending) (w' : World) : Prop := ∃ g cap, e = .returned (.slice (some ⟨g, 0, none⟩) R.length cap) ∧ w'.ownsRow w.heap.size 3 1 (.slice (some ⟨g, 0, none⟩) R.length cap) R.length (R.map (Value.int .i64)) ∧ Below w.heap.size w w'

set_option maxHeartbeats 1600000 in
theorem chain84 (a : Option Addr) (ac : Nat) (l : List ThrD) (x : Int) (w : World) (hr : RowsAt w a 2 (l.map ThrD.row)) (hx : inW x) (hin : ∀ s ∈ l, inW s.to_) (hl : l.length < 1000000) :
    Calls Tryz.prog 84 #[.slice a l.length ac, .int .i64 x] w (ChP w (chainS l x)) := by
  have hmm := @run_makeMap Tryz.prog
  obtain ⟨i0, hi, hz0, hz1, hz2⟩ := info_parts infoI
  obtain ⟨R, hR⟩ : ∃ R, chainS l x = R := ⟨_, rfl⟩
  rw [hR]
  have HR := Lib.hid hR
  have HI := Lib.hid (And.intro hi (And.intro hz0 (And.intro hz1 hz2)))
  have HK := Lib.hid (keyOfI x hx)
  have hkx := keyOfI x hx
  have HIN := Lib.hid hin
  have HRR := Lib.hid hr
  clear hR hi hz0 hz1 hz2 hx hin hr
  have hset0 : SetK 3 ((w.alloc (Obj.cells #[.int .i64 x] 3)).alloc (.map #[] 0)) (w.heap.size + 1) 0 [] := by
    have := SetK.made 3 (w.alloc (Obj.cells #[.int .i64 x] 3)); simpa using this
  go_enter Tryz.func84, Tryz.ntmps84
  go_wp2
  go_step3
  go_wp2_with (refine wpList_set_ins _ rfl _ _ _ 127 rfl 3 keyedI Tryz.underlying127 (w.heap.size + 1) 0 _ rfl hset0 (by decide) _ _ rfl rfl hkx trivial ?_; intro w1 hset1 hgrow1)
  have hown1 : w1.ownsRow w.heap.size 3 1 (.slice (some ⟨w.heap.size, 0, none⟩) 1 1) 1 [.int .i64 x] := by
    refine World.ownsRow.kept (row := some (w.heap.size + 1)) (w := (w.alloc (Obj.cells #[.int .i64 x] 3)).alloc (.map #[] 0)) (World.ownsRow.alloc ⟨by simp, .inr ⟨w.heap.size, 1, #[.int .i64 x], rfl, Nat.le_refl _, heapNew _ _, Nat.le_refl _, by decide, by simp, by simp⟩⟩ _) hgrow1 (.inr (by simp [Value.ownBlock]))
  have hbel1 : Below w.heap.size w w1 := (blA (blA (bl0 w) _) _).grown hgrow1 (by simp; omega) (fun j hj => by simp at hj; omega)
  clear hset0 hkx
  have A1 := Lib.hid hown1
  have A2 := Lib.hid hset1
  have A3 := Lib.hid hbel1
  clear hown1 hset1 hbel1 hgrow1
  go_step3
  go_wp2
  go_loopw [5] (fun v wr => ChI w l x R v wr) (fun v _ => l.length + 2 - lenOf v)
  case atStart => exact ⟨[x], w.heap.size, 1, rfl, by simp, A1.out, A2.out, by simp, by simp, HR.out, A3.out⟩
  case round =>
    obtain ⟨out, g, cap, rfl, hpos, hown, hset, hnd, hmem, hgo, hbel⟩ := hrel
    obtain ⟨n, hn⟩ : ∃ n, out.length = n := ⟨_, rfl⟩
    obtain ⟨k, hk⟩ : ∃ k, n = k + 1 := ⟨n - 1, by omega⟩
    have hle := nodup_le hnd hmem
    obtain ⟨y, hy⟩ : ∃ y, out[k]? = some y := ⟨_, List.getElem?_eq_getElem (by omega)⟩
    have hyl : out.getLast?.getD 0 = y := by rw [List.getLast?_eq_getElem?, hn, show n - 1 = k by omega, hy]; rfl
    obtain ⟨f, hf⟩ : ∃ f, l.length + 2 - out.length = f + 1 := ⟨l.length + 1 - out.length, by omega⟩
    rw [hf, chainGo, hyl] at hgo
    have cy := own_int hown hy
    obtain ⟨z, ok, hz⟩ : ∃ z ok, nextGo y 0 l = (z, ok) := ⟨_, _, rfl⟩
    have hzm := next_mem y l 0
    rw [hz] at hgo hzm
    simp only at hgo hzm
    have HN := Lib.hid (next94 a ac l y wr (HRR.out.below hbel) hl)
    rw [hz] at HN
    simp only at HN
    have HNX := Lib.hid (next94 a ac l y wr (HRR.out.below hbel) hl)
    clear HNX
    have HS := Lib.hid hset
    have HO := Lib.hid hown
    have HB := Lib.hid hbel
    have HM := Lib.hid hmem
    have HD := Lib.hid hnd
    have HF := Lib.hid hf
    have hg := own_ne hown hset
    have hgb := (hown.lt g rfl).1
    have hgw : g < wr.heap.size := (hown.lt g rfl).2
    have hsw := hset.lt
    rw [hn] at hpos hle HS HO HF ⊢
    have HLN := Lib.hid hn
    have HY := Lib.hid (And.intro hy (And.intro hyl hz))
    have wr1 : IntKind.i64.wrap ((n : Int) - 1) = (k : Int) := by simp only [IntKind.wrap, IntKind.signed, IntKind.bits]; simp; omega
    have k1 : (k : Int) < (n : Int) := by omega
    have k2 : k < n := by omega
    clear hset hown hbel hmem hnd hf hy hyl hz hn hk
    have hfin : ∀ w3, Below wr.heap.size wr w3 → w3.ownsRow w.heap.size 3 1 (.slice (some ⟨g, 0, none⟩) n cap) n (out.map (Value.int .i64)) := fun w3 hb3 => HO.out.kept (row := none) ⟨hb3.os, hb3.tape, hb3.output, hb3.size, fun j hj _ => hb3.block j hj⟩ (by cases h : Value.ownBlock (.slice (some ⟨g, 0, none⟩) n cap) <;> simp [Value.ownBlock] at h ⊢)
    have HFN := Lib.hid hfin
    clear hfin
    cases ok
    · have HX := Lib.hid (show out = R by rw [← hgo, if_neg (by simp)])
      clear hgo hzm
      go_wp2_with (go_at_call 94; refine HN.out.mono ?_; rintro e w3 ⟨rfl, hb3⟩)
      go_ret
      exact ⟨g, cap, by rw [← HX.out, HLN.out]; rfl, by rw [← HX.out, HLN.out]; exact HFN.out _ hb3, blt HB.out hb3⟩
    · obtain ⟨s, hs1, hs2⟩ := hzm rfl
      have hkz := keyOfI z (by rw [hs2]; exact HIN.out s hs1)
      have HZ := Lib.hid (show z = x ∨ ∃ s ∈ l, z = s.to_ from .inr ⟨s, hs1, hs2⟩)
      clear hs1 hs2 hzm
      by_cases hzo : z ∈ out
      · have HX := Lib.hid (show out = R by rw [← hgo, if_neg (by simp [hzo])])
        have hlk := fun w3 hb3 => ((HS.out.below (W' := w3) hsw hb3).look keyedI Tryz.underlying127 hkz).1 (ikey_mem.2 hzo)
        have HLK := Lib.hid hlk
        clear hgo hlk hkz
        go_wp2_with (go_at_call 94; refine HN.out.mono ?_; rintro e w3 ⟨rfl, hb3⟩; have hlk3 := HLK.out w3 hb3)
        go_ret
        exact ⟨g, cap, by rw [← HX.out, HLN.out]; rfl, by rw [← HX.out, HLN.out]; exact HFN.out _ hb3, blt HB.out hb3⟩
      · have HX := Lib.hid (show chainGo l f (out ++ [z]) = R by rw [← hgo, if_pos ⟨rfl, hzo⟩])
        have hlk := fun w3 hb3 => ((HS.out.below (W' := w3) hsw hb3).look keyedI Tryz.underlying127 hkz).2 (fun h => hzo (ikey_mem.1 h))
        have HLK := Lib.hid hlk
        have HZO := Lib.hid hzo
        have hm1 : n + 1 ≤ maxLen := by unfold maxLen; omega
        have hm2 : (n + 1) * 8 ≤ 140737488355328 := by omega
        clear hgo hlk hzo
        go_wp2_with (first
          | (go_at_call 94; refine HN.out.mono ?_; rintro e w3 ⟨rfl, hb3⟩; have hlk3 := HLK.out w3 hb3)
          | (at_mapUpdate; refine wpList_set_add _ rfl _ _ _ 127 rfl 3 keyedI Tryz.underlying127 (w.heap.size + 1) n _ rfl (HS.out.below hsw hb3) (by unfold maxLen; omega) _ _ rfl rfl hkz trivial ?_; intro w4 hset4 hgrow4)
          | (at_builtin; refine wpList_append_own _ rfl _ _ 165 rfl w.heap.size 3 i0 (.int .i64 0) 1 8 Tryz.underlying165 HI.out.1 HI.out.2.1 HI.out.2.2.1 HI.out.2.2.2 rfl (by decide) _ _ _ rfl (World.ownsRow.alloc ((HFN.out w3 hb3).kept hgrow4 (.inr (by simp only [Value.ownBlock]; intro h; cases h; exact hg rfl))) _) _ 1 1 [.int .i64 z] rfl rfl (World.news_of_block (cs := #[.int .i64 z]) (heap_alloc_new _ _)) (one_int _) hm1 hm2 (by have h1 := hb3.size; have h2 := hgrow4.size; simp; omega) ?_; intro v5 w5 hown5 hgrow5 _))
        go_roundw
        case rel =>
          obtain ⟨g', cap', rfl⟩ := ownsRow_succ hown5
          have hs3 := hb3.size
          have hs4 := hgrow4.size
          have hset5 : SetK 3 w5 (w.heap.size + 1) (n + 1) (ikey z :: (out.map ikey).reverse) := hset4.at ((hgrow5.block _ (by simp; omega) (by simp only [Value.ownBlock]; intro h; cases h; exact hg rfl)).trans (heap_alloc_old _ _ (by omega)))
          have hb5 : Below w.heap.size w w5 := (((HB.out.trans (hb3.mono HB.out.size)).grown hgrow4 (by omega) (fun j hj => by cases hj; omega)).alloc (by omega) _).grown hgrow5 (by simp; omega) (fun j hj => by simp only [Value.ownBlock] at hj; cases hj; exact hgb)
          refine ⟨out ++ [z], g', cap', by simp [HLN.out], by simp, by simpa [HLN.out] using hown5, by simpa [HLN.out] using hset5, ?_, ?_, ?_, hb5⟩
          · rw [List.nodup_append]
            exact ⟨HD.out, by simp, fun a ha b hb => by simp at hb; subst hb; rintro rfl; exact HZO.out ha⟩
          · intro y hy
            rcases List.mem_append.1 hy with h | h
            · exact HM.out y h
            · simp at h; subst h; exact HZ.out
          · have e1 : l.length + 2 - (out ++ [z]).length = f := by have := HF.out; have := HLN.out; simp; omega
            rw [e1]; exact HX.out
        case measure =>
          obtain ⟨g', cap', rfl⟩ := ownsRow_succ hown5
          simp [lenOf]; omega
def leadsS (l : List ThrD) (x y : Int) : Bool := (chainS l x).contains y
def anyGo (y : Int) : List Int → Bool
  | [] => false
  | z :: r => if z = y then true else anyGo y r
theorem chain_len (l : List ThrD) (x : Int) : ∀ (n : Nat) (out : List Int), (chainGo l n out).length ≤ out.length + n
  | 0, out => Nat.le_refl _
  | n + 1, out => by
    rw [chainGo]
    split
    · have := chain_len l x n (out ++ [(nextGo (out.getLast?.getD 0) 0 l).1]); simp at this; omega
    · omega

set_option maxHeartbeats 1600000 in
theorem leads65 (a : Option Addr) (ac : Nat) (l : List ThrD) (x y : Int) (w : World) (hr : RowsAt w a 2 (l.map ThrD.row)) (hx : inW x) (hin : ∀ s ∈ l, inW s.to_) (hl : l.length < 1000000) :
    Calls Tryz.prog 65 #[.slice a l.length ac, .int .i64 x, .int .i64 y] w fun e w' => e = .returned (.bool (anyGo y (chainS l x))) ∧ Below w.heap.size w w' := by
  have HC := Lib.hid (chain84 a ac l x w hr hx hin hl)
  have hln : (chainS l x).length ≤ l.length + 2 := by have := chain_len l x (l.length + 1) [x]; unfold chainS; simp at this; omega
  obtain ⟨C, hC⟩ : ∃ C, chainS l x = C := ⟨_, rfl⟩
  rw [hC] at HC hln ⊢
  obtain ⟨R, hR⟩ : ∃ R, anyGo y C = R := ⟨_, rfl⟩
  rw [hR]
  have HR := Lib.hid hR
  clear hR hC hr hx hin
  go_enter Tryz.func65, Tryz.ntmps65
  go_wp2_with (go_at_call 84; refine HC.out.mono ?_; rintro e w2 ⟨g, cap, rfl, hown, hb2⟩)
  go_loopw [13] (fun i wr => ∃ k : Nat, k ≤ C.length ∧ i = .int .i64 k ∧ anyGo y (C.drop k) = R ∧ wr = w2) (fun i _ => C.length - (intOf i).toNat)
  case atStart => exact ⟨0, Nat.zero_le _, rfl, HR.out, rfl⟩
  case round =>
    obtain ⟨k, hk, rfl, hv, rfl⟩ := hrel
    have HV := Lib.hid hv
    clear hv
    by_cases hlt : k < C.length
    · have hlt' : (k : Int) < (C.length : Int) := by omega
      obtain ⟨s, hs⟩ : ∃ s, C[k]? = some s := ⟨_, List.getElem?_eq_getElem hlt⟩
      have hdrop : C.drop k = s :: C.drop (k + 1) := by
        rw [List.drop_eq_getElem_cons hlt]
        rw [List.getElem?_eq_getElem hlt] at hs
        cases hs; rfl
      have hV := HV.out
      rw [hdrop, anyGo] at hV
      have c0 := own_int hown hs
      have HO := Lib.hid hown
      clear hs hdrop hown
      have hways : (¬ s = y) ∨ (s = y) := by omega
      rcases hways with z1 | z1
      · rw [if_neg z1] at hV
        have HX := Lib.hid hV
        clear hV
        go_wp2
        exact ⟨⟨k + 1, by omega, by first | rfl | (congr 1; omega), HX.out, trivial⟩, by simp [intOf]; omega⟩
      · rw [if_pos z1] at hV
        have HX := Lib.hid hV
        clear hV
        go_wp2
        go_ret
        exact ⟨by rw [← HX.out]; first | rfl | (simp_all; done), hb2⟩
    · have hlt' : ¬ (k : Int) < (C.length : Int) := by omega
      have hE := HV.out
      rw [List.drop_of_length_le (by omega)] at hE
      have HE := Lib.hid hE
      clear hE
      go_wp2
      go_ret
      exact ⟨by rw [← HE.out]; rfl, hb2⟩
end Go.Proofs.Tt
