/-
  A part of the proof: lemmas of my own.
-/
import Derived.Test.YtamocmgfbonodaaGreatTs
import Derived.ChangeArms
import Derived.DataReads
import Derived.OpenShut
import Derived.ProofKit
import Derived.ChangeMaps
set_option linter.unusedVariables false
set_option linter.unusedSimpArgs false
namespace Go.Proofs.Tt
open Go Go.Proofs
open Go.RowKit Go.Maps Go.Shelf
set_option maxRecDepth 1000000

/-- a timetable in the world, of any size -/
structure TT.lies (W : World) (t : TT) : Prop where
  r0 : RowsAt W t.a0 4 (t.st.map StopD.row)
  r1 : RowsAt W t.a1 3 (t.ro.map RouteD.row)
  r2 : RowsAt W t.a2 10 (t.ca.map CalD.row)
  r3 : RowsAt W t.a3 3 (t.ex.map ExcD.row)
  r4 : RowsAt W t.a4 5 (t.tr.map TripD.row)
  r5 : RowsAt W t.a5 4 (t.fq.map FrqD.row)
  r6 : RowsAt W t.a6 2 (t.th.map ThrD.row)
  r7 : RowsAt W t.a7 3 (t.gu.map GuaD.row)
  r8 : RowsAt W t.a8 4 (t.pa.map PathD.row)
  r9 : RowsAt W t.a9 6 (t.pr.map ProdD.row)
  cs : ∀ s ∈ t.tr, RowsAt W s.a 5 (s.calls.map CallD.row)
  i0 : ∀ s ∈ t.st, s.id.size ≤ maxLen
  i1 : ∀ s ∈ t.ro, s.id.size ≤ maxLen
  i2 : ∀ s ∈ t.ca, s.id.size ≤ maxLen
  i3 : ∀ s ∈ t.ex, inW s.cal ∧ inW s.day
  i4 : ∀ s ∈ t.tr, s.id.size ≤ maxLen
  i4r : ∀ s ∈ t.tr, inW s.route ∧ inW s.cal ∧ ∀ c ∈ s.calls, inW c.stop
  i5 : ∀ s ∈ t.fq, inW s.trip
  i6 : ∀ s ∈ t.th, inW s.fr ∧ inW s.to_
  i7 : ∀ s ∈ t.gu, inW s.fr ∧ inW s.to_ ∧ inW s.stop
  i8 : ∀ s ∈ t.pa, inW s.fr ∧ inW s.to_
  i9 : ∀ s ∈ t.pr, s.id.size ≤ maxLen ∧ inW s.modes
  k5 : t.fq.length ≤ t.c5
  k6 : t.th.length ≤ t.c6
def okTr (s : TripD) : Bool := decide (s.calls.length ≤ 40)
def lightB (t : TT) : Bool := decide (t.st.length ≤ 70 ∧ t.ro.length ≤ 70 ∧ t.ca.length ≤ 70 ∧ t.ex.length ≤ 70 ∧ t.tr.length ≤ 30 ∧ t.fq.length ≤ 70 ∧ t.th.length ≤ 70 ∧ t.gu.length ≤ 70 ∧ t.pa.length ≤ 70 ∧ t.pr.length ≤ 20) && t.tr.all okTr
theorem TT.lies.ok {W : World} {t : TT} (h : t.lies W) (hl : lightB t = true) : t.ok W ∧ t.small := by
  simp only [lightB, Bool.and_eq_true, decide_eq_true_eq, List.all_eq_true] at hl
  obtain ⟨⟨h0, h1, h2, h3, h4, h5, h6, h7, h8, h9⟩, hc⟩ := hl
  exact ⟨{ h with cs := fun s hs => ⟨h.cs s hs, by have := hc s hs; simp only [okTr, decide_eq_true_eq] at this; omega⟩, l0 := by omega, l1 := by omega, l2 := by omega, l3 := by omega, l4 := by omega, l5 := by omega, l6 := by omega, l7 := by omega, l8 := by omega, l9 := by omega }, by unfold TT.small; omega⟩
theorem TT.lies.below {W W' : World} {t : TT} (h : t.lies W) (hb : Below W.heap.size W W') : t.lies W' :=
  { h with r0 := h.r0.below hb, r1 := h.r1.below hb, r2 := h.r2.below hb, r3 := h.r3.below hb, r4 := h.r4.below hb, r5 := h.r5.below hb, r6 := h.r6.below hb, r7 := h.r7.below hb, r8 := h.r8.below hb, r9 := h.r9.below hb, cs := fun s hs => (h.cs s hs).below hb }
theorem all_cons {α : Type} {L : List α} {f : α → Bool} {n : Nat} {x : α} (hx : L[n]? = some x) : (L.drop n).all f = (f x && (L.drop (n + 1)).all f) := by
  obtain ⟨hn, rfl⟩ := List.getElem?_eq_some_iff.1 hx
  rw [List.drop_eq_getElem_cons hn, List.all_cons]

set_option maxHeartbeats 3200000 in
theorem light4 (t : TT) (w : World) (hok : t.lies w) : Calls Tryz.prog 4 #[t.val] w fun e w' => e = .returned (.bool (lightB t)) ∧ Below w.heap.size w w' := by
  obtain ⟨b, hb⟩ : ∃ b, b = lightB t := ⟨_, rfl⟩
  rw [← hb]
  have HR4 := Lib.hid hok.r4
  clear hok
  obtain ⟨W0, hW0⟩ : ∃ W0, w.alloc (Obj.cells t.cells 35) = W0 := ⟨_, rfl⟩
  have hbx : w.heap.size < W0.heap.size := by rw [← hW0]; simp
  have HB0 := Lib.hid (show Below w.heap.size w W0 by rw [← hW0]; exact blA (bl0 _) _)
  have hcl : ∀ k v, t.cells[k]? = some v → W0.cell? ⟨w.heap.size, k, none⟩ = some v := fun k v hk => by rw [← hW0]; exact boxC _ _ _ k _ hk
  have HW0 := Lib.hid (show w.alloc (Obj.cells #[.slice t.a0 t.st.length t.c0, .slice t.a1 t.ro.length t.c1, .slice t.a2 t.ca.length t.c2, .slice t.a3 t.ex.length t.c3, .slice t.a4 t.tr.length t.c4, .slice t.a5 t.fq.length t.c5, .slice t.a6 t.th.length t.c6, .slice t.a7 t.gu.length t.c7, .slice t.a8 t.pa.length t.c8, .slice t.a9 t.pr.length t.c9, .int .i64 t.d, .int .i64 t.wi, .int .i64 t.cp] 35) = W0 from hW0)
  have x0 : W0.cell? ⟨w.heap.size, 0, none⟩ = some (.slice t.a0 t.st.length t.c0) := hcl 0 _ rfl
  have x1 : W0.cell? ⟨w.heap.size, 1, none⟩ = some (.slice t.a1 t.ro.length t.c1) := hcl 1 _ rfl
  have x2 : W0.cell? ⟨w.heap.size, 2, none⟩ = some (.slice t.a2 t.ca.length t.c2) := hcl 2 _ rfl
  have x3 : W0.cell? ⟨w.heap.size, 3, none⟩ = some (.slice t.a3 t.ex.length t.c3) := hcl 3 _ rfl
  have x4 : W0.cell? ⟨w.heap.size, 4, none⟩ = some (.slice t.a4 t.tr.length t.c4) := hcl 4 _ rfl
  have x5 : W0.cell? ⟨w.heap.size, 5, none⟩ = some (.slice t.a5 t.fq.length t.c5) := hcl 5 _ rfl
  have x6 : W0.cell? ⟨w.heap.size, 6, none⟩ = some (.slice t.a6 t.th.length t.c6) := hcl 6 _ rfl
  have x7 : W0.cell? ⟨w.heap.size, 7, none⟩ = some (.slice t.a7 t.gu.length t.c7) := hcl 7 _ rfl
  have x8 : W0.cell? ⟨w.heap.size, 8, none⟩ = some (.slice t.a8 t.pa.length t.c8) := hcl 8 _ rfl
  have x9 : W0.cell? ⟨w.heap.size, 9, none⟩ = some (.slice t.a9 t.pr.length t.c9) := hcl 9 _ rfl
  clear hW0 hcl
  by_cases hn : t.st.length ≤ 70 ∧ t.ro.length ≤ 70 ∧ t.ca.length ≤ 70 ∧ t.ex.length ≤ 70 ∧ t.tr.length ≤ 30 ∧ t.fq.length ≤ 70 ∧ t.th.length ≤ 70 ∧ t.gu.length ≤ 70 ∧ t.pa.length ≤ 70 ∧ t.pr.length ≤ 20
  · have HB := Lib.hid (show (t.tr.drop 0).all okTr = b by rw [hb]; simp [lightB, hn])
    obtain ⟨h0, h1, h2, h3, h4, h5, h6, h7, h8, h9⟩ := hn
    have g0 : ¬ (70 : Int) < (t.st.length : Int) := by omega
    have g1 : ¬ (70 : Int) < (t.ro.length : Int) := by omega
    have g2 : ¬ (70 : Int) < (t.ca.length : Int) := by omega
    have g3 : ¬ (70 : Int) < (t.ex.length : Int) := by omega
    have g4 : ¬ (30 : Int) < (t.tr.length : Int) := by omega
    have g5 : ¬ (70 : Int) < (t.fq.length : Int) := by omega
    have g6 : ¬ (70 : Int) < (t.th.length : Int) := by omega
    have g7 : ¬ (70 : Int) < (t.gu.length : Int) := by omega
    have g8 : ¬ (70 : Int) < (t.pa.length : Int) := by omega
    have g9 : ¬ (20 : Int) < (t.pr.length : Int) := by omega
    clear hb
    go_enter Tryz.func4, Tryz.ntmps4
    go_upto_region 1 with (fail)
    rw [HW0.out]
    go_wp2
    have X4 := Lib.hid x4
    clear x0 x1 x2 x3 x4 x5 x6 x7 x8 x9 g0 g1 g2 g3 g4 g5 g6 g7 g8 g9
    go_loopw [3, 66] (fun _ i wr => ∃ k : Nat, k ≤ t.tr.length ∧ i = .int .i64 k ∧ (t.tr.drop k).all okTr = b ∧ Below W0.heap.size W0 wr) (fun _ i _ => t.tr.length - (intOf i).toNat)
    case atStart => exact ⟨0, Nat.zero_le _, rfl, HB.out, bl0 _⟩
    case round =>
      obtain ⟨k, hk, rfl, hj, hbel⟩ := hrel
      have HJ := Lib.hid hj
      have HBL := Lib.hid hbel
      have z4 := keepC hbel hbx X4.out
      by_cases hlt : k < t.tr.length
      · have hlt' : (k : Int) < (t.tr.length : Int) := by omega
        obtain ⟨s, hs⟩ : ∃ s, t.tr[k]? = some s := ⟨_, List.getElem?_eq_getElem hlt⟩
        obtain ⟨g, f, ea, hg, hta⟩ := tripAt HR4.out hs
        obtain ⟨p0, p1, p2, p3, p4⟩ := hta.keep hg (blt HB0.out hbel)
        have hJ := (all_cons hs).symm.trans HJ.out
        rw [ea] at z4
        clear hs hta hj hbel p0 p1 p2 p3
        by_cases h6 : s.calls.length ≤ 40
        · have h6' : ¬ (40 : Int) < (s.calls.length : Int) := by omega
          have HK := Lib.hid (show (t.tr.drop (k + 1)).all okTr = b by rw [← hJ]; simp [okTr, h6])
          clear hJ
          rw [ea]
          go_wp2
          exact ⟨⟨k + 1, by omega, by first | rfl | go_num, HK.out, HBL.out⟩, by simp [intOf]; omega⟩
        · have h6' : (40 : Int) < (s.calls.length : Int) := by omega
          have HK := Lib.hid (show false = b by rw [← hJ]; simp [okTr, h6])
          clear hJ
          rw [ea]
          go_wp2
          go_ret
          exact ⟨by obtain rfl := HK.out; rfl, blt HB0.out HBL.out⟩
      · have hlt' : ¬ (k : Int) < (t.tr.length : Int) := by omega
        have HK := Lib.hid (show true = b by rw [← HJ.out, List.drop_eq_nil_of_le (by omega)]; rfl)
        clear hj hbel
        go_wp2
        go_ret
        exact ⟨by obtain rfl := HK.out; rfl, blt HB0.out HBL.out⟩
  · have HB := Lib.hid (show false = b by rw [hb]; simp only [lightB, hn]; simp)
    clear hb
    go_enter Tryz.func4, Tryz.ntmps4
    go_upto_region 1 with (fail)
    rw [HW0.out]
    go_wp2
    all_goals first
      | (go_ret; exact ⟨by obtain rfl := HB.out; rfl, HB0.out⟩)
      | (exfalso; exact hn (by omega))
end Go.Proofs.Tt

namespace Go.Proofs.Tt
open Go Go.Proofs
open Go.RowKit
set_option linter.unusedVariables false
set_option maxRecDepth 100000

inductive Kd where
  | b
  | i (k : IntKind)
  | s
  | sl (t : TypeId)
def shapesWith (S : TypeId → Option (List Kd)) (P : Program) : List Field → Nat → Option (List Kd)
  | [], _ => some []
  | f :: l, o => match Nat.beq f.offset o, S f.type with
    | true, some a => match Nat.beq (P.cellsOf f.type) a.length, shapesWith S P l (o + a.length) with
      | true, some r => some (a ++ r)
      | _, _ => none
    | _, _ => none
def shapeOf (P : Program) : Nat → TypeId → Option (List Kd)
  | 0, _ => none
  | n + 1, t => match P.underlying t with
    | some .bool => some [.b]
    | some (.int k) => some [.i k]
    | some .string => some [.s]
    | some (.slice _) => some [.sl t]
    | some (.struct fs) => shapesWith (shapeOf P n) P fs.toList 0
    | some (.array m e) => match shapeOf P n e, Nat.beq (P.cellsOf e) 1 with
      | some [a], true => some (List.replicate m a)
      | _, _ => none
    | _ => none

section
variable {H : Type} (enc : TypeId × Value → H) (P : Program) (w : World) (base : Nat)
def CellIs : Kd → Value → Prop
  | .b, v => ∃ x, v = .bool x
  | .i k, v => ∃ n, v = .int k n ∧ (Lit.int k n).wf = true
  | .s, v => ∃ s : ByteArray, v = .string s ∧ s.size ≤ maxLen
  | .sl t, v => ∃ n y, DataW.trod enc P w base (fun _ => true) true n t [v] = some y
def RowIs : List Kd → List Value → Prop
  | [], [] => True
  | k :: l, v :: r => CellIs enc P w base k v ∧ RowIs l r
  | _, _ => False
end
section
variable {H : Type} {enc : TypeId × Value → H} {P : Program} {w : World} {base : Nat}
theorem RowIs.e {r : List Value} (h : RowIs enc P w base [] r) : r = [] := by
  cases r with
  | nil => rfl
  | cons _ _ => exact h.elim
theorem RowIs.c {k : Kd} {ks : List Kd} {r : List Value} (h : RowIs enc P w base (k :: ks) r) : ∃ v l, r = v :: l ∧ CellIs enc P w base k v ∧ RowIs enc P w base ks l := by
  cases r with
  | nil => exact h.elim
  | cons v l => exact ⟨v, l, rfl, h.1, h.2⟩
theorem RowIs.i {k : IntKind} {ks : List Kd} {r : List Value} (h : RowIs enc P w base (.i k :: ks) r) : ∃ n l, r = .int k n :: l ∧ (Lit.int k n).wf = true ∧ RowIs enc P w base ks l := by
  obtain ⟨v, l, rfl, ⟨n, rfl, h3⟩, h2⟩ := h.c
  exact ⟨n, l, rfl, h3, h2⟩
theorem RowIs.b {ks : List Kd} {r : List Value} (h : RowIs enc P w base (.b :: ks) r) : ∃ n l, r = .bool n :: l ∧ RowIs enc P w base ks l := by
  obtain ⟨v, l, rfl, ⟨n, rfl⟩, h2⟩ := h.c
  exact ⟨n, l, rfl, h2⟩
theorem RowIs.s {ks : List Kd} {r : List Value} (h : RowIs enc P w base (.s :: ks) r) : ∃ (n : ByteArray) (l : List Value), r = .string n :: l ∧ n.size ≤ maxLen ∧ RowIs enc P w base ks l := by
  obtain ⟨v, l, rfl, ⟨n, rfl, h3⟩, h2⟩ := h.c
  exact ⟨n, l, rfl, h3, h2⟩
theorem RowIs.sl {t : TypeId} {ks : List Kd} {r : List Value} (h : RowIs enc P w base (.sl t :: ks) r) : ∃ v l, r = v :: l ∧ (∃ n y, DataW.trod enc P w base (fun _ => true) true n t [v] = some y) ∧ RowIs enc P w base ks l := by
  obtain ⟨v, l, rfl, h1, h2⟩ := h.c
  exact ⟨v, l, rfl, h1, h2⟩
theorem RowIs.append : ∀ {ks kt : List Kd} {cs ct : List Value}, RowIs enc P w base ks cs → RowIs enc P w base kt ct → RowIs enc P w base (ks ++ kt) (cs ++ ct)
  | [], _, [], _, _, k => k
  | _ :: _, _, _ :: _, _, h, k => ⟨h.1, RowIs.append h.2 k⟩
  | [], _, _ :: _, _, h, _ => h.elim
  | _ :: _, _, [], _, h, _ => h.elim
theorem RowIs.rep {a : Kd} : ∀ {n : Nat} {cs : List Value}, cs.length = n → (∀ i, i < n → RowIs enc P w base [a] ((cs.drop i).take 1)) → RowIs enc P w base (List.replicate n a) cs
  | 0, [], _, _ => trivial
  | n + 1, v :: l, hl, h => by
    have h0 := h 0 (by omega)
    rw [List.replicate_succ]
    exact ⟨h0.1, RowIs.rep (by simpa using hl) fun i hi => by have := h (i + 1) (by omega); simpa using this⟩

theorem shapesWith_ok {S : TypeId → Option (List Kd)} {n : Nat} (hS : ∀ t sh cs x, S t = some sh → cs.length = sh.length → DataW.trod enc P w base (fun _ => true) true n t cs = some x → RowIs enc P w base sh cs) :
    ∀ (fs : List Field) (o : Nat) (sh : List Kd) (cs : List Value), shapesWith S P fs o = some sh → (∀ f ∈ fs, ∃ x, DataW.trod enc P w base (fun _ => true) true n f.type ((cs.drop f.offset).take (P.cellsOf f.type)) = some x) → cs.length = o + sh.length → RowIs enc P w base sh (cs.drop o)
  | [], o, sh, cs, h, _, hl => by
    simp only [shapesWith, Option.some.injEq] at h
    subst h
    rw [List.drop_eq_nil_of_le (by rw [hl]; simp)]
    trivial
  | f :: l, o, sh, cs, h, hf, hl => by
    unfold shapesWith at h
    split at h
    · rename_i a h1 h2
      split at h
      · rename_i r h3 h4
        cases h
        have e1 := Nat.eq_of_beq_eq_true h1
        have e3 := Nat.eq_of_beq_eq_true h3
        subst e1
        obtain ⟨x, hx⟩ := hf f (by simp)
        rw [e3] at hx
        have i1 := hS _ _ _ _ h2 (by rw [List.length_take, List.length_drop, hl]; simp) hx
        have i2 := shapesWith_ok hS l (f.offset + a.length) r cs h4 (fun g hg => hf g (by simp [hg])) (by rw [hl]; simp; omega)
        have e : cs.drop f.offset = (cs.drop f.offset).take a.length ++ cs.drop (f.offset + a.length) := by
          rw [← List.drop_drop, List.take_append_drop]
        rw [e]
        exact i1.append i2
      · cases h
    · cases h

theorem shapeOf_ok : ∀ (fuel : Nat) (n : Nat) (t : TypeId) (sh : List Kd) (cs : List Value) (x : DataW H × List MemPlace), shapeOf P fuel t = some sh → cs.length = sh.length → DataW.trod enc P w base (fun _ => true) true n t cs = some x → RowIs enc P w base sh cs
  | 0, _, _, _, _, _, h, _, _ => by simp [shapeOf] at h
  | fuel + 1, n, t, sh, cs, x, h, hl0, hx => by
    unfold shapeOf at h
    split at h
    · rename_i hu; cases h
      obtain ⟨v, rfl, _⟩ := DataW.trod_bool hu hx
      exact ⟨⟨v, rfl⟩, trivial⟩
    · rename_i k hu; cases h
      obtain ⟨v, rfl, _, hw⟩ := DataW.trod_int hu hx
      exact ⟨⟨v, rfl, hw⟩, trivial⟩
    · rename_i hu; cases h
      obtain ⟨v, rfl, _, hw⟩ := DataW.trod_string hu hx
      exact ⟨⟨v, rfl, hw⟩, trivial⟩
    · rename_i e hu; cases h
      have : ∃ v, cs = [v] := by
        rcases DataW.trod_slice hu hx with ⟨rfl, _⟩ | ⟨a, len, cap, _, _, _, _, rfl, _⟩ <;> exact ⟨_, rfl⟩
      obtain ⟨v, rfl⟩ := this
      exact ⟨⟨n, x, hx⟩, trivial⟩
    · rename_i fs hu
      obtain ⟨xs, m, rfl, _, hl, hlen, hf⟩ := DataW.trod_struct hu hx
      have := shapesWith_ok (enc := enc) (w := w) (base := base) (S := shapeOf P fuel) (n := m) (fun t' sh' cs' x' h1 h2 h3 => shapeOf_ok fuel m t' sh' cs' x' h1 h2 h3) fs.toList 0 sh cs h (fun f hf' => ?_) (by omega)
      · simpa using this
      · obtain ⟨i, hi⟩ := List.mem_iff_getElem?.1 hf'
        have hi' : fs[i]? = some f := by simpa using hi
        have := hf i f hi'
        have hlt : i < xs.length := by rw [hlen]; exact (Array.getElem?_eq_some_iff.1 hi').1
        exact ⟨xs[i], by rw [this, List.getElem?_eq_getElem hlt]⟩
    · rename_i m e hu
      split at h
      · rename_i a h1 h2
        cases h
        have e1 := Nat.eq_of_beq_eq_true h2
        obtain ⟨xs, k, rfl, _, hl, hlen, hf⟩ := DataW.trod_array hu hx
        rw [e1] at hf
        rw [List.length_replicate] at hl0
        refine RowIs.rep hl0 fun i hi => ?_
        have h3 := hf i hi
        rw [Nat.mul_one, List.getElem?_eq_getElem (by omega)] at h3
        exact shapeOf_ok fuel k e [a] _ _ h1 (by simp; omega) h3
      · cases h
    · cases h
theorem trod_row {fuel n : Nat} {t : TypeId} {sh : List Kd} {cs : List Value} {x : DataW H × List MemPlace} {fs : Array Field} (hu : P.underlying t = some (.struct fs)) (hc : P.cellsOf t = sh.length) (h : shapeOf P fuel t = some sh) (hx : DataW.trod enc P w base (fun _ => true) true n t cs = some x) : RowIs enc P w base sh cs := by
  obtain ⟨xs, m, rfl, _, hl, _⟩ := DataW.trod_struct hu hx
  exact shapeOf_ok fuel _ t sh cs x h (by omega) hx

/-- a slice that came in: its rows, its capacity -/
def SlOf (w : World) (v : Value) (sz : Nat) (rows : List (List Value)) : Prop := ∃ a c, v = .slice a rows.length c ∧ rows.length ≤ c ∧ RowsAt w a sz rows
theorem cells_at {a : Addr} {n : Nat} {cs : List Value} (h : w.cells? base a n = some cs) : cs.length = n ∧ ∀ j x, cs[j]? = some x → w.cell? (a.add j) = some x := by
  unfold World.cells? at h
  split at h
  · have h1 := mapM_some_length h
    have h2 := fun i x hx => mapM_some_get h i x hx
    refine ⟨by simpa using h1, fun j x hx => ?_⟩
    have hj : j < n := by
      have := (List.getElem?_eq_some_iff.1 hx).1
      simp at h1; omega
    have := h2 j j (by simp [hj])
    rw [this, hx]
  · cases h
theorem add_none {g o k : Nat} : (⟨g, o, none⟩ : Addr).add k = ⟨g, o + k, none⟩ := by
  unfold Addr.add
  split
  · rename_i h; subst h; rfl
  · rfl
theorem slice_rows {n : Nat} {t e : TypeId} {sz : Nat} {v : Value} {x : DataW H × List MemPlace} (ht : P.underlying t = some (.slice e)) (hsz : P.cellsOf e = sz) (h0 : 0 < sz) (h : DataW.trod enc P w base (fun _ => true) true n t [v] = some x) :
    ∃ rows, SlOf w v sz rows ∧ ∀ r ∈ rows, ∃ m y, DataW.trod enc P w base (fun _ => true) true m e r = some y := by
  rcases DataW.trod_slice ht h with ⟨h1, _⟩ | ⟨a, len, cap, elems, rest, m, rfl, h1, rfl, hb, hl, hm, hlen, hel, hsp, _⟩
  · simp only [List.cons.injEq, and_true] at h1
    exact ⟨[], ⟨none, 0, h1, Nat.le_refl _, fun i r hr => by simp at hr⟩, fun r hr => by cases hr⟩
  · simp only [List.cons.injEq, and_true] at h1
    subst h1
    rw [hsz] at hel hsp
    have row : ∀ i, i < len → ∃ r, w.cells? base (a.add (i * sz)) sz = some r ∧ ∃ y, DataW.trod enc P w base (fun _ => true) true m e r = some y := fun i hi => by
      have h2 := hel i hi
      rw [List.getElem?_eq_getElem (by omega)] at h2
      obtain ⟨r, h3, h4⟩ := Option.bind_eq_some_iff.1 h2
      exact ⟨r, h3, _, h4⟩
    obtain ⟨rows, hrl, hrows⟩ : ∃ rows : List (List Value), rows.length = len ∧ ∀ i (hi : i < rows.length), w.cells? base (a.add (i * sz)) sz = some rows[i] ∧ ∃ y, DataW.trod enc P w base (fun _ => true) true m e rows[i] = some y := by
      classical
      refine ⟨List.ofFn (n := len) fun i => Classical.choose (row i.1 i.2), by simp, fun i hi => ?_⟩
      have := Classical.choose_spec (row i (by simpa using hi))
      simpa using this
    have hin : ∀ r ∈ rows, ∃ m y, DataW.trod enc P w base (fun _ => true) true m e r = some y := fun r hr => by
      obtain ⟨i, hi, rfl⟩ := List.mem_iff_getElem.1 hr
      exact ⟨m, (hrows i hi).2⟩
    refine ⟨rows, ⟨some a, cap, by rw [hrl], by omega, fun i r hr => ?_⟩, hin⟩
    obtain ⟨hi, rfl⟩ := List.getElem?_eq_some_iff.1 hr
    obtain ⟨c1, c2⟩ := cells_at (hrows i hi).1
    obtain ⟨g, o, sp⟩ := a
    cases sp with
    | none =>
      have key : ∀ j x, rows[i][j]? = some x → w.cell? ⟨g, o + i * sz + j, none⟩ = some x := fun j x hx => by
        have := c2 j x hx
        rwa [add_none, add_none] at this
      obtain ⟨u, hu⟩ : ∃ u, rows[i][0]? = some u := ⟨_, List.getElem?_eq_getElem (l := rows[i]) (i := 0) (by rw [c1]; exact h0)⟩
      exact ⟨g, o, rfl, World.block_lt_of_cell? _ _ (key 0 u hu), key⟩
    | some s =>
      exfalso
      obtain ⟨d1, d2⟩ := cells_at (hrows 0 (by omega)).1
      obtain ⟨u, hu⟩ : ∃ u, (rows[0]'(by omega))[0]? = some u := ⟨_, List.getElem?_eq_getElem (i := 0) (by rw [d1]; exact h0)⟩
      have hx := d2 0 u hu
      rw [Nat.zero_mul] at hx
      have hx : w.cell? ⟨g, o, some s⟩ = some u := hx
      unfold World.cell? at hx
      split at hx
      · simp at hx
      · cases hx
end
theorem rows_of {α : Type} {row : α → List Value} {Q : α → Prop} : ∀ {rows : List (List Value)}, (∀ r ∈ rows, ∃ x, r = row x ∧ Q x) → ∃ l : List α, rows = l.map row ∧ ∀ x ∈ l, Q x
  | [], _ => ⟨[], rfl, fun x hx => by cases hx⟩
  | r :: rows, h => by
    obtain ⟨x, rfl, hx⟩ := h r (by simp)
    obtain ⟨l, rfl, hl⟩ := rows_of (rows := rows) fun s hs => h s (List.mem_cons_of_mem _ hs)
    exact ⟨x :: l, rfl, fun y hy => by
      rcases List.mem_cons.1 hy with rfl | hy
      · exact hx
      · exact hl y hy⟩
theorem fs_of {t : TypeId} (h : (match Tryz.prog.underlying t with | some (.struct _) => true | _ => false) = true) : ∃ fs, Tryz.prog.underlying t = some (.struct fs) := by
  split at h
  · exact ⟨_, by assumption⟩
  · cases h
section
variable {H : Type} {enc : TypeId × Value → H} {W : World} {base : Nat}
/-- a slice of structs -/
theorem tab_in {n : Nat} {t e : TypeId} {sz : Nat} {v : Value} {x : DataW H × List MemPlace} {sh : List Kd} {α : Type} {row : α → List Value} {Q : α → Prop} (ht : Tryz.prog.underlying t = some (.slice e)) (hsz : Tryz.prog.cellsOf e = sz) (h0 : 0 < sz) (hst : (match Tryz.prog.underlying e with | some (.struct _) => true | _ => false) = true) (hsh : shapeOf Tryz.prog 5 e = some sh) (hl : sh.length = sz) (hrow : ∀ r, RowIs enc Tryz.prog W base sh r → ∃ x, r = row x ∧ Q x)
    (h : DataW.trod enc Tryz.prog W base (fun _ => true) true n t [v] = some x) : ∃ (l : List α) (a : Option Addr) (c : Nat), v = .slice a l.length c ∧ l.length ≤ c ∧ RowsAt W a sz (l.map row) ∧ ∀ x ∈ l, Q x := by
  obtain ⟨rows, ⟨a, c, rfl, hc, hr⟩, h2⟩ := slice_rows ht hsz h0 h
  obtain ⟨fs, hfs⟩ := fs_of hst
  obtain ⟨l, rfl, hl⟩ := rows_of (row := row) (Q := Q) (rows := rows) fun r hr => by
    obtain ⟨m, y, hy⟩ := h2 r hr
    exact hrow r (trod_row hfs (by rw [hsz, hl]) hsh hy)
  exact ⟨l, a, c, by rw [List.length_map], by rwa [List.length_map] at hc, hr, hl⟩
theorem row_stop {r : List Value} (h : RowIs enc Tryz.prog W base [.s, .i .i64, .b, .i .i64] r) : ∃ x : StopD, r = x.row ∧ x.id.size ≤ maxLen := by
  obtain ⟨x0, l0, rfl, z0, h0⟩ := h.s
  obtain ⟨x1, l1, rfl, z1, h1⟩ := h0.i
  obtain ⟨x2, l2, rfl, h2⟩ := h1.b
  obtain ⟨x3, l3, rfl, z3, h3⟩ := h2.i
  obtain rfl := h3.e
  exact ⟨⟨x0, x1, x2, x3⟩, rfl, z0⟩
theorem row_route {r : List Value} (h : RowIs enc Tryz.prog W base [.s, .i .i64, .b] r) : ∃ x : RouteD, r = x.row ∧ x.id.size ≤ maxLen := by
  obtain ⟨x0, l0, rfl, z0, h0⟩ := h.s
  obtain ⟨x1, l1, rfl, z1, h1⟩ := h0.i
  obtain ⟨x2, l2, rfl, h2⟩ := h1.b
  obtain rfl := h2.e
  exact ⟨⟨x0, x1, x2⟩, rfl, z0⟩
theorem row_cal {r : List Value} (h : RowIs enc Tryz.prog W base [.s, .b, .b, .b, .b, .b, .b, .b, .i .i64, .i .i64] r) : ∃ x : CalD, r = x.row ∧ x.id.size ≤ maxLen := by
  obtain ⟨x0, l0, rfl, z0, h0⟩ := h.s
  obtain ⟨x1, l1, rfl, h1⟩ := h0.b
  obtain ⟨x2, l2, rfl, h2⟩ := h1.b
  obtain ⟨x3, l3, rfl, h3⟩ := h2.b
  obtain ⟨x4, l4, rfl, h4⟩ := h3.b
  obtain ⟨x5, l5, rfl, h5⟩ := h4.b
  obtain ⟨x6, l6, rfl, h6⟩ := h5.b
  obtain ⟨x7, l7, rfl, h7⟩ := h6.b
  obtain ⟨x8, l8, rfl, z8, h8⟩ := h7.i
  obtain ⟨x9, l9, rfl, z9, h9⟩ := h8.i
  obtain rfl := h9.e
  exact ⟨⟨x0, x1, x2, x3, x4, x5, x6, x7, x8, x9⟩, rfl, z0⟩
theorem row_exc {r : List Value} (h : RowIs enc Tryz.prog W base [.i .i64, .i .i64, .b] r) : ∃ x : ExcD, r = x.row ∧ inW x.cal ∧ inW x.day := by
  obtain ⟨x0, l0, rfl, z0, h0⟩ := h.i
  obtain ⟨x1, l1, rfl, z1, h1⟩ := h0.i
  obtain ⟨x2, l2, rfl, h2⟩ := h1.b
  obtain rfl := h2.e
  exact ⟨⟨x0, x1, x2⟩, rfl, ⟨z0, z1⟩⟩
theorem row_frq {r : List Value} (h : RowIs enc Tryz.prog W base [.i .i64, .i .i64, .i .i64, .i .i64] r) : ∃ x : FrqD, r = x.row ∧ inW x.trip := by
  obtain ⟨x0, l0, rfl, z0, h0⟩ := h.i
  obtain ⟨x1, l1, rfl, z1, h1⟩ := h0.i
  obtain ⟨x2, l2, rfl, z2, h2⟩ := h1.i
  obtain ⟨x3, l3, rfl, z3, h3⟩ := h2.i
  obtain rfl := h3.e
  exact ⟨⟨x0, x1, x2, x3⟩, rfl, z0⟩
theorem row_thr {r : List Value} (h : RowIs enc Tryz.prog W base [.i .i64, .i .i64] r) : ∃ x : ThrD, r = x.row ∧ inW x.fr ∧ inW x.to_ := by
  obtain ⟨x0, l0, rfl, z0, h0⟩ := h.i
  obtain ⟨x1, l1, rfl, z1, h1⟩ := h0.i
  obtain rfl := h1.e
  exact ⟨⟨x0, x1⟩, rfl, ⟨z0, z1⟩⟩
theorem row_gua {r : List Value} (h : RowIs enc Tryz.prog W base [.i .i64, .i .i64, .i .i64] r) : ∃ x : GuaD, r = x.row ∧ inW x.fr ∧ inW x.to_ ∧ inW x.stop := by
  obtain ⟨x0, l0, rfl, z0, h0⟩ := h.i
  obtain ⟨x1, l1, rfl, z1, h1⟩ := h0.i
  obtain ⟨x2, l2, rfl, z2, h2⟩ := h1.i
  obtain rfl := h2.e
  exact ⟨⟨x0, x1, x2⟩, rfl, ⟨z0, z1, z2⟩⟩
theorem row_path {r : List Value} (h : RowIs enc Tryz.prog W base [.i .i64, .i .i64, .i .i64, .b] r) : ∃ x : PathD, r = x.row ∧ inW x.fr ∧ inW x.to_ := by
  obtain ⟨x0, l0, rfl, z0, h0⟩ := h.i
  obtain ⟨x1, l1, rfl, z1, h1⟩ := h0.i
  obtain ⟨x2, l2, rfl, z2, h2⟩ := h1.i
  obtain ⟨x3, l3, rfl, h3⟩ := h2.b
  obtain rfl := h3.e
  exact ⟨⟨x0, x1, x2, x3⟩, rfl, ⟨z0, z1⟩⟩
theorem row_prod {r : List Value} (h : RowIs enc Tryz.prog W base [.s, .i .i64, .i .i64, .i .i64, .i .i64, .i .i64] r) : ∃ x : ProdD, r = x.row ∧ x.id.size ≤ maxLen ∧ inW x.modes := by
  obtain ⟨x0, l0, rfl, z0, h0⟩ := h.s
  obtain ⟨x1, l1, rfl, z1, h1⟩ := h0.i
  obtain ⟨x2, l2, rfl, z2, h2⟩ := h1.i
  obtain ⟨x3, l3, rfl, z3, h3⟩ := h2.i
  obtain ⟨x4, l4, rfl, z4, h4⟩ := h3.i
  obtain ⟨x5, l5, rfl, z5, h5⟩ := h4.i
  obtain rfl := h5.e
  exact ⟨⟨x0, x1, x2, x3, x4, x5⟩, rfl, ⟨z0, z5⟩⟩
theorem row_call {r : List Value} (h : RowIs enc Tryz.prog W base [.i .i64, .i .i64, .i .i64, .b, .b] r) : ∃ x : CallD, r = x.row ∧ inW x.stop := by
  obtain ⟨x0, l0, rfl, z0, h0⟩ := h.i
  obtain ⟨x1, l1, rfl, z1, h1⟩ := h0.i
  obtain ⟨x2, l2, rfl, z2, h2⟩ := h1.i
  obtain ⟨x3, l3, rfl, h3⟩ := h2.b
  obtain ⟨x4, l4, rfl, h4⟩ := h3.b
  obtain rfl := h4.e
  exact ⟨⟨x0, x1, x2, x3, x4⟩, rfl, z0⟩
theorem row_trip {r : List Value} (h : RowIs enc Tryz.prog W base [.s, .i .i64, .i .i64, .b, .sl 41] r) : ∃ x : TripD, r = x.row ∧ (x.id.size ≤ maxLen ∧ (inW x.route ∧ inW x.cal ∧ ∀ c ∈ x.calls, inW c.stop) ∧ RowsAt W x.a 5 (x.calls.map CallD.row)) := by
  obtain ⟨x0, l0, rfl, z0, h0⟩ := h.s
  obtain ⟨x1, l1, rfl, z1, h1⟩ := h0.i
  obtain ⟨x2, l2, rfl, z2, h2⟩ := h1.i
  obtain ⟨x3, l3, rfl, h3⟩ := h2.b
  obtain ⟨x4, l4, rfl, ⟨n, y, g⟩, h4⟩ := h3.sl
  obtain rfl := h4.e
  obtain ⟨l, a, c, rfl, _, hr, hq⟩ := tab_in (sh := [.i .i64, .i .i64, .i .i64, .b, .b]) (row := CallD.row) (e := 49) (sz := 5) (by kernel_rfl) (by kernel_rfl) (by decide) (by kernel_rfl) (by kernel_rfl) rfl (fun r hr => row_call hr) g
  exact ⟨⟨x0, x1, x2, x3, a, c, l⟩, rfl, z0, ⟨z1, z2, hq⟩, hr⟩
theorem tt_in {r : Reach} {b : Nat} {v0 : Value} {n : Nat} {x : DataW H × List MemPlace} (hok : Value.okWide Tryz.prog W r b 35 v0) (h : DataW.trod enc Tryz.prog W base (fun _ => true) true n 35 v0.cells.toList = some x) :
    ∃ t : TT, v0 = t.val ∧ t.lies W := by
  obtain ⟨fs, hfs⟩ : ∃ fs, Tryz.prog.underlying 35 = some (.struct fs) := fs_of (by kernel_rfl)
  unfold Value.okWide at hok
  rw [hfs] at hok
  obtain ⟨cs, rfl, _⟩ := hok
  have hcs : (Value.agg cs).cells.toList = cs.toList := rfl
  rw [hcs] at h
  have hr := trod_row (sh := [.sl 22, .sl 23, .sl 24, .sl 25, .sl 26, .sl 27, .sl 28, .sl 29, .sl 30, .sl 31, .i .i64, .i .i64, .i .i64]) (fuel := 5) hfs (by kernel_rfl) (by kernel_rfl) h
  obtain ⟨l⟩ := cs
  obtain ⟨x0, l0, e0, ⟨n0, y0, g0⟩, h0⟩ := hr.sl
  obtain ⟨x1, l1, e1, ⟨n1, y1, g1⟩, h1⟩ := h0.sl
  obtain ⟨x2, l2, e2, ⟨n2, y2, g2⟩, h2⟩ := h1.sl
  obtain ⟨x3, l3, e3, ⟨n3, y3, g3⟩, h3⟩ := h2.sl
  obtain ⟨x4, l4, e4, ⟨n4, y4, g4⟩, h4⟩ := h3.sl
  obtain ⟨x5, l5, e5, ⟨n5, y5, g5⟩, h5⟩ := h4.sl
  obtain ⟨x6, l6, e6, ⟨n6, y6, g6⟩, h6⟩ := h5.sl
  obtain ⟨x7, l7, e7, ⟨n7, y7, g7⟩, h7⟩ := h6.sl
  obtain ⟨x8, l8, e8, ⟨n8, y8, g8⟩, h8⟩ := h7.sl
  obtain ⟨x9, l9, e9, ⟨n9, y9, g9⟩, h9⟩ := h8.sl
  obtain ⟨x10, l10, e10, _, h10⟩ := h9.i
  obtain ⟨x11, l11, e11, _, h11⟩ := h10.i
  obtain ⟨x12, l12, e12, _, h12⟩ := h11.i
  obtain rfl := h12.e
  subst e12 e11 e10 e9 e8 e7 e6 e5 e4 e3 e2 e1
  obtain rfl : l = _ := e0
  obtain ⟨L0, a0, c0, rfl, k0, r0, q0⟩ := tab_in (sh := [.s, .i .i64, .b, .i .i64]) (row := StopD.row) (e := 45) (sz := 4) (by kernel_rfl) (by kernel_rfl) (by decide) (by kernel_rfl) (by kernel_rfl) rfl (fun r hr => row_stop hr) g0
  obtain ⟨L1, a1, c1, rfl, k1, r1, q1⟩ := tab_in (sh := [.s, .i .i64, .b]) (row := RouteD.row) (e := 47) (sz := 3) (by kernel_rfl) (by kernel_rfl) (by decide) (by kernel_rfl) (by kernel_rfl) rfl (fun r hr => row_route hr) g1
  obtain ⟨L2, a2, c2, rfl, k2, r2, q2⟩ := tab_in (sh := [.s, .b, .b, .b, .b, .b, .b, .b, .i .i64, .i .i64]) (row := CalD.row) (e := 116) (sz := 10) (by kernel_rfl) (by kernel_rfl) (by decide) (by kernel_rfl) (by kernel_rfl) rfl (fun r hr => row_cal hr) g2
  obtain ⟨L3, a3, c3, rfl, k3, r3, q3⟩ := tab_in (sh := [.i .i64, .i .i64, .b]) (row := ExcD.row) (e := 119) (sz := 3) (by kernel_rfl) (by kernel_rfl) (by decide) (by kernel_rfl) (by kernel_rfl) rfl (fun r hr => row_exc hr) g3
  obtain ⟨L4, a4, c4, rfl, k4, r4, q4⟩ := tab_in (sh := [.s, .i .i64, .i .i64, .b, .sl 41]) (row := TripD.row) (e := 43) (sz := 5) (by kernel_rfl) (by kernel_rfl) (by decide) (by kernel_rfl) (by kernel_rfl) rfl (fun r hr => row_trip hr) g4
  obtain ⟨L5, a5, c5, rfl, k5, r5, q5⟩ := tab_in (sh := [.i .i64, .i .i64, .i .i64, .i .i64]) (row := FrqD.row) (e := 123) (sz := 4) (by kernel_rfl) (by kernel_rfl) (by decide) (by kernel_rfl) (by kernel_rfl) rfl (fun r hr => row_frq hr) g5
  obtain ⟨L6, a6, c6, rfl, k6, r6, q6⟩ := tab_in (sh := [.i .i64, .i .i64]) (row := ThrD.row) (e := 129) (sz := 2) (by kernel_rfl) (by kernel_rfl) (by decide) (by kernel_rfl) (by kernel_rfl) rfl (fun r hr => row_thr hr) g6
  obtain ⟨L7, a7, c7, rfl, k7, r7, q7⟩ := tab_in (sh := [.i .i64, .i .i64, .i .i64]) (row := GuaD.row) (e := 136) (sz := 3) (by kernel_rfl) (by kernel_rfl) (by decide) (by kernel_rfl) (by kernel_rfl) rfl (fun r hr => row_gua hr) g7
  obtain ⟨L8, a8, c8, rfl, k8, r8, q8⟩ := tab_in (sh := [.i .i64, .i .i64, .i .i64, .b]) (row := PathD.row) (e := 143) (sz := 4) (by kernel_rfl) (by kernel_rfl) (by decide) (by kernel_rfl) (by kernel_rfl) rfl (fun r hr => row_path hr) g8
  obtain ⟨L9, a9, c9, rfl, k9, r9, q9⟩ := tab_in (sh := [.s, .i .i64, .i .i64, .i .i64, .i .i64, .i .i64]) (row := ProdD.row) (e := 141) (sz := 6) (by kernel_rfl) (by kernel_rfl) (by decide) (by kernel_rfl) (by kernel_rfl) rfl (fun r hr => row_prod hr) g9
  exact ⟨⟨a0, a1, a2, a3, a4, a5, a6, a7, a8, a9, c0, c1, c2, c3, c4, c5, c6, c7, c8, c9, L0, L1, L2, L3, L4, L5, L6, L7, L8, L9, x10, x11, x12⟩, rfl, { r0 := r0, r1 := r1, r2 := r2, r3 := r3, r4 := r4, r5 := r5, r6 := r6, r7 := r7, r8 := r8, r9 := r9, cs := fun s hs => (q4 s hs).2.2, i0 := q0, i1 := q1, i2 := q2, i3 := q3, i4 := fun s hs => (q4 s hs).1, i4r := fun s hs => (q4 s hs).2.1, i5 := q5, i6 := q6, i7 := q7, i8 := q8, i9 := q9, k5 := k5, k6 := k6 }⟩
end
end Go.Proofs.Tt
