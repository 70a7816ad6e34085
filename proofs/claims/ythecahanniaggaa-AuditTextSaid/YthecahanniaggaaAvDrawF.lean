/-
  Regions that draw their order, last part: every order comes to what the text's order comes to.
-/
import Derived.Test.YthecahanniaggaaAvDrawE
namespace Go.AV

open Classical in
noncomputable def uH (ε : Nat → Eff) (k b : Nat) : Option (Option AObj) := if (ε k).U b then some ((ε k).h1.heap.get b) else none

def uT (ops : Array Oper) (ε : Nat → Eff) (k t : Nat) : Option Value := if (ops[k]?).bind (·.dst) = some t then some (ε k).v else none

def foldT (ops : Array Oper) (ε : Nat → Eff) (S : Nat → Bool) (tm0 : Tm) : Nat → Tm
  | 0 => tm0
  | n + 1 => if S n then (match (ops[n]?).bind (·.dst) with
      | some d => (foldT ops ε S tm0 n).set d (ε n).v
      | none => foldT ops ε S tm0 n) else foldT ops ε S tm0 n

theorem rd_foldT (ops : Array Oper) (ε : Nat → Eff) (S : Nat → Bool) (tm0 : Tm) (t : Nat) : ∀ n, rd (foldT ops ε S tm0 n) t = foldU S (uT ops ε) n (rd tm0) t
  | 0 => rfl
  | n + 1 => by
    have ih := rd_foldT ops ε S tm0 t n
    simp only [foldT, foldU, uT]
    split
    · split
      · rename_i d hd
        rw [rd_set, ih, hd]
        by_cases ht : t = d
        · subst ht; simp
        · rw [if_neg ht, if_neg (by simpa using fun h => ht h.symm)]; rfl
      · rename_i hd
        rw [ih, hd, if_neg (by simp)]; rfl
    · exact ih

theorem Fr.put_spec {fr fr' : Fr} {d : Option Tmp} {v : Value} (h : fr.put d v = some fr') : fr'.n = fr.n ∧ fr'.dfr = fr.dfr ∧ (∀ t, rd fr'.tm t = if d = some t then v else rd fr.tm t) ∧ ∀ t, d = some t → t < fr.n := by
  unfold Fr.put at h
  split at h
  · split at h
    · rename_i d hd
      cases h
      refine ⟨rfl, rfl, fun t => ?_, fun t ht => by cases ht; rw [Nat.blt_eq] at hd; exact hd⟩
      simp only [rd_set, Option.some.injEq, eq_comm]
    · cases h
  · cases h
    exact ⟨rfl, rfl, fun t => by rw [if_neg (by simp)], fun t ht => by cases ht⟩

section
variable {P : Program} {call round : CallF} {ops : Array Oper} {ms : List Nat} {σ : Nat → DS} {ε : Nat → Eff}

theorem uH_none {k b : Nat} : uH ε k b = none ↔ ¬ (ε k).U b := by
  unfold uH
  split
  · rename_i h; simp [h]
  · rename_i h; simp [h]

theorem Seq.heaps (h : Seq P call round ops ms σ ε) (b : Nat) : ∀ {k : Nat}, k ≤ ops.size → (σ k).h.heap.get b = foldU (fun _ => true) (uH ε) k (σ 0).h.heap.get b
  | 0, _ => rfl
  | k + 1, hk => by
    have ih := h.heaps b (k := k) (by omega)
    simp only [foldU, if_true]
    by_cases hu : (ε k).U b
    · rw [(h.heap (by omega) b).1 hu]
      unfold uH; rw [if_pos hu]; rfl
    · rw [(h.heap (by omega) b).2 hu, uH_none.2 hu, ih]; rfl

theorem Seq.frs (h : Seq P call round ops ms σ ε) : ∀ {k : Nat}, k ≤ ops.size → (σ k).fr.n = (σ 0).fr.n ∧ (σ k).fr.dfr = (σ 0).fr.dfr ∧ ∀ t, rd (σ k).fr.tm t = foldU (fun _ => true) (uT ops ε) k (rd (σ 0).fr.tm) t
  | 0, _ => ⟨rfl, rfl, fun _ => rfl⟩
  | k + 1, hk => by
    obtain ⟨i1, i2, i3⟩ := h.frs (k := k) (by omega)
    obtain ⟨m, _, hf⟩ := h.getM (k := k) (by omega)
    obtain ⟨p1, p2, p3, _⟩ := Fr.put_spec hf.put
    refine ⟨p1.trans i1, p2.trans i2, fun t => ?_⟩
    rw [p3 t, i3 t]
    have hk' : ops[k]? = some ops[k] := by simp [show k < ops.size by omega]
    simp only [foldU, if_true, uT, hk', Option.bind_some]
    split <;> rfl

def cnt (S : Nat → Bool) : Nat → Nat
  | 0 => 0
  | n + 1 => cnt S n + if S n then 0 else 1

theorem cnt_zero {S : Nat → Bool} : ∀ {n : Nat}, cnt S n = 0 → ∀ k, k < n → S k = true
  | 0, _, k, hk => by omega
  | n + 1, h, k, hk => by
    simp only [cnt] at h
    by_cases he : k = n
    · subst he
      cases hs : S k with
      | true => rfl
      | false => rw [hs] at h; simp at h
    · exact cnt_zero (n := n) (by omega) k (by omega)

theorem cnt_insert {S S' : Nat → Bool} {i : Nat} (hS : S i = false) (hS' : ∀ k, S' k = (k == i || S k)) : ∀ {n : Nat}, (n ≤ i → cnt S' n = cnt S n) ∧ (i < n → cnt S' n + 1 = cnt S n)
  | 0 => ⟨fun _ => rfl, fun h => by omega⟩
  | n + 1 => by
    obtain ⟨h1, h2⟩ := cnt_insert hS hS' (n := n)
    refine ⟨fun h => ?_, fun h => ?_⟩
    · have : (n == i) = false := by simp; omega
      simp only [cnt, hS', this, Bool.false_or, h1 (by omega)]
    · by_cases he : n = i
      · subst he
        simp only [cnt, hS', h1 (Nat.le_refl _), hS, BEq.rfl, Bool.true_or, if_true]
        simp
      · have : (n == i) = false := by simpa using he
        have := h2 (by omega)
        simp only [cnt, hS', ‹(n == i) = false›, Bool.false_or]
        omega

/-- where the run stands when the operations of S have run -/
def DInv (ops : Array Oper) (σ : Nat → DS) (ε : Nat → Eff) (ρ0 : Ren) (w0 : World) (S : Nat → Bool) (a : Act) (w : World) : Prop :=
  ∃ ρ, FRel ρ { (σ 0).fr with tm := foldT ops ε S (σ 0).fr.tm ops.size } a ∧ HRel ρ (foldU S (uH ε) ops.size (σ 0).h.heap.get) w ∧
    Step ρ0 (σ 0).h.heap.get w0 ρ (foldU S (uH ε) ops.size (σ 0).h.heap.get) w (σ 0).h.next (σ ops.size).h.next ∧
    ∀ k, k < ops.size → S k = false → Fresh ρ (σ k).h.next (σ (k + 1)).h.next

theorem dstep (h : Seq P call round ops ms σ ε) (plan : Plan ops ms) {rdd : Option Nat} {F : Fence} {ρ0 : Ren} {w0 : World} (hF : RFence ρ0 rdd F)
    (h0 : ∀ b, (σ 0).h.next ≤ b → b < (σ ops.size).h.next → (σ 0).h.heap.get b = none) {S S' : Nat → Bool} {k : Nat} (hk : k < ops.size) (hS : S k = false) (hS' : S' = fun i => i == k || S i)
    (hcl : Closed ms S) (hcov : ∀ m, ms[k]? = some m → ∀ b, m.testBit b = true → S b = true) {a : Act} {w : World} (hi : DInv ops σ ε ρ0 w0 S a w) {n : Nat} {Q : Exit → Act → World → Prop} {K : Act → World → Prop}
    (hK : ∀ a' w', DInv ops σ ε ρ0 w0 S' a' w' → K a' w') : wpOpIn F n P ops Q k K a w := by
  obtain ⟨ρ, i1, i2, i3, i4⟩ := hi
  obtain ⟨m, hm, hf⟩ := h.getM hk
  have hok : ops[k]? = some ops[k] := by simp [hk]
  -- neither before the other
  have lt : ∀ j, j < k → S j = false → m.testBit j = false := fun j _ hj => by
    cases hb : m.testBit j with
    | false => rfl
    | true => rw [hcov m hm j hb] at hj; cases hj
  have gt : ∀ j, k < j → j < ops.size → S j = true → ∃ mj, ms[j]? = some mj ∧ mj.testBit k = false := fun j _ hj hsj => by
    obtain ⟨mj, hmj, _⟩ := h.getM hj
    refine ⟨mj, hmj, ?_⟩
    cases hb : mj.testBit k with
    | false => rfl
    | true => rw [hcl j mj hsj hmj k hb] at hS; cases hS
  have tlt : ∀ j, j < k → S j = false → (∀ d, (ops[j]?).bind (·.dst) = some d → d ∉ namesOf ops ops[k]) := fun j hj hsj d hd => by
    have hjo : ops[j]? = some ops[j] := by simp [show j < ops.size by omega]
    obtain ⟨m', h1, h2⟩ := plan.tmps k ops[k] j ops[j] hok hjo hj
    rw [hm] at h1; cases h1
    rcases h2 with q | q
    · rw [lt j hj hsj] at q; cases q
    · exact q.1 d (by simpa [hjo] using hd)
  have tgt : ∀ j, k < j → j < ops.size → S j = true → (∀ d, (ops[j]?).bind (·.dst) = some d → d ∉ namesOf ops ops[k]) ∧ ∀ d, ops[k].dst = some d → (ops[j]?).bind (·.dst) ≠ some d := fun j hj hjn hsj => by
    have hjo : ops[j]? = some ops[j] := by simp [hjn]
    obtain ⟨mj, hmj, hbit⟩ := gt j hj hjn hsj
    obtain ⟨m', h1, h2⟩ := plan.tmps j ops[j] k ops[k] hjo hok hj
    rw [hmj] at h1; cases h1
    rcases h2 with q | q
    · rw [hbit] at q; cases q
    · refine ⟨fun d hd => q.2 d (by simpa [hjo] using hd), fun d hd he => q.1 d hd ?_⟩
      unfold namesOf
      refine List.mem_append_left _ (List.mem_append_right _ ?_)
      have : ops[j].dst = some d := by simpa [hjo] using he
      rw [this]; simp
  have names : ∀ t, t ∈ namesOf ops ops[k] → rd (foldT ops ε S (σ 0).fr.tm ops.size) t = rd (σ k).fr.tm t := fun t ht => by
    rw [rd_foldT, (h.frs (k := k) (by omega)).2.2 t]
    refine foldU_prefix (by omega) (fun j hj hu => ?_) fun j hj hjn hsj => ?_
    · cases hsj : S j with
      | true => rfl
      | false =>
        unfold uT at hu
        split at hu
        · rename_i hd; exact (tlt j hj hsj t hd ht).elim
        · exact (hu rfl).elim
    · have : j ≠ k := fun he => by subst he; rw [hS] at hsj; cases hsj
      unfold uT
      rw [if_neg fun hd => (tgt j (by omega) hjn hsj).1 t hd ht]
  have want : wantedB ops (foldT ops ε S (σ 0).fr.tm ops.size) ops[k] = some (ε k).on := by
    rw [wantedB_names names]; exact hf.want
  have wok := wantedB_ok i1.tr want
  -- the temporaries behind it
  obtain ⟨p1, p2, p3, p4⟩ := Fr.put_spec hf.put
  have hdn : ∀ t, ops[k].dst = some t → t < (σ 0).fr.n := fun t ht => by rw [← (h.frs (k := k) (by omega)).1]; exact p4 t ht
  have tms : ∀ t, rd (foldT ops ε S' (σ 0).fr.tm ops.size) t = if ops[k].dst = some t then (ε k).v else rd (foldT ops ε S (σ 0).fr.tm ops.size) t := fun t => by
    rw [rd_foldT, rd_foldT, hS', foldU_insert hS hk fun j hj hjn hsj hu => ?_]
    · simp only [uT, hok, Option.bind_some]
      split <;> rfl
    · unfold uT at hu ⊢
      simp only [hok, Option.bind_some] at hu
      split at hu
      · rename_i hd; rw [if_neg ((tgt j hj hjn hsj).2 t hd)]
      · exact (hu rfl).elim
  have frel : ∀ {ρ' : Ren} {a' : Act}, (∀ fr1, Fr.put { (σ 0).fr with tm := foldT ops ε S (σ 0).fr.tm ops.size } ops[k].dst (ε k).v = some fr1 → FRel ρ' fr1 a') → FRel ρ' { (σ 0).fr with tm := foldT ops ε S' (σ 0).fr.tm ops.size } a' := by
    intro ρ' a' hfr
    cases hd : ops[k].dst with
    | none =>
      have := hfr _ (by rw [hd]; rfl)
      refine ⟨⟨this.tr.1, fun t => ?_⟩, this.ds⟩
      show VR ρ' (rd (foldT ops ε S' (σ 0).fr.tm ops.size) t) _
      rw [tms t, hd, if_neg (by simp)]; exact this.tr.2 t
    | some d =>
      have hb : Nat.blt d (σ 0).fr.n = true := by rw [Nat.blt_eq]; exact hdn d hd
      have := hfr { (σ 0).fr with tm := (foldT ops ε S (σ 0).fr.tm ops.size).set d (ε k).v } (by rw [hd]; simp [Fr.put, hb])
      refine ⟨⟨this.tr.1, fun t => ?_⟩, this.ds⟩
      have ht := this.tr.2 t
      simp only [rd_set] at ht
      show VR ρ' (rd (foldT ops ε S' (σ 0).fr.tm ops.size) t) _
      rw [tms t, hd]
      simp only [Option.some.injEq]
      by_cases he : d = t
      · subst he; rw [if_pos rfl] at ht ⊢; exact ht
      · rw [if_neg he]; rw [if_neg fun q => he q.symm] at ht; exact ht
  have putok : ∃ fr1, Fr.put { (σ 0).fr with tm := foldT ops ε S (σ 0).fr.tm ops.size } ops[k].dst (ε k).v = some fr1 := by
    cases hd : ops[k].dst with
    | none => exact ⟨_, rfl⟩
    | some d =>
      have hb : Nat.blt d (σ 0).fr.n = true := by rw [Nat.blt_eq]; exact hdn d hd
      exact ⟨_, by simp [Fr.put, hb]; rfl⟩
  obtain ⟨fr1, hfr1⟩ := putok
  have fresh' : ∀ {ρ' : Ren}, (∀ b, b < (σ k).h.next ∨ (σ (k + 1)).h.next ≤ b → ρ' b = ρ b) → ∀ j, j < ops.size → S' j = false → Fresh ρ' (σ j).h.next (σ (j + 1)).h.next := by
    intro ρ' hrng j hj hsj b hb1 hb2
    rw [hS'] at hsj
    simp only [Bool.or_eq_false_iff, beq_eq_false_iff_ne, ne_eq] at hsj
    have hout : b < (σ k).h.next ∨ (σ (k + 1)).h.next ≤ b := by
      rcases Nat.lt_or_gt_of_ne hsj.1 with q | q
      · left; have := h.next (k := j + 1) (j := k) (by omega) (by omega); omega
      · right; have := h.next (k := k + 1) (j := j) (by omega) (by omega); omega
    rw [hrng b hout]
    exact i4 j hj hsj.2 b hb1 hb2
  unfold wpOpIn
  simp only [hok]
  rw [wok]
  cases ho : (ε k).on with
  | false =>
    simp only [Bool.false_eq_true, if_false]
    refine ⟨fun f _ => hF.fn f, hK _ _ ?_⟩
    have heap : foldU S' (uH ε) ops.size (σ 0).h.heap.get = foldU S (uH ε) ops.size (σ 0).h.heap.get := by
      funext b
      have hn : uH ε k b = none := uH_none.2 fun q => by have := q.1; rw [ho] at this; cases this
      rw [hS', foldU_insert hS hk fun j _ _ _ hu => (hu hn).elim, hn]; rfl
    refine ⟨ρ, frel fun fr1 hp => ?_, by rw [heap]; exact i2, by rw [heap]; exact i3, fresh' fun _ _ => rfl⟩
    rw [(hf.off ho).1] at hp
    exact Fr.put_ok i1 .undef hp
  | true =>
    simp only [if_true]
    have O := hf.onn ho
    have view : ∀ b x, (ε k).V.get b = some x → foldU S (uH ε) ops.size (σ 0).h.heap.get b = some x := by
      intro b x hb
      rw [← O.view b x hb, h.heaps b (k := k) (by omega)]
      refine foldU_prefix (by omega) (fun j hj hu => ?_) fun j hj hjn hsj => ?_
      · cases hsj : S j with
        | true => rfl
        | false =>
          have huj : (ε j).U b := Classical.byContradiction fun q => hu (uH_none.2 q)
          have := (h.apart h0 (Nat.le_refl _) hj hk hm (lt j hj hsj) huj.1 ho b).1 huj
          rw [hb] at this; cases this
      · have hne : j ≠ k := fun he => by subst he; rw [hS] at hsj; cases hsj
        refine uH_none.2 fun huj => ?_
        obtain ⟨mj, hmj, hbit⟩ := gt j (by omega) hjn hsj
        have := (h.apart h0 (Nat.le_refl _) (j := k) (k := j) (by omega) hjn hmj hbit ho huj.1 b).2.1 huj
        rw [hb] at this; cases this
    have heaps : ∀ b, ((ε k).U b → foldU S' (uH ε) ops.size (σ 0).h.heap.get b = (ε k).h1.heap.get b) ∧ (¬ (ε k).U b → foldU S' (uH ε) ops.size (σ 0).h.heap.get b = foldU S (uH ε) ops.size (σ 0).h.heap.get b) := by
      intro b
      have ins := foldU_insert (f := (σ 0).h.heap.get) (u := uH ε) (b := b) hS hk fun j hj hjn hsj hu => by
        have huk : (ε k).U b := Classical.byContradiction fun q => hu (uH_none.2 q)
        refine uH_none.2 fun huj => ?_
        obtain ⟨mj, hmj, hbit⟩ := gt j hj hjn hsj
        exact (h.apart h0 (Nat.le_refl _) (j := k) (k := j) hj hjn hmj hbit ho huj.1 b).2.2 ⟨huk, huj⟩
      rw [hS', ins]
      refine ⟨fun q => ?_, fun q => ?_⟩
      · unfold uH; rw [if_pos q]; rfl
      · rw [uH_none.2 q]; rfl
    have hview : HRel ρ (ε k).V.get w := i2.sub view
    have hnx := O.next
    have hfr : Fresh ρ (σ k).h.next (ε k).h1.next := by rw [← hnx]; exact i4 k hk hS
    have done : ∀ a' w', Aft ρ { heap := (ε k).V, next := (σ k).h.next, log := [] } w fr1 (ε k).h1 a' w' → K a' w' := by
      rintro a' w' ⟨ρ', y1, y2, y3⟩
      obtain ⟨z1, z2⟩ := frame (H2 := foldU S' (uH ε) ops.size (σ 0).h.heap.get) (U := (ε k).U) view (fun b hb => h.kept hk ho hb) (fun b hb => (heaps b).1 hb) (fun b hb => (heaps b).2 hb) i2 y2 y3
      refine hK _ _ ⟨ρ', frel fun fr2 hp => by rw [hfr1] at hp; cases hp; exact y1, z1, ?_, fresh' fun b hb => y3.rng b (by simp only; rw [← hnx]; exact hb)⟩
      have n1 := h.next (k := 0) (j := k) (by omega) (by omega)
      have n2 := h.next (k := k + 1) (j := ops.size) (by omega) (Nat.le_refl _)
      exact i3.trans2 z2 (Nat.le_refl _) (Nat.le_refl _) n1 (by rw [← hnx]; exact n2)
    have cong : ∀ g : Hs, aop P (foldT ops ε S (σ 0).fr.tm ops.size) g ops[k] = aop P (σ k).fr.tm g ops[k] := fun g => aop_congr (ev_names names)
    have hF' : RFence ρ rdd F := hF.mono i3.ext
    have hempty : HRel ρ ({ heap := .leaf, next := 0, log := [] } : Hs).heap.get w := ⟨fun b o hb => absurd hb (by simp [T.get_leaf]), fun i j oi oj Li Lj hi => absurd hi (by simp [T.get_leaf])⟩
    have ran := O.ran
    generalize hv : (ε k).v = v at ran hfr1
    generalize hh1 : (ε k).h1 = h1 at ran done hfr
    cases ran with
    | val _ _ hr => exact op_val (h := { heap := (ε k).V, next := (σ k).h.next, log := [] }) hF'.fn i1 hview hfr (by rw [← hr]; exact cong _) hfr1 done
    | skip _ hr => exact op_skip (h := { heap := (ε k).V, next := (σ k).h.next, log := [] }) hF'.fn i1 hview hfr (by rw [← hr]; exact cong _) hfr1 done
    | call f args _ _ hr hc => exact op_call h.hc (h := { heap := (ε k).V, next := (σ k).h.next, log := [] }) hF' i1 hview hfr hempty (by rw [← hr]; exact cong _) hc hfr1 done
    | round f args _ _ hr hc => exact op_round h.hr (h := { heap := (ε k).V, next := (σ k).h.next, log := [] }) hF' i1 hview hfr hempty (by rw [← hr]; exact cong _) hc hfr1 done
theorem getD_put {listed : Array Bool} {i : Nat} (hi : i < listed.size) (k : Nat) : (listed.setIfInBounds i true).getD k false = (k == i || listed.getD k false) := by
  by_cases h : k = i
  · subst h; simp [hi]
  · rw [getD_set_ne false (fun he => h he.symm)]
    have : (k == i) = false := by simpa using h
    rw [this]; rfl

theorem ready_nil {md : Region.Mode} {listed : Array Bool} (plan : Plan ops ms) (hmd : md = .any) (hsz : listed.size = ops.size) (hr : Region.ready md ops listed = []) : ∀ k, k < ops.size → listed.getD k false = true := by
  intro k
  induction k using Nat.strongRecOn with
  | _ k ih =>
    intro hk
    cases hl : listed.getD k false with
    | true => rfl
    | false =>
      exfalso
      have : k ∈ Region.ready md ops listed := by
        have hok : ops[k]? = some ops[k] := by simp [hk]
        refine mem_ready.2 ⟨?_, ops[k], hok, fun e he hb => ?_⟩
        · have hlt : k < listed.size := by omega
          simp [hlt] at hl ⊢; exact hl
        · obtain ⟨m, _, h2⟩ := plan.mask k ops[k] hok
          subst hmd
          have := h2.before e (by simpa using he) hb
          exact ih e.on this (by omega)
      rw [hr] at this; cases this

theorem danyIn (h : Seq P call round ops ms σ ε) (plan : Plan ops ms) {rdd : Option Nat} {F : Fence} {ρ0 : Ren} {w0 : World} (hF : RFence ρ0 rdd F)
    (h0 : ∀ b, (σ 0).h.next ≤ b → b < (σ ops.size).h.next → (σ 0).h.heap.get b = none) {n : Nat} {Q : Exit → Act → World → Prop}
    (hQ : ∀ a' w', Aft ρ0 (σ 0).h w0 (σ ops.size).fr (σ ops.size).h a' w' → Q .normal a' w') : ∀ (fuel : Nat) (listed : Array Bool) (a : Act) (w : World), listed.size = ops.size → cnt (fun k => listed.getD k false) ops.size ≤ fuel →
      Closed ms (fun k => listed.getD k false) → DInv ops σ ε ρ0 w0 (fun k => listed.getD k false) a w → wpAnyIn F n P .any ops Q fuel listed a w := by
  have last : ∀ (listed : Array Bool) (a : Act) (w : World), (∀ k, k < ops.size → listed.getD k false = true) → DInv ops σ ε ρ0 w0 (fun k => listed.getD k false) a w → Q .normal a w := by
    intro listed a w hall hi
    obtain ⟨ρ, i1, i2, i3, i4⟩ := hi
    have hh : foldU (fun k => listed.getD k false) (uH ε) ops.size (σ 0).h.heap.get = (σ ops.size).h.heap.get := by
      funext b
      rw [h.heaps b (Nat.le_refl _)]
      exact foldU_agree fun k hk _ => hall k hk
    obtain ⟨f1, f2, f3⟩ := h.frs (k := ops.size) (Nat.le_refl _)
    refine hQ a w ⟨ρ, ⟨⟨by rw [f1]; exact i1.tr.1, fun t => ?_⟩, by rw [f2]; exact i1.ds⟩, by rw [← hh]; exact i2, by rw [← hh]; exact i3⟩
    have := i1.tr.2 t
    have he : rd (σ ops.size).fr.tm t = rd (foldT ops ε (fun k => listed.getD k false) (σ 0).fr.tm ops.size) t := by
      rw [rd_foldT, f3 t]
      exact (foldU_agree fun k hk _ => hall k hk).symm
    rw [he]; exact this
  intro fuel
  induction fuel with
  | zero =>
    intro listed a w hsz hcnt hcl hi
    have hall := cnt_zero (S := fun k => listed.getD k false) (n := ops.size) (by omega)
    rw [wpAnyIn]
    refine ⟨?_, last listed a w hall hi⟩
    cases hr : Region.ready .any ops listed with
    | nil => rfl
    | cons j l =>
      have hj : j ∈ Region.ready .any ops listed := by rw [hr]; exact List.mem_cons_self ..
      obtain ⟨h1, o, h2, _⟩ := mem_ready.1 hj
      have hlt : j < ops.size := (Array.getElem?_eq_some_iff.1 h2).1
      have := hall j hlt
      have hlt' : j < listed.size := by omega
      simp [hlt'] at h1 this
      rw [h1] at this; cases this
  | succ fuel ih =>
    intro listed a w hsz hcnt hcl hi
    rw [wpAnyIn]
    refine ⟨fun hr => last listed a w (ready_nil plan rfl hsz hr) hi, fun k hk => ?_⟩
    obtain ⟨h1, o, h2, h3⟩ := mem_ready.1 hk
    have hlt : k < ops.size := (Array.getElem?_eq_some_iff.1 h2).1
    have hlt' : k < listed.size := by omega
    have hS : listed.getD k false = false := by
      simp [hlt'] at h1 ⊢; exact h1
    have hcov : ∀ m, ms[k]? = some m → ∀ b, m.testBit b = true → listed.getD b false = true := fun m hm => plan.covers hcl h2 (fun e he hb => h3 e (by simpa using he) hb) hm
    have hS' : (fun i => (listed.setIfInBounds k true).getD i false) = fun i => i == k || listed.getD i false := funext fun i => getD_put hlt' i
    refine dstep h plan hF h0 hlt (S := fun k => listed.getD k false) hS hS' hcl hcov hi fun a' w' hi' => ?_
    refine ih _ a' w' (by rw [Array.size_setIfInBounds]; exact hsz) ?_ ?_ hi'
    · have := (cnt_insert (S := fun k => listed.getD k false) (S' := fun i => (listed.setIfInBounds k true).getD i false) hS (fun i => congrFun hS' i) (n := ops.size)).2 hlt
      omega
    · intro j m hj hm b hb
      have e1 := congrFun hS' j
      have e2 := congrFun hS' b
      dsimp only at e1 e2 hj ⊢
      rw [e1] at hj
      rw [e2]
      simp only [Bool.or_eq_true, beq_iff_eq] at hj ⊢
      rcases hj with rfl | hj
      · exact .inr (hcov m hm b hb)
      · exact .inr (hcl j m hj hm b hb)

end

theorem drawOK {P : Program} (hP : P.follows .mixedOrders = true) : DrawOK P := by
  intro call round hc hr rdd ops ms fr h fr' h' hplan hs
  have plan := planOf_spec hplan
  obtain ⟨σ, ε, s0, s1, s2, s3⟩ := drawW_states hc hr hs (fun r hr => by cases hr)
  have hl : ops.toList.length = ops.size := by simp
  rw [hl] at s1 s2
  have seq : Seq P call round ops ms σ ε := ⟨hc, hr, by rw [s0], fun k o ho => by
    obtain ⟨m, q1, q2⟩ := s3 k o (by simpa using ho)
    rw [Nat.zero_add] at q2
    exact ⟨m, q1, q2⟩⟩
  have mod : ∀ k, k ≤ ops.size → Mod (σ 0).h (σ k).h := by
    intro k
    induction k with
    | zero => intro _; exact Mod.refl _
    | succ k ih =>
      intro hk
      refine (ih (by omega)).trans ?_
      obtain ⟨m, _, hf⟩ := seq.getM (k := k) (by omega)
      cases ho : (ε k).on with
      | false => rw [(hf.off ho).2.1]; exact Mod.refl _
      | true =>
        have O := hf.onn ho
        have hmod := seq.modOn (k := k) (by omega) ho
        obtain ⟨l, l1, l2, l3⟩ := hmod.log
        simp only [List.append_nil] at l1
        subst l1
        refine ⟨seq.next1 (by omega), _, O.log, fun b hb => ?_, fun b hb hn => ?_⟩
        · rcases l2 b hb with q | q
          · left
            intro hnone
            cases hv : (ε k).V.get b with
            | none => exact q hv
            | some x => rw [O.view b x hv] at hnone; cases hnone
          · right; rw [O.next]; exact q
        · refine (seq.heap (by omega) b).2 fun q => ?_
          obtain ⟨q1, q2⟩ := seq.lo (k := k) (by omega) ho
          rcases q.2 with q | q
          · exact hn q
          · omega
  have mtop := mod ops.size (Nat.le_refl _)
  rw [s2] at mtop
  have hs0 : (σ 0).h = h := by rw [s0]
  have hf0 : (σ 0).fr = fr := by rw [s0]
  rw [hs0] at mtop
  refine ⟨mtop, fun ρ w a n F hF hfr hh hf Q id hQ => wpIn_region_any hP ?_⟩
  have hw1 : HRel ρ h.heap.get { w with drawn := w.drawn + 1 } := hh.world rfl
  have h0 : ∀ b, (σ 0).h.next ≤ b → b < (σ ops.size).h.next → (σ 0).h.heap.get b = none := by
    intro b hb1 hb2
    rw [hs0] at hb1 ⊢
    rw [s2] at hb2
    cases hv : h.heap.get b with
    | none => rfl
    | some x =>
      obtain ⟨L, _, hL, _⟩ := hh.obj b x hv
      rw [hf b hb1 hb2] at hL; cases hL
  have none0 : ∀ k, (Array.replicate ops.size false).getD k false = false := fun k => by
    rw [Array.getD_eq_getD_getElem?, Array.getElem?_replicate]
    split <;> rfl
  have hfold : foldU (fun k => (Array.replicate ops.size false).getD k false) (uH ε) ops.size (σ 0).h.heap.get = h.heap.get := by
    funext b; rw [foldU_none fun k _ => none0 k, hs0]
  have cle : ∀ (S : Nat → Bool) m, cnt S m ≤ m := fun S m => by
    induction m with
    | zero => exact Nat.le_refl _
    | succ m ih => simp only [cnt]; split <;> omega
  refine danyIn (ρ0 := ρ) (w0 := w) seq plan hF h0 (fun a' w' q => hQ a' w' (by rw [s1, s2, hs0] at q; exact q)) ops.size _ a _ (by simp) (cle _ _) (fun k m hk => absurd ((none0 k).symm.trans hk) (by decide)) ?_
  refine ⟨ρ, ?_, by rw [hfold]; exact hw1, ?_, fun k hk _ => ?_⟩
  · refine ⟨⟨by rw [hf0]; exact hfr.tr.1, fun t => ?_⟩, by rw [hf0]; exact hfr.ds⟩
    show VR ρ (rd (foldT ops ε _ (σ 0).fr.tm ops.size) t) _
    rw [rd_foldT, foldU_none fun k _ => none0 k, hf0]; exact hfr.tr.2 t
  · rw [hfold, hs0]
    exact Step.world (ρ := ρ) (H := h.heap.get) (w := w) (w' := { w with drawn := w.drawn + 1 }) rfl rfl rfl rfl _ _
  · refine hf.sub ?_ ?_
    · rw [← hs0]; exact seq.next (k := 0) (j := k) (by omega) (by omega)
    · rw [← s2]; exact seq.next (k := k + 1) (j := ops.size) (by omega) (Nat.le_refl _)

end Go.AV
