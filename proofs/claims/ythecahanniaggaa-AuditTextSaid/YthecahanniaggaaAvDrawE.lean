/-
  Regions that draw their order, fifth part: what the sequence of states says of two operations of which neither comes before the other.
-/
import Derived.Test.YthecahanniaggaaAvDrawD
namespace Go.AV

theorem apartRs_spec {m : Nat} {new : Rec} : ∀ {l : List Rec}, apartRs m new l = true → ∀ r, r ∈ l → apartR m new r = true
  | [], _, r, hr => by cases hr
  | a :: l, h, r, hr => by
    simp only [apartRs] at h
    split at h
    · rename_i ha
      rcases List.mem_cons.1 hr with rfl | hr
      · exact ha
      · exact apartRs_spec h r hr
    · cases h

theorem isNil_spec {l : List Nat} (h : isNil l = true) : l = [] := by cases l <;> simp [isNil] at h ⊢

theorem disj_comm' {l m : List Nat} (h : disj l m = true) {b : Nat} (hb : b ∈ m) : b ∉ l := fun hl => disj_spec h b hl hb

structure Seq (P : Program) (call round : CallF) (ops : Array Oper) (ms : List Nat) (σ : Nat → DS) (ε : Nat → Eff) : Prop where
  hc : CallOK P call
  hr : RoundOK P round
  recs0 : (σ 0).recs = []
  facts : ∀ k o, ops[k]? = some o → ∃ m, ms[k]? = some m ∧ Facts P call round ops k o m (σ k) (σ (k + 1)) (ε k)

section
variable {P : Program} {call round : CallF} {ops : Array Oper} {ms : List Nat} {σ : Nat → DS} {ε : Nat → Eff}

theorem Seq.fact (h : Seq P call round ops ms σ ε) {k : Nat} (hk : k < ops.size) {m : Nat} (hm : ms[k]? = some m) : Facts P call round ops k ops[k] m (σ k) (σ (k + 1)) (ε k) := by
  obtain ⟨m', h1, h2⟩ := h.facts k ops[k] (by simp [hk])
  rw [hm] at h1; cases h1; exact h2

theorem Seq.getM (h : Seq P call round ops ms σ ε) {k : Nat} (hk : k < ops.size) : ∃ m, ms[k]? = some m ∧ Facts P call round ops k ops[k] m (σ k) (σ (k + 1)) (ε k) := h.facts k ops[k] (by simp [hk])

theorem Seq.modOn (h : Seq P call round ops ms σ ε) {k : Nat} (hk : k < ops.size) (ho : (ε k).on = true) : Mod { heap := (ε k).V, next := (σ k).h.next, log := [] } (ε k).h1 := by
  obtain ⟨m, _, hf⟩ := h.getM hk
  exact (hf.onn ho).ran.mod h.hc h.hr

theorem Seq.next1 (h : Seq P call round ops ms σ ε) {k : Nat} (hk : k < ops.size) : (σ k).h.next ≤ (σ (k + 1)).h.next := by
  obtain ⟨m, _, hf⟩ := h.getM hk
  cases ho : (ε k).on with
  | false => rw [(hf.off ho).2.1]; exact Nat.le_refl _
  | true => rw [(hf.onn ho).next]; exact (h.modOn hk ho).next

theorem Seq.next (h : Seq P call round ops ms σ ε) {k : Nat} : ∀ {j : Nat}, k ≤ j → j ≤ ops.size → (σ k).h.next ≤ (σ j).h.next := by
  intro j
  induction j with
  | zero => intro h1 _; have : k = 0 := by omega
            subst this; exact Nat.le_refl _
  | succ j ih =>
    intro h1 h2
    by_cases he : k = j + 1
    · subst he; exact Nat.le_refl _
    · exact Nat.le_trans (ih (by omega) (by omega)) (h.next1 (by omega))

theorem Seq.lo (h : Seq P call round ops ms σ ε) {k : Nat} (hk : k < ops.size) (ho : (ε k).on = true) : (ε k).r.lo = (σ k).h.next ∧ (ε k).r.hi = (σ (k + 1)).h.next := by
  obtain ⟨m, _, hf⟩ := h.getM hk
  exact ⟨(hf.onn ho).rlo, by rw [(hf.onn ho).rhi, (hf.onn ho).next]⟩

theorem Seq.recs (h : Seq P call round ops ms σ ε) : ∀ {k : Nat}, k ≤ ops.size → ∀ j, j < k → (ε j).on = true → (ε j).r ∈ (σ k).recs ∧ (ε j).r.i = j
  | 0, _, j, hj, _ => by omega
  | k + 1, hk, j, hj, ho => by
    obtain ⟨m, _, hf⟩ := h.getM (k := k) (by omega)
    by_cases he : j = k
    · subst he
      exact ⟨by rw [(hf.onn ho).recs]; exact List.mem_cons_self .., (hf.onn ho).ri⟩
    · obtain ⟨h1, h2⟩ := h.recs (k := k) (by omega) j (by omega) ho
      refine ⟨?_, h2⟩
      cases hk' : (ε k).on with
      | false => rw [(hf.off hk').2.2]; exact h1
      | true => rw [(hf.onn hk').recs]; exact List.mem_cons_of_mem _ h1

/-- what it has turned it saw, or it is new -/
theorem Seq.turned (h : Seq P call round ops ms σ ε) {k : Nat} (hk : k < ops.size) {b : Nat} (hb : (ε k).U b) : (ε k).V.get b ≠ none ∨ ((σ k).h.next ≤ b ∧ b < (σ (k + 1)).h.next) := by
  obtain ⟨ho, hb⟩ := hb
  obtain ⟨h1, h2⟩ := h.lo hk ho
  rw [h1, h2] at hb
  rcases hb with hb | hb
  · obtain ⟨l, l1, l2, l3⟩ := (h.modOn hk ho).log
    simp only [List.append_nil] at l1
    subst l1
    rcases l2 b hb with q | q
    · exact .inl q
    · obtain ⟨m, _, hf⟩ := h.getM hk
      rw [← (hf.onn ho).next] at q
      exact .inr q
  · exact .inr hb

theorem Seq.kept (h : Seq P call round ops ms σ ε) {k : Nat} (hk : k < ops.size) (ho : (ε k).on = true) {b : Nat} (hb : ¬ (ε k).U b) : (ε k).h1.heap.get b = (ε k).V.get b := by
  obtain ⟨l, l1, l2, l3⟩ := (h.modOn hk ho).log
  simp only [List.append_nil] at l1
  subst l1
  obtain ⟨h1, h2⟩ := h.lo hk ho
  obtain ⟨m, _, hf⟩ := h.getM hk
  refine l3 b ?_ fun q => hb ⟨ho, .inl q⟩
  rw [← (hf.onn ho).next, ← h2, ← h1]
  have : ¬ ((ε k).r.lo ≤ b ∧ b < (ε k).r.hi) := fun q => hb ⟨ho, .inr q⟩
  rw [h1] at this ⊢
  omega

theorem Seq.heap (h : Seq P call round ops ms σ ε) {k : Nat} (hk : k < ops.size) (b : Nat) : ((ε k).U b → (σ (k + 1)).h.heap.get b = (ε k).h1.heap.get b) ∧ (¬ (ε k).U b → (σ (k + 1)).h.heap.get b = (σ k).h.heap.get b) := by
  obtain ⟨m, _, hf⟩ := h.getM hk
  cases ho : (ε k).on with
  | false =>
    refine ⟨fun q => ?_, fun _ => by rw [(hf.off ho).2.1]⟩
    rw [q.1] at ho; cases ho
  | true =>
    have := (hf.onn ho).heap b
    refine ⟨fun q => ?_, fun q => ?_⟩
    · rw [this, if_pos q.2]
    · rw [this, if_neg fun c => q ⟨ho, c⟩]

/-- nothing stands where numbers are still to be given -/
theorem Seq.wf (h : Seq P call round ops ms σ ε) {top : Nat} (h0 : ∀ b, (σ 0).h.next ≤ b → b < top → (σ 0).h.heap.get b = none) : ∀ {k : Nat}, k ≤ ops.size → ∀ b, (σ k).h.next ≤ b → b < top → (σ k).h.heap.get b = none
  | 0, _, b, h1, h2 => h0 b h1 h2
  | k + 1, hk, b, h1, h2 => by
    have hn := h.next1 (k := k) (by omega)
    have ih := h.wf h0 (k := k) (by omega) b (by omega) h2
    by_cases hu : (ε k).U b
    · exfalso
      rcases h.turned (by omega) hu with q | q
      · obtain ⟨m, _, hf⟩ := h.getM (k := k) (by omega)
        cases hv : (ε k).V.get b with
        | none => exact q hv
        | some x => rw [(hf.onn hu.1).view b x hv] at ih; cases ih
      · omega
    · rw [(h.heap (by omega) b).2 hu]; exact ih

theorem Seq.apart (h : Seq P call round ops ms σ ε) {top : Nat} (h0 : ∀ b, (σ 0).h.next ≤ b → b < top → (σ 0).h.heap.get b = none) (htop : (σ ops.size).h.next ≤ top) {j k m : Nat} (hjk : j < k) (hk : k < ops.size) (hm : ms[k]? = some m) (hbit : m.testBit j = false)
    (hj1 : (ε j).on = true) (hk1 : (ε k).on = true) (b : Nat) : ((ε j).U b → (ε k).V.get b = none) ∧ ((ε k).U b → (ε j).V.get b = none) ∧ ¬ ((ε j).U b ∧ (ε k).U b) := by
  have hf := h.fact hk hm
  have F := hf.onn hk1
  obtain ⟨mj, _, hfj⟩ := h.getM (k := j) (by omega)
  have G := hfj.onn hj1
  obtain ⟨hrec, hri⟩ := h.recs (k := k) (by omega) j hjk hj1
  have ha := apartRs_spec F.apart _ hrec
  unfold apartR at ha
  rw [hri, hbit] at ha
  simp only [Bool.and_eq_true, List.all_eq_true] at ha
  obtain ⟨⟨c1, c2⟩, c3⟩ := ha
  have hlk := h.lo hk hk1
  have hlj := h.lo (k := j) (by omega) hj1
  have hnx := h.next (k := j + 1) (j := k) (by omega) (by omega)
  have hnx1 := h.next1 (k := j) (by omega)
  have hnk := h.next1 hk
  have hnt := h.next (k := k + 1) (j := ops.size) (by omega) (Nat.le_refl _)
  have a1 : (ε j).U b → (ε k).V.get b = none := by
    rintro ⟨_, hb⟩
    rcases F.kind with ⟨k1, k2, k3⟩ | ⟨k1, k2, k3⟩
    · rw [k1] at c1
      refine Classical.byContradiction fun hne => ?_
      have hrd := k2 b hne
      rcases hb with hb | hb
      · rw [G.rw] at c1; exact disj_spec c1 b hb hrd
      · have := c3 b hrd
        simp only [Bool.or_eq_true] at this
        rw [Nat.blt_eq] at this
        rcases this with q | q
        · omega
        · have := Nat.le_of_ble_eq_true q; omega
    · rw [k1] at c1
      refine Classical.byContradiction fun hne => ?_
      rcases hb with hb | hb
      · have := isNil_spec c1; rw [G.rw] at this; rw [this] at hb; cases hb
      · exact k2 b hne (hidden_mem.2 ⟨_, hrec, by rw [hri]; exact hbit, hb.1, by omega⟩)
  have a2 : (ε k).U b → (ε j).V.get b = none := by
    rintro ⟨_, hb⟩
    rcases hb with hb | hb
    · rcases G.kind with ⟨k1, k2, k3⟩ | ⟨k1, k2, k3⟩
      · rw [k1] at c2
        refine Classical.byContradiction fun hne => ?_
        rw [F.rw] at c2; exact disj_spec c2 b hb (k2 b hne)
      · rw [k1] at c2
        have := isNil_spec c2; rw [F.rw] at this; rw [this] at hb; cases hb
    · cases hv : (ε j).V.get b with
      | none => rfl
      | some x =>
        have h1 := G.view b x hv
        have h2 := h.wf h0 (k := j) (by omega) b (by omega) (by omega)
        rw [h2] at h1; cases h1
  refine ⟨a1, a2, fun ⟨u1, u2⟩ => ?_⟩
  rcases h.turned (by omega) u1 with q | q
  · exact q (a2 u2)
  · rcases h.turned hk u2 with q2 | q2
    · exact q2 (a1 u1)
    · omega
end
end Go.AV
