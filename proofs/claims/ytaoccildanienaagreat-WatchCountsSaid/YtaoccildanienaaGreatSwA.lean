/-
  A part of the proof: lemmas of my own.
-/
import Derived.Test.YtaoccildanienaaGreatSvA
import Derived.Test.YtaoccildanienaaGreatAvO
set_option linter.unusedVariables false
set_option linter.unusedSimpArgs false
namespace Go.AV

abbrev Live := List (Nat × Value)
abbrev Zone := List (Nat × AObj)
abbrev Nums := List (Nat × Nat)
/-- a way out, told -/
abbrev Out' := AExit × Live × Zone × Nat

section
variable {P : Program}

/-- from this state the code comes to one of these -/
def Wp (P : Program) (c : Code) (fr : Fr) (h : Hs) (R : AExit → Fr → Hs → Prop) : Prop :=
  ∀ ρ w a n F, RFence ρ none F → FRel ρ fr a → HRel ρ h.heap.get w → Fresh ρ h.next lim → h.next ≤ lim →
    c.wpIn F n P (fun e' a' w' => ∃ e fr' h', R e fr' h' ∧ h.next ≤ h'.next ∧ h'.next ≤ lim ∧ Post ρ h w e fr' h' e' a' w') a w

variable {c d : Code} {fr : Fr} {h : Hs} {R R' : AExit → Fr → Hs → Prop}

theorem Wp.mono (k : Wp P c fr h R) (hR : ∀ e fr' h', R e fr' h' → R' e fr' h') : Wp P c fr h R' := fun ρ w a n F hF hfr hh hf hl =>
  wpIn_mono (k ρ w a n F hF hfr hh hf hl) fun _ _ _ ⟨e, fr', h', h1, h2⟩ => ⟨e, fr', h', hR _ _ _ h1, h2⟩

theorem Wp.of_ex {e : AExit} {fr' : Fr} {h' : Hs} (k : Ex P none c fr h e fr' h') (hl : h'.next ≤ lim) (hR : R e fr' h') : Wp P c fr h R := fun ρ w a n F hF hfr hh hf _ =>
  wpIn_mono (k.2 ρ w a n F hF hfr hh (hf.sub (Nat.le_refl _) hl)) fun _ _ _ hp => ⟨e, fr', h', hR, k.1, hl, hp⟩

theorem Wp.skip (hR : R .normal fr h) : Wp P .skip fr h R := fun ρ w a n F _ h1 h2 _ hl => wpIn_skip ⟨_, fr, h, hR, Nat.le_refl _, hl, rfl, _, h1, h2, Step.refl _ _ _ _ _⟩
theorem Wp.label (l : Nat) (hR : R .normal fr h) : Wp P (.label l) fr h R := fun ρ w a n F _ h1 h2 _ hl => wpIn_label ⟨_, fr, h, hR, Nat.le_refl _, hl, rfl, _, h1, h2, Step.refl _ _ _ _ _⟩
theorem Wp.exit (i : Nat) (hR : R (.exit i) fr h) : Wp P (.exit i) fr h R := fun ρ w a n F _ h1 h2 _ hl => wpIn_exit ⟨_, fr, h, hR, Nat.le_refl _, hl, rfl, _, h1, h2, Step.refl _ _ _ _ _⟩
theorem Wp.goto (i : Nat) (hR : R (.goto i) fr h) : Wp P (.goto i) fr h R := fun ρ w a n F _ h1 h2 _ hl => wpIn_goto ⟨_, fr, h, hR, Nat.le_refl _, hl, rfl, _, h1, h2, Step.refl _ _ _ _ _⟩
theorem Wp.ret (hR : R .ret fr h) : Wp P .ret fr h R := fun ρ w a n F _ h1 h2 _ hl => wpIn_ret ⟨_, fr, h, hR, Nat.le_refl _, hl, rfl, _, h1, h2, Step.refl _ _ _ _ _⟩

theorem Wp.seq {R1 : AExit → Fr → Hs → Prop} (k1 : Wp P c fr h R1) (hn : ∀ fr1 h1, R1 .normal fr1 h1 → Wp P d fr1 h1 R) (hs : ∀ e fr1 h1, e ≠ .normal → R1 e fr1 h1 → R e fr1 h1) : Wp P (.seq c d) fr h R := by
  intro ρ w a n F hF hfr hh hf hl
  refine wpIn_seq (wpIn_mono (k1 ρ w a n F hF hfr hh hf hl) fun e1 a1 w1 hp => ?_)
  obtain ⟨e, fr1, h1, r1, m1, m2, hp⟩ := hp
  have he := hp.1
  subst he
  cases e with
  | normal =>
    obtain ⟨_, ρ1, x1, x2, x3⟩ := hp
    refine wpIn_mono (hn fr1 h1 r1 ρ1 w1 a1 n F (hF.mono x3.ext) x1 x2 (x3.fresh hf m1) m2) fun e2 a2 w2 hq => ?_
    obtain ⟨e, fr2, h2, r2, k1, k2, hq⟩ := hq
    exact ⟨e, fr2, h2, r2, Nat.le_trans m1 k1, k2, hq.1, Aft.trans x3 m1 k1 hq.2⟩
  | exit i => exact ⟨_, fr1, h1, hs _ _ _ (by simp) r1, m1, m2, hp⟩
  | goto l => exact ⟨_, fr1, h1, hs _ _ _ (by simp) r1, m1, m2, hp⟩
  | ret => exact ⟨_, fr1, h1, hs _ _ _ (by simp) r1, m1, m2, hp⟩

theorem Wp.cond {o : Operand} {a b : Code} {x : Bool} (hev : ev fr.tm o = some (.bool x)) (k : Wp P (if x then a else b) fr h R) : Wp P (.cond o a b) fr h R := by
  intro ρ w act n F hF hfr hh hf hl
  have hv := ev_sound hfr.tr hev
  generalize hx : act.eval _ = y at hv
  cases hv
  cases x with
  | true => exact wpIn_cond_true hx (k ρ w act n F hF hfr hh hf hl)
  | false => exact wpIn_cond_false hx (k ρ w act n F hF hfr hh hf hl)

theorem Wp.block {id : Nat} (k : Wp P c fr h fun e fr' h' => R (outOf id e) fr' h') : Wp P (.block id c) fr h R := by
  intro ρ w a n F hF hfr hh hf hl
  refine wpIn_block (wpIn_mono (k ρ w a n F hF hfr hh hf hl) fun e1 a1 w1 hp => ?_)
  obtain ⟨e, fr1, h1, r1, m1, m2, rfl, hp⟩ := hp
  cases e with
  | normal => exact ⟨_, fr1, h1, r1, m1, m2, rfl, hp⟩
  | goto l => exact ⟨_, fr1, h1, r1, m1, m2, rfl, hp⟩
  | ret => exact ⟨_, fr1, h1, r1, m1, m2, rfl, hp⟩
  | exit i =>
    simp only [outOf] at r1
    cases hb : Nat.beq i id with
    | true =>
      rw [hb] at r1
      have hi' := Nat.eq_of_beq_eq_true hb
      simp only [toExit, Exit.inBlock, hi', if_true]
      exact ⟨_, fr1, h1, r1, m1, m2, rfl, hp⟩
    | false =>
      rw [hb] at r1
      have hi' : ¬ i = id := Nat.ne_of_beq_eq_false hb
      simp only [toExit, Exit.inBlock, hi', if_false]
      exact ⟨_, fr1, h1, r1, m1, m2, rfl, hp⟩

theorem Wp.scope {b : Code} (k : Wp P b fr h fun e fr' h' => (∀ l, e ≠ .goto l) ∧ R e fr' h') : Wp P (.scope b) fr h R := by
  intro ρ w a n F hF hfr hh hf hl
  refine wpIn_scope_rounds 1 (wpIn_mono (k ρ w a n F hF hfr hh hf hl) fun e1 a1 w1 hp => ?_)
  obtain ⟨e, fr1, h1, ⟨hg, r1⟩, m1, m2, hp⟩ := hp
  have he := hp.1
  subst he
  cases e with
  | goto l => exact (hg l rfl).elim
  | normal => exact ⟨_, fr1, h1, r1, m1, m2, hp⟩
  | exit i => exact ⟨_, fr1, h1, r1, m1, m2, hp⟩
  | ret => exact ⟨_, fr1, h1, r1, m1, m2, hp⟩

/-! ### States told anew; old blocks may keep their numbers -/

structure WeakI (base : Nat) (fr1 : Fr) (h1 : Hs) (fr2 : Fr) (h2 : Hs) (σ : Nat → Option Nat) : Prop where
  n : fr2.n = fr1.n
  d1 : fr1.dfr = []
  d2 : fr2.dfr = []
  tm : ∀ t, rd fr2.tm t = junk ∨ renV σ (rd fr2.tm t) = some (rd fr1.tm t) ∨ (rd fr2.tm t = undef ∧ fr1.n ≤ t)
  hp : ∀ b o, h2.heap.get b = some o → ∃ c o1, σ b = some c ∧ h1.heap.get c = some o1 ∧ renO σ o = some o1
  inj : ∀ b b' c, σ b = some c → σ b' = some c → b = b'
  fz : ∀ b, lim ≤ b → σ b = some b
  lo : ∀ b c, b < lim → σ b = some c → (b < base ∧ c = b) ∨ (base ≤ b ∧ b < h2.next)
  nx : base ≤ h2.next ∧ h2.next ≤ lim

def ToldR (base : Nat) (ρ0 : Ren) (H0 : HF) (w0 : World) (fr : Fr) (h : Hs) (a : Act) (w : World) (ρ : Ren) : Prop :=
  FRel ρ fr a ∧ HRel ρ h.heap.get w ∧ StepC ρ0 H0 w0 ρ h.heap.get w ∧ (∀ b, lim ≤ b → ρ b = ρ0 b) ∧ (∀ b L, b < lim → ρ b = some L → (b < base ∧ ρ0 b = some L) ∨ (base ≤ b ∧ b < h.next)) ∧ base ≤ h.next ∧ h.next ≤ lim

def ToldI (base : Nat) (ρ0 : Ren) (H0 : HF) (w0 : World) (fr : Fr) (h : Hs) (a : Act) (w : World) : Prop := ∃ ρ, ToldR base ρ0 H0 w0 fr h a w ρ

theorem no_junk {σ : Nat → Option Nat} {u : Value} : renV σ u ≠ some junk := by
  intro h
  unfold junk at h
  cases u with
  | chan _ => simp [renV] at h
  | pointer p =>
    rcases p with _ | ⟨b, o, s⟩
    · simp [renV] at h
    · cases s <;> simp only [renV] at h <;> first | cases h | (split at h <;> cases h)
  | slice p n c =>
    rcases p with _ | ⟨b, o, s⟩
    · simp [renV] at h
    · cases s <;> simp only [renV] at h <;> first | cases h | (split at h <;> cases h)
  | map p => cases p <;> simp only [renV] at h <;> first | cases h | (split at h <;> cases h)
  | agg l => obtain ⟨l⟩ := l; simp only [renV] at h; split at h <;> cases h
  | tuple l => obtain ⟨l⟩ := l; simp only [renV] at h; split at h <;> cases h
  | func f x y =>
    obtain ⟨x⟩ := x; obtain ⟨y⟩ := y
    cases f <;> simp only [renV] at h <;> first | cases h | (split at h <;> first | cases h | (split at h <;> cases h))
  | _ => simp [renV] at h

theorem weakR_told {base : Nat} {ρ0 : Ren} {H0 : HF} {w0 : World} {fr1 fr2 : Fr} {h1 h2 : Hs} {σ : Nat → Option Nat} (hw : WeakI base fr1 h1 fr2 h2 σ) {ρ1 : Ren} {a : Act} {w : World}
    (x1 : FRel ρ1 fr1 a) (x2 : HRel ρ1 h1.heap.get w) (x3 : StepC ρ0 H0 w0 ρ1 h1.heap.get w) (x4 : ∀ b, lim ≤ b → ρ1 b = ρ0 b) (x5 : ∀ b L, b < base → ρ1 b = some L → ρ0 b = some L) : ToldR base ρ0 H0 w0 fr2 h2 a w (renR σ ρ1) := by
  refine ⟨⟨⟨by rw [hw.n]; exact x1.tr.1, fun t => ?_⟩, ?_⟩, ⟨fun b o hb => ?_, fun i j oi oj Li Lj hi hj hij ho hLi hLj => ?_⟩, x3.trans ?_, fun b hb => ?_, fun b L hb hL => ?_, hw.nx⟩
  · rcases hw.tm t with h | h | ⟨h, hn⟩
    · exact .inl h
    · rcases x1.tr.2 t with k | k
      · rw [k] at h
        exact (no_junk h).elim
      · exact .inr (renV_vr h k)
    · rw [h]
      have : a.tmps.getD t undef = undef := by
        rw [Array.getD_eq_getD_getElem?, Array.getElem?_eq_none (by rw [x1.tr.1]; exact hn)]; rfl
      rw [this]
      exact .inr .undef
  · have := x1.ds
    rw [hw.d1] at this
    rw [hw.d2]
    generalize a.defers = ds at this ⊢
    cases this
    exact .nil
  · obtain ⟨c, o1, hc, hb1, ho⟩ := hw.hp b o hb
    obtain ⟨L, x, hL, hx, hR⟩ := x2.obj c o1 hb1
    exact ⟨L, x, by unfold renR; rw [hc]; exact hL, hx, renO_or ho hR⟩
  · obtain ⟨ci, o1, hci, hi1, hoi⟩ := hw.hp i oi hi
    obtain ⟨cj, o2, hcj, hj1, hoj⟩ := hw.hp j oj hj
    unfold renR at hLi hLj
    rw [hci] at hLi
    rw [hcj] at hLj
    exact x2.inj ci cj o1 o2 Li Lj hi1 hj1 (fun e => hij (hw.inj i j ci hci (by rw [e]; exact hcj))) (by rw [renO_owned hoj]; exact ho) hLi hLj
  · refine ⟨rfl, rfl, rfl, Nat.le_refl _, fun _ _ _ => rfl, fun b o L hb ho hL => ?_, fun b o L hb hL => ?_⟩
    · obtain ⟨c, o1, hc, hb1, ho1⟩ := hw.hp b o hb
      unfold renR at hL
      rw [hc] at hL
      exact .inl ⟨c, o1, L, hb1, by rw [renO_owned ho1]; exact ho, hL, rfl⟩
    · obtain ⟨c, o1, hc, hb1, ho1⟩ := hw.hp b o hb
      unfold renR at hL
      rw [hc] at hL
      exact .inl ⟨c, o1, L, hb1, hL, rfl⟩
  · unfold renR
    rw [hw.fz b hb]
    exact x4 b hb
  · unfold renR at hL
    split at hL
    · rename_i c hc
      rcases hw.lo b c hb hc with ⟨q1, q2⟩ | q
      · subst q2; exact .inl ⟨q1, x5 c L q1 hL⟩
      · exact .inr q
    · cases hL

theorem weakI_told {base : Nat} {ρ0 : Ren} {H0 : HF} {w0 : World} {fr1 fr2 : Fr} {h1 h2 : Hs} {σ : Nat → Option Nat} (hw : WeakI base fr1 h1 fr2 h2 σ) {ρ1 : Ren} {a : Act} {w : World}
    (x1 : FRel ρ1 fr1 a) (x2 : HRel ρ1 h1.heap.get w) (x3 : StepC ρ0 H0 w0 ρ1 h1.heap.get w) (x4 : ∀ b, lim ≤ b → ρ1 b = ρ0 b) (x5 : ∀ b L, b < base → ρ1 b = some L → ρ0 b = some L) : ToldI base ρ0 H0 w0 fr2 h2 a w := ⟨_, weakR_told hw x1 x2 x3 x4 x5⟩

theorem toldR_post {base : Nat} {ρ0 : Ren} {h0 : Hs} {w0 : World} {fr : Fr} {h : Hs} {a : Act} {w : World} {ρ : Ren} (hb : base = h0.next) (hf : Fresh ρ0 h0.next lim) (ht : ToldR base ρ0 h0.heap.get w0 fr h a w ρ) : ∃ ρ', ρ.le ρ' ∧ FRel ρ' fr a ∧ HRel ρ' h.heap.get w ∧ Step ρ0 h0.heap.get w0 ρ' h.heap.get w h0.next h.next := by
  obtain ⟨x1, x2, x3, x4, x5, x6, x7⟩ := ht
  have hle : ρ.le (fun b => if base ≤ b ∧ b < h.next then ρ b else ρ0 b) := by
    intro b L hL
    by_cases hbl : b < lim
    · rcases x5 b L hbl hL with ⟨q1, q2⟩ | q
      · have hn : ¬ (base ≤ b ∧ b < h.next) := by omega
        simp only [if_neg hn]; exact q2
      · simp only [if_pos q]; exact hL
    · have hn : ¬ (base ≤ b ∧ b < h.next) := by omega
      simp only [if_neg hn]
      rw [← x4 b (by omega)]; exact hL
  refine ⟨_, hle, x1.mono hle, ⟨fun b o hbo => ?_, fun i j oi oj Li Lj hi hj hij ho hLi hLj => ?_⟩, ⟨x3.os, x3.tape, x3.output, x3.size, x3.same, fun b o L hbo ho hL => ?_, fun b o L hbo hL => ?_, fun b L hL => ?_, fun b hb' => ?_⟩⟩
  · obtain ⟨L, x, hL, hx, hR⟩ := x2.obj b o hbo
    exact ⟨L, x, hle _ _ hL, hx, hR.mono hle⟩
  · obtain ⟨Mi, _, hMi, _, _⟩ := x2.obj i oi hi
    obtain ⟨Mj, _, hMj, _, _⟩ := x2.obj j oj hj
    have e1 := (hle _ _ hMi).symm.trans hLi
    have e2 := (hle _ _ hMj).symm.trans hLj
    cases e1
    cases e2
    exact x2.inj i j oi oj Li Lj hi hj hij ho hMi hMj
  · obtain ⟨M, _, hM, _, _⟩ := x2.obj b o hbo
    have e1 := (hle _ _ hM).symm.trans hL
    cases e1
    exact x3.own b o L hbo ho hM
  · obtain ⟨M, _, hM, _, _⟩ := x2.obj b o hbo
    have e1 := (hle _ _ hM).symm.trans hL
    cases e1
    exact x3.any b o L hbo hM
  · have hn : ¬ (base ≤ b ∧ b < h.next) := fun hc => by
      have := hf b (by omega) (by omega)
      rw [this] at hL; cases hL
    simp only [if_neg hn]; exact hL
  · have hn : ¬ (base ≤ b ∧ b < h.next) := by omega
    simp only [if_neg hn]

theorem toldI_post {base : Nat} {ρ0 : Ren} {h0 : Hs} {w0 : World} {fr : Fr} {h : Hs} {a : Act} {w : World} (hb : base = h0.next) (hf : Fresh ρ0 h0.next lim) (ht : ToldI base ρ0 h0.heap.get w0 fr h a w) : Aft ρ0 h0 w0 fr h a w := by
  obtain ⟨ρ, ht⟩ := ht
  obtain ⟨ρ', _, h1, h2, h3⟩ := toldR_post hb hf ht
  exact ⟨ρ', h1, h2, h3⟩

/-- states told anew at the end -/
theorem Wp.tell {base : Nat} (hb : base = h.next) (k : Wp P c fr h fun e fr1 h1 => ∃ fr2 h2 σ, WeakI base fr1 h1 fr2 h2 σ ∧ R e fr2 h2) : Wp P c fr h R := by
  intro ρ w a n F hF hfr hh hf hl
  refine wpIn_mono (k ρ w a n F hF hfr hh hf hl) fun e1 a1 w1 hp => ?_
  obtain ⟨e, fr1, h1, ⟨fr2, h2, σ, hw, r⟩, m1, m2, he, ρ1, x1, x2, x3⟩ := hp
  refine ⟨e, fr2, h2, r, by have := hw.nx.1; omega, hw.nx.2, he, toldI_post hb hf (weakI_told hw x1 x2 x3.core (fun b hb' => x3.rng b (.inr (by omega))) fun b L hb' hL => ?_)⟩
  rw [← x3.rng b (.inl (by omega))]; exact hL

theorem Wp.loop {α : Type} {b : Code} (base : Nat) (I : α → Prop) (S : α → Fr × Hs) (μ : α → Nat)
    (step : ∀ x, I x → Wp P b (S x).1 (S x).2 fun e fr1 h1 => (e = .normal ∧ ∃ x' σ, WeakI base fr1 h1 (S x').1 (S x').2 σ ∧ I x' ∧ μ x' < μ x) ∨
      (e ≠ .normal ∧ ∃ fr2 h2 σ, WeakI base fr1 h1 fr2 h2 σ ∧ R e fr2 h2))
    {fr0 : Fr} {h0 : Hs} {x0 : α} {σ0 : Nat → Option Nat} (entry : WeakI base fr0 h0 (S x0).1 (S x0).2 σ0) (hI : I x0) (hb : base = h0.next) : Wp P (.loop b) fr0 h0 R := by
  intro ρ0 w0 a0 n F hF hfr hh hf hl
  refine wpIn_loop_rounds (μ x0 + 1) ?_
  cases hF
  have key : ∀ m x a w, μ x < m → I x → ToldI base ρ0 h0.heap.get w0 (S x).1 (S x).2 a w →
      Code.roundsIn Fence.wide n P b (fun e' a' w' => ∃ e fr' h', R e fr' h' ∧ h0.next ≤ h'.next ∧ h'.next ≤ lim ∧ Post ρ0 h0 w0 e fr' h' e' a' w') m a w := by
    intro m
    induction m with
    | zero => intro x a w h; omega
    | succ m ih =>
      intro x a w hm hIx ht
      obtain ⟨ρ, x1, x2, x3, x4, x5, x6, x7⟩ := ht
      rw [roundsIn_succ]
      have fresh : Fresh ρ (S x).2.next lim := fun c hc1 hc2 => by
        cases hc : ρ c with
        | none => rfl
        | some L =>
          rcases x5 c L hc2 hc with ⟨q, _⟩ | q <;> omega
      refine wpIn_mono (step x hIx ρ w a n Fence.wide rfl x1 x2 fresh x7) fun e1 a1 w1 hp => ?_
      obtain ⟨e, fr1, h1, r, m1, m2, he, ρ1, y1, y2, y3⟩ := hp
      have told : ∀ {fr2 : Fr} {h2 : Hs} {σ : Nat → Option Nat}, WeakI base fr1 h1 fr2 h2 σ → ToldI base ρ0 h0.heap.get w0 fr2 h2 a1 w1 := fun hw =>
        weakI_told hw y1 y2 (x3.trans y3.core) (fun c hc => (y3.rng c (.inr (by omega))).trans (x4 c hc)) fun c L hc hL => by
          rw [y3.rng c (.inl (by omega))] at hL
          rcases x5 c L (by omega) hL with ⟨_, q⟩ | q
          · exact q
          · omega
      rcases r with ⟨rfl, x', σ, k1, k2, k3⟩ | ⟨k0, fr2, h2, σ, k1, k2⟩
      · subst he
        exact ih x' a1 w1 (by omega) k2 (told k1)
      · have hpost : ∃ e fr' h', R e fr' h' ∧ h0.next ≤ h'.next ∧ h'.next ≤ lim ∧ Post ρ0 h0 w0 e fr' h' e1 a1 w1 := ⟨e, fr2, h2, k2, by have := k1.nx.1; omega, k1.nx.2, he, toldI_post hb hf (told k1)⟩
        subst he
        cases e with
        | normal => exact (k0 rfl).elim
        | exit i => exact hpost
        | goto l => exact hpost
        | ret => exact hpost
  exact key _ x0 a0 w0 (Nat.lt_succ_self _) hI (weakI_told entry hfr hh (StepC.refl _ _ _) (fun _ _ => rfl) fun _ _ _ h => h)

/-! ### What is owed where a state is told by lists -/

def inRangeI (base nx : Nat) : Nums → Bool
  | [] => true
  | (a, b) :: l => ((Nat.blt a base && Nat.beq a b) || (Nat.ble base a && Nat.blt a nx)) && inRangeI base nx l

def formI (base nx n : Nat) (σ : Nums) : Bool := inRangeI base nx σ && apart2 σ && Nat.ble base nx && Nat.ble nx lim && Nat.ble n 1000

def owesI (base nx n : Nat) (z : T AObj) (σ : Nums) (live : Live) (zone : Zone) (fr : Fr) (h : Hs) : List Prop :=
  (formI base nx n σ = true) :: (fr.n = n) :: (fr.dfr.isEmpty = true) :: (sub8 h.heap = z) :: (eqsV σ fr live ++ eqsO σ h zone)

theorem inRangeI_mem {lo hi : Nat} : ∀ {l : Nums}, inRangeI lo hi l = true → ∀ a b, (a, b) ∈ l → (a < lo ∧ b = a) ∨ (lo ≤ a ∧ a < hi)
  | (a0, b0) :: l, h, a, b, hm => by
    simp only [inRangeI, Bool.and_eq_true, Bool.or_eq_true] at h
    rcases List.mem_cons.1 hm with e | e
    · cases e
      rcases h.1 with ⟨q1, q2⟩ | ⟨q1, q2⟩
      · rw [Nat.blt_eq] at q1; exact .inl ⟨q1, (Nat.eq_of_beq_eq_true q2).symm⟩
      · rw [Nat.blt_eq] at q2; exact .inr ⟨Nat.le_of_ble_eq_true q1, q2⟩
    · exact inRangeI_mem h.2 a b e

theorem sig_hi {σ : Nums} {b : Nat} (hb : lim ≤ b) : sig σ b = some b := by
  unfold sig
  have : Nat.ble lim b = true := Nat.ble_eq_true_of_le hb
  rw [this]
theorem sig_lo {σ : Nums} {b : Nat} (hb : b < lim) : sig σ b = asc σ b := by
  unfold sig
  have : Nat.ble lim b = false := by
    cases hc : Nat.ble lim b with
    | false => rfl
    | true => have := Nat.le_of_ble_eq_true hc; omega
  rw [this]

theorem sig_inj {σ : Nums} (h : apart2 σ = true) {b b' c : Nat} (hb : sig σ b = some c) (hb' : sig σ b' = some c) : b = b' := by
  obtain ⟨s1, s2⟩ := apart2_mem h
  by_cases h1 : lim ≤ b
  · rw [sig_hi h1] at hb
    cases hb
    by_cases h2 : lim ≤ b'
    · rw [sig_hi h2] at hb'; cases hb'; rfl
    · rw [sig_lo (by omega)] at hb'
      have := s1 _ _ (asc_mem hb'); omega
  · rw [sig_lo (by omega)] at hb
    have hlt := s1 _ _ (asc_mem hb)
    by_cases h2 : lim ≤ b'
    · rw [sig_hi h2] at hb'; cases hb'; omega
    · rw [sig_lo (by omega)] at hb'
      exact s2 _ _ _ _ (asc_mem hb) (asc_mem hb') rfl

theorem full_hi (t : Nat) (ht : 1000 ≤ t) : rd (full 10) t = junk ∨ rd (full 10) t = undef := by
  have : ∀ d i, (full d).get i = some junk ∨ (full d).get i = none := by
    intro d
    induction d with
    | zero => intro i; exact .inr (T.get_leaf i)
    | succ d ih =>
      intro i
      cases i with
      | zero => exact .inl rfl
      | succ i =>
        rw [T.get_succ]
        unfold full
        simp only [T.lt, T.rt]
        split <;> exact ih _
  unfold rd
  rcases this 10 t with e | e
  · rw [e]; exact .inl rfl
  · rw [e]; exact .inr rfl

theorem weakI_of {base nx n : Nat} {z : T AObj} (hz : FrzZ z) {σ : Nums} {live : Live} {zone : Zone} {fr : Fr} {h : Hs} (hp : AllP (owesI base nx n z σ live zone fr h)) :
    WeakI base fr h (mkFr n live) (mkHs z zone nx) (sig σ) := by
  obtain ⟨p1, p2, p3, p5, p6⟩ := hp
  obtain ⟨q1, q2⟩ := AllP.append p6
  unfold formI at p1
  simp only [Bool.and_eq_true] at p1
  obtain ⟨⟨⟨⟨r1, r2⟩, r3⟩, r4⟩, r5⟩ := p1
  have r3 := Nat.le_of_ble_eq_true r3
  have r4 := Nat.le_of_ble_eq_true r4
  have r5 := Nat.le_of_ble_eq_true r5
  refine ⟨p2.symm, by simpa using p3, rfl, fun t => ?_, fun b o hb => ?_, fun b b' c hb hb' => sig_inj r2 hb hb', fun b hb => sig_hi hb, fun b c hb hc => ?_, ⟨r3, r4⟩⟩
  · unfold mkFr
    simp only
    rw [rd_setL]
    split
    · rename_i v hv
      exact .inr (.inl (eqsV_mem q1 _ _ (asc_mem hv)))
    · by_cases ht : t < 1000
      · refine .inl ?_
        unfold rd
        rw [full_get 10 t (by simp; omega)]
      · rcases full_hi t (by omega) with e | e
        · exact .inl e
        · exact .inr (.inr ⟨e, by omega⟩)
  · unfold mkHs at hb
    simp only at hb
    rw [get_setO] at hb
    split at hb
    · rename_i v hv
      cases hb
      obtain ⟨c, o1, k1, k2, k3⟩ := eqsO_mem q2 _ _ (asc_mem hv)
      have := inRangeI_mem r1 _ _ (asc_mem k1)
      have hbl : b < lim := by
        rcases this with ⟨t1, t2⟩ | ⟨_, t2⟩ <;> omega
      exact ⟨c, o1, (sig_lo hbl).trans k1, k2, k3⟩
    · obtain ⟨k, rfl, hk⟩ := get_root8 hb
      refine ⟨256 * k + 510, o, sig_hi (by unfold lim; omega), (get_fid _ _).trans (by rw [p5]; exact hk), hz k o hk _⟩
  · rw [sig_lo hb] at hc
    exact inRangeI_mem r1 _ _ (asc_mem hc)

end
end Go.AV

namespace Go.AV

inductive AnX where
  | grow (n : Nat) (new : List Value)
  | del (r : Option (Nat × Value)) (es : List MapEntry)
  | upd (i : Nat) (v : Value) (es : List MapEntry)
  | bin (v : Value)

def roomC (i : TypeInfo) : Bool := match i.zero with
  | some z => Nat.beq (vcells z).length i.size && Nat.blt 0 i.bytes && Nat.ble i.bytes 1048576
  | none => false

section
variable (P : Program)

def growX (tm : Tm) (h : Hs) (o : Oper) (n : Nat) (new : List Value) : Option (Res × List Prop) := match o.op with
  | .call c => match c.callee with
    | .builtin .append => match evs tm c.args.toList, c.argTypes.toList with
      | some [s, x], [st, xt] => match P.underlying st, P.underlying xt with
        | some (.slice e), some xd => match xd, P.info? e with
          | .int _, _ => none
          | _, some i => match lenV x, s with
            | some m, .slice (some ⟨b, 0, none⟩) len cap => match h.heap.get b with
              | some (.blk k) => match k.exact, k.own, k.frz, roomC i && (Nat.beq m n && (Nat.blt 0 n && (Nat.beq new.length (n * i.size) && (Nat.beq k.esz i.size && (Nat.beq k.elem e && allCells new))))) with
                | false, true, 0, true => some (.val (.slice (some ⟨h.next, 0, none⟩) (len + n) (len + n))
                    { heap := (h.heap.del b).set h.next (.blk { cells := k.cells ++ new, cap := (len + n) * i.size, esz := i.size, elem := e, exact := false, whole := false, frz := 0, own := true }), next := h.next + 1, log := b :: h.log },
                    [firstC h i.size n x = some new, cap = len, k.cells.length = len * i.size, k.cap = len * i.size, len + n ≤ 1048576])
                | _, _, _, _ => none
              | _ => none
            | _, _ => none
          | _, _ => none
        | _, _ => none
      | _, _ => none
    | _ => none
  | _ => none

def delX (tm : Tm) (h : Hs) (o : Oper) (r : Option (Nat × Value)) (es' : List MapEntry) : Option (Res × List Prop) := match o.op with
  | .call c => match c.callee with
    | .builtin .delete => match evs tm c.args.toList, c.argTypes.toList with
      | some [m, k], t :: _ => match P.underlying t, m with
        | some (.map kt _), .map (some b) => match akey P kt k, h.heap.get b with
          | true, some (.map es c) => match r with
            | some (i, v) => some (.val (.tuple #[]) { h with heap := h.heap.set b (.map es' c), log := b :: h.log }, [findE P kt k es 0 = some (some (i, v)), dropAt i es = es'])
            | none => some (.val (.tuple #[]) h, [findE P kt k es 0 = some none])
          | _, _ => none
        | _, _ => none
      | _, _ => none
    | _ => none
  | _ => none

def updX (tm : Tm) (h : Hs) (o : Oper) (i : Nat) (v : Value) (es' : List MapEntry) : Option (Res × List Prop) := match o.op with
  | .mapUpdate t m x u => match P.underlying t, ev tm m, ev tm x, ev tm u with
    | some (.map kt _), some (.map (some b)), some k, some u => match akey P kt k, h.heap.get b with
      | true, some (.map es c) => some (.skip { h with heap := h.heap.set b (.map es' c), log := b :: h.log },
          [findE P kt k es 0 = some (some (i, v)), (match nth es i with | some e => (plainV e.key && Instr.sameBits 10000 e.key k) = true | none => False), setKV i k u es = es'])
      | _, _ => none
    | _, _, _, _ => none
  | _ => none

def binP (op : BinOp) (xt : TypeId) (x y : Operand) (a b v : Value) : Prop := prun P (do eqGuard op xt x y a b; binOp op xt a b) = some v

def binX (tm : Tm) (h : Hs) (o : Oper) (v : Value) : Option (Res × List Prop) := match o.op with
  | .binOp op xt x y _ => match ev tm x, ev tm y with
    | some a, some b => match plainV a, plainV b, plainV v with
      | true, true, true => some (.val v h, [binP P op xt x y a b v])
      | _, _, _ => none
    | _, _ => none
  | _ => none

def opX (tm : Tm) (h : Hs) (o : Oper) (a : AnX) : Option (Res × List Prop) := match a with
  | .grow n new => growX P tm h o n new
  | .del r es => delX P tm h o r es
  | .upd i v es => updX P tm h o i v es
  | .bin v => binX P tm h o v

def asksX : Op → Bool
  | .call { callee := .builtin .delete, .. } => true
  | _ => false

end

theorem takeN_all {α : Type} : ∀ (l : List α), takeN l.length l = some l
  | [] => rfl
  | a :: l => by show (match takeN l.length l with | some r => some (a :: r) | none => none) = _; rw [takeN_all l]

section
variable {P : Program} {tm : Tm} {h : Hs} {o : Oper}

theorem roomC_ok {i : TypeInfo} {n : Nat} (hc : roomC i = true) (hn : n ≤ 1048576) : roomOk i n = true := by
  unfold roomC at hc
  unfold roomOk
  split at hc
  · rename_i z hz
    rw [hz]
    simp only [Bool.and_eq_true] at hc ⊢
    obtain ⟨⟨h1, h2⟩, h3⟩ := hc
    refine ⟨⟨⟨⟨h1, ?_⟩, ?_⟩, h2⟩, h3⟩
    · refine Nat.ble_eq_true_of_le ?_
      have := Nat.le_of_ble_eq_true h3
      calc n * i.bytes ≤ 1048576 * 1048576 := Nat.mul_le_mul hn this
        _ ≤ big := by decide
    · exact Nat.ble_eq_true_of_le (Nat.le_trans hn (by decide))
  · cases hc

theorem growX_ok {n : Nat} {new : List Value} {r : Res} {ps : List Prop} (hr : growX P tm h o n new = some (r, ps)) (hp : AllP ps) : aop P tm h o = some r := by
  unfold growX at hr
  split at hr
  · rename_i c ho
    split at hr
    · rename_i hcal
      split at hr
      · rename_i s x st xt he hat
        split at hr
        · rename_i e xd hu hxu
          split at hr
          · cases hr
          · rename_i _ i hnot hi
            split at hr
            · rename_i m b len cap hm
              split at hr
              · rename_i k hk
                split at hr
                · rename_i e1 e2 e3 e4
                  cases hr
                  simp only [Bool.and_eq_true] at e4
                  obtain ⟨r1, r2, r3, r4, r5, r6, r7⟩ := e4
                  obtain ⟨p1, p2, p3, p4, p5, _⟩ := hp
                  have r2 := Nat.eq_of_beq_eq_true r2
                  have r3 : 0 < n := by rw [Nat.blt_eq] at r3; exact r3
                  subst r2 p2
                  have hle : Nat.ble (cap + m) cap = false := by
                    cases hb : Nat.ble (cap + m) cap with
                    | false => rfl
                    | true => have := Nat.le_of_ble_eq_true hb; omega
                  have hroom := roomC_ok r1 p5
                  have htk : takeN (cap * i.size) (dropN 0 k.cells) = some k.cells := by
                    rw [← p3]; exact takeN_all _
                  have hcp : Nat.beq (0 + cap * i.size) k.cap = true := by rw [p4, Nat.zero_add]; exact Nat.beq_refl _
                  unfold aop
                  simp only [ho]
                  unfold acall
                  simp only [he, hcal, hat]
                  show aappend P h [st, xt] _ x = _
                  unfold aappend
                  simp only [hu, hxu, hi]
                  rename TypeDesc => y
                  cases y <;> first
                    | exact (hnot _ rfl).elim
                    | simp only [hm, p1, hle, hroom, r4, hk, htk, e1, e2, e3, hcp, r5, r6, r7, Bool.and_self]
                · cases hr
              · cases hr
            · cases hr
          · cases hr
        · cases hr
      · cases hr
    · cases hr
  · cases hr

theorem delX_ok {r0 : Option (Nat × Value)} {es' : List MapEntry} {r : Res} {ps : List Prop} (hr : delX P tm h o r0 es' = some (r, ps)) (hp : AllP ps) : aop P tm h o = some r := by
  unfold delX at hr
  split at hr
  · rename_i c ho
    split at hr
    · rename_i hcal
      split at hr
      · rename_i m k t ats he hat
        split at hr
        · rename_i kt vt b hu
          split at hr
          · rename_i es cc hk hb
            unfold aop
            simp only [ho]
            unfold acall
            simp only [he, hcal, hat]
            split at hr
            · cases hr
              obtain ⟨p1, p2, _⟩ := hp
              subst p2
              simp only [abuiltin, hu, hk, hb, p1]
            · cases hr
              obtain ⟨p1, _⟩ := hp
              simp only [abuiltin, hu, hk, hb, p1]
          · cases hr
        · cases hr
      · cases hr
    · cases hr
  · cases hr

theorem updX_ok {i : Nat} {v : Value} {es' : List MapEntry} {r : Res} {ps : List Prop} (hr : updX P tm h o i v es' = some (r, ps)) (hp : AllP ps) : aop P tm h o = some r := by
  unfold updX at hr
  split at hr
  · rename_i t m x u ho
    split at hr
    · rename_i kt vt b k u0 hu hm hx hv
      split at hr
      · rename_i es cc hk hb
        cases hr
        obtain ⟨p1, p2, p3, _⟩ := hp
        subst p3
        split at p2
        · rename_i e hn
          unfold aop
          simp only [ho, hm, hx, hv, opt3]
          unfold amapUpdate
          simp only [hu, hk, hb, p1, hn, p2]
        · exact p2.elim
      · cases hr
    · cases hr
  · cases hr

theorem binX_ok {v : Value} {r : Res} {ps : List Prop} (hr : binX P tm h o v = some (r, ps)) (hp : AllP ps) : aop P tm h o = some r := by
  unfold binX at hr
  split at hr
  · rename_i op xt x y _ ho
    split at hr
    · rename_i a b ha hb
      split at hr
      · rename_i e1 e2 e3
        cases hr
        obtain ⟨p1, _⟩ := hp
        unfold binP at p1
        unfold aop
        simp only [ho, ha, hb, opt2]
        unfold abinop
        simp only [e1, e2]
        unfold prunV
        simp only [p1, e3]
      · cases hr
    · cases hr
  · cases hr

theorem opX_ok {a : AnX} {r : Res} {ps : List Prop} (hr : opX P tm h o a = some (r, ps)) (hp : AllP ps) : aop P tm h o = some r := by
  cases a with
  | grow n new => exact growX_ok hr hp
  | del r es => exact delX_ok hr hp
  | upd i v es => exact updX_ok hr hp
  | bin v => exact binX_ok hr hp

end
end Go.AV

namespace Go.AV

/-- a call as the called function tells it -/
structure Cm where
  args : List Value
  zone : Zone
  nx : Nat
  nx' : Nat
  τ : Nums
  σ' : Nums
  hn : Nat

mutual
inductive Tr : Type 1 where
  | fin (σ : Nums) (live : Live) (zone : Zone) (nx : Nat)
  | ret (σ : Nums) (v : Value) (zone : Zone) (nx : Nat)
  | auto (n : Nat) (t : Tr)
  | one (a : An) (t : Tr)
  | fork (t f : Tr)
  | x (a : AnX) (t : Tr)
  | find (α : Type) (F : α → Nat × Value) (f : α → Tr) (t : Tr)
  | lp (base n : Nat) (σ : Nums) (live : Live) (zone : Zone) (nx : Nat) (l : Al)
  | cm (c : Cm) (α : Type) (φ : α → Prop) (v : α → Value) (zo : α → Zone) (vC : α → Value) (zC : α → Zone) (k : α → Tr)
inductive Al : Type 1 where
  | nil
  | cons (α : Type) (φ : α → Prop) (F : α → Out') (k : α → Tr) (l : Al)
end

/-- the ways out that a loop's answer tells of -/
def Al.R : Al → Out' → Prop
  | .nil, _ => False
  | .cons _ φ F _ l, o => (∃ x, φ x ∧ o = F x) ∨ Al.R l o

def dec (n : Nat) (t : Tr) : Tr := match n with | 0 => t | m + 1 => .auto (m + 1) t

def Stuck (_n : Nat) : Prop := False

def andL : List Prop → Prop → Prop
  | [], q => q
  | p :: l, q => p ∧ andL l q

theorem andL_iff : ∀ {l : List Prop} {q : Prop}, andL l q ↔ AllP l ∧ q
  | [], q => by simp [andL, AllP]
  | p :: l, q => by simp [andL, AllP, andL_iff (l := l), and_assoc]

/-- from whatever state that can be told as the first one, the loop comes to one of these -/
def LoopA (P : Program) (z : T AObj) (b : Code) (base n : Nat) (live : Live) (zone : Zone) (nx : Nat) (R : Out' → Prop) : Prop :=
  ∀ fr0 h0 σ0, base = h0.next → WeakI base fr0 h0 (mkFr n live) (mkHs z zone nx) σ0 → Wp P (.loop b) fr0 h0 fun e fr h => ∃ o, R o ∧ e = o.1 ∧ fr = mkFr n o.2.1 ∧ h = mkHs z o.2.2.1 o.2.2.2

/-- a call in a memory that holds this comes back with one of these -/
def CallA (P : Program) (z : T AObj) (f : Nat) (args : List Value) (zone : Zone) (nx nx' : Nat) {α : Type} (φ : α → Prop) (v : α → Value) (zo : α → Zone) : Prop :=
  nx ≤ nx' ∧ nx' ≤ lim ∧ (∀ x, φ x → ∀ b o, (b, o) ∈ zo x → b < lim) ∧ ∀ ρ w args' n, VRs ρ args args' → HRel ρ (mkHs z zone nx).heap.get w → Fresh ρ nx lim →
    CallsIn Fence.wide n P f ⟨args'⟩ w fun e w' => ∃ x, φ x ∧ Got ρ (mkHs z zone nx) w (v x) (mkHs z (zo x) nx') e w'

def fsts : Nums → List Nat
  | [] => []
  | (a, _) :: l => a :: fsts l
def snds : Nums → List Nat
  | [] => []
  | (_, b) :: l => b :: snds l
def keys {α : Type} : List (Nat × α) → List Nat
  | [] => []
  | (a, _) :: l => a :: keys l

/-- the numbers of a call: τ from the called function's to the caller's, for what is passed; σ' back, with what is new -/
def backOk (c : Cm) (nx : Nat) : Nums → Bool
  | [] => true
  | (a, b) :: l => ((Nat.blt b c.nx && Nat.blt a nx && (match asc c.τ b with | some d => Nat.beq d a | none => false)) || (Nat.ble c.nx b && Nat.blt b c.nx' && Nat.ble nx a && Nat.blt a c.hn)) && backOk c nx l
def belowN (n : Nat) : List Nat → Bool
  | [] => true
  | a :: l => Nat.blt a n && belowN n l
def formC (c : Cm) (nx : Nat) : Bool := apart2 c.τ && belowN c.nx (fsts c.τ) && apart2 c.σ' && backOk c nx c.σ' && Nat.ble nx c.hn && Nat.ble c.hn lim && Nat.ble c.nx lim

def eqsC (σ' : Nums) (zo : Zone) : Zone → List Prop
  | [] => []
  | (b, o) :: l => (match asc σ' b with
    | some c => match asc zo c with
      | some o1 => renO (sig σ') o = some o1
      | none => False
    | none => False) :: eqsC σ' zo l

/-- the memory after a call: what was passed is replaced -/
def aftC (h : Hs) (c : Cm) (zC : Zone) : Hs := { heap := putL (delAll h.heap (snds c.τ)) zC, next := c.hn, log := [] }

section
variable (P : Program) (g : Nat → List Value → Option Value) (z : T AObj)

def guardT (ops : Array Oper) (tm : Tm) (o : Oper) (t : Tr) (k : Bool → Tr → Prop) : Prop := match o.guard with
  | none => k true t
  | some (j, w) => match (nth ops.toList j).bind (·.dst) with
    | some d => match rd tm d with
      | .bool b => match t with
        | .auto n t => match n with
          | 0 => Stuck 1
          | m + 1 => k (b == w) (dec m t)
        | .fork t1 t2 => (b = true → k (true == w) t1) ∧ (b = false → k (false == w) t2)
        | .one a t => match a with
          | .bool x => b = x ∧ k (x == w) t
          | _ => Stuck 50
        | _ => Stuck 2
      | .tuple _ => k false t
      | _ => Stuck 3
    | none => k false t

def forkOp (tm : Tm) (h : Hs) (o : Oper) (t1 t2 : Tr) (k : Res → Tr → Prop) : Prop := match o.op with
  | .pick c a b => match ev tm c with
    | some (.bool y) => (y = true → match ev tm a with | some v => k (.val v h) t1 | none => Stuck 4) ∧ (y = false → match ev tm b with | some v => k (.val v h) t2 | none => Stuck 5)
    | _ => Stuck 6
  | _ => match aop P tm h o with
    | some (.val (.bool b) h') => (b = true → k (.val (.bool true) h') t1) ∧ (b = false → k (.val (.bool false) h') t2)
    | _ => Stuck 7

def findOp (tm : Tm) (h : Hs) (o : Oper) (α : Type) (F : α → Nat × Value) (f : α → Tr) (t : Tr) (k : Res → Tr → Prop) : Prop := match o.op with
  | .lookup t0 m x ok => match P.underlying t0, ev tm m, ev tm x with
    | some (.map kt e), some (.map (some blk)), some key => match h.heap.get blk, akey P kt key, lookRes P t0 e ok none h with
      | some (.map es _), true, some res => findE P kt key es 0 ≠ none ∧
        (∀ p, findE P kt key es 0 = some (some p) → ∃ x, p = F x) ∧
        (∀ x, findE P kt key es 0 = some (some (F x)) → k (.val (match ok with | true => .tuple #[(F x).2, .bool true] | false => (F x).2) h) (f x)) ∧ (findE P kt key es 0 = some none → k res t)
      | _, _, _ => Stuck 8
    | _, _, _ => Stuck 9
  | _ => Stuck 10

def asksB (o : Op) : Bool := match asks o with | true => true | false => asksX o

def opT (tm : Tm) (h : Hs) (o : Oper) (t : Tr) (k : Res → Tr → Prop) : Prop := match asksB o.op with
  | false => match aop P tm h o with | some r => k r t | none => Stuck 11
  | true => match t with
    | .x a t => match opX P tm h o a with
      | some (r, ps) => andL ps (k r t)
      | none => Stuck 60
    | .auto n t => match n with
      | 0 => Stuck 12
      | m + 1 => match aop P tm h o with | some r => k r (dec m t) | none => Stuck 13
    | .one a t => match opS P tm h o [a] [] with
      | .ok r _ ps => andL ps (k r t)
      | _ => Stuck 14
    | .fork t1 t2 => forkOp P tm h o t1 t2 k
    | .find α F f t => findOp P tm h o α F f t k
    | _ => Stuck 15

def callW' (f : Nat) (args : List Value) (h : Hs) (t : Tr) (k : Value → Hs → Tr → Prop) : Prop := match t with
  | .one a t => match callT P g z f args h [a] [] with
    | .ok v _ ps => andL ps (k v h t)
    | _ => Stuck 16
  | .cm c α φ v zo vC zC kk => match formC c h.next with
    | true => sub8 h.heap = z ∧ CallA P z f c.args c.zone c.nx c.nx' φ v zo ∧ renL (sig c.τ) c.args = some args ∧
      andL (eqsO c.τ h c.zone) (∀ x, φ x → renV (sig c.σ') (vC x) = some (v x) ∧ andL (eqsC c.σ' (zo x) (zC x)) (k (vC x) { aftC h c (zC x) with log := snds c.τ ++ h.log } (kk x)))
    | false => Stuck 17
  | _ => Stuck 18

def small (h : Hs) (p : Prop) : Prop := match Nat.ble h.next lim with | true => p | false => Stuck 19

def opsT (ops : Array Oper) : List Oper → Fr → Hs → (Fr → Hs → Tr → Prop) → Tr → Prop
  | [], fr, h, K, t => K fr h t
  | o :: r, fr, h, K, t => guardT ops fr.tm o t fun b t => match b with
    | false => match fr.put o.dst undef with
      | some fr => opsT ops r fr h K t
      | none => Stuck 20
    | true => opT P fr.tm h o t fun res t => match res with
      | .val v h => match fr.put o.dst v with
        | some fr => small h (opsT ops r fr h K t)
        | none => Stuck 21
      | .skip h => match fr.put o.dst undef with
        | some fr => small h (opsT ops r fr h K t)
        | none => Stuck 22
      | .call f args => callW' P g z f args h t fun v h t => match fr.put o.dst v with
        | some fr => opsT ops r fr h K t
        | none => Stuck 23
      | _ => Stuck 24

/-- an operation in a region that draws its order -/
def stepT (mask i : Nat) (recs : List Rec) (tm : Tm) (h : Hs) (o : Oper) (t : Tr) (k : Value → Hs → Rec → Tr → Prop) : Prop := match asksB o.op with
  | false => match stepD P mask i recs tm h o with | some (v, h, r) => k v h r t | none => Stuck 25
  | true => match t with
    | .x a t => match opX P tm (viewS h (touches tm h o)) o a with
      | some (.val v h', ps) => match stepD.fin mask i recs h (touches tm h o) v h' with | some (v, h, r) => andL ps (k v h r t) | none => Stuck 61
      | some (.skip h', ps) => match stepD.fin mask i recs h (touches tm h o) undef h' with | some (v, h, r) => andL ps (k v h r t) | none => Stuck 62
      | _ => Stuck 63
    | .auto n t => match n with
      | 0 => Stuck 26
      | m + 1 => match stepD P mask i recs tm h o with | some (v, h, r) => k v h r (dec m t) | none => Stuck 27
    | .one a t => match stepS P mask i recs tm h o [a] [] with
      | .ok (v, h, r) _ ps => andL ps (k v h r t)
      | _ => Stuck 28
    | .fork t1 t2 => match stepD P mask i recs tm h o with
      | some (.bool b, h, r) => (b = true → k (.bool true) h r t1) ∧ (b = false → k (.bool false) h r t2)
      | _ => Stuck 29
    | _ => Stuck 30

def drawT (ops : Array Oper) : List Oper → Nat → List Nat → List Rec → Fr → Hs → (Fr → Hs → Tr → Prop) → Tr → Prop
  | [], _, _, _, fr, h, K, t => small h (K fr h t)
  | o :: r, i, m :: ms, recs, fr, h, K, t => guardT ops fr.tm o t fun b t => match b with
    | false => match fr.put o.dst undef with
      | some fr => drawT ops r (i + 1) ms recs fr h K t
      | none => Stuck 31
    | true => match isGoCall o with
      | true => match isCallRes (aop P fr.tm { heap := .leaf, next := 0, log := [] } o) with
        | some (true, f, args) => match t with
          | .one a t => match callS g z f args h [a] [] with
            | .ok v _ ps => match hidden m recs, apartRs m { i, all := true, reads := [], writes := [], lo := h.next, hi := h.next } recs, fr.put o.dst v with
              | [], true, some fr => andL ps (drawT ops r (i + 1) ms ({ i, all := true, reads := [], writes := [], lo := h.next, hi := h.next } :: recs) fr h K t)
              | _, _, _ => Stuck 32
            | _ => Stuck 33
          | _ => Stuck 34
        | _ => Stuck 35
      | false => stepT P m i recs fr.tm h o t fun v h rc t => match fr.put o.dst v with
        | some fr => drawT ops r (i + 1) ms (rc :: recs) fr h K t
        | none => Stuck 36
  | _ :: _, _, [], _, _, _, _, _ => Stuck 37

def regT (ops : Array Oper) (draw : Bool) (fr : Fr) (h : Hs) (K : Fr → Hs → Tr → Prop) (t : Tr) : Prop := match draw with
  | false => opsT P g z ops ops.toList fr h K t
  | true => match planOf ops with
    | some ms => drawT P g z ops ops.toList 0 ms [] fr h K t
    | none => Stuck 38

def altsT (k : Out' → Tr → Prop) : Al → Prop
  | .nil => True
  | .cons _ φ F kk .nil => ∀ x, φ x → k (F x) (kk x)
  | .cons _ φ F kk l => (∀ x, φ x → k (F x) (kk x)) ∧ altsT k l

def codeT : Nat → Code → Fr → Hs → (AExit → Fr → Hs → Tr → Prop) → Tr → Prop
  | 0, _, _, _, _, _ => Stuck 39
  | n + 1, c, fr, h, K, t => match c with
    | .skip | .label _ => K .normal fr h t
    | .exit id => K (.exit id) fr h t
    | .goto x => K (.goto x) fr h t
    | .ret => K .ret fr h t
    | .seq a b => codeT n a fr h (fun e fr h t => match e with
      | .normal => codeT n b fr h K t
      | .exit i => K (.exit i) fr h t
      | .goto i => K (.goto i) fr h t
      | .ret => K .ret fr h t) t
    | .cond c a b => match ev fr.tm c with
      | some (.bool y) => match t with
        | .auto m t => match m with
          | 0 => Stuck 40
          | m + 1 => match y with
            | true => codeT n a fr h K (dec m t)
            | false => codeT n b fr h K (dec m t)
        | .fork t1 t2 => (y = true → codeT n a fr h K t1) ∧ (y = false → codeT n b fr h K t2)
        | .one x t => match x with
          | .bool true => y = true ∧ codeT n a fr h K t
          | .bool false => y = false ∧ codeT n b fr h K t
          | _ => Stuck 51
        | _ => Stuck 41
      | _ => Stuck 42
    | .block id b => codeT n b fr h (fun e fr h t => match e with
      | .normal => K .normal fr h t
      | .exit i => match Nat.beq i id with
        | true => K .normal fr h t
        | false => K (.exit i) fr h t
      | .goto i => K (.goto i) fr h t
      | .ret => K .ret fr h t) t
    | .region _ ops draw => regT P g z ops draw fr h (K .normal) t
    | .loop b => match t with
      | .lp base m σ live zone nx l => base = h.next ∧ LoopA P z b base m live zone nx (Al.R l) ∧ andL (owesI base nx m z σ live zone fr h)
          (altsT (fun o t => match o with | (e, live', zone', nx') => match Nat.ble base nx' && Nat.ble nx' lim with | true => K e (mkFr m live') (mkHs z zone' nx') t | false => Stuck 43) l)
      | _ => Stuck 44
    | .scope b => codeT n b fr h (fun e fr h t => match e with
      | .goto _ => Stuck 45
      | .normal => K .normal fr h t
      | .exit i => K (.exit i) fr h t
      | .ret => K .ret fr h t) t
    | _ => Stuck 46

/-- a round's end -/
def finK (base n : Nat) (Q : AExit → Live → Zone → Nat → Prop) (e : AExit) (fr : Fr) (h : Hs) : Tr → Prop
  | .fin σ live zone nx => andL (owesI base nx n z σ live zone fr h) (Q e live zone nx)
  | _ => Stuck 47

/-- a function's end -/
def retK (base : Nat) (fn : Func) (Q : Value → Zone → Nat → Prop) (e : AExit) (fr : Fr) (h : Hs) : Tr → Prop
  | .ret σ v zone nx => match (match e with | .normal | .ret => true | _ => false), fr.dfr, resultsA P fr.tm h fn.results.toList with
    | true, [], some vs => andL (owesI base nx fr.n z σ [] zone fr h) (renV (sig σ) v = some (oneA vs) ∧ Q v zone nx)
    | _, _, _ => Stuck 48
  | _ => Stuck 49

end
end Go.AV

namespace Go.AV

section
variable {P : Program} {g : Nat → List Value → Option Value} {z : T AObj}

theorem guardT_ok {ops : Array Oper} {tm : Tm} {o : Oper} {t : Tr} {k : Bool → Tr → Prop} (hk : guardT ops tm o t k) : ∃ b t', wantedB ops tm o = some b ∧ k b t' := by
  unfold guardT at hk
  unfold wantedB
  split at hk
  · rename_i hg
    simp only [hg]
    exact ⟨_, _, rfl, hk⟩
  · rename_i j w hg
    simp only [hg]
    split at hk
    · rename_i d hd
      simp only [hd]
      split at hk
      · rename_i b hb
        simp only [hb]
        split at hk
        · split at hk
          · exact hk.elim
          · exact ⟨_, _, rfl, hk⟩
        · cases b with
          | true => exact ⟨_, _, rfl, hk.1 rfl⟩
          | false => exact ⟨_, _, rfl, hk.2 rfl⟩
        · split at hk
          · exact ⟨_, _, by rw [hk.1], hk.2⟩
          · exact hk.elim
        · exact hk.elim
      · rename_i hb
        simp only [hb]
        exact ⟨_, _, rfl, hk⟩
      · exact hk.elim
    · rename_i hd
      simp only [hd]
      exact ⟨_, _, rfl, hk⟩

theorem forkOp_ok {tm : Tm} {h : Hs} {o : Oper} {t1 t2 : Tr} {k : Res → Tr → Prop} (hk : forkOp P tm h o t1 t2 k) : ∃ r t', aop P tm h o = some r ∧ k r t' := by
  unfold forkOp at hk
  split at hk
  · rename_i c a b ho
    split at hk
    · rename_i y hy
      cases y with
      | true =>
        have := hk.1 rfl
        split at this
        · rename_i v hv
          exact ⟨_, _, by unfold aop; simp only [ho, hy, hv, opt1], this⟩
        · exact this.elim
      | false =>
        have := hk.2 rfl
        split at this
        · rename_i v hv
          exact ⟨_, _, by unfold aop; simp only [ho, hy, hv, opt1], this⟩
        · exact this.elim
    · exact hk.elim
  · split at hk
    · rename_i b h' hr
      cases b with
      | true => exact ⟨_, _, hr, hk.1 rfl⟩
      | false => exact ⟨_, _, hr, hk.2 rfl⟩
    · exact hk.elim

theorem findOp_ok {tm : Tm} {h : Hs} {o : Oper} {α : Type} {F : α → Nat × Value} {f : α → Tr} {t : Tr} {k : Res → Tr → Prop} (hk : findOp P tm h o α F f t k) : ∃ r t', aop P tm h o = some r ∧ k r t' := by
  unfold findOp at hk
  split at hk
  · rename_i t0 m x ok ho
    split at hk
    · rename_i kt e blk key hu hm hx
      split at hk
      · rename_i es _ res hg hkey hl
        obtain ⟨h1, h0, h2, h3⟩ := hk
        cases hf : findE P kt key es 0 with
        | none => exact (h1 hf).elim
        | some r =>
          have ham : amap h (.map (some blk)) = some es := by unfold amap; simp only [hg]
          cases r with
          | none => exact ⟨_, _, by unfold aop; simp only [ho, hm, hx, opt2]; exact look_res hu hkey ham hf hl, h3 hf⟩
          | some iv =>
            obtain ⟨x, rfl⟩ := h0 iv hf
            refine ⟨_, _, ?_, h2 x hf⟩
            unfold aop
            simp only [ho, hm, hx, opt2]
            exact look_res hu hkey ham hf (by unfold lookRes; rfl)
      · exact hk.elim
    · exact hk.elim
  · exact hk.elim

theorem opT_ok {tm : Tm} {h : Hs} {o : Oper} {t : Tr} {k : Res → Tr → Prop} (hk : opT P tm h o t k) : ∃ r t', aop P tm h o = some r ∧ k r t' := by
  unfold opT at hk
  split at hk
  · split at hk
    · rename_i hr; exact ⟨_, _, hr, hk⟩
    · exact hk.elim
  · split at hk
    · split at hk
      · rename_i hx
        obtain ⟨q1, q2⟩ := andL_iff.1 hk
        exact ⟨_, _, opX_ok hx q1, q2⟩
      · exact hk.elim
    · split at hk
      · exact hk.elim
      · split at hk
        · rename_i hr; exact ⟨_, _, hr, hk⟩
        · exact hk.elim
    · split at hk
      · rename_i hr
        obtain ⟨q1, q2⟩ := andL_iff.1 hk
        exact ⟨_, _, (opS_ok hr q1).2, q2⟩
      · exact hk.elim
    · exact forkOp_ok hk
    · exact findOp_ok hk
    · exact hk.elim

theorem eqsC_mem {σ' : Nums} {zo : Zone} : ∀ {l : Zone}, AllP (eqsC σ' zo l) → ∀ b o, (b, o) ∈ l → ∃ c o1, asc σ' b = some c ∧ asc zo c = some o1 ∧ renO (sig σ') o = some o1
  | (t0, v0) :: l, hp, t, v, hm => by
    rcases List.mem_cons.1 hm with e | e
    · cases e
      have := hp.1
      split at this
      · rename_i c hc
        split at this
        · rename_i o1 ho; exact ⟨c, o1, hc, ho, this⟩
        · exact this.elim
      · exact this.elim
    · exact eqsC_mem hp.2 t v e

theorem belowN_mem {n : Nat} : ∀ {τ : Nums}, belowN n (fsts τ) = true → ∀ a b, (a, b) ∈ τ → a < n
  | (a0, b0) :: l, h, a, b, hm => by
    simp only [fsts, belowN, Bool.and_eq_true] at h
    rcases List.mem_cons.1 hm with e | e
    · cases e; have := h.1; rw [Nat.blt_eq] at this; exact this
    · exact belowN_mem h.2 a b e

theorem snds_mem : ∀ {τ : Nums} {a b : Nat}, (a, b) ∈ τ → b ∈ snds τ
  | (a0, b0) :: l, a, b, hm => by
    rcases List.mem_cons.1 hm with e | e
    · cases e; exact List.mem_cons_self ..
    · exact List.mem_cons_of_mem _ (snds_mem e)

theorem backOk_mem {c : Cm} {nx : Nat} : ∀ {l : Nums}, backOk c nx l = true → ∀ a b, (a, b) ∈ l → (b < c.nx ∧ a < nx ∧ asc c.τ b = some a) ∨ (c.nx ≤ b ∧ b < c.nx' ∧ nx ≤ a ∧ a < c.hn)
  | (a0, b0) :: l, h, a, b, hm => by
    simp only [backOk, Bool.and_eq_true, Bool.or_eq_true] at h
    rcases List.mem_cons.1 hm with e | e
    · cases e
      rcases h.1 with ⟨⟨q1, q2⟩, q3⟩ | ⟨⟨⟨q1, q2⟩, q3⟩, q4⟩
      · rw [Nat.blt_eq] at q1 q2
        split at q3
        · rename_i d hd
          rw [Nat.eq_of_beq_eq_true q3] at hd
          exact .inl ⟨q1, q2, hd⟩
        · cases q3
      · rw [Nat.blt_eq] at q2 q4
        exact .inr ⟨Nat.le_of_ble_eq_true q1, q2, Nat.le_of_ble_eq_true q3, q4⟩
    · exact backOk_mem h.2 a b e

/-- a call as the called function tells it, in the caller's memory -/
theorem callA_at (hz : FrzZ z) {c : Cm} {h : Hs} {α : Type} {φ : α → Prop} {v : α → Value} {zo : α → Zone} {vC : α → Value} {zC : α → Zone} {f : Nat} {args : List Value} (hform : formC c h.next = true) (hs : sub8 h.heap = z) (hc : CallA P z f c.args c.zone c.nx c.nx' φ v zo)
    (ha : renL (sig c.τ) c.args = some args) (hin : AllP (eqsO c.τ h c.zone)) (hout : ∀ x, φ x → renV (sig c.σ') (vC x) = some (v x) ∧ AllP (eqsC c.σ' (zo x) (zC x)))
    {ρ : Ren} {w : World} {args' : List Value} {n : Nat} (hargs : VRs ρ args args') (hh : HRel ρ h.heap.get w) (hf : Fresh ρ h.next lim) :
    CallsIn Fence.wide n P f ⟨args'⟩ w fun e w' => ∃ x, φ x ∧ Got ρ h w (vC x) { aftC h c (zC x) with log := snds c.τ ++ h.log } e w' := by
  unfold formC at hform
  simp only [Bool.and_eq_true] at hform
  obtain ⟨⟨⟨⟨⟨⟨f1, f2⟩, f3⟩, f4⟩, f5⟩, f6⟩, f7⟩ := hform
  have f5 := Nat.le_of_ble_eq_true f5
  have f6 := Nat.le_of_ble_eq_true f6
  have f7 := Nat.le_of_ble_eq_true f7
  obtain ⟨hc1, hc2, hc3, hc4⟩ := hc
  have tau : ∀ {b d : Nat}, asc c.τ b = some d → sig c.τ b = some d ∧ b < c.nx ∧ d ∈ snds c.τ := fun hb => by
    have := belowN_mem f2 _ _ (asc_mem hb)
    exact ⟨(sig_lo (by omega)).trans hb, this, snds_mem (asc_mem hb)⟩
  have zk : ∀ {k : Nat} {o : AObj}, z.get k = some o → h.heap.get (256 * k + 510) = some o := fun hk => (get_fid _ _).trans (by rw [hs]; exact hk)
  have up : ∀ b o, (mkHs z c.zone c.nx).heap.get b = some o → ∃ d o1, sig c.τ b = some d ∧ h.heap.get d = some o1 ∧ renO (sig c.τ) o = some o1 ∧ (d ∈ snds c.τ ∨ ∃ k o2, d = 256 * k + 510 ∧ z.get k = some o2) := by
    intro b o hb
    unfold mkHs at hb
    simp only at hb
    rw [get_setO] at hb
    split at hb
    · rename_i o0 ho
      cases hb
      obtain ⟨d, o1, k1, k2, k3⟩ := eqsO_mem hin _ _ (asc_mem ho)
      exact ⟨d, o1, (tau k1).1, k2, k3, .inl (tau k1).2.2⟩
    · obtain ⟨k, rfl, hk⟩ := get_root8 hb
      exact ⟨256 * k + 510, o, sig_hi (by unfold lim; omega), zk hk, hz k o hk _, .inr ⟨k, o, rfl, hk⟩⟩
  have hh0 : HRel (renR (sig c.τ) ρ) (mkHs z c.zone c.nx).heap.get w := by
    refine ⟨fun b o hb => ?_, fun i j oi oj Li Lj hi hj hij ho hLi hLj => ?_⟩
    · obtain ⟨d, o1, k1, k2, k3, _⟩ := up b o hb
      obtain ⟨L, x, q1, q2, q3⟩ := hh.obj d o1 k2
      exact ⟨L, x, by unfold renR; rw [k1]; exact q1, q2, renO_or k3 q3⟩
    · obtain ⟨di, o1, i1, i2, i3, _⟩ := up i oi hi
      obtain ⟨dj, o2, j1, j2, j3, _⟩ := up j oj hj
      unfold renR at hLi hLj
      rw [i1] at hLi
      rw [j1] at hLj
      exact hh.inj di dj o1 o2 Li Lj i2 j2 (fun e => hij (sig_inj f1 i1 (by rw [e]; exact j1))) (by rw [renO_owned j3]; exact ho) hLi hLj
  have hf0 : Fresh (renR (sig c.τ) ρ) c.nx lim := fun b hb1 hb2 => by
    unfold renR
    rw [sig_lo hb2]
    cases hb : asc c.τ b with
    | none => rfl
    | some d => have := (tau hb).2.1; omega
  refine (hc4 _ w args' n (renL_vr ha hargs) hh0 hf0).mono fun e w' hg => ?_
  obtain ⟨x, hx, ρ1, v1, rfl, g1, g2, g3⟩ := hg
  obtain ⟨o1, o2⟩ := hout x hx
  have back : ∀ {a b : Nat}, asc c.σ' a = some b → a < lim ∧ ((b < c.nx ∧ a < h.next ∧ asc c.τ b = some a) ∨ (c.nx ≤ b ∧ b < c.nx' ∧ h.next ≤ a ∧ a < c.hn)) := fun hab => by
    have := backOk_mem f4 _ _ (asc_mem hab)
    refine ⟨?_, this⟩
    rcases this with q | q <;> omega
  let ρ' : Ren := fun a => if h.next ≤ a ∧ a < c.hn then (match asc c.σ' a with | some b => ρ1 b | none => none) else ρ a
  have hle : (renR (sig c.σ') ρ1).le ρ' := by
    intro a L hL
    show (if h.next ≤ a ∧ a < c.hn then (match asc c.σ' a with | some b => ρ1 b | none => none) else ρ a) = some L
    unfold renR at hL
    by_cases hal : lim ≤ a
    · rw [sig_hi hal] at hL
      rw [if_neg (by omega)]
      replace hL : ρ1 a = some L := hL
      rw [g3.rng a (.inr (by show c.nx' ≤ a; omega))] at hL
      unfold renR at hL
      rw [sig_hi hal] at hL
      exact hL
    · rw [sig_lo (by omega)] at hL
      split at hL
      · rename_i b hb
        rcases (back hb).2 with ⟨q1, q2, q3⟩ | ⟨q1, q2, q3, q4⟩
        · rw [if_neg (by omega)]
          rw [g3.rng b (.inl (by show b < c.nx; omega))] at hL
          unfold renR at hL
          rw [(tau q3).1] at hL
          exact hL
        · rw [if_pos ⟨q3, q4⟩, hb]
          exact hL
      · cases hL
  have hext : ρ.le ρ' := by
    intro a L hL
    show (if h.next ≤ a ∧ a < c.hn then (match asc c.σ' a with | some b => ρ1 b | none => none) else ρ a) = some L
    rw [if_neg (fun q => by rw [hf a q.1 (by omega)] at hL; cases hL)]
    exact hL
  have two : ∀ a o, (putL (delAll h.heap (snds c.τ)) (zC x)).get a = some o →
      (∃ b o1, sig c.σ' a = some b ∧ (mkHs z (zo x) c.nx').heap.get b = some o1 ∧ renO (sig c.σ') o = some o1) ∨ (a ∉ snds c.τ ∧ h.heap.get a = some o ∧ ∀ b o0, (mkHs z c.zone c.nx).heap.get b = some o0 → sig c.τ b ≠ some a) := by
    intro a o hao
    rcases putL_get _ hao with q | ⟨_, q⟩
    · obtain ⟨b, o3, k1, k2, k3⟩ := eqsC_mem o2 _ _ q
      refine .inl ⟨b, o3, (sig_lo (back k1).1).trans k1, ?_, k3⟩
      unfold mkHs
      simp only
      rw [get_setO, k2]
    · rw [delAll_get] at q
      split at q
      · cases q
      · rename_i hna
        by_cases hk : ∃ k o2, a = 256 * k + 510 ∧ z.get k = some o2
        · obtain ⟨k, o4, rfl, hk⟩ := hk
          have := zk hk
          rw [q] at this
          cases this
          refine .inl ⟨256 * k + 510, o, sig_hi (by unfold lim; omega), ?_, hz k o hk _⟩
          unfold mkHs
          simp only
          rw [get_setO]
          cases hasc : asc (zo x) (256 * k + 510) with
          | some o5 => have := hc3 x hx _ _ (asc_mem hasc); unfold lim at this; omega
          | none =>
            simp only
            rw [get_fid]
            exact hk
        · refine .inr ⟨hna, q, fun b o0 hb hsb => ?_⟩
          obtain ⟨d, _, k1, _, _, k4⟩ := up b o0 hb
          rw [hsb] at k1
          cases k1
          rcases k4 with k4 | k4
          · exact hna k4
          · exact hk k4
  have lt : ∀ {L : Loc} {y : Obj}, w.heap[L.φ]? = some y → L.φ < w.heap.size := fun h => (Array.getElem?_eq_some_iff.1 h).1
  -- where a block of the called function's memory lay
  have dn : ∀ {b : Nat} {o0 : AObj} {L : Loc}, (mkHs z c.zone c.nx).heap.get b = some o0 → renR (sig c.τ) ρ b = some L → ∃ d od, sig c.τ b = some d ∧ h.heap.get d = some od ∧ od.owned = o0.owned ∧ ρ d = some L := by
    intro b o0 L hb hL
    obtain ⟨d, od, k1, k2, k3, _⟩ := up b o0 hb
    unfold renR at hL
    rw [k1] at hL
    exact ⟨d, od, k1, k2, renO_owned k3, hL⟩
  refine ⟨x, hx, ρ', v1, rfl, (renV_vr o1 g1).mono hle, ⟨fun a o hao => ?_, fun i j oi oj Li Lj hi hj hij hoj hLi hLj => ?_⟩, ⟨g3.os, g3.tape, g3.output, g3.size, fun r hr hno => ?_, fun a o L hao ho hL => ?_, fun a o L hao hL => ?_, hext, fun a ha' => ?_⟩⟩
  · rcases two a o hao with ⟨b, o3, k1, k2, k3⟩ | ⟨k1, k2, k3⟩
    · obtain ⟨L, y, q1, q2, q3⟩ := g2.obj b o3 k2
      exact ⟨L, y, hle _ _ (by unfold renR; rw [k1]; exact q1), q2, (renO_or k3 q3).mono hle⟩
    · obtain ⟨L, y, q1, q2, q3⟩ := hh.obj a o k2
      refine ⟨L, y, hext _ _ q1, ?_, q3.mono hext⟩
      rw [g3.same L.φ (lt q2) ?_]
      · exact q2
      · intro b0 o0 L0 hb0 ho0 hL0
        obtain ⟨d, od, t1, t2, t3, t4⟩ := dn hb0 hL0
        exact (hh.inj a d o od L L0 k2 t2 (fun e => k3 b0 o0 hb0 (by rw [t1, e])) (by rw [t3]; exact ho0) q1 t4).symm
  · have tell : ∀ {a : Nat} {o : AObj} {L : Loc} {b : Nat} {o3 : AObj}, ρ' a = some L → sig c.σ' a = some b → (mkHs z (zo x) c.nx').heap.get b = some o3 → ρ1 b = some L := by
      intro a o L b o3 hL k1 k2
      obtain ⟨M, y, q1, _, _⟩ := g2.obj b o3 k2
      have := hle a M (by unfold renR; rw [k1]; exact q1)
      rw [hL] at this
      cases this
      exact q1
    have stay : ∀ {a : Nat} {o : AObj} {L : Loc}, ρ' a = some L → h.heap.get a = some o → ρ a = some L ∧ L.φ < w.heap.size := by
      intro a o L hL k2
      obtain ⟨M, y, q1, q2, _⟩ := hh.obj a o k2
      have := hext a M q1
      rw [hL] at this
      cases this
      exact ⟨q1, lt q2⟩
    rcases two i oi hi with ⟨bi, o3, i1, i2, i3⟩ | ⟨i1, i2, i3⟩ <;> rcases two j oj hj with ⟨bj, o4, j1, j2, j3⟩ | ⟨j1, j2, j3⟩
    · exact g2.inj bi bj o3 o4 Li Lj i2 j2 (fun e => hij (sig_inj f3 i1 (by rw [e]; exact j1))) (by rw [renO_owned j3]; exact hoj) (tell (o := oi) hLi i1 i2) (tell (o := oj) hLj j1 j2)
    · obtain ⟨s1, s2⟩ := stay hLj j2
      rcases g3.any bi o3 Li i2 (tell (o := oi) hLi i1 i2) with ⟨k, ok, Lk, hk, hLk, he⟩ | hge
      · obtain ⟨d, od, t1, t2, t3, t4⟩ := dn hk hLk
        rw [← he]
        exact hh.inj d j od oj Lk Lj t2 j2 (fun e => j3 k ok hk (by rw [t1, e])) hoj t4 s1
      · omega
    · obtain ⟨s1, s2⟩ := stay hLi i2
      rcases g3.own bj o4 Lj j2 (by rw [renO_owned j3]; exact hoj) (tell (o := oj) hLj j1 j2) with ⟨k, ok, Lk, hk, hok, hLk, he⟩ | hge
      · obtain ⟨d, od, t1, t2, t3, t4⟩ := dn hk hLk
        rw [← he]
        exact hh.inj i d oi od Li Lk i2 t2 (fun e => i3 k ok hk (by rw [t1, ← e])) (by rw [t3]; exact hok) s1 t4
      · omega
    · exact hh.inj i j oi oj Li Lj i2 j2 hij hoj (stay hLi i2).1 (stay hLj j2).1
  · refine g3.same r hr fun b0 o0 L0 hb0 ho0 hL0 => ?_
    obtain ⟨d, od, t1, t2, t3, t4⟩ := dn hb0 hL0
    exact hno d od L0 t2 (by rw [t3]; exact ho0) t4
  · rcases two a o hao with ⟨b, o3, k1, k2, k3⟩ | ⟨k1, k2, k3⟩
    · obtain ⟨M, y, q1, _, _⟩ := g2.obj b o3 k2
      have e1 := hle a M (by unfold renR; rw [k1]; exact q1)
      have e2 : some L = some M := hL.symm.trans e1
      cases e2
      rcases g3.own b o3 L k2 (by rw [renO_owned k3]; exact ho) q1 with ⟨k, ok, Lk, hk, hok, hLk, he⟩ | hge
      · obtain ⟨d, od, t1, t2, t3, t4⟩ := dn hk hLk
        exact .inl ⟨d, od, Lk, t2, by rw [t3]; exact hok, t4, he⟩
      · exact .inr hge
    · obtain ⟨M, y, q1, _, _⟩ := hh.obj a o k2
      have e2 : some L = some M := hL.symm.trans (hext a M q1)
      cases e2
      exact .inl ⟨a, o, L, k2, ho, q1, rfl⟩
  · rcases two a o hao with ⟨b, o3, k1, k2, k3⟩ | ⟨k1, k2, k3⟩
    · obtain ⟨M, y, q1, _, _⟩ := g2.obj b o3 k2
      have e1 := hle a M (by unfold renR; rw [k1]; exact q1)
      have e2 : some L = some M := hL.symm.trans e1
      cases e2
      rcases g3.any b o3 L k2 q1 with ⟨k, ok, Lk, hk, hLk, he⟩ | hge
      · obtain ⟨d, od, t1, t2, t3, t4⟩ := dn hk hLk
        exact .inl ⟨d, od, Lk, t2, t4, he⟩
      · exact .inr hge
    · obtain ⟨M, y, q1, _, _⟩ := hh.obj a o k2
      have e2 : some L = some M := hL.symm.trans (hext a M q1)
      cases e2
      exact .inl ⟨a, o, L, k2, q1, rfl⟩
  · show (if h.next ≤ a ∧ a < c.hn then (match asc c.σ' a with | some b => ρ1 b | none => none) else ρ a) = ρ a
    have hd : ({ aftC h c (zC x) with log := snds c.τ ++ h.log } : Hs).next = c.hn := rfl
    rw [if_neg (by omega)]

theorem callWT_ok (hz : FrzZ z) (hg : GOK P z g) {f : Nat} {args : List Value} {h : Hs} {t : Tr} {k : Value → Hs → Tr → Prop} (hk : callW' P g z f args h t k) (hl : h.next ≤ lim) :
    ∃ (X : Type) (vx : X → Value) (hx : X → Hs), (∀ x, h.next ≤ (hx x).next ∧ (hx x).next ≤ lim ∧ ∃ t', k (vx x) (hx x) t') ∧
      ∀ ρ w args' n, VRs ρ args args' → HRel ρ h.heap.get w → Fresh ρ h.next lim → CallsIn Fence.wide n P f ⟨args'⟩ w fun e w' => ∃ x, Got ρ h w (vx x) (hx x) e w' := by
  unfold callW' at hk
  split at hk
  · rename_i a t'
    split at hk
    · rename_i v _ ps hr
      obtain ⟨q1, q2⟩ := andL_iff.1 hk
      obtain ⟨call, hc, hcall⟩ := call_of z g hg
      obtain ⟨_, call1, c2, c3⟩ := callT_ok hc hcall hr q1
      exact ⟨Unit, fun _ => v, fun _ => h, fun _ => ⟨Nat.le_refl _, hl, t', q2⟩, fun ρ w args' n h1 h2 h3 => ((c2 _ _ _ _ _ c3).2 ρ w args' n h1 h2 (h3.sub (Nat.le_refl _) hl)).mono fun e w' hgot => ⟨(), hgot⟩⟩
    · exact hk.elim
  · rename_i c α φ v zo vC zC kk
    split at hk
    · rename_i hform
      obtain ⟨h1, h2, h3, h4⟩ := hk
      obtain ⟨h5, h6⟩ := andL_iff.1 h4
      have hf2 := hform
      unfold formC at hf2
      simp only [Bool.and_eq_true] at hf2
      refine ⟨{ x // φ x }, fun x => vC x.1, fun x => { aftC h c (zC x.1) with log := snds c.τ ++ h.log }, fun x => ⟨Nat.le_of_ble_eq_true hf2.1.1.2, Nat.le_of_ble_eq_true hf2.1.2, kk x.1, (andL_iff.1 (h6 x.1 x.2).2).2⟩, fun ρ w args' n k1 k2 k3 => ?_⟩
      refine (callA_at hz hform h1 h2 h3 h5 (fun x hx => ⟨(h6 x hx).1, (andL_iff.1 (h6 x hx).2).1⟩) k1 k2 k3).mono fun e w' ⟨x, hx, hgot⟩ => ⟨⟨x, hx⟩, hgot⟩
    · exact hk.elim
  · exact hk.elim

/-- the rest of a region -/
def WpL (P : Program) (ops : Array Oper) (r : List Oper) (fr : Fr) (h : Hs) (R : Fr → Hs → Prop) : Prop :=
  ∀ ρ w a n F, RFence ρ none F → FRel ρ fr a → HRel ρ h.heap.get w → Fresh ρ h.next lim → ∀ Q : Exit → Act → World → Prop,
    (∀ fr' h' a' w', R fr' h' → h.next ≤ h'.next → h'.next ≤ lim → Aft ρ h w fr' h' a' w' → Q .normal a' w') → wpListIn F n P ops Q r a w

theorem opsT_ok (hz : FrzZ z) (hg : GOK P z g) {ops : Array Oper} {K : Fr → Hs → Tr → Prop} : ∀ (r : List Oper) (fr : Fr) (h : Hs) (t : Tr), opsT P g z ops r fr h K t → h.next ≤ lim → WpL P ops r fr h fun fr' h' => ∃ t', K fr' h' t'
  | [], fr, h, t, hk, hl => fun ρ w a n F hF hfr hh hf Q hQ => hQ fr h a w ⟨t, hk⟩ (Nat.le_refl _) hl ⟨ρ, hfr, hh, Step.refl _ _ _ _ _⟩
  | o :: r, fr, h, t, hk, hl => by
    have go : ∀ {fr1 : Fr} {h1 : Hs} {t1 : Tr}, h.next ≤ h1.next → h1.next ≤ lim → opsT P g z ops r fr1 h1 K t1 → ∀ {ρ : Ren} {w : World} {n : Nat} {F : Fence}, RFence ρ none F → Fresh ρ h.next lim → ∀ {Q : Exit → Act → World → Prop},
        (∀ fr' h' a' w', (∃ t', K fr' h' t') → h.next ≤ h'.next → h'.next ≤ lim → Aft ρ h w fr' h' a' w' → Q .normal a' w') → ∀ a' w', Aft ρ h w fr1 h1 a' w' → wpListIn F n P ops Q r a' w' := by
      intro fr1 h1 t1 hm hl1 ho ρ w n F hF hf Q hQ a' w' haft
      obtain ⟨ρ', x1, x2, x3⟩ := haft
      exact opsT_ok hz hg r fr1 h1 t1 ho hl1 ρ' w' a' n F (hF.mono x3.ext) x1 x2 (x3.fresh hf hm) Q fun fr' h' a2 w2 k1 k2 k3 k4 => hQ _ _ _ _ k1 (Nat.le_trans hm k2) k3 (Aft.trans x3 hm k2 k4)
    simp only [opsT] at hk
    obtain ⟨b, t1, hb, hk⟩ := guardT_ok hk
    cases b with
    | false =>
      simp only at hk
      split at hk
      · rename_i fr1 hput
        intro ρ w a n F hF hfr hh hf Q hQ
        simp only [wpListIn, wantedB_ok hfr.tr hb, Bool.false_eq_true, if_false]
        exact ⟨fun f _ => hF.fn f, go (Nat.le_refl _) hl hk hF hf hQ _ _ ⟨ρ, Fr.put_ok hfr .undef hput, hh, Step.refl _ _ _ _ _⟩⟩
      · exact hk.elim
    | true =>
      have wl : ∀ {ρ : Ren} {a : Act} {w : World} {n : Nat} {F : Fence} {Q : Exit → Act → World → Prop}, FRel ρ fr a → o.wpIn F n P a w (wpListIn F n P ops Q r) Q → wpListIn F n P ops Q (o :: r) a w := by
        intro ρ a w n F Q hfr hwp
        simp only [wpListIn, wantedB_ok hfr.tr hb, if_true]
        exact hwp
      simp only at hk
      obtain ⟨res, t2, hr, hk⟩ := opT_ok hk
      split at hk
      · rename_i v h1
        split at hk
        · rename_i fr1 hput
          unfold small at hk
          split at hk
          · rename_i hl1
            have hl1 := Nat.le_of_ble_eq_true hl1
            have hm : h.next ≤ h1.next := (aop_mod hr).next
            exact fun ρ w a n F hF hfr hh hf Q hQ => wl hfr (op_val hF.fn hfr hh (hf.sub (Nat.le_refl _) hl1) hr hput (go hm hl1 hk hF hf hQ))
          · exact hk.elim
        · exact hk.elim
      · rename_i h1
        split at hk
        · rename_i fr1 hput
          unfold small at hk
          split at hk
          · rename_i hl1
            have hl1 := Nat.le_of_ble_eq_true hl1
            have hm : h.next ≤ h1.next := (aop_mod hr).next
            exact fun ρ w a n F hF hfr hh hf Q hQ => wl hfr (op_skip hF.fn hfr hh (hf.sub (Nat.le_refl _) hl1) hr hput (go hm hl1 hk hF hf hQ))
          · exact hk.elim
        · exact hk.elim
      · rename_i f args
        obtain ⟨X, vx, hx, k1, k2⟩ := callWT_ok hz hg hk hl
        intro ρ w a n F hF hfr hh hf Q hQ
        refine wl hfr ?_
        obtain ⟨args', e1, e2⟩ := aop_sound hfr.tr hh (fun b h1 h2 => absurd h2 (by simp only [Res.next]; omega)) hr
        refine ⟨fun f _ => hF.fn f, ?_⟩
        rw [semAt_of hr (fun _ h => by cases h), e1]
        refine ⟨fun hd => absurd hd (by rw [hF.depth]; simp), ?_⟩
        refine CallsIn.mono (hF.calls (k2 ρ w args' (n - 1) e2 hh hf)) fun e w' hgot => ?_
        obtain ⟨x, ρ', v', rfl, g1, g2, g3⟩ := hgot
        obtain ⟨m1, m2, t3, hk3⟩ := k1 x
        split at hk3
        · rename_i fr1 hput
          exact go m1 m2 hk3 hF hf hQ _ _ ⟨ρ', Fr.put_ok (hfr.mono g3.ext) g1 hput, g2, g3⟩
        · exact hk3.elim
      · exact hk.elim

theorem stepT_ok {mask i : Nat} {recs : List Rec} {tm : Tm} {h : Hs} {o : Oper} {t : Tr} {k : Value → Hs → Rec → Tr → Prop} (hk : stepT P mask i recs tm h o t k) : ∃ v h' r t', stepD P mask i recs tm h o = some (v, h', r) ∧ k v h' r t' := by
  unfold stepT at hk
  split at hk
  · split at hk
    · rename_i hr; exact ⟨_, _, _, _, hr, hk⟩
    · exact hk.elim
  · split at hk
    · split at hk
      · rename_i hx
        split at hk
        · rename_i hfin
          obtain ⟨q1, q2⟩ := andL_iff.1 hk
          refine ⟨_, _, _, _, ?_, q2⟩
          have q3 := opX_ok hx q1
          unfold viewS at q3
          unfold stepD
          simp only [q3]
          exact hfin
        · exact hk.elim
      · rename_i hx
        split at hk
        · rename_i hfin
          obtain ⟨q1, q2⟩ := andL_iff.1 hk
          refine ⟨_, _, _, _, ?_, q2⟩
          have q3 := opX_ok hx q1
          unfold viewS at q3
          unfold stepD
          simp only [q3]
          exact hfin
        · exact hk.elim
      · exact hk.elim
    · split at hk
      · exact hk.elim
      · split at hk
        · rename_i hr; exact ⟨_, _, _, _, hr, hk⟩
        · exact hk.elim
    · split at hk
      · rename_i hr
        obtain ⟨q1, q2⟩ := andL_iff.1 hk
        exact ⟨_, _, _, _, (stepS_ok hr q1).2, q2⟩
      · exact hk.elim
    · split at hk
      · rename_i b h' r hr
        cases b with
        | true => exact ⟨_, _, _, _, hr, hk.1 rfl⟩
        | false => exact ⟨_, _, _, _, hr, hk.2 rfl⟩
      · exact hk.elim
    · exact hk.elim

theorem drawT_ok {call : CallF} (hcall : ∀ f args h v, sub8 h.heap = z → g f args = some v → call f args h = some (v, h)) {ops : Array Oper} {K : Fr → Hs → Tr → Prop} : ∀ (r : List Oper) (i : Nat) (ms : List Nat) (recs : List Rec) (fr : Fr) (h : Hs) (t : Tr),
    drawT P g z ops r i ms recs fr h K t → ∃ fr' h' t', drawW P call noRound ops r i ms recs fr h = some (fr', h') ∧ h'.next ≤ lim ∧ K fr' h' t'
  | [], i, ms, recs, fr, h, t, hk => by
    simp only [drawT, small] at hk
    split at hk
    · rename_i hl; exact ⟨fr, h, t, by simp only [drawW], Nat.le_of_ble_eq_true hl, hk⟩
    · exact hk.elim
  | _ :: _, i, [], recs, fr, h, t, hk => by simp [drawT, Stuck] at hk
  | o :: r, i, m :: ms, recs, fr, h, t, hk => by
    simp only [drawT] at hk
    obtain ⟨b, t1, hb, hk⟩ := guardT_ok hk
    cases b with
    | false =>
      simp only at hk
      split at hk
      · rename_i fr1 hput
        obtain ⟨fr', h', t', q1, q2⟩ := drawT_ok hcall r _ _ _ _ _ _ hk
        exact ⟨fr', h', t', by simp only [drawW, hb, hput, q1], q2⟩
      · exact hk.elim
    | true =>
      simp only at hk
      split at hk
      · rename_i hgo
        split at hk
        · rename_i f args hres
          split at hk
          · rename_i a t2
            split at hk
            · rename_i v _ ps hc
              split at hk
              · rename_i fr1 hhid hap hput
                obtain ⟨p1, p2⟩ := andL_iff.1 hk
                obtain ⟨fr', h', t', q1, q2⟩ := drawT_ok hcall r _ _ _ _ _ _ p2
                obtain ⟨c1, c2, c3⟩ := callS_ok hcall hc p1
                refine ⟨fr', h', t', ?_, q2⟩
                have hcd : callD call m i recs f args h = some (v, h, { i := i, all := true, reads := [], writes := [], lo := h.next, hi := h.next }) := by
                  unfold callD
                  have e0 := hcall f args { heap := delAll h.heap [], next := h.next, log := [] } v c2 c3
                  simp only [hhid, e0]
                  show (match apartRs m { i := i, all := true, reads := [], writes := [], lo := h.next, hi := h.next } recs, disj [] [] with
                    | true, true => some (v, h, ({ i := i, all := true, reads := [], writes := [], lo := h.next, hi := h.next } : Rec))
                    | _, _ => none) = _
                  rw [hap]
                  rfl
                simp only [drawW, hb, hgo, hres, hcd, hput, q1]
              · exact hk.elim
            · exact hk.elim
          · exact hk.elim
        · exact hk.elim
      · rename_i hgo
        obtain ⟨v, h1, rc, t2, hst, hk⟩ := stepT_ok hk
        split at hk
        · rename_i fr1 hput
          obtain ⟨fr', h', t', q1, q2⟩ := drawT_ok hcall r _ _ _ _ _ _ hk
          exact ⟨fr', h', t', by simp only [drawW, hb, hgo, hst, hput, q1], q2⟩
        · exact hk.elim

theorem regT_ok (hz : FrzZ z) (hD : DrawOK P) (hg : GOK P z g) {id : Nat} {ops : Array Oper} {draw : Bool} {fr : Fr} {h : Hs} {K : Fr → Hs → Tr → Prop} {t : Tr} (hk : regT P g z ops draw fr h K t) : Wp P (.region id ops draw) fr h fun e fr' h' => e = .normal ∧ ∃ t', K fr' h' t' := by
  unfold regT at hk
  split at hk
  · intro ρ w a n F hF hfr hh hf hl
    refine wpIn_region_list (opsT_ok hz hg _ _ _ _ hk hl ρ w a n F hF hfr hh hf _ fun fr' h' a' w' k1 k2 k3 k4 => ⟨.normal, fr', h', ⟨rfl, k1⟩, k2, k3, rfl, k4⟩)
  · split at hk
    · rename_i ms hms
      obtain ⟨call, hc, hcall⟩ := call_of z g hg
      obtain ⟨fr', h', t', q1, q2, q3⟩ := drawT_ok hcall _ _ _ _ _ _ _ hk
      exact Wp.of_ex (Ex.region hD hc noRound_ok (by unfold regionW; simp only [hms, q1])) q2 ⟨rfl, t', q3⟩
    · exact hk.elim

theorem altsT_ok {k : Out' → Tr → Prop} : ∀ {l : Al}, altsT k l → ∀ o, Al.R l o → ∃ t', k o t'
  | .nil, _, o, h => by simp [Al.R] at h
  | .cons α φ F kk .nil, hk, o, h => by
    simp only [Al.R, or_false] at h
    simp only [altsT] at hk
    obtain ⟨x, h1, rfl⟩ := h
    exact ⟨_, hk x h1⟩
  | .cons α φ F kk (.cons β ψ G jj l), hk, o, h => by
    simp only [altsT] at hk
    rw [Al.R] at h
    rcases h with ⟨x, h1, rfl⟩ | h
    · exact ⟨_, hk.1 x h1⟩
    · exact altsT_ok hk.2 o h

theorem codeT_ok (hz : FrzZ z) (hD : DrawOK P) (hg : GOK P z g) : ∀ (n : Nat) (c : Code) (fr : Fr) (h : Hs) (K : AExit → Fr → Hs → Tr → Prop) (t : Tr), codeT P g z n c fr h K t → Wp P c fr h fun e fr' h' => ∃ t', K e fr' h' t'
  | 0, c, fr, h, K, t, hk => by simp [codeT, Stuck] at hk
  | n + 1, c, fr, h, K, t, hk => by
    simp only [codeT] at hk
    split at hk
    · exact Wp.skip ⟨t, hk⟩
    · exact Wp.label _ ⟨t, hk⟩
    · exact Wp.exit _ ⟨t, hk⟩
    · exact Wp.goto _ ⟨t, hk⟩
    · exact Wp.ret ⟨t, hk⟩
    · refine Wp.seq (codeT_ok hz hD hg n _ _ _ _ _ hk) (fun fr1 h1 ⟨t', q⟩ => codeT_ok hz hD hg n _ _ _ _ _ q) fun e fr1 h1 he ⟨t', q⟩ => ?_
      cases e with
      | normal => exact (he rfl).elim
      | exit i => exact ⟨t', q⟩
      | goto i => exact ⟨t', q⟩
      | ret => exact ⟨t', q⟩
    · split at hk
      · rename_i y hev
        split at hk
        · split at hk
          · exact hk.elim
          · cases y with
            | true => exact Wp.cond hev (by simpa using codeT_ok hz hD hg n _ _ _ _ _ hk)
            | false => exact Wp.cond hev (by simpa using codeT_ok hz hD hg n _ _ _ _ _ hk)
        · cases y with
          | true => exact Wp.cond hev (by simpa using codeT_ok hz hD hg n _ _ _ _ _ (hk.1 rfl))
          | false => exact Wp.cond hev (by simpa using codeT_ok hz hD hg n _ _ _ _ _ (hk.2 rfl))
        · split at hk
          · obtain ⟨rfl, hk⟩ := hk; exact Wp.cond hev (by simpa using codeT_ok hz hD hg n _ _ _ _ _ hk)
          · obtain ⟨rfl, hk⟩ := hk; exact Wp.cond hev (by simpa using codeT_ok hz hD hg n _ _ _ _ _ hk)
          · exact hk.elim
        · exact hk.elim
      · exact hk.elim
    · refine Wp.block ((codeT_ok hz hD hg n _ _ _ _ _ hk).mono fun e fr' h' ⟨t', q⟩ => ?_)
      cases e with
      | normal => exact ⟨t', q⟩
      | goto i => exact ⟨t', q⟩
      | ret => exact ⟨t', q⟩
      | exit i =>
        simp only [outOf] at q ⊢
        split at q
        · rename_i hb; rw [hb]; exact ⟨t', q⟩
        · rename_i hb; rw [hb]; exact ⟨t', q⟩
    · exact (regT_ok hz hD hg hk).mono fun e fr' h' ⟨he, t', q⟩ => ⟨t', by rw [he]; exact q⟩
    · split at hk
      · rename_i base m σ live zone nx l
        obtain ⟨h1, h2, h3⟩ := hk
        obtain ⟨h4, h5⟩ := andL_iff.1 h3
        refine (h2 _ _ _ h1 (weakI_of hz h4)).mono fun e fr' h' ⟨o, r, k1, k2, k3⟩ => ?_
        obtain ⟨t', q⟩ := altsT_ok h5 o r
        obtain ⟨e1, live', zone', nx'⟩ := o
        simp only at q k1 k2 k3
        split at q
        · subst k1 k2 k3; exact ⟨t', q⟩
        · exact q.elim
      · exact hk.elim
    · refine Wp.scope ((codeT_ok hz hD hg n _ _ _ _ _ hk).mono fun e fr' h' ⟨t', q⟩ => ?_)
      cases e with
      | goto i => exact q.elim
      | normal => exact ⟨by simp, t', q⟩
      | exit i => exact ⟨by simp, t', q⟩
      | ret => exact ⟨by simp, t', q⟩
    · exact hk.elim

end
end Go.AV

namespace Go.AV
open Go.RowKit

section
variable {P : Program} {g : Nat → List Value → Option Value} {z : T AObj}

/-- a round's end: the next round's state, or a way out -/
def LoopQ {α : Type} (I : α → Prop) (live : α → Live) (zone : α → Zone) (nx : Nat) (μ : α → Nat) (R : Out' → Prop) (x : α) (e : AExit) (live' : Live) (zone' : Zone) (nx' : Nat) : Prop := match e with
  | .normal => ∃ x', live' = live x' ∧ zone' = zone x' ∧ nx' = nx ∧ I x' ∧ μ x' < μ x
  | e => R (e, live', zone', nx')

theorem loopA_of (hz : FrzZ z) (hD : DrawOK P) (hg : GOK P z g) {α : Type} {b : Code} (base n nx : Nat) (I : α → Prop) (live : α → Live) (zone : α → Zone) (μ : α → Nat) (R : Out' → Prop)
    (step : ∀ x, I x → ∃ N t, codeT P g z N b (mkFr n (live x)) (mkHs z (zone x) nx) (finK z base n (LoopQ I live zone nx μ R x)) t) (x0 : α) (hI : I x0) : LoopA P z b base n (live x0) (zone x0) nx R := by
  intro fr0 h0 σ0 hb hw
  refine Wp.loop base I (fun x => (mkFr n (live x), mkHs z (zone x) nx)) μ (fun x hx => ?_) hw hI hb
  obtain ⟨N, t, hk⟩ := step x hx
  refine (codeT_ok hz hD hg N b _ _ _ t hk).mono fun e fr1 h1 ⟨t', q⟩ => ?_
  unfold finK at q
  split at q
  · rename_i σ live' zone' nx'
    obtain ⟨q1, q2⟩ := andL_iff.1 q
    have hw2 := weakI_of hz q1
    cases e with
    | normal =>
      obtain ⟨x', k1, k2, k3, k4, k5⟩ := q2
      rw [k1, k2, k3] at hw2
      exact .inl ⟨rfl, x', _, hw2, k4, k5⟩
    | exit i => exact .inr ⟨by simp, _, _, _, hw2, (AExit.exit i, live', zone', nx'), q2, rfl, rfl, rfl⟩
    | goto i => exact .inr ⟨by simp, _, _, _, hw2, (AExit.goto i, live', zone', nx'), q2, rfl, rfl, rfl⟩
    | ret => exact .inr ⟨by simp, _, _, _, hw2, (AExit.ret, live', zone', nx'), q2, rfl, rfl, rfl⟩
  · exact q.elim

/-- a function's end -/
def CallQ {α : Type} (nx' : Nat) (φ : α → Prop) (v : α → Value) (zo : α → Zone) (u : Value) (zone : Zone) (n : Nat) : Prop := n = nx' ∧ ∃ x, φ x ∧ u = v x ∧ zone = zo x

theorem callA_of (hz : FrzZ z) (hD : DrawOK P) (hg : GOK P z g) {α : Type} {f : Nat} {fn : Func} (hfn : P.funcs[f]? = some fn) (hbody : fn.body = some (bodyOf fn)) {args : List Value} {zone : Zone} (nx nx' : Nat) (hnx : nx ≤ nx' ∧ nx' ≤ lim) (φ : α → Prop) (v : α → Value) (zo : α → Zone)
    (hlow : ∀ x, φ x → ∀ b o, (b, o) ∈ zo x → b < lim)
    {N : Nat} {t : Tr} (hk : codeT P g z N (bodyOf fn) (fr0 fn args) (mkHs z zone nx) (retK P z nx fn (CallQ nx' φ v zo)) t) : CallA P z f args zone nx nx' φ v zo := by
  refine ⟨hnx.1, hnx.2, hlow, fun ρ w args' n hargs hh hf => ?_⟩
  refine callsIn_of_wp_marks hfn hbody trivial ?_
  refine wpIn_mono (codeT_ok hz hD hg N _ _ _ _ t hk ρ w _ n Fence.wide rfl ⟨enter_TR hargs fn.ntmps, .nil⟩ hh hf (by show nx ≤ lim; omega)) fun e' a' w' hp => ?_
  obtain ⟨e, fr1, h1, ⟨t', q⟩, m1, m2, rfl, ρ1, x1, x2, x3⟩ := hp
  unfold retK at q
  split at q
  · rename_i σ u zone1 nx1
    split at q
    · rename_i vs he hd hres
      obtain ⟨q1, q2, q3, x, q4, rfl, rfl⟩ := andL_iff.1 q
      subst q3
      have hw := weakI_of hz q1
      have leave : LeavesInM Fence.wide n P fn a'.tmps (fun e w' => ∃ x, φ x ∧ Got ρ (mkHs z zone nx) w (v x) (mkHs z (zo x) nx1) e w') a'.defers .returning w' := by
        have xd := x1.ds
        rw [hd] at xd
        refine dfrs_ok (P := P) noEx_ok (ds := []) (h := h1) (h' := h1) rfl xd x2 (x3.fresh (hi := h1.next) (hf.sub (Nat.le_refl _) m2) m1) fun ρ2 w2 r1 r2 => ?_
        obtain ⟨vs', y1, y2⟩ := resultsA_ok (P := P) (x1.tr.mono r2.ext) r1 hres
        have s2 := x3.trans r2 m1 (Nat.le_refl _)
        obtain ⟨ρ3, t1, t2, t3, t4⟩ := toldR_post (h0 := mkHs z zone nx) rfl hf (weakR_told hw (x1.mono r2.ext) r1 s2.core (fun b hb => s2.rng b (.inr (by omega))) fun b L hb hL => by
          rw [← s2.rng b (.inl hb)]; exact hL)
        refine ⟨_, ?_, x, q4, ρ3, _, rfl, (renV_vr q2 (oneA_ok y1)).mono t1, t3, t4⟩
        rw [results_eq, Array.mapM_eq_mapM_toList]
        simp [y2]
      cases e with
      | normal => exact leave
      | ret => exact leave
      | exit i => cases he
      | goto i => cases he
    · exact q.elim
  · exact q.elim

/-- a call as the kit tells it, where memory holds what z tells of -/
theorem calls_ofA {α : Type} {φ : α → Prop} {v : α → Value} {zo : α → Zone} {f nx' : Nat} {args : List Value} (hc : CallA P z f args [] 0 nx' φ v zo) {ρ : Ren} {w : World} {args' : List Value} (hz : Frz z ρ w) (ha : VRs ρ args args') :
    Calls P f ⟨args'⟩ w fun e w' => ∃ x ρ' v', φ x ∧ e = .returned v' ∧ VR ρ' (v x) v' ∧ HRel ρ' (mkHs z (zo x) nx').heap.get w' ∧ ρ.le ρ' ∧ (∀ b o L, (mkHs z (zo x) nx').heap.get b = some o → o.owned = true → ρ' b = some L → w.heap.size ≤ L.φ) ∧ Below w.heap.size w w' := by
  have hh : HRel ρ (root8 z).get w := ⟨fun b o hb => by
      obtain ⟨k, rfl, hk⟩ := get_root8 hb
      exact hz.r k o hk, fun i j oi oj Li Lj hi hj hij ho => by
      obtain ⟨k, rfl, hk⟩ := get_root8 hj
      rw [hz.own k oj hk] at ho; cases ho⟩
  have hin := hc.2.2.2 ρ w args' 0 ha hh fun b _ hb => hz.lo b hb
  refine Calls.mono (hin.calls fun _ => room_wide _) fun e w' ⟨x, hx, hg⟩ => ?_
  obtain ⟨ρ', v', h1, h2, h3, h4⟩ := hg
  have noOwn : ∀ b o L, (root8 z).get b = some o → o.owned = true → ρ b = some L → False := fun b o L hb ho hL => by
    obtain ⟨k, rfl, hk⟩ := get_root8 hb
    rw [hz.own k o hk] at ho; cases ho
  refine ⟨x, ρ', v', hx, h1, h2, h3, h4.ext, fun b o L hb ho hL => ?_, h4.os, h4.tape, h4.output, h4.size, fun r hr => h4.same r hr fun b o L hb ho hL => (noOwn b o L hb ho hL).elim⟩
  rcases h4.own b o L hb ho hL with ⟨i, oi, Li, hi, hoi, hLi, _⟩ | h
  · exact (noOwn i oi Li hi hoi hLi).elim
  · exact h

/-- .. a plain one, as an answer -/
theorem callZ_ofA (hz0 : FrzZ z) {α : Type} {φ : α → Prop} {v : α → Value} {zo : α → Zone} {f nx' : Nat} {args : List Value} {u : Value} (hc : CallA P z f args [] 0 nx' φ v zo) (hv : ∀ x, φ x → v x = u) (hp : plainV u = true) (hown : ∀ k o, z.get k = some o → o.owned = false) (hr : renL (sig []) args = some args) : CallZ P z f args u := by
  refine ⟨hp, fun ρ W args' hz ha => ?_⟩
  have hfz : Frz z (renR (sig []) ρ) W := by
    refine ⟨fun k o hk => ?_, hown, fun b hb => by unfold renR; rw [sig_lo hb]; rfl⟩
    obtain ⟨L, x, h1, h2, h3⟩ := hz k o hk
    exact ⟨L, x, by unfold renR; rw [sig_hi (by unfold lim; omega)]; exact h1, h2, renO_or (hz0 k o hk []) h3⟩
  refine (calls_ofA hc hfz (renL_vr hr ha)).mono fun e w' ⟨x, ρ', v', h1, h2, h3, _, _, _, h4⟩ => ⟨?_, h4⟩
  rw [hv x h1] at h3
  rw [h2, h3.plain hp]

end
/-! what a driver is told -/
structure CmH where
  α : Type
  φ : α → Prop
  v : α → Value
  zo : α → Zone
  nx' : Nat
structure LpH where
  base : Nat
  n : Nat
  live : Live
  zone : Zone
  nx : Nat
  l : Al
inductive CallH where
  | cl (v : Value)
  | cm (c : CmH)
abbrev nilV : List Value := []
abbrev Ct := List Value → Zone → Option CallH
end Go.AV

namespace Go.AV

section
variable {P : Program} {z : T AObj}

theorem callA_of_ent (hz : FrzZ z) {e : Ent} (hok : EntOK P e) (zone zone2 : Zone) (nx2 : Nat) (σ : Nums) (v2 : Value)
    (hsub : subH e.pre (mkHs z zone e.next).heap = true) (hn : Nat.ble e.next nx2 = true) (hn2 : Nat.ble e.next2 lim = true)
    (hlow : ∀ b o, (b, o) ∈ zone2 → b < lim)
    (how : AllP (owesI e.next nx2 0 z σ [] zone2 { tm := .leaf, n := 0, dfr := [] } (e.app (mkHs z zone e.next)))) (hv : renV (sig σ) v2 = some e.v) :
    CallA P z e.f e.args zone e.next nx2 (fun _ : Unit => True) (fun _ => v2) (fun _ => zone2) := by
  have hn := Nat.le_of_ble_eq_true hn
  have hn2 := Nat.le_of_ble_eq_true hn2
  have hw := weakI_of hz how
  refine ⟨hn, hw.nx.2, fun _ _ => hlow, fun ρ w args' n hargs hh hf => ?_⟩
  refine ((hok (mkHs z zone e.next) rfl (subH_mem hsub)).2 ρ w args' n hargs hh (hf.sub (Nat.le_refl _) hn2)).mono fun en w' hg => ?_
  obtain ⟨ρ1, v', rfl, x1, x2, x3⟩ := hg
  have hm : e.next ≤ e.next2 := (hok (mkHs z zone e.next) rfl (subH_mem hsub)).1.next
  have x0 : FRel ρ1 { tm := .leaf, n := 0, dfr := [] } { tmps := #[], defers := [] } := ⟨⟨rfl, fun t => .inr (by
    show VR ρ1 (rd .leaf t) undef
    unfold rd
    rw [T.get_leaf]
    exact .undef)⟩, .nil⟩
  obtain ⟨ρ3, t1, t2, t3, t4⟩ := toldR_post (h0 := mkHs z zone e.next) rfl hf (weakR_told hw x0 x2 x3.core (fun b hb => x3.rng b (.inr (Nat.le_trans hn2 hb))) fun b L hb hL => by
    rw [← x3.rng b (.inl hb)]; exact hL)
  exact ⟨(), trivial, ρ3, _, rfl, (renV_vr hv x1).mono t1, t3, t4⟩


/-- the numbers below this one -/
def lowN (nx : Nat) (b : Nat) : Option Nat := match Nat.blt b nx with | true => some b | false => none

def isL (nx : Nat) (args : List Value) : Prop := renL (lowN nx) args = some args
def isZ (nx : Nat) : List BO → Prop
  | [] => True
  | (b, o) :: l => (b < nx ∧ renO (lowN nx) o = some o) ∧ isZ nx l
theorem isZ_mem {nx : Nat} : ∀ {l : List BO}, isZ nx l → ∀ b o, (b, o) ∈ l → b < nx ∧ renO (lowN nx) o = some o
  | (b0, o0) :: l, h, b, o, hm => by
    rcases List.mem_cons.1 hm with e | e
    · cases e; exact h.1
    · exact isZ_mem h.2 b o e

/-- .. where nothing new is left, and nothing old has changed -/
theorem callA_of_plain {e : Ent} (hok : EntOK P e) (zone : Zone) (hsub : subH e.pre (mkHs z zone e.next).heap = true) (hlim : Nat.ble e.next lim = true)
    (hlow : ∀ b o, (b, o) ∈ zone → b < lim) (hargs0 : isL e.next e.args) (hz0 : isZ e.next e.pre) (hv : plainV e.v = true) (hpost : e.post = []) (hlog : e.log = []) :
    CallA P z e.f e.args zone e.next e.next (fun _ : Unit => True) (fun _ => e.v) (fun _ => zone) := by
  have hlim := Nat.le_of_ble_eq_true hlim
  refine ⟨Nat.le_refl _, hlim, fun _ _ => hlow, fun ρ w args' n hargs hh hf => ?_⟩
  have hpre := subH_mem hsub
  have low : ∀ (ρ : Ren) b, renR (lowN e.next) ρ b = if b < e.next then ρ b else none := fun ρ b => by
    unfold renR lowN
    by_cases hb : b < e.next
    · have : Nat.blt b e.next = true := by rw [Nat.blt_eq]; exact hb
      rw [this, if_pos hb]
    · have : Nat.blt b e.next = false := by
        cases hc : Nat.blt b e.next with
        | false => rfl
        | true => rw [Nat.blt_eq] at hc; exact absurd hc hb
      rw [this, if_neg hb]
  have hle : (renR (lowN e.next) ρ).le ρ := fun b L hL => by
    rw [low] at hL
    split at hL
    · exact hL
    · cases hL
  have hh0 : HRel (renR (lowN e.next) ρ) e.h0.heap.get w := by
    refine ⟨fun b o hb => ?_, fun i j oi oj Li Lj hi hj hij ho hLi hLj => ?_⟩
    · have hm := mkT_get hb
      obtain ⟨L, x, h1, h2, h3⟩ := hh.obj b o (hpre b o hm)
      obtain ⟨k1, k2⟩ := isZ_mem hz0 b o hm
      exact ⟨L, x, by rw [low, if_pos k1]; exact h1, h2, renO_or k2 h3⟩
    · exact hh.inj i j oi oj Li Lj (hpre _ _ (mkT_get hi)) (hpre _ _ (mkT_get hj)) hij ho (hle _ _ hLi) (hle _ _ hLj)
  have hf0 : Fresh (renR (lowN e.next) ρ) e.h0.next (e.app e.h0).next := fun b hb _ => by
    rw [low, if_neg]
    have : e.h0.next = e.next := rfl
    omega
  refine ((hok e.h0 rfl (fun b o hm => ?_)).2 _ w args' n (renL_vr hargs0 hargs) hh0 hf0).mono fun en w' hg => ?_
  · have := mkT_has (l := e.pre) (b := b)
    cases hg : (mkT e.pre).get b with
    | some o2 =>
      have h2 := hpre b o2 (mkT_get hg)
      have h1 := hpre b o hm
      rw [h1] at h2; cases h2; exact hg
    | none =>
      refine absurd hg (this ?_)
      clear this hg
      revert hm
      generalize e.pre = l
      induction l with
      | nil => intro h; cases h
      | cons a l ih =>
        intro h
        obtain ⟨c, x⟩ := a
        simp only [hasB]
        rcases List.mem_cons.1 h with e1 | e1
        · cases e1; simp
        · split
          · rfl
          · exact ih e1
  obtain ⟨ρ2, v', rfl, g1, g2, g3⟩ := hg
  have hheap : (e.app e.h0).heap = e.h0.heap := by unfold Ent.app; rw [hpost, hlog]; rfl
  rw [hheap] at g2 g3
  have lt : ∀ {L : Loc} {x : Obj}, w.heap[L.φ]? = some x → L.φ < w.heap.size := fun h => (Array.getElem?_eq_some_iff.1 h).1
  have same : ∀ r, r < w.heap.size → (∀ b o L, (mkHs z zone e.next).heap.get b = some o → o.owned = true → ρ b = some L → L.φ ≠ r) → w'.heap[r]? = w.heap[r]? := fun r hr hno => g3.same r hr fun b o L hb ho hL =>
    hno b o L (hpre _ _ (mkT_get hb)) ho (hle _ _ hL)
  have hvv : v' = e.v := g1.plain hv
  subst hvv
  refine ⟨(), trivial, ρ, _, rfl, VR.of_plain hv, ⟨fun b o hb => ?_, hh.inj⟩, ⟨g3.os, g3.tape, g3.output, g3.size, same, fun b o L h ho hL => .inl ⟨b, o, L, h, ho, hL, rfl⟩, fun b o L h hL => .inl ⟨b, o, L, h, hL, rfl⟩, Ren.le.refl _, fun _ _ => rfl⟩⟩
  obtain ⟨L, x, h1, h2, h3⟩ := hh.obj b o hb
  cases hp : e.h0.heap.get b with
  | some o2 =>
    have hm := mkT_get hp
    have := hpre b o2 hm
    rw [hb] at this; cases this
    obtain ⟨L2, x2, k1, k2, k3⟩ := g2.obj b o hp
    obtain ⟨m1, m2⟩ := isZ_mem hz0 b o hm
    have hrng : ∀ c, c < e.next → ρ2 c = ρ c := fun c hc => by
      rw [g3.rng c (.inl hc), low, if_pos hc]
    have e1 : ρ2 b = ρ b := hrng b m1
    rw [e1, h1] at k1; cases k1
    refine ⟨L, x2, h1, k2, (renO_or m2 k3).mono fun c M hM => ?_⟩
    rw [low] at hM
    split at hM
    · rename_i hc; rw [← hrng c hc]; exact hM
    · cases hM
  | none =>
    refine ⟨L, x, h1, ?_, h3⟩
    rw [g3.same L.φ (lt h2) ?_]
    · exact h2
    · intro b0 o0 L0 hb0 ho0 hL0
      have hne : b ≠ b0 := by rintro rfl; rw [hp] at hb0; cases hb0
      exact (hh.inj b b0 o o0 L L0 hb (hpre _ _ (mkT_get hb0)) hne ho0 h1 (hle _ _ hL0)).symm

end
end Go.AV
