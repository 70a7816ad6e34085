/-
  Regions that draw their order, third part: the text's order as a sequence of states, with what each operation saw and turned.
-/
import Derived.Test.YthecahanniaggaaAvDrawB
namespace Go.AV

theorem viewOf_get (h : Hs) (b : Nat) : ∀ (l : List Nat), (viewOf h l).get b = if b ∈ l then h.heap.get b else none
  | [] => by simp [viewOf, T.get_leaf]
  | c :: l => by
    have ih := viewOf_get h b l
    simp only [viewOf]
    split
    · rename_i o ho
      rw [T.get_set, ih]
      by_cases hb : b = c
      · subst hb; simp [ho]
      · simp [hb]
    · rename_i ho
      rw [ih]
      by_cases hb : b = c
      · subst hb; simp [ho]
      · simp [hb]

theorem mergeAt_get (t s : T AObj) (b : Nat) : ∀ (l : List Nat), (mergeAt t s l).get b = if b ∈ l then s.get b else t.get b
  | [] => by simp [mergeAt]
  | c :: l => by
    have ih := mergeAt_get t s b l
    simp only [mergeAt]
    split
    · rename_i o ho
      rw [T.get_set, ih]
      by_cases hb : b = c
      · subst hb; simp [ho]
      · simp [hb]
    · rename_i ho
      rw [T.get_del, ih]
      by_cases hb : b = c
      · subst hb; simp [ho]
      · simp [hb]

theorem delAll_get (t : T AObj) (b : Nat) : ∀ (l : List Nat), (delAll t l).get b = if b ∈ l then none else t.get b
  | [] => by simp [delAll]
  | c :: l => by
    simp only [delAll, T.get_del, delAll_get t b l]
    by_cases hb : b = c
    · subst hb; simp
    · simp [hb]

theorem range'_mem (b : Nat) : ∀ (n lo : Nat), b ∈ range' lo n ↔ lo ≤ b ∧ b < lo + n
  | 0, lo => by simp [range']
  | n + 1, lo => by
    simp only [range', List.mem_cons, range'_mem b n]
    omega

theorem disj_spec : ∀ {l m : List Nat}, disj l m = true → ∀ b, b ∈ l → b ∉ m
  | [], _, _, b, hb => by cases hb
  | a :: l, m, h, b, hb => by
    simp only [disj] at h
    split at h
    · cases h
    · rename_i ha
      rcases List.mem_cons.1 hb with rfl | hb
      · exact memN_false ha
      · exact disj_spec h b hb

theorem hidden_mem {mask b : Nat} : ∀ {l : List Rec}, b ∈ hidden mask l ↔ ∃ r, r ∈ l ∧ mask.testBit r.i = false ∧ r.lo ≤ b ∧ b < r.lo + (r.hi - r.lo)
  | [] => by simp [hidden]
  | r :: l => by
    have ih := hidden_mem (mask := mask) (b := b) (l := l)
    simp only [hidden]
    split
    · rename_i h
      rw [ih]
      constructor
      · rintro ⟨r', h1, h2⟩; exact ⟨r', List.mem_cons_of_mem _ h1, h2⟩
      · rintro ⟨r', h1, h2, h3⟩
        rcases List.mem_cons.1 h1 with rfl | h1
        · rw [h] at h2; cases h2
        · exact ⟨r', h1, h2, h3⟩
    · rename_i h
      rw [List.mem_append, ih, range'_mem]
      constructor
      · rintro (h1 | ⟨r', h1, h2⟩)
        · exact ⟨r, List.mem_cons_self .., h, h1⟩
        · exact ⟨r', List.mem_cons_of_mem _ h1, h2⟩
      · rintro ⟨r', h1, h2, h3⟩
        rcases List.mem_cons.1 h1 with rfl | h1
        · exact .inl h3
        · exact .inr ⟨r', h1, h2, h3⟩

structure DS where
  fr : Fr
  h : Hs
  recs : List Rec

structure Eff where
  on : Bool
  V : T AObj
  h1 : Hs
  v : Value
  r : Rec

inductive Ran (P : Program) (call round : CallF) (o : Oper) (tm : Tm) (V : T AObj) (next : Nat) : Value → Hs → Prop where
  | val (v : Value) (h1 : Hs) (h : aop P tm { heap := V, next := next, log := [] } o = some (.val v h1)) : Ran P call round o tm V next v h1
  | skip (h1 : Hs) (h : aop P tm { heap := V, next := next, log := [] } o = some (.skip h1)) : Ran P call round o tm V next undef h1
  | call (f : Nat) (args : List Value) (v : Value) (h1 : Hs) (h : aop P tm { heap := .leaf, next := 0, log := [] } o = some (.call f args)) (k : call f args { heap := V, next := next, log := [] } = some (v, h1)) : Ran P call round o tm V next v h1
  | round (f : Nat) (args : List Value) (v : Value) (h1 : Hs) (h : aop P tm { heap := .leaf, next := 0, log := [] } o = some (.round f args)) (k : round f args { heap := V, next := next, log := [] } = some (v, h1)) : Ran P call round o tm V next v h1

theorem Ran.mod {P : Program} {call round : CallF} (hc : CallOK P call) (hr : RoundOK P round) {o : Oper} {tm : Tm} {V : T AObj} {next : Nat} {v : Value} {h1 : Hs} (h : Ran P call round o tm V next v h1) : Mod { heap := V, next := next, log := [] } h1 := by
  cases h with
  | val _ _ h => exact aop_mod h
  | skip _ h => exact aop_mod h
  | call _ _ _ _ h k => exact (hc _ _ _ _ _ k).1
  | round _ _ _ _ h k => exact (hr _ _ _ _ _ k).1

/-- what an operation has turned -/
def Eff.U (e : Eff) (b : Nat) : Prop := e.on = true ∧ (b ∈ e.h1.log ∨ (e.r.lo ≤ b ∧ b < e.r.hi))

structure OnFacts (P : Program) (call round : CallF) (i : Nat) (o : Oper) (m : Nat) (s s' : DS) (e : Eff) : Prop where
  ran : Ran P call round o s.fr.tm e.V s.h.next e.v e.h1
  next : s'.h.next = e.h1.next
  log : s'.h.log = e.h1.log ++ s.h.log
  heap : ∀ b, s'.h.heap.get b = if b ∈ e.h1.log ∨ (e.r.lo ≤ b ∧ b < e.r.hi) then e.h1.heap.get b else s.h.heap.get b
  view : ∀ b x, e.V.get b = some x → s.h.heap.get b = some x
  recs : s'.recs = e.r :: s.recs
  ri : e.r.i = i
  rlo : e.r.lo = s.h.next
  rhi : e.r.hi = e.h1.next
  rw : e.r.writes = e.h1.log
  apart : apartRs m e.r s.recs = true
  kind : (e.r.all = false ∧ (∀ b, e.V.get b ≠ none → b ∈ e.r.reads) ∧ ∀ b, b ∈ e.h1.log → b ∈ e.r.reads) ∨
    (e.r.all = true ∧ (∀ b, e.V.get b ≠ none → b ∉ hidden m s.recs) ∧ ∀ b, b ∈ e.h1.log → b ∉ hidden m s.recs)

structure Facts (P : Program) (call round : CallF) (ops : Array Oper) (i : Nat) (o : Oper) (m : Nat) (s s' : DS) (e : Eff) : Prop where
  want : wantedB ops s.fr.tm o = some e.on
  put : s.fr.put o.dst e.v = some s'.fr
  off : e.on = false → e.v = undef ∧ s'.h = s.h ∧ s'.recs = s.recs
  onn : e.on = true → OnFacts P call round i o m s s' e

section
variable {P : Program} {call round : CallF}

theorem stepD_facts {m i : Nat} {recs : List Rec} {tm : Tm} {h : Hs} {o : Oper} {v : Value} {h' : Hs} {r : Rec} (hs : stepD P m i recs tm h o = some (v, h', r)) :
    ∃ V h1, Ran P call round o tm V h.next v h1 ∧ h'.next = h1.next ∧ h'.log = h1.log ++ h.log ∧ (∀ b, h'.heap.get b = if b ∈ h1.log ∨ (r.lo ≤ b ∧ b < r.hi) then h1.heap.get b else h.heap.get b) ∧
      (∀ b x, V.get b = some x → h.heap.get b = some x) ∧ r.i = i ∧ r.lo = h.next ∧ r.hi = h1.next ∧ r.writes = h1.log ∧ apartRs m r recs = true ∧
      (r.all = false ∧ (∀ b, V.get b ≠ none → b ∈ r.reads) ∧ ∀ b, b ∈ h1.log → b ∈ r.reads) := by
  have fin : ∀ {v0 : Value} {h1 : Hs}, h.next ≤ h1.next → stepD.fin m i recs h (touches tm h o) v0 h1 = some (v, h', r) → v0 = v ∧ h'.next = h1.next ∧ h'.log = h1.log ++ h.log ∧ (∀ b, h'.heap.get b = if b ∈ h1.log ∨ (r.lo ≤ b ∧ b < r.hi) then h1.heap.get b else h.heap.get b) ∧
      r.i = i ∧ r.lo = h.next ∧ r.hi = h1.next ∧ r.writes = h1.log ∧ apartRs m r recs = true ∧
      (r.all = false ∧ (∀ b, (viewOf h (touches tm h o)).get b ≠ none → b ∈ r.reads) ∧ ∀ b, b ∈ h1.log → b ∈ r.reads) := by
    intro v0 h1 hn hf
    unfold stepD.fin at hf
    dsimp only at hf
    split at hf
    · rename_i ha
      cases hf
      refine ⟨rfl, rfl, rfl, fun b => ?_, rfl, rfl, rfl, rfl, ha, rfl, fun b hb => ?_, fun b hb => List.mem_append_right _ hb⟩
      · rw [mergeAt_get]
        simp only [List.mem_append, range'_mem]
        have : (b ∈ h1.log ∨ h.next ≤ b ∧ b < h.next + (h1.next - h.next)) ↔ (b ∈ h1.log ∨ h.next ≤ b ∧ b < h1.next) := by
          constructor <;> (rintro (q | q); · exact .inl q
                           · exact .inr (by omega))
        by_cases hq : b ∈ h1.log ∨ h.next ≤ b ∧ b < h1.next
        · rw [if_pos hq, if_pos (this.2 hq)]
        · rw [if_neg hq, if_neg (fun c => hq (this.1 c))]
      · rw [viewOf_get] at hb
        refine List.mem_append_left _ ?_
        by_cases hm : b ∈ touches tm h o
        · exact hm
        · rw [if_neg hm] at hb; exact (hb rfl).elim
    · cases hf
  have vw : ∀ b x, (viewOf h (touches tm h o)).get b = some x → h.heap.get b = some x := by
    intro b x hb
    rw [viewOf_get] at hb
    split at hb
    · exact hb
    · cases hb
  unfold stepD at hs
  dsimp only at hs
  split at hs
  · rename_i v0 h1 ha
    obtain ⟨rfl, a1, a2, a3, a4, a5, a6, a7, a8, a9⟩ := fin (aop_mod ha).next hs
    exact ⟨_, h1, .val _ _ ha, a1, a2, a3, vw, a4, a5, a6, a7, a8, a9⟩
  · rename_i h1 ha
    obtain ⟨rfl, a1, a2, a3, a4, a5, a6, a7, a8, a9⟩ := fin (aop_mod ha).next hs
    exact ⟨_, h1, .skip _ ha, a1, a2, a3, vw, a4, a5, a6, a7, a8, a9⟩
  · cases hs

theorem callD_facts {cl : CallF} (hc : ∀ f args h v h', cl f args h = some (v, h') → Mod h h') {m i : Nat} {recs : List Rec} {f : Nat} {args : List Value} {h : Hs} {v : Value} {h' : Hs} {r : Rec} (hrec : ∀ r, r ∈ recs → r.hi ≤ h.next) (hs : callD cl m i recs f args h = some (v, h', r)) :
    ∃ V h1, cl f args { heap := V, next := h.next, log := [] } = some (v, h1) ∧ h'.next = h1.next ∧ h'.log = h1.log ++ h.log ∧ (∀ b, h'.heap.get b = if b ∈ h1.log ∨ (r.lo ≤ b ∧ b < r.hi) then h1.heap.get b else h.heap.get b) ∧
      (∀ b x, V.get b = some x → h.heap.get b = some x) ∧ r.i = i ∧ r.lo = h.next ∧ r.hi = h1.next ∧ r.writes = h1.log ∧ apartRs m r recs = true ∧
      (r.all = true ∧ (∀ b, V.get b ≠ none → b ∉ hidden m recs) ∧ ∀ b, b ∈ h1.log → b ∉ hidden m recs) := by
  unfold callD at hs
  dsimp only at hs
  split at hs
  · rename_i v0 h1 hcall
    split at hs
    · rename_i ha hd
      cases hs
      have hm := hc _ _ _ _ _ hcall
      have hd := disj_spec hd
      refine ⟨_, h1, hcall, rfl, rfl, fun b => ?_, fun b x hb => ?_, rfl, rfl, rfl, rfl, ha, rfl, fun b hb => ?_, fun b hb => hd b hb⟩
      · rw [mergeAt_get]
        obtain ⟨l, l1, l2, l3⟩ := hm.log
        simp only [List.append_nil] at l1
        subst l1
        by_cases hh : b ∈ hidden m recs
        · rw [if_pos hh]
          obtain ⟨r0, h1', h2, h3, h4⟩ := hidden_mem.1 hh
          have := hrec r0 h1'
          rw [if_neg]
          rintro (q | q)
          · exact hd b q hh
          · simp only at q; omega
        · rw [if_neg hh]
          split
          · rfl
          · rename_i q
            rw [not_or] at q
            simp only at q
            rw [l3 b (by simp only; omega) q.1]
            show (delAll h.heap (hidden m recs)).get b = _
            rw [delAll_get, if_neg hh]
      · rw [delAll_get] at hb
        split at hb
        · cases hb
        · exact hb
      · rw [delAll_get] at hb
        split at hb
        · exact (hb rfl).elim
        · assumption
    · cases hs
  · cases hs
def OneOK (P : Program) (call round : CallF) (o : Oper) (tm : Tm) (h : Hs) (m i : Nat) (recs : List Rec) (v : Value) (h' : Hs) (r : Rec) : Prop :=
  ∃ V h1, Ran P call round o tm V h.next v h1 ∧ h'.next = h1.next ∧ h'.log = h1.log ++ h.log ∧ (∀ b, h'.heap.get b = if b ∈ h1.log ∨ (r.lo ≤ b ∧ b < r.hi) then h1.heap.get b else h.heap.get b) ∧
        (∀ b x, V.get b = some x → h.heap.get b = some x) ∧ r.i = i ∧ r.lo = h.next ∧ r.hi = h1.next ∧ r.writes = h1.log ∧ apartRs m r recs = true ∧
        ((r.all = false ∧ (∀ b, V.get b ≠ none → b ∈ r.reads) ∧ ∀ b, b ∈ h1.log → b ∈ r.reads) ∨ (r.all = true ∧ (∀ b, V.get b ≠ none → b ∉ hidden m recs) ∧ ∀ b, b ∈ h1.log → b ∉ hidden m recs))

theorem drawW_cons (hc : CallOK P call) (hr : RoundOK P round) {ops : Array Oper} {o : Oper} {l : List Oper} {i : Nat} {ms : List Nat} {recs : List Rec} {fr : Fr} {h : Hs} {res : Fr × Hs} (hs : drawW P call round ops (o :: l) i ms recs fr h = some res) (hrec : ∀ r, r ∈ recs → r.hi ≤ h.next) :
    ∃ m ms' e fr' h' recs', ms = m :: ms' ∧ Facts P call round ops i o m ⟨fr, h, recs⟩ ⟨fr', h', recs'⟩ e ∧ (∀ r, r ∈ recs' → r.hi ≤ h'.next) ∧ drawW P call round ops l (i + 1) ms' recs' fr' h' = some res := by
  cases ms with
  | nil => simp [drawW] at hs
  | cons m ms' =>
    have fin : ∀ (x : Option (Value × Hs × Rec)), (∀ v h' r, x = some (v, h', r) → OneOK P call round o fr.tm h m i recs v h' r) →
        wantedB ops fr.tm o = some true →
        (match x with
          | some (v, h, r) => match fr.put o.dst v with
            | some fr => drawW P call round ops l (i + 1) ms' (r :: recs) fr h
            | none => none
          | none => none) = some res →
        ∃ m0 ms0 e fr' h' recs', m :: ms' = m0 :: ms0 ∧ Facts P call round ops i o m0 ⟨fr, h, recs⟩ ⟨fr', h', recs'⟩ e ∧ (∀ r, r ∈ recs' → r.hi ≤ h'.next) ∧ drawW P call round ops l (i + 1) ms0 recs' fr' h' = some res := by
      intro x hx hw hs
      split at hs
      · rename_i v h' r
        split at hs
        · rename_i fr' hput
          obtain ⟨V, h1, a1, a2, a3, a4, a5, a6, a7, a8, a9, a10, a11⟩ := hx v h' r rfl
          have hn := (a1.mod hc hr).next
          refine ⟨m, ms', ⟨true, V, h1, v, r⟩, fr', h', r :: recs, rfl, ⟨hw, hput, fun hf => (by cases hf), fun _ => ⟨a1, a2, a3, a4, a5, rfl, a6, a7, a8, a9, a10, a11⟩⟩, fun r' hr' => ?_, hs⟩
          rcases List.mem_cons.1 hr' with rfl | hr'
          · rw [a8, a2]; exact Nat.le_refl _
          · rw [a2]; exact Nat.le_trans (hrec r' hr') hn
        · cases hs
      · cases hs
    have sd : ∀ v h' r, stepD P m i recs fr.tm h o = some (v, h', r) → OneOK P call round o fr.tm h m i recs v h' r := fun v h' r hx => by
      obtain ⟨V, h1, a1, a2, a3, a4, a5, a6, a7, a8, a9, a10, a11⟩ := stepD_facts (call := call) (round := round) hx
      exact ⟨V, h1, a1, a2, a3, a4, a5, a6, a7, a8, a9, a10, .inl a11⟩
    simp only [drawW] at hs
    split at hs
    · cases hs
    · rename_i hw
      split at hs
      · rename_i fr' hput
        exact ⟨m, ms', ⟨false, .leaf, h, undef, ⟨i, false, [], [], h.next, h.next⟩⟩, fr', h, recs, rfl, ⟨hw, hput, fun _ => ⟨rfl, rfl, rfl⟩, fun hf => by cases hf⟩, hrec, hs⟩
      · cases hs
    · rename_i hw
      refine fin _ (fun v h' r hx => ?_) hw hs
      split at hx
      · split at hx
        · rename_i f args hres
          have hcall : aop P fr.tm { heap := .leaf, next := 0, log := [] } o = some (.call f args) := by
            unfold isCallRes at hres
            split at hres
            · rename_i q; cases hres; exact q
            · cases hres
            · cases hres
          obtain ⟨V, h1, a1, a2, a3, a4, a5, a6, a7, a8, a9, a10, a11⟩ := callD_facts (fun f args h v h' q => (hc f args h v h' q).1) hrec hx
          exact ⟨V, h1, .call f args v h1 hcall a1, a2, a3, a4, a5, a6, a7, a8, a9, a10, .inr a11⟩
        · rename_i f args hres
          have hcall : aop P fr.tm { heap := .leaf, next := 0, log := [] } o = some (.round f args) := by
            unfold isCallRes at hres
            split at hres
            · cases hres
            · rename_i q; cases hres; exact q
            · cases hres
          obtain ⟨V, h1, a1, a2, a3, a4, a5, a6, a7, a8, a9, a10, a11⟩ := callD_facts (fun f args h v h' q => (hr f args h v h' q).1) hrec hx
          exact ⟨V, h1, .round f args v h1 hcall a1, a2, a3, a4, a5, a6, a7, a8, a9, a10, .inr a11⟩
        · exact sd _ _ _ hx
      · exact sd _ _ _ hx

/-- the text's order, state by state -/
theorem drawW_states (hc : CallOK P call) (hr : RoundOK P round) {ops : Array Oper} : ∀ {l : List Oper} {i : Nat} {ms : List Nat} {recs : List Rec} {fr : Fr} {h : Hs} {fr' : Fr} {h' : Hs}, drawW P call round ops l i ms recs fr h = some (fr', h') → (∀ r, r ∈ recs → r.hi ≤ h.next) →
    ∃ (σ : Nat → DS) (ε : Nat → Eff), σ 0 = ⟨fr, h, recs⟩ ∧ (σ l.length).fr = fr' ∧ (σ l.length).h = h' ∧ ∀ k o, l[k]? = some o → ∃ m, ms[k]? = some m ∧ Facts P call round ops (i + k) o m (σ k) (σ (k + 1)) (ε k)
  | [], i, ms, recs, fr, h, fr', h', hs, hrec => by
    simp only [drawW, Option.some.injEq, Prod.mk.injEq] at hs
    exact ⟨fun _ => ⟨fr, h, recs⟩, fun _ => ⟨false, .leaf, h, undef, ⟨i, false, [], [], h.next, h.next⟩⟩, rfl, hs.1, hs.2, fun k o ho => by simp at ho⟩
  | o :: l, i, ms, recs, fr, h, fr', h', hs, hrec => by
    obtain ⟨m, ms', e, fr1, h1, recs1, rfl, hf, hrec1, hs1⟩ := drawW_cons hc hr hs hrec
    obtain ⟨σ, ε, s0, s1, s2, s3⟩ := drawW_states hc hr hs1 hrec1
    refine ⟨fun k => match k with | 0 => ⟨fr, h, recs⟩ | k + 1 => σ k, fun k => match k with | 0 => e | k + 1 => ε k, rfl, s1, s2, fun k o' ho' => ?_⟩
    cases k with
    | zero =>
      simp at ho'; subst ho'
      exact ⟨m, rfl, by simpa [s0] using hf⟩
    | succ k =>
      obtain ⟨m', q1, q2⟩ := s3 k o' (by simpa using ho')
      refine ⟨m', by simpa using q1, ?_⟩
      rw [show i + (k + 1) = i + 1 + k by omega]
      exact q2
end
end Go.AV
