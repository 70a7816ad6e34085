/-
  A part of the proof: lemmas of my own.
-/
import Derived.Test.YtamocmgfbonodaaGreatAvD
set_option linter.unusedVariables false
set_option linter.unusedSimpArgs false
namespace Go.AV

/-! ### Folds of updates -/
def foldU {α : Type} (S : Nat → Bool) (u : Nat → Nat → Option α) : Nat → (Nat → α) → Nat → α
  | 0, f, b => f b
  | n + 1, f, b => if S n then (u n b).getD (foldU S u n f b) else foldU S u n f b

theorem foldU_agree {α : Type} {S S' : Nat → Bool} {u : Nat → Nat → Option α} {f : Nat → α} {b : Nat} : ∀ {n : Nat}, (∀ k, k < n → u k b ≠ none → S k = S' k) → foldU S u n f b = foldU S' u n f b
  | 0, _ => rfl
  | n + 1, h => by
    have ih := foldU_agree (f := f) (n := n) fun k hk => h k (by omega)
    simp only [foldU, ih]
    cases hu : u n b with
    | none => simp
    | some x => rw [h n (by omega) (by rw [hu]; simp)]

theorem foldU_insert {α : Type} {S : Nat → Bool} {u : Nat → Nat → Option α} {f : Nat → α} {b j : Nat} (hS : S j = false) : ∀ {n : Nat}, j < n → (∀ k, j < k → k < n → S k = true → u j b ≠ none → u k b = none) →
    foldU (fun k => k == j || S k) u n f b = (u j b).getD (foldU S u n f b)
  | 0, h, _ => by omega
  | n + 1, h, hk => by
    cases hu : u j b with
    | none =>
      rw [Option.getD_none]
      exact foldU_agree fun k _ hk' => by
        have : k ≠ j := fun he => hk' (he ▸ hu)
        simp [this]
    | some x =>
      rw [Option.getD_some]
      by_cases hn : n = j
      · subst hn; simp [foldU, hu]
      · have ih := foldU_insert (f := f) (n := n) hS (by omega) fun k h1 h2 => hk k h1 (by omega)
        rw [hu, Option.getD_some] at ih
        simp only [foldU, ih]
        have hne : (n == j) = false := by simpa using hn
        rw [hne, Bool.false_or]
        split
        · rename_i hs
          rw [hk n (by omega) (by omega) hs (by rw [hu]; simp)]; rfl
        · rfl

/-- what an operation saw of the heap in the text's order is there in another -/
theorem foldU_prefix {α : Type} {S : Nat → Bool} {u : Nat → Nat → Option α} {f : Nat → α} {b j : Nat} : ∀ {n : Nat}, j ≤ n → (∀ k, k < j → u k b ≠ none → S k = true) → (∀ k, j ≤ k → k < n → S k = true → u k b = none) →
    foldU S u n f b = foldU (fun _ => true) u j f b := by
  intro n hjn h1 h2
  induction n with
  | zero => have : j = 0 := by omega
            subst this; rfl
  | succ n ih =>
    by_cases hj : j = n + 1
    · subst hj
      exact foldU_agree fun k hk hu => h1 k hk hu
    · have := ih (by omega) fun k a c => h2 k a (by omega)
      simp only [foldU, this]
      split
      · rename_i hs
        rw [h2 n (by omega) (by omega) hs]; rfl
      · rfl

theorem foldU_none {α : Type} {u : Nat → Nat → Option α} {f : Nat → α} {b : Nat} {S : Nat → Bool} : ∀ {n : Nat}, (∀ k, k < n → S k = false) → foldU S u n f b = f b
  | 0, _ => rfl
  | n + 1, h => by simp only [foldU, h n (by omega), Bool.false_eq_true, if_false]; exact foldU_none fun k hk => h k (by omega)

/-! ### What happens on a view -/
theorem Step.relabel {ρ ρ' : Ren} {H H' : HF} {w w' : World} {lo hi lo' hi' : Nat} (h : Step ρ H w ρ' H' w' lo hi) (hr : ∀ b, b < lo' ∨ hi' ≤ b → ρ' b = ρ b) : Step ρ H w ρ' H' w' lo' hi' := { h with rng := hr }

theorem Step.trans2 {ρ ρ1 ρ2 : Ren} {H H1 H2 : HF} {w w1 w2 : World} {lo hi a b c d : Nat} (h : Step ρ H w ρ1 H1 w1 a b) (k : Step ρ1 H1 w1 ρ2 H2 w2 c d) (h1 : lo ≤ a) (h2 : b ≤ hi) (h3 : lo ≤ c) (h4 : d ≤ hi) : Step ρ H w ρ2 H2 w2 lo hi := by
  refine ⟨k.os.trans h.os, k.tape.trans h.tape, k.output.trans h.output, Nat.le_trans h.size k.size, ?_, ?_, ?_, h.ext.trans k.ext, fun x hx => by rw [k.rng x (by omega), h.rng x (by omega)]⟩
  · intro r hr hno
    rw [k.same r (Nat.lt_of_lt_of_le hr h.size) ?_, h.same r hr hno]
    intro i o L hi ho hL he
    rcases h.own i o L hi ho hL with ⟨j, oj, Lj, hj, hoj, hLj, hej⟩ | hge
    · exact hno j oj Lj hj hoj hLj (hej.trans he)
    · omega
  · intro i o L hi ho hL
    rcases k.own i o L hi ho hL with ⟨j, oj, Lj, hj, hoj, hLj, hej⟩ | hge
    · rcases h.own j oj Lj hj hoj hLj with ⟨m, om, Lm, hm, hom, hLm, hem⟩ | hge
      · exact .inl ⟨m, om, Lm, hm, hom, hLm, hem.trans hej⟩
      · exact .inr (hej ▸ hge)
    · exact .inr (Nat.le_trans h.size hge)
  · intro i o L hi hL
    rcases k.any i o L hi hL with ⟨j, oj, Lj, hj, hLj, hej⟩ | hge
    · rcases h.any j oj Lj hj hLj with ⟨m, om, Lm, hm, hLm, hem⟩ | hge
      · exact .inl ⟨m, om, Lm, hm, hLm, hem.trans hej⟩
      · exact .inr (hej ▸ hge)
    · exact .inr (Nat.le_trans h.size hge)

theorem frame {ρ ρ' : Ren} {V H1 HS H2 : HF} {U : Nat → Prop} {w w' : World} {lo hi : Nat} (hv : ∀ b o, V b = some o → HS b = some o) (hU : ∀ b, ¬ U b → H1 b = V b)
    (h2 : ∀ b, U b → H2 b = H1 b) (h2' : ∀ b, ¬ U b → H2 b = HS b)
    (hh : HRel ρ HS w) (hh1 : HRel ρ' H1 w') (hs : Step ρ V w ρ' H1 w' lo hi) : HRel ρ' H2 w' ∧ Step ρ HS w ρ' H2 w' lo hi := by
  -- what stands in the new heap: a thing of the result's, or one that the view did not hold
  have cs : ∀ b o, H2 b = some o → H1 b = some o ∨ (V b = none ∧ HS b = some o) := by
    intro b o hb
    by_cases hu : U b
    · exact .inl (by rw [← h2 b hu]; exact hb)
    · have hb' : HS b = some o := by rw [← h2' b hu]; exact hb
      cases hV : V b with
      | none => exact .inr ⟨rfl, hb'⟩
      | some o' =>
        have := hv b o' hV
        rw [hb'] at this
        exact .inl (by rw [hU b hu, hV, this])
  have rest : ∀ b o, V b = none → HS b = some o → ∃ L x, ρ b = some L ∧ ρ' b = some L ∧ L.φ < w.heap.size ∧ w'.heap[L.φ]? = some x ∧ OR ρ' L o x ∧ (∀ i oi Li, V i = some oi → oi.owned = true → ρ i = some Li → Li.φ ≠ L.φ) := by
    intro b o hV hb
    obtain ⟨L, x, h1, h3, h4⟩ := hh.obj b o hb
    have hlt : L.φ < w.heap.size := (Array.getElem?_eq_some_iff.1 h3).1
    have hno : ∀ i oi Li, V i = some oi → oi.owned = true → ρ i = some Li → Li.φ ≠ L.φ := by
      intro i oi Li hi hoi hLi he
      have hib : b ≠ i := fun h => by subst h; rw [hV] at hi; cases hi
      exact hh.inj b i o oi L Li hb (hv i oi hi) hib hoi h1 hLi he.symm
    exact ⟨L, x, h1, hs.ext _ _ h1, hlt, by rw [hs.same _ hlt hno]; exact h3, h4.mono hs.ext, hno⟩
  refine ⟨⟨fun b o hb => ?_, fun i j oi oj Li Lj hi hj hij hoj hLi hLj => ?_⟩, ?_⟩
  · rcases cs b o hb with h | ⟨hV, h⟩
    · exact hh1.obj b o h
    · obtain ⟨L, x, a, b', c, d, e, _⟩ := rest b o hV h
      exact ⟨L, x, b', d, e⟩
  · rcases cs i oi hi with h | ⟨hV, h⟩
    · rcases cs j oj hj with k | ⟨hW, k⟩
      · exact hh1.inj i j oi oj Li Lj h k hij hoj hLi hLj
      · obtain ⟨L, x, a, b', c, d, e, g⟩ := rest j oj hW k
        rw [hLj] at b'; cases b'
        rcases hs.any i oi Li h hLi with ⟨m, om, Lm, hm, hLm, hem⟩ | hge
        · intro he
          have hmj : m ≠ j := fun h => by subst h; rw [hW] at hm; cases hm
          exact hh.inj m j om oj Lm Lj (hv m om hm) k hmj hoj hLm a (hem.trans he)
        · omega
    · obtain ⟨L, x, a, b', c, d, e, g⟩ := rest i oi hV h
      rw [hLi] at b'; cases b'
      rcases cs j oj hj with k | ⟨hW, k⟩
      · rcases hs.own j oj Lj k hoj hLj with ⟨m, om, Lm, hm, hom, hLm, hem⟩ | hge
        · exact fun he => g m om Lm hm hom hLm (hem.trans he.symm)
        · omega
      · obtain ⟨L2, x2, a2, b2, c2, d2, e2, g2⟩ := rest j oj hW k
        rw [hLj] at b2; cases b2
        exact hh.inj i j oi oj Li Lj h k hij hoj a a2
  · refine ⟨hs.os, hs.tape, hs.output, hs.size, fun r hr hno => hs.same r hr fun b o L hb => hno b o L (hv b o hb), fun b o L hb ho hL => ?_, fun b o L hb hL => ?_, hs.ext, hs.rng⟩
    · rcases cs b o hb with h | ⟨hV, h⟩
      · rcases hs.own b o L h ho hL with ⟨m, om, Lm, hm, hom, hLm, hem⟩ | hge
        · exact .inl ⟨m, om, Lm, hv m om hm, hom, hLm, hem⟩
        · exact .inr hge
      · obtain ⟨L2, x2, a2, b2, _⟩ := rest b o hV h
        rw [hL] at b2; cases b2
        exact .inl ⟨b, o, L, h, ho, a2, rfl⟩
    · rcases cs b o hb with h | ⟨hV, h⟩
      · rcases hs.any b o L h hL with ⟨m, om, Lm, hm, hLm, hem⟩ | hge
        · exact .inl ⟨m, om, Lm, hv m om hm, hLm, hem⟩
        · exact .inr hge
      · obtain ⟨L2, x2, a2, b2, _⟩ := rest b o hV h
        rw [hL] at b2; cases b2
        exact .inl ⟨b, o, L, h, a2, rfl⟩

end Go.AV

namespace Go.AV

theorem forceN_eq {α : Type} (n : Nat) (k : Nat → α) : forceN n k = k n := by cases n <;> rfl

/-- what a mask says -/
structure MaskAt (R : List Nat) (k : Nat) (es : List Edge) (m : Nat) : Prop where
  before : ∀ e, e ∈ es → Region.binds .any e = true → e.on < k
  bits : ∀ b, m.testBit b = true → ∃ e, e ∈ es ∧ Region.binds .any e = true ∧ (b = e.on ∨ ∃ m', R[e.on]? = some m' ∧ m'.testBit b = true)

theorem maskOf_spec {acc : List Nat} {k : Nat} (hk : acc.length = k) : ∀ {es : List Edge} {m : Nat}, maskOf acc k es = some m → MaskAt acc.reverse k es m
  | [], m, h => by
    simp only [maskOf, Option.some.injEq] at h
    subst h
    exact ⟨fun e he => (by cases he), fun b hb => (by simp at hb)⟩
  | e :: es, m, h => by
    simp only [maskOf] at h
    split at h
    · rename_i hb
      split at h
      · rename_i m1 r hlt hn hr
        cases h
        rw [Nat.blt_eq] at hlt
        obtain ⟨i1, i2⟩ := maskOf_spec hk hr
        rw [nth_eq] at hn
        refine ⟨fun e' he' hb' => ?_, fun b hbit => ?_⟩
        · rcases List.mem_cons.1 he' with rfl | he'
          · exact hlt
          · exact i1 e' he' hb'
        · simp only [Nat.testBit_or, Bool.or_eq_true, Nat.testBit_two_pow, decide_eq_true_eq] at hbit
          rcases hbit with (h1 | h1) | h1
          · exact ⟨e, List.mem_cons_self .., hb, .inl h1.symm⟩
          · refine ⟨e, List.mem_cons_self .., hb, .inr ⟨m1, ?_, h1⟩⟩
            rw [List.getElem?_reverse (by omega), hk]; exact hn
          · obtain ⟨e', he', a, c⟩ := i2 b h1
            exact ⟨e', List.mem_cons_of_mem _ he', a, c⟩
      · cases h
    · rename_i hb
      obtain ⟨i1, i2⟩ := maskOf_spec hk h
      refine ⟨fun e' he' hb' => ?_, fun b hbit => ?_⟩
      · rcases List.mem_cons.1 he' with rfl | he'
        · rw [hb] at hb'; cases hb'
        · exact i1 e' he' hb'
      · obtain ⟨e', he', a, c⟩ := i2 b hbit
        exact ⟨e', List.mem_cons_of_mem _ he', a, c⟩

theorem masks_spec : ∀ {l : List Oper} {i : Nat} {acc res : List Nat}, masks l i acc = some res → acc.length = i →
    (∃ pre, res = pre ++ acc) ∧ res.length = i + l.length ∧ ∀ t o, l[t]? = some o → ∃ m, res.reverse[i + t]? = some m ∧ MaskAt res.reverse (i + t) o.after.toList m
  | [], i, acc, res, h, hl => by
    simp only [masks, Option.some.injEq] at h
    subst h
    exact ⟨⟨[], rfl⟩, by simp [hl], fun t o ho => by simp at ho⟩
  | o :: l, i, acc, res, h, hl => by
    simp only [masks] at h
    split at h
    · rename_i m hm
      rw [forceN_eq] at h
      obtain ⟨⟨pre, hpre⟩, hlen, hall⟩ := masks_spec h (by simp [hl])
      refine ⟨⟨pre ++ [m], by simp [hpre]⟩, by rw [hlen]; simp; omega, fun t o' ho' => ?_⟩
      cases t with
      | zero =>
        simp at ho'; subst ho'
        obtain ⟨s1, s2⟩ := maskOf_spec hl hm
        have hrev : res.reverse = acc.reverse ++ (m :: pre.reverse) := by rw [hpre]; simp
        refine ⟨m, ?_, s1, fun b hb => ?_⟩
        · rw [hrev, Nat.add_zero, List.getElem?_append_right (by simp [hl])]; simp [hl]
        · obtain ⟨e, he, hbe, hc⟩ := s2 b hb
          refine ⟨e, he, hbe, ?_⟩
          rcases hc with hc | ⟨m', h1, h2⟩
          · exact .inl hc
          · exact .inr ⟨m', by rw [hrev, List.getElem?_append_left (by simpa [hl] using s1 e he hbe)]; exact h1, h2⟩
      | succ t =>
        have := hall t o' (by simpa using ho')
        rw [show i + (t + 1) = i + 1 + t by omega]
        exact this
    · cases h

def Apt (ops : Array Oper) (m j : Nat) (p o : Oper) : Prop :=
  m.testBit j = true ∨ ((∀ d, p.dst = some d → d ∉ namesOf ops o) ∧ (∀ d, o.dst = some d → d ∉ namesOf ops p))

theorem memN_false {n : Nat} {l : List Nat} (h : memN n l = false) : n ∉ l := fun hm => by
  rw [memN_spec.2 hm] at h; cases h

theorem tmpsOk_spec {ops : Array Oper} {ms : List Nat} : ∀ {l : List Oper} {i : Nat} {prev : List (Nat × Oper)}, tmpsOk ops ms l i prev = true → ∀ t o, l[t]? = some o → ∃ m, ms[i + t]? = some m ∧
    (∀ j p, (j, p) ∈ prev → Apt ops m j p o) ∧ (∀ s p, s < t → l[s]? = some p → Apt ops m (i + s) p o)
  | [], i, prev, h, t, o, ho => by simp at ho
  | o :: l, i, prev, h, t, o', ho => by
    simp only [tmpsOk] at h
    split at h
    · rename_i m hm
      split at h
      · rename_i hall
        cases t with
        | zero =>
          simp at ho; subst ho
          refine ⟨m, by rw [← nth_eq]; exact hm, fun j p hjp => ?_, fun s p hs => by omega⟩
          have := List.all_eq_true.1 hall (j, p) hjp
          simp only [Bool.or_eq_true, Bool.and_eq_true] at this
          rcases this with h1 | ⟨h1, h2⟩
          · exact .inl h1
          · refine .inr ⟨fun d hd => ?_, fun d hd => ?_⟩
            · rw [hd] at h1; exact memN_false (by simpa using h1)
            · rw [hd] at h2; exact memN_false (by simpa using h2)
        | succ t =>
          obtain ⟨m', h1, h2, h3⟩ := tmpsOk_spec h t o' (by simpa using ho)
          refine ⟨m', by rw [← h1]; congr 1; omega, fun j p hjp => h2 j p (List.mem_cons_of_mem _ hjp), fun s p hs hp => ?_⟩
          cases s with
          | zero => simp at hp; subst hp; exact h2 i o (List.mem_cons_self ..)
          | succ s =>
            have := h3 s p (by omega) (by simpa using hp)
            rw [show i + (s + 1) = i + 1 + s by omega]; exact this
      · cases h
    · cases h

structure Plan (ops : Array Oper) (ms : List Nat) : Prop where
  len : ms.length = ops.size
  mask : ∀ k o, ops[k]? = some o → ∃ m, ms[k]? = some m ∧ MaskAt ms k o.after.toList m
  tmps : ∀ k o j p, ops[k]? = some o → ops[j]? = some p → j < k → ∃ m, ms[k]? = some m ∧ Apt ops m j p o

theorem planOf_spec {ops : Array Oper} {ms : List Nat} (h : planOf ops = some ms) : Plan ops ms := by
  unfold planOf at h
  split at h
  · rename_i r hr
    split at h
    · rename_i ht
      cases h
      obtain ⟨_, hlen, hall⟩ := masks_spec hr rfl
      refine ⟨by simp [hlen], fun k o ho => ?_, fun k o j p ho hp hjk => ?_⟩
      · have := hall k o (by simpa using ho)
        rw [Nat.zero_add] at this; exact this
      · obtain ⟨m, h1, _, h3⟩ := tmpsOk_spec ht k o (by simpa using ho)
        rw [Nat.zero_add] at h1
        have := h3 j p hjk (by simpa using hp)
        rw [Nat.zero_add] at this
        exact ⟨m, h1, this⟩
    · cases h
  · cases h

/-- a set of operations that holds, with an operation, all that come before it -/
def Closed (ms : List Nat) (S : Nat → Bool) : Prop := ∀ k m, S k = true → ms[k]? = some m → ∀ b, m.testBit b = true → S b = true

theorem Plan.covers {ops : Array Oper} {ms : List Nat} (hp : Plan ops ms) {S : Nat → Bool} (hS : Closed ms S) {k : Nat} {o : Oper} (ho : ops[k]? = some o) (he : ∀ e, e ∈ o.after.toList → Region.binds .any e = true → S e.on = true) {m : Nat} (hm : ms[k]? = some m) :
    ∀ b, m.testBit b = true → S b = true := by
  intro b hb
  obtain ⟨m', h1, h2⟩ := hp.mask k o ho
  rw [hm] at h1; cases h1
  obtain ⟨e, h3, h4, h5⟩ := h2.bits b hb
  rcases h5 with rfl | ⟨m2, h6, h7⟩
  · exact he e h3 h4
  · exact hS e.on m2 (he e h3 h4) h6 b h7

end Go.AV

namespace Go.AV

theorem viewOf_get (h : Hs) (b : Nat) : ∀ (l : List Nat), (viewOf h l).get b = if b ∈ l then h.heap.get b else none
  | [] => by simp [viewOf, T.get_leaf]
  | c :: l => by
    have ih := viewOf_get h b l
    simp only [viewOf]
    split
    · rename_i o ho
      rw [T.get_set, ih]
      by_cases hb : b = c
      · subst hb; simp [ho]
      · simp [hb]
    · rename_i ho
      rw [ih]
      by_cases hb : b = c
      · subst hb; simp [ho]
      · simp [hb]

theorem mergeAt_get (t s : T AObj) (b : Nat) : ∀ (l : List Nat), (mergeAt t s l).get b = if b ∈ l then s.get b else t.get b
  | [] => by simp [mergeAt]
  | c :: l => by
    have ih := mergeAt_get t s b l
    simp only [mergeAt]
    split
    · rename_i o ho
      rw [T.get_set, ih]
      by_cases hb : b = c
      · subst hb; simp [ho]
      · simp [hb]
    · rename_i ho
      rw [T.get_del, ih]
      by_cases hb : b = c
      · subst hb; simp [ho]
      · simp [hb]

theorem delAll_get (t : T AObj) (b : Nat) : ∀ (l : List Nat), (delAll t l).get b = if b ∈ l then none else t.get b
  | [] => by simp [delAll]
  | c :: l => by
    simp only [delAll, T.get_del, delAll_get t b l]
    by_cases hb : b = c
    · subst hb; simp
    · simp [hb]

theorem range'_mem (b : Nat) : ∀ (n lo : Nat), b ∈ range' lo n ↔ lo ≤ b ∧ b < lo + n
  | 0, lo => by simp [range']
  | n + 1, lo => by
    simp only [range', List.mem_cons, range'_mem b n]
    omega

theorem disj_spec : ∀ {l m : List Nat}, disj l m = true → ∀ b, b ∈ l → b ∉ m
  | [], _, _, b, hb => by cases hb
  | a :: l, m, h, b, hb => by
    simp only [disj] at h
    split at h
    · cases h
    · rename_i ha
      rcases List.mem_cons.1 hb with rfl | hb
      · exact memN_false ha
      · exact disj_spec h b hb

theorem hidden_mem {mask b : Nat} : ∀ {l : List Rec}, b ∈ hidden mask l ↔ ∃ r, r ∈ l ∧ mask.testBit r.i = false ∧ r.lo ≤ b ∧ b < r.lo + (r.hi - r.lo)
  | [] => by simp [hidden]
  | r :: l => by
    have ih := hidden_mem (mask := mask) (b := b) (l := l)
    simp only [hidden]
    split
    · rename_i h
      rw [ih]
      constructor
      · rintro ⟨r', h1, h2⟩; exact ⟨r', List.mem_cons_of_mem _ h1, h2⟩
      · rintro ⟨r', h1, h2, h3⟩
        rcases List.mem_cons.1 h1 with rfl | h1
        · rw [h] at h2; cases h2
        · exact ⟨r', h1, h2, h3⟩
    · rename_i h
      rw [List.mem_append, ih, range'_mem]
      constructor
      · rintro (h1 | ⟨r', h1, h2⟩)
        · exact ⟨r, List.mem_cons_self .., h, h1⟩
        · exact ⟨r', List.mem_cons_of_mem _ h1, h2⟩
      · rintro ⟨r', h1, h2, h3⟩
        rcases List.mem_cons.1 h1 with rfl | h1
        · exact .inl h3
        · exact .inr ⟨r', h1, h2, h3⟩

structure DS where
  fr : Fr
  h : Hs
  recs : List Rec

structure Eff where
  on : Bool
  V : T AObj
  h1 : Hs
  v : Value
  r : Rec

inductive Ran (P : Program) (call round : CallF) (o : Oper) (tm : Tm) (V : T AObj) (next : Nat) : Value → Hs → Prop where
  | val (v : Value) (h1 : Hs) (h : aop P tm { heap := V, next := next, log := [] } o = some (.val v h1)) : Ran P call round o tm V next v h1
  | skip (h1 : Hs) (h : aop P tm { heap := V, next := next, log := [] } o = some (.skip h1)) : Ran P call round o tm V next undef h1
  | call (f : Nat) (args : List Value) (v : Value) (h1 : Hs) (h : aop P tm { heap := .leaf, next := 0, log := [] } o = some (.call f args)) (k : call f args { heap := V, next := next, log := [] } = some (v, h1)) : Ran P call round o tm V next v h1
  | round (f : Nat) (args : List Value) (v : Value) (h1 : Hs) (h : aop P tm { heap := .leaf, next := 0, log := [] } o = some (.round f args)) (k : round f args { heap := V, next := next, log := [] } = some (v, h1)) : Ran P call round o tm V next v h1

theorem Ran.mod {P : Program} {call round : CallF} (hc : CallOK P call) (hr : RoundOK P round) {o : Oper} {tm : Tm} {V : T AObj} {next : Nat} {v : Value} {h1 : Hs} (h : Ran P call round o tm V next v h1) : Mod { heap := V, next := next, log := [] } h1 := by
  cases h with
  | val _ _ h => exact aop_mod h
  | skip _ h => exact aop_mod h
  | call _ _ _ _ h k => exact (hc _ _ _ _ _ k).1
  | round _ _ _ _ h k => exact (hr _ _ _ _ _ k).1

/-- what an operation has turned -/
def Eff.U (e : Eff) (b : Nat) : Prop := e.on = true ∧ (b ∈ e.h1.log ∨ (e.r.lo ≤ b ∧ b < e.r.hi))

structure OnFacts (P : Program) (call round : CallF) (i : Nat) (o : Oper) (m : Nat) (s s' : DS) (e : Eff) : Prop where
  ran : Ran P call round o s.fr.tm e.V s.h.next e.v e.h1
  next : s'.h.next = e.h1.next
  log : s'.h.log = e.h1.log ++ s.h.log
  heap : ∀ b, s'.h.heap.get b = if b ∈ e.h1.log ∨ (e.r.lo ≤ b ∧ b < e.r.hi) then e.h1.heap.get b else s.h.heap.get b
  view : ∀ b x, e.V.get b = some x → s.h.heap.get b = some x
  recs : s'.recs = e.r :: s.recs
  ri : e.r.i = i
  rlo : e.r.lo = s.h.next
  rhi : e.r.hi = e.h1.next
  rw : e.r.writes = e.h1.log
  apart : apartRs m e.r s.recs = true
  kind : (e.r.all = false ∧ (∀ b, e.V.get b ≠ none → b ∈ e.r.reads) ∧ ∀ b, b ∈ e.h1.log → b ∈ e.r.reads) ∨
    (e.r.all = true ∧ (∀ b, e.V.get b ≠ none → b ∉ hidden m s.recs) ∧ ∀ b, b ∈ e.h1.log → b ∉ hidden m s.recs)

structure Facts (P : Program) (call round : CallF) (ops : Array Oper) (i : Nat) (o : Oper) (m : Nat) (s s' : DS) (e : Eff) : Prop where
  want : wantedB ops s.fr.tm o = some e.on
  put : s.fr.put o.dst e.v = some s'.fr
  off : e.on = false → e.v = undef ∧ s'.h = s.h ∧ s'.recs = s.recs
  onn : e.on = true → OnFacts P call round i o m s s' e

section
variable {P : Program} {call round : CallF}

theorem stepD_facts {m i : Nat} {recs : List Rec} {tm : Tm} {h : Hs} {o : Oper} {v : Value} {h' : Hs} {r : Rec} (hs : stepD P m i recs tm h o = some (v, h', r)) :
    ∃ V h1, Ran P call round o tm V h.next v h1 ∧ h'.next = h1.next ∧ h'.log = h1.log ++ h.log ∧ (∀ b, h'.heap.get b = if b ∈ h1.log ∨ (r.lo ≤ b ∧ b < r.hi) then h1.heap.get b else h.heap.get b) ∧
      (∀ b x, V.get b = some x → h.heap.get b = some x) ∧ r.i = i ∧ r.lo = h.next ∧ r.hi = h1.next ∧ r.writes = h1.log ∧ apartRs m r recs = true ∧
      (r.all = false ∧ (∀ b, V.get b ≠ none → b ∈ r.reads) ∧ ∀ b, b ∈ h1.log → b ∈ r.reads) := by
  have fin : ∀ {v0 : Value} {h1 : Hs}, h.next ≤ h1.next → stepD.fin m i recs h (touches tm h o) v0 h1 = some (v, h', r) → v0 = v ∧ h'.next = h1.next ∧ h'.log = h1.log ++ h.log ∧ (∀ b, h'.heap.get b = if b ∈ h1.log ∨ (r.lo ≤ b ∧ b < r.hi) then h1.heap.get b else h.heap.get b) ∧
      r.i = i ∧ r.lo = h.next ∧ r.hi = h1.next ∧ r.writes = h1.log ∧ apartRs m r recs = true ∧
      (r.all = false ∧ (∀ b, (viewOf h (touches tm h o)).get b ≠ none → b ∈ r.reads) ∧ ∀ b, b ∈ h1.log → b ∈ r.reads) := by
    intro v0 h1 hn hf
    unfold stepD.fin at hf
    dsimp only at hf
    split at hf
    · rename_i ha
      cases hf
      refine ⟨rfl, rfl, rfl, fun b => ?_, rfl, rfl, rfl, rfl, ha, rfl, fun b hb => ?_, fun b hb => List.mem_append_right _ hb⟩
      · rw [mergeAt_get]
        simp only [List.mem_append, range'_mem]
        have : (b ∈ h1.log ∨ h.next ≤ b ∧ b < h.next + (h1.next - h.next)) ↔ (b ∈ h1.log ∨ h.next ≤ b ∧ b < h1.next) := by
          constructor <;> (rintro (q | q); · exact .inl q
                           · exact .inr (by omega))
        by_cases hq : b ∈ h1.log ∨ h.next ≤ b ∧ b < h1.next
        · rw [if_pos hq, if_pos (this.2 hq)]
        · rw [if_neg hq, if_neg (fun c => hq (this.1 c))]
      · rw [viewOf_get] at hb
        refine List.mem_append_left _ ?_
        by_cases hm : b ∈ touches tm h o
        · exact hm
        · rw [if_neg hm] at hb; exact (hb rfl).elim
    · cases hf
  have vw : ∀ b x, (viewOf h (touches tm h o)).get b = some x → h.heap.get b = some x := by
    intro b x hb
    rw [viewOf_get] at hb
    split at hb
    · exact hb
    · cases hb
  unfold stepD at hs
  dsimp only at hs
  split at hs
  · rename_i v0 h1 ha
    obtain ⟨rfl, a1, a2, a3, a4, a5, a6, a7, a8, a9⟩ := fin (aop_mod ha).next hs
    exact ⟨_, h1, .val _ _ ha, a1, a2, a3, vw, a4, a5, a6, a7, a8, a9⟩
  · rename_i h1 ha
    obtain ⟨rfl, a1, a2, a3, a4, a5, a6, a7, a8, a9⟩ := fin (aop_mod ha).next hs
    exact ⟨_, h1, .skip _ ha, a1, a2, a3, vw, a4, a5, a6, a7, a8, a9⟩
  · cases hs

theorem callD_facts {cl : CallF} (hc : ∀ f args h v h', cl f args h = some (v, h') → Mod h h') {m i : Nat} {recs : List Rec} {f : Nat} {args : List Value} {h : Hs} {v : Value} {h' : Hs} {r : Rec} (hrec : ∀ r, r ∈ recs → r.hi ≤ h.next) (hs : callD cl m i recs f args h = some (v, h', r)) :
    ∃ V h1, cl f args { heap := V, next := h.next, log := [] } = some (v, h1) ∧ h'.next = h1.next ∧ h'.log = h1.log ++ h.log ∧ (∀ b, h'.heap.get b = if b ∈ h1.log ∨ (r.lo ≤ b ∧ b < r.hi) then h1.heap.get b else h.heap.get b) ∧
      (∀ b x, V.get b = some x → h.heap.get b = some x) ∧ r.i = i ∧ r.lo = h.next ∧ r.hi = h1.next ∧ r.writes = h1.log ∧ apartRs m r recs = true ∧
      (r.all = true ∧ (∀ b, V.get b ≠ none → b ∉ hidden m recs) ∧ ∀ b, b ∈ h1.log → b ∉ hidden m recs) := by
  unfold callD at hs
  dsimp only at hs
  split at hs
  · rename_i v0 h1 hcall
    split at hs
    · rename_i ha hd
      cases hs
      have hm := hc _ _ _ _ _ hcall
      have hd := disj_spec hd
      refine ⟨_, h1, hcall, rfl, rfl, fun b => ?_, fun b x hb => ?_, rfl, rfl, rfl, rfl, ha, rfl, fun b hb => ?_, fun b hb => hd b hb⟩
      · rw [mergeAt_get]
        obtain ⟨l, l1, l2, l3⟩ := hm.log
        simp only [List.append_nil] at l1
        subst l1
        by_cases hh : b ∈ hidden m recs
        · rw [if_pos hh]
          obtain ⟨r0, h1', h2, h3, h4⟩ := hidden_mem.1 hh
          have := hrec r0 h1'
          rw [if_neg]
          rintro (q | q)
          · exact hd b q hh
          · simp only at q; omega
        · rw [if_neg hh]
          split
          · rfl
          · rename_i q
            rw [not_or] at q
            simp only at q
            rw [l3 b (by simp only; omega) q.1]
            show (delAll h.heap (hidden m recs)).get b = _
            rw [delAll_get, if_neg hh]
      · rw [delAll_get] at hb
        split at hb
        · cases hb
        · exact hb
      · rw [delAll_get] at hb
        split at hb
        · exact (hb rfl).elim
        · assumption
    · cases hs
  · cases hs
def OneOK (P : Program) (call round : CallF) (o : Oper) (tm : Tm) (h : Hs) (m i : Nat) (recs : List Rec) (v : Value) (h' : Hs) (r : Rec) : Prop :=
  ∃ V h1, Ran P call round o tm V h.next v h1 ∧ h'.next = h1.next ∧ h'.log = h1.log ++ h.log ∧ (∀ b, h'.heap.get b = if b ∈ h1.log ∨ (r.lo ≤ b ∧ b < r.hi) then h1.heap.get b else h.heap.get b) ∧
        (∀ b x, V.get b = some x → h.heap.get b = some x) ∧ r.i = i ∧ r.lo = h.next ∧ r.hi = h1.next ∧ r.writes = h1.log ∧ apartRs m r recs = true ∧
        ((r.all = false ∧ (∀ b, V.get b ≠ none → b ∈ r.reads) ∧ ∀ b, b ∈ h1.log → b ∈ r.reads) ∨ (r.all = true ∧ (∀ b, V.get b ≠ none → b ∉ hidden m recs) ∧ ∀ b, b ∈ h1.log → b ∉ hidden m recs))

theorem drawW_cons (hc : CallOK P call) (hr : RoundOK P round) {ops : Array Oper} {o : Oper} {l : List Oper} {i : Nat} {ms : List Nat} {recs : List Rec} {fr : Fr} {h : Hs} {res : Fr × Hs} (hs : drawW P call round ops (o :: l) i ms recs fr h = some res) (hrec : ∀ r, r ∈ recs → r.hi ≤ h.next) :
    ∃ m ms' e fr' h' recs', ms = m :: ms' ∧ Facts P call round ops i o m ⟨fr, h, recs⟩ ⟨fr', h', recs'⟩ e ∧ (∀ r, r ∈ recs' → r.hi ≤ h'.next) ∧ drawW P call round ops l (i + 1) ms' recs' fr' h' = some res := by
  cases ms with
  | nil => simp [drawW] at hs
  | cons m ms' =>
    have fin : ∀ (x : Option (Value × Hs × Rec)), (∀ v h' r, x = some (v, h', r) → OneOK P call round o fr.tm h m i recs v h' r) →
        wantedB ops fr.tm o = some true →
        (match x with
          | some (v, h, r) => match fr.put o.dst v with
            | some fr => drawW P call round ops l (i + 1) ms' (r :: recs) fr h
            | none => none
          | none => none) = some res →
        ∃ m0 ms0 e fr' h' recs', m :: ms' = m0 :: ms0 ∧ Facts P call round ops i o m0 ⟨fr, h, recs⟩ ⟨fr', h', recs'⟩ e ∧ (∀ r, r ∈ recs' → r.hi ≤ h'.next) ∧ drawW P call round ops l (i + 1) ms0 recs' fr' h' = some res := by
      intro x hx hw hs
      split at hs
      · rename_i v h' r
        split at hs
        · rename_i fr' hput
          obtain ⟨V, h1, a1, a2, a3, a4, a5, a6, a7, a8, a9, a10, a11⟩ := hx v h' r rfl
          have hn := (a1.mod hc hr).next
          refine ⟨m, ms', ⟨true, V, h1, v, r⟩, fr', h', r :: recs, rfl, ⟨hw, hput, fun hf => (by cases hf), fun _ => ⟨a1, a2, a3, a4, a5, rfl, a6, a7, a8, a9, a10, a11⟩⟩, fun r' hr' => ?_, hs⟩
          rcases List.mem_cons.1 hr' with rfl | hr'
          · rw [a8, a2]; exact Nat.le_refl _
          · rw [a2]; exact Nat.le_trans (hrec r' hr') hn
        · cases hs
      · cases hs
    have sd : ∀ v h' r, stepD P m i recs fr.tm h o = some (v, h', r) → OneOK P call round o fr.tm h m i recs v h' r := fun v h' r hx => by
      obtain ⟨V, h1, a1, a2, a3, a4, a5, a6, a7, a8, a9, a10, a11⟩ := stepD_facts (call := call) (round := round) hx
      exact ⟨V, h1, a1, a2, a3, a4, a5, a6, a7, a8, a9, a10, .inl a11⟩
    simp only [drawW] at hs
    split at hs
    · cases hs
    · rename_i hw
      split at hs
      · rename_i fr' hput
        exact ⟨m, ms', ⟨false, .leaf, h, undef, ⟨i, false, [], [], h.next, h.next⟩⟩, fr', h, recs, rfl, ⟨hw, hput, fun _ => ⟨rfl, rfl, rfl⟩, fun hf => by cases hf⟩, hrec, hs⟩
      · cases hs
    · rename_i hw
      refine fin _ (fun v h' r hx => ?_) hw hs
      split at hx
      · split at hx
        · rename_i f args hres
          have hcall : aop P fr.tm { heap := .leaf, next := 0, log := [] } o = some (.call f args) := by
            unfold isCallRes at hres
            split at hres
            · rename_i q; cases hres; exact q
            · cases hres
            · cases hres
          obtain ⟨V, h1, a1, a2, a3, a4, a5, a6, a7, a8, a9, a10, a11⟩ := callD_facts (fun f args h v h' q => (hc f args h v h' q).1) hrec hx
          exact ⟨V, h1, .call f args v h1 hcall a1, a2, a3, a4, a5, a6, a7, a8, a9, a10, .inr a11⟩
        · rename_i f args hres
          have hcall : aop P fr.tm { heap := .leaf, next := 0, log := [] } o = some (.round f args) := by
            unfold isCallRes at hres
            split at hres
            · cases hres
            · rename_i q; cases hres; exact q
            · cases hres
          obtain ⟨V, h1, a1, a2, a3, a4, a5, a6, a7, a8, a9, a10, a11⟩ := callD_facts (fun f args h v h' q => (hr f args h v h' q).1) hrec hx
          exact ⟨V, h1, .round f args v h1 hcall a1, a2, a3, a4, a5, a6, a7, a8, a9, a10, .inr a11⟩
        · exact sd _ _ _ hx
      · exact sd _ _ _ hx

/-- the text's order, state by state -/
theorem drawW_states (hc : CallOK P call) (hr : RoundOK P round) {ops : Array Oper} : ∀ {l : List Oper} {i : Nat} {ms : List Nat} {recs : List Rec} {fr : Fr} {h : Hs} {fr' : Fr} {h' : Hs}, drawW P call round ops l i ms recs fr h = some (fr', h') → (∀ r, r ∈ recs → r.hi ≤ h.next) →
    ∃ (σ : Nat → DS) (ε : Nat → Eff), σ 0 = ⟨fr, h, recs⟩ ∧ (σ l.length).fr = fr' ∧ (σ l.length).h = h' ∧ ∀ k o, l[k]? = some o → ∃ m, ms[k]? = some m ∧ Facts P call round ops (i + k) o m (σ k) (σ (k + 1)) (ε k)
  | [], i, ms, recs, fr, h, fr', h', hs, hrec => by
    simp only [drawW, Option.some.injEq, Prod.mk.injEq] at hs
    exact ⟨fun _ => ⟨fr, h, recs⟩, fun _ => ⟨false, .leaf, h, undef, ⟨i, false, [], [], h.next, h.next⟩⟩, rfl, hs.1, hs.2, fun k o ho => by simp at ho⟩
  | o :: l, i, ms, recs, fr, h, fr', h', hs, hrec => by
    obtain ⟨m, ms', e, fr1, h1, recs1, rfl, hf, hrec1, hs1⟩ := drawW_cons hc hr hs hrec
    obtain ⟨σ, ε, s0, s1, s2, s3⟩ := drawW_states hc hr hs1 hrec1
    refine ⟨fun k => match k with | 0 => ⟨fr, h, recs⟩ | k + 1 => σ k, fun k => match k with | 0 => e | k + 1 => ε k, rfl, s1, s2, fun k o' ho' => ?_⟩
    cases k with
    | zero =>
      simp at ho'; subst ho'
      exact ⟨m, rfl, by simpa [s0] using hf⟩
    | succ k =>
      obtain ⟨m', q1, q2⟩ := s3 k o' (by simpa using ho')
      refine ⟨m', by simpa using q1, ?_⟩
      rw [show i + (k + 1) = i + 1 + k by omega]
      exact q2
end
end Go.AV

namespace Go.AV

theorem evs_congr {tm tm' : Tm} : ∀ {l : List Operand}, (∀ x, x ∈ l → ev tm x = ev tm' x) → evs tm l = evs tm' l
  | [], _ => rfl
  | x :: l, h => by
    simp only [evs, h x (List.mem_cons_self ..), evs_congr (l := l) fun y hy => h y (List.mem_cons_of_mem _ hy)]

theorem evParts_congr {tm tm' : Tm} : ∀ {l : List (Nat × Operand)}, (∀ x, x ∈ l.map (·.2) → ev tm x = ev tm' x) → evParts tm l = evParts tm' l
  | [], _ => rfl
  | (i, x) :: l, h => by
    simp only [evParts, h x (by simp), evParts_congr (l := l) fun y hy => h y (by simp at hy ⊢; exact .inr hy)]

theorem boundO_congr {tm tm' : Tm} {o : Option Operand} {d hi : Nat} (h : ∀ x, o = some x → ev tm x = ev tm' x) : boundO tm o d hi = boundO tm' o d hi := by
  cases o with
  | none => rfl
  | some x => simp only [boundO, h x rfl]

theorem sliceSl_congr {tm tm' : Tm} {h : Hs} {size : Nat} {a : Option Addr} {len cap : Nat} {lo hi mx : Option Operand} (h1 : ∀ x, lo = some x → ev tm x = ev tm' x) (h2 : ∀ x, hi = some x → ev tm x = ev tm' x) (h3 : ∀ x, mx = some x → ev tm x = ev tm' x) :
    sliceSl h tm size a len cap lo hi mx = sliceSl h tm' size a len cap lo hi mx := by
  have e1 : ∀ d k, boundO tm lo d k = boundO tm' lo d k := fun d k => boundO_congr h1
  have e2 : ∀ d k, boundO tm hi d k = boundO tm' hi d k := fun d k => boundO_congr h2
  have e3 : ∀ d k, boundO tm mx d k = boundO tm' mx d k := fun d k => boundO_congr h3
  cases a <;> cases mx <;> cases hi <;> simp only [sliceSl, e1, e2, e3]
  · rename_i m
    generalize boundO tm' (some m) 0 cap = z
    cases cap <;> cases z <;> rfl
  · rename_i m k
    generalize boundO tm' (some m) 0 cap = z
    cases cap <;> cases z <;> first | rfl | simp only [e2]

theorem aslice_congr {P : Program} {tm tm' : Tm} {h : Hs} {t : TypeId} {x : Value} {lo hi mx : Option Operand} (h1 : ∀ x, lo = some x → ev tm x = ev tm' x) (h2 : ∀ x, hi = some x → ev tm x = ev tm' x) (h3 : ∀ x, mx = some x → ev tm x = ev tm' x) :
    aslice P tm h t x lo hi mx = aslice P tm' h t x lo hi mx := by
  have e1 : ∀ d k, boundO tm lo d k = boundO tm' lo d k := fun d k => boundO_congr h1
  have e2 : ∀ d k, boundO tm hi d k = boundO tm' hi d k := fun d k => boundO_congr h2
  have e3 : ∀ size a len cap, sliceSl h tm size a len cap lo hi mx = sliceSl h tm' size a len cap lo hi mx := fun _ _ _ _ => sliceSl_congr h1 h2 h3
  unfold aslice sliceStr
  simp only [e1, e2, e3]

theorem aop_congr {P : Program} {tm tm' : Tm} {h : Hs} {o : Oper} (H : ∀ x, x ∈ o.op.operands.toList → ev tm x = ev tm' x) : aop P tm h o = aop P tm' h o := by
  unfold aop
  cases ho : o.op <;> rw [ho] at H <;> dsimp only [Op.operands] at H ⊢
  case slice t x lo hi mx =>
    rw [H x (by simp)]
    cases ev tm' x with
    | none => rfl
    | some v => exact aslice_congr (fun y hy => H y (by simp [hy])) (fun y hy => H y (by simp [hy])) (fun y hy => H y (by simp [hy]))
  case build t parts => unfold abuild; rw [evParts_congr (l := parts.toList) fun x hx => H x (by simpa using hx)]
  case buildSlice t len parts => unfold abuildSlice; rw [evParts_congr (l := parts.toList) fun x hx => H x (by simpa using hx)]
  case makeFunc fn first captured => rw [evs_congr (l := first.toList) fun x hx => H x (by simp [Array.mem_toList_iff.1 hx]), evs_congr (l := captured.toList) fun x hx => H x (by simp [Array.mem_toList_iff.1 hx])]
  case call c =>
    unfold acall
    rw [evs_congr (l := c.args.toList) fun x hx => H x (by unfold Call.operands; cases c.callee <;> simp [Array.mem_toList_iff.1 hx])]
    cases hc : c.callee with
    | value f => dsimp only; rw [H f (by unfold Call.operands; simp [hc])]
    | builtin b => rfl
    | invoke a b => rfl
  case defer c =>
    unfold adefer
    rw [evs_congr (l := c.args.toList) fun x hx => H x (by unfold Call.operands; cases c.callee <;> simp [Array.mem_toList_iff.1 hx])]
    cases hc : c.callee with
    | value f => dsimp only; rw [H f (by unfold Call.operands; simp [hc])]
    | builtin b => rfl
    | invoke a b => rfl
  all_goals first
    | rfl
    | simp only [H _ (List.mem_cons_self ..), H _ (List.mem_cons_of_mem _ (List.mem_cons_self ..)), H _ (List.mem_cons_of_mem _ (List.mem_cons_of_mem _ (List.mem_cons_self ..)))]
    | simp only [H _ (List.mem_cons_self ..), H _ (List.mem_cons_of_mem _ (List.mem_cons_self ..))]
    | simp only [H _ (List.mem_cons_self ..)]

/-- what an operation looks at: its operands' temporaries, and its guard's -/
theorem ev_names {ops : Array Oper} {o : Oper} {tm tm' : Tm} (h : ∀ t, t ∈ namesOf ops o → rd tm t = rd tm' t) : ∀ x, x ∈ o.op.operands.toList → ev tm x = ev tm' x := by
  intro x hx
  cases x with
  | tmp t =>
    have : t ∈ namesOf ops o := by
      unfold namesOf
      refine List.mem_append_left _ (List.mem_append_left _ ?_)
      rw [List.mem_filterMap]
      exact ⟨.tmp t, hx, rfl⟩
    simp only [ev, h t this]
  | const v => rfl
  | global g => rfl
  | func f => rfl

theorem wantedB_names {ops : Array Oper} {o : Oper} {tm tm' : Tm} (h : ∀ t, t ∈ namesOf ops o → rd tm t = rd tm' t) : wantedB ops tm o = wantedB ops tm' o := by
  unfold wantedB
  cases hg : o.guard with
  | none => rfl
  | some jw =>
    obtain ⟨j, want⟩ := jw
    dsimp only
    cases hd : (nth ops.toList j).bind (·.dst) with
    | none => rfl
    | some d =>
      have : d ∈ namesOf ops o := by
        unfold namesOf
        refine List.mem_append_right _ ?_
        rw [hg]
        simp only
        rw [hd]
        simp
      simp only [h d this]

end Go.AV

namespace Go.AV

theorem apartRs_spec {m : Nat} {new : Rec} : ∀ {l : List Rec}, apartRs m new l = true → ∀ r, r ∈ l → apartR m new r = true
  | [], _, r, hr => by cases hr
  | a :: l, h, r, hr => by
    simp only [apartRs] at h
    split at h
    · rename_i ha
      rcases List.mem_cons.1 hr with rfl | hr
      · exact ha
      · exact apartRs_spec h r hr
    · cases h

theorem isNil_spec {l : List Nat} (h : isNil l = true) : l = [] := by cases l <;> simp [isNil] at h ⊢

theorem disj_comm' {l m : List Nat} (h : disj l m = true) {b : Nat} (hb : b ∈ m) : b ∉ l := fun hl => disj_spec h b hl hb

structure Seq (P : Program) (call round : CallF) (ops : Array Oper) (ms : List Nat) (σ : Nat → DS) (ε : Nat → Eff) : Prop where
  hc : CallOK P call
  hr : RoundOK P round
  recs0 : (σ 0).recs = []
  facts : ∀ k o, ops[k]? = some o → ∃ m, ms[k]? = some m ∧ Facts P call round ops k o m (σ k) (σ (k + 1)) (ε k)

section
variable {P : Program} {call round : CallF} {ops : Array Oper} {ms : List Nat} {σ : Nat → DS} {ε : Nat → Eff}

theorem Seq.fact (h : Seq P call round ops ms σ ε) {k : Nat} (hk : k < ops.size) {m : Nat} (hm : ms[k]? = some m) : Facts P call round ops k ops[k] m (σ k) (σ (k + 1)) (ε k) := by
  obtain ⟨m', h1, h2⟩ := h.facts k ops[k] (by simp [hk])
  rw [hm] at h1; cases h1; exact h2

theorem Seq.getM (h : Seq P call round ops ms σ ε) {k : Nat} (hk : k < ops.size) : ∃ m, ms[k]? = some m ∧ Facts P call round ops k ops[k] m (σ k) (σ (k + 1)) (ε k) := h.facts k ops[k] (by simp [hk])

theorem Seq.modOn (h : Seq P call round ops ms σ ε) {k : Nat} (hk : k < ops.size) (ho : (ε k).on = true) : Mod { heap := (ε k).V, next := (σ k).h.next, log := [] } (ε k).h1 := by
  obtain ⟨m, _, hf⟩ := h.getM hk
  exact (hf.onn ho).ran.mod h.hc h.hr

theorem Seq.next1 (h : Seq P call round ops ms σ ε) {k : Nat} (hk : k < ops.size) : (σ k).h.next ≤ (σ (k + 1)).h.next := by
  obtain ⟨m, _, hf⟩ := h.getM hk
  cases ho : (ε k).on with
  | false => rw [(hf.off ho).2.1]; exact Nat.le_refl _
  | true => rw [(hf.onn ho).next]; exact (h.modOn hk ho).next

theorem Seq.next (h : Seq P call round ops ms σ ε) {k : Nat} : ∀ {j : Nat}, k ≤ j → j ≤ ops.size → (σ k).h.next ≤ (σ j).h.next := by
  intro j
  induction j with
  | zero => intro h1 _; have : k = 0 := by omega
            subst this; exact Nat.le_refl _
  | succ j ih =>
    intro h1 h2
    by_cases he : k = j + 1
    · subst he; exact Nat.le_refl _
    · exact Nat.le_trans (ih (by omega) (by omega)) (h.next1 (by omega))

theorem Seq.lo (h : Seq P call round ops ms σ ε) {k : Nat} (hk : k < ops.size) (ho : (ε k).on = true) : (ε k).r.lo = (σ k).h.next ∧ (ε k).r.hi = (σ (k + 1)).h.next := by
  obtain ⟨m, _, hf⟩ := h.getM hk
  exact ⟨(hf.onn ho).rlo, by rw [(hf.onn ho).rhi, (hf.onn ho).next]⟩

theorem Seq.recs (h : Seq P call round ops ms σ ε) : ∀ {k : Nat}, k ≤ ops.size → ∀ j, j < k → (ε j).on = true → (ε j).r ∈ (σ k).recs ∧ (ε j).r.i = j
  | 0, _, j, hj, _ => by omega
  | k + 1, hk, j, hj, ho => by
    obtain ⟨m, _, hf⟩ := h.getM (k := k) (by omega)
    by_cases he : j = k
    · subst he
      exact ⟨by rw [(hf.onn ho).recs]; exact List.mem_cons_self .., (hf.onn ho).ri⟩
    · obtain ⟨h1, h2⟩ := h.recs (k := k) (by omega) j (by omega) ho
      refine ⟨?_, h2⟩
      cases hk' : (ε k).on with
      | false => rw [(hf.off hk').2.2]; exact h1
      | true => rw [(hf.onn hk').recs]; exact List.mem_cons_of_mem _ h1

/-- what it has turned it saw, or it is new -/
theorem Seq.turned (h : Seq P call round ops ms σ ε) {k : Nat} (hk : k < ops.size) {b : Nat} (hb : (ε k).U b) : (ε k).V.get b ≠ none ∨ ((σ k).h.next ≤ b ∧ b < (σ (k + 1)).h.next) := by
  obtain ⟨ho, hb⟩ := hb
  obtain ⟨h1, h2⟩ := h.lo hk ho
  rw [h1, h2] at hb
  rcases hb with hb | hb
  · obtain ⟨l, l1, l2, l3⟩ := (h.modOn hk ho).log
    simp only [List.append_nil] at l1
    subst l1
    rcases l2 b hb with q | q
    · exact .inl q
    · obtain ⟨m, _, hf⟩ := h.getM hk
      rw [← (hf.onn ho).next] at q
      exact .inr q
  · exact .inr hb

theorem Seq.kept (h : Seq P call round ops ms σ ε) {k : Nat} (hk : k < ops.size) (ho : (ε k).on = true) {b : Nat} (hb : ¬ (ε k).U b) : (ε k).h1.heap.get b = (ε k).V.get b := by
  obtain ⟨l, l1, l2, l3⟩ := (h.modOn hk ho).log
  simp only [List.append_nil] at l1
  subst l1
  obtain ⟨h1, h2⟩ := h.lo hk ho
  obtain ⟨m, _, hf⟩ := h.getM hk
  refine l3 b ?_ fun q => hb ⟨ho, .inl q⟩
  rw [← (hf.onn ho).next, ← h2, ← h1]
  have : ¬ ((ε k).r.lo ≤ b ∧ b < (ε k).r.hi) := fun q => hb ⟨ho, .inr q⟩
  rw [h1] at this ⊢
  omega

theorem Seq.heap (h : Seq P call round ops ms σ ε) {k : Nat} (hk : k < ops.size) (b : Nat) : ((ε k).U b → (σ (k + 1)).h.heap.get b = (ε k).h1.heap.get b) ∧ (¬ (ε k).U b → (σ (k + 1)).h.heap.get b = (σ k).h.heap.get b) := by
  obtain ⟨m, _, hf⟩ := h.getM hk
  cases ho : (ε k).on with
  | false =>
    refine ⟨fun q => ?_, fun _ => by rw [(hf.off ho).2.1]⟩
    rw [q.1] at ho; cases ho
  | true =>
    have := (hf.onn ho).heap b
    refine ⟨fun q => ?_, fun q => ?_⟩
    · rw [this, if_pos q.2]
    · rw [this, if_neg fun c => q ⟨ho, c⟩]

/-- nothing stands where numbers are still to be given -/
theorem Seq.wf (h : Seq P call round ops ms σ ε) {top : Nat} (h0 : ∀ b, (σ 0).h.next ≤ b → b < top → (σ 0).h.heap.get b = none) : ∀ {k : Nat}, k ≤ ops.size → ∀ b, (σ k).h.next ≤ b → b < top → (σ k).h.heap.get b = none
  | 0, _, b, h1, h2 => h0 b h1 h2
  | k + 1, hk, b, h1, h2 => by
    have hn := h.next1 (k := k) (by omega)
    have ih := h.wf h0 (k := k) (by omega) b (by omega) h2
    by_cases hu : (ε k).U b
    · exfalso
      rcases h.turned (by omega) hu with q | q
      · obtain ⟨m, _, hf⟩ := h.getM (k := k) (by omega)
        cases hv : (ε k).V.get b with
        | none => exact q hv
        | some x => rw [(hf.onn hu.1).view b x hv] at ih; cases ih
      · omega
    · rw [(h.heap (by omega) b).2 hu]; exact ih

theorem Seq.apart (h : Seq P call round ops ms σ ε) {top : Nat} (h0 : ∀ b, (σ 0).h.next ≤ b → b < top → (σ 0).h.heap.get b = none) (htop : (σ ops.size).h.next ≤ top) {j k m : Nat} (hjk : j < k) (hk : k < ops.size) (hm : ms[k]? = some m) (hbit : m.testBit j = false)
    (hj1 : (ε j).on = true) (hk1 : (ε k).on = true) (b : Nat) : ((ε j).U b → (ε k).V.get b = none) ∧ ((ε k).U b → (ε j).V.get b = none) ∧ ¬ ((ε j).U b ∧ (ε k).U b) := by
  have hf := h.fact hk hm
  have F := hf.onn hk1
  obtain ⟨mj, _, hfj⟩ := h.getM (k := j) (by omega)
  have G := hfj.onn hj1
  obtain ⟨hrec, hri⟩ := h.recs (k := k) (by omega) j hjk hj1
  have ha := apartRs_spec F.apart _ hrec
  unfold apartR at ha
  rw [hri, hbit] at ha
  simp only [Bool.and_eq_true, List.all_eq_true] at ha
  obtain ⟨⟨c1, c2⟩, c3⟩ := ha
  have hlk := h.lo hk hk1
  have hlj := h.lo (k := j) (by omega) hj1
  have hnx := h.next (k := j + 1) (j := k) (by omega) (by omega)
  have hnx1 := h.next1 (k := j) (by omega)
  have hnk := h.next1 hk
  have hnt := h.next (k := k + 1) (j := ops.size) (by omega) (Nat.le_refl _)
  have a1 : (ε j).U b → (ε k).V.get b = none := by
    rintro ⟨_, hb⟩
    rcases F.kind with ⟨k1, k2, k3⟩ | ⟨k1, k2, k3⟩
    · rw [k1] at c1
      refine Classical.byContradiction fun hne => ?_
      have hrd := k2 b hne
      rcases hb with hb | hb
      · rw [G.rw] at c1; exact disj_spec c1 b hb hrd
      · have := c3 b hrd
        simp only [Bool.or_eq_true] at this
        rw [Nat.blt_eq] at this
        rcases this with q | q
        · omega
        · have := Nat.le_of_ble_eq_true q; omega
    · rw [k1] at c1
      refine Classical.byContradiction fun hne => ?_
      rcases hb with hb | hb
      · have := isNil_spec c1; rw [G.rw] at this; rw [this] at hb; cases hb
      · exact k2 b hne (hidden_mem.2 ⟨_, hrec, by rw [hri]; exact hbit, hb.1, by omega⟩)
  have a2 : (ε k).U b → (ε j).V.get b = none := by
    rintro ⟨_, hb⟩
    rcases hb with hb | hb
    · rcases G.kind with ⟨k1, k2, k3⟩ | ⟨k1, k2, k3⟩
      · rw [k1] at c2
        refine Classical.byContradiction fun hne => ?_
        rw [F.rw] at c2; exact disj_spec c2 b hb (k2 b hne)
      · rw [k1] at c2
        have := isNil_spec c2; rw [F.rw] at this; rw [this] at hb; cases hb
    · cases hv : (ε j).V.get b with
      | none => rfl
      | some x =>
        have h1 := G.view b x hv
        have h2 := h.wf h0 (k := j) (by omega) b (by omega) (by omega)
        rw [h2] at h1; cases h1
  refine ⟨a1, a2, fun ⟨u1, u2⟩ => ?_⟩
  rcases h.turned (by omega) u1 with q | q
  · exact q (a2 u2)
  · rcases h.turned hk u2 with q2 | q2
    · exact q2 (a1 u1)
    · omega
end
end Go.AV

namespace Go.AV

open Classical in
noncomputable def uH (ε : Nat → Eff) (k b : Nat) : Option (Option AObj) := if (ε k).U b then some ((ε k).h1.heap.get b) else none

def uT (ops : Array Oper) (ε : Nat → Eff) (k t : Nat) : Option Value := if (ops[k]?).bind (·.dst) = some t then some (ε k).v else none

def foldT (ops : Array Oper) (ε : Nat → Eff) (S : Nat → Bool) (tm0 : Tm) : Nat → Tm
  | 0 => tm0
  | n + 1 => if S n then (match (ops[n]?).bind (·.dst) with
      | some d => (foldT ops ε S tm0 n).set d (ε n).v
      | none => foldT ops ε S tm0 n) else foldT ops ε S tm0 n

theorem rd_foldT (ops : Array Oper) (ε : Nat → Eff) (S : Nat → Bool) (tm0 : Tm) (t : Nat) : ∀ n, rd (foldT ops ε S tm0 n) t = foldU S (uT ops ε) n (rd tm0) t
  | 0 => rfl
  | n + 1 => by
    have ih := rd_foldT ops ε S tm0 t n
    simp only [foldT, foldU, uT]
    split
    · split
      · rename_i d hd
        rw [rd_set, ih, hd]
        by_cases ht : t = d
        · subst ht; simp
        · rw [if_neg ht, if_neg (by simpa using fun h => ht h.symm)]; rfl
      · rename_i hd
        rw [ih, hd, if_neg (by simp)]; rfl
    · exact ih

theorem Fr.put_spec {fr fr' : Fr} {d : Option Tmp} {v : Value} (h : fr.put d v = some fr') : fr'.n = fr.n ∧ fr'.dfr = fr.dfr ∧ (∀ t, rd fr'.tm t = if d = some t then v else rd fr.tm t) ∧ ∀ t, d = some t → t < fr.n := by
  unfold Fr.put at h
  split at h
  · split at h
    · rename_i d hd
      cases h
      refine ⟨rfl, rfl, fun t => ?_, fun t ht => by cases ht; rw [Nat.blt_eq] at hd; exact hd⟩
      simp only [rd_set, Option.some.injEq, eq_comm]
    · cases h
  · cases h
    exact ⟨rfl, rfl, fun t => by rw [if_neg (by simp)], fun t ht => by cases ht⟩

section
variable {P : Program} {call round : CallF} {ops : Array Oper} {ms : List Nat} {σ : Nat → DS} {ε : Nat → Eff}

theorem uH_none {k b : Nat} : uH ε k b = none ↔ ¬ (ε k).U b := by
  unfold uH
  split
  · rename_i h; simp [h]
  · rename_i h; simp [h]

theorem Seq.heaps (h : Seq P call round ops ms σ ε) (b : Nat) : ∀ {k : Nat}, k ≤ ops.size → (σ k).h.heap.get b = foldU (fun _ => true) (uH ε) k (σ 0).h.heap.get b
  | 0, _ => rfl
  | k + 1, hk => by
    have ih := h.heaps b (k := k) (by omega)
    simp only [foldU, if_true]
    by_cases hu : (ε k).U b
    · rw [(h.heap (by omega) b).1 hu]
      unfold uH; rw [if_pos hu]; rfl
    · rw [(h.heap (by omega) b).2 hu, uH_none.2 hu, ih]; rfl

theorem Seq.frs (h : Seq P call round ops ms σ ε) : ∀ {k : Nat}, k ≤ ops.size → (σ k).fr.n = (σ 0).fr.n ∧ (σ k).fr.dfr = (σ 0).fr.dfr ∧ ∀ t, rd (σ k).fr.tm t = foldU (fun _ => true) (uT ops ε) k (rd (σ 0).fr.tm) t
  | 0, _ => ⟨rfl, rfl, fun _ => rfl⟩
  | k + 1, hk => by
    obtain ⟨i1, i2, i3⟩ := h.frs (k := k) (by omega)
    obtain ⟨m, _, hf⟩ := h.getM (k := k) (by omega)
    obtain ⟨p1, p2, p3, _⟩ := Fr.put_spec hf.put
    refine ⟨p1.trans i1, p2.trans i2, fun t => ?_⟩
    rw [p3 t, i3 t]
    have hk' : ops[k]? = some ops[k] := by simp [show k < ops.size by omega]
    simp only [foldU, if_true, uT, hk', Option.bind_some]
    split <;> rfl

def cnt (S : Nat → Bool) : Nat → Nat
  | 0 => 0
  | n + 1 => cnt S n + if S n then 0 else 1

theorem cnt_zero {S : Nat → Bool} : ∀ {n : Nat}, cnt S n = 0 → ∀ k, k < n → S k = true
  | 0, _, k, hk => by omega
  | n + 1, h, k, hk => by
    simp only [cnt] at h
    by_cases he : k = n
    · subst he
      cases hs : S k with
      | true => rfl
      | false => rw [hs] at h; simp at h
    · exact cnt_zero (n := n) (by omega) k (by omega)

theorem cnt_insert {S S' : Nat → Bool} {i : Nat} (hS : S i = false) (hS' : ∀ k, S' k = (k == i || S k)) : ∀ {n : Nat}, (n ≤ i → cnt S' n = cnt S n) ∧ (i < n → cnt S' n + 1 = cnt S n)
  | 0 => ⟨fun _ => rfl, fun h => by omega⟩
  | n + 1 => by
    obtain ⟨h1, h2⟩ := cnt_insert hS hS' (n := n)
    refine ⟨fun h => ?_, fun h => ?_⟩
    · have : (n == i) = false := by simp; omega
      simp only [cnt, hS', this, Bool.false_or, h1 (by omega)]
    · by_cases he : n = i
      · subst he
        simp only [cnt, hS', h1 (Nat.le_refl _), hS, BEq.rfl, Bool.true_or, if_true]
        simp
      · have : (n == i) = false := by simpa using he
        have := h2 (by omega)
        simp only [cnt, hS', ‹(n == i) = false›, Bool.false_or]
        omega

/-- where the run stands when the operations of S have run -/
def DInv (ops : Array Oper) (σ : Nat → DS) (ε : Nat → Eff) (ρ0 : Ren) (w0 : World) (S : Nat → Bool) (a : Act) (w : World) : Prop :=
  ∃ ρ, FRel ρ { (σ 0).fr with tm := foldT ops ε S (σ 0).fr.tm ops.size } a ∧ HRel ρ (foldU S (uH ε) ops.size (σ 0).h.heap.get) w ∧
    Step ρ0 (σ 0).h.heap.get w0 ρ (foldU S (uH ε) ops.size (σ 0).h.heap.get) w (σ 0).h.next (σ ops.size).h.next ∧
    ∀ k, k < ops.size → S k = false → Fresh ρ (σ k).h.next (σ (k + 1)).h.next

theorem dstep (h : Seq P call round ops ms σ ε) (plan : Plan ops ms) {rdd : Option Nat} {F : Fence} {ρ0 : Ren} {w0 : World} (hF : RFence ρ0 rdd F)
    (h0 : ∀ b, (σ 0).h.next ≤ b → b < (σ ops.size).h.next → (σ 0).h.heap.get b = none) {S S' : Nat → Bool} {k : Nat} (hk : k < ops.size) (hS : S k = false) (hS' : S' = fun i => i == k || S i)
    (hcl : Closed ms S) (hcov : ∀ m, ms[k]? = some m → ∀ b, m.testBit b = true → S b = true) {a : Act} {w : World} (hi : DInv ops σ ε ρ0 w0 S a w) {n : Nat} {Q : Exit → Act → World → Prop} {K : Act → World → Prop}
    (hK : ∀ a' w', DInv ops σ ε ρ0 w0 S' a' w' → K a' w') : wpOpIn F n P ops Q k K a w := by
  obtain ⟨ρ, i1, i2, i3, i4⟩ := hi
  obtain ⟨m, hm, hf⟩ := h.getM hk
  have hok : ops[k]? = some ops[k] := by simp [hk]
  -- neither before the other
  have lt : ∀ j, j < k → S j = false → m.testBit j = false := fun j _ hj => by
    cases hb : m.testBit j with
    | false => rfl
    | true => rw [hcov m hm j hb] at hj; cases hj
  have gt : ∀ j, k < j → j < ops.size → S j = true → ∃ mj, ms[j]? = some mj ∧ mj.testBit k = false := fun j _ hj hsj => by
    obtain ⟨mj, hmj, _⟩ := h.getM hj
    refine ⟨mj, hmj, ?_⟩
    cases hb : mj.testBit k with
    | false => rfl
    | true => rw [hcl j mj hsj hmj k hb] at hS; cases hS
  have tlt : ∀ j, j < k → S j = false → (∀ d, (ops[j]?).bind (·.dst) = some d → d ∉ namesOf ops ops[k]) := fun j hj hsj d hd => by
    have hjo : ops[j]? = some ops[j] := by simp [show j < ops.size by omega]
    obtain ⟨m', h1, h2⟩ := plan.tmps k ops[k] j ops[j] hok hjo hj
    rw [hm] at h1; cases h1
    rcases h2 with q | q
    · rw [lt j hj hsj] at q; cases q
    · exact q.1 d (by simpa [hjo] using hd)
  have tgt : ∀ j, k < j → j < ops.size → S j = true → (∀ d, (ops[j]?).bind (·.dst) = some d → d ∉ namesOf ops ops[k]) ∧ ∀ d, ops[k].dst = some d → (ops[j]?).bind (·.dst) ≠ some d := fun j hj hjn hsj => by
    have hjo : ops[j]? = some ops[j] := by simp [hjn]
    obtain ⟨mj, hmj, hbit⟩ := gt j hj hjn hsj
    obtain ⟨m', h1, h2⟩ := plan.tmps j ops[j] k ops[k] hjo hok hj
    rw [hmj] at h1; cases h1
    rcases h2 with q | q
    · rw [hbit] at q; cases q
    · refine ⟨fun d hd => q.2 d (by simpa [hjo] using hd), fun d hd he => q.1 d hd ?_⟩
      unfold namesOf
      refine List.mem_append_left _ (List.mem_append_right _ ?_)
      have : ops[j].dst = some d := by simpa [hjo] using he
      rw [this]; simp
  have names : ∀ t, t ∈ namesOf ops ops[k] → rd (foldT ops ε S (σ 0).fr.tm ops.size) t = rd (σ k).fr.tm t := fun t ht => by
    rw [rd_foldT, (h.frs (k := k) (by omega)).2.2 t]
    refine foldU_prefix (by omega) (fun j hj hu => ?_) fun j hj hjn hsj => ?_
    · cases hsj : S j with
      | true => rfl
      | false =>
        unfold uT at hu
        split at hu
        · rename_i hd; exact (tlt j hj hsj t hd ht).elim
        · exact (hu rfl).elim
    · have : j ≠ k := fun he => by subst he; rw [hS] at hsj; cases hsj
      unfold uT
      rw [if_neg fun hd => (tgt j (by omega) hjn hsj).1 t hd ht]
  have want : wantedB ops (foldT ops ε S (σ 0).fr.tm ops.size) ops[k] = some (ε k).on := by
    rw [wantedB_names names]; exact hf.want
  have wok := wantedB_ok i1.tr want
  -- the temporaries behind it
  obtain ⟨p1, p2, p3, p4⟩ := Fr.put_spec hf.put
  have hdn : ∀ t, ops[k].dst = some t → t < (σ 0).fr.n := fun t ht => by rw [← (h.frs (k := k) (by omega)).1]; exact p4 t ht
  have tms : ∀ t, rd (foldT ops ε S' (σ 0).fr.tm ops.size) t = if ops[k].dst = some t then (ε k).v else rd (foldT ops ε S (σ 0).fr.tm ops.size) t := fun t => by
    rw [rd_foldT, rd_foldT, hS', foldU_insert hS hk fun j hj hjn hsj hu => ?_]
    · simp only [uT, hok, Option.bind_some]
      split <;> rfl
    · unfold uT at hu ⊢
      simp only [hok, Option.bind_some] at hu
      split at hu
      · rename_i hd; rw [if_neg ((tgt j hj hjn hsj).2 t hd)]
      · exact (hu rfl).elim
  have frel : ∀ {ρ' : Ren} {a' : Act}, (∀ fr1, Fr.put { (σ 0).fr with tm := foldT ops ε S (σ 0).fr.tm ops.size } ops[k].dst (ε k).v = some fr1 → FRel ρ' fr1 a') → FRel ρ' { (σ 0).fr with tm := foldT ops ε S' (σ 0).fr.tm ops.size } a' := by
    intro ρ' a' hfr
    cases hd : ops[k].dst with
    | none =>
      have := hfr _ (by rw [hd]; rfl)
      refine ⟨⟨this.tr.1, fun t => ?_⟩, this.ds⟩
      show VJ ρ' (rd (foldT ops ε S' (σ 0).fr.tm ops.size) t) _
      rw [tms t, hd, if_neg (by simp)]; exact this.tr.2 t
    | some d =>
      have hb : Nat.blt d (σ 0).fr.n = true := by rw [Nat.blt_eq]; exact hdn d hd
      have := hfr { (σ 0).fr with tm := (foldT ops ε S (σ 0).fr.tm ops.size).set d (ε k).v } (by rw [hd]; simp [Fr.put, hb])
      refine ⟨⟨this.tr.1, fun t => ?_⟩, this.ds⟩
      have ht := this.tr.2 t
      simp only [rd_set] at ht
      show VJ ρ' (rd (foldT ops ε S' (σ 0).fr.tm ops.size) t) _
      rw [tms t, hd]
      simp only [Option.some.injEq]
      by_cases he : d = t
      · subst he; rw [if_pos rfl] at ht ⊢; exact ht
      · rw [if_neg he]; rw [if_neg fun q => he q.symm] at ht; exact ht
  have putok : ∃ fr1, Fr.put { (σ 0).fr with tm := foldT ops ε S (σ 0).fr.tm ops.size } ops[k].dst (ε k).v = some fr1 := by
    cases hd : ops[k].dst with
    | none => exact ⟨_, rfl⟩
    | some d =>
      have hb : Nat.blt d (σ 0).fr.n = true := by rw [Nat.blt_eq]; exact hdn d hd
      exact ⟨_, by simp [Fr.put, hb]; rfl⟩
  obtain ⟨fr1, hfr1⟩ := putok
  have fresh' : ∀ {ρ' : Ren}, (∀ b, b < (σ k).h.next ∨ (σ (k + 1)).h.next ≤ b → ρ' b = ρ b) → ∀ j, j < ops.size → S' j = false → Fresh ρ' (σ j).h.next (σ (j + 1)).h.next := by
    intro ρ' hrng j hj hsj b hb1 hb2
    rw [hS'] at hsj
    simp only [Bool.or_eq_false_iff, beq_eq_false_iff_ne, ne_eq] at hsj
    have hout : b < (σ k).h.next ∨ (σ (k + 1)).h.next ≤ b := by
      rcases Nat.lt_or_gt_of_ne hsj.1 with q | q
      · left; have := h.next (k := j + 1) (j := k) (by omega) (by omega); omega
      · right; have := h.next (k := k + 1) (j := j) (by omega) (by omega); omega
    rw [hrng b hout]
    exact i4 j hj hsj.2 b hb1 hb2
  unfold wpOpIn
  simp only [hok]
  rw [wok]
  cases ho : (ε k).on with
  | false =>
    simp only [Bool.false_eq_true, if_false]
    refine ⟨fun f _ => hF.fn f, hK _ _ ?_⟩
    have heap : foldU S' (uH ε) ops.size (σ 0).h.heap.get = foldU S (uH ε) ops.size (σ 0).h.heap.get := by
      funext b
      have hn : uH ε k b = none := uH_none.2 fun q => by have := q.1; rw [ho] at this; cases this
      rw [hS', foldU_insert hS hk fun j _ _ _ hu => (hu hn).elim, hn]; rfl
    refine ⟨ρ, frel fun fr1 hp => ?_, by rw [heap]; exact i2, by rw [heap]; exact i3, fresh' fun _ _ => rfl⟩
    rw [(hf.off ho).1] at hp
    exact Fr.put_ok i1 .undef hp
  | true =>
    simp only [if_true]
    have O := hf.onn ho
    have view : ∀ b x, (ε k).V.get b = some x → foldU S (uH ε) ops.size (σ 0).h.heap.get b = some x := by
      intro b x hb
      rw [← O.view b x hb, h.heaps b (k := k) (by omega)]
      refine foldU_prefix (by omega) (fun j hj hu => ?_) fun j hj hjn hsj => ?_
      · cases hsj : S j with
        | true => rfl
        | false =>
          have huj : (ε j).U b := Classical.byContradiction fun q => hu (uH_none.2 q)
          have := (h.apart h0 (Nat.le_refl _) hj hk hm (lt j hj hsj) huj.1 ho b).1 huj
          rw [hb] at this; cases this
      · have hne : j ≠ k := fun he => by subst he; rw [hS] at hsj; cases hsj
        refine uH_none.2 fun huj => ?_
        obtain ⟨mj, hmj, hbit⟩ := gt j (by omega) hjn hsj
        have := (h.apart h0 (Nat.le_refl _) (j := k) (k := j) (by omega) hjn hmj hbit ho huj.1 b).2.1 huj
        rw [hb] at this; cases this
    have heaps : ∀ b, ((ε k).U b → foldU S' (uH ε) ops.size (σ 0).h.heap.get b = (ε k).h1.heap.get b) ∧ (¬ (ε k).U b → foldU S' (uH ε) ops.size (σ 0).h.heap.get b = foldU S (uH ε) ops.size (σ 0).h.heap.get b) := by
      intro b
      have ins := foldU_insert (f := (σ 0).h.heap.get) (u := uH ε) (b := b) hS hk fun j hj hjn hsj hu => by
        have huk : (ε k).U b := Classical.byContradiction fun q => hu (uH_none.2 q)
        refine uH_none.2 fun huj => ?_
        obtain ⟨mj, hmj, hbit⟩ := gt j hj hjn hsj
        exact (h.apart h0 (Nat.le_refl _) (j := k) (k := j) hj hjn hmj hbit ho huj.1 b).2.2 ⟨huk, huj⟩
      rw [hS', ins]
      refine ⟨fun q => ?_, fun q => ?_⟩
      · unfold uH; rw [if_pos q]; rfl
      · rw [uH_none.2 q]; rfl
    have hview : HRel ρ (ε k).V.get w := i2.sub view
    have hnx := O.next
    have hfr : Fresh ρ (σ k).h.next (ε k).h1.next := by rw [← hnx]; exact i4 k hk hS
    have done : ∀ a' w', Aft ρ { heap := (ε k).V, next := (σ k).h.next, log := [] } w fr1 (ε k).h1 a' w' → K a' w' := by
      rintro a' w' ⟨ρ', y1, y2, y3⟩
      obtain ⟨z1, z2⟩ := frame (H2 := foldU S' (uH ε) ops.size (σ 0).h.heap.get) (U := (ε k).U) view (fun b hb => h.kept hk ho hb) (fun b hb => (heaps b).1 hb) (fun b hb => (heaps b).2 hb) i2 y2 y3
      refine hK _ _ ⟨ρ', frel fun fr2 hp => by rw [hfr1] at hp; cases hp; exact y1, z1, ?_, fresh' fun b hb => y3.rng b (by simp only; rw [← hnx]; exact hb)⟩
      have n1 := h.next (k := 0) (j := k) (by omega) (by omega)
      have n2 := h.next (k := k + 1) (j := ops.size) (by omega) (Nat.le_refl _)
      exact i3.trans2 z2 (Nat.le_refl _) (Nat.le_refl _) n1 (by rw [← hnx]; exact n2)
    have cong : ∀ g : Hs, aop P (foldT ops ε S (σ 0).fr.tm ops.size) g ops[k] = aop P (σ k).fr.tm g ops[k] := fun g => aop_congr (ev_names names)
    have hF' : RFence ρ rdd F := hF.mono i3.ext
    have hempty : HRel ρ ({ heap := .leaf, next := 0, log := [] } : Hs).heap.get w := ⟨fun b o hb => absurd hb (by simp [T.get_leaf]), fun i j oi oj Li Lj hi => absurd hi (by simp [T.get_leaf])⟩
    have ran := O.ran
    generalize hv : (ε k).v = v at ran hfr1
    generalize hh1 : (ε k).h1 = h1 at ran done hfr
    cases ran with
    | val _ _ hr => exact op_val (h := { heap := (ε k).V, next := (σ k).h.next, log := [] }) hF'.fn i1 hview hfr (by rw [← hr]; exact cong _) hfr1 done
    | skip _ hr => exact op_skip (h := { heap := (ε k).V, next := (σ k).h.next, log := [] }) hF'.fn i1 hview hfr (by rw [← hr]; exact cong _) hfr1 done
    | call f args _ _ hr hc => exact op_call h.hc (h := { heap := (ε k).V, next := (σ k).h.next, log := [] }) hF' i1 hview hfr hempty (by rw [← hr]; exact cong _) hc hfr1 done
    | round f args _ _ hr hc => exact op_round h.hr (h := { heap := (ε k).V, next := (σ k).h.next, log := [] }) hF' i1 hview hfr hempty (by rw [← hr]; exact cong _) hc hfr1 done
theorem getD_put {listed : Array Bool} {i : Nat} (hi : i < listed.size) (k : Nat) : (listed.setIfInBounds i true).getD k false = (k == i || listed.getD k false) := by
  by_cases h : k = i
  · subst h; simp [hi]
  · rw [getD_set_ne false (fun he => h he.symm)]
    have : (k == i) = false := by simpa using h
    rw [this]; rfl

theorem ready_nil {md : Region.Mode} {listed : Array Bool} (plan : Plan ops ms) (hmd : md = .any) (hsz : listed.size = ops.size) (hr : Region.ready md ops listed = []) : ∀ k, k < ops.size → listed.getD k false = true := by
  intro k
  induction k using Nat.strongRecOn with
  | _ k ih =>
    intro hk
    cases hl : listed.getD k false with
    | true => rfl
    | false =>
      exfalso
      have : k ∈ Region.ready md ops listed := by
        have hok : ops[k]? = some ops[k] := by simp [hk]
        refine mem_ready.2 ⟨?_, ops[k], hok, fun e he hb => ?_⟩
        · have hlt : k < listed.size := by omega
          simp [hlt] at hl ⊢; exact hl
        · obtain ⟨m, _, h2⟩ := plan.mask k ops[k] hok
          subst hmd
          have := h2.before e (by simpa using he) hb
          exact ih e.on this (by omega)
      rw [hr] at this; cases this

theorem danyIn (h : Seq P call round ops ms σ ε) (plan : Plan ops ms) {rdd : Option Nat} {F : Fence} {ρ0 : Ren} {w0 : World} (hF : RFence ρ0 rdd F)
    (h0 : ∀ b, (σ 0).h.next ≤ b → b < (σ ops.size).h.next → (σ 0).h.heap.get b = none) {n : Nat} {Q : Exit → Act → World → Prop}
    (hQ : ∀ a' w', Aft ρ0 (σ 0).h w0 (σ ops.size).fr (σ ops.size).h a' w' → Q .normal a' w') : ∀ (fuel : Nat) (listed : Array Bool) (a : Act) (w : World), listed.size = ops.size → cnt (fun k => listed.getD k false) ops.size ≤ fuel →
      Closed ms (fun k => listed.getD k false) → DInv ops σ ε ρ0 w0 (fun k => listed.getD k false) a w → wpAnyIn F n P .any ops Q fuel listed a w := by
  have last : ∀ (listed : Array Bool) (a : Act) (w : World), (∀ k, k < ops.size → listed.getD k false = true) → DInv ops σ ε ρ0 w0 (fun k => listed.getD k false) a w → Q .normal a w := by
    intro listed a w hall hi
    obtain ⟨ρ, i1, i2, i3, i4⟩ := hi
    have hh : foldU (fun k => listed.getD k false) (uH ε) ops.size (σ 0).h.heap.get = (σ ops.size).h.heap.get := by
      funext b
      rw [h.heaps b (Nat.le_refl _)]
      exact foldU_agree fun k hk _ => hall k hk
    obtain ⟨f1, f2, f3⟩ := h.frs (k := ops.size) (Nat.le_refl _)
    refine hQ a w ⟨ρ, ⟨⟨by rw [f1]; exact i1.tr.1, fun t => ?_⟩, by rw [f2]; exact i1.ds⟩, by rw [← hh]; exact i2, by rw [← hh]; exact i3⟩
    have := i1.tr.2 t
    have he : rd (σ ops.size).fr.tm t = rd (foldT ops ε (fun k => listed.getD k false) (σ 0).fr.tm ops.size) t := by
      rw [rd_foldT, f3 t]
      exact (foldU_agree fun k hk _ => hall k hk).symm
    rw [he]; exact this
  intro fuel
  induction fuel with
  | zero =>
    intro listed a w hsz hcnt hcl hi
    have hall := cnt_zero (S := fun k => listed.getD k false) (n := ops.size) (by omega)
    rw [wpAnyIn]
    refine ⟨?_, last listed a w hall hi⟩
    cases hr : Region.ready .any ops listed with
    | nil => rfl
    | cons j l =>
      have hj : j ∈ Region.ready .any ops listed := by rw [hr]; exact List.mem_cons_self ..
      obtain ⟨h1, o, h2, _⟩ := mem_ready.1 hj
      have hlt : j < ops.size := (Array.getElem?_eq_some_iff.1 h2).1
      have := hall j hlt
      have hlt' : j < listed.size := by omega
      simp [hlt'] at h1 this
      rw [h1] at this; cases this
  | succ fuel ih =>
    intro listed a w hsz hcnt hcl hi
    rw [wpAnyIn]
    refine ⟨fun hr => last listed a w (ready_nil plan rfl hsz hr) hi, fun k hk => ?_⟩
    obtain ⟨h1, o, h2, h3⟩ := mem_ready.1 hk
    have hlt : k < ops.size := (Array.getElem?_eq_some_iff.1 h2).1
    have hlt' : k < listed.size := by omega
    have hS : listed.getD k false = false := by
      simp [hlt'] at h1 ⊢; exact h1
    have hcov : ∀ m, ms[k]? = some m → ∀ b, m.testBit b = true → listed.getD b false = true := fun m hm => plan.covers hcl h2 (fun e he hb => h3 e (by simpa using he) hb) hm
    have hS' : (fun i => (listed.setIfInBounds k true).getD i false) = fun i => i == k || listed.getD i false := funext fun i => getD_put hlt' i
    refine dstep h plan hF h0 hlt (S := fun k => listed.getD k false) hS hS' hcl hcov hi fun a' w' hi' => ?_
    refine ih _ a' w' (by rw [Array.size_setIfInBounds]; exact hsz) ?_ ?_ hi'
    · have := (cnt_insert (S := fun k => listed.getD k false) (S' := fun i => (listed.setIfInBounds k true).getD i false) hS (fun i => congrFun hS' i) (n := ops.size)).2 hlt
      omega
    · intro j m hj hm b hb
      have e1 := congrFun hS' j
      have e2 := congrFun hS' b
      dsimp only at e1 e2 hj ⊢
      rw [e1] at hj
      rw [e2]
      simp only [Bool.or_eq_true, beq_iff_eq] at hj ⊢
      rcases hj with rfl | hj
      · exact .inr (hcov m hm b hb)
      · exact .inr (hcl j m hj hm b hb)

end

theorem drawOK {P : Program} (hP : P.follows .mixedOrders = true) : DrawOK P := by
  intro call round hc hr rdd ops ms fr h fr' h' hplan hs
  have plan := planOf_spec hplan
  obtain ⟨σ, ε, s0, s1, s2, s3⟩ := drawW_states hc hr hs (fun r hr => by cases hr)
  have hl : ops.toList.length = ops.size := by simp
  rw [hl] at s1 s2
  have seq : Seq P call round ops ms σ ε := ⟨hc, hr, by rw [s0], fun k o ho => by
    obtain ⟨m, q1, q2⟩ := s3 k o (by simpa using ho)
    rw [Nat.zero_add] at q2
    exact ⟨m, q1, q2⟩⟩
  have mod : ∀ k, k ≤ ops.size → Mod (σ 0).h (σ k).h := by
    intro k
    induction k with
    | zero => intro _; exact Mod.refl _
    | succ k ih =>
      intro hk
      refine (ih (by omega)).trans ?_
      obtain ⟨m, _, hf⟩ := seq.getM (k := k) (by omega)
      cases ho : (ε k).on with
      | false => rw [(hf.off ho).2.1]; exact Mod.refl _
      | true =>
        have O := hf.onn ho
        have hmod := seq.modOn (k := k) (by omega) ho
        obtain ⟨l, l1, l2, l3⟩ := hmod.log
        simp only [List.append_nil] at l1
        subst l1
        refine ⟨seq.next1 (by omega), _, O.log, fun b hb => ?_, fun b hb hn => ?_⟩
        · rcases l2 b hb with q | q
          · left
            intro hnone
            cases hv : (ε k).V.get b with
            | none => exact q hv
            | some x => rw [O.view b x hv] at hnone; cases hnone
          · right; rw [O.next]; exact q
        · refine (seq.heap (by omega) b).2 fun q => ?_
          obtain ⟨q1, q2⟩ := seq.lo (k := k) (by omega) ho
          rcases q.2 with q | q
          · exact hn q
          · omega
  have mtop := mod ops.size (Nat.le_refl _)
  rw [s2] at mtop
  have hs0 : (σ 0).h = h := by rw [s0]
  have hf0 : (σ 0).fr = fr := by rw [s0]
  rw [hs0] at mtop
  refine ⟨mtop, fun ρ w a n F hF hfr hh hf Q id hQ => wpIn_region_any hP ?_⟩
  have hw1 : HRel ρ h.heap.get { w with drawn := w.drawn + 1 } := hh.world rfl
  have h0 : ∀ b, (σ 0).h.next ≤ b → b < (σ ops.size).h.next → (σ 0).h.heap.get b = none := by
    intro b hb1 hb2
    rw [hs0] at hb1 ⊢
    rw [s2] at hb2
    cases hv : h.heap.get b with
    | none => rfl
    | some x =>
      obtain ⟨L, _, hL, _⟩ := hh.obj b x hv
      rw [hf b hb1 hb2] at hL; cases hL
  have none0 : ∀ k, (Array.replicate ops.size false).getD k false = false := fun k => by
    rw [Array.getD_eq_getD_getElem?, Array.getElem?_replicate]
    split <;> rfl
  have hfold : foldU (fun k => (Array.replicate ops.size false).getD k false) (uH ε) ops.size (σ 0).h.heap.get = h.heap.get := by
    funext b; rw [foldU_none fun k _ => none0 k, hs0]
  have cle : ∀ (S : Nat → Bool) m, cnt S m ≤ m := fun S m => by
    induction m with
    | zero => exact Nat.le_refl _
    | succ m ih => simp only [cnt]; split <;> omega
  refine danyIn (ρ0 := ρ) (w0 := w) seq plan hF h0 (fun a' w' q => hQ a' w' (by rw [s1, s2, hs0] at q; exact q)) ops.size _ a _ (by simp) (cle _ _) (fun k m hk => absurd ((none0 k).symm.trans hk) (by decide)) ?_
  refine ⟨ρ, ?_, by rw [hfold]; exact hw1, ?_, fun k hk _ => ?_⟩
  · refine ⟨⟨by rw [hf0]; exact hfr.tr.1, fun t => ?_⟩, by rw [hf0]; exact hfr.ds⟩
    show VJ ρ (rd (foldT ops ε _ (σ 0).fr.tm ops.size) t) _
    rw [rd_foldT, foldU_none fun k _ => none0 k, hf0]; exact hfr.tr.2 t
  · rw [hfold, hs0]
    exact Step.world (ρ := ρ) (H := h.heap.get) (w := w) (w' := { w with drawn := w.drawn + 1 }) rfl rfl rfl rfl _ _
  · refine hf.sub ?_ ?_
    · rw [← hs0]; exact seq.next (k := 0) (j := k) (by omega) (by omega)
    · rw [← s2]; exact seq.next (k := k + 1) (j := ops.size) (by omega) (Nat.le_refl _)

end Go.AV
