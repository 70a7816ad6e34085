/-
  Regions that draw their order, second part: which operations come before which; temporaries.
-/
import Derived.Test.YthecahanniaggaaAvDrawA
namespace Go.AV

theorem forceN_eq {α : Type} (n : Nat) (k : Nat → α) : forceN n k = k n := by cases n <;> rfl

/-- what a mask says -/
structure MaskAt (R : List Nat) (k : Nat) (es : List Edge) (m : Nat) : Prop where
  before : ∀ e, e ∈ es → Region.binds .any e = true → e.on < k
  bits : ∀ b, m.testBit b = true → ∃ e, e ∈ es ∧ Region.binds .any e = true ∧ (b = e.on ∨ ∃ m', R[e.on]? = some m' ∧ m'.testBit b = true)

theorem maskOf_spec {acc : List Nat} {k : Nat} (hk : acc.length = k) : ∀ {es : List Edge} {m : Nat}, maskOf acc k es = some m → MaskAt acc.reverse k es m
  | [], m, h => by
    simp only [maskOf, Option.some.injEq] at h
    subst h
    exact ⟨fun e he => (by cases he), fun b hb => (by simp at hb)⟩
  | e :: es, m, h => by
    simp only [maskOf] at h
    split at h
    · rename_i hb
      split at h
      · rename_i m1 r hlt hn hr
        cases h
        rw [Nat.blt_eq] at hlt
        obtain ⟨i1, i2⟩ := maskOf_spec hk hr
        rw [nth_eq] at hn
        refine ⟨fun e' he' hb' => ?_, fun b hbit => ?_⟩
        · rcases List.mem_cons.1 he' with rfl | he'
          · exact hlt
          · exact i1 e' he' hb'
        · simp only [Nat.testBit_or, Bool.or_eq_true, Nat.testBit_two_pow, decide_eq_true_eq] at hbit
          rcases hbit with (h1 | h1) | h1
          · exact ⟨e, List.mem_cons_self .., hb, .inl h1.symm⟩
          · refine ⟨e, List.mem_cons_self .., hb, .inr ⟨m1, ?_, h1⟩⟩
            rw [List.getElem?_reverse (by omega), hk]; exact hn
          · obtain ⟨e', he', a, c⟩ := i2 b h1
            exact ⟨e', List.mem_cons_of_mem _ he', a, c⟩
      · cases h
    · rename_i hb
      obtain ⟨i1, i2⟩ := maskOf_spec hk h
      refine ⟨fun e' he' hb' => ?_, fun b hbit => ?_⟩
      · rcases List.mem_cons.1 he' with rfl | he'
        · rw [hb] at hb'; cases hb'
        · exact i1 e' he' hb'
      · obtain ⟨e', he', a, c⟩ := i2 b hbit
        exact ⟨e', List.mem_cons_of_mem _ he', a, c⟩

theorem masks_spec : ∀ {l : List Oper} {i : Nat} {acc res : List Nat}, masks l i acc = some res → acc.length = i →
    (∃ pre, res = pre ++ acc) ∧ res.length = i + l.length ∧ ∀ t o, l[t]? = some o → ∃ m, res.reverse[i + t]? = some m ∧ MaskAt res.reverse (i + t) o.after.toList m
  | [], i, acc, res, h, hl => by
    simp only [masks, Option.some.injEq] at h
    subst h
    exact ⟨⟨[], rfl⟩, by simp [hl], fun t o ho => by simp at ho⟩
  | o :: l, i, acc, res, h, hl => by
    simp only [masks] at h
    split at h
    · rename_i m hm
      rw [forceN_eq] at h
      obtain ⟨⟨pre, hpre⟩, hlen, hall⟩ := masks_spec h (by simp [hl])
      refine ⟨⟨pre ++ [m], by simp [hpre]⟩, by rw [hlen]; simp; omega, fun t o' ho' => ?_⟩
      cases t with
      | zero =>
        simp at ho'; subst ho'
        obtain ⟨s1, s2⟩ := maskOf_spec hl hm
        have hrev : res.reverse = acc.reverse ++ (m :: pre.reverse) := by rw [hpre]; simp
        refine ⟨m, ?_, s1, fun b hb => ?_⟩
        · rw [hrev, Nat.add_zero, List.getElem?_append_right (by simp [hl])]; simp [hl]
        · obtain ⟨e, he, hbe, hc⟩ := s2 b hb
          refine ⟨e, he, hbe, ?_⟩
          rcases hc with hc | ⟨m', h1, h2⟩
          · exact .inl hc
          · exact .inr ⟨m', by rw [hrev, List.getElem?_append_left (by simpa [hl] using s1 e he hbe)]; exact h1, h2⟩
      | succ t =>
        have := hall t o' (by simpa using ho')
        rw [show i + (t + 1) = i + 1 + t by omega]
        exact this
    · cases h

def Apt (ops : Array Oper) (m j : Nat) (p o : Oper) : Prop :=
  m.testBit j = true ∨ ((∀ d, p.dst = some d → d ∉ namesOf ops o) ∧ (∀ d, o.dst = some d → d ∉ namesOf ops p))

theorem memN_false {n : Nat} {l : List Nat} (h : memN n l = false) : n ∉ l := fun hm => by
  rw [memN_spec.2 hm] at h; cases h

theorem tmpsOk_spec {ops : Array Oper} {ms : List Nat} : ∀ {l : List Oper} {i : Nat} {prev : List (Nat × Oper)}, tmpsOk ops ms l i prev = true → ∀ t o, l[t]? = some o → ∃ m, ms[i + t]? = some m ∧
    (∀ j p, (j, p) ∈ prev → Apt ops m j p o) ∧ (∀ s p, s < t → l[s]? = some p → Apt ops m (i + s) p o)
  | [], i, prev, h, t, o, ho => by simp at ho
  | o :: l, i, prev, h, t, o', ho => by
    simp only [tmpsOk] at h
    split at h
    · rename_i m hm
      split at h
      · rename_i hall
        cases t with
        | zero =>
          simp at ho; subst ho
          refine ⟨m, by rw [← nth_eq]; exact hm, fun j p hjp => ?_, fun s p hs => by omega⟩
          have := List.all_eq_true.1 hall (j, p) hjp
          simp only [Bool.or_eq_true, Bool.and_eq_true] at this
          rcases this with h1 | ⟨h1, h2⟩
          · exact .inl h1
          · refine .inr ⟨fun d hd => ?_, fun d hd => ?_⟩
            · rw [hd] at h1; exact memN_false (by simpa using h1)
            · rw [hd] at h2; exact memN_false (by simpa using h2)
        | succ t =>
          obtain ⟨m', h1, h2, h3⟩ := tmpsOk_spec h t o' (by simpa using ho)
          refine ⟨m', by rw [← h1]; congr 1; omega, fun j p hjp => h2 j p (List.mem_cons_of_mem _ hjp), fun s p hs hp => ?_⟩
          cases s with
          | zero => simp at hp; subst hp; exact h2 i o (List.mem_cons_self ..)
          | succ s =>
            have := h3 s p (by omega) (by simpa using hp)
            rw [show i + (s + 1) = i + 1 + s by omega]; exact this
      · cases h
    · cases h

structure Plan (ops : Array Oper) (ms : List Nat) : Prop where
  len : ms.length = ops.size
  mask : ∀ k o, ops[k]? = some o → ∃ m, ms[k]? = some m ∧ MaskAt ms k o.after.toList m
  tmps : ∀ k o j p, ops[k]? = some o → ops[j]? = some p → j < k → ∃ m, ms[k]? = some m ∧ Apt ops m j p o

theorem planOf_spec {ops : Array Oper} {ms : List Nat} (h : planOf ops = some ms) : Plan ops ms := by
  unfold planOf at h
  split at h
  · rename_i r hr
    split at h
    · rename_i ht
      cases h
      obtain ⟨_, hlen, hall⟩ := masks_spec hr rfl
      refine ⟨by simp [hlen], fun k o ho => ?_, fun k o j p ho hp hjk => ?_⟩
      · have := hall k o (by simpa using ho)
        rw [Nat.zero_add] at this; exact this
      · obtain ⟨m, h1, _, h3⟩ := tmpsOk_spec ht k o (by simpa using ho)
        rw [Nat.zero_add] at h1
        have := h3 j p hjk (by simpa using hp)
        rw [Nat.zero_add] at this
        exact ⟨m, h1, this⟩
    · cases h
  · cases h

/-- a set of operations that holds, with an operation, all that come before it -/
def Closed (ms : List Nat) (S : Nat → Bool) : Prop := ∀ k m, S k = true → ms[k]? = some m → ∀ b, m.testBit b = true → S b = true

theorem Plan.covers {ops : Array Oper} {ms : List Nat} (hp : Plan ops ms) {S : Nat → Bool} (hS : Closed ms S) {k : Nat} {o : Oper} (ho : ops[k]? = some o) (he : ∀ e, e ∈ o.after.toList → Region.binds .any e = true → S e.on = true) {m : Nat} (hm : ms[k]? = some m) :
    ∀ b, m.testBit b = true → S b = true := by
  intro b hb
  obtain ⟨m', h1, h2⟩ := hp.mask k o ho
  rw [hm] at h1; cases h1
  obtain ⟨e, h3, h4, h5⟩ := h2.bits b hb
  rcases h5 with rfl | ⟨m2, h6, h7⟩
  · exact he e h3 h4
  · exact hS e.on m2 (he e h3 h4) h6 b h7

end Go.AV
