/-
  Regions that draw their order, first part: folds of updates; what happens on a view happens on the whole heap.
-/
import Derived.Test.YthecahanniaggaaAvTop
namespace Go.AV

/-! ### Folds of updates -/
def foldU {α : Type} (S : Nat → Bool) (u : Nat → Nat → Option α) : Nat → (Nat → α) → Nat → α
  | 0, f, b => f b
  | n + 1, f, b => if S n then (u n b).getD (foldU S u n f b) else foldU S u n f b

theorem foldU_agree {α : Type} {S S' : Nat → Bool} {u : Nat → Nat → Option α} {f : Nat → α} {b : Nat} : ∀ {n : Nat}, (∀ k, k < n → u k b ≠ none → S k = S' k) → foldU S u n f b = foldU S' u n f b
  | 0, _ => rfl
  | n + 1, h => by
    have ih := foldU_agree (f := f) (n := n) fun k hk => h k (by omega)
    simp only [foldU, ih]
    cases hu : u n b with
    | none => simp
    | some x => rw [h n (by omega) (by rw [hu]; simp)]

theorem foldU_insert {α : Type} {S : Nat → Bool} {u : Nat → Nat → Option α} {f : Nat → α} {b j : Nat} (hS : S j = false) : ∀ {n : Nat}, j < n → (∀ k, j < k → k < n → S k = true → u j b ≠ none → u k b = none) →
    foldU (fun k => k == j || S k) u n f b = (u j b).getD (foldU S u n f b)
  | 0, h, _ => by omega
  | n + 1, h, hk => by
    cases hu : u j b with
    | none =>
      rw [Option.getD_none]
      exact foldU_agree fun k _ hk' => by
        have : k ≠ j := fun he => hk' (he ▸ hu)
        simp [this]
    | some x =>
      rw [Option.getD_some]
      by_cases hn : n = j
      · subst hn; simp [foldU, hu]
      · have ih := foldU_insert (f := f) (n := n) hS (by omega) fun k h1 h2 => hk k h1 (by omega)
        rw [hu, Option.getD_some] at ih
        simp only [foldU, ih]
        have hne : (n == j) = false := by simpa using hn
        rw [hne, Bool.false_or]
        split
        · rename_i hs
          rw [hk n (by omega) (by omega) hs (by rw [hu]; simp)]; rfl
        · rfl

/-- what an operation saw of the heap in the text's order is there in another -/
theorem foldU_prefix {α : Type} {S : Nat → Bool} {u : Nat → Nat → Option α} {f : Nat → α} {b j : Nat} : ∀ {n : Nat}, j ≤ n → (∀ k, k < j → u k b ≠ none → S k = true) → (∀ k, j ≤ k → k < n → S k = true → u k b = none) →
    foldU S u n f b = foldU (fun _ => true) u j f b := by
  intro n hjn h1 h2
  induction n with
  | zero => have : j = 0 := by omega
            subst this; rfl
  | succ n ih =>
    by_cases hj : j = n + 1
    · subst hj
      exact foldU_agree fun k hk hu => h1 k hk hu
    · have := ih (by omega) fun k a c => h2 k a (by omega)
      simp only [foldU, this]
      split
      · rename_i hs
        rw [h2 n (by omega) (by omega) hs]; rfl
      · rfl

theorem foldU_none {α : Type} {u : Nat → Nat → Option α} {f : Nat → α} {b : Nat} {S : Nat → Bool} : ∀ {n : Nat}, (∀ k, k < n → S k = false) → foldU S u n f b = f b
  | 0, _ => rfl
  | n + 1, h => by simp only [foldU, h n (by omega), Bool.false_eq_true, if_false]; exact foldU_none fun k hk => h k (by omega)

/-! ### What happens on a view -/
theorem Step.relabel {ρ ρ' : Ren} {H H' : HF} {w w' : World} {lo hi lo' hi' : Nat} (h : Step ρ H w ρ' H' w' lo hi) (hr : ∀ b, b < lo' ∨ hi' ≤ b → ρ' b = ρ b) : Step ρ H w ρ' H' w' lo' hi' := { h with rng := hr }

theorem Step.trans2 {ρ ρ1 ρ2 : Ren} {H H1 H2 : HF} {w w1 w2 : World} {lo hi a b c d : Nat} (h : Step ρ H w ρ1 H1 w1 a b) (k : Step ρ1 H1 w1 ρ2 H2 w2 c d) (h1 : lo ≤ a) (h2 : b ≤ hi) (h3 : lo ≤ c) (h4 : d ≤ hi) : Step ρ H w ρ2 H2 w2 lo hi := by
  refine ⟨k.os.trans h.os, k.tape.trans h.tape, k.output.trans h.output, Nat.le_trans h.size k.size, ?_, ?_, ?_, h.ext.trans k.ext, fun x hx => by rw [k.rng x (by omega), h.rng x (by omega)]⟩
  · intro r hr hno
    rw [k.same r (Nat.lt_of_lt_of_le hr h.size) ?_, h.same r hr hno]
    intro i o L hi ho hL he
    rcases h.own i o L hi ho hL with ⟨j, oj, Lj, hj, hoj, hLj, hej⟩ | hge
    · exact hno j oj Lj hj hoj hLj (hej.trans he)
    · omega
  · intro i o L hi ho hL
    rcases k.own i o L hi ho hL with ⟨j, oj, Lj, hj, hoj, hLj, hej⟩ | hge
    · rcases h.own j oj Lj hj hoj hLj with ⟨m, om, Lm, hm, hom, hLm, hem⟩ | hge
      · exact .inl ⟨m, om, Lm, hm, hom, hLm, hem.trans hej⟩
      · exact .inr (hej ▸ hge)
    · exact .inr (Nat.le_trans h.size hge)
  · intro i o L hi hL
    rcases k.any i o L hi hL with ⟨j, oj, Lj, hj, hLj, hej⟩ | hge
    · rcases h.any j oj Lj hj hLj with ⟨m, om, Lm, hm, hLm, hem⟩ | hge
      · exact .inl ⟨m, om, Lm, hm, hLm, hem.trans hej⟩
      · exact .inr (hej ▸ hge)
    · exact .inr (Nat.le_trans h.size hge)

theorem frame {ρ ρ' : Ren} {V H1 HS H2 : HF} {U : Nat → Prop} {w w' : World} {lo hi : Nat} (hv : ∀ b o, V b = some o → HS b = some o) (hU : ∀ b, ¬ U b → H1 b = V b)
    (h2 : ∀ b, U b → H2 b = H1 b) (h2' : ∀ b, ¬ U b → H2 b = HS b)
    (hh : HRel ρ HS w) (hh1 : HRel ρ' H1 w') (hs : Step ρ V w ρ' H1 w' lo hi) : HRel ρ' H2 w' ∧ Step ρ HS w ρ' H2 w' lo hi := by
  -- what stands in the new heap: a thing of the result's, or one that the view did not hold
  have cs : ∀ b o, H2 b = some o → H1 b = some o ∨ (V b = none ∧ HS b = some o) := by
    intro b o hb
    by_cases hu : U b
    · exact .inl (by rw [← h2 b hu]; exact hb)
    · have hb' : HS b = some o := by rw [← h2' b hu]; exact hb
      cases hV : V b with
      | none => exact .inr ⟨rfl, hb'⟩
      | some o' =>
        have := hv b o' hV
        rw [hb'] at this
        exact .inl (by rw [hU b hu, hV, this])
  have rest : ∀ b o, V b = none → HS b = some o → ∃ L x, ρ b = some L ∧ ρ' b = some L ∧ L.φ < w.heap.size ∧ w'.heap[L.φ]? = some x ∧ OR ρ' L o x ∧ (∀ i oi Li, V i = some oi → oi.owned = true → ρ i = some Li → Li.φ ≠ L.φ) := by
    intro b o hV hb
    obtain ⟨L, x, h1, h3, h4⟩ := hh.obj b o hb
    have hlt : L.φ < w.heap.size := (Array.getElem?_eq_some_iff.1 h3).1
    have hno : ∀ i oi Li, V i = some oi → oi.owned = true → ρ i = some Li → Li.φ ≠ L.φ := by
      intro i oi Li hi hoi hLi he
      have hib : b ≠ i := fun h => by subst h; rw [hV] at hi; cases hi
      exact hh.inj b i o oi L Li hb (hv i oi hi) hib hoi h1 hLi he.symm
    exact ⟨L, x, h1, hs.ext _ _ h1, hlt, by rw [hs.same _ hlt hno]; exact h3, h4.mono hs.ext, hno⟩
  refine ⟨⟨fun b o hb => ?_, fun i j oi oj Li Lj hi hj hij hoj hLi hLj => ?_⟩, ?_⟩
  · rcases cs b o hb with h | ⟨hV, h⟩
    · exact hh1.obj b o h
    · obtain ⟨L, x, a, b', c, d, e, _⟩ := rest b o hV h
      exact ⟨L, x, b', d, e⟩
  · rcases cs i oi hi with h | ⟨hV, h⟩
    · rcases cs j oj hj with k | ⟨hW, k⟩
      · exact hh1.inj i j oi oj Li Lj h k hij hoj hLi hLj
      · obtain ⟨L, x, a, b', c, d, e, g⟩ := rest j oj hW k
        rw [hLj] at b'; cases b'
        rcases hs.any i oi Li h hLi with ⟨m, om, Lm, hm, hLm, hem⟩ | hge
        · intro he
          have hmj : m ≠ j := fun h => by subst h; rw [hW] at hm; cases hm
          exact hh.inj m j om oj Lm Lj (hv m om hm) k hmj hoj hLm a (hem.trans he)
        · omega
    · obtain ⟨L, x, a, b', c, d, e, g⟩ := rest i oi hV h
      rw [hLi] at b'; cases b'
      rcases cs j oj hj with k | ⟨hW, k⟩
      · rcases hs.own j oj Lj k hoj hLj with ⟨m, om, Lm, hm, hom, hLm, hem⟩ | hge
        · exact fun he => g m om Lm hm hom hLm (hem.trans he.symm)
        · omega
      · obtain ⟨L2, x2, a2, b2, c2, d2, e2, g2⟩ := rest j oj hW k
        rw [hLj] at b2; cases b2
        exact hh.inj i j oi oj Li Lj h k hij hoj a a2
  · refine ⟨hs.os, hs.tape, hs.output, hs.size, fun r hr hno => hs.same r hr fun b o L hb => hno b o L (hv b o hb), fun b o L hb ho hL => ?_, fun b o L hb hL => ?_, hs.ext, hs.rng⟩
    · rcases cs b o hb with h | ⟨hV, h⟩
      · rcases hs.own b o L h ho hL with ⟨m, om, Lm, hm, hom, hLm, hem⟩ | hge
        · exact .inl ⟨m, om, Lm, hv m om hm, hom, hLm, hem⟩
        · exact .inr hge
      · obtain ⟨L2, x2, a2, b2, _⟩ := rest b o hV h
        rw [hL] at b2; cases b2
        exact .inl ⟨b, o, L, h, ho, a2, rfl⟩
    · rcases cs b o hb with h | ⟨hV, h⟩
      · rcases hs.any b o L h hL with ⟨m, om, Lm, hm, hLm, hem⟩ | hge
        · exact .inl ⟨m, om, Lm, hv m om hm, hLm, hem⟩
        · exact .inr hge
      · obtain ⟨L2, x2, a2, b2, _⟩ := rest b o hV h
        rw [hL] at b2; cases b2
        exact .inl ⟨b, o, L, h, a2, rfl⟩

end Go.AV
