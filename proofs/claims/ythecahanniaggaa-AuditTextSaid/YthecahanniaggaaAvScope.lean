/-
  A scope with jumps, walked jump by jump, within a fence: after the kit's 'wp_scope_jumps' and 'wpIn_block'.
-/
import Derived.Test.YthecahanniaggaaAvRel
namespace Go

def Code.scopeIn (F : Fence) (n : Nat) (P : Program) (b : Code) (Q : Exit → Act → World → Prop) : Nat → Code → Act → World → Prop
  | 0, _, _, _ => False
  | m + 1, cur, a, w => cur.wpIn F n P (fun e a' w' => match e with
      | .goto l => (match findLabel b l with
        | some rest => Code.scopeIn F n P b Q m rest a' w'
        | none => Q (.goto l) a' w')
      | e => Q e a' w') a w

theorem wpIn_scope_rounds {F : Fence} {n : Nat} {P : Program} {c : Code} {Q : Exit → Act → World → Prop} {a : Act} {w : World} (m : Nat) (h : Code.scopeIn F n P c Q m c a w) :
    (Code.scope c).wpIn F n P Q a w := by
  intro b k cs hro hb hr
  have s1 : ∀ {a w}, step P (lone (b.atR a (.code (.scope c) :: k)) cs w) = .next (lone (b.atR a (.code c :: .inScope c :: k)) cs w) := step_lone_go (by simp [stepG, stepG.exec, Frame.atR])
  have s2 : ∀ {a w}, step P (lone (b.atR a (.inScope c :: k)) cs w) = .next (lone (b.atR a k) cs w) := step_lone_go (by simp [stepG, stepG.exec, Frame.atR])
  have key : ∀ m cur a w, Code.scopeIn F n P c Q m cur a w →
      ∃ e a' w', Q e a' w' ∧ ArrivesIn (Machine.fenced P F) P (lone (b.atR a (.code cur :: .inScope c :: k)) cs w) b k cs e a' w' := by
    intro m
    induction m with
    | zero => intro cur a w h; exact h.elim
    | succ m ih =>
      intro cur a w h
      obtain ⟨e, a₁, w₁, hq, harr⟩ := h b (.inScope c :: k) cs hro hb hr
      cases e with
      | normal => exact ⟨.normal, a₁, w₁, hq, StepsIn.trans harr (.one (fenced_calm hb hr rfl) s2)⟩
      | exit id =>
        have hx : exitTo id (.inScope c :: k) = exitTo id k := by simp [exitTo]
        exact ⟨.exit id, a₁, w₁, hq, fun k' hk => harr.1 k' (by rw [hx]; exact hk), fun hr' hk => harr.2 hr' (by rw [hx]; exact hk)⟩
      | goto l =>
        cases hf : findLabel c l with
        | some rest =>
          simp only [hf] at hq
          have hg : gotoIn l (.inScope c :: k) = some (.code rest :: .inScope c :: k) := by simp [gotoIn, hf]
          obtain ⟨e₂, a₂, w₂, hq₂, harr₂⟩ := ih _ _ _ hq
          exact ⟨e₂, a₂, w₂, hq₂, .of_steps (harr.1 _ hg) harr₂⟩
        | none =>
          simp only [hf] at hq
          have hg : gotoIn l (.inScope c :: k) = gotoIn l k := by simp [gotoIn, hf]
          exact ⟨.goto l, a₁, w₁, hq, fun k' hk => harr.1 k' (by rw [hg]; exact hk), fun hr' hk => harr.2 hr' (by rw [hg]; exact hk)⟩
      | ret => exact ⟨_, a₁, w₁, hq, harr⟩
      | panic ch => exact ⟨_, a₁, w₁, hq, harr⟩
      | outgrown => exact ⟨_, a₁, w₁, hq, harr⟩
  obtain ⟨e, a', w', hq, harr⟩ := key m c a w h
  exact ⟨e, a', w', hq, .of_steps (.one (fenced_calm hb hr rfl) s1) harr⟩

end Go
