/-
  The evaluator's soundness: regions in the text's order.
-/
import Derived.Test.YthecahanniaggaaAvCode
import Derived.TacticsIn
namespace Go.AV

section
variable {P : Program}

theorem aop_defer {tm : Tm} {h : Hs} {o : Oper} {r : Res} (hr : aop P tm h o = some r) {c : Call} (hc : o.op = .defer c) : ∃ d, r = .dfr d := by
  unfold aop at hr
  rw [hc] at hr
  dsimp only at hr
  unfold adefer at hr
  repeat' (split at hr)
  all_goals first | (cases hr; exact ⟨_, rfl⟩) | cases hr

theorem semAt_of {tm : Tm} {h : Hs} {o : Oper} {r : Res} (hr : aop P tm h o = some r) (hd : ∀ d, r ≠ .dfr d) (ro : Option Nat) (e : Operand → Value) : o.semAt ro e = execOp e o :=
  Oper.semAt_eq ro e o fun _ hc => let ⟨d, h⟩ := aop_defer hr hc; hd d h

/-- one operation that is no call -/
theorem op_val {F : Fence} {ρ : Ren} {h : Hs} {w : World} {fr fr1 : Fr} {a : Act} {o : Oper} {v : Value} {h1 : Hs} (hF : ∀ f, F.fn f) (hfr : FRel ρ fr a) (hh : HRel ρ h.heap.get w) (hf : Fresh ρ h.next h1.next)
    (hr : aop P fr.tm h o = some (.val v h1)) (hp : fr.put o.dst v = some fr1) {n : Nat} {K : Act → World → Prop} {Q : Exit → Act → World → Prop} (hK : ∀ a' w', Aft ρ h w fr1 h1 a' w' → K a' w') : o.wpIn F n P a w K Q := by
  obtain ⟨ρ', v', w', e1, e2, e3, e4⟩ := aop_sound (r := .val v h1) hfr.tr hh hf hr
  refine ⟨fun f _ => hF f, ?_⟩
  rw [semAt_of hr (fun _ h => by cases h), e1]
  exact hK _ _ ⟨ρ', Fr.put_ok (hfr.mono e4.ext) e2 hp, e3, e4⟩

theorem op_skip {F : Fence} {ρ : Ren} {h : Hs} {w : World} {fr fr1 : Fr} {a : Act} {o : Oper} {h1 : Hs} (hF : ∀ f, F.fn f) (hfr : FRel ρ fr a) (hh : HRel ρ h.heap.get w) (hf : Fresh ρ h.next h1.next)
    (hr : aop P fr.tm h o = some (.skip h1)) (hp : fr.put o.dst undef = some fr1) {n : Nat} {K : Act → World → Prop} {Q : Exit → Act → World → Prop} (hK : ∀ a' w', Aft ρ h w fr1 h1 a' w' → K a' w') : o.wpIn F n P a w K Q := by
  obtain ⟨ρ', w', e1, e3, e4⟩ := aop_sound (r := .skip h1) hfr.tr hh hf hr
  refine ⟨fun f _ => hF f, ?_⟩
  rw [semAt_of hr (fun _ h => by cases h), e1]
  exact hK _ _ ⟨ρ', Fr.put_ok (hfr.mono e4.ext) .undef hp, e3, e4⟩

theorem op_call {call : CallF} (hc : CallOK P call) {F : Fence} {rdd : Option Nat} {ρ : Ren} {h : Hs} {w : World} {fr fr1 : Fr} {a : Act} {o : Oper} {v : Value} {f : Nat} {args : List Value} {h1 : Hs} (hF : RFence ρ rdd F) (hfr : FRel ρ fr a)
    (hh : HRel ρ h.heap.get w) (hf : Fresh ρ h.next h1.next) {g : Hs} (hg : HRel ρ g.heap.get w)
    (hr : aop P fr.tm g o = some (.call f args)) (hcall : call f args h = some (v, h1)) (hp : fr.put o.dst v = some fr1) {n : Nat} {K : Act → World → Prop} {Q : Exit → Act → World → Prop} (hK : ∀ a' w', Aft ρ h w fr1 h1 a' w' → K a' w') : o.wpIn F n P a w K Q := by
  obtain ⟨args', e1, e2⟩ := aop_sound hfr.tr hg (fun b h1 h2 => absurd h2 (by simp only [Res.next]; omega)) hr
  refine ⟨fun f _ => hF.fn f, ?_⟩
  rw [semAt_of hr (fun _ h => by cases h), e1]
  refine ⟨fun hd => absurd hd (by rw [hF.depth]; simp), ?_⟩
  refine CallsIn.mono (hF.calls ((hc _ _ _ _ _ hcall).2 ρ w args' (n - 1) e2 hh hf)) fun e w' hgot => ?_
  obtain ⟨ρ', v', rfl, g1, g2, g3⟩ := hgot
  exact hK _ _ ⟨ρ', Fr.put_ok (hfr.mono g3.ext) g1 hp, g2, g3⟩

theorem op_round {round : CallF} (hc : RoundOK P round) {F : Fence} {rdd : Option Nat} {ρ : Ren} {h : Hs} {w : World} {fr fr1 : Fr} {a : Act} {o : Oper} {v : Value} {f : Nat} {args : List Value} {h1 : Hs} (hF : RFence ρ rdd F) (hfr : FRel ρ fr a)
    (hh : HRel ρ h.heap.get w) (hf : Fresh ρ h.next h1.next) {g : Hs} (hg : HRel ρ g.heap.get w)
    (hr : aop P fr.tm g o = some (.round f args)) (hcall : round f args h = some (v, h1)) (hp : fr.put o.dst v = some fr1) {n : Nat} {K : Act → World → Prop} {Q : Exit → Act → World → Prop} (hK : ∀ a' w', Aft ρ h w fr1 h1 a' w' → K a' w') : o.wpIn F n P a w K Q := by
  obtain ⟨L, args', hL, e1, e2⟩ := aop_sound hfr.tr hg (fun b h1 h2 => absurd h2 (by simp only [Res.next]; omega)) hr
  obtain ⟨f, tmps, assign, body, y1, y2⟩ := (hc _ _ _ _ _ hcall).2 ρ w args' (n - 1) L hL e2 hh hf
  refine ⟨fun f _ => hF.fn f, ?_⟩
  rw [semAt_of hr (fun _ h => by cases h), e1, y1]
  refine ⟨fun hd => absurd hd (by rw [hF.depth]; simp), ?_⟩
  refine RoundIn.mono (hF.round y2) fun e w' hgot => ?_
  obtain ⟨ρ', v', rfl, g1, g2, g3⟩ := hgot
  exact hK _ _ ⟨ρ', Fr.put_ok (hfr.mono g3.ext) g1 hp, g2, g3⟩

theorem op_dfr {F : Fence} {ρ : Ren} {h : Hs} {w : World} {fr fr1 : Fr} {a : Act} {o : Oper} {d : ADfr} (hF : ∀ f, F.fn f) (hF0 : F.round = none) (hfr : FRel ρ fr a) (hh : HRel ρ h.heap.get w)
    (hr : aop P fr.tm h o = some (.dfr d)) (hp : ({ fr with dfr := d :: fr.dfr } : Fr).put o.dst undef = some fr1) {n : Nat} {K : Act → World → Prop} {Q : Exit → Act → World → Prop} (hK : ∀ a' w', Aft ρ h w fr1 h a' w' → K a' w') : o.wpIn F n P a w K Q := by
  obtain ⟨d', e1, e2⟩ := aop_sound hfr.tr hh (fun b h1 h2 => absurd h2 (by simp only [Res.next]; omega)) hr
  refine ⟨fun f _ => hF f, ?_⟩
  rw [hF0, Oper.semAt_none, e1]
  exact hK _ _ ⟨ρ, Fr.put_ok (fr := { fr with dfr := d :: fr.dfr }) (a := { a with defers := d' :: a.defers }) ⟨hfr.tr, .cons _ _ _ _ e2 hfr.ds⟩ .undef hp, hh, Step.refl _ _ _ _ _⟩

theorem opsW_ok {call round : CallF} (hc : CallOK P call) (hr : RoundOK P round) {rdd : Option Nat} {ops : Array Oper} : ∀ (l : List Oper) (fr : Fr) (h : Hs) (fr' : Fr) (h' : Hs), opsW P call round rdd ops l fr h = some (fr', h') → Mod h h' ∧
    ∀ (ρ : Ren) (w : World) (a : Act) (n : Nat) (F : Fence), RFence ρ rdd F → FRel ρ fr a → HRel ρ h.heap.get w → Fresh ρ h.next h'.next → ∀ Q : Exit → Act → World → Prop, (∀ a' w', Aft ρ h w fr' h' a' w' → Q .normal a' w') → wpListIn F n P ops Q l a w
  | [], fr, h, fr', h', he => by
    simp only [opsW, Option.some.injEq, Prod.mk.injEq] at he
    obtain ⟨rfl, rfl⟩ := he
    exact ⟨Mod.refl _, fun ρ w a n F hF hfr hh hf Q hQ => hQ _ _ ⟨ρ, hfr, hh, Step.refl _ _ _ _ _⟩⟩
  | o :: l, fr, h, fr', h', he => by
    have go : ∀ (fr1 : Fr) (h1 : Hs), Mod h h1 → opsW P call round rdd ops l fr1 h1 = some (fr', h') →
        Mod h h' ∧ h1.next ≤ h'.next ∧ ∀ (ρ : Ren) (w : World) (n : Nat) (F : Fence), RFence ρ rdd F → Fresh ρ h.next h'.next → ∀ Q : Exit → Act → World → Prop, (∀ a' w', Aft ρ h w fr' h' a' w' → Q .normal a' w') →
          ∀ a' w', Aft ρ h w fr1 h1 a' w' → wpListIn F n P ops Q l a' w' := by
      intro fr1 h1 hm ho
      obtain ⟨m1, k1⟩ := opsW_ok hc hr l fr1 h1 fr' h' ho
      refine ⟨hm.trans m1, m1.next, fun ρ w n F hF hf Q hQ a' w' haft => ?_⟩
      obtain ⟨ρ', x1, x2, x3⟩ := haft
      exact k1 ρ' w' a' n F (hF.mono x3.ext) x1 x2 (x3.fresh hf hm.next) Q fun a2 w2 k => hQ _ _ (Aft.trans x3 hm.next m1.next k)
    simp only [opsW] at he
    split at he
    · cases he
    · rename_i hw
      split at he
      · rename_i fr1 hp
        obtain ⟨g1, g2, g3⟩ := go fr1 h (Mod.refl _) he
        refine ⟨g1, fun ρ w a n F hF hfr hh hf Q hQ => ?_⟩
        simp only [wpListIn, wantedB_ok hfr.tr hw, Bool.false_eq_true, if_false]
        exact ⟨fun f _ => hF.fn f, g3 ρ w n F hF hf Q hQ _ _ ⟨ρ, Fr.put_ok hfr .undef hp, hh, Step.refl _ _ _ _ _⟩⟩
      · cases he
    · rename_i hw
      have wl : ∀ {ρ : Ren} {a : Act} {w : World} {n : Nat} {F : Fence} {Q : Exit → Act → World → Prop}, FRel ρ fr a → o.wpIn F n P a w (wpListIn F n P ops Q l) Q → wpListIn F n P ops Q (o :: l) a w := by
        intro ρ a w n F Q hfr hwp
        simp only [wpListIn, wantedB_ok hfr.tr hw, if_true]
        exact hwp
      split at he
      · cases he
      · rename_i v h1 ha
        split at he
        · rename_i fr1 hp
          have hm := aop_mod ha
          obtain ⟨g1, g2, g3⟩ := go fr1 h1 hm he
          exact ⟨g1, fun ρ w a n F hF hfr hh hf Q hQ => wl hfr (op_val hF.fn hfr hh (hf.sub (Nat.le_refl _) g2) ha hp (g3 ρ w n F hF hf Q hQ))⟩
        · cases he
      · rename_i h1 ha
        split at he
        · rename_i fr1 hp
          have hm := aop_mod ha
          obtain ⟨g1, g2, g3⟩ := go fr1 h1 hm he
          exact ⟨g1, fun ρ w a n F hF hfr hh hf Q hQ => wl hfr (op_skip hF.fn hfr hh (hf.sub (Nat.le_refl _) g2) ha hp (g3 ρ w n F hF hf Q hQ))⟩
        · cases he
      · rename_i f args ha
        split at he
        · rename_i v h1 hcall
          split at he
          · rename_i fr1 hp
            obtain ⟨g1, g2, g3⟩ := go fr1 h1 (hc _ _ _ _ _ hcall).1 he
            exact ⟨g1, fun ρ w a n F hF hfr hh hf Q hQ => wl hfr (op_call hc hF hfr hh (hf.sub (Nat.le_refl _) g2) hh ha hcall hp (g3 ρ w n F hF hf Q hQ))⟩
          · cases he
        · cases he
      · rename_i f args ha
        split at he
        · rename_i v h1 hcall
          split at he
          · rename_i fr1 hp
            obtain ⟨g1, g2, g3⟩ := go fr1 h1 (hr _ _ _ _ _ hcall).1 he
            exact ⟨g1, fun ρ w a n F hF hfr hh hf Q hQ => wl hfr (op_round hr hF hfr hh (hf.sub (Nat.le_refl _) g2) hh ha hcall hp (g3 ρ w n F hF hf Q hQ))⟩
          · cases he
        · cases he
      · rename_i d ha
        split at he
        · split at he
          · rename_i fr1 hp
            obtain ⟨g1, g2, g3⟩ := go fr1 h (Mod.refl _) he
            exact ⟨g1, fun ρ w a n F hF hfr hh hf Q hQ => wl hfr (op_dfr hF.fn (by cases hF; rfl) hfr hh ha hp (g3 ρ w n F hF hf Q hQ))⟩
          · cases he
        · cases he
end
end Go.AV
