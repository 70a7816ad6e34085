/-
  The evaluator's soundness: all code, all functions.
-/
import Derived.Test.YthecahanniaggaaAvRun
namespace Go.AV

section
variable {P : Program}

theorem DRs.append {ρ : Ren} : ∀ {a b : List ADfr} {a' b' : List Deferred}, DRs ρ a a' → DRs ρ b b' → DRs ρ (a ++ b) (a' ++ b')
  | _, _, _, _, .nil, k => k
  | _, _, _, _, .cons d d' l l' h r, k => .cons d d' _ _ h (DRs.append r k)

theorem Mod.loopNew (h : Hs) (o : AObj) : Mod h (newObjA h o) := Mod.new h o

theorem rangeW_ok {call : CallF} (hc : CallOK P call) {rdd : Option Nat} {fr : Fr} {g : Nat} {first cap : List Value} {dk : Nat} {mark : List ADfr} {ps : Array Tmp} {asg b : Code} {h0 h : Hs} {e : AExit} {fr' : Fr} {h' : Hs} {f : Operand}
    (hev : ev fr.tm f = some (.func (.func g) ⟨first⟩ ⟨cap⟩))
    (he : codeW.rangeW P call fr g first cap dk mark ps asg b h = some (e, fr', h'))
    (hm0 : Mod h0 h)
    (hent : ∀ ρ w a F, RFence ρ rdd F → FRel ρ fr a → HRel ρ h0.heap.get w → Fresh ρ h0.next h'.next → h.next ≤ h'.next → ∀ fn, ∃ ρ1 w1 D ds', HRel ρ1 h.heap.get w1 ∧ Step ρ h0.heap.get w ρ1 h.heap.get w1 h0.next h.next ∧ (∃ L, ρ1 dk = some L ∧ D = L.φ) ∧ DRs ρ1 mark ds' ∧
      (Instr.enterLoop fn a.tmps ps asg b F.round).run P w = .ok (w1.heap.size, ds') (w1.alloc (.loop { state := .ready, pending := none, fn := fn, tmps := a.tmps, params := ps, assign := asg, body := b, defers := D }))) :
    Mod h0 h' ∧ ∀ (ρ : Ren) (w : World) (a : Act) (n : Nat) (F : Fence), RFence ρ rdd F → FRel ρ fr a → HRel ρ h0.heap.get w → Fresh ρ h0.next h'.next → (Code.rangeFunc f ps asg b).wpIn F n P (Post ρ h0 w e fr' h') a w := by
  unfold codeW.rangeW at he
  split at he
  · rename_i fn hfn
    split at he
    · rename_i body hbody hname
      split at he
      · rename_i v h1 hcall
        split at he
        · rename_i r hb1
          split at he
          · cases he
          · rename_i hst
            obtain ⟨mc, kc⟩ := hc _ _ _ _ _ hcall
            have mall := (hm0.trans (Mod.new h _)).trans mc
            have mset := mall.trans (Mod.set h1 h.next (.loop { r with st := .exhausted }) hb1)
            have fin : ∀ (jmp : Option Code) (c : Exit), r.pending = jmp → c = toExit e → fr' = { fr with dfr := mark ++ fr.dfr } → h' = { h1 with heap := h1.heap.set h.next (.loop { r with st := .exhausted }), log := h.next :: h1.log } →
                (∀ F n (Q : Exit → Act → World → Prop) a w, Q c a w → (match jmp with | none => Q .normal a w | some c => c.wpIn F n P Q a w)) →
                Mod h0 h' ∧ ∀ (ρ : Ren) (w : World) (a : Act) (n : Nat) (F : Fence), RFence ρ rdd F → FRel ρ fr a → HRel ρ h0.heap.get w → Fresh ρ h0.next h'.next → (Code.rangeFunc f ps asg b).wpIn F n P (Post ρ h0 w e fr' h') a w := by
              intro jmp c hj hce hfr' hh' hjump
              subst hh' hfr' hce
              refine ⟨mset, fun ρ w a n F hF hfr hh hf => wpIn_rangeFunc fun fnid _ => ?_⟩
              have hfr0 := hfr
              obtain ⟨ρ1, w1, D, ds', q1, q2, ⟨LD, hLD, rfl⟩, q4, q5⟩ := hent ρ w a F hF hfr hh hf (Nat.le_trans (Nat.le_succ _) mc.next) fnid
              have hn1 : h.next + 1 ≤ h1.next := mc.next
              have hfresh1 : Fresh ρ1 h.next h1.next := q2.fresh (hi := h1.next) hf hm0.next
              have hnew : ρ1 h.next = none := hfresh1 _ (Nat.le_refl _) (by omega)
              have hle1 : ρ1.le (ρ1.set h.next ⟨w1.heap.size, 0, 0⟩) := Ren.set_le _ hnew
              have hfr1 := (hfr.mono q2.ext).mono hle1
              obtain ⟨y1, y2⟩ := HRel.new (δ := 0) (ψ := 0) (o := .loop { st := .ready, pending := none, tm := fr.tm, n := fr.n, params := ps.toList, assign := asg, body := b, defers := dk }) (H' := (newObjA h (.loop { st := .ready, pending := none, tm := fr.tm, n := fr.n, params := ps.toList, assign := asg, body := b, defers := dk })).heap.get)
                (x := .loop { state := .ready, pending := none, fn := fnid, tmps := a.tmps, params := ps, assign := asg, body := b, defers := LD.φ }) q1 hnew
                ⟨rfl, rfl, hfr1.tr, rfl, rfl, rfl, LD, hle1 _ _ hLD, rfl⟩ (fun i => T.get_set _ _ _ _)
              have hfv := ev_sound hfr1.tr hev
              generalize hfe : a.eval f = fv at hfv
              cases hfv with
              | sc _ hs => simp [AV.simple] at hs
              | fn _ _ first' _ cap' z1 z2 =>
                have hname' : ¬ fn.name = "runtime.NumGoroutine" := by simpa using hname
                generalize hW : w1.alloc (.loop { state := .ready, pending := none, fn := fnid, tmps := a.tmps, params := ps, assign := asg, body := b, defers := LD.φ }) = W at q5 y1 y2
                refine ⟨w1.heap.size, ds', W, { target := .fn (.func g) ⟨cap'⟩, args := (⟨first'⟩ : Array Value) ++ #[.func (.yield w1.heap.size) #[] #[]] }, W, g, ⟨(first' ++ [.func (.yield w1.heap.size) #[] #[]]) ++ cap'⟩, W, q5, ?_, fun f' _ => hF.fn f', ?_, fun hd => absurd hd (by rw [hF.depth]; simp), ?_⟩
                · have hcst : a.eval (.const (.func (.yield w1.heap.size) #[] #[])) = .func (.yield w1.heap.size) #[] #[] := rfl
                  simp [resolve, Deferred.ofValue, hfe, hcst]
                · simp [invoke, callFunc, hfn, hname', hbody]
                · have hargs : VRs (ρ1.set h.next ⟨w1.heap.size, 0, 0⟩) ((first ++ [.func (.yield h.next) #[] #[]]) ++ cap) ((first' ++ [.func (.yield w1.heap.size) #[] #[]]) ++ cap') :=
                    (z1.append (.one (.yield _ ⟨w1.heap.size, 0, 0⟩ _ _ (Ren.set_same _ _ _) .nil))).append z2
                  refine CallsIn.mono (hF.calls (kc _ _ _ (n - 1) hargs y1 (y2.fresh hfresh1 (Nat.le_succ _)))) fun e2 w2 hgot => ?_
                  obtain ⟨ρ2, v', rfl, p1, p2, p3⟩ := hgot
                  have hL2 := p3.ext _ _ (Ren.set_same ρ1 h.next ⟨w1.heap.size, 0, 0⟩)
                  obtain ⟨r', hx, hget, s1, s2, s3, s4, s5, s6, s7⟩ := getLoop_run (P := P) p2 hb1 hL2
                  obtain ⟨w3, hs3, hh3, hst3⟩ := setLoop_ok (P := P) (r2 := { r with st := .exhausted }) (r2' := { r' with state := .exhausted }) p2 hb1 hL2 hx ⟨rfl, s2, s3, s4, s5, s6, s7⟩
                  refine ⟨jmp, w3, ?_, ?_⟩
                  · unfold Instr.endLoop
                    rw [hget]
                    have hnb : (r'.state == .busy) = false := by
                      rw [s1]
                      cases hs : r.st <;> first | rfl | exact (hst hs).elim
                    simp only [hnb, Bool.false_eq_true, if_false, Sem.run_bind, hs3, Result.andThen_ok, Sem.run_pure]
                    rw [s2, hj]
                  · have hP : Post ρ h0 w e { fr with dfr := mark ++ fr.dfr } { h1 with heap := h1.heap.set h.next (.loop { r with st := .exhausted }), log := h.next :: h1.log } (toExit e) { a with defers := ds' ++ a.defers } w3 := by
                      refine ⟨rfl, ρ2, ⟨(hfr1.mono p3.ext).tr, ?_⟩, hh3, ?_⟩
                      · exact ((DRs.mono (hle1.trans p3.ext) q4).append (hfr1.mono p3.ext).ds)
                      · exact (((q2.trans y2 hm0.next (Nat.le_succ _)).trans p3 (Nat.le_succ_of_le hm0.next) mc.next).trans (hst3 h1.next h1.next) (Nat.le_trans (Nat.le_succ_of_le hm0.next) mc.next) (Nat.le_refl _))
                    have hJ := hjump F n _ _ _ hP
                    cases jmp with
                    | none => exact hJ
                    | some c => exact hJ
            split at he
            · rename_i hp
              cases he
              exact fin none .normal hp rfl rfl rfl fun _ _ _ _ _ q => q
            · rename_i hp
              cases he
              exact fin (some .ret) .ret hp rfl rfl rfl fun _ _ _ _ _ q => wpIn_ret q
            · rename_i i hp
              cases he
              exact fin (some (.exit i)) (.exit i) hp rfl rfl rfl fun _ _ _ _ _ q => wpIn_exit q
            · rename_i i hp
              cases he
              exact fin (some (.goto i)) (.goto i) hp rfl rfl rfl fun _ _ _ _ _ q => wpIn_goto q
            · cases he
        · cases he
      · cases he
    · cases he
  · cases he
theorem enter_none {h : Hs} {ρ : Ren} {w : World} {a : Act} {ps : Array Tmp} {asg b : Code} {fn : FuncId} (hh : HRel ρ h.heap.get w) (hf : ρ h.next = none) :
    ∃ ρ1 w1 D ds', HRel ρ1 (newObjA h (.dfr true)).heap.get w1 ∧ Step ρ h.heap.get w ρ1 (newObjA h (.dfr true)).heap.get w1 h.next (newObjA h (.dfr true)).next ∧ (∃ L, ρ1 h.next = some L ∧ D = L.φ) ∧ DRs ρ1 [.mark h.next] ds' ∧
      (Instr.enterLoop fn a.tmps ps asg b none).run P w = .ok (w1.heap.size, ds') (w1.alloc (.loop { state := .ready, pending := none, fn := fn, tmps := a.tmps, params := ps, assign := asg, body := b, defers := D })) := by
  obtain ⟨y1, y2⟩ := HRel.new (δ := 0) (ψ := 0) (o := .dfr true) (x := .deferred (some [])) (H' := (newObjA h (.dfr true)).heap.get) hh hf rfl (fun i => T.get_set _ _ _ _)
  refine ⟨_, _, w.heap.size, [{ target := .collected w.heap.size, args := #[] }], y1, y2, ⟨_, Ren.set_same _ _ _, rfl⟩, .cons _ _ _ _ ⟨_, Ren.set_same _ _ _, rfl⟩ .nil, ?_⟩
  simp [Instr.enterLoop]

theorem regionW_ok (hD : DrawOK P) {call round : CallF} (hc : CallOK P call) (hr : RoundOK P round) {rdd : Option Nat} {ops : Array Oper} {draw : Bool} {fr fr' : Fr} {h h' : Hs} (he : regionW P call round rdd ops draw fr h = some (fr', h')) (id : Nat) : Mod h h' ∧
    ∀ (ρ : Ren) (w : World) (a : Act) (n : Nat) (F : Fence), RFence ρ rdd F → FRel ρ fr a → HRel ρ h.heap.get w → Fresh ρ h.next h'.next → (Code.region id ops draw).wpIn F n P (Post ρ h w .normal fr' h') a w := by
  unfold regionW at he
  split at he
  · obtain ⟨m, k⟩ := opsW_ok hc hr _ _ _ _ _ he
    exact ⟨m, fun ρ w a n F hF hfr hh hf => wpIn_region_list (k ρ w a n F hF hfr hh hf _ fun a' w' q => ⟨rfl, q⟩)⟩
  · split at he
    · rename_i ms hms
      obtain ⟨m, k⟩ := hD call round hc hr rdd ops ms fr h fr' h' hms he
      exact ⟨m, fun ρ w a n F hF hfr hh hf => k ρ w a n F hF hfr hh hf _ id fun a' w' q => ⟨rfl, q⟩⟩
    · cases he

theorem Post.exit {ρ : Ren} {h : Hs} {w : World} {e : AExit} {fr' : Fr} {h' : Hs} {e' : Exit} {a' : Act} {w' : World} (hp : Post ρ h w e fr' h' e' a' w') : e' = toExit e := hp.1

theorem codeW_ok (hD : DrawOK P) {ex : ExF} {call : CallF} (hex : ExOK P ex) (hc : CallOK P call) : ∀ rdd c fr h e fr' h', codeW P ex call rdd c fr h = some (e, fr', h') → Mod h h' ∧
    ∀ ρ w a n F, RFence ρ rdd F → FRel ρ fr a → HRel ρ h.heap.get w → Fresh ρ h.next h'.next → c.wpIn F n P (Post ρ h w e fr' h') a w := by
  intro rdd c fr h e fr' h' he
  have stay : ∀ {ρ : Ren} {w : World} {a : Act} (x : AExit), FRel ρ fr a → HRel ρ h.heap.get w → Post ρ h w x fr h (toExit x) a w := fun x h1 h2 => ⟨rfl, _, h1, h2, Step.refl _ _ _ _ _⟩
  unfold codeW at he
  split at he
  · cases he; exact ⟨Mod.refl _, fun ρ w a n F hF hfr hh hf => wpIn_skip (stay .normal hfr hh)⟩
  · cases he; exact ⟨Mod.refl _, fun ρ w a n F hF hfr hh hf => wpIn_label (stay .normal hfr hh)⟩
  · -- seq
    split at he
    · rename_i fr1 h1 h2
      obtain ⟨m1, k1⟩ := hex _ _ _ _ _ _ _ h2
      obtain ⟨m2, k2⟩ := hex _ _ _ _ _ _ _ he
      refine ⟨m1.trans m2, fun ρ w a n F hF hfr hh hf => wpIn_seq ?_⟩
      refine wpIn_mono (k1 ρ w a n F hF hfr hh (hf.sub (Nat.le_refl _) m2.next)) fun e1 a1 w1 hp => ?_
      obtain ⟨rfl, ρ1, x1, x2, x3⟩ := hp
      refine wpIn_mono (k2 ρ1 w1 a1 n F (hF.mono x3.ext) x1 x2 (x3.fresh hf m1.next)) fun e2 a2 w2 hp => ?_
      exact ⟨hp.1, Aft.trans x3 m1.next m2.next hp.2⟩
    · rename_i hne
      obtain ⟨m1, k1⟩ := hex _ _ _ _ _ _ _ he
      refine ⟨m1, fun ρ w a n F hF hfr hh hf => wpIn_seq ?_⟩
      refine wpIn_mono (k1 ρ w a n F hF hfr hh hf) fun e1 a1 w1 hp => ?_
      have := hp.1; subst this
      cases e with
      | normal => exact (hne _ _ he).elim
      | exit i => exact hp
      | goto l => exact hp
      | ret => exact hp
  · -- cond
    split at he
    · rename_i hev
      obtain ⟨m1, k1⟩ := hex _ _ _ _ _ _ _ he
      refine ⟨m1, fun ρ w a n F hF hfr hh hf => ?_⟩
      have hv := ev_sound hfr.tr hev
      generalize hx : a.eval _ = x at hv
      cases hv
      exact wpIn_cond_true hx (k1 ρ w a n F hF hfr hh hf)
    · rename_i hev
      obtain ⟨m1, k1⟩ := hex _ _ _ _ _ _ _ he
      refine ⟨m1, fun ρ w a n F hF hfr hh hf => ?_⟩
      have hv := ev_sound hfr.tr hev
      generalize hx : a.eval _ = x at hv
      cases hv
      exact wpIn_cond_false hx (k1 ρ w a n F hF hfr hh hf)
    · cases he
  · -- block
    rename_i id b
    split at he
    · rename_i i fr1 h1 hb
      obtain ⟨m1, k1⟩ := hex _ _ _ _ _ _ _ hb
      split at he
      · rename_i hi
        have hi' := Nat.eq_of_beq_eq_true hi
        cases he
        refine ⟨m1, fun ρ w a n F hF hfr hh hf => wpIn_block ?_⟩
        refine wpIn_mono (k1 ρ w a n F hF hfr hh hf) fun e1 a1 w1 hp => ?_
        obtain ⟨rfl, hp⟩ := hp
        simp only [toExit, Exit.inBlock, hi', if_true]
        exact ⟨rfl, hp⟩
      · rename_i hi
        have hi' : ¬ i = id := Nat.ne_of_beq_eq_false hi
        cases he
        refine ⟨m1, fun ρ w a n F hF hfr hh hf => wpIn_block ?_⟩
        refine wpIn_mono (k1 ρ w a n F hF hfr hh hf) fun e1 a1 w1 hp => ?_
        obtain ⟨rfl, hp⟩ := hp
        simp only [toExit, Exit.inBlock, hi', if_false]
        exact ⟨rfl, hp⟩
    · rename_i hne
      obtain ⟨m1, k1⟩ := hex _ _ _ _ _ _ _ he
      refine ⟨m1, fun ρ w a n F hF hfr hh hf => wpIn_block ?_⟩
      refine wpIn_mono (k1 ρ w a n F hF hfr hh hf) fun e1 a1 w1 hp => ?_
      have := hp.1; subst this
      cases e with
      | normal => exact hp
      | exit i => exact (hne _ _ _ he).elim
      | goto l => exact hp
      | ret => exact hp
  · cases he; exact ⟨Mod.refl _, fun ρ w a n F hF hfr hh hf => wpIn_exit (stay (.exit _) hfr hh)⟩
  · cases he; exact ⟨Mod.refl _, fun ρ w a n F hF hfr hh hf => wpIn_goto (stay (.goto _) hfr hh)⟩
  · cases he; exact ⟨Mod.refl _, fun ρ w a n F hF hfr hh hf => wpIn_ret (stay .ret hfr hh)⟩
  · -- region
    split at he
    · rename_i fr1 h1 hreg
      cases he
      exact regionW_ok hD hc (roundW_ok hex) hreg _
    · cases he
  · -- rangeFunc
    split at he
    · rename_i g first cap hev
      cases rdd with
      | none =>
        dsimp only at he
        exact rangeW_ok (rdd := none) hc hev he (Mod.new h _) fun ρ w a F hF hfr hh hf hlt fn => by
          cases hF
          exact enter_none hh (hf _ (Nat.le_refl _) hlt)
      | some l =>
        dsimp only at he
        split at he
        · rename_i dk mark hx heq
          split at heq
          · rename_i r hb
            cases heq
            exact rangeW_ok (rdd := some l) hc hev he (Mod.refl h) fun ρ w a F hF hfr hh hf hlt fn => by
              obtain ⟨L, hL, rfl⟩ := hF
              obtain ⟨r', hx, hget, s1, s2, s3, s4, s5, s6, LD, hLD, s7⟩ := getLoop_run (P := P) hh hb hL
              refine ⟨ρ, w, _, [], hh, Step.refl _ _ _ _ _, ⟨LD, hLD, s7⟩, .nil, ?_⟩
              simp only [Instr.enterLoop, Fence.inRound_round]
              rw [hget]
              simp
          · cases heq
        · cases he
    · cases he
  · cases he
theorem callN_ok {ex : ExF} (hex : ExOK P ex) : ∀ n, CallOK P (callN P ex n)
  | 0 => fun f args h v h' he => by simp [callN] at he
  | n + 1 => fun f args h v h' he => callW_ok (call := callN P ex n) hex f args h v h' he

theorem exec_ok (hD : DrawOK P) : ∀ n, ExOK P (exec P n)
  | 0 => fun rdd c fr h e fr' h' he => by simp [exec] at he
  | n + 1 => fun rdd c fr h e fr' h' he => by
    have ih := exec_ok hD n
    unfold exec at he
    split at he
    · cases he
    · rename_i heq
      cases heq
      obtain ⟨m, k⟩ := scopeW_ok ih _ _ _ _ _ _ _ _ _ he
      exact ⟨m, fun ρ w a n F hF hfr hh hf => wpIn_scope_rounds _ (k ρ w a n F hF hfr hh hf _ fun _ _ _ q => q)⟩
    · rename_i heq
      cases heq
      obtain ⟨m, k⟩ := loopW_ok ih _ _ _ _ _ _ _ _ he
      exact ⟨m, fun ρ w a n F hF hfr hh hf => wpIn_loop_rounds _ (k ρ w a n F hF hfr hh hf _ fun _ _ _ q => q)⟩
    · rename_i heq _ _
      cases heq
      exact codeW_ok hD ih (callN_ok ih _) _ _ _ _ _ _ _ he

theorem runF_ok (hD : DrawOK P) (fuel : Nat) : CallOK P (runF P fuel) := callN_ok (exec_ok hD fuel) fuel

def noRen : Ren := fun _ => none

/-- A function of no arguments that the evaluator sees return 'true' does. -/
theorem calls_of_run (hD : DrawOK P) {fuel f : Nat} {nx : Nat} (hr : outB (runF P fuel f [] { heap := .leaf, next := nx, log := [] }) = some true) (w : World) :
    Calls P f #[] w (fun e w' => e = .returned (.bool true) ∧ w'.os = w.os ∧ w'.tape = w.tape ∧ w'.output = w.output ∧ w.heap.size ≤ w'.heap.size ∧ ∀ r, r < w.heap.size → w'.heap[r]? = w.heap[r]?) := by
  cases he : runF P fuel f [] { heap := .leaf, next := nx, log := [] } with
  | none => rw [he] at hr; simp [outB] at hr
  | some x =>
    obtain ⟨v, h'⟩ := x
    have hv : v = .bool true := by
      rw [he] at hr
      unfold outB at hr
      split at hr
      · rename_i heq; cases heq; cases hr; rfl
      · cases hr
    subst hv
    have hh : HRel noRen (T.leaf : T AObj).get w := ⟨fun b o hb => absurd hb (by rw [T.get_leaf]; simp), fun i j oi oj Li Lj hi => absurd hi (by rw [T.get_leaf]; simp)⟩
    have hc := ((runF_ok hD fuel) _ _ _ _ _ he).2 noRen w [] 0 .nil hh (fun _ _ _ => rfl)
    refine Calls.mono (hc.calls fun _ => room_wide _) fun e w' hg => ?_
    obtain ⟨ρ', v', rfl, h1, h2, h3⟩ := hg
    cases h1
    exact ⟨rfl, h3.os, h3.tape, h3.output, h3.size, fun r hr => h3.same r hr fun b o L hb => absurd hb (by rw [T.get_leaf]; simp)⟩
end
end Go.AV
