/-
  The evaluator's soundness: code, rounds, calls.
-/
import Derived.Test.YthecahanniaggaaAvReg
import Derived.LoopNIn
namespace Go.AV

section
variable {P : Program}

def DrawOK (P : Program) : Prop := ∀ (call round : CallF), CallOK P call → RoundOK P round → ∀ (rdd : Option Nat) (ops : Array Oper) (ms : List Nat) (fr : Fr) (h : Hs) (fr' : Fr) (h' : Hs),
  planOf ops = some ms → drawW P call round ops ops.toList 0 ms [] fr h = some (fr', h') → Mod h h' ∧
    ∀ (ρ : Ren) (w : World) (a : Act) (n : Nat) (F : Fence), RFence ρ rdd F → FRel ρ fr a → HRel ρ h.heap.get w → Fresh ρ h.next h'.next → ∀ (Q : Exit → Act → World → Prop) (id : Nat),
      (∀ a' w', Aft ρ h w fr' h' a' w' → Q .normal a' w') → (Code.region id ops true).wpIn F n P Q a w

theorem loopW_ok {ex : ExF} (hex : ExOK P ex) : ∀ (m : Nat) (b : Code) (rdd : Option Nat) (fr : Fr) (h : Hs) (e : AExit) (fr' : Fr) (h' : Hs), loopW ex m b rdd fr h = some (e, fr', h') → Mod h h' ∧
    ∀ (ρ : Ren) (w : World) (a : Act) (n : Nat) (F : Fence), RFence ρ rdd F → FRel ρ fr a → HRel ρ h.heap.get w → Fresh ρ h.next h'.next → ∀ Q : Exit → Act → World → Prop,
      (∀ e' a' w', Post ρ h w e fr' h' e' a' w' → Q e' a' w') → Code.roundsIn F n P b Q m a w
  | 0, b, rdd, fr, h, e, fr', h', he => by simp [loopW] at he
  | m + 1, b, rdd, fr, h, e, fr', h', he => by
    simp only [loopW] at he
    split at he
    · rename_i fr1 h1 hb
      obtain ⟨m1, k1⟩ := hex _ _ _ _ _ _ _ hb
      obtain ⟨m2, k2⟩ := loopW_ok hex m b rdd fr1 h1 e fr' h' he
      refine ⟨m1.trans m2, fun ρ w a n F hF hfr hh hf Q hQ => ?_⟩
      rw [roundsIn_succ]
      refine wpIn_mono (k1 ρ w a n F hF hfr hh (hf.sub (Nat.le_refl _) m2.next)) fun e' a' w' hp => ?_
      obtain ⟨rfl, ρ1, x1, x2, x3⟩ := hp
      exact k2 ρ1 w' a' n F (hF.mono x3.ext) x1 x2 (x3.fresh hf m1.next) Q fun e2 a2 w2 ⟨y1, y2⟩ => hQ _ _ _ ⟨y1, Aft.trans x3 m1.next m2.next y2⟩
    · rename_i hne
      obtain ⟨m1, k1⟩ := hex _ _ _ _ _ _ _ he
      refine ⟨m1, fun ρ w a n F hF hfr hh hf Q hQ => ?_⟩
      rw [roundsIn_succ]
      refine wpIn_mono (k1 ρ w a n F hF hfr hh hf) fun e' a' w' hp => ?_
      have hp' := hp
      obtain ⟨rfl, -⟩ := hp'
      cases e with
      | normal => exact (hne _ _ he).elim
      | exit i => exact hQ _ _ _ hp
      | goto l => exact hQ _ _ _ hp
      | ret => exact hQ _ _ _ hp

theorem scopeW_ok {ex : ExF} (hex : ExOK P ex) : ∀ (m : Nat) (b cur : Code) (rdd : Option Nat) (fr : Fr) (h : Hs) (e : AExit) (fr' : Fr) (h' : Hs), scopeW ex m b cur rdd fr h = some (e, fr', h') → Mod h h' ∧
    ∀ (ρ : Ren) (w : World) (a : Act) (n : Nat) (F : Fence), RFence ρ rdd F → FRel ρ fr a → HRel ρ h.heap.get w → Fresh ρ h.next h'.next → ∀ Q : Exit → Act → World → Prop,
      (∀ e' a' w', Post ρ h w e fr' h' e' a' w' → Q e' a' w') → Code.scopeIn F n P b Q m cur a w
  | 0, b, cur, rdd, fr, h, e, fr', h', he => by simp [scopeW] at he
  | m + 1, b, cur, rdd, fr, h, e, fr', h', he => by
    simp only [scopeW] at he
    split at he
    · rename_i l fr1 h1 hb
      obtain ⟨m1, k1⟩ := hex _ _ _ _ _ _ _ hb
      split at he
      · rename_i rest hl
        obtain ⟨m2, k2⟩ := scopeW_ok hex m b rest rdd fr1 h1 e fr' h' he
        refine ⟨m1.trans m2, fun ρ w a n F hF hfr hh hf Q hQ => ?_⟩
        refine wpIn_mono (k1 ρ w a n F hF hfr hh (hf.sub (Nat.le_refl _) m2.next)) fun e' a' w' hp => ?_
        obtain ⟨rfl, ρ1, x1, x2, x3⟩ := hp
        simp only [toExit, hl]
        exact k2 ρ1 w' a' n F (hF.mono x3.ext) x1 x2 (x3.fresh hf m1.next) Q fun e2 a2 w2 ⟨y1, y2⟩ => hQ _ _ _ ⟨y1, Aft.trans x3 m1.next m2.next y2⟩
      · rename_i hl
        cases he
        refine ⟨m1, fun ρ w a n F hF hfr hh hf Q hQ => ?_⟩
        refine wpIn_mono (k1 ρ w a n F hF hfr hh hf) fun e' a' w' hp => ?_
        have hp' := hp
        obtain ⟨rfl, -⟩ := hp'
        simp only [toExit, hl]
        exact hQ _ _ _ hp
    · rename_i hne
      obtain ⟨m1, k1⟩ := hex _ _ _ _ _ _ _ he
      refine ⟨m1, fun ρ w a n F hF hfr hh hf Q hQ => ?_⟩
      refine wpIn_mono (k1 ρ w a n F hF hfr hh hf) fun e' a' w' hp => ?_
      have hp' := hp
      obtain ⟨rfl, -⟩ := hp'
      cases e with
      | normal => exact hQ _ _ _ hp
      | exit i => exact hQ _ _ _ hp
      | goto l => exact (hne _ _ _ he).elim
      | ret => exact hQ _ _ _ hp

/-! ### Records of loops -/
theorem getLoop_run {ρ : Ren} {w : World} {h : Hs} {b : Nat} {L : Loc} {r : ALoop} (hh : HRel ρ h.heap.get w) (hb : h.heap.get b = some (.loop r)) (hL : ρ b = some L) :
    ∃ r' : Loop, w.heap[L.φ]? = some (.loop r') ∧ (∀ {α : Type} (k : Loop → Sem α), (Instr.getLoop L.φ >>= k).run P w = (k r').run P w) ∧
      r'.state = r.st ∧ r'.pending = r.pending ∧ TR ρ r.tm r.n r'.tmps ∧ r'.params.toList = r.params ∧ r'.assign = r.assign ∧ r'.body = r.body ∧ ∃ L, ρ r.defers = some L ∧ r'.defers = L.φ := by
  obtain ⟨L0, x, hL0, hx0, hR⟩ := hh.obj _ _ hb
  rw [hL] at hL0; cases hL0
  cases x <;> simp only [OR] at hR <;> first | exact hR.elim | skip
  rename_i r'
  refine ⟨r', hx0, fun k => ?_, hR⟩
  simp [Instr.getLoop, getObj, Sem.run, hx0]

theorem setLoop_ok {ρ : Ren} {w : World} {h : Hs} {b : Nat} {L : Loc} {r r2 : ALoop} {r' r2' : Loop} (hh : HRel ρ h.heap.get w) (hb : h.heap.get b = some (.loop r)) (hL : ρ b = some L) (hx : w.heap[L.φ]? = some (.loop r')) (hR : OR ρ L (.loop r2) (.loop r2')) :
    ∃ w', (setObj L.φ (.loop r2')).run P w = .ok () w' ∧ HRel ρ (h.heap.set b (.loop r2)).get w' ∧ ∀ lo hi, Step ρ h.heap.get w ρ (h.heap.set b (.loop r2)).get w' lo hi :=
  setIter_ok (o := .loop r) hh hb rfl hL hx (fun _ _ _ h => by cases h) hR

theorem setPs_ok {ρ : Ren} {n : Nat} : ∀ {ps : List Tmp} {vs vs' : List Value} {tm tm' : Tm} {tmps : Array Value}, VRs ρ vs vs' → TR ρ tm n tmps → setPs ps vs n tm = some tm' →
    ps.length = vs.length ∧ TR ρ tm' n ((ps.zip vs').foldl (fun t (p, v) => t.setIfInBounds p v) tmps)
  | [], [], _, tm, tm', tmps, .nil, ht, he => by simp [setPs] at he; subst he; exact ⟨rfl, ht⟩
  | p :: ps, v :: vs, _, tm, tm', tmps, .cons _ v' _ vs' hv hl, ht, he => by
    simp only [setPs] at he
    split at he
    · rename_i hp
      obtain ⟨h1, h2⟩ := setPs_ok hl (ht.put (by rw [Nat.blt_eq] at hp; exact hp) hv) he
      exact ⟨by simp [h1], h2⟩
    · cases he
  | [], _ :: _, _, _, _, _, _, _, he => by simp [setPs] at he
  | _ :: _, [], _, _, _, _, _, _, he => by simp [setPs] at he

theorem jump_none (e : AExit) : (jumpOf e).isNone = (match e with | .normal => true | _ => false) := by cases e <;> rfl

theorem roundW_ok {ex : ExF} (hex : ExOK P ex) : RoundOK P (roundW ex) := by
  intro l args h v h' he
  unfold roundW at he
  split at he
  · rename_i r hb
    split at he
    · rename_i tm htm
      split at he
      · rename_i fr1 h1 hasg
        obtain ⟨m1, k1⟩ := hex _ _ _ _ _ _ _ hasg
        split at he
        · rename_i r1 hb1
          split at he
          · rename_i hready
            split at he
            · rename_i e fr3 h3 hbody
              obtain ⟨m2, k2⟩ := hex _ _ _ _ _ _ _ hbody
              split at he
              · rename_i r3 hb3
                cases he
                have mm1 := m1.trans (Mod.set h1 l (.loop { r1 with st := .busy }) hb1)
                have mm2 := mm1.trans m2
                have mm3 := mm2.trans (Mod.set h3 l (.loop { r3 with st := (match jumpOf e with | none => .ready | some _ => .done), pending := jumpOf e }) hb3)
                have n2 : h1.next ≤ h3.next := m2.next
                refine ⟨mm3, fun ρ w args' n L hL hargs hh hf => ?_⟩
                obtain ⟨r', hx, hget, q1, q2, q3, q4, q5, q6, q7⟩ := getLoop_run (P := P) hh hb hL
                obtain ⟨hlen, htr⟩ := setPs_ok hargs q3 htm
                have hlen' : args'.length = r'.params.size := by rw [hargs.length, ← hlen, ← q4]; simp
                refine ⟨r'.fn, (r'.params.zip ⟨args'⟩).foldl (fun t (p, v) => t.setIfInBounds p v) r'.tmps, r'.assign, r'.body, ?_, ?_⟩
                · simp only [Instr.yield]
                  rw [hget]
                  simp [hlen']
                · refine roundIn_of_wpIn trivial ?_
                  have htr' : TR ρ tm r.n ((r'.params.zip ⟨args'⟩).foldl (fun t (p, v) => t.setIfInBounds p v) r'.tmps) := by
                    rw [← Array.foldl_toList, Array.toList_zip, q4]; exact htr
                  have hF : RFence ρ (some l) (Fence.wide.inRound L.φ) := ⟨L, hL, rfl⟩
                  rw [q5]
                  refine wpIn_mono (k1 ρ w _ n _ hF ⟨htr', .nil⟩ hh (hf.sub (Nat.le_refl _) n2)) fun e1 a1 w1 hp => ?_
                  obtain ⟨rfl, ρ1, x1, x2, x3⟩ := hp
                  have hL1 := x3.ext _ _ hL
                  obtain ⟨r1', hx1, hget1, p1, p2, p3, p4, p5, p6, p7⟩ := getLoop_run (P := P) x2 hb1 hL1
                  obtain ⟨w2, hs2, hh2, hst2⟩ := setLoop_ok (P := P) (r2 := { r1 with st := .busy }) (r2' := { r1' with state := .busy }) x2 hb1 hL1 hx1 ⟨rfl, p2, p3, p4, p5, p6, p7⟩
                  have hs12 := x3.trans (hst2 h1.next h1.next) m1.next (Nat.le_refl _)
                  refine ⟨w2, ?_, ?_⟩
                  · unfold Instr.beginRound
                    rw [hget1]
                    simp only [Sem.run_bind, hs2, Result.andThen_ok, p1, hready, Sem.run_pure]
                  · rw [q6]
                    refine wpIn_mono (k2 ρ1 w2 a1 n _ (hF.mono x3.ext) x1 hh2 (hs12.fresh (hf.sub (Nat.le_refl _) (Nat.le_refl _)) m1.next)) fun e2 a2 w3 hp => ?_
                    obtain ⟨rfl, ρ3, y1, y2, y3⟩ := hp
                    have hL3 := y3.ext _ _ hL1
                    obtain ⟨r3', hx3, hget3, s1, s2, s3, s4, s5, s6, s7⟩ := getLoop_run (P := P) y2 hb3 hL3
                    have fin : ∀ (j : Option Code), j = jumpOf e → ∃ w4, (Instr.endRound L.φ j).run P w3 = .ok (.bool (jumpOf e).isNone) w4 ∧ Got ρ h w (.bool (jumpOf e).isNone) { h3 with heap := h3.heap.set l (.loop { r3 with st := (match jumpOf e with | none => .ready | some _ => .done), pending := jumpOf e }), log := l :: h3.log } (.returned (.bool (jumpOf e).isNone)) w4 := by
                      intro j hj
                      subst hj
                      obtain ⟨w4, hs4, hh4, hst4⟩ := setLoop_ok (P := P) (r2 := { r3 with st := (match jumpOf e with | none => .ready | some _ => .done), pending := jumpOf e }) (r2' := { r3' with state := if (jumpOf e).isNone then .ready else .done, pending := jumpOf e }) y2 hb3 hL3 hx3 ⟨by cases e <;> rfl, rfl, s3, s4, s5, s6, s7⟩
                      refine ⟨w4, ?_, ρ3, _, rfl, .sc _ rfl, hh4, ?_⟩
                      · unfold Instr.endRound
                        rw [hget3]
                        simp only [Sem.run_bind, hs4, Result.andThen_ok, Sem.run_pure]
                      · exact (hs12.trans y3 m1.next n2).trans (hst4 h3.next h3.next) (Nat.le_trans m1.next n2) (Nat.le_refl _)
                    cases e with
                    | normal => obtain ⟨w4, z1, z2⟩ := fin none rfl; exact ⟨_, w4, z1, z2⟩
                    | exit i => obtain ⟨w4, z1, z2⟩ := fin (some (.exit i)) rfl; exact ⟨_, w4, z1, z2⟩
                    | goto t => obtain ⟨w4, z1, z2⟩ := fin (some (.goto t)) rfl; exact ⟨_, w4, z1, z2⟩
                    | ret => obtain ⟨w4, z1, z2⟩ := fin (some .ret) rfl; exact ⟨_, w4, z1, z2⟩
              · cases he
            · cases he
          · cases he
        · cases he
      · cases he
    · cases he
  · cases he
/-! ### Calls of functions -/
theorem setAll_rd : ∀ (l : List Value) (i : Nat) (t : Tm) (j : Nat), rd (setAll l i t) j = if i ≤ j ∧ j < i + l.length then l.getD (j - i) undef else rd t j
  | [], i, t, j => by simp only [setAll, List.length_nil]; rw [if_neg (by omega)]
  | v :: l, i, t, j => by
    simp only [setAll, setAll_rd l, rd_set, List.length_cons]
    by_cases h1 : i + 1 ≤ j ∧ j < i + 1 + l.length
    · rw [if_pos h1, if_pos (by omega)]
      obtain ⟨k, hk⟩ : ∃ k, j - i = k + 1 := ⟨j - i - 1, by omega⟩
      rw [hk, show j - (i + 1) = k by omega]
      simp
    · rw [if_neg h1]
      by_cases h2 : j = i
      · subst h2; rw [if_pos rfl, if_pos (by omega)]; simp
      · rw [if_neg h2, if_neg (by omega)]

theorem VRs.getD {ρ : Ren} : ∀ {l l' : List Value}, VRs ρ l l' → ∀ (i : Nat), VR ρ (l.getD i undef) (l'.getD i undef)
  | _, _, .nil, i => by simpa using VR.undef
  | _, _, .cons v v' l l' h k, 0 => by simpa using h
  | _, _, .cons v v' l l' h k, i + 1 => by simpa using VRs.getD k i

theorem rd_leaf (j : Nat) : rd (.leaf : Tm) j = undef := by unfold rd; rw [T.get_leaf]

theorem enter_TR {ρ : Ren} {args args' : List Value} (h : VRs ρ args args') (m : Nat) :
    TR ρ (setAll args 0 .leaf) (args.length + (m - args.length)) ((⟨args'⟩ : Array Value) ++ Array.replicate (m - (⟨args'⟩ : Array Value).size) undef) := by
  have hl := h.length
  refine ⟨by simp [hl], fun t => ?_⟩
  rw [setAll_rd, rd_leaf]
  by_cases ht : t < args.length
  · rw [if_pos (by omega)]
    have : ((⟨args'⟩ : Array Value) ++ Array.replicate (m - (⟨args'⟩ : Array Value).size) undef).getD t undef = args'.getD t undef := by
      rw [Array.getD_eq_getD_getElem?, Array.getElem?_append_left (by simpa [hl] using ht)]
      simp
    rw [this]; simpa using h.getD t
  · rw [if_neg (by omega)]
    have : ((⟨args'⟩ : Array Value) ++ Array.replicate (m - (⟨args'⟩ : Array Value).size) undef).getD t undef = undef := by
      rw [Array.getD_eq_getD_getElem?, Array.getElem?_append_right (by simpa [hl] using ht)]
      rw [Array.getElem?_replicate]
      split <;> rfl
    rw [this]; exact .undef

def resOne (tmps : Array Value) : ResultVar → Sem Value
  | .tmp t => pure (tmps.getD t undef)
  | .cell a t => do loadVar t (← asAddr (tmps.getD a undef))

theorem results_eq (fn : Func) (tmps : Array Value) : results fn tmps = (do
    let vs ← fn.results.mapM (resOne tmps)
    pure (if h : vs.size = 1 then vs[0] else .tuple vs)) := rfl

theorem resultsA_ok {ρ : Ren} {w : World} {h : Hs} {tm : Tm} {n : Nat} {tmps : Array Value} (ht : TR ρ tm n tmps) (hh : HRel ρ h.heap.get w) : ∀ {l : List ResultVar} {vs : List Value}, resultsA P tm h l = some vs →
    ∃ vs', VRs ρ vs vs' ∧ (l.mapM (resOne tmps)).run P w = .ok vs' w
  | [], vs, he => by simp [resultsA] at he; subst he; exact ⟨[], .nil, rfl⟩
  | .tmp t :: l, vs, he => by
    simp only [resultsA] at he
    split at he
    · rename_i vs1 h1
      cases he
      obtain ⟨vs', h2, h3⟩ := resultsA_ok ht hh h1
      exact ⟨_, .cons _ _ _ _ (ht.2 t) h2, by simp [List.mapM_cons, resOne, h3]⟩
    · cases he
  | .cell a t :: l, vs, he => by
    simp only [resultsA] at he
    split at he
    · rename_i b off ha
      split at he
      · rename_i v vs1 hv h1
        cases he
        obtain ⟨vs', h2, h3⟩ := resultsA_ok ht hh h1
        obtain ⟨L, v', hL, hrun, hvR⟩ := readVar_sound (P := P) hh hv
        have hav := ht.2 a
        rw [ha] at hav
        generalize hx : tmps.getD a undef = x at hav
        cases hav with
        | sc _ hs => simp [AV.simple] at hs
        | ptr b o L' hL' =>
          rw [hL] at hL'; cases hL'
          exact ⟨_, .cons _ _ _ _ hvR h2, by simp [List.mapM_cons, resOne, h3, hx, asAddr, hrun]⟩
      · cases he
    · cases he

theorem oneA_ok {ρ : Ren} {vs vs' : List Value} (h : VRs ρ vs vs') : VR ρ (oneA vs) (if h : (⟨vs'⟩ : Array Value).size = 1 then (⟨vs'⟩ : Array Value)[0] else .tuple ⟨vs'⟩) := by
  cases h with
  | nil => exact .tuple _ _ .nil
  | cons v v' l l' hv hl =>
    cases hl with
    | nil => simpa [oneA] using hv
    | cons u u' m m' hu hm =>
      have : ¬ (⟨v' :: u' :: m'⟩ : Array Value).size = 1 := by simp
      rw [dif_neg this]
      exact .tuple _ _ (.cons _ _ _ _ hv (.cons _ _ _ _ hu hm))

theorem dfrs_mod : ∀ {ds : List ADfr} {h h' : Hs}, dfrs ds h = some h' → Mod h h'
  | [], h, h', he => by simp [dfrs] at he; subst he; exact Mod.refl _
  | .call _ _ _ :: _, _, _, he => by simp [dfrs] at he
  | .mark r :: ds, h, h', he => by
    simp only [dfrs] at he
    split at he
    · rename_i hb; exact (Mod.set h r (.dfr false) hb).trans (dfrs_mod he)
    · cases he

theorem dfrs_ok {F : Fence} {n : Nat} {fn : Func} {tmps : Array Value} {R : Ending → World → Prop} : ∀ {ds : List ADfr} {h h' : Hs} {ρ : Ren} {w : World} {ds' : List Deferred}, dfrs ds h = some h' → DRs ρ ds ds' → HRel ρ h.heap.get w →
    (∀ w', HRel ρ h'.heap.get w' → (∀ lo hi, lo ≤ hi → Step ρ h.heap.get w ρ h'.heap.get w' lo hi) → ∃ v, (results fn tmps).run P w' = .ok v w' ∧ R (.returned v) w') → LeavesInM F n P fn tmps R ds' .returning w
  | [], h, h', ρ, w, _, he, .nil, hh, hR => by
    simp [dfrs] at he; subst he
    exact hR w hh fun _ _ _ => Step.refl _ _ _ _ _
  | .call _ _ _ :: _, _, _, _, _, _, he, _, _, _ => by simp [dfrs] at he
  | .mark r :: ds, h, h', ρ, w, _, he, .cons _ d' _ ds' hd hds, hh, hR => by
    simp only [dfrs] at he
    split at he
    · rename_i hb
      obtain ⟨L, hL, rfl⟩ := hd
      obtain ⟨L0, x, hL0, hx0, hO⟩ := hh.obj _ _ hb
      rw [hL] at hL0; cases hL0
      cases x <;> simp only [OR] at hO <;> first | exact hO.elim | skip
      subst hO
      obtain ⟨w1, hs1, hh1, hst1⟩ := setIter_ok (P := P) (o := .dfr true) (o2 := .dfr false) (x2 := .deferred none) hh hb rfl hL hx0 (fun _ _ _ h => by cases h) rfl
      refine ⟨by simp, .inl ⟨L.φ, w1, rfl, ?_, dfrs_ok he hds hh1 fun w' q1 q2 => hR w' q1 fun lo hi hlh => ?_⟩⟩
      · simp [Instr.takeDeferred, getObj, Sem.run, hx0, hs1]
      · exact (hst1 lo lo).trans (q2 lo hi hlh) (Nat.le_refl _) hlh
    · cases he

theorem callW_ok {ex : ExF} {call : CallF} (hex : ExOK P ex) : CallOK P (callW P ex call) := by
  intro f args h v h' he
  unfold callW at he
  split at he
  · rename_i fn hfn
    split at he
    · rename_i body hbody
      have main : ∀ (e : AExit) (fr1 : Fr) (h1 : Hs), (e = .normal ∨ e = .ret) → ex none body { tm := setAll args 0 .leaf, n := args.length + (fn.ntmps - args.length), dfr := [] } h = some (e, fr1, h1) →
          (match dfrs fr1.dfr h1 with
            | some h => match resultsA P fr1.tm h fn.results.toList with
              | some vs => some (oneA vs, h)
              | none => none
            | none => none) = some (v, h') → Mod h h' ∧
            ∀ ρ w args' n, VRs ρ args args' → HRel ρ h.heap.get w → Fresh ρ h.next h'.next → CallsIn Fence.wide n P f ⟨args'⟩ w (Got ρ h w v h') := by
        intro e fr1 h1 hen hb he
        obtain ⟨m1, k1⟩ := hex _ _ _ _ _ _ _ hb
        split at he
        · rename_i h2 hd
          split at he
          · rename_i vs hvs
            cases he
            have m2 := dfrs_mod hd
            refine ⟨m1.trans m2, fun ρ w args' n hargs hh hf => ?_⟩
            refine callsIn_of_wp_marks hfn hbody trivial ?_
            refine wpIn_mono (k1 ρ w _ n Fence.wide rfl ⟨enter_TR hargs fn.ntmps, .nil⟩ hh (hf.sub (Nat.le_refl _) m2.next)) fun e' a' w' hp => ?_
            obtain ⟨rfl, ρ1, x1, x2, x3⟩ := hp
            have leave : LeavesInM Fence.wide n P fn a'.tmps (Got ρ h w (oneA vs) h') a'.defers .returning w' := by
              refine dfrs_ok hd x1.ds x2 fun w2 q1 q2 => ?_
              obtain ⟨vs', y1, y2⟩ := resultsA_ok (P := P) x1.tr q1 hvs
              refine ⟨_, ?_, ρ1, _, rfl, oneA_ok y1, q1, x3.trans (q2 h1.next h'.next m2.next) m1.next m2.next⟩
              rw [results_eq, Array.mapM_eq_mapM_toList]
              simp [y2]
            rcases hen with rfl | rfl
            · exact leave
            · exact leave
          · cases he
        · cases he
      split at he
      · rename_i fr1 h1 hb
        exact main _ _ _ (.inl rfl) hb he
      · rename_i fr1 h1 hb
        exact main _ _ _ (.inr rfl) hb he
      · cases he
    · cases he
  · cases he
end
end Go.AV
