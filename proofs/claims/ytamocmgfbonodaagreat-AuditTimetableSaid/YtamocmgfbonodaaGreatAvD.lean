/-
  A part of the proof: lemmas of my own.
-/
import Derived.Test.YtamocmgfbonodaaGreatAvA
import Derived.Test.YtamocmgfbonodaaGreatAvC
import Derived.RangeFuncCalls
import Derived.TacticsIn
import Derived.LoopNIn
set_option linter.unusedVariables false
set_option linter.unusedSimpArgs false
namespace Go.AV

/-- From one abstract heap to a later one: what the log does not name stays; the log names what is there, or new. -/
structure Mod (h h' : Hs) : Prop where
  next : h.next ≤ h'.next
  log : ∃ l, h'.log = l ++ h.log ∧ (∀ b, b ∈ l → h.heap.get b ≠ none ∨ (h.next ≤ b ∧ b < h'.next)) ∧ ∀ b, (b < h.next ∨ h'.next ≤ b) → b ∉ l → h'.heap.get b = h.heap.get b

theorem Mod.refl (h : Hs) : Mod h h := ⟨Nat.le_refl _, [], rfl, fun _ hb => (by cases hb), fun _ _ _ => rfl⟩

theorem Mod.trans {a b c : Hs} (h : Mod a b) (k : Mod b c) : Mod a c := by
  obtain ⟨l, h1, h3, h2⟩ := h.log
  obtain ⟨m, k1, k3, k2⟩ := k.log
  have hn := h.next
  have kn := k.next
  refine ⟨Nat.le_trans h.next k.next, m ++ l, by rw [k1, h1, List.append_assoc], fun x hx => ?_, fun x hx hm => ?_⟩
  · have first : x ∈ l → a.heap.get x ≠ none ∨ (a.next ≤ x ∧ x < c.next) := fun hl => by
      rcases h3 x hl with q | q
      · exact .inl q
      · exact .inr (by omega)
    rcases List.mem_append.1 hx with hm | hl
    · rcases k3 x hm with q | q
      · by_cases hl : x ∈ l
        · exact first hl
        · by_cases hr : a.next ≤ x ∧ x < b.next
          · exact .inr (by omega)
          · exact .inl (by rw [← h2 x (by omega) hl]; exact q)
      · exact .inr (by omega)
    · exact first hl
  · rw [List.mem_append, not_or] at hm
    rw [k2 x (by omega) hm.1, h2 x (by omega) hm.2]

theorem Mod.new (h : Hs) (o : AObj) : Mod h (newObjA h o) :=
  ⟨Nat.le_succ _, [], rfl, fun _ hb => (by cases hb), fun b hb _ => by
    simp only [newObjA, T.get_set] at hb ⊢
    rw [if_neg (by omega)]⟩

theorem Mod.set (h : Hs) (b : Nat) (o : AObj) {o0 : AObj} (hb : h.heap.get b = some o0) : Mod h { h with heap := h.heap.set b o, log := b :: h.log } :=
  ⟨Nat.le_refl _, [b], rfl, fun i hi => by rw [List.mem_singleton.1 hi, hb]; exact .inl (by simp), fun i _ hi => by
    simp only [T.get_set]
    rw [if_neg (by simpa using hi)]⟩

theorem Mod.turn (h : Hs) (b : Nat) (o : AObj) {o0 : AObj} (hb : h.heap.get b = some o0) : Mod h { heap := (h.heap.del b).set h.next o, next := h.next + 1, log := b :: h.log } :=
  ⟨Nat.le_succ _, [b], rfl, fun i hi => by rw [List.mem_singleton.1 hi, hb]; exact .inl (by simp), fun i hb hi => by
    simp only [T.get_set, T.get_del] at hb ⊢
    rw [if_neg (by omega), if_neg (by simpa using hi)]⟩

theorem Mod.skip (h : Hs) : Mod h { h with next := h.next + 1 } := ⟨Nat.le_succ _, [], rfl, fun _ hb => (by cases hb), fun _ _ _ => rfl⟩

theorem Mod.write {h h' : Hs} {b off : Nat} {vs : List Value} (hr : writeAt h b off vs = some h') : Mod h h' := by
  unfold writeAt at hr
  repeat' (split at hr)
  all_goals first | (cases hr; exact Mod.set _ _ _ (by assumption)) | cases hr

def Res.hs (h : Hs) : Res → Hs
  | .val _ h' | .skip h' => h'
  | _ => h

section
variable {P : Program} {h : Hs} {r : Res}

theorem amod_append {ats : List TypeId} {s x : Value} (hr : aappend P h ats s x = some r) : Mod h (r.hs h) := by
  unfold aappend at hr
  repeat' (split at hr)
  all_goals first
    | (cases hr; exact Mod.refl _)
    | (cases hr; exact Mod.new _ _)
    | (cases hr; exact Mod.turn _ _ _ (by assumption))
    | (cases hr; exact Mod.write (by assumption))
    | cases hr

theorem amod_builtin {b : Builtin} {ats : List TypeId} {l : List Value} (hr : abuiltin P h b ats l = some r) : Mod h (r.hs h) := by
  unfold abuiltin at hr
  split at hr
  · exact amod_append hr
  all_goals
    repeat' (split at hr)
    all_goals first
      | (cases hr; exact Mod.refl _)
      | (cases hr; exact Mod.set _ _ _ (by assumption))
      | (cases hr; exact Mod.write (by assumption))
      | cases hr

theorem amod_convert {s d : TypeId} {x : Value} (hr : aconvert P h s d x = some r) : Mod h (r.hs h) := by
  unfold aconvert at hr
  repeat' (split at hr)
  all_goals first
    | (cases hr; exact Mod.refl _)
    | (cases hr; exact Mod.new _ _)
    | cases hr

theorem amod_extern {fn : Func} {args : List Value} (hr : aextern P h fn args = some r) : Mod h (r.hs h) := by
  unfold aextern at hr
  repeat' (split at hr)
  all_goals first
    | (cases hr; exact Mod.refl _)
    | (cases hr; exact Mod.new _ _)
    | cases hr

theorem amod_call {tm : Tm} {c : Call} (hr : acall P tm h c = some r) : Mod h (r.hs h) := by
  unfold acall at hr
  repeat' (split at hr)
  all_goals first
    | exact amod_builtin hr
    | exact amod_extern hr
    | (cases hr; exact Mod.refl _)
    | cases hr

theorem amod_sliceSl {tm : Tm} {size : Nat} {a : Option Addr} {len cap : Nat} {lo hi mx : Option Operand} (hr : sliceSl h tm size a len cap lo hi mx = some r) : Mod h (r.hs h) := by
  unfold sliceSl at hr
  repeat' (split at hr)
  all_goals first
    | (cases hr; exact Mod.refl _)
    | (cases hr; exact Mod.skip _)
    | (cases hr; exact Mod.turn _ _ _ (by assumption))
    | cases hr

theorem amod_slice {tm : Tm} {xt : TypeId} {x : Value} {lo hi mx : Option Operand} (hr : aslice P tm h xt x lo hi mx = some r) : Mod h (r.hs h) := by
  unfold aslice at hr
  repeat' (split at hr)
  all_goals first
    | exact amod_sliceSl hr
    | (cases hr; exact Mod.refl _)
    | cases hr

theorem aop_mod {tm : Tm} {o : Oper} (hr : aop P tm h o = some r) : Mod h (r.hs h) := by
  unfold aop at hr
  split at hr
  all_goals first
    | exact amod_call hr
    | (unfold opt1 at hr; split at hr; · exact amod_slice hr
       · cases hr)
    | (unfold opt1 at hr; split at hr; · exact amod_convert hr
       · cases hr)
    | skip
  all_goals
    (try unfold opt1 at hr)
    (try unfold opt2 at hr)
    (try unfold opt3 at hr)
    (try unfold abuild at hr)
    (try unfold abuildSlice at hr)
    (try unfold aload at hr)
    (try unfold astore at hr)
    (try unfold anilCheck at hr)
    (try unfold aunary at hr)
    (try unfold amakeSlice at hr)
    (try unfold afieldAddr at hr)
    (try unfold afield at hr)
    (try unfold aindexAddr at hr)
    (try unfold aindex at hr)
    (try unfold alookup at hr)
    (try unfold amapUpdate at hr)
    (try unfold amapEntry at hr)
    (try unfold aentryStore at hr)
    (try unfold arange at hr)
    (try unfold anext at hr)
    (try unfold aentry at hr)
    (try unfold aextract at hr)
    (try unfold adefer at hr)
    repeat' (first | split at hr | (dsimp only at hr; split at hr))
    all_goals first
      | (cases hr; exact Mod.refl _)
      | (cases hr; exact Mod.new _ _)
      | (cases hr; exact Mod.set _ _ _ (by assumption))
      | (cases hr; exact Mod.write (by assumption))
      | cases hr
end
end Go.AV

namespace Go

def Code.scopeIn (F : Fence) (n : Nat) (P : Program) (b : Code) (Q : Exit → Act → World → Prop) : Nat → Code → Act → World → Prop
  | 0, _, _, _ => False
  | m + 1, cur, a, w => cur.wpIn F n P (fun e a' w' => match e with
      | .goto l => (match findLabel b l with
        | some rest => Code.scopeIn F n P b Q m rest a' w'
        | none => Q (.goto l) a' w')
      | e => Q e a' w') a w

theorem wpIn_scope_rounds {F : Fence} {n : Nat} {P : Program} {c : Code} {Q : Exit → Act → World → Prop} {a : Act} {w : World} (m : Nat) (h : Code.scopeIn F n P c Q m c a w) :
    (Code.scope c).wpIn F n P Q a w := by
  intro b k cs hro hb hr
  have s1 : ∀ {a w}, step P (lone (b.atR a (.code (.scope c) :: k)) cs w) = .next (lone (b.atR a (.code c :: .inScope c :: k)) cs w) := step_lone_go (by simp [stepG, stepG.exec, Frame.atR])
  have s2 : ∀ {a w}, step P (lone (b.atR a (.inScope c :: k)) cs w) = .next (lone (b.atR a k) cs w) := step_lone_go (by simp [stepG, stepG.exec, Frame.atR])
  have key : ∀ m cur a w, Code.scopeIn F n P c Q m cur a w →
      ∃ e a' w', Q e a' w' ∧ ArrivesIn (Machine.fenced P F) P (lone (b.atR a (.code cur :: .inScope c :: k)) cs w) b k cs e a' w' := by
    intro m
    induction m with
    | zero => intro cur a w h; exact h.elim
    | succ m ih =>
      intro cur a w h
      obtain ⟨e, a₁, w₁, hq, harr⟩ := h b (.inScope c :: k) cs hro hb hr
      cases e with
      | normal => exact ⟨.normal, a₁, w₁, hq, StepsIn.trans harr (.one (fenced_calm hb hr rfl) s2)⟩
      | exit id =>
        have hx : exitTo id (.inScope c :: k) = exitTo id k := by simp [exitTo]
        exact ⟨.exit id, a₁, w₁, hq, fun k' hk => harr.1 k' (by rw [hx]; exact hk), fun hr' hk => harr.2 hr' (by rw [hx]; exact hk)⟩
      | goto l =>
        cases hf : findLabel c l with
        | some rest =>
          simp only [hf] at hq
          have hg : gotoIn l (.inScope c :: k) = some (.code rest :: .inScope c :: k) := by simp [gotoIn, hf]
          obtain ⟨e₂, a₂, w₂, hq₂, harr₂⟩ := ih _ _ _ hq
          exact ⟨e₂, a₂, w₂, hq₂, .of_steps (harr.1 _ hg) harr₂⟩
        | none =>
          simp only [hf] at hq
          have hg : gotoIn l (.inScope c :: k) = gotoIn l k := by simp [gotoIn, hf]
          exact ⟨.goto l, a₁, w₁, hq, fun k' hk => harr.1 k' (by rw [hg]; exact hk), fun hr' hk => harr.2 hr' (by rw [hg]; exact hk)⟩
      | ret => exact ⟨_, a₁, w₁, hq, harr⟩
      | panic ch => exact ⟨_, a₁, w₁, hq, harr⟩
      | outgrown => exact ⟨_, a₁, w₁, hq, harr⟩
  obtain ⟨e, a', w', hq, harr⟩ := key m c a w h
  exact ⟨e, a', w', hq, .of_steps (.one (fenced_calm hb hr rfl) s1) harr⟩

end Go

namespace Go.AV

theorem Res.hs_next (h : Hs) (r : Res) : (r.hs h).next = r.next h := by cases r <;> rfl

inductive DRs (ρ : Ren) : List ADfr → List Deferred → Prop where
  | nil : DRs ρ [] []
  | cons (d : ADfr) (d' : Deferred) (l : List ADfr) (l' : List Deferred) (h : DR ρ d d') (k : DRs ρ l l') : DRs ρ (d :: l) (d' :: l')

theorem DR.mono {ρ ρ' : Ren} (hl : ρ.le ρ') {d : ADfr} {d' : Deferred} (h : DR ρ d d') : DR ρ' d d' := by
  cases d with
  | call f args captured => obtain ⟨a, c, h1, h2, h3⟩ := h; exact ⟨a, c, h1, h2.mono hl, h3.mono hl⟩
  | mark r => obtain ⟨L, h1, h2⟩ := h; exact ⟨L, hl _ _ h1, h2⟩

theorem DRs.mono {ρ ρ' : Ren} (hl : ρ.le ρ') : ∀ {l : List ADfr} {l' : List Deferred}, DRs ρ l l' → DRs ρ' l l'
  | _, _, .nil => .nil
  | _, _, .cons _ _ _ _ h k => .cons _ _ _ _ (h.mono hl) (k.mono hl)

structure FRel (ρ : Ren) (fr : Fr) (a : Act) : Prop where
  tr : TR ρ fr.tm fr.n a.tmps
  ds : DRs ρ fr.dfr a.defers

theorem FRel.mono {ρ ρ' : Ren} (hl : ρ.le ρ') {fr : Fr} {a : Act} (h : FRel ρ fr a) : FRel ρ' fr a := ⟨h.tr.mono hl, h.ds.mono hl⟩

theorem rd_set (tm : Tm) (d : Nat) (v : Value) (t : Nat) : rd (tm.set d v) t = if t = d then v else rd tm t := by
  unfold rd
  rw [T.get_set]
  by_cases ht : t = d
  · rw [if_pos ht, if_pos ht]
  · rw [if_neg ht, if_neg ht]

theorem TR.put {ρ : Ren} {tm : Tm} {n : Nat} {tmps : Array Value} (h : TR ρ tm n tmps) {d : Nat} (hd : d < n) {v v' : Value} (hv : VR ρ v v') : TR ρ (tm.set d v) n (tmps.setIfInBounds d v') := by
  refine ⟨by rw [Array.size_setIfInBounds]; exact h.1, fun t => ?_⟩
  rw [rd_set]
  by_cases ht : t = d
  · subst ht
    rw [if_pos rfl]
    have : (tmps.setIfInBounds t v').getD t undef = v' := by simp [Array.getD, h.1, hd]
    rw [this]; exact .inr hv
  · rw [if_neg ht]
    have : (tmps.setIfInBounds d v').getD t undef = tmps.getD t undef := by
      simp only [Array.getD_eq_getD_getElem?]
      rw [Array.getElem?_setIfInBounds_ne (by omega)]
    rw [this]; exact h.2 t

theorem Fr.put_ok {ρ : Ren} {fr fr' : Fr} {a : Act} (h : FRel ρ fr a) {d : Option Tmp} {v v' : Value} (hv : VR ρ v v') (hp : fr.put d v = some fr') : FRel ρ fr' (a.put d v') := by
  unfold Fr.put at hp
  split at hp
  · split at hp
    · rename_i d hd
      cases hp
      exact ⟨h.tr.put (by rw [Nat.blt_eq] at hd; exact hd) hv, h.ds⟩
    · cases hp
  · cases hp
    exact h

theorem nth_eq {α : Type} : ∀ (l : List α) (i : Nat), nth l i = l[i]?
  | [], i => by simp [nth]
  | a :: l, 0 => rfl
  | a :: l, i + 1 => by simp [nth, nth_eq l i]

theorem wantedB_ok {ρ : Ren} {ops : Array Oper} {tm : Tm} {n : Nat} {a : Act} (h : TR ρ tm n a.tmps) {o : Oper} {b : Bool} (hw : wantedB ops tm o = some b) :
    Region.wanted o (yielded ops a.tmps) = b := by
  unfold wantedB at hw
  unfold Region.wanted
  split at hw
  · rename_i hg
    cases hw
    simp [hg]
  · rename_i j want hg
    simp only [hg]
    have hn : nth ops.toList j = ops[j]? := by rw [nth_eq]; simp
    rw [hn] at hw
    unfold yielded
    split at hw
    · rename_i d hd
      have hd' : (ops[j]?).bind (·.dst) = some d := hd
      rw [hd']
      have hv := h.2 d
      simp only [Option.bind_some]
      split at hw
      · rename_i b' hb
        cases hw
        rw [hb] at hv
        replace hv := hv.vr (fun e => by cases e)
        generalize hx : a.tmps.getD d undef = x at hv
        cases hv
        have hsome : a.tmps[d]? = some (.bool b') := by
          rw [Array.getD_eq_getD_getElem?] at hx
          cases he : a.tmps[d]? with
          | none => rw [he] at hx; simp [undef] at hx
          | some y => rw [he] at hx; simp at hx; rw [hx]
        rw [hsome]
        cases b' <;> cases want <;> rfl
      · rename_i b' hb
        cases hw
        rw [hb] at hv
        replace hv := hv.vr (fun e => by cases e)
        generalize hx : a.tmps.getD d undef = x at hv
        have hx' : ∃ l, x = .tuple l := by
          cases hv with
          | sc _ hs => simp [AV.simple] at hs
          | tuple _ l _ => exact ⟨_, rfl⟩
        obtain ⟨l, rfl⟩ := hx'
        rw [Array.getD_eq_getD_getElem?] at hx
        cases he : a.tmps[d]? with
        | none => simp
        | some y => rw [he] at hx; simp at hx; subst hx; simp
      · cases hw
    · rename_i hd
      cases hw
      have hd' : (ops[j]?).bind (·.dst) = none := hd
      rw [hd']
      simp

def toExit : AExit → Exit
  | .normal => .normal
  | .exit i => .exit i
  | .goto l => .goto l
  | .ret => .ret

/-- What has come of a state: frame, heap and all. -/
def Aft (ρ : Ren) (h : Hs) (w : World) (fr' : Fr) (h' : Hs) (a' : Act) (w' : World) : Prop :=
  ∃ ρ', FRel ρ' fr' a' ∧ HRel ρ' h'.heap.get w' ∧ Step ρ h.heap.get w ρ' h'.heap.get w' h.next h'.next

def Post (ρ : Ren) (h : Hs) (w : World) (e : AExit) (fr' : Fr) (h' : Hs) (e' : Exit) (a' : Act) (w' : World) : Prop :=
  e' = toExit e ∧ Aft ρ h w fr' h' a' w'

/-- What a call hands back. -/
def Got (ρ : Ren) (h : Hs) (w : World) (v : Value) (h' : Hs) (e : Ending) (w' : World) : Prop :=
  ∃ ρ' v', e = .returned v' ∧ VR ρ' v v' ∧ HRel ρ' h'.heap.get w' ∧ Step ρ h.heap.get w ρ' h'.heap.get w' h.next h'.next

def CallOK (P : Program) (call : CallF) : Prop := ∀ f args h v h', call f args h = some (v, h') → Mod h h' ∧
  ∀ ρ w args' n, VRs ρ args args' → HRel ρ h.heap.get w → Fresh ρ h.next h'.next → CallsIn Fence.wide n P f ⟨args'⟩ w (Got ρ h w v h')

def RoundOK (P : Program) (round : CallF) : Prop := ∀ l args h v h', round l args h = some (v, h') → Mod h h' ∧
  ∀ ρ w args' n L, ρ l = some L → VRs ρ args args' → HRel ρ h.heap.get w → Fresh ρ h.next h'.next →
    ∃ f tmps assign body, (Instr.yield L.φ ⟨args'⟩).run P w = .ok (.round L.φ f tmps assign body) w ∧ RoundIn Fence.wide n P L.φ f tmps assign body w (Got ρ h w v h')

/-- the fence at which code is walked, in a function's frame or in a round's -/
def RFence (ρ : Ren) : Option Nat → Fence → Prop
  | none, F => F = Fence.wide
  | some l, F => ∃ L, ρ l = some L ∧ F = Fence.wide.inRound L.φ

theorem RFence.mono {ρ ρ' : Ren} (hl : ρ.le ρ') {r : Option Nat} {F : Fence} (h : RFence ρ r F) : RFence ρ' r F := by
  cases r with
  | none => exact h
  | some l => obtain ⟨L, a, b⟩ := h; exact ⟨L, hl _ _ a, b⟩

theorem RFence.fn {ρ : Ren} {r : Option Nat} {F : Fence} (h : RFence ρ r F) (f : FuncId) : F.fn f := by
  cases r with
  | none => cases h; trivial
  | some l => obtain ⟨L, a, rfl⟩ := h; trivial

theorem RFence.depth {ρ : Ren} {r : Option Nat} {F : Fence} (h : RFence ρ r F) : F.depth = none := by
  cases r with
  | none => cases h; rfl
  | some l => obtain ⟨L, a, rfl⟩ := h; rfl

theorem RFence.calls {ρ : Ren} {r : Option Nat} {F : Fence} (h : RFence ρ r F) {n : Nat} {P : Program} {f : FuncId} {args : Array Value} {w : World} {R : Ending → World → Prop} (hc : CallsIn Fence.wide n P f args w R) : CallsIn F n P f args w R := by
  cases r with
  | none => cases h; exact hc
  | some l => obtain ⟨L, a, rfl⟩ := h; exact hc

theorem RFence.round {ρ : Ren} {r : Option Nat} {F : Fence} (h : RFence ρ r F) {n : Nat} {P : Program} {l : Nat} {f : FuncId} {tmps : Array Value} {assign body : Code} {w : World} {R : Ending → World → Prop} (hc : RoundIn Fence.wide n P l f tmps assign body w R) : RoundIn F n P l f tmps assign body w R := by
  cases r with
  | none => cases h; exact hc
  | some l => obtain ⟨L, a, rfl⟩ := h; exact hc

def ExOK (P : Program) (ex : ExF) : Prop := ∀ rdd c fr h e fr' h', ex rdd c fr h = some (e, fr', h') → Mod h h' ∧
  ∀ ρ w a n F, RFence ρ rdd F → FRel ρ fr a → HRel ρ h.heap.get w → Fresh ρ h.next h'.next → c.wpIn F n P (Post ρ h w e fr' h') a w

theorem Fresh.sub {ρ : Ren} {a b c d : Nat} (h : Fresh ρ a b) (h1 : a ≤ c) (h2 : d ≤ b) : Fresh ρ c d := fun x hx hy => h x (by omega) (by omega)

theorem Step.fresh {ρ ρ' : Ren} {H H' : HF} {w w' : World} {lo mid hi : Nat} (h : Step ρ H w ρ' H' w' lo mid) (hf : Fresh ρ lo hi) (hm : lo ≤ mid) : Fresh ρ' mid hi :=
  fun b hb hc => by rw [h.rng b (.inr hb)]; exact hf b (by omega) hc

theorem Aft.trans {ρ ρ1 : Ren} {h h1 h2 : Hs} {w w1 w2 : World} {fr2 : Fr} {a2 : Act} (hs : Step ρ h.heap.get w ρ1 h1.heap.get w1 h.next h1.next) (h01 : h.next ≤ h1.next) (h12 : h1.next ≤ h2.next)
    (k : Aft ρ1 h1 w1 fr2 h2 a2 w2) : Aft ρ h w fr2 h2 a2 w2 := by
  obtain ⟨ρ', a, b, c⟩ := k
  exact ⟨ρ', a, b, hs.trans c h01 h12⟩

end Go.AV

namespace Go.AV

section
variable {P : Program}

theorem aop_defer {tm : Tm} {h : Hs} {o : Oper} {r : Res} (hr : aop P tm h o = some r) {c : Call} (hc : o.op = .defer c) : ∃ d, r = .dfr d := by
  unfold aop at hr
  rw [hc] at hr
  dsimp only at hr
  unfold adefer at hr
  repeat' (split at hr)
  all_goals first | (cases hr; exact ⟨_, rfl⟩) | cases hr

theorem semAt_of {tm : Tm} {h : Hs} {o : Oper} {r : Res} (hr : aop P tm h o = some r) (hd : ∀ d, r ≠ .dfr d) (ro : Option Nat) (e : Operand → Value) : o.semAt ro e = execOp e o :=
  Oper.semAt_eq ro e o fun _ hc => let ⟨d, h⟩ := aop_defer hr hc; hd d h

/-- one operation that is no call -/
theorem op_val {F : Fence} {ρ : Ren} {h : Hs} {w : World} {fr fr1 : Fr} {a : Act} {o : Oper} {v : Value} {h1 : Hs} (hF : ∀ f, F.fn f) (hfr : FRel ρ fr a) (hh : HRel ρ h.heap.get w) (hf : Fresh ρ h.next h1.next)
    (hr : aop P fr.tm h o = some (.val v h1)) (hp : fr.put o.dst v = some fr1) {n : Nat} {K : Act → World → Prop} {Q : Exit → Act → World → Prop} (hK : ∀ a' w', Aft ρ h w fr1 h1 a' w' → K a' w') : o.wpIn F n P a w K Q := by
  obtain ⟨ρ', v', w', e1, e2, e3, e4⟩ := aop_sound (r := .val v h1) hfr.tr hh hf hr
  refine ⟨fun f _ => hF f, ?_⟩
  rw [semAt_of hr (fun _ h => by cases h), e1]
  exact hK _ _ ⟨ρ', Fr.put_ok (hfr.mono e4.ext) e2 hp, e3, e4⟩

theorem op_skip {F : Fence} {ρ : Ren} {h : Hs} {w : World} {fr fr1 : Fr} {a : Act} {o : Oper} {h1 : Hs} (hF : ∀ f, F.fn f) (hfr : FRel ρ fr a) (hh : HRel ρ h.heap.get w) (hf : Fresh ρ h.next h1.next)
    (hr : aop P fr.tm h o = some (.skip h1)) (hp : fr.put o.dst undef = some fr1) {n : Nat} {K : Act → World → Prop} {Q : Exit → Act → World → Prop} (hK : ∀ a' w', Aft ρ h w fr1 h1 a' w' → K a' w') : o.wpIn F n P a w K Q := by
  obtain ⟨ρ', w', e1, e3, e4⟩ := aop_sound (r := .skip h1) hfr.tr hh hf hr
  refine ⟨fun f _ => hF f, ?_⟩
  rw [semAt_of hr (fun _ h => by cases h), e1]
  exact hK _ _ ⟨ρ', Fr.put_ok (hfr.mono e4.ext) .undef hp, e3, e4⟩

theorem op_call {call : CallF} (hc : CallOK P call) {F : Fence} {rdd : Option Nat} {ρ : Ren} {h : Hs} {w : World} {fr fr1 : Fr} {a : Act} {o : Oper} {v : Value} {f : Nat} {args : List Value} {h1 : Hs} (hF : RFence ρ rdd F) (hfr : FRel ρ fr a)
    (hh : HRel ρ h.heap.get w) (hf : Fresh ρ h.next h1.next) {g : Hs} (hg : HRel ρ g.heap.get w)
    (hr : aop P fr.tm g o = some (.call f args)) (hcall : call f args h = some (v, h1)) (hp : fr.put o.dst v = some fr1) {n : Nat} {K : Act → World → Prop} {Q : Exit → Act → World → Prop} (hK : ∀ a' w', Aft ρ h w fr1 h1 a' w' → K a' w') : o.wpIn F n P a w K Q := by
  obtain ⟨args', e1, e2⟩ := aop_sound hfr.tr hg (fun b h1 h2 => absurd h2 (by simp only [Res.next]; omega)) hr
  refine ⟨fun f _ => hF.fn f, ?_⟩
  rw [semAt_of hr (fun _ h => by cases h), e1]
  refine ⟨fun hd => absurd hd (by rw [hF.depth]; simp), ?_⟩
  refine CallsIn.mono (hF.calls ((hc _ _ _ _ _ hcall).2 ρ w args' (n - 1) e2 hh hf)) fun e w' hgot => ?_
  obtain ⟨ρ', v', rfl, g1, g2, g3⟩ := hgot
  exact hK _ _ ⟨ρ', Fr.put_ok (hfr.mono g3.ext) g1 hp, g2, g3⟩

theorem op_round {round : CallF} (hc : RoundOK P round) {F : Fence} {rdd : Option Nat} {ρ : Ren} {h : Hs} {w : World} {fr fr1 : Fr} {a : Act} {o : Oper} {v : Value} {f : Nat} {args : List Value} {h1 : Hs} (hF : RFence ρ rdd F) (hfr : FRel ρ fr a)
    (hh : HRel ρ h.heap.get w) (hf : Fresh ρ h.next h1.next) {g : Hs} (hg : HRel ρ g.heap.get w)
    (hr : aop P fr.tm g o = some (.round f args)) (hcall : round f args h = some (v, h1)) (hp : fr.put o.dst v = some fr1) {n : Nat} {K : Act → World → Prop} {Q : Exit → Act → World → Prop} (hK : ∀ a' w', Aft ρ h w fr1 h1 a' w' → K a' w') : o.wpIn F n P a w K Q := by
  obtain ⟨L, args', hL, e1, e2⟩ := aop_sound hfr.tr hg (fun b h1 h2 => absurd h2 (by simp only [Res.next]; omega)) hr
  obtain ⟨f, tmps, assign, body, y1, y2⟩ := (hc _ _ _ _ _ hcall).2 ρ w args' (n - 1) L hL e2 hh hf
  refine ⟨fun f _ => hF.fn f, ?_⟩
  rw [semAt_of hr (fun _ h => by cases h), e1, y1]
  refine ⟨fun hd => absurd hd (by rw [hF.depth]; simp), ?_⟩
  refine RoundIn.mono (hF.round y2) fun e w' hgot => ?_
  obtain ⟨ρ', v', rfl, g1, g2, g3⟩ := hgot
  exact hK _ _ ⟨ρ', Fr.put_ok (hfr.mono g3.ext) g1 hp, g2, g3⟩

theorem op_dfr {F : Fence} {ρ : Ren} {h : Hs} {w : World} {fr fr1 : Fr} {a : Act} {o : Oper} {d : ADfr} (hF : ∀ f, F.fn f) (hF0 : F.round = none) (hfr : FRel ρ fr a) (hh : HRel ρ h.heap.get w)
    (hr : aop P fr.tm h o = some (.dfr d)) (hp : ({ fr with dfr := d :: fr.dfr } : Fr).put o.dst undef = some fr1) {n : Nat} {K : Act → World → Prop} {Q : Exit → Act → World → Prop} (hK : ∀ a' w', Aft ρ h w fr1 h a' w' → K a' w') : o.wpIn F n P a w K Q := by
  obtain ⟨d', e1, e2⟩ := aop_sound hfr.tr hh (fun b h1 h2 => absurd h2 (by simp only [Res.next]; omega)) hr
  refine ⟨fun f _ => hF f, ?_⟩
  rw [hF0, Oper.semAt_none, e1]
  exact hK _ _ ⟨ρ, Fr.put_ok (fr := { fr with dfr := d :: fr.dfr }) (a := { a with defers := d' :: a.defers }) ⟨hfr.tr, .cons _ _ _ _ e2 hfr.ds⟩ .undef hp, hh, Step.refl _ _ _ _ _⟩

theorem opsW_ok {call round : CallF} (hc : CallOK P call) (hr : RoundOK P round) {rdd : Option Nat} {ops : Array Oper} : ∀ (l : List Oper) (fr : Fr) (h : Hs) (fr' : Fr) (h' : Hs), opsW P call round rdd ops l fr h = some (fr', h') → Mod h h' ∧
    ∀ (ρ : Ren) (w : World) (a : Act) (n : Nat) (F : Fence), RFence ρ rdd F → FRel ρ fr a → HRel ρ h.heap.get w → Fresh ρ h.next h'.next → ∀ Q : Exit → Act → World → Prop, (∀ a' w', Aft ρ h w fr' h' a' w' → Q .normal a' w') → wpListIn F n P ops Q l a w
  | [], fr, h, fr', h', he => by
    simp only [opsW, Option.some.injEq, Prod.mk.injEq] at he
    obtain ⟨rfl, rfl⟩ := he
    exact ⟨Mod.refl _, fun ρ w a n F hF hfr hh hf Q hQ => hQ _ _ ⟨ρ, hfr, hh, Step.refl _ _ _ _ _⟩⟩
  | o :: l, fr, h, fr', h', he => by
    have go : ∀ (fr1 : Fr) (h1 : Hs), Mod h h1 → opsW P call round rdd ops l fr1 h1 = some (fr', h') →
        Mod h h' ∧ h1.next ≤ h'.next ∧ ∀ (ρ : Ren) (w : World) (n : Nat) (F : Fence), RFence ρ rdd F → Fresh ρ h.next h'.next → ∀ Q : Exit → Act → World → Prop, (∀ a' w', Aft ρ h w fr' h' a' w' → Q .normal a' w') →
          ∀ a' w', Aft ρ h w fr1 h1 a' w' → wpListIn F n P ops Q l a' w' := by
      intro fr1 h1 hm ho
      obtain ⟨m1, k1⟩ := opsW_ok hc hr l fr1 h1 fr' h' ho
      refine ⟨hm.trans m1, m1.next, fun ρ w n F hF hf Q hQ a' w' haft => ?_⟩
      obtain ⟨ρ', x1, x2, x3⟩ := haft
      exact k1 ρ' w' a' n F (hF.mono x3.ext) x1 x2 (x3.fresh hf hm.next) Q fun a2 w2 k => hQ _ _ (Aft.trans x3 hm.next m1.next k)
    simp only [opsW] at he
    split at he
    · cases he
    · rename_i hw
      split at he
      · rename_i fr1 hp
        obtain ⟨g1, g2, g3⟩ := go fr1 h (Mod.refl _) he
        refine ⟨g1, fun ρ w a n F hF hfr hh hf Q hQ => ?_⟩
        simp only [wpListIn, wantedB_ok hfr.tr hw, Bool.false_eq_true, if_false]
        exact ⟨fun f _ => hF.fn f, g3 ρ w n F hF hf Q hQ _ _ ⟨ρ, Fr.put_ok hfr .undef hp, hh, Step.refl _ _ _ _ _⟩⟩
      · cases he
    · rename_i hw
      have wl : ∀ {ρ : Ren} {a : Act} {w : World} {n : Nat} {F : Fence} {Q : Exit → Act → World → Prop}, FRel ρ fr a → o.wpIn F n P a w (wpListIn F n P ops Q l) Q → wpListIn F n P ops Q (o :: l) a w := by
        intro ρ a w n F Q hfr hwp
        simp only [wpListIn, wantedB_ok hfr.tr hw, if_true]
        exact hwp
      split at he
      · cases he
      · rename_i v h1 ha
        split at he
        · rename_i fr1 hp
          have hm := aop_mod ha
          obtain ⟨g1, g2, g3⟩ := go fr1 h1 hm he
          exact ⟨g1, fun ρ w a n F hF hfr hh hf Q hQ => wl hfr (op_val hF.fn hfr hh (hf.sub (Nat.le_refl _) g2) ha hp (g3 ρ w n F hF hf Q hQ))⟩
        · cases he
      · rename_i h1 ha
        split at he
        · rename_i fr1 hp
          have hm := aop_mod ha
          obtain ⟨g1, g2, g3⟩ := go fr1 h1 hm he
          exact ⟨g1, fun ρ w a n F hF hfr hh hf Q hQ => wl hfr (op_skip hF.fn hfr hh (hf.sub (Nat.le_refl _) g2) ha hp (g3 ρ w n F hF hf Q hQ))⟩
        · cases he
      · rename_i f args ha
        split at he
        · rename_i v h1 hcall
          split at he
          · rename_i fr1 hp
            obtain ⟨g1, g2, g3⟩ := go fr1 h1 (hc _ _ _ _ _ hcall).1 he
            exact ⟨g1, fun ρ w a n F hF hfr hh hf Q hQ => wl hfr (op_call hc hF hfr hh (hf.sub (Nat.le_refl _) g2) hh ha hcall hp (g3 ρ w n F hF hf Q hQ))⟩
          · cases he
        · cases he
      · rename_i f args ha
        split at he
        · rename_i v h1 hcall
          split at he
          · rename_i fr1 hp
            obtain ⟨g1, g2, g3⟩ := go fr1 h1 (hr _ _ _ _ _ hcall).1 he
            exact ⟨g1, fun ρ w a n F hF hfr hh hf Q hQ => wl hfr (op_round hr hF hfr hh (hf.sub (Nat.le_refl _) g2) hh ha hcall hp (g3 ρ w n F hF hf Q hQ))⟩
          · cases he
        · cases he
      · rename_i d ha
        split at he
        · split at he
          · rename_i fr1 hp
            obtain ⟨g1, g2, g3⟩ := go fr1 h (Mod.refl _) he
            exact ⟨g1, fun ρ w a n F hF hfr hh hf Q hQ => wl hfr (op_dfr hF.fn (by cases hF; rfl) hfr hh ha hp (g3 ρ w n F hF hf Q hQ))⟩
          · cases he
        · cases he
end
end Go.AV

namespace Go.AV

section
variable {P : Program}

def DrawOK (P : Program) : Prop := ∀ (call round : CallF), CallOK P call → RoundOK P round → ∀ (rdd : Option Nat) (ops : Array Oper) (ms : List Nat) (fr : Fr) (h : Hs) (fr' : Fr) (h' : Hs),
  planOf ops = some ms → drawW P call round ops ops.toList 0 ms [] fr h = some (fr', h') → Mod h h' ∧
    ∀ (ρ : Ren) (w : World) (a : Act) (n : Nat) (F : Fence), RFence ρ rdd F → FRel ρ fr a → HRel ρ h.heap.get w → Fresh ρ h.next h'.next → ∀ (Q : Exit → Act → World → Prop) (id : Nat),
      (∀ a' w', Aft ρ h w fr' h' a' w' → Q .normal a' w') → (Code.region id ops true).wpIn F n P Q a w

theorem loopW_ok {ex : ExF} (hex : ExOK P ex) : ∀ (m : Nat) (b : Code) (rdd : Option Nat) (fr : Fr) (h : Hs) (e : AExit) (fr' : Fr) (h' : Hs), loopW ex m b rdd fr h = some (e, fr', h') → Mod h h' ∧
    ∀ (ρ : Ren) (w : World) (a : Act) (n : Nat) (F : Fence), RFence ρ rdd F → FRel ρ fr a → HRel ρ h.heap.get w → Fresh ρ h.next h'.next → ∀ Q : Exit → Act → World → Prop,
      (∀ e' a' w', Post ρ h w e fr' h' e' a' w' → Q e' a' w') → Code.roundsIn F n P b Q m a w
  | 0, b, rdd, fr, h, e, fr', h', he => by simp [loopW] at he
  | m + 1, b, rdd, fr, h, e, fr', h', he => by
    simp only [loopW] at he
    split at he
    · rename_i fr1 h1 hb
      obtain ⟨m1, k1⟩ := hex _ _ _ _ _ _ _ hb
      obtain ⟨m2, k2⟩ := loopW_ok hex m b rdd fr1 h1 e fr' h' he
      refine ⟨m1.trans m2, fun ρ w a n F hF hfr hh hf Q hQ => ?_⟩
      rw [roundsIn_succ]
      refine wpIn_mono (k1 ρ w a n F hF hfr hh (hf.sub (Nat.le_refl _) m2.next)) fun e' a' w' hp => ?_
      obtain ⟨rfl, ρ1, x1, x2, x3⟩ := hp
      exact k2 ρ1 w' a' n F (hF.mono x3.ext) x1 x2 (x3.fresh hf m1.next) Q fun e2 a2 w2 ⟨y1, y2⟩ => hQ _ _ _ ⟨y1, Aft.trans x3 m1.next m2.next y2⟩
    · rename_i hne
      obtain ⟨m1, k1⟩ := hex _ _ _ _ _ _ _ he
      refine ⟨m1, fun ρ w a n F hF hfr hh hf Q hQ => ?_⟩
      rw [roundsIn_succ]
      refine wpIn_mono (k1 ρ w a n F hF hfr hh hf) fun e' a' w' hp => ?_
      have hp' := hp
      obtain ⟨rfl, -⟩ := hp'
      cases e with
      | normal => exact (hne _ _ he).elim
      | exit i => exact hQ _ _ _ hp
      | goto l => exact hQ _ _ _ hp
      | ret => exact hQ _ _ _ hp

theorem scopeW_ok {ex : ExF} (hex : ExOK P ex) : ∀ (m : Nat) (b cur : Code) (rdd : Option Nat) (fr : Fr) (h : Hs) (e : AExit) (fr' : Fr) (h' : Hs), scopeW ex m b cur rdd fr h = some (e, fr', h') → Mod h h' ∧
    ∀ (ρ : Ren) (w : World) (a : Act) (n : Nat) (F : Fence), RFence ρ rdd F → FRel ρ fr a → HRel ρ h.heap.get w → Fresh ρ h.next h'.next → ∀ Q : Exit → Act → World → Prop,
      (∀ e' a' w', Post ρ h w e fr' h' e' a' w' → Q e' a' w') → Code.scopeIn F n P b Q m cur a w
  | 0, b, cur, rdd, fr, h, e, fr', h', he => by simp [scopeW] at he
  | m + 1, b, cur, rdd, fr, h, e, fr', h', he => by
    simp only [scopeW] at he
    split at he
    · rename_i l fr1 h1 hb
      obtain ⟨m1, k1⟩ := hex _ _ _ _ _ _ _ hb
      split at he
      · rename_i rest hl
        obtain ⟨m2, k2⟩ := scopeW_ok hex m b rest rdd fr1 h1 e fr' h' he
        refine ⟨m1.trans m2, fun ρ w a n F hF hfr hh hf Q hQ => ?_⟩
        refine wpIn_mono (k1 ρ w a n F hF hfr hh (hf.sub (Nat.le_refl _) m2.next)) fun e' a' w' hp => ?_
        obtain ⟨rfl, ρ1, x1, x2, x3⟩ := hp
        simp only [toExit, hl]
        exact k2 ρ1 w' a' n F (hF.mono x3.ext) x1 x2 (x3.fresh hf m1.next) Q fun e2 a2 w2 ⟨y1, y2⟩ => hQ _ _ _ ⟨y1, Aft.trans x3 m1.next m2.next y2⟩
      · rename_i hl
        cases he
        refine ⟨m1, fun ρ w a n F hF hfr hh hf Q hQ => ?_⟩
        refine wpIn_mono (k1 ρ w a n F hF hfr hh hf) fun e' a' w' hp => ?_
        have hp' := hp
        obtain ⟨rfl, -⟩ := hp'
        simp only [toExit, hl]
        exact hQ _ _ _ hp
    · rename_i hne
      obtain ⟨m1, k1⟩ := hex _ _ _ _ _ _ _ he
      refine ⟨m1, fun ρ w a n F hF hfr hh hf Q hQ => ?_⟩
      refine wpIn_mono (k1 ρ w a n F hF hfr hh hf) fun e' a' w' hp => ?_
      have hp' := hp
      obtain ⟨rfl, -⟩ := hp'
      cases e with
      | normal => exact hQ _ _ _ hp
      | exit i => exact hQ _ _ _ hp
      | goto l => exact (hne _ _ _ he).elim
      | ret => exact hQ _ _ _ hp

/-! ### Records of loops -/
theorem getLoop_run {ρ : Ren} {w : World} {h : Hs} {b : Nat} {L : Loc} {r : ALoop} (hh : HRel ρ h.heap.get w) (hb : h.heap.get b = some (.loop r)) (hL : ρ b = some L) :
    ∃ r' : Loop, w.heap[L.φ]? = some (.loop r') ∧ (∀ {α : Type} (k : Loop → Sem α), (Instr.getLoop L.φ >>= k).run P w = (k r').run P w) ∧
      r'.state = r.st ∧ r'.pending = r.pending ∧ TR ρ r.tm r.n r'.tmps ∧ r'.params.toList = r.params ∧ r'.assign = r.assign ∧ r'.body = r.body ∧ ∃ L, ρ r.defers = some L ∧ r'.defers = L.φ := by
  obtain ⟨L0, x, hL0, hx0, hR⟩ := hh.obj _ _ hb
  rw [hL] at hL0; cases hL0
  cases x <;> simp only [OR] at hR <;> first | exact hR.elim | skip
  rename_i r'
  refine ⟨r', hx0, fun k => ?_, hR⟩
  simp [Instr.getLoop, getObj, Sem.run, hx0]

theorem setLoop_ok {ρ : Ren} {w : World} {h : Hs} {b : Nat} {L : Loc} {r r2 : ALoop} {r' r2' : Loop} (hh : HRel ρ h.heap.get w) (hb : h.heap.get b = some (.loop r)) (hL : ρ b = some L) (hx : w.heap[L.φ]? = some (.loop r')) (hR : OR ρ L (.loop r2) (.loop r2')) :
    ∃ w', (setObj L.φ (.loop r2')).run P w = .ok () w' ∧ HRel ρ (h.heap.set b (.loop r2)).get w' ∧ ∀ lo hi, Step ρ h.heap.get w ρ (h.heap.set b (.loop r2)).get w' lo hi :=
  setIter_ok (o := .loop r) hh hb rfl hL hx (fun _ _ _ h => by cases h) hR

theorem setPs_ok {ρ : Ren} {n : Nat} : ∀ {ps : List Tmp} {vs vs' : List Value} {tm tm' : Tm} {tmps : Array Value}, VRs ρ vs vs' → TR ρ tm n tmps → setPs ps vs n tm = some tm' →
    ps.length = vs.length ∧ TR ρ tm' n ((ps.zip vs').foldl (fun t (p, v) => t.setIfInBounds p v) tmps)
  | [], [], _, tm, tm', tmps, .nil, ht, he => by simp [setPs] at he; subst he; exact ⟨rfl, ht⟩
  | p :: ps, v :: vs, _, tm, tm', tmps, .cons _ v' _ vs' hv hl, ht, he => by
    simp only [setPs] at he
    split at he
    · rename_i hp
      obtain ⟨h1, h2⟩ := setPs_ok hl (ht.put (by rw [Nat.blt_eq] at hp; exact hp) hv) he
      exact ⟨by simp [h1], h2⟩
    · cases he
  | [], _ :: _, _, _, _, _, _, _, he => by simp [setPs] at he
  | _ :: _, [], _, _, _, _, _, _, he => by simp [setPs] at he

theorem jump_none (e : AExit) : (jumpOf e).isNone = (match e with | .normal => true | _ => false) := by cases e <;> rfl

theorem roundW_ok {ex : ExF} (hex : ExOK P ex) : RoundOK P (roundW ex) := by
  intro l args h v h' he
  unfold roundW at he
  split at he
  · rename_i r hb
    split at he
    · rename_i tm htm
      split at he
      · rename_i fr1 h1 hasg
        obtain ⟨m1, k1⟩ := hex _ _ _ _ _ _ _ hasg
        split at he
        · rename_i r1 hb1
          split at he
          · rename_i hready
            split at he
            · rename_i e fr3 h3 hbody
              obtain ⟨m2, k2⟩ := hex _ _ _ _ _ _ _ hbody
              split at he
              · rename_i r3 hb3
                cases he
                have mm1 := m1.trans (Mod.set h1 l (.loop { r1 with st := .busy }) hb1)
                have mm2 := mm1.trans m2
                have mm3 := mm2.trans (Mod.set h3 l (.loop { r3 with st := (match jumpOf e with | none => .ready | some _ => .done), pending := jumpOf e }) hb3)
                have n2 : h1.next ≤ h3.next := m2.next
                refine ⟨mm3, fun ρ w args' n L hL hargs hh hf => ?_⟩
                obtain ⟨r', hx, hget, q1, q2, q3, q4, q5, q6, q7⟩ := getLoop_run (P := P) hh hb hL
                obtain ⟨hlen, htr⟩ := setPs_ok hargs q3 htm
                have hlen' : args'.length = r'.params.size := by rw [hargs.length, ← hlen, ← q4]; simp
                refine ⟨r'.fn, (r'.params.zip ⟨args'⟩).foldl (fun t (p, v) => t.setIfInBounds p v) r'.tmps, r'.assign, r'.body, ?_, ?_⟩
                · simp only [Instr.yield]
                  rw [hget]
                  simp [hlen']
                · refine roundIn_of_wpIn trivial ?_
                  have htr' : TR ρ tm r.n ((r'.params.zip ⟨args'⟩).foldl (fun t (p, v) => t.setIfInBounds p v) r'.tmps) := by
                    rw [← Array.foldl_toList, Array.toList_zip, q4]; exact htr
                  have hF : RFence ρ (some l) (Fence.wide.inRound L.φ) := ⟨L, hL, rfl⟩
                  rw [q5]
                  refine wpIn_mono (k1 ρ w _ n _ hF ⟨htr', .nil⟩ hh (hf.sub (Nat.le_refl _) n2)) fun e1 a1 w1 hp => ?_
                  obtain ⟨rfl, ρ1, x1, x2, x3⟩ := hp
                  have hL1 := x3.ext _ _ hL
                  obtain ⟨r1', hx1, hget1, p1, p2, p3, p4, p5, p6, p7⟩ := getLoop_run (P := P) x2 hb1 hL1
                  obtain ⟨w2, hs2, hh2, hst2⟩ := setLoop_ok (P := P) (r2 := { r1 with st := .busy }) (r2' := { r1' with state := .busy }) x2 hb1 hL1 hx1 ⟨rfl, p2, p3, p4, p5, p6, p7⟩
                  have hs12 := x3.trans (hst2 h1.next h1.next) m1.next (Nat.le_refl _)
                  refine ⟨w2, ?_, ?_⟩
                  · unfold Instr.beginRound
                    rw [hget1]
                    simp only [Sem.run_bind, hs2, Result.andThen_ok, p1, hready, Sem.run_pure]
                  · rw [q6]
                    refine wpIn_mono (k2 ρ1 w2 a1 n _ (hF.mono x3.ext) x1 hh2 (hs12.fresh (hf.sub (Nat.le_refl _) (Nat.le_refl _)) m1.next)) fun e2 a2 w3 hp => ?_
                    obtain ⟨rfl, ρ3, y1, y2, y3⟩ := hp
                    have hL3 := y3.ext _ _ hL1
                    obtain ⟨r3', hx3, hget3, s1, s2, s3, s4, s5, s6, s7⟩ := getLoop_run (P := P) y2 hb3 hL3
                    have fin : ∀ (j : Option Code), j = jumpOf e → ∃ w4, (Instr.endRound L.φ j).run P w3 = .ok (.bool (jumpOf e).isNone) w4 ∧ Got ρ h w (.bool (jumpOf e).isNone) { h3 with heap := h3.heap.set l (.loop { r3 with st := (match jumpOf e with | none => .ready | some _ => .done), pending := jumpOf e }), log := l :: h3.log } (.returned (.bool (jumpOf e).isNone)) w4 := by
                      intro j hj
                      subst hj
                      obtain ⟨w4, hs4, hh4, hst4⟩ := setLoop_ok (P := P) (r2 := { r3 with st := (match jumpOf e with | none => .ready | some _ => .done), pending := jumpOf e }) (r2' := { r3' with state := if (jumpOf e).isNone then .ready else .done, pending := jumpOf e }) y2 hb3 hL3 hx3 ⟨by cases e <;> rfl, rfl, s3, s4, s5, s6, s7⟩
                      refine ⟨w4, ?_, ρ3, _, rfl, .sc _ rfl, hh4, ?_⟩
                      · unfold Instr.endRound
                        rw [hget3]
                        simp only [Sem.run_bind, hs4, Result.andThen_ok, Sem.run_pure]
                      · exact (hs12.trans y3 m1.next n2).trans (hst4 h3.next h3.next) (Nat.le_trans m1.next n2) (Nat.le_refl _)
                    cases e with
                    | normal => obtain ⟨w4, z1, z2⟩ := fin none rfl; exact ⟨_, w4, z1, z2⟩
                    | exit i => obtain ⟨w4, z1, z2⟩ := fin (some (.exit i)) rfl; exact ⟨_, w4, z1, z2⟩
                    | goto t => obtain ⟨w4, z1, z2⟩ := fin (some (.goto t)) rfl; exact ⟨_, w4, z1, z2⟩
                    | ret => obtain ⟨w4, z1, z2⟩ := fin (some .ret) rfl; exact ⟨_, w4, z1, z2⟩
              · cases he
            · cases he
          · cases he
        · cases he
      · cases he
    · cases he
  · cases he
/-! ### Calls of functions -/
theorem setAll_rd : ∀ (l : List Value) (i : Nat) (t : Tm) (j : Nat), rd (setAll l i t) j = if i ≤ j ∧ j < i + l.length then l.getD (j - i) undef else rd t j
  | [], i, t, j => by simp only [setAll, List.length_nil]; rw [if_neg (by omega)]
  | v :: l, i, t, j => by
    simp only [setAll, setAll_rd l, rd_set, List.length_cons]
    by_cases h1 : i + 1 ≤ j ∧ j < i + 1 + l.length
    · rw [if_pos h1, if_pos (by omega)]
      obtain ⟨k, hk⟩ : ∃ k, j - i = k + 1 := ⟨j - i - 1, by omega⟩
      rw [hk, show j - (i + 1) = k by omega]
      simp
    · rw [if_neg h1]
      by_cases h2 : j = i
      · subst h2; rw [if_pos rfl, if_pos (by omega)]; simp
      · rw [if_neg h2, if_neg (by omega)]

theorem VRs.getD {ρ : Ren} : ∀ {l l' : List Value}, VRs ρ l l' → ∀ (i : Nat), VR ρ (l.getD i undef) (l'.getD i undef)
  | _, _, .nil, i => by simpa using VR.undef
  | _, _, .cons v v' l l' h k, 0 => by simpa using h
  | _, _, .cons v v' l l' h k, i + 1 => by simpa using VRs.getD k i

theorem rd_leaf (j : Nat) : rd (.leaf : Tm) j = undef := by unfold rd; rw [T.get_leaf]

theorem enter_TR {ρ : Ren} {args args' : List Value} (h : VRs ρ args args') (m : Nat) :
    TR ρ (setAll args 0 .leaf) (args.length + (m - args.length)) ((⟨args'⟩ : Array Value) ++ Array.replicate (m - (⟨args'⟩ : Array Value).size) undef) := by
  have hl := h.length
  refine ⟨by simp [hl], fun t => ?_⟩
  rw [setAll_rd, rd_leaf]
  by_cases ht : t < args.length
  · rw [if_pos (by omega)]
    have : ((⟨args'⟩ : Array Value) ++ Array.replicate (m - (⟨args'⟩ : Array Value).size) undef).getD t undef = args'.getD t undef := by
      rw [Array.getD_eq_getD_getElem?, Array.getElem?_append_left (by simpa [hl] using ht)]
      simp
    rw [this]; exact .inr (by simpa using h.getD t)
  · rw [if_neg (by omega)]
    have : ((⟨args'⟩ : Array Value) ++ Array.replicate (m - (⟨args'⟩ : Array Value).size) undef).getD t undef = undef := by
      rw [Array.getD_eq_getD_getElem?, Array.getElem?_append_right (by simpa [hl] using ht)]
      rw [Array.getElem?_replicate]
      split <;> rfl
    rw [this]; exact .inr .undef

def resOne (tmps : Array Value) : ResultVar → Sem Value
  | .tmp t => pure (tmps.getD t undef)
  | .cell a t => do loadVar t (← asAddr (tmps.getD a undef))

theorem results_eq (fn : Func) (tmps : Array Value) : results fn tmps = (do
    let vs ← fn.results.mapM (resOne tmps)
    pure (if h : vs.size = 1 then vs[0] else .tuple vs)) := rfl

theorem resultsA_ok {ρ : Ren} {w : World} {h : Hs} {tm : Tm} {n : Nat} {tmps : Array Value} (ht : TR ρ tm n tmps) (hh : HRel ρ h.heap.get w) : ∀ {l : List ResultVar} {vs : List Value}, resultsA P tm h l = some vs →
    ∃ vs', VRs ρ vs vs' ∧ (l.mapM (resOne tmps)).run P w = .ok vs' w
  | [], vs, he => by simp [resultsA] at he; subst he; exact ⟨[], .nil, rfl⟩
  | .tmp t :: l, vs, he => by
    simp only [resultsA] at he
    split at he
    · rename_i vs1 h1
      split at he
      · rename_i v hv
        obtain ⟨rfl, hj⟩ := noJunk_some hv
        cases he
        obtain ⟨vs', h2, h3⟩ := resultsA_ok ht hh h1
        exact ⟨_, .cons _ _ _ _ ((ht.2 t).vr hj) h2, by simp [List.mapM_cons, resOne, h3]⟩
      · cases he
    · cases he
  | .cell a t :: l, vs, he => by
    simp only [resultsA] at he
    split at he
    · rename_i b off ha
      split at he
      · rename_i v vs1 hv h1
        cases he
        obtain ⟨vs', h2, h3⟩ := resultsA_ok ht hh h1
        obtain ⟨L, v', hL, hrun, hvR⟩ := readVar_sound (P := P) hh hv
        have hav := (ht.2 a).vr (fun e => by rw [ha] at e; cases e)
        rw [ha] at hav
        generalize hx : tmps.getD a undef = x at hav
        cases hav with
        | sc _ hs => simp [AV.simple] at hs
        | ptr b o L' hL' =>
          rw [hL] at hL'; cases hL'
          exact ⟨_, .cons _ _ _ _ hvR h2, by simp [List.mapM_cons, resOne, h3, hx, asAddr, hrun]⟩
      · cases he
    · cases he

theorem oneA_ok {ρ : Ren} {vs vs' : List Value} (h : VRs ρ vs vs') : VR ρ (oneA vs) (if h : (⟨vs'⟩ : Array Value).size = 1 then (⟨vs'⟩ : Array Value)[0] else .tuple ⟨vs'⟩) := by
  cases h with
  | nil => exact .tuple _ _ .nil
  | cons v v' l l' hv hl =>
    cases hl with
    | nil => simpa [oneA] using hv
    | cons u u' m m' hu hm =>
      have : ¬ (⟨v' :: u' :: m'⟩ : Array Value).size = 1 := by simp
      rw [dif_neg this]
      exact .tuple _ _ (.cons _ _ _ _ hv (.cons _ _ _ _ hu hm))

theorem dcallW_ok {ex : ExF} (hex : ExOK P ex) {f : Nat} {args : List Value} {h h' : Hs} (he : dcallW P ex f args h = some h') : Mod h h' ∧
    ∃ fn body, P.funcs[f]? = some fn ∧ fn.body = some body ∧ fn.name ≠ "runtime.NumGoroutine" ∧
    ∀ ρ w args' n u, VRs ρ args args' → HRel ρ h.heap.get w → Fresh ρ h.next h'.next →
      CallsDIn Fence.wide n P f ⟨args'⟩ u w fun e u' w' => u' = u ∧ ∃ v ρ', e = .returned v ∧ HRel ρ' h'.heap.get w' ∧ Step ρ h.heap.get w ρ' h'.heap.get w' h.next h'.next := by
  unfold dcallW at he
  split at he
  · rename_i fn hfn
    split at he
    · rename_i body hbody hname
      have hname' : ¬ fn.name = "runtime.NumGoroutine" := by simpa using hname
      have main : ∀ (e : AExit) (fr1 : Fr) (h1 : Hs), (e = .normal ∨ e = .ret) → ex none body { tm := setAll args 0 .leaf, n := args.length + (fn.ntmps - args.length), dfr := [] } h = some (e, fr1, h1) →
          (match fr1.dfr, resultsA P fr1.tm h1 fn.results.toList with
            | [], some _ => some h1
            | _, _ => none) = some h' → Mod h h' ∧
            ∃ fn body, P.funcs[f]? = some fn ∧ fn.body = some body ∧ fn.name ≠ "runtime.NumGoroutine" ∧
            ∀ ρ w args' n u, VRs ρ args args' → HRel ρ h.heap.get w → Fresh ρ h.next h'.next →
              CallsDIn Fence.wide n P f ⟨args'⟩ u w fun e u' w' => u' = u ∧ ∃ v ρ', e = .returned v ∧ HRel ρ' h'.heap.get w' ∧ Step ρ h.heap.get w ρ' h'.heap.get w' h.next h'.next := by
        intro e fr1 h1 hen hb he
        obtain ⟨m1, k1⟩ := hex _ _ _ _ _ _ _ hb
        split at he
        · rename_i vs hd hvs
          cases he
          refine ⟨m1, fn, body, hfn, hbody, hname', fun ρ w args' n u hargs hh hf => ?_⟩
          refine callsDIn_of_wp hfn hbody trivial ?_
          refine wpIn_mono (k1 ρ w _ n Fence.wide rfl ⟨enter_TR hargs fn.ntmps, .nil⟩ hh hf) fun e' a' w' hp => ?_
          obtain ⟨rfl, ρ1, x1, x2, x3⟩ := hp
          have hds : a'.defers = [] := by
            have := x1.ds
            rw [hd] at this
            generalize a'.defers = x at this
            cases this
            rfl
          obtain ⟨vs', y1, y2⟩ := resultsA_ok (P := P) x1.tr x2 hvs
          have leave : a'.defers = [] ∧ ∃ v, (results fn a'.tmps).run P w' = .ok v w' ∧ ∃ v0 ρ', Ending.returned v = .returned v0 ∧ HRel ρ' h'.heap.get w' ∧ Step ρ h.heap.get w ρ' h'.heap.get w' h.next h'.next := by
            obtain ⟨v1, hv1⟩ : ∃ v, (results fn a'.tmps).run P w' = .ok v w' := by
              refine ⟨if h : (⟨vs'⟩ : Array Value).size = 1 then (⟨vs'⟩ : Array Value)[0] else .tuple ⟨vs'⟩, ?_⟩
              rw [results_eq, Array.mapM_eq_mapM_toList]
              simp [y2]
            exact ⟨hds, v1, hv1, v1, ρ1, rfl, x2, x3⟩
          rcases hen with rfl | rfl
          · exact leave
          · exact leave
        · cases he
      split at he
      · rename_i fr1 h1 hb
        exact main _ _ _ (.inl rfl) hb he
      · rename_i fr1 h1 hb
        exact main _ _ _ (.inr rfl) hb he
      · cases he
    · cases he
  · cases he

theorem dfrs_mod {ex : ExF} (hex : ExOK P ex) : ∀ {ds : List ADfr} {h h' : Hs}, dfrs P ex ds h = some h' → Mod h h'
  | [], h, h', he => by simp [dfrs] at he; subst he; exact Mod.refl _
  | .call f args captured :: ds, h, h', he => by
    simp only [dfrs] at he
    split at he
    · rename_i h1 hb; exact (dcallW_ok hex hb).1.trans (dfrs_mod hex he)
    · cases he
  | .mark r :: ds, h, h', he => by
    simp only [dfrs] at he
    split at he
    · rename_i hb; exact (Mod.set h r (.dfr false) hb).trans (dfrs_mod hex he)
    · cases he

theorem dfrs_ok {ex : ExF} (hex : ExOK P ex) {n : Nat} {fn : Func} {tmps : Array Value} {R : Ending → World → Prop} : ∀ {ds : List ADfr} {h h' : Hs} {ρ : Ren} {w : World} {ds' : List Deferred}, dfrs P ex ds h = some h' → DRs ρ ds ds' → HRel ρ h.heap.get w → Fresh ρ h.next h'.next →
    (∀ ρ' w', HRel ρ' h'.heap.get w' → Step ρ h.heap.get w ρ' h'.heap.get w' h.next h'.next → ∃ v, (results fn tmps).run P w' = .ok v w' ∧ R (.returned v) w') → LeavesInM Fence.wide n P fn tmps R ds' .returning w
  | [], h, h', ρ, w, _, he, .nil, hh, hf, hR => by
    simp [dfrs] at he; subst he
    exact hR ρ w hh (Step.refl _ _ _ _ _)
  | .call f args captured :: ds, h, h', ρ, w, _, he, .cons _ d' _ ds' hd hds, hh, hf, hR => by
    simp only [dfrs] at he
    split at he
    · rename_i h1 hb
      obtain ⟨m1, fn1, body, q1, q2, q3, q4⟩ := dcallW_ok hex hb
      have m2 := dfrs_mod hex he
      obtain ⟨args', cap', rfl, z1, z2⟩ := hd
      refine ⟨by simp, .inr ⟨fun hd => by simp [Fence.wide] at hd, .func f, ⟨cap'⟩, f, ⟨args' ++ cap'⟩, rfl, ?_, fun _ _ => trivial, ?_⟩⟩
      · simp [invoke, callFunc, q1, q2, q3]
      · refine (q4 ρ w (args' ++ cap') (n - 1) .returning (z1.append z2) hh (hf.sub (Nat.le_refl _) m2.next)).mono fun e u' w' hp => ?_
        obtain ⟨rfl, v, ρ1, rfl, x2, x3⟩ := hp
        show LeavesInM Fence.wide n P fn tmps R ds' .returning w'
        exact dfrs_ok hex he (hds.mono x3.ext) x2 (x3.fresh hf m1.next) fun ρ' w2 y1 y2 => hR ρ' w2 y1 (x3.trans y2 m1.next m2.next)
    · cases he
  | .mark r :: ds, h, h', ρ, w, _, he, .cons _ d' _ ds' hd hds, hh, hf, hR => by
    simp only [dfrs] at he
    split at he
    · rename_i hb
      obtain ⟨L, hL, rfl⟩ := hd
      obtain ⟨L0, x, hL0, hx0, hO⟩ := hh.obj _ _ hb
      rw [hL] at hL0; cases hL0
      cases x <;> simp only [OR] at hO <;> first | exact hO.elim | skip
      subst hO
      obtain ⟨w1, hs1, hh1, hst1⟩ := setIter_ok (P := P) (o := .dfr true) (o2 := .dfr false) (x2 := .deferred none) hh hb rfl hL hx0 (fun _ _ _ h => by cases h) rfl
      have m2 := dfrs_mod hex he
      refine ⟨by simp, .inl ⟨L.φ, w1, rfl, ?_, dfrs_ok hex he hds hh1 hf fun ρ' w' q1 q2 => hR ρ' w' q1 ?_⟩⟩
      · simp [Instr.takeDeferred, getObj, Sem.run, hx0, hs1]
      · exact (hst1 h.next h.next).trans q2 (Nat.le_refl _) m2.next
    · cases he

theorem callW_ok {ex : ExF} {call : CallF} (hex : ExOK P ex) : CallOK P (callW P ex call) := by
  intro f args h v h' he
  unfold callW at he
  split at he
  · rename_i fn hfn
    split at he
    · rename_i body hbody
      have main : ∀ (e : AExit) (fr1 : Fr) (h1 : Hs), (e = .normal ∨ e = .ret) → ex none body { tm := setAll args 0 .leaf, n := args.length + (fn.ntmps - args.length), dfr := [] } h = some (e, fr1, h1) →
          (match dfrs P ex fr1.dfr h1 with
            | some h => match resultsA P fr1.tm h fn.results.toList with
              | some vs => some (oneA vs, h)
              | none => none
            | none => none) = some (v, h') → Mod h h' ∧
            ∀ ρ w args' n, VRs ρ args args' → HRel ρ h.heap.get w → Fresh ρ h.next h'.next → CallsIn Fence.wide n P f ⟨args'⟩ w (Got ρ h w v h') := by
        intro e fr1 h1 hen hb he
        obtain ⟨m1, k1⟩ := hex _ _ _ _ _ _ _ hb
        split at he
        · rename_i h2 hd
          split at he
          · rename_i vs hvs
            cases he
            have m2 := dfrs_mod hex hd
            refine ⟨m1.trans m2, fun ρ w args' n hargs hh hf => ?_⟩
            refine callsIn_of_wp_marks hfn hbody trivial ?_
            refine wpIn_mono (k1 ρ w _ n Fence.wide rfl ⟨enter_TR hargs fn.ntmps, .nil⟩ hh (hf.sub (Nat.le_refl _) m2.next)) fun e' a' w' hp => ?_
            obtain ⟨rfl, ρ1, x1, x2, x3⟩ := hp
            have leave : LeavesInM Fence.wide n P fn a'.tmps (Got ρ h w (oneA vs) h') a'.defers .returning w' := by
              refine dfrs_ok hex hd x1.ds x2 (x3.fresh hf m1.next) fun ρ2 w2 q1 q2 => ?_
              obtain ⟨vs', y1, y2⟩ := resultsA_ok (P := P) (x1.tr.mono q2.ext) q1 hvs
              refine ⟨_, ?_, ρ2, _, rfl, oneA_ok y1, q1, x3.trans q2 m1.next m2.next⟩
              rw [results_eq, Array.mapM_eq_mapM_toList]
              simp [y2]
            rcases hen with rfl | rfl
            · exact leave
            · exact leave
          · cases he
        · cases he
      split at he
      · rename_i fr1 h1 hb
        exact main _ _ _ (.inl rfl) hb he
      · rename_i fr1 h1 hb
        exact main _ _ _ (.inr rfl) hb he
      · cases he
    · cases he
  · cases he
end
end Go.AV

namespace Go.AV

section
variable {P : Program}

theorem DRs.append {ρ : Ren} : ∀ {a b : List ADfr} {a' b' : List Deferred}, DRs ρ a a' → DRs ρ b b' → DRs ρ (a ++ b) (a' ++ b')
  | _, _, _, _, .nil, k => k
  | _, _, _, _, .cons d d' l l' h r, k => .cons d d' _ _ h (DRs.append r k)

theorem Mod.loopNew (h : Hs) (o : AObj) : Mod h (newObjA h o) := Mod.new h o

theorem rangeW_ok {call : CallF} (hc : CallOK P call) {rdd : Option Nat} {fr : Fr} {g : Nat} {first cap : List Value} {dk : Nat} {mark : List ADfr} {ps : Array Tmp} {asg b : Code} {h0 h : Hs} {e : AExit} {fr' : Fr} {h' : Hs} {f : Operand}
    (hev : ev fr.tm f = some (.func (.func g) ⟨first⟩ ⟨cap⟩))
    (he : codeW.rangeW P call fr g first cap dk mark ps asg b h = some (e, fr', h'))
    (hm0 : Mod h0 h)
    (hent : ∀ ρ w a F, RFence ρ rdd F → FRel ρ fr a → HRel ρ h0.heap.get w → Fresh ρ h0.next h'.next → h.next ≤ h'.next → ∀ fn, ∃ ρ1 w1 D ds', HRel ρ1 h.heap.get w1 ∧ Step ρ h0.heap.get w ρ1 h.heap.get w1 h0.next h.next ∧ (∃ L, ρ1 dk = some L ∧ D = L.φ) ∧ DRs ρ1 mark ds' ∧
      (Instr.enterLoop fn a.tmps ps asg b F.round).run P w = .ok (w1.heap.size, ds') (w1.alloc (.loop { state := .ready, pending := none, fn := fn, tmps := a.tmps, params := ps, assign := asg, body := b, defers := D }))) :
    Mod h0 h' ∧ ∀ (ρ : Ren) (w : World) (a : Act) (n : Nat) (F : Fence), RFence ρ rdd F → FRel ρ fr a → HRel ρ h0.heap.get w → Fresh ρ h0.next h'.next → (Code.rangeFunc f ps asg b).wpIn F n P (Post ρ h0 w e fr' h') a w := by
  unfold codeW.rangeW at he
  split at he
  · rename_i fn hfn
    split at he
    · rename_i body hbody hname
      split at he
      · rename_i v h1 hcall
        split at he
        · rename_i r hb1
          split at he
          · cases he
          · rename_i hst
            obtain ⟨mc, kc⟩ := hc _ _ _ _ _ hcall
            have mall := (hm0.trans (Mod.new h _)).trans mc
            have mset := mall.trans (Mod.set h1 h.next (.loop { r with st := .exhausted }) hb1)
            have fin : ∀ (jmp : Option Code) (c : Exit), r.pending = jmp → c = toExit e → fr' = { fr with dfr := mark ++ fr.dfr } → h' = { h1 with heap := h1.heap.set h.next (.loop { r with st := .exhausted }), log := h.next :: h1.log } →
                (∀ F n (Q : Exit → Act → World → Prop) a w, Q c a w → (match jmp with | none => Q .normal a w | some c => c.wpIn F n P Q a w)) →
                Mod h0 h' ∧ ∀ (ρ : Ren) (w : World) (a : Act) (n : Nat) (F : Fence), RFence ρ rdd F → FRel ρ fr a → HRel ρ h0.heap.get w → Fresh ρ h0.next h'.next → (Code.rangeFunc f ps asg b).wpIn F n P (Post ρ h0 w e fr' h') a w := by
              intro jmp c hj hce hfr' hh' hjump
              subst hh' hfr' hce
              refine ⟨mset, fun ρ w a n F hF hfr hh hf => wpIn_rangeFunc fun fnid _ => ?_⟩
              have hfr0 := hfr
              obtain ⟨ρ1, w1, D, ds', q1, q2, ⟨LD, hLD, rfl⟩, q4, q5⟩ := hent ρ w a F hF hfr hh hf (Nat.le_trans (Nat.le_succ _) mc.next) fnid
              have hn1 : h.next + 1 ≤ h1.next := mc.next
              have hfresh1 : Fresh ρ1 h.next h1.next := q2.fresh (hi := h1.next) hf hm0.next
              have hnew : ρ1 h.next = none := hfresh1 _ (Nat.le_refl _) (by omega)
              have hle1 : ρ1.le (ρ1.set h.next ⟨w1.heap.size, 0, 0⟩) := Ren.set_le _ hnew
              have hfr1 := (hfr.mono q2.ext).mono hle1
              obtain ⟨y1, y2⟩ := HRel.new (δ := 0) (ψ := 0) (o := .loop { st := .ready, pending := none, tm := fr.tm, n := fr.n, params := ps.toList, assign := asg, body := b, defers := dk }) (H' := (newObjA h (.loop { st := .ready, pending := none, tm := fr.tm, n := fr.n, params := ps.toList, assign := asg, body := b, defers := dk })).heap.get)
                (x := .loop { state := .ready, pending := none, fn := fnid, tmps := a.tmps, params := ps, assign := asg, body := b, defers := LD.φ }) q1 hnew
                ⟨rfl, rfl, hfr1.tr, rfl, rfl, rfl, LD, hle1 _ _ hLD, rfl⟩ (fun i => T.get_set _ _ _ _)
              have hfv := ev_sound hfr1.tr hev
              generalize hfe : a.eval f = fv at hfv
              cases hfv with
              | sc _ hs => simp [AV.simple] at hs
              | fn _ _ first' _ cap' z1 z2 =>
                have hname' : ¬ fn.name = "runtime.NumGoroutine" := by simpa using hname
                generalize hW : w1.alloc (.loop { state := .ready, pending := none, fn := fnid, tmps := a.tmps, params := ps, assign := asg, body := b, defers := LD.φ }) = W at q5 y1 y2
                refine ⟨w1.heap.size, ds', W, { target := .fn (.func g) ⟨cap'⟩, args := (⟨first'⟩ : Array Value) ++ #[.func (.yield w1.heap.size) #[] #[]] }, W, g, ⟨(first' ++ [.func (.yield w1.heap.size) #[] #[]]) ++ cap'⟩, W, q5, ?_, fun f' _ => hF.fn f', ?_, fun hd => absurd hd (by rw [hF.depth]; simp), ?_⟩
                · have hcst : a.eval (.const (.func (.yield w1.heap.size) #[] #[])) = .func (.yield w1.heap.size) #[] #[] := rfl
                  simp [resolve, Deferred.ofValue, hfe, hcst]
                · simp [invoke, callFunc, hfn, hname', hbody]
                · have hargs : VRs (ρ1.set h.next ⟨w1.heap.size, 0, 0⟩) ((first ++ [.func (.yield h.next) #[] #[]]) ++ cap) ((first' ++ [.func (.yield w1.heap.size) #[] #[]]) ++ cap') :=
                    (z1.append (.one (.yield _ ⟨w1.heap.size, 0, 0⟩ _ _ (Ren.set_same _ _ _) .nil))).append z2
                  refine CallsIn.mono (hF.calls (kc _ _ _ (n - 1) hargs y1 (y2.fresh hfresh1 (Nat.le_succ _)))) fun e2 w2 hgot => ?_
                  obtain ⟨ρ2, v', rfl, p1, p2, p3⟩ := hgot
                  have hL2 := p3.ext _ _ (Ren.set_same ρ1 h.next ⟨w1.heap.size, 0, 0⟩)
                  obtain ⟨r', hx, hget, s1, s2, s3, s4, s5, s6, s7⟩ := getLoop_run (P := P) p2 hb1 hL2
                  obtain ⟨w3, hs3, hh3, hst3⟩ := setLoop_ok (P := P) (r2 := { r with st := .exhausted }) (r2' := { r' with state := .exhausted }) p2 hb1 hL2 hx ⟨rfl, s2, s3, s4, s5, s6, s7⟩
                  refine ⟨jmp, w3, ?_, ?_⟩
                  · unfold Instr.endLoop
                    rw [hget]
                    have hnb : (r'.state == .busy) = false := by
                      rw [s1]
                      cases hs : r.st <;> first | rfl | exact (hst hs).elim
                    simp only [hnb, Bool.false_eq_true, if_false, Sem.run_bind, hs3, Result.andThen_ok, Sem.run_pure]
                    rw [s2, hj]
                  · have hP : Post ρ h0 w e { fr with dfr := mark ++ fr.dfr } { h1 with heap := h1.heap.set h.next (.loop { r with st := .exhausted }), log := h.next :: h1.log } (toExit e) { a with defers := ds' ++ a.defers } w3 := by
                      refine ⟨rfl, ρ2, ⟨(hfr1.mono p3.ext).tr, ?_⟩, hh3, ?_⟩
                      · exact ((DRs.mono (hle1.trans p3.ext) q4).append (hfr1.mono p3.ext).ds)
                      · exact (((q2.trans y2 hm0.next (Nat.le_succ _)).trans p3 (Nat.le_succ_of_le hm0.next) mc.next).trans (hst3 h1.next h1.next) (Nat.le_trans (Nat.le_succ_of_le hm0.next) mc.next) (Nat.le_refl _))
                    have hJ := hjump F n _ _ _ hP
                    cases jmp with
                    | none => exact hJ
                    | some c => exact hJ
            split at he
            · rename_i hp
              cases he
              exact fin none .normal hp rfl rfl rfl fun _ _ _ _ _ q => q
            · rename_i hp
              cases he
              exact fin (some .ret) .ret hp rfl rfl rfl fun _ _ _ _ _ q => wpIn_ret q
            · rename_i i hp
              cases he
              exact fin (some (.exit i)) (.exit i) hp rfl rfl rfl fun _ _ _ _ _ q => wpIn_exit q
            · rename_i i hp
              cases he
              exact fin (some (.goto i)) (.goto i) hp rfl rfl rfl fun _ _ _ _ _ q => wpIn_goto q
            · cases he
        · cases he
      · cases he
    · cases he
  · cases he
theorem enter_none {h : Hs} {ρ : Ren} {w : World} {a : Act} {ps : Array Tmp} {asg b : Code} {fn : FuncId} (hh : HRel ρ h.heap.get w) (hf : ρ h.next = none) :
    ∃ ρ1 w1 D ds', HRel ρ1 (newObjA h (.dfr true)).heap.get w1 ∧ Step ρ h.heap.get w ρ1 (newObjA h (.dfr true)).heap.get w1 h.next (newObjA h (.dfr true)).next ∧ (∃ L, ρ1 h.next = some L ∧ D = L.φ) ∧ DRs ρ1 [.mark h.next] ds' ∧
      (Instr.enterLoop fn a.tmps ps asg b none).run P w = .ok (w1.heap.size, ds') (w1.alloc (.loop { state := .ready, pending := none, fn := fn, tmps := a.tmps, params := ps, assign := asg, body := b, defers := D })) := by
  obtain ⟨y1, y2⟩ := HRel.new (δ := 0) (ψ := 0) (o := .dfr true) (x := .deferred (some [])) (H' := (newObjA h (.dfr true)).heap.get) hh hf rfl (fun i => T.get_set _ _ _ _)
  refine ⟨_, _, w.heap.size, [{ target := .collected w.heap.size, args := #[] }], y1, y2, ⟨_, Ren.set_same _ _ _, rfl⟩, .cons _ _ _ _ ⟨_, Ren.set_same _ _ _, rfl⟩ .nil, ?_⟩
  simp [Instr.enterLoop]

theorem regionW_ok (hD : DrawOK P) {call round : CallF} (hc : CallOK P call) (hr : RoundOK P round) {rdd : Option Nat} {ops : Array Oper} {draw : Bool} {fr fr' : Fr} {h h' : Hs} (he : regionW P call round rdd ops draw fr h = some (fr', h')) (id : Nat) : Mod h h' ∧
    ∀ (ρ : Ren) (w : World) (a : Act) (n : Nat) (F : Fence), RFence ρ rdd F → FRel ρ fr a → HRel ρ h.heap.get w → Fresh ρ h.next h'.next → (Code.region id ops draw).wpIn F n P (Post ρ h w .normal fr' h') a w := by
  unfold regionW at he
  split at he
  · obtain ⟨m, k⟩ := opsW_ok hc hr _ _ _ _ _ he
    exact ⟨m, fun ρ w a n F hF hfr hh hf => wpIn_region_list (k ρ w a n F hF hfr hh hf _ fun a' w' q => ⟨rfl, q⟩)⟩
  · split at he
    · rename_i ms hms
      obtain ⟨m, k⟩ := hD call round hc hr rdd ops ms fr h fr' h' hms he
      exact ⟨m, fun ρ w a n F hF hfr hh hf => k ρ w a n F hF hfr hh hf _ id fun a' w' q => ⟨rfl, q⟩⟩
    · cases he

theorem Post.exit {ρ : Ren} {h : Hs} {w : World} {e : AExit} {fr' : Fr} {h' : Hs} {e' : Exit} {a' : Act} {w' : World} (hp : Post ρ h w e fr' h' e' a' w') : e' = toExit e := hp.1

theorem codeW_ok (hD : DrawOK P) {ex : ExF} {call : CallF} (hex : ExOK P ex) (hc : CallOK P call) : ∀ rdd c fr h e fr' h', codeW P ex call rdd c fr h = some (e, fr', h') → Mod h h' ∧
    ∀ ρ w a n F, RFence ρ rdd F → FRel ρ fr a → HRel ρ h.heap.get w → Fresh ρ h.next h'.next → c.wpIn F n P (Post ρ h w e fr' h') a w := by
  intro rdd c fr h e fr' h' he
  have stay : ∀ {ρ : Ren} {w : World} {a : Act} (x : AExit), FRel ρ fr a → HRel ρ h.heap.get w → Post ρ h w x fr h (toExit x) a w := fun x h1 h2 => ⟨rfl, _, h1, h2, Step.refl _ _ _ _ _⟩
  unfold codeW at he
  split at he
  · cases he; exact ⟨Mod.refl _, fun ρ w a n F hF hfr hh hf => wpIn_skip (stay .normal hfr hh)⟩
  · cases he; exact ⟨Mod.refl _, fun ρ w a n F hF hfr hh hf => wpIn_label (stay .normal hfr hh)⟩
  · -- seq
    split at he
    · rename_i fr1 h1 h2
      obtain ⟨m1, k1⟩ := hex _ _ _ _ _ _ _ h2
      obtain ⟨m2, k2⟩ := hex _ _ _ _ _ _ _ he
      refine ⟨m1.trans m2, fun ρ w a n F hF hfr hh hf => wpIn_seq ?_⟩
      refine wpIn_mono (k1 ρ w a n F hF hfr hh (hf.sub (Nat.le_refl _) m2.next)) fun e1 a1 w1 hp => ?_
      obtain ⟨rfl, ρ1, x1, x2, x3⟩ := hp
      refine wpIn_mono (k2 ρ1 w1 a1 n F (hF.mono x3.ext) x1 x2 (x3.fresh hf m1.next)) fun e2 a2 w2 hp => ?_
      exact ⟨hp.1, Aft.trans x3 m1.next m2.next hp.2⟩
    · rename_i hne
      obtain ⟨m1, k1⟩ := hex _ _ _ _ _ _ _ he
      refine ⟨m1, fun ρ w a n F hF hfr hh hf => wpIn_seq ?_⟩
      refine wpIn_mono (k1 ρ w a n F hF hfr hh hf) fun e1 a1 w1 hp => ?_
      have := hp.1; subst this
      cases e with
      | normal => exact (hne _ _ he).elim
      | exit i => exact hp
      | goto l => exact hp
      | ret => exact hp
  · -- cond
    split at he
    · rename_i hev
      obtain ⟨m1, k1⟩ := hex _ _ _ _ _ _ _ he
      refine ⟨m1, fun ρ w a n F hF hfr hh hf => ?_⟩
      have hv := ev_sound hfr.tr hev
      generalize hx : a.eval _ = x at hv
      cases hv
      exact wpIn_cond_true hx (k1 ρ w a n F hF hfr hh hf)
    · rename_i hev
      obtain ⟨m1, k1⟩ := hex _ _ _ _ _ _ _ he
      refine ⟨m1, fun ρ w a n F hF hfr hh hf => ?_⟩
      have hv := ev_sound hfr.tr hev
      generalize hx : a.eval _ = x at hv
      cases hv
      exact wpIn_cond_false hx (k1 ρ w a n F hF hfr hh hf)
    · cases he
  · -- block
    rename_i id b
    split at he
    · rename_i i fr1 h1 hb
      obtain ⟨m1, k1⟩ := hex _ _ _ _ _ _ _ hb
      split at he
      · rename_i hi
        have hi' := Nat.eq_of_beq_eq_true hi
        cases he
        refine ⟨m1, fun ρ w a n F hF hfr hh hf => wpIn_block ?_⟩
        refine wpIn_mono (k1 ρ w a n F hF hfr hh hf) fun e1 a1 w1 hp => ?_
        obtain ⟨rfl, hp⟩ := hp
        simp only [toExit, Exit.inBlock, hi', if_true]
        exact ⟨rfl, hp⟩
      · rename_i hi
        have hi' : ¬ i = id := Nat.ne_of_beq_eq_false hi
        cases he
        refine ⟨m1, fun ρ w a n F hF hfr hh hf => wpIn_block ?_⟩
        refine wpIn_mono (k1 ρ w a n F hF hfr hh hf) fun e1 a1 w1 hp => ?_
        obtain ⟨rfl, hp⟩ := hp
        simp only [toExit, Exit.inBlock, hi', if_false]
        exact ⟨rfl, hp⟩
    · rename_i hne
      obtain ⟨m1, k1⟩ := hex _ _ _ _ _ _ _ he
      refine ⟨m1, fun ρ w a n F hF hfr hh hf => wpIn_block ?_⟩
      refine wpIn_mono (k1 ρ w a n F hF hfr hh hf) fun e1 a1 w1 hp => ?_
      have := hp.1; subst this
      cases e with
      | normal => exact hp
      | exit i => exact (hne _ _ _ he).elim
      | goto l => exact hp
      | ret => exact hp
  · cases he; exact ⟨Mod.refl _, fun ρ w a n F hF hfr hh hf => wpIn_exit (stay (.exit _) hfr hh)⟩
  · cases he; exact ⟨Mod.refl _, fun ρ w a n F hF hfr hh hf => wpIn_goto (stay (.goto _) hfr hh)⟩
  · cases he; exact ⟨Mod.refl _, fun ρ w a n F hF hfr hh hf => wpIn_ret (stay .ret hfr hh)⟩
  · -- region
    split at he
    · rename_i fr1 h1 hreg
      cases he
      exact regionW_ok hD hc (roundW_ok hex) hreg _
    · cases he
  · -- rangeFunc
    split at he
    · rename_i g first cap hev
      cases rdd with
      | none =>
        dsimp only at he
        exact rangeW_ok (rdd := none) hc hev he (Mod.new h _) fun ρ w a F hF hfr hh hf hlt fn => by
          cases hF
          exact enter_none hh (hf _ (Nat.le_refl _) hlt)
      | some l =>
        dsimp only at he
        split at he
        · rename_i dk mark hx heq
          split at heq
          · rename_i r hb
            cases heq
            exact rangeW_ok (rdd := some l) hc hev he (Mod.refl h) fun ρ w a F hF hfr hh hf hlt fn => by
              obtain ⟨L, hL, rfl⟩ := hF
              obtain ⟨r', hx, hget, s1, s2, s3, s4, s5, s6, LD, hLD, s7⟩ := getLoop_run (P := P) hh hb hL
              refine ⟨ρ, w, _, [], hh, Step.refl _ _ _ _ _, ⟨LD, hLD, s7⟩, .nil, ?_⟩
              simp only [Instr.enterLoop, Fence.inRound_round]
              rw [hget]
              simp
          · cases heq
        · cases he
    · cases he
  · cases he
theorem callN_ok {ex : ExF} (hex : ExOK P ex) : ∀ n, CallOK P (callN P ex n)
  | 0 => fun f args h v h' he => by simp [callN] at he
  | n + 1 => fun f args h v h' he => callW_ok (call := callN P ex n) hex f args h v h' he

theorem exec_ok (hD : DrawOK P) : ∀ n, ExOK P (exec P n)
  | 0 => fun rdd c fr h e fr' h' he => by simp [exec] at he
  | n + 1 => fun rdd c fr h e fr' h' he => by
    have ih := exec_ok hD n
    unfold exec at he
    split at he
    · cases he
    · rename_i heq
      cases heq
      obtain ⟨m, k⟩ := scopeW_ok ih _ _ _ _ _ _ _ _ _ he
      exact ⟨m, fun ρ w a n F hF hfr hh hf => wpIn_scope_rounds _ (k ρ w a n F hF hfr hh hf _ fun _ _ _ q => q)⟩
    · rename_i heq
      cases heq
      obtain ⟨m, k⟩ := loopW_ok ih _ _ _ _ _ _ _ _ he
      exact ⟨m, fun ρ w a n F hF hfr hh hf => wpIn_loop_rounds _ (k ρ w a n F hF hfr hh hf _ fun _ _ _ q => q)⟩
    · rename_i heq _ _
      cases heq
      exact codeW_ok hD ih (callN_ok ih _) _ _ _ _ _ _ _ he

theorem runF_ok (hD : DrawOK P) (fuel : Nat) : CallOK P (runF P fuel) := callN_ok (exec_ok hD fuel) fuel

def noRen : Ren := fun _ => none

/-- A function of no arguments that the evaluator sees return 'true' does. -/
theorem calls_of_run (hD : DrawOK P) {fuel f : Nat} {nx : Nat} (hr : outB (runF P fuel f [] { heap := .leaf, next := nx, log := [] }) = some true) (w : World) :
    Calls P f #[] w (fun e w' => e = .returned (.bool true) ∧ w'.os = w.os ∧ w'.tape = w.tape ∧ w'.output = w.output ∧ w.heap.size ≤ w'.heap.size ∧ ∀ r, r < w.heap.size → w'.heap[r]? = w.heap[r]?) := by
  cases he : runF P fuel f [] { heap := .leaf, next := nx, log := [] } with
  | none => rw [he] at hr; simp [outB] at hr
  | some x =>
    obtain ⟨v, h'⟩ := x
    have hv : v = .bool true := by
      rw [he] at hr
      unfold outB at hr
      split at hr
      · rename_i heq; cases heq; cases hr; rfl
      · cases hr
    subst hv
    have hh : HRel noRen (T.leaf : T AObj).get w := ⟨fun b o hb => absurd hb (by rw [T.get_leaf]; simp), fun i j oi oj Li Lj hi => absurd hi (by rw [T.get_leaf]; simp)⟩
    have hc := ((runF_ok hD fuel) _ _ _ _ _ he).2 noRen w [] 0 .nil hh (fun _ _ _ => rfl)
    refine Calls.mono (hc.calls fun _ => room_wide _) fun e w' hg => ?_
    obtain ⟨ρ', v', rfl, h1, h2, h3⟩ := hg
    cases h1
    exact ⟨rfl, h3.os, h3.tape, h3.output, h3.size, fun r hr => h3.same r hr fun b o L hb => absurd hb (by rw [T.get_leaf]; simp)⟩
end
end Go.AV
