/-
  The evaluator's soundness: frames, single operations, regions in the text's order.
-/
import Derived.Test.YthecahanniaggaaAvOpK
import Derived.Test.YthecahanniaggaaAvMod
import Derived.Test.YthecahanniaggaaAvScope
import Derived.RangeFuncCalls
namespace Go.AV

theorem Res.hs_next (h : Hs) (r : Res) : (r.hs h).next = r.next h := by cases r <;> rfl

inductive DRs (ρ : Ren) : List ADfr → List Deferred → Prop where
  | nil : DRs ρ [] []
  | cons (d : ADfr) (d' : Deferred) (l : List ADfr) (l' : List Deferred) (h : DR ρ d d') (k : DRs ρ l l') : DRs ρ (d :: l) (d' :: l')

theorem DR.mono {ρ ρ' : Ren} (hl : ρ.le ρ') {d : ADfr} {d' : Deferred} (h : DR ρ d d') : DR ρ' d d' := by
  cases d with
  | call f args captured => obtain ⟨a, c, h1, h2, h3⟩ := h; exact ⟨a, c, h1, h2.mono hl, h3.mono hl⟩
  | mark r => obtain ⟨L, h1, h2⟩ := h; exact ⟨L, hl _ _ h1, h2⟩

theorem DRs.mono {ρ ρ' : Ren} (hl : ρ.le ρ') : ∀ {l : List ADfr} {l' : List Deferred}, DRs ρ l l' → DRs ρ' l l'
  | _, _, .nil => .nil
  | _, _, .cons _ _ _ _ h k => .cons _ _ _ _ (h.mono hl) (k.mono hl)

structure FRel (ρ : Ren) (fr : Fr) (a : Act) : Prop where
  tr : TR ρ fr.tm fr.n a.tmps
  ds : DRs ρ fr.dfr a.defers

theorem FRel.mono {ρ ρ' : Ren} (hl : ρ.le ρ') {fr : Fr} {a : Act} (h : FRel ρ fr a) : FRel ρ' fr a := ⟨h.tr.mono hl, h.ds.mono hl⟩

theorem rd_set (tm : Tm) (d : Nat) (v : Value) (t : Nat) : rd (tm.set d v) t = if t = d then v else rd tm t := by
  unfold rd
  rw [T.get_set]
  by_cases ht : t = d
  · rw [if_pos ht, if_pos ht]
  · rw [if_neg ht, if_neg ht]

theorem TR.put {ρ : Ren} {tm : Tm} {n : Nat} {tmps : Array Value} (h : TR ρ tm n tmps) {d : Nat} (hd : d < n) {v v' : Value} (hv : VR ρ v v') : TR ρ (tm.set d v) n (tmps.setIfInBounds d v') := by
  refine ⟨by rw [Array.size_setIfInBounds]; exact h.1, fun t => ?_⟩
  rw [rd_set]
  by_cases ht : t = d
  · subst ht
    rw [if_pos rfl]
    have : (tmps.setIfInBounds t v').getD t undef = v' := by simp [Array.getD, h.1, hd]
    rw [this]; exact hv
  · rw [if_neg ht]
    have : (tmps.setIfInBounds d v').getD t undef = tmps.getD t undef := by
      simp only [Array.getD_eq_getD_getElem?]
      rw [Array.getElem?_setIfInBounds_ne (by omega)]
    rw [this]; exact h.2 t

theorem Fr.put_ok {ρ : Ren} {fr fr' : Fr} {a : Act} (h : FRel ρ fr a) {d : Option Tmp} {v v' : Value} (hv : VR ρ v v') (hp : fr.put d v = some fr') : FRel ρ fr' (a.put d v') := by
  unfold Fr.put at hp
  split at hp
  · split at hp
    · rename_i d hd
      cases hp
      exact ⟨h.tr.put (by rw [Nat.blt_eq] at hd; exact hd) hv, h.ds⟩
    · cases hp
  · cases hp
    exact h

theorem nth_eq {α : Type} : ∀ (l : List α) (i : Nat), nth l i = l[i]?
  | [], i => by simp [nth]
  | a :: l, 0 => rfl
  | a :: l, i + 1 => by simp [nth, nth_eq l i]

theorem wantedB_ok {ρ : Ren} {ops : Array Oper} {tm : Tm} {n : Nat} {a : Act} (h : TR ρ tm n a.tmps) {o : Oper} {b : Bool} (hw : wantedB ops tm o = some b) :
    Region.wanted o (yielded ops a.tmps) = b := by
  unfold wantedB at hw
  unfold Region.wanted
  split at hw
  · rename_i hg
    cases hw
    simp [hg]
  · rename_i j want hg
    simp only [hg]
    have hn : nth ops.toList j = ops[j]? := by rw [nth_eq]; simp
    rw [hn] at hw
    unfold yielded
    split at hw
    · rename_i d hd
      have hd' : (ops[j]?).bind (·.dst) = some d := hd
      rw [hd']
      have hv := h.2 d
      simp only [Option.bind_some]
      split at hw
      · rename_i b' hb
        cases hw
        rw [hb] at hv
        generalize hx : a.tmps.getD d undef = x at hv
        cases hv
        have hsome : a.tmps[d]? = some (.bool b') := by
          rw [Array.getD_eq_getD_getElem?] at hx
          cases he : a.tmps[d]? with
          | none => rw [he] at hx; simp [undef] at hx
          | some y => rw [he] at hx; simp at hx; rw [hx]
        rw [hsome]
        cases b' <;> cases want <;> rfl
      · rename_i b' hb
        cases hw
        rw [hb] at hv
        generalize hx : a.tmps.getD d undef = x at hv
        have hx' : ∃ l, x = .tuple l := by
          cases hv with
          | sc _ hs => simp [AV.simple] at hs
          | tuple _ l _ => exact ⟨_, rfl⟩
        obtain ⟨l, rfl⟩ := hx'
        rw [Array.getD_eq_getD_getElem?] at hx
        cases he : a.tmps[d]? with
        | none => simp
        | some y => rw [he] at hx; simp at hx; subst hx; simp
      · cases hw
    · rename_i hd
      cases hw
      have hd' : (ops[j]?).bind (·.dst) = none := hd
      rw [hd']
      simp

def toExit : AExit → Exit
  | .normal => .normal
  | .exit i => .exit i
  | .goto l => .goto l
  | .ret => .ret

/-- What has come of a state: frame, heap and all. -/
def Aft (ρ : Ren) (h : Hs) (w : World) (fr' : Fr) (h' : Hs) (a' : Act) (w' : World) : Prop :=
  ∃ ρ', FRel ρ' fr' a' ∧ HRel ρ' h'.heap.get w' ∧ Step ρ h.heap.get w ρ' h'.heap.get w' h.next h'.next

def Post (ρ : Ren) (h : Hs) (w : World) (e : AExit) (fr' : Fr) (h' : Hs) (e' : Exit) (a' : Act) (w' : World) : Prop :=
  e' = toExit e ∧ Aft ρ h w fr' h' a' w'

/-- What a call hands back. -/
def Got (ρ : Ren) (h : Hs) (w : World) (v : Value) (h' : Hs) (e : Ending) (w' : World) : Prop :=
  ∃ ρ' v', e = .returned v' ∧ VR ρ' v v' ∧ HRel ρ' h'.heap.get w' ∧ Step ρ h.heap.get w ρ' h'.heap.get w' h.next h'.next

def CallOK (P : Program) (call : CallF) : Prop := ∀ f args h v h', call f args h = some (v, h') → Mod h h' ∧
  ∀ ρ w args' n, VRs ρ args args' → HRel ρ h.heap.get w → Fresh ρ h.next h'.next → CallsIn Fence.wide n P f ⟨args'⟩ w (Got ρ h w v h')

def RoundOK (P : Program) (round : CallF) : Prop := ∀ l args h v h', round l args h = some (v, h') → Mod h h' ∧
  ∀ ρ w args' n L, ρ l = some L → VRs ρ args args' → HRel ρ h.heap.get w → Fresh ρ h.next h'.next →
    ∃ f tmps assign body, (Instr.yield L.φ ⟨args'⟩).run P w = .ok (.round L.φ f tmps assign body) w ∧ RoundIn Fence.wide n P L.φ f tmps assign body w (Got ρ h w v h')

/-- the fence at which code is walked, in a function's frame or in a round's -/
def RFence (ρ : Ren) : Option Nat → Fence → Prop
  | none, F => F = Fence.wide
  | some l, F => ∃ L, ρ l = some L ∧ F = Fence.wide.inRound L.φ

theorem RFence.mono {ρ ρ' : Ren} (hl : ρ.le ρ') {r : Option Nat} {F : Fence} (h : RFence ρ r F) : RFence ρ' r F := by
  cases r with
  | none => exact h
  | some l => obtain ⟨L, a, b⟩ := h; exact ⟨L, hl _ _ a, b⟩

theorem RFence.fn {ρ : Ren} {r : Option Nat} {F : Fence} (h : RFence ρ r F) (f : FuncId) : F.fn f := by
  cases r with
  | none => cases h; trivial
  | some l => obtain ⟨L, a, rfl⟩ := h; trivial

theorem RFence.depth {ρ : Ren} {r : Option Nat} {F : Fence} (h : RFence ρ r F) : F.depth = none := by
  cases r with
  | none => cases h; rfl
  | some l => obtain ⟨L, a, rfl⟩ := h; rfl

theorem RFence.calls {ρ : Ren} {r : Option Nat} {F : Fence} (h : RFence ρ r F) {n : Nat} {P : Program} {f : FuncId} {args : Array Value} {w : World} {R : Ending → World → Prop} (hc : CallsIn Fence.wide n P f args w R) : CallsIn F n P f args w R := by
  cases r with
  | none => cases h; exact hc
  | some l => obtain ⟨L, a, rfl⟩ := h; exact hc

theorem RFence.round {ρ : Ren} {r : Option Nat} {F : Fence} (h : RFence ρ r F) {n : Nat} {P : Program} {l : Nat} {f : FuncId} {tmps : Array Value} {assign body : Code} {w : World} {R : Ending → World → Prop} (hc : RoundIn Fence.wide n P l f tmps assign body w R) : RoundIn F n P l f tmps assign body w R := by
  cases r with
  | none => cases h; exact hc
  | some l => obtain ⟨L, a, rfl⟩ := h; exact hc

def ExOK (P : Program) (ex : ExF) : Prop := ∀ rdd c fr h e fr' h', ex rdd c fr h = some (e, fr', h') → Mod h h' ∧
  ∀ ρ w a n F, RFence ρ rdd F → FRel ρ fr a → HRel ρ h.heap.get w → Fresh ρ h.next h'.next → c.wpIn F n P (Post ρ h w e fr' h') a w

theorem Fresh.sub {ρ : Ren} {a b c d : Nat} (h : Fresh ρ a b) (h1 : a ≤ c) (h2 : d ≤ b) : Fresh ρ c d := fun x hx hy => h x (by omega) (by omega)

theorem Step.fresh {ρ ρ' : Ren} {H H' : HF} {w w' : World} {lo mid hi : Nat} (h : Step ρ H w ρ' H' w' lo mid) (hf : Fresh ρ lo hi) (hm : lo ≤ mid) : Fresh ρ' mid hi :=
  fun b hb hc => by rw [h.rng b (.inr hb)]; exact hf b (by omega) hc

theorem Aft.trans {ρ ρ1 : Ren} {h h1 h2 : Hs} {w w1 w2 : World} {fr2 : Fr} {a2 : Act} (hs : Step ρ h.heap.get w ρ1 h1.heap.get w1 h.next h1.next) (h01 : h.next ≤ h1.next) (h12 : h1.next ≤ h2.next)
    (k : Aft ρ1 h1 w1 fr2 h2 a2 w2) : Aft ρ h w fr2 h2 a2 w2 := by
  obtain ⟨ρ', a, b, c⟩ := k
  exact ⟨ρ', a, b, hs.trans c h01 h12⟩

end Go.AV
