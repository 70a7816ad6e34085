/-
  The operations' soundness, first part: operands, what only computes, reads and writes, new blocks.
-/
import Derived.Test.YthecahanniaggaaAvMem
namespace Go.AV

section
variable {P : Program} {ρ : Ren} {w : World} {h : Hs}

theorem prun_sound {α : Type} : ∀ {s : Sem α} {a : α}, prun P s = some a → ∀ w, s.run P w = .ok a w
  | .pure a, _, h, w => by simp [prun] at h; subst h; rfl
  | .program k, a, h, w => by simp only [prun] at h; simp only [Sem.run]; exact prun_sound h w
  | .mark m k, a, h, w => by simp only [prun] at h; simp only [Sem.run]; exact prun_sound h w
  | .load _ _ _, _, h, _ => by simp [prun] at h
  | .store _ _ _ _, _, h, _ => by simp [prun] at h
  | .new _ _, _, h, _ => by simp [prun] at h
  | .shape _ _, _, h, _ => by simp [prun] at h
  | .freeze _ _ _, _, h, _ => by simp [prun] at h
  | .frozen _ _, _, h, _ => by simp [prun] at h
  | .getObj _ _, _, h, _ => by simp [prun] at h
  | .setObj _ _ _, _, h, _ => by simp [prun] at h
  | .choose _ _, _, h, _ => by simp [prun] at h
  | .sys _ _, _, h, _ => by simp [prun] at h
  | .halt _, _, h, _ => by simp [prun] at h

theorem ev_sound {tm : Tm} {n : Nat} {a : Act} (ht : TR ρ tm n a.tmps) {x : Operand} {v : Value} (hx : ev tm x = some v) : VR ρ v (a.eval x) := by
  cases x with
  | tmp t => simp only [ev, Option.some.injEq] at hx; subst hx; exact ht.2 t
  | const c =>
    simp only [ev] at hx
    split at hx
    · rename_i hs; cases hx; exact .sc _ hs
    · cases hx
  | global g => simp [ev] at hx
  | func f => simp only [ev, Option.some.injEq] at hx; subst hx; exact .fn f [] [] [] [] .nil .nil

theorem evs_sound {tm : Tm} {n : Nat} {a : Act} (ht : TR ρ tm n a.tmps) : ∀ {l : List Operand} {vs : List Value}, evs tm l = some vs → VRs ρ vs (l.map a.eval)
  | [], vs, h => by simp [evs] at h; subst h; exact .nil
  | x :: l, vs, h => by
    simp only [evs] at h
    split at h
    · rename_i v hv
      split at h
      · rename_i vs' hvs
        cases h
        exact .cons _ _ _ _ (ev_sound ht hv) (evs_sound ht hvs)
      · cases h
    · cases h

inductive PRs (ρ : Ren) : List (Nat × Value) → List (Nat × Value) → Prop where
  | nil : PRs ρ [] []
  | cons (i : Nat) (v v' : Value) (l l' : List (Nat × Value)) (h : VR ρ v v') (k : PRs ρ l l') : PRs ρ ((i, v) :: l) ((i, v') :: l')

theorem evParts_sound {tm : Tm} {n : Nat} {a : Act} (ht : TR ρ tm n a.tmps) : ∀ {l : List (Nat × Operand)} {vs : List (Nat × Value)}, evParts tm l = some vs → PRs ρ vs (l.map fun x => (x.1, a.eval x.2))
  | [], vs, h => by simp [evParts] at h; subst h; exact .nil
  | (i, x) :: l, vs, h => by
    simp only [evParts] at h
    split at h
    · rename_i v hv
      split at h
      · rename_i vs' hvs
        cases h
        exact .cons _ _ _ _ _ (ev_sound ht hv) (evParts_sound ht hvs)
      · cases h
    · cases h

def Fresh (ρ : Ren) (lo hi : Nat) : Prop := ∀ b, lo ≤ b → b < hi → ρ b = none

/-- A computation of the model's comes to what the abstract one says. -/
def ValOK (P : Program) (ρ : Ren) (h : Hs) (w : World) (s : Sem Value) (v : Value) (h' : Hs) : Prop :=
  ∃ ρ' v' w', s.run P w = .ok v' w' ∧ VR ρ' v v' ∧ HRel ρ' h'.heap.get w' ∧ Step ρ h.heap.get w ρ' h'.heap.get w' h.next h'.next

def UnitOK (P : Program) (ρ : Ren) (h : Hs) (w : World) (s : Sem Unit) (h' : Hs) : Prop :=
  ∃ ρ' w', s.run P w = .ok () w' ∧ HRel ρ' h'.heap.get w' ∧ Step ρ h.heap.get w ρ' h'.heap.get w' h.next h'.next

def DR (ρ : Ren) : ADfr → Deferred → Prop
  | .call f args captured, d => ∃ args' captured', d = { target := .fn (.func f) ⟨captured'⟩, args := ⟨args'⟩ } ∧ VRs ρ args args' ∧ VRs ρ captured captured'
  | .mark r, d => ∃ L, ρ r = some L ∧ d = { target := .collected L.φ, args := #[] }

def ResOK (P : Program) (ρ : Ren) (h : Hs) (w : World) (s : Sem Next) : Res → Prop
  | .val v h' => ∃ ρ' v' w', s.run P w = .ok (.value v') w' ∧ VR ρ' v v' ∧ HRel ρ' h'.heap.get w' ∧ Step ρ h.heap.get w ρ' h'.heap.get w' h.next h'.next
  | .skip h' => ∃ ρ' w', s.run P w = .ok .skip w' ∧ HRel ρ' h'.heap.get w' ∧ Step ρ h.heap.get w ρ' h'.heap.get w' h.next h'.next
  | .call f args => ∃ args', s.run P w = .ok (.enter f ⟨args'⟩) w ∧ VRs ρ args args'
  | .round l args => ∃ L args', ρ l = some L ∧ s.run P w = (Instr.yield L.φ ⟨args'⟩).run P w ∧ VRs ρ args args'
  | .dfr d => ∃ d', s.run P w = .ok (.defer d') w ∧ DR ρ d d'

def Res.next (h : Hs) : Res → Nat
  | .val _ h' | .skip h' => h'.next
  | _ => h.next

theorem ResOK.ofVal {s : Sem Value} {v : Value} {h' : Hs} (hv : ValOK P ρ h w s v h') : ResOK P ρ h w (do pure (.value (← s))) (.val v h') := by
  obtain ⟨ρ', v', w', h1, h2, h3, h4⟩ := hv
  exact ⟨ρ', v', w', by simp [h1], h2, h3, h4⟩

theorem ResOK.ofUnit {s : Sem Unit} {h' : Hs} (hv : UnitOK P ρ h w s h') : ResOK P ρ h w (do s; pure .skip) (.skip h') := by
  obtain ⟨ρ', w', h1, h3, h4⟩ := hv
  exact ⟨ρ', w', by simp [h1], h3, h4⟩

theorem ValOK.pure {s : Sem Value} {v v' : Value} (hh : HRel ρ h.heap.get w) (hs : s.run P w = .ok v' w) (hv : VR ρ v v') : ValOK P ρ h w s v h :=
  ⟨ρ, v', w, hs, hv, hh, Step.refl _ _ _ _ _⟩

/-- a new object, and a value that names it -/
theorem ValOK.new {s : Sem Value} {v v' : Value} {o : AObj} {x : Obj} {δ ψ : Nat} (hh : HRel ρ h.heap.get w) (hf : Fresh ρ h.next (h.next + 1)) (hs : s.run P w = .ok v' (w.alloc x))
    (hR : OR (ρ.set h.next ⟨w.heap.size, δ, ψ⟩) ⟨w.heap.size, δ, ψ⟩ o x) (hv : VR (ρ.set h.next ⟨w.heap.size, δ, ψ⟩) v v') : ValOK P ρ h w s v (newObjA h o) := by
  have hn : ρ h.next = none := hf _ (Nat.le_refl _) (Nat.lt_succ_self _)
  obtain ⟨h1, h2⟩ := HRel.new (H' := (newObjA h o).heap.get) hh hn hR (fun i => T.get_set _ _ _ _)
  exact ⟨_, v', _, hs, hv, h1, h2⟩

theorem blkR_of {L : Loc} {vs vs' : List Value} {c : Array Value} {cap esz elem : Nat} {exact whole : Bool} {fr : Nat × Nat} {frz : Nat} {own : Bool} (hv : VRs ρ vs vs')
    (hlen : vs.length ≤ cap) (hroom : own = true → L.δ + cap + L.ψ * esz ≤ c.size) (hc : ∀ i, i < vs.length → c[L.δ + i]? = vs'[i]?) (hex : exact = true → L.ψ = 0) (hwh : whole = true → L.δ = 0 ∧ c.size = cap)
    (h0 : frz = 0 → fr = (0, 0)) (h1 : frz = 1 → fr.2 ≤ fr.1 ∨ c.size ≤ fr.1) :
    OR ρ L (.blk { cells := vs, cap, esz, elem, exact, whole, frz, own }) (.cells c elem fr) :=
  ⟨rfl, hlen, hroom, fun i v hi => by
    have hi' : vs[i]? = some v := hi
    obtain ⟨v', hv', hR⟩ := hv.get hi'
    have hlt : i < vs.length := by
      rcases Nat.lt_or_ge i vs.length with h' | h'
      · exact h'
      · simp [List.getElem?_eq_none h'] at hi'
    exact ⟨v', by rw [hc i hlt]; exact hv', hR⟩, hex, hwh, h0, h1⟩

theorem run_newRow (elem : TypeId) (c : Array Value) : (newRow elem c).run P w = .ok ⟨w.heap.size, 0, none⟩ (w.alloc (.cells c elem)) := by
  simp [newRow]

/-- a new block of cells that is known whole -/
theorem ValOK.newBlk {s : Sem Value} {v v' : Value} {elem esz : Nat} {vs vs' : List Value} (hh : HRel ρ h.heap.get w) (hf : Fresh ρ h.next (h.next + 1)) (hv : VRs ρ vs vs')
    (hs : s.run P w = .ok v' (w.alloc (.cells ⟨vs'⟩ elem))) (hr : VR (ρ.set h.next ⟨w.heap.size, 0, 0⟩) v v') : ValOK P ρ h w s v (newBlk h elem esz vs) := by
  have hn : ρ h.next = none := hf _ (Nat.le_refl _) (Nat.lt_succ_self _)
  refine ValOK.new (δ := 0) (ψ := 0) hh hf hs (blkR_of (hv.mono (Ren.set_le _ hn)) (Nat.le_refl _) ?_ ?_ (fun _ => rfl) (fun _ => ⟨rfl, ?_⟩) (fun _ => rfl) (fun h => by cases h)) hr
  · intro _; simp [hv.length]
  · intro i _; simp
  · simp [hv.length]

theorem VR.newPtr (ρ : Ren) (b : Nat) (L : Loc) (h : L.δ = 0) : VR (ρ.set b L) (ptrTo b) (.pointer (some ⟨L.φ, 0, none⟩)) := by
  have := VR.ptr (ρ := ρ.set b L) b 0 L (Ren.set_same _ _ _)
  simpa [h, ptrTo] using this

theorem VR.newSl (ρ : Ren) (b : Nat) (L : Loc) (n c : Nat) (h : L.δ = 0) : VR (ρ.set b L) (.slice (some ⟨b, 0, none⟩) n c) (.slice (some ⟨L.φ, 0, none⟩) n (c + L.ψ)) := by
  have := VR.sl (ρ := ρ.set b L) b 0 n c L (Ren.set_same _ _ _)
  simpa [h] using this

/-! ### alloc, box -/
theorem alloc_ok {e : TypeId} {i : TypeInfo} {z : Value} (hh : HRel ρ h.heap.get w) (hf : Fresh ρ h.next (h.next + 1)) (hi : P.info? e = some i) (hz : i.zero = some z) (hp : plainV z = true) :
    ValOK P ρ h w (Instr.alloc e true (.tuple #[])) (ptrTo h.next) (newBlk h e 1 (vcells z)) := by
  refine ValOK.newBlk (v' := .pointer (some ⟨w.heap.size, 0, none⟩)) hh hf (VR.of_plain hp).cells ?_ (VR.newPtr _ _ _ rfl)
  simp [Instr.alloc, run_zeroValue' hi hz, newVar, run_newRow]

theorem box_ok {e : TypeId} {v v' : Value} (hh : HRel ρ h.heap.get w) (hf : Fresh ρ h.next (h.next + 1)) (hv : VR ρ v v') :
    ValOK P ρ h w (Instr.box e v') (ptrTo h.next) (newBlk h e 1 (vcells v)) := by
  refine ValOK.newBlk (v' := .pointer (some ⟨w.heap.size, 0, none⟩)) hh hf hv.cells ?_ (VR.newPtr _ _ _ rfl)
  simp [Instr.box, newVar, run_newRow]

/-! ### load, store -/
theorem load_ok {t : TypeId} {a a' : Value} {r : Res} (hh : HRel ρ h.heap.get w) (ha : VR ρ a a') (hr : aload P h t a = some r) : ∃ v, r = .val v h ∧ ValOK P ρ h w (Instr.loadAt t a') v h := by
  unfold aload at hr
  split at hr
  · split at hr
    · rename_i b off v hv
      cases hr
      obtain ⟨L, v', hL, hrun, hvR⟩ := readVar_sound hh hv
      cases ha with
      | sc _ hs => simp [simple] at hs
      | ptr b o L' hL' =>
        rw [hL] at hL'; cases hL'
        exact ⟨v, rfl, ValOK.pure hh (by simp [Instr.loadAt, Instr.sureAddr, hrun]) hvR⟩
    · cases hr
  · cases hr

theorem store_ok {t : TypeId} {a a' v v' : Value} {r : Res} (hh : HRel ρ h.heap.get w) (ha : VR ρ a a') (hv : VR ρ v v') (hr : astore P h t a v = some r) :
    ∃ h', r = .skip h' ∧ h'.next = h.next ∧ UnitOK P ρ h w (Instr.storeAt t a' v') h' := by
  unfold astore at hr
  split at hr
  · rename_i b off
    split at hr
    · rename_i i hi
      split at hr
      · rename_i c cs h' h1 h2 h3
        cases hr
        rw [h2] at h3 h1
        have hc := hv.cells
        rw [h2] at hc
        obtain ⟨L, w', hL, hrun, hh', hst⟩ := writeAt_sound (P := P) hh h3 hc
        have hnx : h'.next = h.next := by
          unfold writeAt at h3
          repeat' (split at h3)
          all_goals first | (cases h3; rfl) | cases h3
        cases ha with
        | sc _ hs => simp [simple] at hs
        | ptr b o L' hL' =>
          rw [hL] at hL'; cases hL'
          have hlen := hc.length
          have hsz : v'.cells.size = i.size := by
            rw [← Array.length_toList, hlen, Nat.eq_of_beq_eq_true h1]
          exact ⟨h', rfl, hnx, ρ, w', by simp [Instr.storeAt, Instr.sureAddr, storeVar, run_sizeOf' hi, hsz, hrun], hh', hst _ _⟩
      · cases hr
    · cases hr
  · cases hr

end
end Go.AV
