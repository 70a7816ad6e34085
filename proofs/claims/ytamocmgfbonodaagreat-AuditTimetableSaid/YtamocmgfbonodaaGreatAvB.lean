/-
  A part of the proof: lemmas of my own.
-/
import Derived.Test.YtamocmgfbonodaaGreatAvA
import Derived.Laws.Append
set_option linter.unusedVariables false
set_option linter.unusedSimpArgs false
namespace Go.AV

section
variable {P : Program} {ρ : Ren} {w : World} {h : Hs}

theorem prun_sound {α : Type} : ∀ {s : Sem α} {a : α}, prun P s = some a → ∀ w, s.run P w = .ok a w
  | .pure a, _, h, w => by simp [prun] at h; subst h; rfl
  | .program k, a, h, w => by simp only [prun] at h; simp only [Sem.run]; exact prun_sound h w
  | .mark m k, a, h, w => by simp only [prun] at h; simp only [Sem.run]; exact prun_sound h w
  | .load _ _ _, _, h, _ => by simp [prun] at h
  | .store _ _ _ _, _, h, _ => by simp [prun] at h
  | .new _ _, _, h, _ => by simp [prun] at h
  | .shape _ _, _, h, _ => by simp [prun] at h
  | .freeze _ _ _, _, h, _ => by simp [prun] at h
  | .frozen _ _, _, h, _ => by simp [prun] at h
  | .getObj _ _, _, h, _ => by simp [prun] at h
  | .setObj _ _ _, _, h, _ => by simp [prun] at h
  | .choose _ _, _, h, _ => by simp [prun] at h
  | .sys _ _, _, h, _ => by simp [prun] at h
  | .halt _, _, h, _ => by simp [prun] at h

theorem ev_sound {tm : Tm} {n : Nat} {a : Act} (ht : TR ρ tm n a.tmps) {x : Operand} {v : Value} (hx : ev tm x = some v) : VR ρ v (a.eval x) := by
  cases x with
  | tmp t =>
    simp only [ev] at hx
    obtain ⟨rfl, hj⟩ := noJunk_some hx
    exact (ht.2 t).vr hj
  | const c =>
    simp only [ev] at hx
    split at hx
    · rename_i hs; cases hx; exact .sc _ hs
    · cases hx
  | global g => simp [ev] at hx
  | func f => simp only [ev, Option.some.injEq] at hx; subst hx; exact .fn f [] [] [] [] .nil .nil

theorem evs_sound {tm : Tm} {n : Nat} {a : Act} (ht : TR ρ tm n a.tmps) : ∀ {l : List Operand} {vs : List Value}, evs tm l = some vs → VRs ρ vs (l.map a.eval)
  | [], vs, h => by simp [evs] at h; subst h; exact .nil
  | x :: l, vs, h => by
    simp only [evs] at h
    split at h
    · rename_i v hv
      split at h
      · rename_i vs' hvs
        cases h
        exact .cons _ _ _ _ (ev_sound ht hv) (evs_sound ht hvs)
      · cases h
    · cases h

inductive PRs (ρ : Ren) : List (Nat × Value) → List (Nat × Value) → Prop where
  | nil : PRs ρ [] []
  | cons (i : Nat) (v v' : Value) (l l' : List (Nat × Value)) (h : VR ρ v v') (k : PRs ρ l l') : PRs ρ ((i, v) :: l) ((i, v') :: l')

theorem evParts_sound {tm : Tm} {n : Nat} {a : Act} (ht : TR ρ tm n a.tmps) : ∀ {l : List (Nat × Operand)} {vs : List (Nat × Value)}, evParts tm l = some vs → PRs ρ vs (l.map fun x => (x.1, a.eval x.2))
  | [], vs, h => by simp [evParts] at h; subst h; exact .nil
  | (i, x) :: l, vs, h => by
    simp only [evParts] at h
    split at h
    · rename_i v hv
      split at h
      · rename_i vs' hvs
        cases h
        exact .cons _ _ _ _ _ (ev_sound ht hv) (evParts_sound ht hvs)
      · cases h
    · cases h

def Fresh (ρ : Ren) (lo hi : Nat) : Prop := ∀ b, lo ≤ b → b < hi → ρ b = none

/-- A computation of the model's comes to what the abstract one says. -/
def ValOK (P : Program) (ρ : Ren) (h : Hs) (w : World) (s : Sem Value) (v : Value) (h' : Hs) : Prop :=
  ∃ ρ' v' w', s.run P w = .ok v' w' ∧ VR ρ' v v' ∧ HRel ρ' h'.heap.get w' ∧ Step ρ h.heap.get w ρ' h'.heap.get w' h.next h'.next

def UnitOK (P : Program) (ρ : Ren) (h : Hs) (w : World) (s : Sem Unit) (h' : Hs) : Prop :=
  ∃ ρ' w', s.run P w = .ok () w' ∧ HRel ρ' h'.heap.get w' ∧ Step ρ h.heap.get w ρ' h'.heap.get w' h.next h'.next

def DR (ρ : Ren) : ADfr → Deferred → Prop
  | .call f args captured, d => ∃ args' captured', d = { target := .fn (.func f) ⟨captured'⟩, args := ⟨args'⟩ } ∧ VRs ρ args args' ∧ VRs ρ captured captured'
  | .mark r, d => ∃ L, ρ r = some L ∧ d = { target := .collected L.φ, args := #[] }

def ResOK (P : Program) (ρ : Ren) (h : Hs) (w : World) (s : Sem Next) : Res → Prop
  | .val v h' => ∃ ρ' v' w', s.run P w = .ok (.value v') w' ∧ VR ρ' v v' ∧ HRel ρ' h'.heap.get w' ∧ Step ρ h.heap.get w ρ' h'.heap.get w' h.next h'.next
  | .skip h' => ∃ ρ' w', s.run P w = .ok .skip w' ∧ HRel ρ' h'.heap.get w' ∧ Step ρ h.heap.get w ρ' h'.heap.get w' h.next h'.next
  | .call f args => ∃ args', s.run P w = .ok (.enter f ⟨args'⟩) w ∧ VRs ρ args args'
  | .round l args => ∃ L args', ρ l = some L ∧ s.run P w = (Instr.yield L.φ ⟨args'⟩).run P w ∧ VRs ρ args args'
  | .dfr d => ∃ d', s.run P w = .ok (.defer d') w ∧ DR ρ d d'

def Res.next (h : Hs) : Res → Nat
  | .val _ h' | .skip h' => h'.next
  | _ => h.next

theorem ResOK.ofVal {s : Sem Value} {v : Value} {h' : Hs} (hv : ValOK P ρ h w s v h') : ResOK P ρ h w (do pure (.value (← s))) (.val v h') := by
  obtain ⟨ρ', v', w', h1, h2, h3, h4⟩ := hv
  exact ⟨ρ', v', w', by simp [h1], h2, h3, h4⟩

theorem ResOK.ofUnit {s : Sem Unit} {h' : Hs} (hv : UnitOK P ρ h w s h') : ResOK P ρ h w (do s; pure .skip) (.skip h') := by
  obtain ⟨ρ', w', h1, h3, h4⟩ := hv
  exact ⟨ρ', w', by simp [h1], h3, h4⟩

theorem ValOK.pure {s : Sem Value} {v v' : Value} (hh : HRel ρ h.heap.get w) (hs : s.run P w = .ok v' w) (hv : VR ρ v v') : ValOK P ρ h w s v h :=
  ⟨ρ, v', w, hs, hv, hh, Step.refl _ _ _ _ _⟩

/-- a new object, and a value that names it -/
theorem ValOK.new {s : Sem Value} {v v' : Value} {o : AObj} {x : Obj} {δ ψ : Nat} (hh : HRel ρ h.heap.get w) (hf : Fresh ρ h.next (h.next + 1)) (hs : s.run P w = .ok v' (w.alloc x))
    (hR : OR (ρ.set h.next ⟨w.heap.size, δ, ψ⟩) ⟨w.heap.size, δ, ψ⟩ o x) (hv : VR (ρ.set h.next ⟨w.heap.size, δ, ψ⟩) v v') : ValOK P ρ h w s v (newObjA h o) := by
  have hn : ρ h.next = none := hf _ (Nat.le_refl _) (Nat.lt_succ_self _)
  obtain ⟨h1, h2⟩ := HRel.new (H' := (newObjA h o).heap.get) hh hn hR (fun i => T.get_set _ _ _ _)
  exact ⟨_, v', _, hs, hv, h1, h2⟩

theorem blkR_of {L : Loc} {vs vs' : List Value} {c : Array Value} {cap esz elem : Nat} {exact whole : Bool} {fr : Nat × Nat} {frz : Nat} {own : Bool} (hv : VRs ρ vs vs')
    (hlen : vs.length ≤ cap) (hroom : own = true → L.δ + cap + L.ψ * esz ≤ c.size) (hc : ∀ i, i < vs.length → c[L.δ + i]? = vs'[i]?) (hex : exact = true → L.ψ = 0) (hwh : whole = true → L.δ = 0 ∧ c.size = cap)
    (h0 : frz = 0 → fr = (0, 0)) (h1 : frz = 1 → fr.2 ≤ fr.1 ∨ c.size ≤ fr.1) :
    OR ρ L (.blk { cells := vs, cap, esz, elem, exact, whole, frz, own }) (.cells c elem fr) :=
  ⟨rfl, hlen, hroom, fun i v hi => by
    have hi' : vs[i]? = some v := hi
    obtain ⟨v', hv', hR⟩ := hv.get hi'
    have hlt : i < vs.length := by
      rcases Nat.lt_or_ge i vs.length with h' | h'
      · exact h'
      · simp [List.getElem?_eq_none h'] at hi'
    exact ⟨v', by rw [hc i hlt]; exact hv', hR⟩, hex, hwh, h0, h1⟩

theorem run_newRow (elem : TypeId) (c : Array Value) : (newRow elem c).run P w = .ok ⟨w.heap.size, 0, none⟩ (w.alloc (.cells c elem)) := by
  simp [newRow]

/-- a new block of cells that is known whole -/
theorem ValOK.newBlk {s : Sem Value} {v v' : Value} {elem esz : Nat} {vs vs' : List Value} (hh : HRel ρ h.heap.get w) (hf : Fresh ρ h.next (h.next + 1)) (hv : VRs ρ vs vs')
    (hs : s.run P w = .ok v' (w.alloc (.cells ⟨vs'⟩ elem))) (hr : VR (ρ.set h.next ⟨w.heap.size, 0, 0⟩) v v') : ValOK P ρ h w s v (newBlk h elem esz vs) := by
  have hn : ρ h.next = none := hf _ (Nat.le_refl _) (Nat.lt_succ_self _)
  refine ValOK.new (δ := 0) (ψ := 0) hh hf hs (blkR_of (hv.mono (Ren.set_le _ hn)) (Nat.le_refl _) ?_ ?_ (fun _ => rfl) (fun _ => ⟨rfl, ?_⟩) (fun _ => rfl) (fun h => by cases h)) hr
  · intro _; simp [hv.length]
  · intro i _; simp
  · simp [hv.length]

theorem VR.newPtr (ρ : Ren) (b : Nat) (L : Loc) (h : L.δ = 0) : VR (ρ.set b L) (ptrTo b) (.pointer (some ⟨L.φ, 0, none⟩)) := by
  have := VR.ptr (ρ := ρ.set b L) b 0 L (Ren.set_same _ _ _)
  simpa [h, ptrTo] using this

theorem VR.newSl (ρ : Ren) (b : Nat) (L : Loc) (n c : Nat) (h : L.δ = 0) : VR (ρ.set b L) (.slice (some ⟨b, 0, none⟩) n c) (.slice (some ⟨L.φ, 0, none⟩) n (c + L.ψ)) := by
  have := VR.sl (ρ := ρ.set b L) b 0 n c L (Ren.set_same _ _ _)
  simpa [h] using this

/-! ### alloc, box -/
theorem alloc_ok {e : TypeId} {i : TypeInfo} {z : Value} (hh : HRel ρ h.heap.get w) (hf : Fresh ρ h.next (h.next + 1)) (hi : P.info? e = some i) (hz : i.zero = some z) (hp : plainV z = true) :
    ValOK P ρ h w (Instr.alloc e true (.tuple #[])) (ptrTo h.next) (newBlk h e 1 (vcells z)) := by
  refine ValOK.newBlk (v' := .pointer (some ⟨w.heap.size, 0, none⟩)) hh hf (VR.of_plain hp).cells ?_ (VR.newPtr _ _ _ rfl)
  simp [Instr.alloc, run_zeroValue' hi hz, newVar, run_newRow]

theorem box_ok {e : TypeId} {v v' : Value} (hh : HRel ρ h.heap.get w) (hf : Fresh ρ h.next (h.next + 1)) (hv : VR ρ v v') :
    ValOK P ρ h w (Instr.box e v') (ptrTo h.next) (newBlk h e 1 (vcells v)) := by
  refine ValOK.newBlk (v' := .pointer (some ⟨w.heap.size, 0, none⟩)) hh hf hv.cells ?_ (VR.newPtr _ _ _ rfl)
  simp [Instr.box, newVar, run_newRow]

/-! ### load, store -/
theorem load_ok {t : TypeId} {a a' : Value} {r : Res} (hh : HRel ρ h.heap.get w) (ha : VR ρ a a') (hr : aload P h t a = some r) : ∃ v, r = .val v h ∧ ValOK P ρ h w (Instr.loadAt t a') v h := by
  unfold aload at hr
  split at hr
  · split at hr
    · rename_i b off v hv
      cases hr
      obtain ⟨L, v', hL, hrun, hvR⟩ := readVar_sound hh hv
      cases ha with
      | sc _ hs => simp [simple] at hs
      | ptr b o L' hL' =>
        rw [hL] at hL'; cases hL'
        exact ⟨v, rfl, ValOK.pure hh (by simp [Instr.loadAt, Instr.sureAddr, hrun]) hvR⟩
    · cases hr
  · cases hr

theorem store_ok {t : TypeId} {a a' v v' : Value} {r : Res} (hh : HRel ρ h.heap.get w) (ha : VR ρ a a') (hv : VR ρ v v') (hr : astore P h t a v = some r) :
    ∃ h', r = .skip h' ∧ h'.next = h.next ∧ UnitOK P ρ h w (Instr.storeAt t a' v') h' := by
  unfold astore at hr
  split at hr
  · rename_i b off
    split at hr
    · rename_i i hi
      split at hr
      · rename_i c cs h' h1 h2 h3
        cases hr
        rw [h2] at h3 h1
        have hc := hv.cells
        rw [h2] at hc
        obtain ⟨L, w', hL, hrun, hh', hst⟩ := writeAt_sound (P := P) hh h3 hc
        have hnx : h'.next = h.next := by
          unfold writeAt at h3
          repeat' (split at h3)
          all_goals first | (cases h3; rfl) | cases h3
        cases ha with
        | sc _ hs => simp [simple] at hs
        | ptr b o L' hL' =>
          rw [hL] at hL'; cases hL'
          have hlen := hc.length
          have hsz : v'.cells.size = i.size := by
            rw [← Array.length_toList, hlen, Nat.eq_of_beq_eq_true h1]
          exact ⟨h', rfl, hnx, ρ, w', by simp [Instr.storeAt, Instr.sureAddr, storeVar, run_sizeOf' hi, hsz, hrun], hh', hst _ _⟩
      · cases hr
    · cases hr
  · cases hr

end
end Go.AV

namespace Go.AV

section
variable {P : Program} {ρ : Ren} {w : World} {h : Hs}

theorem foldl_set (off : Nat) : ∀ (l : List Value) (k : Nat) (a : Array Value), off + k + l.length ≤ a.size →
    ((l.zipIdx k).foldl (fun cs (x : Value × Nat) => cs.setIfInBounds (off + x.2) x.1) a).size = a.size ∧
    ∀ p, ((l.zipIdx k).foldl (fun cs (x : Value × Nat) => cs.setIfInBounds (off + x.2) x.1) a)[p]? = if off + k ≤ p ∧ p < off + k + l.length then l[p - (off + k)]? else a[p]?
  | [], k, a, _ => ⟨rfl, fun p => by rw [if_neg (by simp)]; rfl⟩
  | v :: l, k, a, hl => by
    simp only [List.zipIdx_cons, List.foldl_cons]
    have hi : off + k < a.size := by simp at hl; omega
    obtain ⟨h1, h2⟩ := foldl_set off l (k + 1) (a.setIfInBounds (off + k) v) (by simp at hl ⊢; omega)
    refine ⟨by rw [h1]; simp, fun p => ?_⟩
    rw [h2 p]
    by_cases hp : p = off + k
    · subst hp
      rw [if_neg (by omega), if_pos (by simp)]
      simp [hi]
    · by_cases hq : off + (k + 1) ≤ p ∧ p < off + (k + 1) + l.length
      · rw [if_pos hq, if_pos (by simp; omega), show p - (off + k) = (p - (off + (k + 1))) + 1 by omega]
        simp
      · rw [if_neg hq, if_neg (by simp; omega), Array.getElem?_setIfInBounds_ne (by omega)]

theorem fill_sound {place : Nat → Option (Nat × Nat)} : ∀ {ps ps' : List (Nat × Value)} {cells cs : List Value} {cells' : Array Value}, PRs ρ ps ps' → VRs ρ cells cells'.toList →
    fillA place cells ps = some cs → ∃ cs' : Array Value, Instr.fill place cells' ps' = some cs' ∧ VRs ρ cs cs'.toList
  | _, _, cells, cs, cells', .nil, hc, hf => by
    simp only [fillA, Option.some.injEq] at hf
    subst hf
    exact ⟨cells', rfl, hc⟩
  | _, _, cells, cs, cells', .cons i v v' l l' hv hl, hc, hf => by
    simp only [fillA] at hf
    cases hp : place i with
    | none => simp [hp] at hf
    | some x =>
      obtain ⟨off, size⟩ := x
      simp only [hp] at hf
      split at hf
      · rename_i cs1 h1 h2 h3
        have hvc := hv.cells
        have hlen : v'.cells.size = (vcells v).length := by rw [← Array.length_toList]; exact hvc.length
        have hclen : cells'.size = cells.length := by rw [← Array.length_toList]; exact hc.length
        have e1 := Nat.eq_of_beq_eq_true h1
        have e2 := Nat.le_of_ble_eq_true h2
        obtain ⟨o1, o2, o3⟩ := overwrite_spec h3
        have hfold := foldl_set off v'.cells.toList 0 cells' (by simp [hlen, hclen]; omega)
        have hnext : VRs ρ cs1 (v'.cells.zipIdx.foldl (fun cs (x : Value × Nat) => cs.setIfInBounds (off + x.2) x.1) cells').toList := by
          rw [← Array.foldl_toList, Array.toList_zipIdx]
          refine VRs.of_get ?_ fun p u hu => ?_
          · rw [Array.length_toList, hfold.1, hclen, o2]; omega
          · rw [Array.getElem?_toList, hfold.2 p]
            rw [o3 p] at hu
            by_cases hq : off ≤ p ∧ p < off + (vcells v).length
            · rw [if_pos hq] at hu
              rw [if_pos (by rw [Array.length_toList, hlen]; omega)]
              simpa using hvc.get hu
            · rw [if_neg hq] at hu
              rw [if_neg (by rw [Array.length_toList, hlen]; omega)]
              simpa using hc.get hu
        obtain ⟨cs', hcs', hR⟩ := fill_sound hl hnext hf
        refine ⟨cs', ?_, hR⟩
        simp only [Instr.fill, hp]
        rw [if_neg (by simp [hlen, hclen, e1]; omega)]
        exact hcs'
      · cases hf

theorem run_placesA : ∀ {fs : List Field} {pl : List (Nat × Nat)}, placesA P fs = some pl → (fs.mapM fun f => Prod.mk f.offset <$> sizeOf f.type).run P w = .ok pl w
  | [], pl, hp => by simp only [placesA, Option.some.injEq] at hp; subst hp; simp
  | f :: fs, pl, hp => by
    simp only [placesA] at hp
    split at hp
    · rename_i i hi
      split at hp
      · rename_i r hr
        cases hp
        simp [List.mapM_cons, run_sizeOf' hi, run_placesA hr]
      · cases hp
    · cases hp

theorem build_ok {tm : Tm} {n : Nat} {a : Act} (ht : TR ρ tm n a.tmps) {t : TypeId} {parts : Array (Nat × Operand)} {r : Res} (hh : HRel ρ h.heap.get w) (hr : abuild P tm h t parts.toList = some r) :
    ∃ v, r = .val v h ∧ ValOK P ρ h w (Instr.build t (parts.map fun (i, x) => (i, a.eval x))) v h := by
  unfold abuild at hr
  split at hr
  · rename_i ps ti d hps hti hd
    have hpr := evParts_sound ht hps
    split at hr
    · rename_i z fields hz
      split at hr
      · rename_i pl hpz hpl
        split at hr
        · rename_i cs hcs
          cases hr
          obtain ⟨cs', h1, h2⟩ := fill_sound hpr (VR.of_plain hpz (ρ := ρ)).cells hcs
          have hpe : nth pl = fun i => pl[i]? := funext fun i => by rw [nth_spec]
          rw [hpe] at h1
          refine ⟨_, rfl, ValOK.pure hh ?_ (.agg cs cs'.toList h2)⟩
          simp [Instr.build, run_zeroValue' hti hz, run_underlying' hd, Array.mapM_eq_mapM_toList, run_placesA hpl, h1]
        · cases hr
      · cases hr
    · rename_i z ln e hz
      split at hr
      · rename_i ei hpz hei
        split at hr
        · rename_i cs hcs
          cases hr
          obtain ⟨cs', h1, h2⟩ := fill_sound hpr (VR.of_plain hpz (ρ := ρ)).cells hcs
          refine ⟨_, rfl, ValOK.pure hh ?_ (.agg cs cs'.toList h2)⟩
          simp [Instr.build, run_zeroValue' hti hz, run_underlying' hd, run_sizeOf' hei, h1]
        · cases hr
      · cases hr
    · cases hr
  · cases hr

theorem rep_len {α : Type} : ∀ (n : Nat) (l : List α), (rep n l).length = n * l.length
  | 0, l => by simp [rep]
  | n + 1, l => by simp [rep, rep_len n l, Nat.add_mul]; omega

theorem rep_get : ∀ (n : Nat) (l : List Value) (i : Nat), i < n * l.length → (rep n l)[i]? = l[i % l.length]?
  | 0, l, i, h => by simp at h
  | n + 1, l, i, h => by
    simp only [rep]
    by_cases hi : i < l.length
    · rw [List.getElem?_append_left hi, Nat.mod_eq_of_lt hi]
    · rw [List.getElem?_append_right (by omega), rep_get n l (i - l.length) (by rw [Nat.add_mul] at h; omega)]
      rw [Nat.mod_eq_sub_mod (a := i) (by omega)]

/-- n zero elements, as the model lays them -/
theorem zeros_eq (n : Nat) (z : Value) (s : Nat) (hs : z.cells.size = s) (hs0 : s ≠ 0 ∨ n = 0) :
    ((Array.range (n * s)).map (z.cells[· % z.cells.size]!)) = (rep n z.cells.toList).toArray := by
  apply Array.ext'
  apply List.ext_getElem?
  intro i
  rw [Array.getElem?_toList]
  by_cases hi : i < n * s
  · have hz : 0 < s := by rcases hs0 with h | h <;> (try subst h) <;> omega
    have hlt : i % s < s := Nat.mod_lt _ hz
    have e1 : (rep n z.cells.toList)[i]? = z.cells.toList[i % z.cells.toList.length]? := rep_get n _ i (by rw [Array.length_toList, hs]; exact hi)
    simp only [Array.getElem?_map, Array.getElem?_range, hi, if_true, Option.map_some, e1, Array.length_toList, hs]
    rw [Array.getElem?_toList, Array.getElem?_eq_getElem (by omega)]
    rw [getElem!_pos _ _ (by omega)]
  · rw [Array.getElem?_eq_none (by simp; omega), List.getElem?_eq_none (by simp [rep_len, hs]; omega)]

theorem vcells_eq {v : Value} : v.cells.toList = vcells v := by cases v <;> rfl

theorem buildSlice_ok {tm : Tm} {n : Nat} {a : Act} (ht : TR ρ tm n a.tmps) {t : TypeId} {len : Nat} {parts : Array (Nat × Operand)} {r : Res} (hh : HRel ρ h.heap.get w) (hf : Fresh ρ h.next (r.next h))
    (hr : abuildSlice P tm h t len parts.toList = some r) : ∃ v h', r = .val v h' ∧ ValOK P ρ h w (Instr.buildSlice t len (parts.map fun (i, x) => (i, a.eval x))) v h' := by
  unfold abuildSlice at hr
  split at hr
  · rename_i e ps hu hps
    have hpr := evParts_sound ht hps
    split at hr
    · rename_i i hi
      split at hr
      · rename_i z hz
        split at hr
        · rename_i cs hpz hsz hle hcs
          cases hr
          have hle' := Nat.le_of_ble_eq_true hle
          have hsz' := Nat.eq_of_beq_eq_true hsz
          have hzs : z.cells.size = i.size := by rw [← Array.length_toList, vcells_eq, hsz']
          have hrep : VRs ρ (rep len (vcells z)) (rep len (vcells z)).toArray.toList := by
            have : ∀ k, VRs ρ (rep k (vcells z)) (rep k (vcells z)) := by
              intro k
              induction k with
              | zero => exact .nil
              | succ k ih =>
                refine VRs.append ?_ ih
                have := (VR.of_plain hpz (ρ := ρ)).cells
                rw [vcells_eq] at this
                exact this
            simpa using this len
          obtain ⟨cs', h1, h2⟩ := fill_sound hpr hrep hcs
          refine ⟨_, _, rfl, ValOK.newBlk (v' := .slice (some ⟨w.heap.size, 0, none⟩) len len) hh hf h2 ?_ (VR.newSl _ _ _ _ _ rfl)⟩
          have hbig : ¬ len * i.size > 2 ^ 24 := by omega
          by_cases h0 : len * i.size = 0
          · have hnil : rep len (vcells z) = [] := by
              rw [← List.length_eq_zero_iff, rep_len, hsz']; exact h0
            rw [hnil] at h1
            have hr0 : ∀ f : Nat → Value, Array.map f (Array.range 0) = #[] := fun f => by simp [Array.range]
            simp [hr0, Instr.buildSlice, run_underlying' hu, run_sizeOf' hi, h0, h1, run_newRow]
          · have hcells : ((Array.range (len * i.size)).map (z.cells[· % z.cells.size]!)) = (rep len (vcells z)).toArray := by
              rw [zeros_eq len z i.size hzs (by
                rcases Nat.eq_zero_or_pos i.size with h | h
                · rw [h] at h0; simp at h0
                · left; omega), vcells_eq]
            simp only [Instr.buildSlice, Sem.run_bind, run_underlying' hu, Result.andThen_ok, run_sizeOf' hi, if_neg hbig, if_neg h0, run_zeroValue' hi hz, Sem.run_pure, hcells]
            simp [h1, run_newRow]
        · cases hr
      · cases hr
    · cases hr
  · cases hr

theorem partA_sound {t : TypeId} {cs : List Value} {cs' : List Value} {off : Nat} {v : Value} (hc : VRs ρ cs cs') (hp : partA P t cs off = some v) :
    ∃ v', (part t ⟨cs'⟩ off).run P w = .ok v' w ∧ VR ρ v v' := by
  unfold partA at hp
  split at hp
  · rename_i d hd
    split at hp
    · rename_i hag
      split at hp
      · rename_i i hi
        cases hp
        refine ⟨.agg (Array.extract ⟨cs'⟩ off (off + i.size)), by simp [part, run_isAgg' hd, hag, run_sizeOf' hi], ?_⟩
        have e : ∀ l : List Value, (Array.extract ⟨l⟩ off (off + i.size)) = ⟨(l.drop off).take i.size⟩ := fun l => by
          apply Array.ext'
          simp [List.extract]
        rw [e, e]
        refine .agg _ _ (VRs.of_get (by simp [hc.length]) fun j u hj => ?_)
        have hjs : j < i.size := by
          rcases Nat.lt_or_ge j i.size with h' | h'
          · exact h'
          · rw [List.getElem?_take_eq_none h'] at hj; cases hj
        rw [List.getElem?_take_of_lt hjs, List.getElem?_drop] at hj ⊢
        exact hc.get hj
      · cases hp
    · rename_i hag
      rw [nth_spec] at hp
      obtain ⟨v', h1, h2⟩ := hc.get hp
      refine ⟨v', ?_, h2⟩
      simp [part, run_isAgg' hd, hag, h1]
  · cases hp

theorem field_ok {t : TypeId} {x x' : Value} {f : Nat} {r : Res} (hh : HRel ρ h.heap.get w) (hx : VR ρ x x') (hr : afield P h t x f = some r) : ∃ v, r = .val v h ∧ ValOK P ρ h w (Instr.field t x' f) v h := by
  unfold afield at hr
  split at hr
  · rename_i fields cs hu
    split at hr
    · rename_i fd hfd
      split at hr
      · rename_i v hv
        cases hr
        cases hx with
        | sc _ hs => simp [simple] at hs
        | agg a a' hc =>
          obtain ⟨v', h1, h2⟩ := partA_sound (P := P) (w := w) hc hv
          have hfd' : fields[f]? = some fd := by rw [← hfd, fieldOf, nth_spec, Array.getElem?_toList]
          exact ⟨v, rfl, ValOK.pure hh (by simp [Instr.field, run_underlying' hu, hfd', asAgg, h1]) h2⟩
      · cases hr
    · cases hr
  · cases hr

theorem fieldAddr_ok {t : TypeId} {x x' : Value} {f : Nat} {r : Res} (hh : HRel ρ h.heap.get w) (hx : VR ρ x x') (hr : afieldAddr P h t x f = some r) : ∃ v, r = .val v h ∧ ValOK P ρ h w (Instr.fieldAt t x' f) v h := by
  unfold afieldAddr at hr
  split at hr
  · rename_i fields a hu
    split at hr
    · rename_i fd hfd hsp
      split at hr
      · rename_i i hi
        split at hr
        · cases hr
        · rename_i m hm
          cases hr
          cases hx with
          | sc _ hs => simp [simple] at hs
          | ptr b o L hL =>
            have hfd' : fields[f]? = some fd := by rw [← hfd, fieldOf, nth_spec, Array.getElem?_toList]
            refine ⟨_, rfl, ValOK.pure hh (v' := .pointer (some ⟨L.φ, L.δ + o + fd.offset, none⟩)) ?_ ?_⟩
            · simp [Instr.fieldAt, run_underlying' hu, hfd', Instr.sureAddr, fieldPlace, run_sizeOf' hi, hm, addr_add]
            · have := VR.ptr (ρ := ρ) b (o + fd.offset) L hL
              rw [Nat.add_assoc]; exact this
      · cases hr
    · cases hr
  · cases hr

theorem extract_ok {x x' : Value} {i : Nat} {r : Res} (hh : HRel ρ h.heap.get w) (hx : VR ρ x x') (hr : aextract h x i = some r) : ∃ v, r = .val v h ∧ ValOK P ρ h w (Instr.extract x' i) v h := by
  unfold aextract at hr
  split at hr
  · rename_i vs
    split at hr
    · rename_i v hv
      cases hr
      rw [nth_spec] at hv
      cases hx with
      | sc _ hs => simp [simple] at hs
      | tuple a a' hc =>
        obtain ⟨v', h1, h2⟩ := hc.get hv
        exact ⟨v, rfl, ValOK.pure hh (by simp [Instr.extract, h1]) h2⟩
    · cases hr
  · cases hr

theorem indexAddr_ok {t : TypeId} {x x' i i' : Value} {r : Res} (hh : HRel ρ h.heap.get w) (hx : VR ρ x x') (hi : VR ρ i i') (hr : aindexAddr P h t x i = some r) : ∃ v, r = .val v h ∧ ValOK P ρ h w (Instr.indexAt t x' i') v h := by
  unfold aindexAddr at hr
  split at hr
  · rename_i n e a k j hu
    split at hr
    · rename_i ei hei hsp hlt
      cases hr
      cases hi with
      | sc _ _ =>
        cases hx with
        | sc _ hs => simp [simple] at hs
        | ptr b o L hL =>
          have hlt' : j < n := by simpa [Nat.blt_eq] using hlt
          refine ⟨_, rfl, ValOK.pure hh (v' := .pointer (some ⟨L.φ, L.δ + o + j * ei.size, none⟩)) ?_ ?_⟩
          · simp [Instr.indexAt, asIntOf, run_underlying' hu, Instr.sureAddr, run_sizeOf' hei, addr_add, hlt']
          · have := VR.ptr (ρ := ρ) b (o + j * ei.size) L hL
            rw [Nat.add_assoc]; exact this
    · cases hr
  · rename_i e a n c k j hu
    split at hr
    · rename_i ei hei hsp hlt
      cases hr
      cases hi with
      | sc _ _ =>
        cases hx with
        | sc _ hs => exact absurd hsp (simple_sl hs).1
        | es _ _ hs => exact absurd hsp hs
        | sl b o m c L hL =>
          have hlt' : j < n := by simpa [Nat.blt_eq] using hlt
          refine ⟨_, rfl, ValOK.pure hh (v' := .pointer (some ⟨L.φ, L.δ + o + j * ei.size, none⟩)) ?_ ?_⟩
          · simp [Instr.indexAt, asIntOf, run_underlying' hu, run_sizeOf' hei, addr_add, hlt']
          · have := VR.ptr (ρ := ρ) b (o + j * ei.size) L hL
            rw [Nat.add_assoc]; exact this
    · cases hr
  · cases hr

theorem byteArray_get (s : ByteArray) (i : Nat) : s[i]? = s.data.toList[i]? := by
  rw [Array.getElem?_toList]
  simp only [getElem?_def]
  rfl

theorem index_ok {t : TypeId} {x x' i i' : Value} {r : Res} (hh : HRel ρ h.heap.get w) (hx : VR ρ x x') (hi : VR ρ i i') (hr : aindex P h t x i = some r) : ∃ v, r = .val v h ∧ ValOK P ρ h w (Instr.index t x' i') v h := by
  unfold aindex at hr
  split at hr
  · rename_i n e cs k j hu
    split at hr
    · rename_i ei hei hlt
      split at hr
      · rename_i v hv
        cases hr
        cases hi with
        | sc _ _ =>
          cases hx with
          | sc _ hs => simp [simple] at hs
          | agg a a' hc =>
            obtain ⟨v', h1, h2⟩ := partA_sound (P := P) (w := w) hc hv
            have hlt' : j < n := by simpa [Nat.blt_eq] using hlt
            exact ⟨v, rfl, ValOK.pure hh (by simp [Instr.index, asIntOf, run_underlying' hu, run_sizeOf' hei, hlt', h1]) h2⟩
      · cases hr
    · cases hr
  · rename_i s k j hu
    split at hr
    · rename_i b hb
      cases hr
      cases hi with
      | sc _ _ =>
        cases hx with
        | sc _ hs =>
          rw [nth_spec] at hb
          refine ⟨_, rfl, ValOK.pure hh (v' := .int .u8 b.toNat) ?_ (.sc _ rfl)⟩
          have hb' : s[j]? = some b := by rw [byteArray_get]; exact hb
          simp [Instr.index, asIntOf, run_underlying' hu, hb']
    · cases hr
  · cases hr

end
end Go.AV

namespace Go.AV

section
variable {P : Program} {ρ : Ren} {w : World} {h : Hs}

theorem boundV_sound {v : Value} {hi i : Nat} (hb : boundV v hi = some i) : (∃ k, v = .int k (i : Int)) ∧ i ≤ hi := by
  unfold boundV at hb
  split at hb
  · split at hb
    · rename_i h; cases hb; exact ⟨⟨_, rfl⟩, Nat.le_of_ble_eq_true h⟩
    · cases hb
  · cases hb

theorem VR.int {k : IntKind} {i : Int} {x : Value} (hv : VR ρ (.int k i) x) : x = .int k i := by cases hv; rfl

theorem boundO_sound {tm : Tm} {n : Nat} {a : Act} (ht : TR ρ tm n a.tmps) {o : Operand} {d hi i : Nat} (hb : boundO tm (some o) d hi = some i) : (∃ k, a.eval o = .int k (i : Int)) ∧ i ≤ hi := by
  simp only [boundO] at hb
  split at hb
  · rename_i v hv
    obtain ⟨⟨k, rfl⟩, hle⟩ := boundV_sound hb
    exact ⟨⟨k, (ev_sound ht hv).int⟩, hle⟩
  · cases hb

theorem boundO_none {tm : Tm} {d hi i : Nat} (hb : boundO tm none d hi = some i) : i = d ∧ d ≤ hi := by
  simp only [boundO] at hb
  split at hb
  · rename_i h; cases hb; exact ⟨rfl, Nat.le_of_ble_eq_true h⟩
  · cases hb

theorem boundO_le {tm : Tm} {n : Nat} {a : Act} (ht : TR ρ tm n a.tmps) {o : Option Operand} {d hi i : Nat} (hb : boundO tm o d hi = some i) : i ≤ hi := by
  cases o with
  | none => obtain ⟨rfl, h⟩ := boundO_none hb; exact h
  | some o => exact (boundO_sound ht hb).2

theorem run_sliceBound {k : IntKind} {i y : Nat} (c : BoundsCode) (hle : i ≤ y) : (Instr.sliceBound (.int k (i : Int)) y c).run P w = .ok i w := by
  simp [Instr.sliceBound, asIntOf]
  omega

/-- s[lo:hi] -/
theorem run_bounds {tm : Tm} {n : Nat} {a : Act} (ht : TR ρ tm n a.tmps) {lo hi : Option Operand} {len top cap l hh : Nat} (b : Bool) (h1 : boundO tm hi len top = some hh) (h2 : boundO tm lo 0 hh = some l) (hle : top ≤ cap) :
    (Instr.sliceBounds b len cap (lo.map a.eval) (hi.map a.eval) none).run P w = .ok (l, hh, cap) w := by
  cases hi with
  | none =>
    obtain ⟨rfl, _⟩ := boundO_none h1
    cases lo with
    | none => obtain ⟨rfl, _⟩ := boundO_none h2; simp [Instr.sliceBounds]
    | some lo =>
      obtain ⟨⟨k, hk⟩, hl⟩ := boundO_sound ht h2
      simp [Instr.sliceBounds, hk, run_sliceBound _ hl]
  | some hi =>
    obtain ⟨⟨k, hk⟩, hl⟩ := boundO_sound ht h1
    cases lo with
    | none => obtain ⟨rfl, _⟩ := boundO_none h2; simp [Instr.sliceBounds, hk, run_sliceBound _ (Nat.le_trans hl hle)]
    | some lo =>
      obtain ⟨⟨k', hk'⟩, hl'⟩ := boundO_sound ht h2
      simp [Instr.sliceBounds, hk, hk', run_sliceBound _ (Nat.le_trans hl hle), run_sliceBound _ hl']

/-- s[lo:hi:max] -/
theorem run_bounds3 {tm : Tm} {n : Nat} {a : Act} (ht : TR ρ tm n a.tmps) {lo : Option Operand} {hi mx : Operand} {len top cap l hh m d d' : Nat} (b : Bool) (h0 : boundO tm (some mx) d top = some m) (h1 : boundO tm (some hi) d' m = some hh) (h2 : boundO tm lo 0 hh = some l)
    (hle : top ≤ cap) : (Instr.sliceBounds b len cap (lo.map a.eval) (some (a.eval hi)) (some (a.eval mx))).run P w = .ok (l, hh, m) w := by
  obtain ⟨⟨k0, hk0⟩, hl0⟩ := boundO_sound ht h0
  obtain ⟨⟨k, hk⟩, hl⟩ := boundO_sound ht h1
  cases lo with
  | none => obtain ⟨rfl, _⟩ := boundO_none h2; simp [Instr.sliceBounds, hk0, hk, run_sliceBound _ (Nat.le_trans hl0 hle), run_sliceBound _ hl]
  | some lo =>
    obtain ⟨⟨k', hk'⟩, hl'⟩ := boundO_sound ht h2
    simp [Instr.sliceBounds, hk0, hk, hk', run_sliceBound _ (Nat.le_trans hl0 hle), run_sliceBound _ hl, run_sliceBound _ hl']

/-- a name for a place of which nothing is known -/
theorem HRel.ext {H : HF} {b : Nat} (L : Loc) (hh : HRel ρ H w) (hb : ρ b = none) : HRel (ρ.set b L) H w ∧ Step ρ H w (ρ.set b L) H w b (b + 1) := by
  have hle := Ren.set_le (ρ := ρ) L hb
  have hsame : ∀ i o Li, H i = some o → (ρ.set b L) i = some Li → ρ i = some Li := by
    intro i o Li hi hLi
    obtain ⟨M, x, hM, _, _⟩ := hh.obj _ _ hi
    have := hle _ _ hM
    rw [hLi] at this; cases this; exact hM
  refine ⟨⟨fun i o hi => ?_, fun i j oi oj Li Lj hi hj hij hoj hLi hLj => hh.inj i j oi oj Li Lj hi hj hij hoj (hsame _ _ _ hi hLi) (hsame _ _ _ hj hLj)⟩,
    ⟨rfl, rfl, rfl, Nat.le_refl _, fun _ _ _ => rfl, fun i o Li hi ho hLi => .inl ⟨i, o, Li, hi, ho, hsame _ _ _ hi hLi, rfl⟩, fun i o Li hi hLi => .inl ⟨i, o, Li, hi, hsame _ _ _ hi hLi, rfl⟩, hle, fun i hi => Ren.set_other _ (by omega)⟩⟩
  obtain ⟨M, x, hM, hx, hR⟩ := hh.obj _ _ hi
  exact ⟨M, x, hle _ _ hM, hx, hR.mono hle⟩

/-- the old name of an owned block goes, a new one comes; the block may be written -/
theorem HRel.move {H H' : HF} {b nb : Nat} {o o' : AObj} {L L' : Loc} {x' : Obj} {w' : World} (hh : HRel ρ H w) (hb : H b = some o) (ho : o.owned = true) (hL : ρ b = some L) (hn : ρ nb = none) (hφ : L'.φ = L.φ)
    (hw : WUpd w w' L.φ x') (hR : OR (ρ.set nb L') L' o' x') (hH : ∀ i, H' i = if i = nb then some o' else if i = b then none else H i) :
    HRel (ρ.set nb L') H' w' ∧ Step ρ H w (ρ.set nb L') H' w' nb (nb + 1) := by
  have hle := Ren.set_le (ρ := ρ) L' hn
  have hsame : ∀ i o Li, H i = some o → (ρ.set nb L') i = some Li → ρ i = some Li := by
    intro i o Li hi hLi
    obtain ⟨M, x, hM, _, _⟩ := hh.obj _ _ hi
    have := hle _ _ hM
    rw [hLi] at this; cases this; exact hM
  refine ⟨⟨fun i oi hi => ?_, fun i j oi oj Li Lj hi hj hij hoj hLi hLj => ?_⟩, ⟨hw.os, hw.tape, hw.output, by rw [hw.size]; exact Nat.le_refl _, fun r _ hno => hw.other r fun he => hno b o L hb ho hL he.symm, ?_, ?_, hle, fun i hi => Ren.set_other _ (by omega)⟩⟩
  · rw [hH] at hi
    split at hi
    · rename_i he; subst he; cases hi; exact ⟨L', x', Ren.set_same _ _ _, by rw [hφ]; exact hw.at_, hR⟩
    · split at hi
      · cases hi
      · rename_i hne
        obtain ⟨M, x, hM, hx, hRx⟩ := hh.obj _ _ hi
        exact ⟨M, x, hle _ _ hM, by rw [hw.other _ (hh.inj i b oi o M L hi hb hne ho hM hL)]; exact hx, hRx.mono hle⟩
  · rw [hH] at hi hj
    split at hi
    · rename_i he; subst he; cases hi
      rw [if_neg (fun h => hij h.symm)] at hj
      split at hj
      · cases hj
      · rename_i hne
        rw [Ren.set_same] at hLi; cases hLi
        rw [hφ]
        exact fun he => hh.inj j b oj o Lj L hj hb hne ho (hsame _ _ _ hj hLj) hL he.symm
    · rename_i hni
      split at hi
      · cases hi
      · rename_i hne
        split at hj
        · rename_i he; subst he; cases hj
          rw [Ren.set_same] at hLj; cases hLj
          rw [hφ]
          exact hh.inj i b oi o Li L hi hb hne ho (hsame _ _ _ hi hLi) hL
        · split at hj
          · cases hj
          · exact hh.inj i j oi oj Li Lj hi hj hij hoj (hsame _ _ _ hi hLi) (hsame _ _ _ hj hLj)
  · intro i oi Li hi ho' hLi
    rw [hH] at hi
    split at hi
    · rename_i he; subst he; rw [Ren.set_same] at hLi; cases hLi; exact .inl ⟨b, o, L, hb, ho, hL, hφ.symm⟩
    · split at hi
      · cases hi
      · exact .inl ⟨i, oi, Li, hi, ho', hsame _ _ _ hi hLi, rfl⟩
  · intro i oi Li hi hLi
    rw [hH] at hi
    split at hi
    · rename_i he; subst he; rw [Ren.set_same] at hLi; cases hLi; exact .inl ⟨b, o, L, hb, hL, hφ.symm⟩
    · split at hi
      · cases hi
      · exact .inl ⟨i, oi, Li, hi, hsame _ _ _ hi hLi, rfl⟩

theorem WUpd.self {r : Nat} {x : Obj} (hx : w.heap[r]? = some x) : WUpd w w r x := ⟨rfl, rfl, rfl, rfl, fun _ _ => rfl, hx⟩

theorem sliceStr_ok {tm : Tm} {n : Nat} {a : Act} (ht : TR ρ tm n a.tmps) {xt : TypeId} {s : ByteArray} {lo hi : Option Operand} {v : Value} (hu : P.underlying xt = some .string) (hr : sliceStr tm s lo hi = some v) (hh : HRel ρ h.heap.get w) :
    ValOK P ρ h w (Instr.sliceAt xt (.string s) (lo.map a.eval) (hi.map a.eval) none) v h := by
  unfold sliceStr at hr
  split at hr
  · rename_i hh' h1
    split at hr
    · rename_i l h2
      cases hr
      have := run_bounds (P := P) (w := w) ht false h1 h2 (Nat.le_refl _)
      exact ValOK.pure hh (v' := .string (s.extract l hh')) (by simp [Instr.sliceAt, Instr.slice, run_underlying' hu, this]) (.sc _ rfl)
    · cases hr
  · cases hr

theorem blk_of_or {L : Loc} {k : Blk} {x : Obj} (hR : OR ρ L (.blk k) x) : ∃ c fr, x = .cells c k.elem fr ∧ BlkR ρ L k c k.elem fr := by
  cases x <;> simp only [OR] at hR <;> first | exact hR.elim | skip
  rename_i c e fr
  have := hR.elem; subst this
  exact ⟨c, fr, rfl, hR⟩

theorem sliceSl_ok {tm : Tm} {n : Nat} {a : Act} (ht : TR ρ tm n a.tmps) {xt e : TypeId} {i : TypeInfo} {ao : Option Addr} {len cap : Nat} {v' : Value} {lo hi mx : Option Operand} {r : Res} (hu : P.underlying xt = some (.slice e)) (hi' : P.info? e = some i)
    (hx : VR ρ (.slice ao len cap) v') (hh : HRel ρ h.heap.get w) (hf : Fresh ρ h.next (r.next h)) (hr : sliceSl h tm i.size ao len cap lo hi mx = some r) :
    ∃ v h', r = .val v h' ∧ ValOK P ρ h w (Instr.sliceAt xt v' (lo.map a.eval) (hi.map a.eval) (mx.map a.eval)) v h' := by
  unfold sliceSl at hr
  split at hr
  · -- nil, two indexes
    split at hr
    · rename_i hh' h1
      split at hr
      · rename_i l h2
        cases hr
        cases hx with
        | sc _ _ =>
          have hb := run_bounds (P := P) (w := w) ht true h1 h2 (Nat.le_refl _)
          refine ⟨_, _, rfl, ValOK.pure hh (v' := .slice none (hh' - l) (0 - l)) ?_ (.sc _ rfl)⟩
          simp [Instr.sliceAt, Instr.slice, run_underlying' hu, hb, run_sizeOf' hi']
      · cases hr
    · cases hr
  · -- two indexes
    rename_i ad
    split at hr
    · rename_i k hh' hsp hk h1
      split at hr
      · rename_i l h2
        have hl1 := boundO_le ht h1
        have hl2 := boundO_le ht h2
        cases hx with
        | sc _ hs => exact absurd hsp (simple_sl hs).1
        | es _ _ hs => exact absurd hsp hs
        | sl b o _ _ L hL =>
          have hb := run_bounds (P := P) (w := w) (cap := cap + L.ψ) ht true h1 h2 (Nat.le_add_right _ _)
          split at hr
          · rename_i hne
            cases hr
            have hne' : cap ≠ l := by intro he; subst he; simp at hne
            refine ⟨_, _, rfl, ValOK.pure hh (v' := .slice (some ⟨L.φ, L.δ + o + l * i.size, none⟩) (hh' - l) (cap + L.ψ - l)) ?_ ?_⟩
            · simp [Instr.sliceAt, Instr.slice, run_underlying' hu, hb, run_sizeOf' hi', show ¬ cap + L.ψ = l by omega, addr_add]
            · have := VR.sl (ρ := ρ) b (o + l * i.size) (hh' - l) (cap - l) L hL
              rw [show cap - l + L.ψ = cap + L.ψ - l by omega, ← Nat.add_assoc] at this
              exact this
          · rename_i heq
            have heq' : cap = l := Nat.eq_of_beq_eq_true heq
            split at hr
            · rename_i hex
              cases hr
              obtain ⟨L0, x, hL0, hx0, hR⟩ := hh.obj _ _ hk
              rw [hL] at hL0; cases hL0
              obtain ⟨c, fr, rfl, hR⟩ := blk_of_or hR
              have hψ := hR.exact hex
              refine ⟨_, _, rfl, ValOK.pure hh (v' := .slice (some ⟨L.φ, L.δ + o, none⟩) (hh' - l) (cap + L.ψ - l)) ?_ ?_⟩
              · simp only [Instr.sliceAt, Instr.slice, Sem.run_bind, run_underlying' hu, Result.andThen_ok, Option.map_none, hb, run_sizeOf' hi', Sem.run_pure]
                rw [if_pos (by omega)]
              · have := VR.sl (ρ := ρ) b o (hh' - l) (cap - l) L hL
                rw [show cap - l + L.ψ = cap + L.ψ - l by omega] at this
                exact this
            · split at hr
              · rename_i hown hfz hends
                cases hr
                simp only [Bool.and_eq_true] at hends
                have hn : ρ h.next = none := hf _ (Nat.le_refl _) (Nat.lt_succ_self _)
                have hc1 := Nat.eq_of_beq_eq_true hends.1.1
                have hc2 := Nat.eq_of_beq_eq_true hends.1.2
                obtain ⟨L0, x, hL0, hx0, hR⟩ := hh.obj _ _ hk
                rw [hL] at hL0; cases hL0
                obtain ⟨c, fr, rfl, hR⟩ := blk_of_or hR
                have hroom := hR.room hown
                have z1 : hh' - l = 0 := by omega
                have z2 : cap + L.ψ - l = L.ψ := by omega
                have hOR : OR (ρ.set h.next ⟨L.φ, if cap + L.ψ = l then L.δ + o else L.δ + o + l * i.size, L.ψ⟩) ⟨L.φ, if cap + L.ψ = l then L.δ + o else L.δ + o + l * i.size, L.ψ⟩ (.blk { cells := [], cap := 0, esz := i.size, elem := k.elem, exact := false, whole := false, frz := 0, own := true }) (.cells c k.elem fr) := by
                  refine ⟨rfl, Nat.le_refl _, fun _ => ?_, fun j v hj => ?_, fun h => ?_, fun h => ?_, fun _ => hR.frz0 hfz, fun h => ?_⟩
                  · show (if cap + L.ψ = l then L.δ + o else L.δ + o + l * i.size) + 0 + L.ψ * i.size ≤ c.size
                    rw [hc2] at hroom
                    have : o + cap * i.size = k.cap := hc1
                    rw [← heq']
                    split
                    · omega
                    · omega
                  · simp at hj
                  · cases h
                  · cases h
                  · cases h
                obtain ⟨e1, e2⟩ := HRel.move (H' := ((h.heap.del b).set h.next (.blk { cells := [], cap := 0, esz := i.size, elem := k.elem, exact := false, whole := false, frz := 0, own := true })).get)
                  (L' := ⟨L.φ, if cap + L.ψ = l then L.δ + o else L.δ + o + l * i.size, L.ψ⟩) hh hk hown hL hn rfl (WUpd.self hx0) hOR (fun j => by rw [T.get_set, T.get_del])
                refine ⟨_, _, rfl, _, .slice (some ⟨L.φ, if cap + L.ψ = l then L.δ + o else L.δ + o + l * i.size, none⟩) 0 L.ψ, w, ?_, ?_, e1, e2⟩
                · simp only [Instr.sliceAt, Instr.slice, Sem.run_bind, run_underlying' hu, Result.andThen_ok, Option.map_none, hb, run_sizeOf' hi', Sem.run_pure, z1, z2]
                  by_cases hz : cap + L.ψ = l
                  · rw [if_pos hz, if_pos hz]
                  · rw [if_neg hz, if_neg hz]; simp [addr_add]
                · have := VR.sl (ρ := ρ.set h.next (⟨L.φ, if cap + L.ψ = l then L.δ + o else L.δ + o + l * i.size, L.ψ⟩ : Loc)) h.next 0 0 0 _ (Ren.set_same _ _ _)
                  simpa using this
              · cases hr
                have hn : ρ h.next = none := hf _ (Nat.le_refl _) (Nat.lt_succ_self _)
                obtain ⟨e1, e2⟩ := HRel.ext (⟨L.φ, if cap + L.ψ = l then L.δ + o else L.δ + o + l * i.size, L.ψ⟩ : Loc) hh hn
                refine ⟨_, _, rfl, _, .slice (some ⟨L.φ, if cap + L.ψ = l then L.δ + o else L.δ + o + l * i.size, none⟩) 0 L.ψ, w, ?_, ?_, e1, e2⟩
                · have z1 : hh' - l = 0 := by omega
                  have z2 : cap + L.ψ - l = L.ψ := by omega
                  simp only [Instr.sliceAt, Instr.slice, Sem.run_bind, run_underlying' hu, Result.andThen_ok, Option.map_none, hb, run_sizeOf' hi', Sem.run_pure, z1, z2]
                  by_cases hz : cap + L.ψ = l
                  · rw [if_pos hz, if_pos hz]
                  · rw [if_neg hz, if_neg hz]; simp [addr_add]
                · have := VR.sl (ρ := ρ.set h.next (⟨L.φ, if cap + L.ψ = l then L.δ + o else L.δ + o + l * i.size, L.ψ⟩ : Loc)) h.next 0 0 0 _ (Ren.set_same _ _ _)
                  simpa using this
      · cases hr
    · cases hr
  · -- three indexes
    rename_i ad mo
    split at hr
    · rename_i m h0
      split at hr
      · rename_i hh' hio h1
        split at hr
        · rename_i l h2
          have hl0 := boundO_le ht h0
          have hl1 := boundO_le ht h1
          have hl2 := boundO_le ht h2
          split at hr
          · rename_i hml
            cases hr
            have hml' : m = l := Nat.eq_of_beq_eq_true hml
            have z1 : hh' - l = 0 := by omega
            have z2 : m - l = 0 := by omega
            have go : ∀ (a' : Addr) (c' : Nat), cap ≤ c' → v' = .slice (some a') len c' → ∃ v h', Res.val emptyS h = .val v h' ∧ ValOK P ρ h w (Instr.sliceAt xt v' (lo.map a.eval) ((some hio).map a.eval) ((some mo).map a.eval)) v h' := by
              intro a' c' hc hv
              subst hv
              have hb := run_bounds3 (P := P) (w := w) (len := len) (cap := c') ht true h0 h1 h2 hc
              refine ⟨_, _, rfl, ValOK.pure hh (v' := .slice (some (if m = l then a' else a'.add (l * i.size))) 0 0) ?_ (.es _ _ (by simp))⟩
              simp only [Instr.sliceAt, Instr.slice, Sem.run_bind, run_underlying' hu, Result.andThen_ok, Option.map_some, hb, run_sizeOf' hi', Sem.run_pure, z1, z2]
              by_cases hz : m = l
              · rw [if_pos hz]; congr 3; simp [hz]
              · exact absurd hml' hz
            cases hx with
            | sc _ hs => exact go _ _ (Nat.le_refl _) rfl
            | es _ _ hs => exact go _ _ (Nat.le_refl _) rfl
            | sl b o _ _ L hL => exact go _ _ (Nat.le_add_right _ _) rfl
          · split at hr
            · rename_i k hsp hk
              split at hr
              · rename_i hhm hown
                split at hr
                · rename_i cs hcs
                  cases hr
                  have hhm' : hh' = m := Nat.eq_of_beq_eq_true hhm
                  subst hhm'
                  cases hx with
                  | sc _ hs => exact absurd hsp (simple_sl hs).1
                  | es _ _ hs => exact absurd hsp hs
                  | sl b o _ _ L hL =>
                    have hb := run_bounds3 (P := P) (w := w) (len := len) (cap := cap + L.ψ) ht true h0 h1 h2 (Nat.le_add_right _ _)
                    have hn : ρ h.next = none := hf _ (Nat.le_refl _) (Nat.lt_succ_self _)
                    obtain ⟨L0, x, hL0, hx0, hR⟩ := hh.obj _ _ hk
                    rw [hL] at hL0; cases hL0
                    obtain ⟨c, fr, rfl, hR⟩ := blk_of_or hR
                    obtain ⟨cs', c1, c2, c3⟩ := hR.cellsAt hx0 hcs
                    -- where the new name begins
                    obtain ⟨δ', hδ⟩ : ∃ δ', δ' = if hh' = l then L.δ + o else L.δ + (o + l * i.size) := ⟨_, rfl⟩
                    have hlen := (takeN_spec hcs).1
                    have hget : ∀ j, j < (hh' - l) * i.size → cs[j]? = k.cells[o + l * i.size + j]? := fun j hj => by
                      rw [(takeN_spec hcs).2 j hj, dropN_spec, List.getElem?_drop]
                    have hOR : OR (ρ.set h.next ⟨L.φ, δ', 0⟩) ⟨L.φ, δ', 0⟩ (.blk { k with cells := cs, cap := (hh' - l) * i.size, esz := i.size, exact := true, whole := false, own := nonNil cs }) (.cells c k.elem fr) := by
                      refine ⟨rfl, by show cs.length ≤ _; rw [hlen]; exact Nat.le_refl _, fun ho => ?_, fun j v hj => ?_, fun _ => rfl, (fun h => by cases h), hR.frz0, hR.frz1⟩
                      · show δ' + (hh' - l) * i.size + 0 * i.size ≤ c.size
                        cases hc0 : cs with
                        | nil => have ho' : nonNil cs = true := ho; rw [hc0] at ho'; cases ho'
                        | cons c0 cr =>
                          have hpos : 0 < (hh' - l) * i.size := by rw [← hlen, hc0]; simp
                          have hne : hh' ≠ l := by rintro rfl; simp at hpos
                          have h1 := hget ((hh' - l) * i.size - 1) (by omega)
                          have h2 : cs[(hh' - l) * i.size - 1]? ≠ none := by simp; omega
                          rw [h1] at h2
                          have h3 : o + l * i.size + ((hh' - l) * i.size - 1) < k.cells.length := by simpa using h2
                          have h4 := hR.len
                          have h5 := hR.room hown
                          rw [hδ, if_neg hne]
                          omega
                      · have hj' : cs[j]? = some v := hj
                        have hjl : j < (hh' - l) * i.size := by
                          rw [← hlen]
                          rcases Nat.lt_or_ge j cs.length with h' | h'
                          · exact h'
                          · simp [List.getElem?_eq_none h'] at hj'
                        have hne : hh' ≠ l := by rintro rfl; simp at hjl
                        rw [hget j hjl] at hj'
                        obtain ⟨u, hu1, hu2⟩ := hR.cell _ _ hj'
                        refine ⟨u, ?_, hu2.mono (Ren.set_le _ hn)⟩
                        show c[δ' + j]? = some u
                        rw [hδ, if_neg hne, show L.δ + (o + l * i.size) + j = L.δ + (o + l * i.size + j) by omega]
                        exact hu1
                    obtain ⟨e1, e2⟩ := HRel.move (H' := ((h.heap.del b).set h.next (.blk { k with cells := cs, cap := (hh' - l) * i.size, esz := i.size, exact := true, whole := false, own := nonNil cs })).get)
                      (L' := ⟨L.φ, δ', 0⟩) hh hk hown hL hn rfl (WUpd.self hx0) hOR (fun j => by rw [T.get_set, T.get_del])
                    refine ⟨_, _, rfl, _, .slice (some ⟨L.φ, δ', none⟩) (hh' - l) (hh' - l), w, ?_, ?_, e1, e2⟩
                    · simp only [Instr.sliceAt, Instr.slice, Sem.run_bind, run_underlying' hu, Result.andThen_ok, Option.map_some, hb, run_sizeOf' hi', Sem.run_pure]
                      congr 3
                      rw [hδ]
                      split
                      · rfl
                      · simp [addr_add, Nat.add_assoc]
                    · have := VR.sl (ρ := ρ.set h.next ⟨L.φ, δ', 0⟩) h.next 0 (hh' - l) (hh' - l) _ (Ren.set_same _ _ _)
                      simpa using this
                · cases hr
              · cases hr
            · cases hr
        · cases hr
      · cases hr
    · cases hr
  · rename_i mo
    split at hr
    · rename_i m hio h0
      split at hr
      · rename_i hh' h1
        split at hr
        · rename_i l h2
          cases hr
          cases hx with
          | sc _ _ =>
            have hb := run_bounds3 (P := P) (w := w) (len := len) (cap := 0) ht true h0 h1 h2 (Nat.le_refl _)
            refine ⟨_, _, rfl, ValOK.pure hh (v' := .slice none (hh' - l) (m - l)) ?_ (.sc _ rfl)⟩
            simp only [Instr.sliceAt, Instr.slice, Sem.run_bind, run_underlying' hu, Result.andThen_ok, Option.map_some, hb, run_sizeOf' hi', Sem.run_pure]
            split <;> rfl
        · cases hr
      · cases hr
    · cases hr

theorem slice_ok {tm : Tm} {n : Nat} {a : Act} (ht : TR ρ tm n a.tmps) {xt : TypeId} {x x' : Value} {lo hi mx : Option Operand} {r : Res} (hx : VR ρ x x') (hh : HRel ρ h.heap.get w) (hf : Fresh ρ h.next (r.next h))
    (hr : aslice P tm h xt x lo hi mx = some r) : ∃ v h', r = .val v h' ∧ ValOK P ρ h w (Instr.sliceAt xt x' (lo.map a.eval) (hi.map a.eval) (mx.map a.eval)) v h' := by
  unfold aslice at hr
  split at hr
  · rename_i s hu
    split at hr
    · split at hr
      · rename_i v hv
        cases hr
        cases hx with
        | sc _ _ => exact ⟨v, h, rfl, sliceStr_ok ht hu hv hh⟩
      · cases hr
    · cases hr
  · rename_i e ao len cap hu
    split at hr
    · rename_i i hi'
      exact sliceSl_ok ht hu hi' hx hh hf hr
    · cases hr
  · rename_i m e ad hu
    split at hr
    · rename_i i k hi' hsp hk
      split at hr
      · rename_i hh' hex h1
        split at hr
        · rename_i l h2
          cases hx with
          | sc _ hs => simp [simple] at hs
          | ptr b o L hL =>
            have hb := run_bounds (P := P) (w := w) ht false h1 h2 (Nat.le_refl _)
            obtain ⟨L0, x, hL0, hx0, hR⟩ := hh.obj _ _ hk
            rw [hL] at hL0; cases hL0
            obtain ⟨c, fr, rfl, hR⟩ := blk_of_or hR
            have hψ := hR.exact hex
            split at hr
            · rename_i heq
              have heq' : m = l := Nat.eq_of_beq_eq_true heq
              cases hr
              refine ⟨_, _, rfl, ValOK.pure hh (v' := .slice (some ⟨L.φ, L.δ + o, none⟩) (hh' - l) (m - l + L.ψ)) ?_ (.sl b o _ _ L hL)⟩
              simp only [Instr.sliceAt, Sem.run_bind, run_underlying' hu, Result.andThen_ok, Option.map_none, hb, run_sizeOf' hi', Sem.run_pure, Instr.sureAddr]
              rw [if_pos heq', hψ]; rfl
            · rename_i hne
              have hne' : m ≠ l := by intro he; subst he; simp at hne
              cases hr
              refine ⟨_, _, rfl, ValOK.pure hh (v' := .slice (some ⟨L.φ, L.δ + (o + l * i.size), none⟩) (hh' - l) (m - l + L.ψ)) ?_ (.sl b _ _ _ L hL)⟩
              simp only [Instr.sliceAt, Sem.run_bind, run_underlying' hu, Result.andThen_ok, Option.map_none, hb, run_sizeOf' hi', Sem.run_pure, Instr.sureAddr]
              rw [if_neg hne', hψ, addr_add, Nat.add_assoc]; rfl
        · cases hr
      · cases hr
    · cases hr
  · cases hr

end
end Go.AV

namespace Go.AV

section
variable {P : Program} {ρ : Ren} {w : World} {h : Hs}

theorem bytesV_eq : ∀ l : List UInt8, bytesV l = l.map fun b => Value.int .u8 b.toNat
  | [] => rfl
  | b :: l => by simp [bytesV, bytesV_eq l]

theorem bytesV_VRs (l : List UInt8) : VRs ρ (bytesV l) (bytesV l) := by
  induction l with
  | nil => exact .nil
  | cons b l ih => exact .cons _ _ _ _ (.sc _ rfl) ih

theorem firstC_sound {size n : Nat} {x x' : Value} {cs : List Value} (hh : HRel ρ h.heap.get w) (hx : VR ρ x x') (hc : firstC h size n x = some cs) :
    ∃ cs', (∀ w1 : World, w1.heap = w.heap → (Builtin.firstCells size n x').run P w1 = .ok ⟨cs'⟩ w1) ∧ VRs ρ cs cs' := by
  cases hx with
  | sc _ hs =>
    cases x <;> simp only [firstC] at hc <;> try (cases hc; done)
    · rename_i s
      split at hc
      · rename_i l hl
        cases hc
        obtain ⟨h1, h2⟩ := takeN_spec hl
        refine ⟨bytesV l, fun w1 _ => ?_, bytesV_VRs l⟩
        simp only [Builtin.firstCells, Sem.run_pure]
        congr 1
        rw [bytesV_eq]
        apply Array.ext'
        rw [Array.toList_map]
        congr 1
        have e : (s.extract 0 n).data.toList = s.data.toList.take n := by
          rw [ByteArray.data_extract]
          simp [List.extract]
        rw [e]
        apply List.ext_getElem?
        intro j
        by_cases hj : j < n
        · rw [List.getElem?_take_of_lt hj, h2 j hj]
        · rw [List.getElem?_take_eq_none (by omega), List.getElem?_eq_none (by omega)]
      · cases hc
    · rename_i a _ _
      cases a with
      | none => simp only [Option.some.injEq] at hc; subst hc; exact ⟨[], fun w1 _ => by simp [Builtin.firstCells], .nil⟩
      | some a =>
        simp only at hc
        split at hc
        · cases hc; exact ⟨[], fun w1 _ => by simp [Builtin.firstCells, loadCells, loadCellsFrom], .nil⟩
        · split at hc
          · rename_i hsp _; exact absurd hsp (simple_sl hs).1
          · cases hc
  | sl b o m c L hL =>
    simp only [firstC] at hc
    split at hc
    · cases hc; exact ⟨[], fun w1 _ => by simp [Builtin.firstCells, loadCells, loadCellsFrom], .nil⟩
    · split at hc
      · rename_i n' k hsp hk
        obtain ⟨L0, x, hL0, hx0, hR⟩ := hh.obj _ _ hk
        rw [hL] at hL0; cases hL0
        obtain ⟨c', fr, rfl, hR⟩ := blk_of_or hR
        obtain ⟨cs', h1, h2, h3⟩ := hR.cellsAt hx0 hc
        refine ⟨cs', fun w1 hw1 => ?_, h2⟩
        have hl := run_loadCells_list (P := P) w1 ⟨L.φ, L.δ + o, none⟩ cs' (fun j v hj => by
          rw [addr_add]
          have := h3 j v hj
          simp only [World.cell?] at this ⊢
          rw [hw1]; exact this)
        rw [h1] at hl
        simp only [Builtin.firstCells]; exact hl
      · cases hc
  | es a a' hs =>
    simp only [firstC] at hc
    split at hc
    · cases hc; exact ⟨[], fun w1 _ => by simp [Builtin.firstCells, loadCells, loadCellsFrom], .nil⟩
    · split at hc
      · rename_i hsp _; exact absurd hsp hs
      · cases hc
  | ptr => simp [firstC] at hc
  | map => simp [firstC] at hc
  | fn => simp [firstC] at hc
  | yield => simp [firstC] at hc
  | agg => simp [firstC] at hc
  | tuple => simp [firstC] at hc

theorem lenV_sound {x x' : Value} {n : Nat} (hx : VR ρ x x') (hc : lenV x = some n) : (Builtin.lenOf x').run P w = .ok n w := by
  cases hx with
  | sc _ hs => cases x <;> simp only [lenV] at hc <;> first | (cases hc; done) | (cases hc; simp [Builtin.lenOf])
  | sl b o m c L hL => simp only [lenV, Option.some.injEq] at hc; subst hc; simp [Builtin.lenOf]
  | es a a' hs => simp only [lenV, Option.some.injEq] at hc; subst hc; simp [Builtin.lenOf]
  | ptr => simp [lenV] at hc
  | map => simp [lenV] at hc
  | fn => simp [lenV] at hc
  | yield => simp [lenV] at hc
  | agg => simp [lenV] at hc
  | tuple => simp [lenV] at hc

end
end Go.AV
