/-
  Memory: reads, writes, new blocks, and what they are to the relation of heaps.
-/
import Derived.Test.YthecahanniaggaaAvRel
namespace Go.AV

structure WUpd (w w' : World) (r : Nat) (x : Obj) : Prop where
  os : w'.os = w.os
  tape : w'.tape = w.tape
  output : w'.output = w.output
  size : w'.heap.size = w.heap.size
  other : ∀ k, k ≠ r → w'.heap[k]? = w.heap[k]?
  at_ : w'.heap[r]? = some x

theorem WUpd.trans {a b c : World} {r : Nat} {x y : Obj} (h : WUpd a b r x) (k : WUpd b c r y) : WUpd a c r y :=
  ⟨k.os.trans h.os, k.tape.trans h.tape, k.output.trans h.output, k.size.trans h.size, fun i hi => (k.other i hi).trans (h.other i hi), k.at_⟩

theorem WUpd.setCell {w : World} {b p : Nat} {c : Array Value} {e : TypeId} {fr : Nat × Nat} (v : Value) (h : w.heap[b]? = some (.cells c e fr)) :
    WUpd w (w.setCell ⟨b, p, none⟩ v) b (.cells (c.setIfInBounds p v) e fr) := by
  refine ⟨rfl, rfl, rfl, by simp, fun k hk => ?_, ?_⟩
  · simp only [World.setCell, Array.getElem?_modify]
    rw [if_neg (by omega)]
  · simp [World.setCell, Array.getElem?_modify, h]

theorem addr_add (b o n : Nat) : (⟨b, o, none⟩ : Addr).add n = ⟨b, o + n, none⟩ := by unfold Addr.add; split <;> simp_all

theorem stores (P : Program) (b : Nat) (e : TypeId) (fr : Nat × Nat) : ∀ (vs : List Value) (o i : Nat) (c : Array Value) (w : World), w.heap[b]? = some (.cells c e fr) →
    o + i + vs.length ≤ c.size → (∀ p, o + i ≤ p → p < o + i + vs.length → ¬(fr.1 ≤ p ∧ p < fr.2)) → (∀ v ∈ vs, v.oneCell' = true) →
    ∃ w' c', (storeCells ⟨b, o, none⟩ vs i).run P w = .ok () w' ∧ WUpd w w' b (.cells c' e fr) ∧ c'.size = c.size ∧
      ∀ p, c'[p]? = if o + i ≤ p ∧ p < o + i + vs.length then vs[p - (o + i)]? else c[p]?
  | [], o, i, c, w, h, _, _, _ => ⟨w, c, rfl, ⟨rfl, rfl, rfl, rfl, fun _ _ => rfl, h⟩, rfl, fun p => by rw [if_neg (by simp)]⟩
  | v :: vs, o, i, c, w, h, hl, hf, h1 => by
    have hi : o + i < c.size := by simp at hl; omega
    have hcell : w.cell? ⟨b, o + i, none⟩ = some c[o + i] := by simp [World.cell?, h, hi]
    have hfro : w.frozen? ⟨b, o + i, none⟩ = false := by
      have := hf (o + i) (Nat.le_refl _) (by simp)
      simp only [World.frozen?, h]
      simp only [Bool.and_eq_false_imp, decide_eq_true_eq, decide_eq_false_iff_not]
      intro h1 h2; exact this ⟨h1, h2⟩
    have hst : (store ((⟨b, o, none⟩ : Addr).add i) v).run P w = .ok () (w.setCell ⟨b, o + i, none⟩ v) := by
      rw [addr_add, run_store P w _ v _ (h1 v (by simp)), hcell]
      simp [hfro]
    have hu := WUpd.setCell (p := o + i) v h
    obtain ⟨w', c', hr, hu', hs, hc⟩ := stores P b e fr vs o (i + 1) (c.setIfInBounds (o + i) v) _ hu.at_ (by simp at hl ⊢; omega)
      (fun p h1 h2 => hf p (by omega) (by simp; omega)) (fun x hx => h1 x (by simp [hx]))
    refine ⟨w', c', ?_, hu.trans hu', by simpa using hs, fun p => ?_⟩
    · simp only [storeCells, Sem.run_bind, hst, Result.andThen_ok, hr]
    · rw [hc p]
      by_cases hp : p = o + i
      · subst hp
        rw [if_neg (by omega), if_pos (by simp)]
        simp [hi]
      · by_cases hq : o + (i + 1) ≤ p ∧ p < o + (i + 1) + vs.length
        · rw [if_pos hq, if_pos (by simp; omega)]
          rw [show p - (o + i) = (p - (o + (i + 1))) + 1 by omega]
          simp
        · rw [if_neg hq, if_neg (by simp; omega)]
          rw [Array.getElem?_setIfInBounds_ne (by omega)]

/-! ### lists -/
theorem takeN_spec {α : Type} : ∀ {n : Nat} {l r : List α}, takeN n l = some r → r.length = n ∧ ∀ j, j < n → r[j]? = l[j]?
  | 0, l, r, h => by simp [takeN] at h; subst h; simp
  | n + 1, [], r, h => by simp [takeN] at h
  | n + 1, a :: l, r, h => by
    simp only [takeN] at h
    split at h
    · rename_i r' hr
      cases h
      obtain ⟨h1, h2⟩ := takeN_spec hr
      refine ⟨by simp [h1], fun j hj => ?_⟩
      cases j with
      | zero => rfl
      | succ j => simpa using h2 j (by omega)
    · cases h

theorem dropN_spec {α : Type} : ∀ (n : Nat) (l : List α), dropN n l = l.drop n
  | 0, l => rfl
  | n + 1, [] => rfl
  | n + 1, a :: l => by simp [dropN, dropN_spec n l]

theorem nth_spec {α : Type} : ∀ (l : List α) (n : Nat), nth l n = l[n]?
  | [], n => by simp [nth]
  | a :: l, 0 => rfl
  | a :: l, n + 1 => by simp [nth, nth_spec l n]

theorem overwrite_spec : ∀ {cs vs r : List Value} {n : Nat}, overwrite cs n vs = some r →
    n ≤ cs.length ∧ r.length = max cs.length (n + vs.length) ∧ ∀ p, r[p]? = if n ≤ p ∧ p < n + vs.length then vs[p - n]? else cs[p]?
  | [], vs, r, 0, h => by
    have : r = vs := by cases vs <;> (simp [overwrite] at h; first | exact h | exact h.symm)
    subst this
    refine ⟨Nat.zero_le _, by simp, fun p => ?_⟩
    by_cases hp : 0 ≤ p ∧ p < 0 + r.length
    · rw [if_pos hp]; rfl
    · rw [if_neg hp]; simp; omega
  | [], vs, r, n + 1, h => by cases vs <;> simp [overwrite] at h
  | c :: cs, [], r, 0, h => by
    simp [overwrite] at h; subst h
    refine ⟨Nat.zero_le _, by simp, fun p => by rw [if_neg (by simp)]⟩
  | c :: cs, v :: vs, r, 0, h => by
    simp only [overwrite] at h
    split at h
    · rename_i r' hr
      cases h
      obtain ⟨h1, h2, h3⟩ := overwrite_spec hr
      refine ⟨by simp, by simp [h2], fun p => ?_⟩
      cases p with
      | zero => simp
      | succ p => simpa using h3 p
    · cases h
  | c :: cs, vs, r, n + 1, h => by
    have h' : ∃ r', overwrite cs n vs = some r' ∧ c :: r' = r := by
      cases vs <;> (simp only [overwrite] at h; split at h <;> first | (rename_i r' hr; cases h; exact ⟨r', hr, rfl⟩) | cases h)
    · obtain ⟨r', hr, rfl⟩ := h'
      obtain ⟨h1, h2, h3⟩ := overwrite_spec hr
      refine ⟨by simp; omega, by simp [h2]; omega, fun p => ?_⟩
      cases p with
      | zero => simp
      | succ p =>
        simp only [List.getElem?_cons_succ, h3 p]
        by_cases hq : n ≤ p ∧ p < n + vs.length
        · rw [if_pos hq, if_pos (by omega), show p + 1 - (n + 1) = p - n by omega]
        · rw [if_neg hq, if_neg (by omega)]

/-! ### reading -/
section
variable {P : Program} {ρ : Ren} {w : World}

/-- a list of known cells, as they lie -/
theorem BlkR.cellsAt {L : Loc} {k : Blk} {c : Array Value} {e : TypeId} {fr : Nat × Nat} (h : BlkR ρ L k c e fr) (hw : w.heap[L.φ]? = some (.cells c e fr)) {n off : Nat} {cs : List Value}
    (ht : takeN n (dropN off k.cells) = some cs) : ∃ cs', cs'.length = n ∧ VRs ρ cs cs' ∧ ∀ j v, cs'[j]? = some v → w.cell? ⟨L.φ, L.δ + off + j, none⟩ = some v := by
  obtain ⟨h1, h2⟩ := takeN_spec ht
  rw [dropN_spec] at h2
  have hsz : min n (c.size - (L.δ + off)) = n := by
    cases n with
    | zero => simp
    | succ n =>
      have h3 := h2 n (by omega)
      have h4 : cs[n]? ≠ none := by simp; omega
      rw [h3, List.getElem?_drop] at h4
      obtain ⟨v, hv⟩ := Option.ne_none_iff_exists'.1 h4
      obtain ⟨v', hv', _⟩ := h.cell _ _ hv
      have := (Array.getElem?_eq_some_iff.1 hv').1
      omega
  refine ⟨(c.toList.drop (L.δ + off)).take n, ?_, ?_, ?_⟩
  · simp only [List.length_take, List.length_drop, Array.length_toList]
    exact hsz
  · refine VRs.of_get ?_ fun i v hi => ?_
    · simp only [List.length_take, List.length_drop, Array.length_toList, h1]
      exact hsz
    · have hin : i < n := by
        have : i < cs.length := by
          rcases Nat.lt_or_ge i cs.length with h' | h'
          · exact h'
          · simp [List.getElem?_eq_none h'] at hi
        omega
      rw [h2 i hin, List.getElem?_drop] at hi
      obtain ⟨v', hv', hR⟩ := h.cell _ _ hi
      refine ⟨v', ?_, hR⟩
      rw [List.getElem?_take_of_lt hin, List.getElem?_drop, Array.getElem?_toList, Nat.add_assoc]
      exact hv'
  · intro j v hj
    have hjn : j < n := by
      rcases Nat.lt_or_ge j n with h' | h'
      · exact h'
      · rw [List.getElem?_take_eq_none h'] at hj; cases hj
    rw [List.getElem?_take_of_lt hjn, List.getElem?_drop, Array.getElem?_toList] at hj
    simpa [World.cell?, hw] using hj

theorem run_underlying' {t : TypeId} {d : TypeDesc} (h : P.underlying t = some d) : (underlying t).run P w = .ok d w := by
  simp [underlying, h]

theorem run_typeInfo' {t : TypeId} {i : TypeInfo} (h : P.info? t = some i) : (typeInfo t).run P w = .ok i w := by
  simp [typeInfo, h]

theorem run_sizeOf' {t : TypeId} {i : TypeInfo} (h : P.info? t = some i) : (sizeOf t).run P w = .ok i.size w := by
  simp [sizeOf, run_typeInfo' h]

theorem run_isAgg' {t : TypeId} {d : TypeDesc} (h : P.underlying t = some d) : (isAgg t).run P w = .ok (isAggD d) w := by
  simp only [isAgg, Sem.run_bind, run_underlying' h, Result.andThen_ok]
  cases d <;> rfl

theorem run_zeroValue' {t : TypeId} {i : TypeInfo} {z : Value} (h : P.info? t = some i) (hz : i.zero = some z) : (zeroValue t).run P w = .ok z w := by
  simp [zeroValue, run_typeInfo' h, hz]

theorem readVar_sound {h : Hs} {t : TypeId} {b off : Nat} {v : Value} (hh : HRel ρ h.heap.get w) (hr : readVar P h t b off = some v) :
    ∃ L v', ρ b = some L ∧ (loadVar t ⟨L.φ, L.δ + off, none⟩).run P w = .ok v' w ∧ VR ρ v v' := by
  unfold readVar at hr
  split at hr
  · rename_i k hk
    obtain ⟨L, x, hL, hx, hR⟩ := hh.obj _ _ hk
    cases x <;> simp only [OR] at hR <;> first | exact hR.elim | skip
    rename_i c e fr
    split at hr
    · rename_i d hd
      split at hr
      · rename_i hag
        split at hr
        · rename_i i hi
          split at hr
          · rename_i cs hcs
            cases hr
            obtain ⟨cs', h1, h2, h3⟩ := hR.cellsAt hx hcs
            refine ⟨L, .agg ⟨cs'⟩, hL, ?_, .agg _ _ h2⟩
            have hl := run_loadCells_list (P := P) w ⟨L.φ, L.δ + off, none⟩ cs' (fun j v hj => by rw [addr_add]; exact h3 j v hj)
            simp only [loadVar, Sem.run_bind, run_isAgg' hd, Result.andThen_ok, hag, if_true, run_sizeOf' hi]
            rw [h1] at hl
            simp [hl]
          · cases hr
        · cases hr
      · rename_i hag
        rw [nth_spec] at hr
        obtain ⟨v', hv', hvR⟩ := hR.cell _ _ hr
        refine ⟨L, v', hL, ?_, hvR⟩
        have hc : w.cell? ⟨L.φ, L.δ + off, none⟩ = some v' := by simpa [World.cell?, hx] using hv'
        simp only [loadVar, Sem.run_bind, run_isAgg' hd, Result.andThen_ok, hag, Bool.false_eq_true, if_false, run_load, hc]
    · cases hr
  · cases hr

/-! ### writing -/

theorem HRel.upd {H H' : HF} {b : Nat} {o o' : AObj} {L : Loc} {x : Obj} {w' : World} (hh : HRel ρ H w) (hb : H b = some o) (ho : o.owned = true) (hL : ρ b = some L)
    (hw : WUpd w w' L.φ x) (hR : OR ρ L o' x) (hH : ∀ i, H' i = if i = b then some o' else H i) : HRel ρ H' w' := by
  refine ⟨fun i oi hi => ?_, fun i j oi oj Li Lj hi hj hij hoj hLi hLj => ?_⟩
  · rw [hH] at hi
    split at hi
    · rename_i he; subst he; cases hi; exact ⟨L, x, hL, hw.at_, hR⟩
    · rename_i he
      obtain ⟨Li, xi, hLi, hxi, hRi⟩ := hh.obj _ _ hi
      exact ⟨Li, xi, hLi, by rw [hw.other _ (hh.inj i b oi o Li L hi hb he ho hLi hL)]; exact hxi, hRi⟩
  · have hi' : ∃ oi', H i = some oi' := by
      rw [hH] at hi; split at hi
      · rename_i he; subst he; exact ⟨_, hb⟩
      · exact ⟨_, hi⟩
    have hj' : ∃ oj', H j = some oj' ∧ oj'.owned = true := by
      rw [hH] at hj; split at hj
      · rename_i he; subst he; exact ⟨_, hb, ho⟩
      · exact ⟨_, hj, hoj⟩
    obtain ⟨oi', hi'⟩ := hi'
    obtain ⟨oj', hj', hoj'⟩ := hj'
    exact hh.inj i j oi' oj' Li Lj hi' hj' hij hoj' hLi hLj

theorem Step.upd {H H' : HF} {b : Nat} {o o' : AObj} {L : Loc} {x : Obj} {w' : World} (hb : H b = some o) (ho : o.owned = true) (hL : ρ b = some L)
    (hw : WUpd w w' L.φ x) (hH : ∀ i, H' i = if i = b then some o' else H i) (lo hi : Nat) : Step ρ H w ρ H' w' lo hi := by
  refine ⟨hw.os, hw.tape, hw.output, by rw [hw.size]; exact Nat.le_refl _, fun r _ hno => hw.other r fun he => hno b o L hb ho hL he.symm, ?_, ?_, Ren.le.refl _, fun _ _ => rfl⟩
  · intro i oi Li hi ho' hLi
    rw [hH] at hi
    split at hi
    · rename_i he; subst he; exact .inl ⟨_, o, Li, hb, ho, hLi, rfl⟩
    · exact .inl ⟨i, oi, Li, hi, ho', hLi, rfl⟩
  · intro i oi Li hi hLi
    rw [hH] at hi
    split at hi
    · rename_i he; subst he; exact .inl ⟨_, o, Li, hb, hLi, rfl⟩
    · exact .inl ⟨i, oi, Li, hi, hLi, rfl⟩

theorem writeAt_sound {h h' : Hs} {b off : Nat} {vs vs' : List Value} (hh : HRel ρ h.heap.get w) (hw : writeAt h b off vs = some h') (hv : VRs ρ vs vs') :
    ∃ L w', ρ b = some L ∧ (storeCells ⟨L.φ, L.δ + off, none⟩ vs').run P w = .ok () w' ∧ HRel ρ h'.heap.get w' ∧ ∀ lo hi, Step ρ h.heap.get w ρ h'.heap.get w' lo hi := by
  unfold writeAt at hw
  split at hw
  · rename_i k hk
    have key : k.own = true → (k.frz = 0 ∨ k.frz = 1) → ∀ cs, allCells vs = true → overwrite k.cells off vs = some cs → cs.length ≤ k.cap →
        ∃ L w', ρ b = some L ∧ (storeCells ⟨L.φ, L.δ + off, none⟩ vs').run P w = .ok () w' ∧ HRel ρ ((h.heap.set b (.blk { k with cells := cs })).get) w' ∧
          ∀ lo hi, Step ρ h.heap.get w ρ ((h.heap.set b (.blk { k with cells := cs })).get) w' lo hi := by
      intro hown hfrz cs hac how hcap
      obtain ⟨L, x, hL, hx, hR⟩ := hh.obj _ _ hk
      cases x <;> simp only [OR] at hR <;> first | exact hR.elim | skip
      rename_i c e fr
      obtain ⟨ho1, ho2, ho3⟩ := overwrite_spec how
      have hlen : vs'.length = vs.length := hv.length
      have hroom := hR.room hown
      obtain ⟨w', c', hr, hu, hs, hc⟩ := stores P L.φ e fr vs' (L.δ + off) 0 c w hx (by omega)
        (fun p h1 h2 => by
          rcases hfrz with hf | hf
          · have := hR.frz0 hf; subst this; simp
          · rcases hR.frz1 hf with h3 | h3 <;> omega) (hv.allCells hac)
      have hR' : OR ρ L (.blk { k with cells := cs }) (.cells c' e fr) := by
        refine ⟨hR.elem, hcap, fun _ => by show L.δ + k.cap + L.ψ * k.esz ≤ c'.size; omega, fun i v hi => ?_, hR.exact, fun hwh => ?_, hR.frz0, fun hf => ?_⟩
        · rw [hc]
          have hi' : cs[i]? = some v := hi
          rw [ho3] at hi'
          by_cases hq : off ≤ i ∧ i < off + vs.length
          · rw [if_pos hq] at hi'
            rw [if_pos (by omega)]
            obtain ⟨v', hv', hvR⟩ := hv.get hi'
            exact ⟨v', by rw [show L.δ + i - (L.δ + off + 0) = i - off by omega]; exact hv', hvR⟩
          · rw [if_neg hq] at hi'
            rw [if_neg (by omega)]
            exact hR.cell i v hi'
        · obtain ⟨h1, h2⟩ := hR.whole hwh; exact ⟨h1, by rw [hs]; exact h2⟩
        · rw [hs]; exact hR.frz1 hf
      exact ⟨L, w', hL, hr, hh.upd hk hown hL hu hR' (fun i => T.get_set _ _ _ _), fun lo hi => Step.upd hk hown hL hu (fun i => T.get_set _ _ _ _) lo hi⟩
    have fin : k.own = true → (k.frz = 0 ∨ k.frz = 1) → (match allCells vs, overwrite k.cells off vs with
      | true, some cs => match Nat.ble cs.length k.cap with
        | true => some { h with heap := h.heap.set b (.blk { k with cells := cs }), log := b :: h.log }
        | false => none
      | _, _ => none) = some h' → ∃ L w', ρ b = some L ∧ (storeCells ⟨L.φ, L.δ + off, none⟩ vs').run P w = .ok () w' ∧ HRel ρ h'.heap.get w' ∧ ∀ lo hi, Step ρ h.heap.get w ρ h'.heap.get w' lo hi := by
      intro h1 h2 hm
      split at hm
      · rename_i cs hac how
        split at hm
        · rename_i hle
          cases hm
          exact key h1 h2 cs hac how (Nat.le_of_ble_eq_true hle)
        · cases hm
      · cases hm
    split at hw
    · rename_i ho hf; exact fin ho (.inl hf) hw
    · rename_i ho hf; exact fin ho (.inr hf) hw
    · cases hw
  · cases hw

/-! ### new blocks -/

theorem HRel.world {H : HF} {w' : World} (hh : HRel ρ H w) (he : w'.heap = w.heap) : HRel ρ H w' :=
  ⟨fun b o hb => let ⟨L, x, h1, h2, h3⟩ := hh.obj b o hb; ⟨L, x, h1, by rw [he]; exact h2, h3⟩, hh.inj⟩

theorem Step.world {H : HF} {w' : World} (h1 : w'.heap = w.heap) (h2 : w'.os = w.os) (h3 : w'.tape = w.tape) (h4 : w'.output = w.output) (lo hi : Nat) : Step ρ H w ρ H w' lo hi :=
  ⟨h2, h3, h4, by rw [h1]; exact Nat.le_refl _, fun _ _ _ => by rw [h1], fun b o L h ho hL => .inl ⟨b, o, L, h, ho, hL, rfl⟩, fun b o L h hL => .inl ⟨b, o, L, h, hL, rfl⟩, Ren.le.refl _, fun _ _ => rfl⟩

def Ren.set (ρ : Ren) (b : Nat) (L : Loc) : Ren := fun i => if i = b then some L else ρ i

theorem Ren.set_same (ρ : Ren) (b : Nat) (L : Loc) : (ρ.set b L) b = some L := by simp [Ren.set]
theorem Ren.set_le {b : Nat} (L : Loc) (h : ρ b = none) : ρ.le (ρ.set b L) := fun i M hi => by
  unfold Ren.set; rw [if_neg (fun he => by subst he; rw [h] at hi; cases hi)]; exact hi
theorem Ren.set_other {b i : Nat} (L : Loc) (h : i ≠ b) : (ρ.set b L) i = ρ i := by simp [Ren.set, h]

/-- one more object, in a new block -/
theorem HRel.new {H H' : HF} {b : Nat} {o : AObj} {x : Obj} {δ ψ : Nat} (hh : HRel ρ H w) (hb : ρ b = none)
    (hR : OR (ρ.set b ⟨w.heap.size, δ, ψ⟩) ⟨w.heap.size, δ, ψ⟩ o x) (hH : ∀ i, H' i = if i = b then some o else H i) :
    HRel (ρ.set b ⟨w.heap.size, δ, ψ⟩) H' (w.alloc x) ∧ Step ρ H w (ρ.set b ⟨w.heap.size, δ, ψ⟩) H' (w.alloc x) b (b + 1) := by
  have hle := Ren.set_le (ρ := ρ) ⟨w.heap.size, δ, ψ⟩ hb
  have hlt : ∀ i oi Li, H i = some oi → ρ i = some Li → Li.φ < w.heap.size := by
    intro i oi Li hi hLi
    obtain ⟨L, y, hL, hy, _⟩ := hh.obj _ _ hi
    rw [hLi] at hL; cases hL
    exact (Array.getElem?_eq_some_iff.1 hy).1
  have hold : ∀ k, k < w.heap.size → (w.alloc x).heap[k]? = w.heap[k]? := fun k hk => by
    show (w.heap.push x)[k]? = _
    rw [Array.getElem?_push, if_neg (by omega)]
  have hnb : ∀ i oi, H i = some oi → i ≠ b := fun i oi hi he => by
    obtain ⟨L, y, hL, _, _⟩ := hh.obj _ _ hi
    subst he; rw [hb] at hL; cases hL
  refine ⟨⟨fun i oi hi => ?_, fun i j oi oj Li Lj hi hj hij hoj hLi hLj => ?_⟩, ⟨rfl, rfl, rfl, by simp, fun r hr _ => hold r hr, ?_, ?_, hle, ?_⟩⟩
  · rw [hH] at hi
    split at hi
    · rename_i he; subst he; cases hi
      exact ⟨_, x, Ren.set_same _ _ _, by show (w.heap.push x)[w.heap.size]? = some x; simp, hR⟩
    · obtain ⟨L, y, hL, hy, hRy⟩ := hh.obj _ _ hi
      exact ⟨L, y, hle _ _ hL, by rw [hold _ (hlt i oi L hi hL)]; exact hy, hRy.mono hle⟩
  · rw [hH] at hi hj
    split at hi
    · rename_i he; subst he; cases hi
      rw [Ren.set_same] at hLi; cases hLi
      rw [if_neg (fun h => hij h.symm)] at hj
      rw [Ren.set_other _ (fun h => hij h.symm)] at hLj
      have := hlt j oj Lj hj hLj
      show w.heap.size ≠ Lj.φ
      omega
    · rename_i hne
      rw [Ren.set_other _ hne] at hLi
      split at hj
      · rename_i he; subst he; cases hj
        rw [Ren.set_same] at hLj; cases hLj
        have := hlt i oi Li hi hLi
        show Li.φ ≠ w.heap.size
        omega
      · rename_i hne2
        rw [Ren.set_other _ hne2] at hLj
        exact hh.inj i j oi oj Li Lj hi hj hij hoj hLi hLj
  · intro i oi Li hi ho hLi
    rw [hH] at hi
    split at hi
    · rename_i he; subst he; rw [Ren.set_same] at hLi; cases hLi; exact .inr (Nat.le_refl _)
    · rename_i hne
      rw [Ren.set_other _ hne] at hLi
      exact .inl ⟨i, oi, Li, hi, ho, hLi, rfl⟩
  · intro i oi Li hi hLi
    rw [hH] at hi
    split at hi
    · rename_i he; subst he; rw [Ren.set_same] at hLi; cases hLi; exact .inr (Nat.le_refl _)
    · rename_i hne
      rw [Ren.set_other _ hne] at hLi
      exact .inl ⟨i, oi, Li, hi, hLi, rfl⟩
  · intro i hi
    exact Ren.set_other _ (by omega)

end
end Go.AV
