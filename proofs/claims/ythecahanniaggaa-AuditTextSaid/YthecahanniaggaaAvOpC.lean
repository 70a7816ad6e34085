/-
  The operations' soundness, third part: slices, append, copy, strings and bytes.
-/
import Derived.Test.YthecahanniaggaaAvOpB
import Derived.Laws.Append
namespace Go.AV

section
variable {P : Program} {ρ : Ren} {w : World} {h : Hs}

theorem boundV_sound {v : Value} {hi i : Nat} (hb : boundV v hi = some i) : (∃ k, v = .int k (i : Int)) ∧ i ≤ hi := by
  unfold boundV at hb
  split at hb
  · split at hb
    · rename_i h; cases hb; exact ⟨⟨_, rfl⟩, Nat.le_of_ble_eq_true h⟩
    · cases hb
  · cases hb

theorem VR.int {k : IntKind} {i : Int} {x : Value} (hv : VR ρ (.int k i) x) : x = .int k i := by cases hv; rfl

theorem boundO_sound {tm : Tm} {n : Nat} {a : Act} (ht : TR ρ tm n a.tmps) {o : Operand} {d hi i : Nat} (hb : boundO tm (some o) d hi = some i) : (∃ k, a.eval o = .int k (i : Int)) ∧ i ≤ hi := by
  simp only [boundO] at hb
  split at hb
  · rename_i v hv
    obtain ⟨⟨k, rfl⟩, hle⟩ := boundV_sound hb
    exact ⟨⟨k, (ev_sound ht hv).int⟩, hle⟩
  · cases hb

theorem boundO_none {tm : Tm} {d hi i : Nat} (hb : boundO tm none d hi = some i) : i = d ∧ d ≤ hi := by
  simp only [boundO] at hb
  split at hb
  · rename_i h; cases hb; exact ⟨rfl, Nat.le_of_ble_eq_true h⟩
  · cases hb

theorem boundO_le {tm : Tm} {n : Nat} {a : Act} (ht : TR ρ tm n a.tmps) {o : Option Operand} {d hi i : Nat} (hb : boundO tm o d hi = some i) : i ≤ hi := by
  cases o with
  | none => obtain ⟨rfl, h⟩ := boundO_none hb; exact h
  | some o => exact (boundO_sound ht hb).2

theorem run_sliceBound {k : IntKind} {i y : Nat} (c : BoundsCode) (hle : i ≤ y) : (Instr.sliceBound (.int k (i : Int)) y c).run P w = .ok i w := by
  simp [Instr.sliceBound, asIntOf]
  omega

/-- s[lo:hi] -/
theorem run_bounds {tm : Tm} {n : Nat} {a : Act} (ht : TR ρ tm n a.tmps) {lo hi : Option Operand} {len top cap l hh : Nat} (b : Bool) (h1 : boundO tm hi len top = some hh) (h2 : boundO tm lo 0 hh = some l) (hle : top ≤ cap) :
    (Instr.sliceBounds b len cap (lo.map a.eval) (hi.map a.eval) none).run P w = .ok (l, hh, cap) w := by
  cases hi with
  | none =>
    obtain ⟨rfl, _⟩ := boundO_none h1
    cases lo with
    | none => obtain ⟨rfl, _⟩ := boundO_none h2; simp [Instr.sliceBounds]
    | some lo =>
      obtain ⟨⟨k, hk⟩, hl⟩ := boundO_sound ht h2
      simp [Instr.sliceBounds, hk, run_sliceBound _ hl]
  | some hi =>
    obtain ⟨⟨k, hk⟩, hl⟩ := boundO_sound ht h1
    cases lo with
    | none => obtain ⟨rfl, _⟩ := boundO_none h2; simp [Instr.sliceBounds, hk, run_sliceBound _ (Nat.le_trans hl hle)]
    | some lo =>
      obtain ⟨⟨k', hk'⟩, hl'⟩ := boundO_sound ht h2
      simp [Instr.sliceBounds, hk, hk', run_sliceBound _ (Nat.le_trans hl hle), run_sliceBound _ hl']

/-- s[lo:hi:max] -/
theorem run_bounds3 {tm : Tm} {n : Nat} {a : Act} (ht : TR ρ tm n a.tmps) {lo : Option Operand} {hi mx : Operand} {len top cap l hh m d d' : Nat} (b : Bool) (h0 : boundO tm (some mx) d top = some m) (h1 : boundO tm (some hi) d' m = some hh) (h2 : boundO tm lo 0 hh = some l)
    (hle : top ≤ cap) : (Instr.sliceBounds b len cap (lo.map a.eval) (some (a.eval hi)) (some (a.eval mx))).run P w = .ok (l, hh, m) w := by
  obtain ⟨⟨k0, hk0⟩, hl0⟩ := boundO_sound ht h0
  obtain ⟨⟨k, hk⟩, hl⟩ := boundO_sound ht h1
  cases lo with
  | none => obtain ⟨rfl, _⟩ := boundO_none h2; simp [Instr.sliceBounds, hk0, hk, run_sliceBound _ (Nat.le_trans hl0 hle), run_sliceBound _ hl]
  | some lo =>
    obtain ⟨⟨k', hk'⟩, hl'⟩ := boundO_sound ht h2
    simp [Instr.sliceBounds, hk0, hk, hk', run_sliceBound _ (Nat.le_trans hl0 hle), run_sliceBound _ hl, run_sliceBound _ hl']

/-- a name for a place of which nothing is known -/
theorem HRel.ext {H : HF} {b : Nat} (L : Loc) (hh : HRel ρ H w) (hb : ρ b = none) : HRel (ρ.set b L) H w ∧ Step ρ H w (ρ.set b L) H w b (b + 1) := by
  have hle := Ren.set_le (ρ := ρ) L hb
  have hsame : ∀ i o Li, H i = some o → (ρ.set b L) i = some Li → ρ i = some Li := by
    intro i o Li hi hLi
    obtain ⟨M, x, hM, _, _⟩ := hh.obj _ _ hi
    have := hle _ _ hM
    rw [hLi] at this; cases this; exact hM
  refine ⟨⟨fun i o hi => ?_, fun i j oi oj Li Lj hi hj hij hoj hLi hLj => hh.inj i j oi oj Li Lj hi hj hij hoj (hsame _ _ _ hi hLi) (hsame _ _ _ hj hLj)⟩,
    ⟨rfl, rfl, rfl, Nat.le_refl _, fun _ _ _ => rfl, fun i o Li hi ho hLi => .inl ⟨i, o, Li, hi, ho, hsame _ _ _ hi hLi, rfl⟩, fun i o Li hi hLi => .inl ⟨i, o, Li, hi, hsame _ _ _ hi hLi, rfl⟩, hle, fun i hi => Ren.set_other _ (by omega)⟩⟩
  obtain ⟨M, x, hM, hx, hR⟩ := hh.obj _ _ hi
  exact ⟨M, x, hle _ _ hM, hx, hR.mono hle⟩

/-- the old name of an owned block goes, a new one comes; the block may be written -/
theorem HRel.move {H H' : HF} {b nb : Nat} {o o' : AObj} {L L' : Loc} {x' : Obj} {w' : World} (hh : HRel ρ H w) (hb : H b = some o) (ho : o.owned = true) (hL : ρ b = some L) (hn : ρ nb = none) (hφ : L'.φ = L.φ)
    (hw : WUpd w w' L.φ x') (hR : OR (ρ.set nb L') L' o' x') (hH : ∀ i, H' i = if i = nb then some o' else if i = b then none else H i) :
    HRel (ρ.set nb L') H' w' ∧ Step ρ H w (ρ.set nb L') H' w' nb (nb + 1) := by
  have hle := Ren.set_le (ρ := ρ) L' hn
  have hsame : ∀ i o Li, H i = some o → (ρ.set nb L') i = some Li → ρ i = some Li := by
    intro i o Li hi hLi
    obtain ⟨M, x, hM, _, _⟩ := hh.obj _ _ hi
    have := hle _ _ hM
    rw [hLi] at this; cases this; exact hM
  refine ⟨⟨fun i oi hi => ?_, fun i j oi oj Li Lj hi hj hij hoj hLi hLj => ?_⟩, ⟨hw.os, hw.tape, hw.output, by rw [hw.size]; exact Nat.le_refl _, fun r _ hno => hw.other r fun he => hno b o L hb ho hL he.symm, ?_, ?_, hle, fun i hi => Ren.set_other _ (by omega)⟩⟩
  · rw [hH] at hi
    split at hi
    · rename_i he; subst he; cases hi; exact ⟨L', x', Ren.set_same _ _ _, by rw [hφ]; exact hw.at_, hR⟩
    · split at hi
      · cases hi
      · rename_i hne
        obtain ⟨M, x, hM, hx, hRx⟩ := hh.obj _ _ hi
        exact ⟨M, x, hle _ _ hM, by rw [hw.other _ (hh.inj i b oi o M L hi hb hne ho hM hL)]; exact hx, hRx.mono hle⟩
  · rw [hH] at hi hj
    split at hi
    · rename_i he; subst he; cases hi
      rw [if_neg (fun h => hij h.symm)] at hj
      split at hj
      · cases hj
      · rename_i hne
        rw [Ren.set_same] at hLi; cases hLi
        rw [hφ]
        exact fun he => hh.inj j b oj o Lj L hj hb hne ho (hsame _ _ _ hj hLj) hL he.symm
    · rename_i hni
      split at hi
      · cases hi
      · rename_i hne
        split at hj
        · rename_i he; subst he; cases hj
          rw [Ren.set_same] at hLj; cases hLj
          rw [hφ]
          exact hh.inj i b oi o Li L hi hb hne ho (hsame _ _ _ hi hLi) hL
        · split at hj
          · cases hj
          · exact hh.inj i j oi oj Li Lj hi hj hij hoj (hsame _ _ _ hi hLi) (hsame _ _ _ hj hLj)
  · intro i oi Li hi ho' hLi
    rw [hH] at hi
    split at hi
    · rename_i he; subst he; rw [Ren.set_same] at hLi; cases hLi; exact .inl ⟨b, o, L, hb, ho, hL, hφ.symm⟩
    · split at hi
      · cases hi
      · exact .inl ⟨i, oi, Li, hi, ho', hsame _ _ _ hi hLi, rfl⟩
  · intro i oi Li hi hLi
    rw [hH] at hi
    split at hi
    · rename_i he; subst he; rw [Ren.set_same] at hLi; cases hLi; exact .inl ⟨b, o, L, hb, hL, hφ.symm⟩
    · split at hi
      · cases hi
      · exact .inl ⟨i, oi, Li, hi, hsame _ _ _ hi hLi, rfl⟩

theorem WUpd.self {r : Nat} {x : Obj} (hx : w.heap[r]? = some x) : WUpd w w r x := ⟨rfl, rfl, rfl, rfl, fun _ _ => rfl, hx⟩

theorem sliceStr_ok {tm : Tm} {n : Nat} {a : Act} (ht : TR ρ tm n a.tmps) {xt : TypeId} {s : ByteArray} {lo hi : Option Operand} {v : Value} (hu : P.underlying xt = some .string) (hr : sliceStr tm s lo hi = some v) (hh : HRel ρ h.heap.get w) :
    ValOK P ρ h w (Instr.sliceAt xt (.string s) (lo.map a.eval) (hi.map a.eval) none) v h := by
  unfold sliceStr at hr
  split at hr
  · rename_i hh' h1
    split at hr
    · rename_i l h2
      cases hr
      have := run_bounds (P := P) (w := w) ht false h1 h2 (Nat.le_refl _)
      exact ValOK.pure hh (v' := .string (s.extract l hh')) (by simp [Instr.sliceAt, Instr.slice, run_underlying' hu, this]) (.sc _ rfl)
    · cases hr
  · cases hr

theorem blk_of_or {L : Loc} {k : Blk} {x : Obj} (hR : OR ρ L (.blk k) x) : ∃ c fr, x = .cells c k.elem fr ∧ BlkR ρ L k c k.elem fr := by
  cases x <;> simp only [OR] at hR <;> first | exact hR.elim | skip
  rename_i c e fr
  have := hR.elem; subst this
  exact ⟨c, fr, rfl, hR⟩

theorem sliceSl_ok {tm : Tm} {n : Nat} {a : Act} (ht : TR ρ tm n a.tmps) {xt e : TypeId} {i : TypeInfo} {ao : Option Addr} {len cap : Nat} {v' : Value} {lo hi mx : Option Operand} {r : Res} (hu : P.underlying xt = some (.slice e)) (hi' : P.info? e = some i)
    (hx : VR ρ (.slice ao len cap) v') (hh : HRel ρ h.heap.get w) (hf : Fresh ρ h.next (r.next h)) (hr : sliceSl h tm i.size ao len cap lo hi mx = some r) :
    ∃ v h', r = .val v h' ∧ ValOK P ρ h w (Instr.sliceAt xt v' (lo.map a.eval) (hi.map a.eval) (mx.map a.eval)) v h' := by
  unfold sliceSl at hr
  split at hr
  · -- nil, two indexes
    split at hr
    · rename_i hh' h1
      split at hr
      · rename_i l h2
        cases hr
        cases hx with
        | sc _ _ =>
          have hb := run_bounds (P := P) (w := w) ht true h1 h2 (Nat.le_refl _)
          refine ⟨_, _, rfl, ValOK.pure hh (v' := .slice none (hh' - l) (0 - l)) ?_ (.sc _ rfl)⟩
          simp [Instr.sliceAt, Instr.slice, run_underlying' hu, hb, run_sizeOf' hi']
      · cases hr
    · cases hr
  · -- two indexes
    rename_i ad
    split at hr
    · rename_i k hh' hsp hk h1
      split at hr
      · rename_i l h2
        have hl1 := boundO_le ht h1
        have hl2 := boundO_le ht h2
        cases hx with
        | sc _ hs => simp [simple] at hs
        | sl b o _ _ L hL =>
          have hb := run_bounds (P := P) (w := w) (cap := cap + L.ψ) ht true h1 h2 (Nat.le_add_right _ _)
          split at hr
          · rename_i hne
            cases hr
            have hne' : cap ≠ l := by intro he; subst he; simp at hne
            refine ⟨_, _, rfl, ValOK.pure hh (v' := .slice (some ⟨L.φ, L.δ + o + l * i.size, none⟩) (hh' - l) (cap + L.ψ - l)) ?_ ?_⟩
            · simp [Instr.sliceAt, Instr.slice, run_underlying' hu, hb, run_sizeOf' hi', show ¬ cap + L.ψ = l by omega, addr_add]
            · have := VR.sl (ρ := ρ) b (o + l * i.size) (hh' - l) (cap - l) L hL
              rw [show cap - l + L.ψ = cap + L.ψ - l by omega, ← Nat.add_assoc] at this
              exact this
          · rename_i heq
            have heq' : cap = l := Nat.eq_of_beq_eq_true heq
            split at hr
            · rename_i hex
              cases hr
              obtain ⟨L0, x, hL0, hx0, hR⟩ := hh.obj _ _ hk
              rw [hL] at hL0; cases hL0
              obtain ⟨c, fr, rfl, hR⟩ := blk_of_or hR
              have hψ := hR.exact hex
              refine ⟨_, _, rfl, ValOK.pure hh (v' := .slice (some ⟨L.φ, L.δ + o, none⟩) (hh' - l) (cap + L.ψ - l)) ?_ ?_⟩
              · simp only [Instr.sliceAt, Instr.slice, Sem.run_bind, run_underlying' hu, Result.andThen_ok, Option.map_none, hb, run_sizeOf' hi', Sem.run_pure]
                rw [if_pos (by omega)]
              · have := VR.sl (ρ := ρ) b o (hh' - l) (cap - l) L hL
                rw [show cap - l + L.ψ = cap + L.ψ - l by omega] at this
                exact this
            · cases hr
              have hn : ρ h.next = none := hf _ (Nat.le_refl _) (Nat.lt_succ_self _)
              obtain ⟨e1, e2⟩ := HRel.ext (⟨L.φ, if cap + L.ψ = l then L.δ + o else L.δ + o + l * i.size, L.ψ⟩ : Loc) hh hn
              refine ⟨_, _, rfl, _, .slice (some ⟨L.φ, if cap + L.ψ = l then L.δ + o else L.δ + o + l * i.size, none⟩) 0 L.ψ, w, ?_, ?_, e1, e2⟩
              · have z1 : hh' - l = 0 := by omega
                have z2 : cap + L.ψ - l = L.ψ := by omega
                simp only [Instr.sliceAt, Instr.slice, Sem.run_bind, run_underlying' hu, Result.andThen_ok, Option.map_none, hb, run_sizeOf' hi', Sem.run_pure, z1, z2]
                by_cases hz : cap + L.ψ = l
                · rw [if_pos hz, if_pos hz]
                · rw [if_neg hz, if_neg hz]; simp [addr_add]
              · have := VR.sl (ρ := ρ.set h.next (⟨L.φ, if cap + L.ψ = l then L.δ + o else L.δ + o + l * i.size, L.ψ⟩ : Loc)) h.next 0 0 0 _ (Ren.set_same _ _ _)
                simpa using this
      · cases hr
    · cases hr
  · -- three indexes
    rename_i ad mo
    split at hr
    · rename_i k m hsp hk h0
      split at hr
      · rename_i hh' hio h1
        split at hr
        · rename_i l h2
          have hl0 := boundO_le ht h0
          have hl1 := boundO_le ht h1
          have hl2 := boundO_le ht h2
          split at hr
          · rename_i hhm hown
            split at hr
            · rename_i cs hcs
              cases hr
              have hhm' : hh' = m := Nat.eq_of_beq_eq_true hhm
              subst hhm'
              cases hx with
              | sc _ hs => simp [simple] at hs
              | sl b o _ _ L hL =>
                have hb := run_bounds3 (P := P) (w := w) (len := len) (cap := cap + L.ψ) ht true h0 h1 h2 (Nat.le_add_right _ _)
                have hn : ρ h.next = none := hf _ (Nat.le_refl _) (Nat.lt_succ_self _)
                obtain ⟨L0, x, hL0, hx0, hR⟩ := hh.obj _ _ hk
                rw [hL] at hL0; cases hL0
                obtain ⟨c, fr, rfl, hR⟩ := blk_of_or hR
                obtain ⟨cs', c1, c2, c3⟩ := hR.cellsAt hx0 hcs
                -- where the new name begins
                obtain ⟨δ', hδ⟩ : ∃ δ', δ' = if hh' = l then L.δ + o else L.δ + (o + l * i.size) := ⟨_, rfl⟩
                have hlen := (takeN_spec hcs).1
                have hget : ∀ j, j < (hh' - l) * i.size → cs[j]? = k.cells[o + l * i.size + j]? := fun j hj => by
                  rw [(takeN_spec hcs).2 j hj, dropN_spec, List.getElem?_drop]
                have hOR : OR (ρ.set h.next ⟨L.φ, δ', 0⟩) ⟨L.φ, δ', 0⟩ (.blk { k with cells := cs, cap := (hh' - l) * i.size, esz := i.size, exact := true, whole := false, own := nonNil cs }) (.cells c k.elem fr) := by
                  refine ⟨rfl, by show cs.length ≤ _; rw [hlen]; exact Nat.le_refl _, fun ho => ?_, fun j v hj => ?_, fun _ => rfl, (fun h => by cases h), hR.frz0, hR.frz1⟩
                  · show δ' + (hh' - l) * i.size + 0 * i.size ≤ c.size
                    cases hc0 : cs with
                    | nil => have ho' : nonNil cs = true := ho; rw [hc0] at ho'; cases ho'
                    | cons c0 cr =>
                      have hpos : 0 < (hh' - l) * i.size := by rw [← hlen, hc0]; simp
                      have hne : hh' ≠ l := by rintro rfl; simp at hpos
                      have h1 := hget ((hh' - l) * i.size - 1) (by omega)
                      have h2 : cs[(hh' - l) * i.size - 1]? ≠ none := by simp; omega
                      rw [h1] at h2
                      have h3 : o + l * i.size + ((hh' - l) * i.size - 1) < k.cells.length := by simpa using h2
                      have h4 := hR.len
                      have h5 := hR.room hown
                      rw [hδ, if_neg hne]
                      omega
                  · have hj' : cs[j]? = some v := hj
                    have hjl : j < (hh' - l) * i.size := by
                      rw [← hlen]
                      rcases Nat.lt_or_ge j cs.length with h' | h'
                      · exact h'
                      · simp [List.getElem?_eq_none h'] at hj'
                    have hne : hh' ≠ l := by rintro rfl; simp at hjl
                    rw [hget j hjl] at hj'
                    obtain ⟨u, hu1, hu2⟩ := hR.cell _ _ hj'
                    refine ⟨u, ?_, hu2.mono (Ren.set_le _ hn)⟩
                    show c[δ' + j]? = some u
                    rw [hδ, if_neg hne, show L.δ + (o + l * i.size) + j = L.δ + (o + l * i.size + j) by omega]
                    exact hu1
                obtain ⟨e1, e2⟩ := HRel.move (H' := ((h.heap.del b).set h.next (.blk { k with cells := cs, cap := (hh' - l) * i.size, esz := i.size, exact := true, whole := false, own := nonNil cs })).get)
                  (L' := ⟨L.φ, δ', 0⟩) hh hk hown hL hn rfl (WUpd.self hx0) hOR (fun j => by rw [T.get_set, T.get_del])
                refine ⟨_, _, rfl, _, .slice (some ⟨L.φ, δ', none⟩) (hh' - l) (hh' - l), w, ?_, ?_, e1, e2⟩
                · simp only [Instr.sliceAt, Instr.slice, Sem.run_bind, run_underlying' hu, Result.andThen_ok, Option.map_some, hb, run_sizeOf' hi', Sem.run_pure]
                  congr 3
                  rw [hδ]
                  split
                  · rfl
                  · simp [addr_add, Nat.add_assoc]
                · have := VR.sl (ρ := ρ.set h.next ⟨L.φ, δ', 0⟩) h.next 0 (hh' - l) (hh' - l) _ (Ren.set_same _ _ _)
                  simpa using this
            · cases hr
          · cases hr
        · cases hr
      · cases hr
    · cases hr
  · rename_i mo
    split at hr
    · rename_i m hio h0
      split at hr
      · rename_i hh' h1
        split at hr
        · rename_i l h2
          cases hr
          cases hx with
          | sc _ _ =>
            have hb := run_bounds3 (P := P) (w := w) (len := len) (cap := 0) ht true h0 h1 h2 (Nat.le_refl _)
            refine ⟨_, _, rfl, ValOK.pure hh (v' := .slice none (hh' - l) (m - l)) ?_ (.sc _ rfl)⟩
            simp only [Instr.sliceAt, Instr.slice, Sem.run_bind, run_underlying' hu, Result.andThen_ok, Option.map_some, hb, run_sizeOf' hi', Sem.run_pure]
            split <;> rfl
        · cases hr
      · cases hr
    · cases hr

theorem slice_ok {tm : Tm} {n : Nat} {a : Act} (ht : TR ρ tm n a.tmps) {xt : TypeId} {x x' : Value} {lo hi mx : Option Operand} {r : Res} (hx : VR ρ x x') (hh : HRel ρ h.heap.get w) (hf : Fresh ρ h.next (r.next h))
    (hr : aslice P tm h xt x lo hi mx = some r) : ∃ v h', r = .val v h' ∧ ValOK P ρ h w (Instr.sliceAt xt x' (lo.map a.eval) (hi.map a.eval) (mx.map a.eval)) v h' := by
  unfold aslice at hr
  split at hr
  · rename_i s hu
    split at hr
    · split at hr
      · rename_i v hv
        cases hr
        cases hx with
        | sc _ _ => exact ⟨v, h, rfl, sliceStr_ok ht hu hv hh⟩
      · cases hr
    · cases hr
  · rename_i e ao len cap hu
    split at hr
    · rename_i i hi'
      exact sliceSl_ok ht hu hi' hx hh hf hr
    · cases hr
  · rename_i m e ad hu
    split at hr
    · rename_i i k hi' hsp hk
      split at hr
      · rename_i hh' hex h1
        split at hr
        · rename_i l h2
          cases hx with
          | sc _ hs => simp [simple] at hs
          | ptr b o L hL =>
            have hb := run_bounds (P := P) (w := w) ht false h1 h2 (Nat.le_refl _)
            obtain ⟨L0, x, hL0, hx0, hR⟩ := hh.obj _ _ hk
            rw [hL] at hL0; cases hL0
            obtain ⟨c, fr, rfl, hR⟩ := blk_of_or hR
            have hψ := hR.exact hex
            split at hr
            · rename_i heq
              have heq' : m = l := Nat.eq_of_beq_eq_true heq
              cases hr
              refine ⟨_, _, rfl, ValOK.pure hh (v' := .slice (some ⟨L.φ, L.δ + o, none⟩) (hh' - l) (m - l + L.ψ)) ?_ (.sl b o _ _ L hL)⟩
              simp only [Instr.sliceAt, Sem.run_bind, run_underlying' hu, Result.andThen_ok, Option.map_none, hb, run_sizeOf' hi', Sem.run_pure, Instr.sureAddr]
              rw [if_pos heq', hψ]; rfl
            · rename_i hne
              have hne' : m ≠ l := by intro he; subst he; simp at hne
              cases hr
              refine ⟨_, _, rfl, ValOK.pure hh (v' := .slice (some ⟨L.φ, L.δ + (o + l * i.size), none⟩) (hh' - l) (m - l + L.ψ)) ?_ (.sl b _ _ _ L hL)⟩
              simp only [Instr.sliceAt, Sem.run_bind, run_underlying' hu, Result.andThen_ok, Option.map_none, hb, run_sizeOf' hi', Sem.run_pure, Instr.sureAddr]
              rw [if_neg hne', hψ, addr_add, Nat.add_assoc]; rfl
        · cases hr
      · cases hr
    · cases hr
  · cases hr

end
end Go.AV
