/-
  The operations' soundness, second part: what builds and takes apart aggregates; addresses; indexes.
-/
import Derived.Test.YthecahanniaggaaAvOpA
namespace Go.AV

section
variable {P : Program} {ρ : Ren} {w : World} {h : Hs}

theorem foldl_set (off : Nat) : ∀ (l : List Value) (k : Nat) (a : Array Value), off + k + l.length ≤ a.size →
    ((l.zipIdx k).foldl (fun cs (x : Value × Nat) => cs.setIfInBounds (off + x.2) x.1) a).size = a.size ∧
    ∀ p, ((l.zipIdx k).foldl (fun cs (x : Value × Nat) => cs.setIfInBounds (off + x.2) x.1) a)[p]? = if off + k ≤ p ∧ p < off + k + l.length then l[p - (off + k)]? else a[p]?
  | [], k, a, _ => ⟨rfl, fun p => by rw [if_neg (by simp)]; rfl⟩
  | v :: l, k, a, hl => by
    simp only [List.zipIdx_cons, List.foldl_cons]
    have hi : off + k < a.size := by simp at hl; omega
    obtain ⟨h1, h2⟩ := foldl_set off l (k + 1) (a.setIfInBounds (off + k) v) (by simp at hl ⊢; omega)
    refine ⟨by rw [h1]; simp, fun p => ?_⟩
    rw [h2 p]
    by_cases hp : p = off + k
    · subst hp
      rw [if_neg (by omega), if_pos (by simp)]
      simp [hi]
    · by_cases hq : off + (k + 1) ≤ p ∧ p < off + (k + 1) + l.length
      · rw [if_pos hq, if_pos (by simp; omega), show p - (off + k) = (p - (off + (k + 1))) + 1 by omega]
        simp
      · rw [if_neg hq, if_neg (by simp; omega), Array.getElem?_setIfInBounds_ne (by omega)]

theorem fill_sound {place : Nat → Option (Nat × Nat)} : ∀ {ps ps' : List (Nat × Value)} {cells cs : List Value} {cells' : Array Value}, PRs ρ ps ps' → VRs ρ cells cells'.toList →
    fillA place cells ps = some cs → ∃ cs' : Array Value, Instr.fill place cells' ps' = some cs' ∧ VRs ρ cs cs'.toList
  | _, _, cells, cs, cells', .nil, hc, hf => by
    simp only [fillA, Option.some.injEq] at hf
    subst hf
    exact ⟨cells', rfl, hc⟩
  | _, _, cells, cs, cells', .cons i v v' l l' hv hl, hc, hf => by
    simp only [fillA] at hf
    cases hp : place i with
    | none => simp [hp] at hf
    | some x =>
      obtain ⟨off, size⟩ := x
      simp only [hp] at hf
      split at hf
      · rename_i cs1 h1 h2 h3
        have hvc := hv.cells
        have hlen : v'.cells.size = (vcells v).length := by rw [← Array.length_toList]; exact hvc.length
        have hclen : cells'.size = cells.length := by rw [← Array.length_toList]; exact hc.length
        have e1 := Nat.eq_of_beq_eq_true h1
        have e2 := Nat.le_of_ble_eq_true h2
        obtain ⟨o1, o2, o3⟩ := overwrite_spec h3
        have hfold := foldl_set off v'.cells.toList 0 cells' (by simp [hlen, hclen]; omega)
        have hnext : VRs ρ cs1 (v'.cells.zipIdx.foldl (fun cs (x : Value × Nat) => cs.setIfInBounds (off + x.2) x.1) cells').toList := by
          rw [← Array.foldl_toList, Array.toList_zipIdx]
          refine VRs.of_get ?_ fun p u hu => ?_
          · rw [Array.length_toList, hfold.1, hclen, o2]; omega
          · rw [Array.getElem?_toList, hfold.2 p]
            rw [o3 p] at hu
            by_cases hq : off ≤ p ∧ p < off + (vcells v).length
            · rw [if_pos hq] at hu
              rw [if_pos (by rw [Array.length_toList, hlen]; omega)]
              simpa using hvc.get hu
            · rw [if_neg hq] at hu
              rw [if_neg (by rw [Array.length_toList, hlen]; omega)]
              simpa using hc.get hu
        obtain ⟨cs', hcs', hR⟩ := fill_sound hl hnext hf
        refine ⟨cs', ?_, hR⟩
        simp only [Instr.fill, hp]
        rw [if_neg (by simp [hlen, hclen, e1]; omega)]
        exact hcs'
      · cases hf

theorem run_placesA : ∀ {fs : List Field} {pl : List (Nat × Nat)}, placesA P fs = some pl → (fs.mapM fun f => Prod.mk f.offset <$> sizeOf f.type).run P w = .ok pl w
  | [], pl, hp => by simp only [placesA, Option.some.injEq] at hp; subst hp; simp
  | f :: fs, pl, hp => by
    simp only [placesA] at hp
    split at hp
    · rename_i i hi
      split at hp
      · rename_i r hr
        cases hp
        simp [List.mapM_cons, run_sizeOf' hi, run_placesA hr]
      · cases hp
    · cases hp

theorem build_ok {tm : Tm} {n : Nat} {a : Act} (ht : TR ρ tm n a.tmps) {t : TypeId} {parts : Array (Nat × Operand)} {r : Res} (hh : HRel ρ h.heap.get w) (hr : abuild P tm h t parts.toList = some r) :
    ∃ v, r = .val v h ∧ ValOK P ρ h w (Instr.build t (parts.map fun (i, x) => (i, a.eval x))) v h := by
  unfold abuild at hr
  split at hr
  · rename_i ps ti d hps hti hd
    have hpr := evParts_sound ht hps
    split at hr
    · rename_i z fields hz
      split at hr
      · rename_i pl hpz hpl
        split at hr
        · rename_i cs hcs
          cases hr
          obtain ⟨cs', h1, h2⟩ := fill_sound hpr (VR.of_plain hpz (ρ := ρ)).cells hcs
          have hpe : nth pl = fun i => pl[i]? := funext fun i => by rw [nth_spec]
          rw [hpe] at h1
          refine ⟨_, rfl, ValOK.pure hh ?_ (.agg cs cs'.toList h2)⟩
          simp [Instr.build, run_zeroValue' hti hz, run_underlying' hd, Array.mapM_eq_mapM_toList, run_placesA hpl, h1]
        · cases hr
      · cases hr
    · rename_i z ln e hz
      split at hr
      · rename_i ei hpz hei
        split at hr
        · rename_i cs hcs
          cases hr
          obtain ⟨cs', h1, h2⟩ := fill_sound hpr (VR.of_plain hpz (ρ := ρ)).cells hcs
          refine ⟨_, rfl, ValOK.pure hh ?_ (.agg cs cs'.toList h2)⟩
          simp [Instr.build, run_zeroValue' hti hz, run_underlying' hd, run_sizeOf' hei, h1]
        · cases hr
      · cases hr
    · cases hr
  · cases hr

theorem rep_len {α : Type} : ∀ (n : Nat) (l : List α), (rep n l).length = n * l.length
  | 0, l => by simp [rep]
  | n + 1, l => by simp [rep, rep_len n l, Nat.add_mul]; omega

theorem rep_get : ∀ (n : Nat) (l : List Value) (i : Nat), i < n * l.length → (rep n l)[i]? = l[i % l.length]?
  | 0, l, i, h => by simp at h
  | n + 1, l, i, h => by
    simp only [rep]
    by_cases hi : i < l.length
    · rw [List.getElem?_append_left hi, Nat.mod_eq_of_lt hi]
    · rw [List.getElem?_append_right (by omega), rep_get n l (i - l.length) (by rw [Nat.add_mul] at h; omega)]
      rw [Nat.mod_eq_sub_mod (a := i) (by omega)]

/-- n zero elements, as the model lays them -/
theorem zeros_eq (n : Nat) (z : Value) (s : Nat) (hs : z.cells.size = s) (hs0 : s ≠ 0 ∨ n = 0) :
    ((Array.range (n * s)).map (z.cells[· % z.cells.size]!)) = (rep n z.cells.toList).toArray := by
  apply Array.ext'
  apply List.ext_getElem?
  intro i
  rw [Array.getElem?_toList]
  by_cases hi : i < n * s
  · have hz : 0 < s := by rcases hs0 with h | h <;> (try subst h) <;> omega
    have hlt : i % s < s := Nat.mod_lt _ hz
    have e1 : (rep n z.cells.toList)[i]? = z.cells.toList[i % z.cells.toList.length]? := rep_get n _ i (by rw [Array.length_toList, hs]; exact hi)
    simp only [Array.getElem?_map, Array.getElem?_range, hi, if_true, Option.map_some, e1, Array.length_toList, hs]
    rw [Array.getElem?_toList, Array.getElem?_eq_getElem (by omega)]
    rw [getElem!_pos _ _ (by omega)]
  · rw [Array.getElem?_eq_none (by simp; omega), List.getElem?_eq_none (by simp [rep_len, hs]; omega)]

theorem vcells_eq {v : Value} : v.cells.toList = vcells v := by cases v <;> rfl

theorem buildSlice_ok {tm : Tm} {n : Nat} {a : Act} (ht : TR ρ tm n a.tmps) {t : TypeId} {len : Nat} {parts : Array (Nat × Operand)} {r : Res} (hh : HRel ρ h.heap.get w) (hf : Fresh ρ h.next (r.next h))
    (hr : abuildSlice P tm h t len parts.toList = some r) : ∃ v h', r = .val v h' ∧ ValOK P ρ h w (Instr.buildSlice t len (parts.map fun (i, x) => (i, a.eval x))) v h' := by
  unfold abuildSlice at hr
  split at hr
  · rename_i e ps hu hps
    have hpr := evParts_sound ht hps
    split at hr
    · rename_i i hi
      split at hr
      · rename_i z hz
        split at hr
        · rename_i cs hpz hsz hle hcs
          cases hr
          have hle' := Nat.le_of_ble_eq_true hle
          have hsz' := Nat.eq_of_beq_eq_true hsz
          have hzs : z.cells.size = i.size := by rw [← Array.length_toList, vcells_eq, hsz']
          have hrep : VRs ρ (rep len (vcells z)) (rep len (vcells z)).toArray.toList := by
            have : ∀ k, VRs ρ (rep k (vcells z)) (rep k (vcells z)) := by
              intro k
              induction k with
              | zero => exact .nil
              | succ k ih =>
                refine VRs.append ?_ ih
                have := (VR.of_plain hpz (ρ := ρ)).cells
                rw [vcells_eq] at this
                exact this
            simpa using this len
          obtain ⟨cs', h1, h2⟩ := fill_sound hpr hrep hcs
          refine ⟨_, _, rfl, ValOK.newBlk (v' := .slice (some ⟨w.heap.size, 0, none⟩) len len) hh hf h2 ?_ (VR.newSl _ _ _ _ _ rfl)⟩
          have hbig : ¬ len * i.size > 2 ^ 24 := by omega
          by_cases h0 : len * i.size = 0
          · have hnil : rep len (vcells z) = [] := by
              rw [← List.length_eq_zero_iff, rep_len, hsz']; exact h0
            rw [hnil] at h1
            have hr0 : ∀ f : Nat → Value, Array.map f (Array.range 0) = #[] := fun f => by simp [Array.range]
            simp [hr0, Instr.buildSlice, run_underlying' hu, run_sizeOf' hi, h0, h1, run_newRow]
          · have hcells : ((Array.range (len * i.size)).map (z.cells[· % z.cells.size]!)) = (rep len (vcells z)).toArray := by
              rw [zeros_eq len z i.size hzs (by
                rcases Nat.eq_zero_or_pos i.size with h | h
                · rw [h] at h0; simp at h0
                · left; omega), vcells_eq]
            simp only [Instr.buildSlice, Sem.run_bind, run_underlying' hu, Result.andThen_ok, run_sizeOf' hi, if_neg hbig, if_neg h0, run_zeroValue' hi hz, Sem.run_pure, hcells]
            simp [h1, run_newRow]
        · cases hr
      · cases hr
    · cases hr
  · cases hr

theorem partA_sound {t : TypeId} {cs : List Value} {cs' : List Value} {off : Nat} {v : Value} (hc : VRs ρ cs cs') (hp : partA P t cs off = some v) :
    ∃ v', (part t ⟨cs'⟩ off).run P w = .ok v' w ∧ VR ρ v v' := by
  unfold partA at hp
  split at hp
  · rename_i d hd
    split at hp
    · rename_i hag
      split at hp
      · rename_i i hi
        cases hp
        refine ⟨.agg (Array.extract ⟨cs'⟩ off (off + i.size)), by simp [part, run_isAgg' hd, hag, run_sizeOf' hi], ?_⟩
        have e : ∀ l : List Value, (Array.extract ⟨l⟩ off (off + i.size)) = ⟨(l.drop off).take i.size⟩ := fun l => by
          apply Array.ext'
          simp [List.extract]
        rw [e, e]
        refine .agg _ _ (VRs.of_get (by simp [hc.length]) fun j u hj => ?_)
        have hjs : j < i.size := by
          rcases Nat.lt_or_ge j i.size with h' | h'
          · exact h'
          · rw [List.getElem?_take_eq_none h'] at hj; cases hj
        rw [List.getElem?_take_of_lt hjs, List.getElem?_drop] at hj ⊢
        exact hc.get hj
      · cases hp
    · rename_i hag
      rw [nth_spec] at hp
      obtain ⟨v', h1, h2⟩ := hc.get hp
      refine ⟨v', ?_, h2⟩
      simp [part, run_isAgg' hd, hag, h1]
  · cases hp

theorem field_ok {t : TypeId} {x x' : Value} {f : Nat} {r : Res} (hh : HRel ρ h.heap.get w) (hx : VR ρ x x') (hr : afield P h t x f = some r) : ∃ v, r = .val v h ∧ ValOK P ρ h w (Instr.field t x' f) v h := by
  unfold afield at hr
  split at hr
  · rename_i fields cs hu
    split at hr
    · rename_i fd hfd
      split at hr
      · rename_i v hv
        cases hr
        cases hx with
        | sc _ hs => simp [simple] at hs
        | agg a a' hc =>
          obtain ⟨v', h1, h2⟩ := partA_sound (P := P) (w := w) hc hv
          have hfd' : fields[f]? = some fd := by rw [← hfd, fieldOf, nth_spec, Array.getElem?_toList]
          exact ⟨v, rfl, ValOK.pure hh (by simp [Instr.field, run_underlying' hu, hfd', asAgg, h1]) h2⟩
      · cases hr
    · cases hr
  · cases hr

theorem fieldAddr_ok {t : TypeId} {x x' : Value} {f : Nat} {r : Res} (hh : HRel ρ h.heap.get w) (hx : VR ρ x x') (hr : afieldAddr P h t x f = some r) : ∃ v, r = .val v h ∧ ValOK P ρ h w (Instr.fieldAt t x' f) v h := by
  unfold afieldAddr at hr
  split at hr
  · rename_i fields a hu
    split at hr
    · rename_i fd hfd hsp
      split at hr
      · rename_i i hi
        split at hr
        · cases hr
        · rename_i m hm
          cases hr
          cases hx with
          | sc _ hs => simp [simple] at hs
          | ptr b o L hL =>
            have hfd' : fields[f]? = some fd := by rw [← hfd, fieldOf, nth_spec, Array.getElem?_toList]
            refine ⟨_, rfl, ValOK.pure hh (v' := .pointer (some ⟨L.φ, L.δ + o + fd.offset, none⟩)) ?_ ?_⟩
            · simp [Instr.fieldAt, run_underlying' hu, hfd', Instr.sureAddr, fieldPlace, run_sizeOf' hi, hm, addr_add]
            · have := VR.ptr (ρ := ρ) b (o + fd.offset) L hL
              rw [Nat.add_assoc]; exact this
      · cases hr
    · cases hr
  · cases hr

theorem extract_ok {x x' : Value} {i : Nat} {r : Res} (hh : HRel ρ h.heap.get w) (hx : VR ρ x x') (hr : aextract h x i = some r) : ∃ v, r = .val v h ∧ ValOK P ρ h w (Instr.extract x' i) v h := by
  unfold aextract at hr
  split at hr
  · rename_i vs
    split at hr
    · rename_i v hv
      cases hr
      rw [nth_spec] at hv
      cases hx with
      | sc _ hs => simp [simple] at hs
      | tuple a a' hc =>
        obtain ⟨v', h1, h2⟩ := hc.get hv
        exact ⟨v, rfl, ValOK.pure hh (by simp [Instr.extract, h1]) h2⟩
    · cases hr
  · cases hr

theorem indexAddr_ok {t : TypeId} {x x' i i' : Value} {r : Res} (hh : HRel ρ h.heap.get w) (hx : VR ρ x x') (hi : VR ρ i i') (hr : aindexAddr P h t x i = some r) : ∃ v, r = .val v h ∧ ValOK P ρ h w (Instr.indexAt t x' i') v h := by
  unfold aindexAddr at hr
  split at hr
  · rename_i n e a k j hu
    split at hr
    · rename_i ei hei hsp hlt
      cases hr
      cases hi with
      | sc _ _ =>
        cases hx with
        | sc _ hs => simp [simple] at hs
        | ptr b o L hL =>
          have hlt' : j < n := by simpa [Nat.blt_eq] using hlt
          refine ⟨_, rfl, ValOK.pure hh (v' := .pointer (some ⟨L.φ, L.δ + o + j * ei.size, none⟩)) ?_ ?_⟩
          · simp [Instr.indexAt, asIntOf, run_underlying' hu, Instr.sureAddr, run_sizeOf' hei, addr_add, hlt']
          · have := VR.ptr (ρ := ρ) b (o + j * ei.size) L hL
            rw [Nat.add_assoc]; exact this
    · cases hr
  · rename_i e a n c k j hu
    split at hr
    · rename_i ei hei hsp hlt
      cases hr
      cases hi with
      | sc _ _ =>
        cases hx with
        | sc _ hs => simp [simple] at hs
        | sl b o m c L hL =>
          have hlt' : j < n := by simpa [Nat.blt_eq] using hlt
          refine ⟨_, rfl, ValOK.pure hh (v' := .pointer (some ⟨L.φ, L.δ + o + j * ei.size, none⟩)) ?_ ?_⟩
          · simp [Instr.indexAt, asIntOf, run_underlying' hu, run_sizeOf' hei, addr_add, hlt']
          · have := VR.ptr (ρ := ρ) b (o + j * ei.size) L hL
            rw [Nat.add_assoc]; exact this
    · cases hr
  · cases hr

theorem byteArray_get (s : ByteArray) (i : Nat) : s[i]? = s.data.toList[i]? := by
  rw [Array.getElem?_toList]
  simp only [getElem?_def]
  rfl

theorem index_ok {t : TypeId} {x x' i i' : Value} {r : Res} (hh : HRel ρ h.heap.get w) (hx : VR ρ x x') (hi : VR ρ i i') (hr : aindex P h t x i = some r) : ∃ v, r = .val v h ∧ ValOK P ρ h w (Instr.index t x' i') v h := by
  unfold aindex at hr
  split at hr
  · rename_i n e cs k j hu
    split at hr
    · rename_i ei hei hlt
      split at hr
      · rename_i v hv
        cases hr
        cases hi with
        | sc _ _ =>
          cases hx with
          | sc _ hs => simp [simple] at hs
          | agg a a' hc =>
            obtain ⟨v', h1, h2⟩ := partA_sound (P := P) (w := w) hc hv
            have hlt' : j < n := by simpa [Nat.blt_eq] using hlt
            exact ⟨v, rfl, ValOK.pure hh (by simp [Instr.index, asIntOf, run_underlying' hu, run_sizeOf' hei, hlt', h1]) h2⟩
      · cases hr
    · cases hr
  · rename_i s k j hu
    split at hr
    · rename_i b hb
      cases hr
      cases hi with
      | sc _ _ =>
        cases hx with
        | sc _ hs =>
          rw [nth_spec] at hb
          refine ⟨_, rfl, ValOK.pure hh (v' := .int .u8 b.toNat) ?_ (.sc _ rfl)⟩
          have hb' : s[j]? = some b := by rw [byteArray_get]; exact hb
          simp [Instr.index, asIntOf, run_underlying' hu, hb']
    · cases hr
  · cases hr

end
end Go.AV
