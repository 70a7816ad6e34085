/-
  The operations' soundness, ninth part: maps and iterators.
-/
import Derived.Test.YthecahanniaggaaAvOpH
namespace Go.AV

section
variable {P : Program} {ρ : Ren} {w : World} {h : Hs}

theorem ERs.length : ∀ {l l' : List MapEntry}, ERs ρ l l' → l'.length = l.length
  | _, _, .nil => rfl
  | _, _, .cons _ _ _ _ _ k => by simp [ERs.length k]

theorem ERs.get : ∀ {l l' : List MapEntry}, ERs ρ l l' → ∀ {i : Nat} {e : MapEntry}, l[i]? = some e → ∃ e', l'[i]? = some e' ∧ ER ρ e e'
  | _, _, .nil, i, e, h => by simp at h
  | _, _, .cons a a' l l' h k, 0, e, he => by simp at he; subst he; exact ⟨a', rfl, h⟩
  | _, _, .cons a a' l l' h k, i + 1, e, he => by simp at he; simpa using ERs.get k he

theorem ERs.append : ∀ {a a' b b' : List MapEntry}, ERs ρ a a' → ERs ρ b b' → ERs ρ (a ++ b) (a' ++ b')
  | _, _, _, _, .nil, k => k
  | _, _, _, _, .cons v v' l l' h r, k => .cons v v' _ _ h (ERs.append r k)

/-- what is found by the look that asks nothing is what is found by asking -/
theorem sameNow_prun {kt : TypeId} {d : TypeDesc} {x y : Value} {b b' : Bool} (hu : P.underlying kt = some d) (h1 : Instr.sameNow d x y = some b) (h2 : prun P (Op.equal kt x y) = some b') : b' = b := by
  have hr := prun_sound h2 default
  rw [equal_succ, Op.equalIn] at hr
  simp only [Sem.run_bind, run_underlying' hu, Result.andThen_ok] at hr
  unfold Instr.sameNow at h1
  split at h1
  · split at h1
    · rename_i he
      cases h1
      simp [he] at hr
      exact hr.symm
    · cases h1
  · cases h1
    simp at hr
    exact hr.symm
  · cases h1
    simp at hr
    exact hr.symm
  · cases h1

def FoundR (ρ : Ren) : Option (Nat × Value) → Option (Nat × Value) → Prop
  | none, r' => r' = none
  | some (j, v), r' => ∃ v', r' = some (j, v') ∧ VR ρ v v'

theorem findE_sound {kt : TypeId} {k : Value} (hk : plainV k = true) : ∀ {es es' : List MapEntry} {i : Nat} {r : Option (Nat × Value)}, ERs ρ es es' → findE P kt k es i = some r →
    ∃ r', (∀ w, (Instr.findAsking kt k es' i).run P w = .ok r' w) ∧ (∀ d r'', P.underlying kt = some d → Instr.findNow d k es' i = some r'' → r'' = r') ∧
      FoundR ρ r r'
  | _, _, i, r, .nil, hf => by
    simp only [findE, Option.some.injEq] at hf
    subst hf
    exact ⟨none, fun w => by simp [Instr.findAsking], fun d r'' _ hn => by simp only [Instr.findNow, Option.some.injEq] at hn; exact hn.symm, rfl⟩
  | _, _, i, r, .cons e e' l l' he hl, hf => by
    simp only [findE] at hf
    split at hf
    · rename_i hp
      have hkey := he.1.plain hp
      split at hf
      · rename_i hq
        cases hf
        refine ⟨some (i, e'.val), fun w => ?_, fun d r'' hu hn => ?_, e'.val, rfl, he.2.1⟩
        · have := prun_sound hq w
          simp only [Instr.findAsking, Sem.run_bind, hkey, this, Result.andThen_ok, if_true, Sem.run_pure]
        · simp only [Instr.findNow, hkey] at hn
          split at hn
          · cases hn; rfl
          · rename_i hs
            have := sameNow_prun hu hs hq
            cases this
          · cases hn
      · rename_i hq
        obtain ⟨r', h1, h2, h3⟩ := findE_sound hk hl hf
        refine ⟨r', fun w => ?_, fun d r'' hu hn => ?_, h3⟩
        · have := prun_sound hq w
          simp only [Instr.findAsking, Sem.run_bind, hkey, this, Result.andThen_ok, Bool.false_eq_true, if_false, h1 w]
        · simp only [Instr.findNow, hkey] at hn
          split at hn
          · rename_i hs
            have := sameNow_prun hu hs hq
            cases this
          · exact h2 d r'' hu hn
          · cases hn
      · cases hf
    · cases hf

theorem findKey_run {kt : TypeId} {k : Value} (hk : plainV k = true) {es es' : List MapEntry} {r : Option (Nat × Value)} (hE : ERs ρ es es') (hf : findE P kt k es 0 = some r) {d : TypeDesc} (hu : P.underlying kt = some d) :
    ∃ r', (∀ w, (Instr.findKey kt k es').run P w = .ok r' w) ∧ FoundR ρ r r' := by
  obtain ⟨r', h1, h2, h3⟩ := findE_sound hk hE hf
  refine ⟨r', fun w => ?_, h3⟩
  simp only [Instr.findKey, Sem.run_bind, run_underlying' hu, Result.andThen_ok]
  split
  · rename_i r'' hn
    rw [h2 d r'' hu hn]; rfl
  · exact h1 w


theorem akey_sound {kt : TypeId} {k k' : Value} (hk : VR ρ k k') (ha : akey P kt k = true) : k' = k ∧ plainV k = true ∧ ∀ b w, (Instr.checkKey b 10000 kt k).run P w = .ok () w := by
  unfold akey at ha
  split at ha
  · rename_i hp
    split at ha
    · rename_i h1 h2
      exact ⟨hk.plain hp, hp, fun b w => by cases b; exact prun_sound h1 w; exact prun_sound h2 w⟩
    · cases ha
  · cases ha

theorem getMap_run {b : Nat} {L : Loc} {es : List MapEntry} {ck : Nat} (hh : HRel ρ h.heap.get w) (hb : h.heap.get b = some (.map es ck)) (hL : ρ b = some L) :
    ∃ es' : Array MapEntry, w.heap[L.φ]? = some (.map es' ck) ∧ (getObj L.φ).run P w = .ok (.map es' ck) w ∧ ERs ρ es es'.toList := by
  obtain ⟨L0, x, hL0, hx0, hR⟩ := hh.obj _ _ hb
  rw [hL] at hL0; cases hL0
  cases x <;> simp only [OR] at hR <;> first | exact hR.elim | skip
  rename_i es' ck'
  obtain ⟨h1, rfl⟩ := hR
  exact ⟨es', hx0, by simp [getObj, Sem.run, hx0], h1⟩

theorem setObj_run {r : Nat} {x o : Obj} (hx : w.heap[r]? = some x) (hc : ∀ c e f, x ≠ .cells c e f) : ∃ w', (setObj r o).run P w = .ok () w' ∧ WUpd w w' r o := by
  refine ⟨{ w with heap := w.heap.setIfInBounds r o }, ?_, ⟨rfl, rfl, rfl, by simp, fun k hk => ?_, ?_⟩⟩
  · simp only [setObj, Sem.run, hx]
  · show (w.heap.setIfInBounds r o)[k]? = _
    rw [Array.getElem?_setIfInBounds_ne (by omega)]
  · show (w.heap.setIfInBounds r o)[r]? = _
    have := (Array.getElem?_eq_some_iff.1 hx).1
    simp [this]

theorem akey_under {kt : TypeId} {k : Value} (h : ∀ b w, (Instr.checkKey b 10000 kt k).run P w = .ok () w) : ∃ d, P.underlying kt = some d := by
  cases hu : P.underlying kt with
  | some d => exact ⟨d, rfl⟩
  | none =>
    have := h true default
    rw [show (10000 : Nat) = 9999 + 1 from rfl, Instr.checkKey] at this
    simp [underlying, hu] at this

theorem zero_ok {e : TypeId} {i : TypeInfo} {z : Value} (hi : P.info? e = some i) (hz : i.zero = some z) : (zeroValue e).run P w = .ok z w := run_zeroValue' hi hz

theorem lookup_ok {t : TypeId} {m m' k k' : Value} {ok : Bool} {r : Res} (hh : HRel ρ h.heap.get w) (hm : VR ρ m m') (hk : VR ρ k k') (hr : alookup P h t m k ok = some r) : ∃ v, r = .val v h ∧ ValOK P ρ h w (Instr.lookup t m' k' ok) v h := by
  unfold alookup at hr
  split at hr
  · rename_i kt e hu
    split at hr
    · rename_i es hak hes
      obtain ⟨rfl, hp, hck⟩ := akey_sound hk hak
      obtain ⟨kd, hkd⟩ := akey_under hck
      have key : ∀ r', (∃ es' : Array MapEntry, ERs ρ es es'.toList ∧ (∀ w, (Instr.findKey kt k' es'.toList).run P w = .ok r' w)) → FoundR ρ (none : Option (Nat × Value)) r' ∨ True := fun _ _ => .inr trivial
      -- what the map holds
      have hold : ∃ es' : Array MapEntry, ERs ρ es es'.toList ∧ ∀ r' : Option (Nat × Value), (∀ w, (Instr.findKey kt k' es'.toList).run P w = .ok r' w) → ∀ v', (match r' with
            | some (_, v) => v' = (if ok then .tuple #[v, .bool true] else v)
            | none => ∃ z, (zeroValue e).run P w = .ok z w ∧ v' = (if ok then .tuple #[z, .bool false] else z)) → (Instr.lookup t m' k' ok).run P w = .ok v' w := by
        unfold amap at hes
        split at hes
        · cases hes
          cases hm
          refine ⟨#[], .nil, fun r' hf v' hv => ?_⟩
          cases r' with
          | none =>
            obtain ⟨z, hz, rfl⟩ := hv
            simp only [Instr.lookup, Sem.run_bind, run_underlying' hu, Result.andThen_ok, Sem.run_pure, hck, hf, hz]
          | some x =>
            obtain ⟨j, v⟩ := x
            simp only at hv
            subst hv
            simp only [Instr.lookup, Sem.run_bind, run_underlying' hu, Result.andThen_ok, Sem.run_pure, hck, hf]
        · split at hes
          · rename_i b es ck hb
            cases hes
            cases hm with
            | sc _ hs => simp [simple] at hs
            | map _ L hL =>
              obtain ⟨es', h1, h2, h3⟩ := getMap_run (P := P) hh hb hL
              refine ⟨es', h3, fun r' hf v' hv => ?_⟩
              cases r' with
              | none =>
                obtain ⟨z, hz, rfl⟩ := hv
                simp only [Instr.lookup, Sem.run_bind, run_underlying' hu, Result.andThen_ok, Sem.run_pure, h2, hck, hf, hz]
              | some x =>
                obtain ⟨j, v⟩ := x
                simp only at hv
                subst hv
                simp only [Instr.lookup, Sem.run_bind, run_underlying' hu, Result.andThen_ok, Sem.run_pure, h2, hck, hf]
          · cases hes
        · cases hes
      obtain ⟨es', hE, hold⟩ := hold
      split at hr
      · rename_i j v hf
        cases hr
        obtain ⟨r', h1, v', rfl, hv⟩ := findKey_run hp hE hf hkd
        refine ⟨_, rfl, ValOK.pure hh (hold _ h1 _ rfl) ?_⟩
        cases ok
        · exact hv
        · exact .tuple _ _ (.cons _ _ _ _ hv (.one (.sc _ rfl)))
      · rename_i hf
        obtain ⟨r', h1, h2⟩ := findKey_run hp hE hf hkd
        have h2 : r' = none := h2
        subst h2
        split at hr
        · rename_i i hi
          split at hr
          · rename_i z hz
            split at hr
            · rename_i hpz
              cases hr
              refine ⟨_, rfl, ValOK.pure hh (hold _ h1 _ ⟨z, run_zeroValue' hi hz, rfl⟩) ?_⟩
              cases ok
              · exact VR.of_plain hpz
              · exact .tuple _ _ (.cons _ _ _ _ (VR.of_plain hpz) (.one (.sc _ rfl)))
            · cases hr
          · cases hr
        · cases hr
      · cases hr
    · cases hr
  · cases hr

theorem modify_toList (f : MapEntry → MapEntry) : ∀ (l : List MapEntry) (i : Nat), (l.toArray.modify i f).toList = l.modify i f := by
  intro l i
  simp

theorem setKV_sound {k x x' : Value} (hk : plainV k = true) (hx : VR ρ x x') : ∀ {es es' : List MapEntry} {i : Nat}, ERs ρ es es' → ERs ρ (setKV i k x es) (es'.modify i fun e => { e with key := k, val := x' })
  | _, _, i, .nil => by cases i <;> simpa [setKV] using ERs.nil
  | _, _, 0, .cons e e' l l' he hl => by simpa [setKV] using ERs.cons _ _ _ _ (show ER ρ { e with key := k, val := x } { e' with key := k, val := x' } from ⟨VR.of_plain hk, hx, he.2.2⟩) hl
  | _, _, i + 1, .cons e e' l l' he hl => by simpa [setKV] using ERs.cons _ _ _ _ he (setKV_sound hk hx hl)

theorem setK_sound {k : Value} (hk : plainV k = true) : ∀ {es es' : List MapEntry} {i : Nat}, ERs ρ es es' → ERs ρ (setK i k es) (es'.modify i fun e => { e with key := k })
  | _, _, i, .nil => by cases i <;> simpa [setK] using ERs.nil
  | _, _, 0, .cons e e' l l' he hl => by simpa [setK] using ERs.cons _ _ _ _ (show ER ρ { e with key := k } { e' with key := k } from ⟨VR.of_plain hk, he.2.1, he.2.2⟩) hl
  | _, _, i + 1, .cons e e' l l' he hl => by simpa [setK] using ERs.cons _ _ _ _ he (setK_sound hk hl)

theorem setVal_sound {x x' : Value} (hx : VR ρ x x') : ∀ {es es' : List MapEntry} {i : Nat}, ERs ρ es es' → ERs ρ (setVal i x es) (es'.modify i fun e => { e with val := x' })
  | _, _, i, .nil => by cases i <;> simpa [setVal] using ERs.nil
  | _, _, 0, .cons e e' l l' he hl => by simpa [setVal] using ERs.cons _ _ _ _ (show ER ρ { e with val := x } { e' with val := x' } from ⟨he.1, hx, he.2.2⟩) hl
  | _, _, i + 1, .cons e e' l l' he hl => by simpa [setVal] using ERs.cons _ _ _ _ he (setVal_sound hx hl)

theorem dropAt_sound : ∀ {es es' : List MapEntry} {i : Nat}, ERs ρ es es' → ERs ρ (dropAt i es) (es'.eraseIdx i)
  | _, _, i, .nil => by cases i <;> simpa [dropAt] using ERs.nil
  | _, _, 0, .cons e e' l l' he hl => by simpa [dropAt] using hl
  | _, _, i + 1, .cons e e' l l' he hl => by simpa [dropAt] using ERs.cons _ _ _ _ he (dropAt_sound hl)

/-- a map object is written anew -/
theorem setMap_ok {b : Nat} {L : Loc} {es es2 : List MapEntry} {ck ck2 : Nat} {es2' : Array MapEntry} (hh : HRel ρ h.heap.get w) (hb : h.heap.get b = some (.map es ck)) (hL : ρ b = some L) (hE : ERs ρ es2 es2'.toList) :
    ∃ w', (setObj L.φ (.map es2' ck2)).run P w = .ok () w' ∧ HRel ρ (h.heap.set b (.map es2 ck2)).get w' ∧ ∀ lo hi, Step ρ h.heap.get w ρ (h.heap.set b (.map es2 ck2)).get w' lo hi := by
  obtain ⟨es', h1, _, _⟩ := getMap_run (P := P) hh hb hL
  obtain ⟨w', hr, hu⟩ := setObj_run (P := P) (o := .map es2' ck2) h1 (fun _ _ _ h => by cases h)
  exact ⟨w', hr, hh.upd hb rfl hL hu (show OR ρ L (.map es2 ck2) (.map es2' ck2) from ⟨hE, rfl⟩) (fun j => T.get_set _ _ _ _), fun lo hi => Step.upd hb rfl hL hu (fun j => T.get_set _ _ _ _) lo hi⟩

theorem keep_run {k : Value} {es : List MapEntry} {arr : Array MapEntry} {e : MapEntry} {j : Nat} (hs : (plainV e.key && Instr.sameBits 10000 e.key k) = true) (hE : ERs ρ es arr.toList) (he : es[j]? = some e) :
    (Instr.keyThatStays (((arr[j]?).map (·.key)).getD k) k).run P w = .ok k w := by
  obtain ⟨e', he', hER⟩ := hE.get he
  rw [Array.getElem?_toList] at he'
  simp only [Bool.and_eq_true] at hs
  have := hER.1.plain hs.1
  simp only [he', Option.map_some, Option.getD_some, this, Instr.keyThatStays, hs.2, if_true, Sem.run_pure]

theorem mapUpdate_ok {t : TypeId} {m m' k k' x x' : Value} {r : Res} (hh : HRel ρ h.heap.get w) (hm : VR ρ m m') (hk : VR ρ k k') (hx : VR ρ x x') (hr : amapUpdate P h t m k x = some r) : ∃ h', r = .skip h' ∧ UnitOK P ρ h w (Instr.mapUpdate t m' k' x') h' := by
  unfold amapUpdate at hr
  split at hr
  · rename_i kt e b hu
    split at hr
    · rename_i es ck hak hb
      obtain ⟨rfl, hp, hck⟩ := akey_sound hk hak
      obtain ⟨kd, hkd⟩ := akey_under hck
      cases hm with
      | sc _ hs => simp [simple] at hs
      | map _ L hL =>
        obtain ⟨es', h1, h2, hE⟩ := getMap_run (P := P) hh hb hL
        split at hr
        · rename_i j v hf
          obtain ⟨r', h3, v', rfl, hv⟩ := findKey_run hp hE hf hkd
          split at hr
          · rename_i e0 he0
            split at hr
            · rename_i hsb
              cases hr
              rw [nth_spec] at he0
              have hkeep := keep_run (P := P) (w := w) (k := k') hsb hE he0
              obtain ⟨w', h4, h5, h6⟩ := setMap_ok (P := P) (ck2 := ck) (es2' := es'.modify j fun e => { e with key := k', val := x' }) hh hb hL (by
                rw [Array.toList_modify]; exact setKV_sound hp hx hE)
              refine ⟨_, rfl, ρ, w', ?_, h5, h6 _ _⟩
              simp only [Instr.mapUpdate, Sem.run_bind, run_underlying' hu, Result.andThen_ok, h2, hck, h3, hkeep, h4]
            · cases hr
          · cases hr
        · rename_i hf
          cases hr
          obtain ⟨r', h3, h3'⟩ := findKey_run hp hE hf hkd
          have h3' : r' = none := h3'
          subst h3'
          obtain ⟨w', h4, h5, h6⟩ := setMap_ok (P := P) (ck2 := ck + 1) (es2' := es'.push { key := k', val := x', born := ck }) hh hb hL (by
            rw [Array.toList_push]; exact hE.append (ERs.cons { key := k', val := x, born := ck } _ _ _ ⟨VR.of_plain hp, hx, rfl⟩ .nil))
          refine ⟨_, rfl, ρ, w', ?_, h5, h6 _ _⟩
          simp only [Instr.mapUpdate, Sem.run_bind, run_underlying' hu, Result.andThen_ok, h2, hck, h3, h4]
        · cases hr
    · cases hr
  · cases hr


theorem mapEntry_ok {t : TypeId} {m m' k k' : Value} {r : Res} (hh : HRel ρ h.heap.get w) (hm : VR ρ m m') (hk : VR ρ k k') (hr : amapEntry P h t m k = some r) : ∃ v h', r = .val v h' ∧ h'.next = h.next ∧ ValOK P ρ h w (Instr.mapEntry t m' k') v h' := by
  unfold amapEntry at hr
  split at hr
  · rename_i kt e b hu
    split at hr
    · rename_i es ck hak hb
      obtain ⟨rfl, hp, hck⟩ := akey_sound hk hak
      obtain ⟨kd, hkd⟩ := akey_under hck
      cases hm with
      | sc _ hs => simp [simple] at hs
      | map _ L hL =>
        obtain ⟨es', h1, h2, hE⟩ := getMap_run (P := P) hh hb hL
        split at hr
        · rename_i j v hf
          obtain ⟨r', h3, v', rfl, hv⟩ := findKey_run hp hE hf hkd
          split at hr
          · rename_i e0 he0
            split at hr
            · rename_i hsb
              cases hr
              rw [nth_spec] at he0
              have hkeep := keep_run (P := P) (w := w) (k := k') hsb hE he0
              obtain ⟨e0', he0', hER⟩ := hE.get he0
              obtain ⟨w', h4, h5, h6⟩ := setMap_ok (P := P) (ck2 := ck) (es2' := es'.modify j fun e => { e with key := k' }) hh hb hL (by
                rw [Array.toList_modify]; exact setK_sound hp hE)
              refine ⟨_, _, rfl, rfl, ρ, .tuple #[v', goInt e0.born], w', ?_, .tuple _ _ (.cons _ _ _ _ hv (.one (.sc _ rfl))), h5, h6 _ _⟩
              have hborn : ((es'[j]?).map (fun x => (x.born : Int))).getD 0 = (e0.born : Int) := by
                rw [Array.getElem?_toList] at he0'
                simp [he0', hER.2.2]
              simp only [Instr.mapEntry, Sem.run_bind, run_underlying' hu, Result.andThen_ok, h2, hck, h3, hkeep, h4, hborn, Sem.run_pure]
            · cases hr
          · cases hr
        · rename_i hf
          obtain ⟨r', h3, h3'⟩ := findKey_run hp hE hf hkd
          have h3' : r' = none := h3'
          subst h3'
          split at hr
          · rename_i i hi
            split at hr
            · rename_i z hz
              split at hr
              · rename_i hpz
                cases hr
                obtain ⟨w', h4, h5, h6⟩ := setMap_ok (P := P) (ck2 := ck + 1) (es2' := es'.push { key := k', val := z, born := ck }) hh hb hL (by
                  rw [Array.toList_push]; exact hE.append (ERs.cons { key := k', val := z, born := ck } _ _ _ ⟨VR.of_plain hp, VR.of_plain hpz, rfl⟩ .nil))
                refine ⟨_, _, rfl, rfl, ρ, .tuple #[z, goInt ck], w', ?_, .tuple _ _ (.cons _ _ _ _ (VR.of_plain hpz) (.one (.sc _ rfl))), h5, h6 _ _⟩
                simp only [Instr.mapEntry, Sem.run_bind, run_underlying' hu, Result.andThen_ok, h2, hck, h3, run_zeroValue' hi hz, h4, Sem.run_pure]
              · cases hr
            · cases hr
          · cases hr
        · cases hr
    · cases hr
  · cases hr

theorem bornAt_sound {s : Int} : ∀ {es es' : List MapEntry} {i j : Nat}, ERs ρ es es' → bornAt s es i = some j → i ≤ j ∧ es'.findIdx? (fun e => (e.born : Int) == s) = some (j - i)
  | _, _, i, j, .nil, hb => by simp [bornAt] at hb
  | _, _, i, j, .cons e e' l l' he hl, hb => by
    simp only [bornAt] at hb
    split at hb
    · rename_i hd
      cases hb
      have : ((e'.born : Int) == s) = true := by rw [he.2.2]; simpa using hd
      simp [List.findIdx?_cons, this]
    · rename_i hd
      obtain ⟨h1, h2⟩ := bornAt_sound hl hb
      have : ((e'.born : Int) == s) = false := by rw [he.2.2]; simpa using hd
      refine ⟨by omega, ?_⟩
      rw [List.findIdx?_cons, this]
      simp only [Bool.false_eq_true, if_false, h2, Option.map_some]
      congr 1
      omega

theorem entryStore_ok {t : TypeId} {m m' s s' x x' : Value} {r : Res} (hh : HRel ρ h.heap.get w) (hm : VR ρ m m') (hs : VR ρ s s') (hx : VR ρ x x') (hr : aentryStore h m s x = some r) : ∃ h', r = .skip h' ∧ h'.next = h.next ∧ UnitOK P ρ h w (Instr.entryStore t m' s' x') h' := by
  unfold aentryStore at hr
  split at hr
  · rename_i b k s
    split at hr
    · rename_i es ck hb
      split at hr
      · rename_i i hi
        cases hr
        cases hs
        cases hm with
        | sc _ hs => simp [simple] at hs
        | map _ L hL =>
          obtain ⟨es', h1, h2, hE⟩ := getMap_run (P := P) hh hb hL
          obtain ⟨_, hfi⟩ := bornAt_sound hE hi
          obtain ⟨w', h4, h5, h6⟩ := setMap_ok (P := P) (ck2 := ck) (es2' := es'.modify i fun e => { e with val := x' }) hh hb hL (by
            rw [Array.toList_modify]; exact setVal_sound hx hE)
          refine ⟨_, rfl, rfl, ρ, w', ?_, h5, h6 _ _⟩
          have hfi' : es'.findIdx? (fun e => (e.born : Int) == s) = some i := by
            obtain ⟨l⟩ := es'
            simpa using hfi
          have has : (asInt (.int k s)).run P w = .ok s w := rfl
          simp only [Instr.entryStore, Sem.run_bind, h2, Result.andThen_ok, has, hfi', h4]
      · cases hr
    · cases hr
  · cases hr

theorem range_ok {t : TypeId} {x x' : Value} {r : Res} (hh : HRel ρ h.heap.get w) (hf : Fresh ρ h.next (r.next h)) (hx : VR ρ x x') (hr : arange P h t x = some r) : ∃ v h', r = .val v h' ∧ ValOK P ρ h w (Instr.range t x') v h' := by
  unfold arange at hr
  split at hr
  · rename_i s hu
    cases hr
    cases hx
    exact ⟨_, _, rfl, ValOK.new (x := .stringIter s 0) (δ := 0) (ψ := 0) hh hf (by simp [Instr.range, run_underlying' hu]) ⟨rfl, rfl, rfl⟩ (VR.newPtr _ _ _ rfl)⟩
  · rename_i k e hu
    cases hr
    cases hx
    exact ⟨_, _, rfl, ValOK.new (x := .mapIter none 0 #[] 0) (δ := 0) (ψ := 0) hh hf (by simp [Instr.range, run_underlying' hu]) ⟨rfl, rfl, rfl, rfl, rfl⟩ (VR.newPtr _ _ _ rfl)⟩
  · rename_i k e b hu
    split at hr
    · rename_i es ck hb
      cases hr
      cases hx with
      | sc _ hs => simp [simple] at hs
      | map _ L hL =>
        obtain ⟨es', h1, h2, hE⟩ := getMap_run (P := P) hh hb hL
        have hn : ρ h.next = none := hf _ (Nat.le_refl _) (Nat.lt_succ_self _)
        exact ⟨_, _, rfl, ValOK.new (x := .mapIter (some L.φ) ck #[] ck) (δ := 0) (ψ := 0) hh hf (by simp [Instr.range, run_underlying' hu, h2]) ⟨⟨L, Ren.set_le _ hn _ _ hL, rfl⟩, rfl, rfl, rfl, rfl⟩ (VR.newPtr _ _ _ rfl)⟩
    · cases hr
  · cases hr

theorem memN_spec {n : Nat} : ∀ {l : List Nat}, memN n l = true ↔ n ∈ l
  | [] => by simp [memN]
  | m :: l => by
    simp only [memN]
    split
    · rename_i h; have := Nat.eq_of_beq_eq_true h; simp [this]
    · rename_i h
      have : n ≠ m := by rintro rfl; simp at h
      rw [memN_spec]; simp [this]

theorem leftE_sound {seen : List Nat} {seen' : Array Nat} (hs : seen'.toList = seen.reverse) : ∀ {es es' : List MapEntry}, ERs ρ es es' → ERs ρ (leftE seen es) (es'.filter fun e => !seen'.contains e.born)
  | _, _, .nil => by simpa [leftE] using ERs.nil
  | _, _, .cons e e' l l' he hl => by
    have ih := leftE_sound hs hl
    have hc : seen'.contains e'.born = memN e.born seen := by
      rw [Bool.eq_iff_iff, memN_spec, Array.contains_iff_mem, ← Array.mem_toList_iff, hs, List.mem_reverse, he.2.2]
    simp only [leftE]
    split
    · rename_i h
      rw [List.filter_cons, if_neg (by rw [hc, h]; decide)]; exact ih
    · rename_i h
      rw [List.filter_cons, if_pos (by rw [hc, h]; rfl)]; exact .cons _ _ _ _ he ih

end
end Go.AV
