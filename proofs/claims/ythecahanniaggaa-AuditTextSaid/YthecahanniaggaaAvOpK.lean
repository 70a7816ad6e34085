/-
  The operations' soundness, eleventh part: builtins as one, calls, deferred calls, all operations.
-/
import Derived.Test.YthecahanniaggaaAvOpJ
namespace Go.AV

section
variable {P : Program} {ρ : Ren} {w : World} {h : Hs}

theorem ResOK.ofV {s : Sem Value} {r : Res} (hv : ∃ v h', r = .val v h' ∧ ValOK P ρ h w s v h') : ResOK P ρ h w (do pure (.value (← s))) r := by
  obtain ⟨v, h', rfl, hv⟩ := hv
  exact ResOK.ofVal hv

theorem ResOK.ofV1 {s : Sem Value} {r : Res} (hv : ∃ v, r = .val v h ∧ ValOK P ρ h w s v h) : ResOK P ρ h w (do pure (.value (← s))) r := by
  obtain ⟨v, rfl, hv⟩ := hv
  exact ResOK.ofVal hv

theorem ResOK.ofV2 {s : Sem Value} {r : Res} (hv : ∃ v h', r = .val v h' ∧ h'.next = h.next ∧ ValOK P ρ h w s v h') : ResOK P ρ h w (do pure (.value (← s))) r := by
  obtain ⟨v, h', rfl, _, hv⟩ := hv
  exact ResOK.ofVal hv

theorem ResOK.ofU {s : Sem Unit} {r : Res} (hv : ∃ h', r = .skip h' ∧ UnitOK P ρ h w s h') : ResOK P ρ h w (do s; pure .skip) r := by
  obtain ⟨h', rfl, hv⟩ := hv
  exact ResOK.ofUnit hv

theorem ResOK.ofU2 {s : Sem Unit} {r : Res} (hv : ∃ h', r = .skip h' ∧ h'.next = h.next ∧ UnitOK P ρ h w s h') : ResOK P ρ h w (do s; pure .skip) r := by
  obtain ⟨h', rfl, _, hv⟩ := hv
  exact ResOK.ofUnit hv

theorem builtin_ok {b : Builtin} {ats : List TypeId} {l l' : List Value} {ty : TypeId} {consts : Array Bool} {r : Res} (hl : VRs ρ l l') (hh : HRel ρ h.heap.get w) (hf : Fresh ρ h.next (r.next h)) (hr : abuiltin P h b ats l = some r) :
    ResOK P ρ h w (builtin b ⟨ats⟩ ty consts ⟨l'⟩) r := by
  cases b with
  | min => exact .ofV (minmax_ok (ats := ⟨ats⟩) (ty := ty) hl hh (.inl ⟨rfl, hr⟩))
  | max => exact .ofV (minmax_ok (ats := ⟨ats⟩) (ty := ty) hl hh (.inr ⟨rfl, hr⟩))
  | _ =>
    cases hl with
    | nil => simp [abuiltin] at hr
    | cons x x' t t' hx ht =>
      cases ht with
      | nil =>
        first
          | (simp only [abuiltin, reduceCtorEq] at hr; done)
          | exact .ofV (len_ok hx hh hr)
          | exact .ofV (cap_ok hx hh hr)
          | exact .ofV (clear_ok hx hh hr)
          | exact .ofV (usd_ok hx hh hr)
          | exact .ofV1 (len_ok hx hh hr)
          | exact .ofV1 (cap_ok hx hh hr)
          | exact .ofV1 (clear_ok hx hh hr)
          | exact .ofV1 (usd_ok hx hh hr)
          | exact .ofV2 (clear_ok hx hh hr)
      | cons y y' u u' hy hu =>
        cases hu with
        | nil =>
          first
            | (simp only [abuiltin, reduceCtorEq] at hr; done)
            | exact .ofV (append_ok hx hy hh hf hr)
            | exact .ofV (copy_ok hx hy hh hr)
            | exact .ofV2 (copy_ok hx hy hh hr)
            | exact .ofV2 (delete_ok hx hy hh hr)
            | exact .ofV (us_ok hx hy hh hr)
            | exact .ofV2 (us_ok hx hy hh hr)
        | cons _ _ _ _ _ _ => simp [abuiltin] at hr

theorem evs_map {tm : Tm} {n : Nat} {a : Act} (ht : TR ρ tm n a.tmps) {xs : Array Operand} {vs : List Value} (hv : evs tm xs.toList = some vs) : ∃ vs', xs.map a.eval = ⟨vs'⟩ ∧ VRs ρ vs vs' := by
  refine ⟨(xs.map a.eval).toList, rfl, ?_⟩
  rw [Array.toList_map]
  exact evs_sound ht hv

theorem call_ok {tm : Tm} {n : Nat} {a : Act} (ht : TR ρ tm n a.tmps) {c : Call} {ty : TypeId} {r : Res} (hh : HRel ρ h.heap.get w) (hf : Fresh ρ h.next (r.next h)) (hr : acall P tm h c = some r) :
    ResOK P ρ h w (do let d ← resolve a.eval c ty; invoke d.target d.args) r := by
  unfold acall at hr
  split at hr
  · rename_i args hargs
    obtain ⟨args', hargs', hR⟩ := evs_map ht hargs
    split at hr
    · rename_i b hcal
      have hb := fun consts => builtin_ok (ty := ty) (consts := consts) hR hh hf hr
      simp only [resolve, hcal, hargs', pure_bind, invoke]
      exact hb _
    · rename_i f hcal
      split at hr
      · rename_i f0 first captured hev
        have hfv := ev_sound ht hev
        cases hfv' : a.eval f with
        | func g fi ca =>
          rw [hfv'] at hfv
          cases hfv with
          | sc _ hs => simp [AV.simple] at hs
          | fn _ _ fi' _ ca' h1 h2 =>
            have hall := (h1.append hR).append h2
            have hres : (do let d ← resolve a.eval c ty; invoke d.target d.args) = callFunc f0 ⟨(fi' ++ args') ++ ca'⟩ := by
              simp [resolve, hcal, hfv', Deferred.ofValue, invoke, hargs']
            rw [hres]
            split at hr
            · rename_i fn hfn
              split at hr
              · rename_i body hbody
                split at hr
                · cases hr
                · rename_i hname
                  cases hr
                  have hname' : ¬ fn.name = "runtime.NumGoroutine" := by simpa using hname
                  refine ⟨_, ?_, hall⟩
                  simp [callFunc, hfn, hname', hbody]
              · rename_i hbody
                exact extern_ok hfn hbody hall hh hf hr
            · cases hr
        | _ => rw [hfv'] at hfv; cases hfv
      · rename_i l first cap hev
        cases hr
        have hfv := ev_sound ht hev
        generalize hfv' : a.eval f = fv at hfv
        cases hfv with
        | sc _ hs => simp [AV.simple] at hs
        | yield _ L _ fi' hL h1 =>
          refine ⟨L, _, hL, ?_, h1.append hR⟩
          simp [resolve, hcal, hfv', Deferred.ofValue, invoke, hargs']
      · cases hr
    · cases hr
  · cases hr

theorem defer_ok {tm : Tm} {n : Nat} {a : Act} (ht : TR ρ tm n a.tmps) {c : Call} {ty : TypeId} {r : Res} (hr : adefer tm c = some r) :
    ResOK P ρ h w (do pure (.defer (← resolve a.eval c ty))) r := by
  unfold adefer at hr
  split at hr
  · rename_i args hargs
    obtain ⟨args', hargs', hR⟩ := evs_map ht hargs
    split at hr
    · rename_i f hcal
      split at hr
      · rename_i f0 first captured hev
        cases hr
        have hfv := ev_sound ht hev
        generalize hfv' : a.eval f = fv at hfv
        cases hfv with
        | sc _ hs => simp [AV.simple] at hs
        | fn _ _ fi' _ ca' h1 h2 =>
          refine ⟨_, ?_, _, _, rfl, h1.append hR, h2⟩
          simp [resolve, hcal, hfv', Deferred.ofValue, hargs']
      · cases hr
    · cases hr
  · cases hr

theorem opt1_some {f : Value → Option Res} {a : Option Value} {r : Res} (hr : opt1 f a = some r) : ∃ v, a = some v ∧ f v = some r := by
  unfold opt1 at hr
  split at hr
  · exact ⟨_, rfl, hr⟩
  · cases hr

theorem opt2_some {f : Value → Value → Option Res} {a b : Option Value} {r : Res} (hr : opt2 f a b = some r) : ∃ v u, a = some v ∧ b = some u ∧ f v u = some r := by
  unfold opt2 at hr
  split at hr
  · exact ⟨_, _, rfl, rfl, hr⟩
  · cases hr

theorem opt3_some {f : Value → Value → Value → Option Res} {a b c : Option Value} {r : Res} (hr : opt3 f a b c = some r) : ∃ v u x, a = some v ∧ b = some u ∧ c = some x ∧ f v u x = some r := by
  unfold opt3 at hr
  split at hr
  · exact ⟨_, _, _, rfl, rfl, rfl, hr⟩
  · cases hr

theorem aop_sound {tm : Tm} {n : Nat} {a : Act} (ht : TR ρ tm n a.tmps) {o : Oper} {r : Res} (hh : HRel ρ h.heap.get w) (hf : Fresh ρ h.next (r.next h)) (hr : aop P tm h o = some r) :
    ResOK P ρ h w (execOp a.eval o) r := by
  unfold aop at hr
  unfold execOp
  cases ho : o.op with
  | move x =>
    rw [ho] at hr
    obtain ⟨v, h1, h2⟩ := opt1_some hr
    cases h2
    exact ⟨ρ, _, w, rfl, ev_sound ht h1, hh, Step.refl _ _ _ _ _⟩
  | assign x =>
    rw [ho] at hr
    obtain ⟨v, h1, h2⟩ := opt1_some hr
    cases h2
    exact ⟨ρ, _, w, rfl, ev_sound ht h1, hh, Step.refl _ _ _ _ _⟩
  | pick c x y =>
    rw [ho] at hr
    dsimp only at hr ⊢
    split at hr
    · rename_i hc
      have hcv := ev_sound ht hc
      generalize hce : a.eval c = cv at hcv
      cases hcv
      obtain ⟨v, h1, h2⟩ := opt1_some hr
      cases h2
      exact ⟨ρ, _, w, by simp [asBool], ev_sound ht h1, hh, Step.refl _ _ _ _ _⟩
    · rename_i hc
      have hcv := ev_sound ht hc
      generalize hce : a.eval c = cv at hcv
      cases hcv
      obtain ⟨v, h1, h2⟩ := opt1_some hr
      cases h2
      exact ⟨ρ, _, w, by simp [asBool], ev_sound ht h1, hh, Step.refl _ _ _ _ _⟩
    · cases hr
  | alloc e =>
    rw [ho] at hr
    dsimp only at hr
    split at hr
    · rename_i i hi
      split at hr
      · rename_i z hz
        split at hr
        · rename_i hp
          cases hr
          exact .ofVal (alloc_ok hh hf hi hz hp)
        · cases hr
      · cases hr
    · cases hr
  | box e x =>
    rw [ho] at hr
    obtain ⟨v, h1, h2⟩ := opt1_some hr
    cases h2
    exact .ofVal (box_ok hh hf (ev_sound ht h1))
  | build t parts => rw [ho] at hr; exact .ofV1 (build_ok ht hh hr)
  | buildSlice t len parts => rw [ho] at hr; exact .ofV (buildSlice_ok ht hh hf hr)
  | load t x =>
    rw [ho] at hr
    obtain ⟨v, h1, h2⟩ := opt1_some hr
    exact .ofV1 (load_ok hh (ev_sound ht h1) h2)
  | store t x y =>
    rw [ho] at hr
    obtain ⟨v, u, h1, h2, h3⟩ := opt2_some hr
    exact .ofU2 (store_ok hh (ev_sound ht h1) (ev_sound ht h2) h3)
  | nilCheck x =>
    rw [ho] at hr
    obtain ⟨v, h1, h2⟩ := opt1_some hr
    obtain ⟨u, rfl, h4, h5⟩ := nilCheck_ok (ev_sound ht h1) h2
    refine ⟨ρ, a.eval x, w, ?_, h4, hh, Step.refl _ _ _ _ _⟩
    rcases h5 with ⟨b, h5⟩ | ⟨f, b, c, h5⟩ | ⟨f, b, c, h5⟩ <;> simp [h5]
  | binOp op xt x y yt =>
    rw [ho] at hr
    obtain ⟨v, u, h1, h2, h3⟩ := opt2_some hr
    split at h3
    · rename_i v hv
      cases h3
      exact .ofVal (binop_ok hh (ev_sound ht h1) (ev_sound ht h2) hv)
    · cases h3
  | unOp op xt x =>
    rw [ho] at hr
    obtain ⟨v, h1, h2⟩ := opt1_some hr
    exact .ofV1 (unary_ok hh (ev_sound ht h1) h2)
  | convert s d x =>
    rw [ho] at hr
    obtain ⟨v, h1, h2⟩ := opt1_some hr
    exact .ofV (convert_ok (ev_sound ht h1) hh hf h2)
  | makeFunc fn first captured =>
    rw [ho] at hr
    dsimp only at hr
    split at hr
    · split at hr
      · rename_i f c h1 h2
        cases hr
        obtain ⟨f', e1, r1⟩ := evs_map ht h1
        obtain ⟨c', e2, r2⟩ := evs_map ht h2
        exact ⟨ρ, .func (.func _) ⟨f'⟩ ⟨c'⟩, w, by simp [Instr.makeFunc, e1, e2], .fn _ _ _ _ _ r1 r2, hh, Step.refl _ _ _ _ _⟩
      · cases hr
    · cases hr
  | makeMap t r =>
    rw [ho] at hr
    dsimp only at hr
    split at hr
    · cases hr
      refine .ofVal (ValOK.new (δ := 0) (ψ := 0) (x := .map #[] 0) (v' := .map (some w.heap.size)) hh hf ?_ ⟨.nil, rfl⟩ (.map _ _ (Ren.set_same _ _ _)))
      simp [Instr.makeMap]
    · cases hr
  | makeSlice t l c =>
    rw [ho] at hr
    obtain ⟨v, u, h1, h2, h3⟩ := opt2_some hr
    exact .ofV (makeSlice_ok hh (ev_sound ht h1) (ev_sound ht h2) hf h3)
  | slice t x lo hi mx =>
    rw [ho] at hr
    obtain ⟨v, h1, h2⟩ := opt1_some hr
    exact .ofV (slice_ok ht (ev_sound ht h1) hh hf h2)
  | fieldAddr s x f =>
    rw [ho] at hr
    obtain ⟨v, h1, h2⟩ := opt1_some hr
    exact .ofV1 (fieldAddr_ok hh (ev_sound ht h1) h2)
  | field t x f =>
    rw [ho] at hr
    obtain ⟨v, h1, h2⟩ := opt1_some hr
    exact .ofV1 (field_ok hh (ev_sound ht h1) h2)
  | indexAddr t x i =>
    rw [ho] at hr
    obtain ⟨v, u, h1, h2, h3⟩ := opt2_some hr
    exact .ofV1 (indexAddr_ok hh (ev_sound ht h1) (ev_sound ht h2) h3)
  | index t x i =>
    rw [ho] at hr
    obtain ⟨v, u, h1, h2, h3⟩ := opt2_some hr
    exact .ofV1 (index_ok hh (ev_sound ht h1) (ev_sound ht h2) h3)
  | lookup t m k ok =>
    rw [ho] at hr
    obtain ⟨v, u, h1, h2, h3⟩ := opt2_some hr
    exact .ofV1 (lookup_ok hh (ev_sound ht h1) (ev_sound ht h2) h3)
  | mapUpdate t m k x =>
    rw [ho] at hr
    obtain ⟨v, u, y, h1, h2, h3, h4⟩ := opt3_some hr
    exact .ofU (mapUpdate_ok hh (ev_sound ht h1) (ev_sound ht h2) (ev_sound ht h3) h4)
  | insert t m k x =>
    rw [ho] at hr
    obtain ⟨v, u, y, h1, h2, h3, h4⟩ := opt3_some hr
    exact .ofU (mapUpdate_ok hh (ev_sound ht h1) (ev_sound ht h2) (ev_sound ht h3) h4)
  | mapEntry t m k =>
    rw [ho] at hr
    obtain ⟨v, u, h1, h2, h3⟩ := opt2_some hr
    exact .ofV2 (mapEntry_ok hh (ev_sound ht h1) (ev_sound ht h2) h3)
  | entryStore t m s x =>
    rw [ho] at hr
    obtain ⟨v, u, y, h1, h2, h3, h4⟩ := opt3_some hr
    exact .ofU2 (entryStore_ok hh (ev_sound ht h1) (ev_sound ht h2) (ev_sound ht h3) h4)
  | range t x =>
    rw [ho] at hr
    obtain ⟨v, h1, h2⟩ := opt1_some hr
    exact .ofV (range_ok hh hf (ev_sound ht h1) h2)
  | next it s =>
    rw [ho] at hr
    obtain ⟨v, h1, h2⟩ := opt1_some hr
    exact .ofV2 (next_ok hh (ev_sound ht h1) h2)
  | entry it =>
    rw [ho] at hr
    obtain ⟨v, h1, h2⟩ := opt1_some hr
    exact .ofV1 (entry_ok hh (ev_sound ht h1) h2)
  | extract t i =>
    rw [ho] at hr
    obtain ⟨v, h1, h2⟩ := opt1_some hr
    exact .ofV1 (extract_ok hh (ev_sound ht h1) h2)
  | call c => rw [ho] at hr; exact call_ok ht hh hf hr
  | defer c => rw [ho] at hr; exact defer_ok ht hr
  | _ => rw [ho] at hr; cases hr

end
end Go.AV
