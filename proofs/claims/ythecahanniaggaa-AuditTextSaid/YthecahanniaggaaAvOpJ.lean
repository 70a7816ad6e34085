/-
  The operations' soundness, tenth part: steps of iterators; delete; the builtins as one.
-/
import Derived.Test.YthecahanniaggaaAvOpI
namespace Go.AV

section
variable {P : Program} {ρ : Ren} {w : World} {h : Hs}

theorem getIter_run {b : Nat} {L : Loc} {o : AObj} (hh : HRel ρ h.heap.get w) (hb : h.heap.get b = some o) (hL : ρ b = some L) (hn : ∀ k, o ≠ .blk k) :
    ∃ x, w.heap[L.φ]? = some x ∧ OR ρ L o x ∧ (getObj L.φ).run P w = .ok x w := by
  obtain ⟨L0, x, hL0, hx0, hR⟩ := hh.obj _ _ hb
  rw [hL] at hL0; cases hL0
  refine ⟨x, hx0, hR, ?_⟩
  cases o <;> cases x <;> simp only [OR] at hR <;> first | exact hR.elim | exact (hn _ rfl).elim | simp only [getObj, Sem.run, hx0]

theorem setIter_ok {b : Nat} {L : Loc} {o o2 : AObj} {x x2 : Obj} (hh : HRel ρ h.heap.get w) (hb : h.heap.get b = some o) (ho : o.owned = true) (hL : ρ b = some L) (hx : w.heap[L.φ]? = some x) (hc : ∀ c e f, x ≠ .cells c e f) (hR : OR ρ L o2 x2) :
    ∃ w', (setObj L.φ x2).run P w = .ok () w' ∧ HRel ρ (h.heap.set b o2).get w' ∧ ∀ lo hi, Step ρ h.heap.get w ρ (h.heap.set b o2).get w' lo hi := by
  obtain ⟨w', hr, hu⟩ := setObj_run (P := P) (o := x2) hx hc
  exact ⟨w', hr, hh.upd hb ho hL hu hR (fun j => T.get_set _ _ _ _), fun lo hi => Step.upd hb ho hL hu (fun j => T.get_set _ _ _ _) lo hi⟩

theorem VR.ptr0 {b : Nat} {x : Value} (hx : VR ρ (.pointer (some ⟨b, 0, none⟩)) x) : ∃ L, ρ b = some L ∧ x = .pointer (some ⟨L.φ, L.δ + 0, none⟩) := by
  cases hx with
  | sc _ hs => simp [AV.simple] at hs
  | ptr _ _ L hL => exact ⟨L, hL, rfl⟩


theorem next_ok {t : TypeId} {x x' : Value} {st : Bool} {r : Res} (hh : HRel ρ h.heap.get w) (hx : VR ρ x x') (hr : anext h x st = some r) : ∃ v h', r = .val v h' ∧ h'.next = h.next ∧ ValOK P ρ h w (Instr.next x' st t) v h' := by
  unfold anext at hr
  split at hr
  · rename_i b
    obtain ⟨L, hL, rfl⟩ := hx.ptr0
    split at hr
    · -- a string
      rename_i s pos hb
      obtain ⟨y, hy, hR, hg⟩ := getIter_run (P := P) hh hb hL (fun k h => by cases h)
      cases y <;> simp only [OR] at hR <;> first | exact hR.elim | skip
      obtain ⟨rfl, rfl, hδ⟩ := hR
      rename_i s pos
      rw [hδ]
      split at hr
      · rename_i hlt
        have hlt' : pos < s.size := by simpa [Nat.blt_eq] using hlt
        split at hr
        rename_i c wd hdec
        cases hr
        obtain ⟨w', h1, h2, h3⟩ := setIter_ok (P := P) (o2 := .siter s (pos + wd)) (x2 := .stringIter s (pos + wd)) hh hb rfl hL hy (fun _ _ _ h => by cases h) ⟨rfl, rfl, hδ⟩
        refine ⟨_, _, rfl, rfl, ρ, .tuple #[.bool true, goInt pos, .int .i32 c], w', ?_, .tuple _ _ (.cons _ _ _ _ (.sc _ rfl) (.cons _ _ _ _ (.sc _ rfl) (.one (.sc _ rfl)))), h2, h3 _ _⟩
        simp only [Instr.next, Nat.add_zero, Sem.run_bind, hg, Result.andThen_ok, if_pos hlt', hdec, h1, Sem.run_pure]
      · rename_i hlt
        have hlt' : ¬ pos < s.size := fun hc => by rw [show pos.blt s.size = true by rw [Nat.blt_eq]; exact hc] at hlt; cases hlt
        cases hr
        refine ⟨_, _, rfl, rfl, ValOK.pure hh (v' := .tuple #[.bool false]) ?_ (.tuple _ _ (.one (.sc _ rfl)))⟩
        simp only [Instr.next, Nat.add_zero, Sem.run_bind, hg, Result.andThen_ok, if_neg hlt', Sem.run_pure]
    · -- a nil map
      rename_i since seen last hb
      obtain ⟨y, hy, hR, hg⟩ := getIter_run (P := P) hh hb hL (fun k h => by cases h)
      cases y <;> simp only [OR] at hR <;> first | exact hR.elim | skip
      obtain ⟨rfl, rfl, hs, rfl, hδ⟩ := hR
      cases hr
      rw [hδ]
      refine ⟨_, _, rfl, rfl, ValOK.pure hh (v' := .tuple #[.bool false]) ?_ (.tuple _ _ (.one (.sc _ rfl)))⟩
      simp only [Instr.next, Nat.add_zero, Sem.run_bind, hg, Result.andThen_ok, Sem.run_pure]
    · -- a map
      rename_i m since seen last hb
      obtain ⟨y, hy, hR, hg⟩ := getIter_run (P := P) hh hb hL (fun k h => by cases h)
      cases y <;> simp only [OR] at hR <;> first | exact hR.elim | skip
      rename_i m' since' seen' last'
      obtain ⟨⟨Lm, hLm, rfl⟩, rfl, hs, rfl, hδ⟩ := hR
      rw [hδ]
      split at hr
      · rename_i es ck hm
        obtain ⟨es', h1, h2, hE⟩ := getMap_run (P := P) hh hm hLm
        have hleft := leftE_sound hs hE
        have hfil : (es'.filter fun e => !seen'.contains e.born).toList = es'.toList.filter fun e => !seen'.contains e.born := by simp
        split at hr
        · -- no entry left
          rename_i hl
          rw [hl] at hleft
          have hnil : (es'.filter fun e => !seen'.contains e.born) = #[] := by
            apply Array.ext'
            rw [hfil]
            generalize (es'.toList.filter fun e => !seen'.contains e.born) = l at hleft
            cases hleft; rfl
          have hgo : r = .val (.tuple #[.bool false]) h ∧ (!seen'.isEmpty && !es'.isEmpty && es'.all fun x => decide (x.born ≥ last')) = false := by
            split at hr
            · cases hr
              have : seen' = #[] := by apply Array.ext'; rw [hs]; rfl
              exact ⟨rfl, by simp [this]⟩
            · split at hr
              · rename_i e l hlt
                cases hr
                cases hE' : es'.toList with
                | nil => rw [hE'] at hE; cases hE
                | cons e' l' =>
                  rw [hE'] at hE
                  cases hE with
                  | cons _ _ _ _ he _ =>
                    have hb1 : e'.born < last' := by rw [he.2.2]; rw [Nat.blt_eq] at hlt; exact hlt
                    have hall : (es'.all fun x => decide (x.born ≥ last')) = false := by
                      rw [← Array.all_toList, hE', List.all_cons]
                      simp; omega
                    exact ⟨rfl, by rw [hall]; simp⟩
              · cases hr
            · cases hr
              have : es' = #[] := by apply Array.ext'; cases hE' : es'.toList with | nil => rfl | cons _ _ => (rw [hE'] at hE; cases hE)
              exact ⟨rfl, by simp [this]⟩
          obtain ⟨rfl, hg2⟩ := hgo
          refine ⟨_, _, rfl, rfl, ValOK.pure hh (v' := .tuple #[.bool false]) ?_ (.tuple _ _ (.one (.sc _ rfl)))⟩
          simp only [Instr.next, Nat.add_zero, Sem.run_bind, hg, Result.andThen_ok, h2, hg2, Bool.false_eq_true, if_false, hnil]
          simp [choose, Sem.run, Question.forced]
        · -- one entry
          rename_i e hl
          rw [hl] at hleft
          split at hr
          · rename_i hlt
            cases hr
            have hone : ∃ e', (es'.filter fun e => !seen'.contains e.born) = #[e'] ∧ ER ρ e e' := by
              have : ∃ e', (es'.filter fun e => !seen'.contains e.born).toList = [e'] ∧ ER ρ e e' := by
                rw [hfil]
                generalize (es'.toList.filter fun e => !seen'.contains e.born) = l at hleft
                cases hleft with
                | cons _ e' _ l he hl => cases hl; exact ⟨e', rfl, he⟩
              obtain ⟨e', h3, h4⟩ := this
              exact ⟨e', Array.ext' (by rw [h3]), h4⟩
            obtain ⟨e', ho, he⟩ := hone
            have hseen : seen' = #[] := by apply Array.ext'; rw [hs]; rfl
            subst hseen
            have hb1 : e'.born < since' := by rw [he.2.2]; rw [Nat.blt_eq] at hlt; exact hlt
            obtain ⟨w', h4, h5, h6⟩ := setIter_ok (P := P) (o2 := .miter (some m) since' [e.born] ck) (x2 := .mapIter (some Lm.φ) since' #[e'.born] ck) hh hb rfl hL hy (fun _ _ _ h => by cases h) ⟨⟨Lm, hLm, rfl⟩, rfl, by simp [he.2.2], rfl, hδ⟩
            refine ⟨_, _, rfl, rfl, ρ, .tuple #[.bool true, e'.key, e'.val], w', ?_, .tuple _ _ (.cons _ _ _ _ (.sc _ rfl) (.cons _ _ _ _ he.1 (.one he.2.1))), h5, h6 _ _⟩
            have hf1 : (#[e'] : Array MapEntry).filter (fun x => decide (x.born < since')) = #[e'] := by simp [hb1]
            have hf2 : (#[e'] : Array MapEntry).filter (fun x => decide (x.born ≥ since')) = #[] := by simp; omega
            simp only [Instr.next, Nat.add_zero, Sem.run_bind, hg, Result.andThen_ok, h2, Array.isEmpty_empty, Bool.not_true, Bool.false_and, Bool.false_eq_true, if_false, ho, hf1, hf2]
            
            simp [choose, Sem.run, Question.forced, h4]
          · cases hr
        · cases hr
      · cases hr
    · cases hr
  · cases hr

theorem findBorn_sound {st : Nat} : ∀ {es es' : List MapEntry} {e : MapEntry}, ERs ρ es es' → findBorn st es = some e → ∃ e', es'.find? (·.born == st) = some e' ∧ ER ρ e e'
  | _, _, e, .nil, hb => by simp [findBorn] at hb
  | _, _, e, .cons a a' l l' ha hl, hb => by
    simp only [findBorn] at hb
    split at hb
    · rename_i hd
      cases hb
      have : (a'.born == st) = true := by rw [ha.2.2, Nat.eq_of_beq_eq_true hd]; simp
      exact ⟨a', by rw [List.find?_cons, this], ha⟩
    · rename_i hd
      obtain ⟨e', h1, h2⟩ := findBorn_sound hl hb
      have : (a'.born == st) = false := by rw [ha.2.2]; have := Nat.ne_of_beq_eq_false hd; simpa using this
      exact ⟨e', by rw [List.find?_cons, this]; exact h1, h2⟩

theorem entry_ok {x x' : Value} {r : Res} (hh : HRel ρ h.heap.get w) (hx : VR ρ x x') (hr : aentry h x = some r) : ∃ v, r = .val v h ∧ ValOK P ρ h w (Instr.entry x') v h := by
  unfold aentry at hr
  split at hr
  · rename_i b
    obtain ⟨L, hL, rfl⟩ := hx.ptr0
    split at hr
    · rename_i m since st seen stepped hb
      obtain ⟨y, hy, hR, hg⟩ := getIter_run (P := P) hh hb hL (fun k h => by cases h)
      cases y <;> simp only [OR] at hR <;> first | exact hR.elim | skip
      rename_i m' since' seen' last'
      obtain ⟨⟨Lm, hLm, rfl⟩, rfl, hs, rfl, hδ⟩ := hR
      rw [hδ]
      split at hr
      · rename_i es ck hm
        obtain ⟨es', h1, h2, hE⟩ := getMap_run (P := P) hh hm hLm
        split at hr
        · rename_i e hck hfb
          cases hr
          obtain ⟨e', h3, h4⟩ := findBorn_sound hE hfb
          have hck' := Nat.eq_of_beq_eq_true hck
          have hback : seen'.back? = some st := by
            have : seen'.toList.getLast? = some st := by rw [hs]; simp
            simpa using this
          have hfind : es'.find? (·.born == st) = some e' := by
            obtain ⟨l⟩ := es'
            simpa using h3
          refine ⟨_, rfl, ValOK.pure hh (v' := .tuple #[e'.key, e'.val]) ?_ (.tuple _ _ (.cons _ _ _ _ h4.1 (.one h4.2.1)))⟩
          have hne : (ck != last') = false := by simp [hck']
          simp only [Instr.entry, Nat.add_zero, Sem.run_bind, hg, Result.andThen_ok, hback, h2, hne, Bool.false_eq_true, if_false, hfind, Sem.run_pure]
        · cases hr
      · cases hr
    · cases hr
  · cases hr

theorem delete_ok {ats : List TypeId} {m m' k k' : Value} {ty : TypeId} {r : Res} (hm : VR ρ m m') (hk : VR ρ k k') (hh : HRel ρ h.heap.get w) (hr : abuiltin P h .delete ats [m, k] = some r) :
    ∃ v h', r = .val v h' ∧ h'.next = h.next ∧ ValOK P ρ h w (Builtin.delete_ ⟨ats⟩ ty #[m', k']) v h' := by
  simp only [abuiltin] at hr
  split at hr
  · rename_i t _
    split at hr
    · rename_i kt e hu
      split at hr
      · rename_i hak
        cases hr
        obtain ⟨rfl, hp, hck⟩ := akey_sound hk hak
        cases hm
        refine ⟨_, _, rfl, rfl, ValOK.pure hh (v' := .tuple #[]) ?_ (.tuple _ _ .nil)⟩
        simp [Builtin.delete_, run_underlying' hu, hck]
      · cases hr
    · rename_i kt e b hu0
      have hu := hu0
      split at hr
      · rename_i es ck hak hb
        obtain ⟨rfl, hp, hck⟩ := akey_sound hk hak
        obtain ⟨kd, hkd⟩ := akey_under hck
        cases hm with
        | sc _ hs => simp [simple] at hs
        | map _ L hL =>
          obtain ⟨es', h1, h2, hE⟩ := getMap_run (P := P) hh hb hL
          split at hr
          · rename_i j v hf
            cases hr
            obtain ⟨r', h3, v', rfl, hv⟩ := findKey_run hp hE hf hkd
            obtain ⟨w', h4, h5, h6⟩ := setMap_ok (P := P) (ck2 := ck) (es2' := es'.eraseIdxIfInBounds j) hh hb hL (by
              rw [Array.toList_eraseIdxIfInBounds]; exact dropAt_sound hE)
            refine ⟨_, _, rfl, rfl, ρ, .tuple #[], w', ?_, .tuple _ _ .nil, h5, h6 _ _⟩
            simp [Builtin.delete_, run_underlying' hu, h2, hck, h3, h4]
          · rename_i hf
            cases hr
            obtain ⟨r', h3, h3'⟩ := findKey_run hp hE hf hkd
            have h3' : r' = none := h3'
            subst h3'
            obtain ⟨w', h4, hu⟩ := setObj_run (P := P) (o := .map es' ck) h1 (fun _ _ _ h => by cases h)
            have hsame : ∀ j, h.heap.get j = if j = b then some (AObj.map es ck) else h.heap.get j := fun j => by
              split
              · rename_i he; subst he; exact hb
              · rfl
            have hup := hh.upd (H' := h.heap.get) hb rfl hL hu (show OR ρ L (.map es ck) (.map es' ck) from ⟨hE, rfl⟩) hsame
            have hst := fun lo hi => Step.upd (lo := lo) (hi := hi) (H' := h.heap.get) hb (o := .map es ck) (o' := .map es ck) rfl hL hu hsame
            refine ⟨_, _, rfl, rfl, ρ, .tuple #[], w', ?_, .tuple _ _ .nil, hup, hst _ _⟩
            simp [Builtin.delete_, run_underlying' hu0, h2, hck, h3, h4]
          · cases hr
      · cases hr
    · cases hr
  · cases hr

end
end Go.AV
