/-
  What an abstract operation may turn of the heap: what its log names, and new numbers.
-/
import Derived.Test.YthecahanniaggaaAvExec
namespace Go.AV

/-- From one abstract heap to a later one: what the log does not name stays; the log names what is there, or new. -/
structure Mod (h h' : Hs) : Prop where
  next : h.next ≤ h'.next
  log : ∃ l, h'.log = l ++ h.log ∧ (∀ b, b ∈ l → h.heap.get b ≠ none ∨ (h.next ≤ b ∧ b < h'.next)) ∧ ∀ b, (b < h.next ∨ h'.next ≤ b) → b ∉ l → h'.heap.get b = h.heap.get b

theorem Mod.refl (h : Hs) : Mod h h := ⟨Nat.le_refl _, [], rfl, fun _ hb => (by cases hb), fun _ _ _ => rfl⟩

theorem Mod.trans {a b c : Hs} (h : Mod a b) (k : Mod b c) : Mod a c := by
  obtain ⟨l, h1, h3, h2⟩ := h.log
  obtain ⟨m, k1, k3, k2⟩ := k.log
  have hn := h.next
  have kn := k.next
  refine ⟨Nat.le_trans h.next k.next, m ++ l, by rw [k1, h1, List.append_assoc], fun x hx => ?_, fun x hx hm => ?_⟩
  · have first : x ∈ l → a.heap.get x ≠ none ∨ (a.next ≤ x ∧ x < c.next) := fun hl => by
      rcases h3 x hl with q | q
      · exact .inl q
      · exact .inr (by omega)
    rcases List.mem_append.1 hx with hm | hl
    · rcases k3 x hm with q | q
      · by_cases hl : x ∈ l
        · exact first hl
        · by_cases hr : a.next ≤ x ∧ x < b.next
          · exact .inr (by omega)
          · exact .inl (by rw [← h2 x (by omega) hl]; exact q)
      · exact .inr (by omega)
    · exact first hl
  · rw [List.mem_append, not_or] at hm
    rw [k2 x (by omega) hm.1, h2 x (by omega) hm.2]

theorem Mod.new (h : Hs) (o : AObj) : Mod h (newObjA h o) :=
  ⟨Nat.le_succ _, [], rfl, fun _ hb => (by cases hb), fun b hb _ => by
    simp only [newObjA, T.get_set] at hb ⊢
    rw [if_neg (by omega)]⟩

theorem Mod.set (h : Hs) (b : Nat) (o : AObj) {o0 : AObj} (hb : h.heap.get b = some o0) : Mod h { h with heap := h.heap.set b o, log := b :: h.log } :=
  ⟨Nat.le_refl _, [b], rfl, fun i hi => by rw [List.mem_singleton.1 hi, hb]; exact .inl (by simp), fun i _ hi => by
    simp only [T.get_set]
    rw [if_neg (by simpa using hi)]⟩

theorem Mod.turn (h : Hs) (b : Nat) (o : AObj) {o0 : AObj} (hb : h.heap.get b = some o0) : Mod h { heap := (h.heap.del b).set h.next o, next := h.next + 1, log := b :: h.log } :=
  ⟨Nat.le_succ _, [b], rfl, fun i hi => by rw [List.mem_singleton.1 hi, hb]; exact .inl (by simp), fun i hb hi => by
    simp only [T.get_set, T.get_del] at hb ⊢
    rw [if_neg (by omega), if_neg (by simpa using hi)]⟩

theorem Mod.skip (h : Hs) : Mod h { h with next := h.next + 1 } := ⟨Nat.le_succ _, [], rfl, fun _ hb => (by cases hb), fun _ _ _ => rfl⟩

theorem Mod.write {h h' : Hs} {b off : Nat} {vs : List Value} (hr : writeAt h b off vs = some h') : Mod h h' := by
  unfold writeAt at hr
  repeat' (split at hr)
  all_goals first | (cases hr; exact Mod.set _ _ _ (by assumption)) | cases hr

def Res.hs (h : Hs) : Res → Hs
  | .val _ h' | .skip h' => h'
  | _ => h

section
variable {P : Program} {h : Hs} {r : Res}

theorem amod_append {ats : List TypeId} {s x : Value} (hr : aappend P h ats s x = some r) : Mod h (r.hs h) := by
  unfold aappend at hr
  repeat' (split at hr)
  all_goals first
    | (cases hr; exact Mod.refl _)
    | (cases hr; exact Mod.new _ _)
    | (cases hr; exact Mod.turn _ _ _ (by assumption))
    | (cases hr; exact Mod.write (by assumption))
    | cases hr

theorem amod_builtin {b : Builtin} {ats : List TypeId} {l : List Value} (hr : abuiltin P h b ats l = some r) : Mod h (r.hs h) := by
  unfold abuiltin at hr
  split at hr
  · exact amod_append hr
  all_goals
    repeat' (split at hr)
    all_goals first
      | (cases hr; exact Mod.refl _)
      | (cases hr; exact Mod.set _ _ _ (by assumption))
      | (cases hr; exact Mod.write (by assumption))
      | cases hr

theorem amod_convert {s d : TypeId} {x : Value} (hr : aconvert P h s d x = some r) : Mod h (r.hs h) := by
  unfold aconvert at hr
  repeat' (split at hr)
  all_goals first
    | (cases hr; exact Mod.refl _)
    | (cases hr; exact Mod.new _ _)
    | cases hr

theorem amod_extern {fn : Func} {args : List Value} (hr : aextern P h fn args = some r) : Mod h (r.hs h) := by
  unfold aextern at hr
  repeat' (split at hr)
  all_goals first
    | (cases hr; exact Mod.refl _)
    | (cases hr; exact Mod.new _ _)
    | cases hr

theorem amod_call {tm : Tm} {c : Call} (hr : acall P tm h c = some r) : Mod h (r.hs h) := by
  unfold acall at hr
  repeat' (split at hr)
  all_goals first
    | exact amod_builtin hr
    | exact amod_extern hr
    | (cases hr; exact Mod.refl _)
    | cases hr

theorem amod_sliceSl {tm : Tm} {size : Nat} {a : Option Addr} {len cap : Nat} {lo hi mx : Option Operand} (hr : sliceSl h tm size a len cap lo hi mx = some r) : Mod h (r.hs h) := by
  unfold sliceSl at hr
  repeat' (split at hr)
  all_goals first
    | (cases hr; exact Mod.refl _)
    | (cases hr; exact Mod.skip _)
    | (cases hr; exact Mod.turn _ _ _ (by assumption))
    | cases hr

theorem amod_slice {tm : Tm} {xt : TypeId} {x : Value} {lo hi mx : Option Operand} (hr : aslice P tm h xt x lo hi mx = some r) : Mod h (r.hs h) := by
  unfold aslice at hr
  repeat' (split at hr)
  all_goals first
    | exact amod_sliceSl hr
    | (cases hr; exact Mod.refl _)
    | cases hr

theorem aop_mod {tm : Tm} {o : Oper} (hr : aop P tm h o = some r) : Mod h (r.hs h) := by
  unfold aop at hr
  split at hr
  all_goals first
    | exact amod_call hr
    | (unfold opt1 at hr; split at hr; · exact amod_slice hr
       · cases hr)
    | (unfold opt1 at hr; split at hr; · exact amod_convert hr
       · cases hr)
    | skip
  all_goals
    (try unfold opt1 at hr)
    (try unfold opt2 at hr)
    (try unfold opt3 at hr)
    (try unfold abuild at hr)
    (try unfold abuildSlice at hr)
    (try unfold aload at hr)
    (try unfold astore at hr)
    (try unfold anilCheck at hr)
    (try unfold aunary at hr)
    (try unfold amakeSlice at hr)
    (try unfold afieldAddr at hr)
    (try unfold afield at hr)
    (try unfold aindexAddr at hr)
    (try unfold aindex at hr)
    (try unfold alookup at hr)
    (try unfold amapUpdate at hr)
    (try unfold amapEntry at hr)
    (try unfold aentryStore at hr)
    (try unfold arange at hr)
    (try unfold anext at hr)
    (try unfold aentry at hr)
    (try unfold aextract at hr)
    (try unfold adefer at hr)
    repeat' (first | split at hr | (dsimp only at hr; split at hr))
    all_goals first
      | (cases hr; exact Mod.refl _)
      | (cases hr; exact Mod.new _ _)
      | (cases hr; exact Mod.set _ _ _ (by assumption))
      | (cases hr; exact Mod.write (by assumption))
      | cases hr
end
end Go.AV
