/-
  Regions that draw their order, fourth part: an operation looks at its operands alone.
-/
import Derived.Test.YthecahanniaggaaAvDrawC
namespace Go.AV

theorem evs_congr {tm tm' : Tm} : ∀ {l : List Operand}, (∀ x, x ∈ l → ev tm x = ev tm' x) → evs tm l = evs tm' l
  | [], _ => rfl
  | x :: l, h => by
    simp only [evs, h x (List.mem_cons_self ..), evs_congr (l := l) fun y hy => h y (List.mem_cons_of_mem _ hy)]

theorem evParts_congr {tm tm' : Tm} : ∀ {l : List (Nat × Operand)}, (∀ x, x ∈ l.map (·.2) → ev tm x = ev tm' x) → evParts tm l = evParts tm' l
  | [], _ => rfl
  | (i, x) :: l, h => by
    simp only [evParts, h x (by simp), evParts_congr (l := l) fun y hy => h y (by simp at hy ⊢; exact .inr hy)]

theorem boundO_congr {tm tm' : Tm} {o : Option Operand} {d hi : Nat} (h : ∀ x, o = some x → ev tm x = ev tm' x) : boundO tm o d hi = boundO tm' o d hi := by
  cases o with
  | none => rfl
  | some x => simp only [boundO, h x rfl]

theorem sliceSl_congr {tm tm' : Tm} {h : Hs} {size : Nat} {a : Option Addr} {len cap : Nat} {lo hi mx : Option Operand} (h1 : ∀ x, lo = some x → ev tm x = ev tm' x) (h2 : ∀ x, hi = some x → ev tm x = ev tm' x) (h3 : ∀ x, mx = some x → ev tm x = ev tm' x) :
    sliceSl h tm size a len cap lo hi mx = sliceSl h tm' size a len cap lo hi mx := by
  have e1 : ∀ d k, boundO tm lo d k = boundO tm' lo d k := fun d k => boundO_congr h1
  have e2 : ∀ d k, boundO tm hi d k = boundO tm' hi d k := fun d k => boundO_congr h2
  have e3 : ∀ d k, boundO tm mx d k = boundO tm' mx d k := fun d k => boundO_congr h3
  cases a <;> cases mx <;> cases hi <;> simp only [sliceSl, e1, e2, e3]
  · rename_i m
    generalize boundO tm' (some m) 0 cap = z
    cases cap <;> cases z <;> rfl
  · rename_i m k
    generalize boundO tm' (some m) 0 cap = z
    cases cap <;> cases z <;> first | rfl | simp only [e2]

theorem aslice_congr {P : Program} {tm tm' : Tm} {h : Hs} {t : TypeId} {x : Value} {lo hi mx : Option Operand} (h1 : ∀ x, lo = some x → ev tm x = ev tm' x) (h2 : ∀ x, hi = some x → ev tm x = ev tm' x) (h3 : ∀ x, mx = some x → ev tm x = ev tm' x) :
    aslice P tm h t x lo hi mx = aslice P tm' h t x lo hi mx := by
  have e1 : ∀ d k, boundO tm lo d k = boundO tm' lo d k := fun d k => boundO_congr h1
  have e2 : ∀ d k, boundO tm hi d k = boundO tm' hi d k := fun d k => boundO_congr h2
  have e3 : ∀ size a len cap, sliceSl h tm size a len cap lo hi mx = sliceSl h tm' size a len cap lo hi mx := fun _ _ _ _ => sliceSl_congr h1 h2 h3
  unfold aslice sliceStr
  simp only [e1, e2, e3]

theorem aop_congr {P : Program} {tm tm' : Tm} {h : Hs} {o : Oper} (H : ∀ x, x ∈ o.op.operands.toList → ev tm x = ev tm' x) : aop P tm h o = aop P tm' h o := by
  unfold aop
  cases ho : o.op <;> rw [ho] at H <;> dsimp only [Op.operands] at H ⊢
  case slice t x lo hi mx =>
    rw [H x (by simp)]
    cases ev tm' x with
    | none => rfl
    | some v => exact aslice_congr (fun y hy => H y (by simp [hy])) (fun y hy => H y (by simp [hy])) (fun y hy => H y (by simp [hy]))
  case build t parts => unfold abuild; rw [evParts_congr (l := parts.toList) fun x hx => H x (by simpa using hx)]
  case buildSlice t len parts => unfold abuildSlice; rw [evParts_congr (l := parts.toList) fun x hx => H x (by simpa using hx)]
  case makeFunc fn first captured => rw [evs_congr (l := first.toList) fun x hx => H x (by simp [Array.mem_toList_iff.1 hx]), evs_congr (l := captured.toList) fun x hx => H x (by simp [Array.mem_toList_iff.1 hx])]
  case call c =>
    unfold acall
    rw [evs_congr (l := c.args.toList) fun x hx => H x (by unfold Call.operands; cases c.callee <;> simp [Array.mem_toList_iff.1 hx])]
    cases hc : c.callee with
    | value f => dsimp only; rw [H f (by unfold Call.operands; simp [hc])]
    | builtin b => rfl
    | invoke a b => rfl
  case defer c =>
    unfold adefer
    rw [evs_congr (l := c.args.toList) fun x hx => H x (by unfold Call.operands; cases c.callee <;> simp [Array.mem_toList_iff.1 hx])]
    cases hc : c.callee with
    | value f => dsimp only; rw [H f (by unfold Call.operands; simp [hc])]
    | builtin b => rfl
    | invoke a b => rfl
  all_goals first
    | rfl
    | simp only [H _ (List.mem_cons_self ..), H _ (List.mem_cons_of_mem _ (List.mem_cons_self ..)), H _ (List.mem_cons_of_mem _ (List.mem_cons_of_mem _ (List.mem_cons_self ..)))]
    | simp only [H _ (List.mem_cons_self ..), H _ (List.mem_cons_of_mem _ (List.mem_cons_self ..))]
    | simp only [H _ (List.mem_cons_self ..)]

/-- what an operation looks at: its operands' temporaries, and its guard's -/
theorem ev_names {ops : Array Oper} {o : Oper} {tm tm' : Tm} (h : ∀ t, t ∈ namesOf ops o → rd tm t = rd tm' t) : ∀ x, x ∈ o.op.operands.toList → ev tm x = ev tm' x := by
  intro x hx
  cases x with
  | tmp t =>
    have : t ∈ namesOf ops o := by
      unfold namesOf
      refine List.mem_append_left _ (List.mem_append_left _ ?_)
      rw [List.mem_filterMap]
      exact ⟨.tmp t, hx, rfl⟩
    simp only [ev, h t this]
  | const v => rfl
  | global g => rfl
  | func f => rfl

theorem wantedB_names {ops : Array Oper} {o : Oper} {tm tm' : Tm} (h : ∀ t, t ∈ namesOf ops o → rd tm t = rd tm' t) : wantedB ops tm o = wantedB ops tm' o := by
  unfold wantedB
  cases hg : o.guard with
  | none => rfl
  | some jw =>
    obtain ⟨j, want⟩ := jw
    dsimp only
    cases hd : (nth ops.toList j).bind (·.dst) with
    | none => rfl
    | some d =>
      have : d ∈ namesOf ops o := by
        unfold namesOf
        refine List.mem_append_right _ ?_
        rw [hg]
        simp only
        rw [hd]
        simp
      simp only [h d this]

end Go.AV
