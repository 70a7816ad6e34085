/-
  The operations' soundness, eighth part: conversions, functions without a body.
-/
import Derived.Test.YthecahanniaggaaAvOpG
namespace Go.AV

section
variable {P : Program} {ρ : Ren} {w : World} {h : Hs}

theorem ValOK.same {s : Sem Value} {v : Value} (hh : HRel ρ h.heap.get w) (hs : s.run P w = .ok v w) (hv : simple v = true) : ValOK P ρ h w s v h := ValOK.pure hh hs (.sc _ hv)

theorem seenAt_run {a : Addr} {c : Array Value} {e : TypeId} {fr : Nat × Nat} (hx : w.heap[a.block]? = some (.cells c e fr)) : (Conv.seenAt a).run P w = .ok a w := by
  have : w.shape? a.block = some (e, c.size) := by simp [World.shape?, hx]
  simp [Conv.seenAt, viewAt, this]

theorem cellsIn_run {b : Nat} {c : Array Value} {e : TypeId} {fr : Nat × Nat} (hx : w.heap[b]? = some (.cells c e fr)) : (cellsIn b).run P w = .ok (some c.size) w := by
  have : w.shape? b = some (e, c.size) := by simp [World.shape?, hx]
  simp [cellsIn, this]

theorem convert_ok {s d : TypeId} {x x' : Value} {r : Res} (hx : VR ρ x x') (hh : HRel ρ h.heap.get w) (hf : Fresh ρ h.next (r.next h)) (hr : aconvert P h s d x = some r) :
    ∃ v h', r = .val v h' ∧ ValOK P ρ h w (convert s d x') v h' := by
  unfold aconvert at hr
  split at hr
  · rename_i sd dd hs hd
    split at hr
    · cases hr
      cases hx
      exact ⟨_, _, rfl, ValOK.same hh (by cases sd <;> simp [convert, run_underlying' hs, run_underlying' hd, Conv.intToInt]) rfl⟩
    · cases hr
      cases hx
      exact ⟨_, _, rfl, ValOK.same hh (by cases sd <;> simp [convert, run_underlying' hs, run_underlying' hd, Conv.intToString]) rfl⟩
    · cases hr
      cases hx
      exact ⟨_, _, rfl, ValOK.same hh (by cases sd <;> simp [convert, run_underlying' hs, run_underlying' hd]) rfl⟩
    · rename_i e t
      split at hr
      · rename_i he
        cases hr
        cases hx
        have hn : ρ h.next = none := hf _ (Nat.le_refl _) (Nat.lt_succ_self _)
        obtain ⟨ψ, hψ⟩ : ∃ ψ, grownCap w t.size 0 e = t.size + ψ := ⟨_, rfl⟩
        have hrun : (convert s d (.string t)).run P w = .ok (.slice (some ⟨w.heap.size, 0, none⟩) t.size (grownCap w t.size 0 e))
            (w.drew.alloc (.cells (bytesRow t (grownCap w t.size 0 e)) e ((bytesRow t (grownCap w t.size 0 e)).size, (bytesRow t (grownCap w t.size 0 e)).size + 1))) :=
          run_bytes_of_string w s d e t hs hd he
        have hsz : t.data.size = t.size := rfl
        have hbs : (bytesRow t (t.size + ψ)).size = t.size + ψ := by simp [bytesRow, hsz]
        obtain ⟨e1, e2⟩ := HRel.new (w := w.drew) (H' := (newObjA h (.blk { cells := bytesV t.data.toList, cap := t.size, esz := 1, elem := e, exact := false, whole := false, frz := 1, own := true })).heap.get)
          (x := .cells (bytesRow t (t.size + ψ)) e (t.size + ψ, t.size + ψ + 1)) (δ := 0) (ψ := ψ) (hh.heap (w1 := w.drew) rfl) hn
          (blkR_of (bytesV_VRs _) (by simp [bytesV_eq, hsz]) (fun _ => by simp [hbs]) (fun j hj => by
            rw [bytesV_eq] at hj
            simp at hj
            simp only [Nat.zero_add]
            rw [bytesRow, Array.getElem?_append_left (by simpa using hj), bytesV_eq]
            simp) (fun h => by cases h) (fun h => by cases h) (fun h => by cases h) (fun _ => .inr (by simp [hbs])))
          (fun j => T.get_set _ _ _ _)
        rw [hψ, hbs] at hrun
        refine ⟨_, _, rfl, _, _, _, hrun, ?_, ?_, e2.thenWorld (w := w) rfl rfl rfl rfl⟩
        · have := VR.newSl ρ h.next ⟨w.heap.size, 0, ψ⟩ t.size t.size rfl
          simpa using this
        · simpa using e1
      · cases hr
    · rename_i e
      split at hr
      · rename_i he
        split at hr
        · cases hr
          cases hx
          refine ⟨_, _, rfl, ValOK.pure hh (v' := .string .empty) ?_ (.sc _ rfl)⟩
          simp [convert, run_underlying' hs, run_underlying' hd, run_underlying' he, Conv.bytesToString]
        · rename_i a n c _
          split at hr
          · rename_i k hsp hk
            split at hr
            · rename_i cs hcs
              split at hr
              · rename_i bs hbs
                cases hr
                cases hx with
                | sc _ hs => simp [simple] at hs
                | sl b o _ _ L hL =>
                  obtain ⟨L0, x, hL0, hx0, hR⟩ := hh.obj _ _ hk
                  rw [hL] at hL0; cases hL0
                  obtain ⟨c', fr, rfl, hR⟩ := blk_of_or hR
                  obtain ⟨ns, h1, rfl, h3⟩ := bytesAt hR hx0 hcs hbs
                  refine ⟨_, _, rfl, ValOK.pure hh (v' := .string ⟨⟨ns.map UInt8.ofNat⟩⟩) ?_ (.sc _ rfl)⟩
                  have hl := run_loadCells_list (P := P) w ⟨L.φ, L.δ + o, none⟩ (ns.map fun (n : Nat) => Value.int .u8 (n : Int)) (fun j v hj => by rw [addr_add]; exact h3 j v hj)
                  rw [List.length_map, h1] at hl
                  have hb := run_bytesToString (P := P) w ⟨L.φ, L.δ + o, none⟩ n (c + L.ψ) (ns.map fun (n : Nat) => (n : Int)) (by rw [hl]; simp)
                  have hfold : ∀ (ns : List Nat) (s : ByteArray), (ns.map fun (n : Nat) => (n : Int)).foldl (fun r n => r.push (UInt8.ofNat n.toNat)) s = ⟨s.data ++ (ns.map UInt8.ofNat).toArray⟩ := by
                    intro ns
                    induction ns with
                    | nil => intro s; simp
                    | cons n ns ih => intro s; simp only [List.map_cons, List.foldl_cons]; rw [ih]; simp [ByteArray.push]
                  rw [hfold, empty_app] at hb
                  simp only [convert, Sem.run_bind, run_underlying' hs, run_underlying' hd, run_underlying' he, Result.andThen_ok, hb]
              · cases hr
            · cases hr
          · cases hr
        · cases hr
      · cases hr
    · cases hr
      cases hx
      exact ⟨_, _, rfl, ValOK.same hh (by simp [convert, run_underlying' hs, run_underlying' hd, Conv.unsafePointer]) rfl⟩
    · rename_i t a
      split at hr
      · rename_i k i hsp hk hi
        split at hr
        · rename_i m hm hle hown
          cases hr
          cases hx with
          | sc _ hs => simp [simple] at hs
          | ptr b o L hL =>
            obtain ⟨L0, x, hL0, hx0, hR⟩ := hh.obj _ _ hk
            rw [hL] at hL0; cases hL0
            obtain ⟨c, fr, rfl, hR⟩ := blk_of_or hR
            have hroom := hR.room hown
            have hlt : o < k.cap := by
              rcases Nat.lt_or_ge o k.cap with h' | h'
              · exact h'
              · rw [Nat.ble_eq_true_of_le h'] at hle; cases hle
            refine ⟨_, _, rfl, ValOK.pure hh (v' := .pointer (some ⟨L.φ, L.δ + o, none⟩)) ?_ (.ptr b o L hL)⟩
            have h1 := seenAt_run (P := P) (a := ⟨L.φ, L.δ + o, none⟩) hx0
            have h2 := cellsIn_run (P := P) hx0
            have h3 : ¬ (c.size ≤ L.δ + o) := by omega
            simp [convert, run_underlying' hs, run_underlying' hd, Conv.unsafePointer, h1, h2, run_sizeOf' hi, hm, h3]
        · cases hr
      · cases hr
    · cases hr
      cases hx
      exact ⟨_, _, rfl, ValOK.same hh (by simp [convert, run_underlying' hs, run_underlying' hd, Conv.unsafePointer]) rfl⟩
    · rename_i u a
      split at hr
      · rename_i k i hsp hk hi
        split at hr
        · rename_i m hm hwh
          split at hr
          · rename_i hlies
            cases hr
            cases hx with
            | sc _ hs => simp [simple] at hs
            | ptr b o L hL =>
              obtain ⟨L0, x, hL0, hx0, hR⟩ := hh.obj _ _ hk
              rw [hL] at hL0; cases hL0
              obtain ⟨c, fr, rfl, hR⟩ := blk_of_or hR
              obtain ⟨hδ, hcs⟩ := hR.whole hwh
              refine ⟨_, _, rfl, ValOK.pure hh (v' := .pointer (some ⟨L.φ, L.δ + o, none⟩)) ?_ (.ptr b o L hL)⟩
              have h1 := seenAt_run (P := P) (a := ⟨L.φ, L.δ + o, none⟩) hx0
              have h2 : (variablesAt ⟨L.φ, L.δ + o, none⟩ u 1).run P w = .ok true w := by
                have hsh : w.shape? L.φ = some (k.elem, c.size) := by simp [World.shape?, hx0]
                simp only [variablesAt, Sem.run_bind, run_program, Result.andThen_ok, run_shape, hsh, Sem.run_pure, hcs, hδ, Nat.zero_add]
                rw [hlies]
              simp [convert, run_underlying' hs, run_underlying' hd, Conv.unsafePointer, h1, h2, run_sizeOf' hi, hm]
          · cases hr
        · cases hr
      · cases hr
    · cases hr
  · cases hr

/-! ### functions without a body -/

theorem find_of {fn : Func} {e : Array Value → Sem Value} {n : String} (ho : fn.origin = "") (hn : fn.name = n) (h1 : Extern.allNextRows.lookup n = none) (h2 : Extern.allGenericRows.lookup n = none)
    (h3 : (Extern.allTypedRows.lookup n).map (· fn.params fn.resultTypes) = none ∧ Extern.allRows.lookup n = some e ∨ (Extern.allTypedRows.lookup n).map (· fn.params fn.resultTypes) = some e) : Extern.findNext fn = none ∧ Extern.find fn = some e := by
  constructor
  · unfold Extern.findNext
    simp only [hn, ho, h1, next0]
    rfl
  · unfold Extern.find
    simp only [hn, h2]
    rcases h3 with ⟨h3, h4⟩ | h3
    · rw [h3, h4]; rfl
    · rw [h3]; rfl

theorem run_callFunc_ext {f : FuncId} {fn : Func} {e : Array Value → Sem Value} (hf : P.funcs[f]? = some fn) (hb : fn.body = none) (hname : fn.name ≠ "runtime.NumGoroutine") (h1 : Extern.findNext fn = none) (h2 : Extern.find fn = some e) (args : Array Value) :
    (callFunc f args).run P w = ((e args).run P w).andThen fun v w' => .ok (.value v) w' := by
  simp [callFunc, hf, hname, hb, h1, h2, mark, Sem.run]

theorem ResOK.ext {f : FuncId} {fn : Func} {e : Array Value → Sem Value} {args : Array Value} {v : Value} {h' : Hs} (hf : P.funcs[f]? = some fn) (hb : fn.body = none) (hname : fn.name ≠ "runtime.NumGoroutine") (h1 : Extern.findNext fn = none) (h2 : Extern.find fn = some e)
    (hv : ValOK P ρ h w (e args) v h') : ResOK P ρ h w (callFunc f args) (.val v h') := by
  obtain ⟨ρ', v', w', a, b, c, d⟩ := hv
  exact ⟨ρ', v', w', by rw [run_callFunc_ext hf hb hname h1 h2, a]; rfl, b, c, d⟩

theorem digits_size : ∀ (n t : Nat) (acc : Array Value), (Extern.BytealgMakeNoZero.digits n t acc).size = acc.size + n
  | 0, _, acc => rfl
  | n + 1, t, acc => by simp [Extern.BytealgMakeNoZero.digits, digits_size n]; omega

theorem mnz_def (ps rs : Array TypeId) (n : Nat) : Extern.BytealgMakeNoZero.makeNoZero ps rs #[.int .i64 (Int.ofNat n)] = (do
    let some t := rs[0]? | stuck "bytealg.MakeNoZero: no result type"
    let .slice elem ← underlying t | stuck "bytealg.MakeNoZero: slice type expected"
    if (n : Int) < 0 || (n : Int) > 2 ^ 48 then runtimePanic (.error "makeslice: len out of range")
    let cap ← choose (.appendCap (n : Int).toNat 0 elem)
    askRoom cap
    let bytes ← choose (.extern "internal/bytealg.MakeNoZero.bytes" 0)
    let a ← newRow elem (Extern.BytealgMakeNoZero.digits cap bytes #[])
    pure (.slice (some a) (n : Int).toNat cap)) := rfl

theorem extern_ok {f : FuncId} {fn : Func} {args args' : List Value} {r : Res} (hf' : P.funcs[f]? = some fn) (hb : fn.body = none) (ha : VRs ρ args args') (hh : HRel ρ h.heap.get w) (hf : Fresh ρ h.next (r.next h)) (hr : aextern P h fn args = some r) :
    ResOK P ρ h w (callFunc f ⟨args'⟩) r := by
  unfold aextern at hr
  split at hr
  · rename_i x hno
    cases hr
    obtain ⟨ho, hn⟩ : fn.origin = "" ∧ fn.name = "internal/abi.NoEscape" := by
      unfold externNo at hno
      repeat' (split at hno)
      all_goals first | exact ⟨by assumption, by assumption⟩ | (exact absurd hno (by decide))
    obtain ⟨h1, h2⟩ := find_of ho hn next1 gen1 (.inl ⟨by rw [typ1]; rfl, row1⟩)
    cases ha with
    | cons _ x' _ _ hx hr =>
      cases hr
      exact ResOK.ext hf' hb (by rw [hn]; decide) h1 h2 (ValOK.pure hh (v' := x') rfl hx)
  · rename_i n hno
    obtain ⟨ho, hn⟩ : fn.origin = "" ∧ fn.name = "internal/bytealg.MakeNoZero" := by
      unfold externNo at hno
      repeat' (split at hno)
      all_goals first | exact ⟨by assumption, by assumption⟩ | (exact absurd hno (by decide))
    obtain ⟨h1, h2⟩ := find_of ho hn next2 gen2 (.inr (by rw [typ2]; rfl))
    split at hr
    · rename_i t rest hres
      split at hr
      · rename_i e hu hle
        cases hr
        cases ha with
        | cons _ x' _ _ hx hr =>
          cases hr
          cases hx
          have hn' : ρ h.next = none := hf _ (Nat.le_refl _) (Nat.lt_succ_self _)
          have hle' : n ≤ 1099511627776 := Nat.le_of_ble_eq_true hle
          refine ResOK.ext hf' hb (by rw [hn]; decide) h1 h2 ?_
          have ht : fn.resultTypes[0]? = some t := by rw [← Array.getElem?_toList, hres]; rfl
          obtain ⟨ψ, bytes, hrun⟩ : ∃ ψ bytes, (Extern.BytealgMakeNoZero.makeNoZero fn.params fn.resultTypes #[.int .i64 (Int.ofNat n)]).run P w =
              .ok (.slice (some ⟨w.heap.size, 0, none⟩) n (n + ψ)) (w.drew.drew.alloc (.cells (Extern.BytealgMakeNoZero.digits (n + ψ) bytes #[]) e)) := by
            refine ⟨w.tape w.drawn (.appendCap n 0 e) % (2 ^ 63 - n), (Question.extern "internal/bytealg.MakeNoZero.bytes" 0).cut (w.drew.tape w.drew.drawn (.extern "internal/bytealg.MakeNoZero.bytes" 0)), ?_⟩
            rw [mnz_def]
            have c1 : ¬ ((n : Int) < 0) := by omega
            have c2 : ¬ ((n : Int) > 2 ^ 48) := by omega
            have c3 : (decide ((n : Int) < 0) || decide ((n : Int) > 2 ^ 48)) = false := by rw [decide_eq_false c1, decide_eq_false c2]; rfl
            have hcut : (Question.appendCap n 0 e).cut (w.tape w.drawn (.appendCap n 0 e)) = n + w.tape w.drawn (.appendCap n 0 e) % (2 ^ 63 - n) := rfl
            simp only [ht, Sem.run_bind, run_underlying' hu, Result.andThen_ok, c3, Bool.false_eq_true, if_false, run_choose, Question.forced, Int.toNat_natCast, World.drew_eq, hcut, run_askRoom, run_newRow, Sem.run_pure]
            rfl
          obtain ⟨e1, e2⟩ := HRel.new (w := w.drew.drew) (H' := (newObjA h (.blk { cells := [], cap := n, esz := 1, elem := e, exact := false, whole := false, frz := 0, own := true })).heap.get)
            (x := .cells (Extern.BytealgMakeNoZero.digits (n + ψ) bytes #[]) e) (δ := 0) (ψ := ψ) (hh.heap (w1 := w.drew.drew) rfl) hn'
            (blkR_of .nil (by simp) (fun _ => by simp [digits_size]) (fun j hj => by simp at hj) (fun h => by cases h) (fun h => by cases h) (fun _ => rfl) (fun h => by cases h)) (fun j => T.get_set _ _ _ _)
          refine ⟨_, _, _, hrun, ?_, ?_, e2.thenWorld (w := w) rfl rfl rfl rfl⟩
          · have := VR.newSl ρ h.next ⟨w.heap.size, 0, ψ⟩ n n rfl
            simpa using this
          · simpa using e1
      · cases hr
    · cases hr
  · rename_i x y hno
    obtain ⟨ho, hn⟩ : fn.origin = "" ∧ fn.name = "internal/bytealg.IndexByteString" := by
      unfold externNo at hno
      repeat' (split at hno)
      all_goals first | exact ⟨by assumption, by assumption⟩ | (exact absurd hno (by decide))
    obtain ⟨h1, h2⟩ := find_of ho hn next3 gen3 (.inl ⟨by rw [typ3]; rfl, row3⟩)
    split at hr
    · rename_i p1 p2
      split at hr
      · rename_i v hv
        cases hr
        obtain ⟨h3, h4⟩ := prunV_sound hv
        cases ha with
        | cons _ x' _ _ hx hr =>
          cases hr with
          | cons _ y' _ _ hy hr =>
            cases hr
            have e1 := hx.plain p1
            have e2 := hy.plain p2
            subst e1 e2
            exact ResOK.ext hf' hb (by rw [hn]; decide) h1 h2 (ValOK.pure hh (h3 w) (VR.of_plain h4))
      · cases hr
    · cases hr
  · rename_i x y hno
    obtain ⟨ho, hn⟩ : fn.origin = "" ∧ fn.name = "internal/bytealg.CountString" := by
      unfold externNo at hno
      repeat' (split at hno)
      all_goals first | exact ⟨by assumption, by assumption⟩ | (exact absurd hno (by decide))
    obtain ⟨h1, h2⟩ := find_of ho hn next4 gen4 (.inl ⟨by rw [typ4]; rfl, row4⟩)
    split at hr
    · rename_i p1 p2
      split at hr
      · rename_i v hv
        cases hr
        obtain ⟨h3, h4⟩ := prunV_sound hv
        cases ha with
        | cons _ x' _ _ hx hr =>
          cases hr with
          | cons _ y' _ _ hy hr =>
            cases hr
            have e1 := hx.plain p1
            have e2 := hy.plain p2
            subst e1 e2
            exact ResOK.ext hf' hb (by rw [hn]; decide) h1 h2 (ValOK.pure hh (h3 w) (VR.of_plain h4))
      · cases hr
    · cases hr
  · cases hr

end
end Go.AV
