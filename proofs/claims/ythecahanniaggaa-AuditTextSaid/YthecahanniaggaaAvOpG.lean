/-
  The operations' soundness, seventh part: builtins, conversions, functions without a body.
-/
import Derived.Test.YthecahanniaggaaAvOpF
import Derived.Test.YthecahanniaggaaAvExt
import Derived.Laws.IdiomStrings
namespace Go.AV

section
variable {P : Program} {ρ : Ren} {w : World} {h : Hs}

theorem copy_ok {ats : List TypeId} {d d' s s' : Value} {ty : TypeId} {r : Res} (hd : VR ρ d d') (hs : VR ρ s s') (hh : HRel ρ h.heap.get w) (hr : abuiltin P h .copy ats [d, s] = some r) :
    ∃ v h', r = .val v h' ∧ ValOK P ρ h w (Builtin.copy_ ⟨ats⟩ ty #[d', s']) v h' := by
  simp only [abuiltin] at hr
  split at hr
  · rename_i t _
    split at hr
    · rename_i e hu
      split at hr
      · rename_i i base dl dc sl hi hsl
        have hlen := lenV_sound (P := P) (w := w) hs hsl
        split at hr
        · rename_i cs hcs
          obtain ⟨cs', hrun, hR⟩ := firstC_sound (P := P) hh hs hcs
          have hrun := hrun w rfl
          split at hr
          · cases hr
            cases hd with
            | sc _ _ => exact ⟨_, _, rfl, ValOK.pure hh (v' := goInt (Nat.min sl dl)) (by simp [Builtin.copy_, run_underlying' hu, hlen, run_sizeOf' hi, hrun]) (.sc _ rfl)⟩
          · cases hr
            cases hR
            cases hd with
            | sc _ hs => simp [simple] at hs
            | sl b o _ _ L hL => exact ⟨_, _, rfl, ValOK.pure hh (v' := goInt (Nat.min sl dl)) (by simp [Builtin.copy_, run_underlying' hu, hlen, run_sizeOf' hi, hrun, storeCells]) (.sc _ rfl)⟩
          · rename_i a _ _
            split at hr
            · rename_i h1 hsp hw
              cases hr
              obtain ⟨L, w', hL, hst, hh', hstep⟩ := writeAt_sound (P := P) hh hw hR
              cases hd with
              | sc _ hs => simp [simple] at hs
              | sl b o _ _ L' hL' =>
                rw [hL] at hL'; cases hL'
                exact ⟨_, _, rfl, ρ, goInt (Nat.min sl dl), w', by simp [Builtin.copy_, run_underlying' hu, hlen, run_sizeOf' hi, hrun, hst], .sc _ rfl, hh', hstep _ _⟩
            · cases hr
        · cases hr
      · cases hr
    · cases hr
  · cases hr

theorem len_ok {ats : List TypeId} {x x' : Value} {ty : TypeId} {r : Res} (hx : VR ρ x x') (hh : HRel ρ h.heap.get w) (hr : abuiltin P h .len ats [x] = some r) :
    ∃ v h', r = .val v h' ∧ ValOK P ρ h w (Builtin.len_ ⟨ats⟩ ty #[x']) v h' := by
  simp only [abuiltin] at hr
  split at hr
  · rename_i t _
    split at hr
    · rename_i s hu
      cases hr
      cases hx
      exact ⟨_, _, rfl, ValOK.pure hh (v' := goInt s.size) (by simp [Builtin.len_, run_underlying' hu]) (.sc _ rfl)⟩
    · rename_i n e hu
      cases hr
      exact ⟨_, _, rfl, ValOK.pure hh (v' := goInt n) (by simp [Builtin.len_, run_underlying' hu]) (.sc _ rfl)⟩
    · rename_i e a n c hu
      cases hr
      refine ⟨_, _, rfl, ValOK.pure hh (v' := goInt n) ?_ (.sc _ rfl)⟩
      cases hx <;> simp [Builtin.len_, run_underlying' hu]
    · rename_i k e hu
      cases hr
      cases hx
      exact ⟨_, _, rfl, ValOK.pure hh (v' := goInt 0) (by simp [Builtin.len_, run_underlying' hu]) (.sc _ rfl)⟩
    · rename_i k e b hu
      split at hr
      · rename_i es ck hb
        cases hr
        cases hx with
        | sc _ hs => simp [simple] at hs
        | map _ L hL =>
          obtain ⟨L0, x, hL0, hx0, hR⟩ := hh.obj _ _ hb
          rw [hL] at hL0; cases hL0
          cases x <;> simp only [OR] at hR <;> first | exact hR.elim | skip
          rename_i es' ck'
          have hlen : es'.size = es.length := by
            rw [← Array.length_toList]
            have : ∀ {l l' : List MapEntry}, ERs ρ l l' → l'.length = l.length := by
              intro l l' h
              induction h with
              | nil => rfl
              | cons _ _ _ _ _ _ ih => simp [ih]
            exact this hR.1
          refine ⟨_, _, rfl, ValOK.pure hh (v' := goInt es.length) ?_ (.sc _ rfl)⟩
          simp [Builtin.len_, run_underlying' hu, getObj, Sem.run, hx0, hlen]
      · cases hr
    · cases hr
  · cases hr

theorem cap_ok {ats : List TypeId} {x x' : Value} {ty : TypeId} {r : Res} (hx : VR ρ x x') (hh : HRel ρ h.heap.get w) (hr : abuiltin P h .cap ats [x] = some r) :
    ∃ v h', r = .val v h' ∧ ValOK P ρ h w (Builtin.cap_ ⟨ats⟩ ty #[x']) v h' := by
  simp only [abuiltin] at hr
  split at hr
  · rename_i t _
    split at hr
    · rename_i e n c hu
      cases hr
      cases hx
      exact ⟨_, _, rfl, ValOK.pure hh (v' := goInt c) (by simp [Builtin.cap_, run_underlying' hu]) (.sc _ rfl)⟩
    · rename_i e a n c hu
      split at hr
      · rename_i k hk
        split at hr
        · rename_i hex
          cases hr
          cases hx with
          | sc _ hs => simp [simple] at hs
          | sl b o _ _ L hL =>
            obtain ⟨L0, x, hL0, hx0, hR⟩ := hh.obj _ _ hk
            rw [hL] at hL0; cases hL0
            obtain ⟨c', fr, rfl, hR⟩ := blk_of_or hR
            have hψ := hR.exact hex
            exact ⟨_, _, rfl, ValOK.pure hh (v' := goInt c) (by simp [Builtin.cap_, run_underlying' hu, hψ]) (.sc _ rfl)⟩
        · cases hr
      · cases hr
    · cases hr
  · cases hr

theorem zeroCells_eq (z : Value) (n : Nat) : (Builtin.zeroCells z.cells n).toList = rep n (vcells z) := by
  rw [← vcells_eq]
  rcases Nat.eq_zero_or_pos z.cells.size with h | h
  · have h1 : z.cells.toList = [] := by rw [← List.length_eq_zero_iff, Array.length_toList]; exact h
    have h2 : ∀ k, rep k ([] : List Value) = [] := fun k => by
      induction k with
      | zero => rfl
      | succ k ih => simp [rep, ih]
    simp [Builtin.zeroCells, h, h1, h2]
  · have := zeros_eq n z z.cells.size rfl (.inl (by omega))
    simp only [Builtin.zeroCells, this]

theorem rep_plain {z : Value} (hz : plainV z = true) (n : Nat) : VRs ρ (rep n (vcells z)) (rep n (vcells z)) := by
  induction n with
  | zero => exact .nil
  | succ k ih =>
    refine VRs.append ?_ ih
    have := (VR.of_plain hz (ρ := ρ)).cells
    rw [vcells_eq] at this
    exact this

theorem clear_ok {ats : List TypeId} {x x' : Value} {ty : TypeId} {r : Res} (hx : VR ρ x x') (hh : HRel ρ h.heap.get w) (hr : abuiltin P h .clear ats [x] = some r) :
    ∃ v h', r = .val v h' ∧ ValOK P ρ h w (Builtin.clear_ ⟨ats⟩ ty #[x']) v h' := by
  simp only [abuiltin] at hr
  split at hr
  · rename_i t _
    split at hr
    · rename_i e a n c hu
      split at hr
      · rename_i i hi hsp
        split at hr
        · rename_i z hz hz'
          split at hr
          · cases hr
            cases hx with
            | sc _ hs => simp [simple] at hs
            | sl b o _ _ L hL =>
              exact ⟨_, _, rfl, ValOK.pure hh (v' := .tuple #[]) (by simp [Builtin.clear_, run_underlying' hu]) (.tuple [] [] .nil)⟩
          · rename_i n' hn'
            split at hr
            · rename_i h1 hw
              cases hr
              obtain ⟨L, w', hL, hst, hh', hstep⟩ := writeAt_sound (P := P) hh hw (rep_plain (by simpa [hz] using hz') n)
              cases hx with
              | sc _ hs => simp [simple] at hs
              | sl b o _ _ L' hL' =>
                rw [hL] at hL'; cases hL'
                refine ⟨_, _, rfl, ρ, .tuple #[], w', ?_, .tuple [] [] .nil, hh', hstep _ _⟩
                cases n with
                | zero => exact (hn' rfl).elim
                | succ n => simp [Builtin.clear_, run_underlying' hu, run_zeroValue' hi hz, zeroCells_eq, hst]
            · cases hr
        · cases hr
      · cases hr
    · cases hr
  · cases hr

theorem minmax_ok {b : Builtin} {l l' : List Value} {ats : Array TypeId} {ty : TypeId} {r : Res} (hl : VRs ρ l l') (hh : HRel ρ h.heap.get w) (hb : (b = .min ∧ abuiltin P h .min ats.toList l = some r) ∨ (b = .max ∧ abuiltin P h .max ats.toList l = some r)) :
    ∃ v h', r = .val v h' ∧ ValOK P ρ h w (if b matches .min then Builtin.min_ ats ty ⟨l'⟩ else Builtin.max_ ats ty ⟨l'⟩) v h' := by
  rcases hb with ⟨rfl, hr⟩ | ⟨rfl, hr⟩
  · simp only [abuiltin] at hr
    split at hr
    · rename_i hp
      have := hl.plain hp; subst this
      split at hr
      · rename_i v hv
        cases hr
        obtain ⟨h1, h2⟩ := prunV_sound hv
        exact ⟨v, h, rfl, ValOK.pure hh (h1 w) (VR.of_plain h2)⟩
      · cases hr
    · cases hr
  · simp only [abuiltin] at hr
    split at hr
    · rename_i hp
      have := hl.plain hp; subst this
      split at hr
      · rename_i v hv
        cases hr
        obtain ⟨h1, h2⟩ := prunV_sound hv
        exact ⟨v, h, rfl, ValOK.pure hh (h1 w) (VR.of_plain h2)⟩
      · cases hr
    · cases hr

theorem usd_ok {ats : List TypeId} {x x' : Value} {ty : TypeId} {r : Res} (hx : VR ρ x x') (hh : HRel ρ h.heap.get w) (hr : abuiltin P h .unsafeSliceData ats [x] = some r) :
    ∃ v h', r = .val v h' ∧ ValOK P ρ h w (Builtin.unsafeSliceData_ ⟨ats⟩ ty #[x']) v h' := by
  simp only [abuiltin] at hr
  split at hr
  · cases hr
    cases hx
    exact ⟨_, _, rfl, ValOK.pure hh (v' := .pointer none) rfl (.sc _ rfl)⟩
  · rename_i a n c
    cases hr
    cases hx with
    | sc _ hs => simp [simple] at hs
    | sl b o _ _ L hL =>
      refine ⟨_, _, rfl, ValOK.pure hh (v' := .pointer (some ⟨L.φ, L.δ + o, none⟩)) ?_ (.ptr b o L hL)⟩
      have : c + 1 + L.ψ ≠ 0 := by omega
      change Sem.run P (if c + 1 + L.ψ ≠ 0 then pure (Value.pointer (some ⟨L.φ, L.δ + o, none⟩)) else _) w = _
      rw [if_pos this]
      rfl
  · cases hr

theorem vBytes_sound : ∀ {cs : List Value} {bs : List UInt8}, vBytes cs = some bs → ∃ ns : List Nat, cs = ns.map (fun (n : Nat) => Value.int .u8 (n : Int)) ∧ bs = ns.map UInt8.ofNat
  | [], bs, hb => by simp only [vBytes, Option.some.injEq] at hb; subst hb; exact ⟨[], rfl, rfl⟩
  | .int .u8 (.ofNat n) :: l, bs, hb => by
    simp only [vBytes] at hb
    split at hb
    · rename_i r hr
      cases hb
      obtain ⟨ns, h1, h2⟩ := vBytes_sound hr
      exact ⟨n :: ns, by simp [h1], by simp [h2]⟩
    · cases hb
  | .int .u8 (.negSucc n) :: l, bs, hb => by simp [vBytes] at hb
  | .int .i8 _ :: l, bs, hb => by simp [vBytes] at hb
  | .int .i16 _ :: l, bs, hb => by simp [vBytes] at hb
  | .int .i32 _ :: l, bs, hb => by simp [vBytes] at hb
  | .int .i64 _ :: l, bs, hb => by simp [vBytes] at hb
  | .int .u16 _ :: l, bs, hb => by simp [vBytes] at hb
  | .int .u32 _ :: l, bs, hb => by simp [vBytes] at hb
  | .int .u64 _ :: l, bs, hb => by simp [vBytes] at hb
  | .bool _ :: l, bs, hb => by simp [vBytes] at hb
  | .float _ _ :: l, bs, hb => by simp [vBytes] at hb
  | .complex _ _ _ :: l, bs, hb => by simp [vBytes] at hb
  | .string _ :: l, bs, hb => by simp [vBytes] at hb
  | .pointer _ :: l, bs, hb => by simp [vBytes] at hb
  | .slice _ _ _ :: l, bs, hb => by simp [vBytes] at hb
  | .map _ :: l, bs, hb => by simp [vBytes] at hb
  | .chan _ :: l, bs, hb => by simp [vBytes] at hb
  | .func _ _ _ :: l, bs, hb => by simp [vBytes] at hb
  | .nilFunc :: l, bs, hb => by simp [vBytes] at hb
  | .iface _ _ :: l, bs, hb => by simp [vBytes] at hb
  | .nilIface :: l, bs, hb => by simp [vBytes] at hb
  | .agg _ :: l, bs, hb => by simp [vBytes] at hb
  | .tuple _ :: l, bs, hb => by simp [vBytes] at hb

theorem ints_plain (ns : List Nat) : plainL (ns.map fun (n : Nat) => Value.int .u8 (n : Int)) = true := by
  induction ns with
  | nil => rfl
  | cons n ns ih => simpa [plainL, plainV] using ih

/-- the cells that a string is made of -/
theorem bytesAt {L : Loc} {k : Blk} {c : Array Value} {e : TypeId} {fr : Nat × Nat} {n off : Nat} {cs : List Value} {bs : List UInt8} (hR : BlkR ρ L k c e fr) (hx : w.heap[L.φ]? = some (.cells c e fr)) (ht : takeN n (dropN off k.cells) = some cs) (hb : vBytes cs = some bs) :
    ∃ ns : List Nat, ns.length = n ∧ bs = ns.map UInt8.ofNat ∧ ∀ j (v : Value), (ns.map fun (n : Nat) => Value.int .u8 (n : Int))[j]? = some v → w.cell? ⟨L.φ, L.δ + off + j, none⟩ = some v := by
  obtain ⟨cs', h1, h2, h3⟩ := hR.cellsAt hx ht
  obtain ⟨ns, rfl, rfl⟩ := vBytes_sound hb
  have := h2.plain (ints_plain ns)
  subst this
  exact ⟨ns, by simpa using h1, rfl, h3⟩

theorem loadBytes_run (b : Nat) : ∀ (ns : List Nat) (o : Nat) (acc : ByteArray), (∀ j (v : Value), (ns.map fun (n : Nat) => Value.int .u8 (n : Int))[j]? = some v → w.cell? ⟨b, o + j, none⟩ = some v) →
    (loadBytes ⟨b, o, none⟩ acc ns.length).run P w = .ok ⟨acc.data ++ (ns.map UInt8.ofNat).toArray⟩ w
  | [], o, acc, _ => by simp [loadBytes]
  | n :: ns, o, acc, hc => by
    have h0 : w.cell? ⟨b, o, none⟩ = some (.int .u8 (n : Int)) := hc 0 _ rfl
    have ih := loadBytes_run b ns (o + 1) (acc.push (n : Int).toNat.toUInt8) (fun j v hj => by
      have := hc (j + 1) v (by simpa using hj)
      rwa [show o + (j + 1) = o + 1 + j by omega] at this)
    simp only [List.length_cons, loadBytes, Sem.run_bind, run_load, h0, Result.andThen_ok, addr_add, ih]
    simp [ByteArray.push]

theorem rowAt_one {f : TypeId → Bool} {d e count off n : Nat} (hc : P.cellsOf e = 1) (hf : f e = true) (hle : off + n ≤ count) : rowAt P f (d + 1) e count off n = true := by
  unfold rowAt
  rw [hc]
  simp [hf, hle, Nat.mod_one]

theorem lies_bytes {e u : TypeId} {count off n : Nat} (hc : P.cellsOf e = 1) (he : e = u) (hle : off + n ≤ count) : liesAt P P.depth e count off u n = true := by
  subst he
  obtain ⟨d, hd⟩ : ∃ d, P.depth = d + 1 := ⟨P.depth - 1, by unfold Program.depth; omega⟩
  have hs : sameLayout P P.depth e e = true := by rw [hd]; unfold sameLayout; simp
  have h1 : rowAt P (sameLayout P P.depth · e) P.depth e count off n = true := by
    have := rowAt_one (P := P) (f := (sameLayout P P.depth · e)) (d := d) hc hs hle
    rw [← hd] at this
    exact this
  have hl : ∀ k, liesAt P (k + 1) e count off e n = (rowAt P (sameLayout P P.depth · e) P.depth e count off n || match P.underlying e with
      | some (.array m u') => liesAt P k e count off u' (n * m)
      | _ => false) := fun k => rfl
  have h2 := hl d
  rw [h1, Bool.true_or] at h2
  rw [← hd] at h2
  exact h2

theorem WUpd.freeze {b n o : Nat} {c : Array Value} {e : TypeId} {fr : Nat × Nat} (hn : n ≠ 0) (h : w.heap[b]? = some (.cells c e fr)) : ∃ fr', WUpd w (w.freeze ⟨b, o, none⟩ n) b (.cells c e fr') := by
  obtain ⟨lo, hi⟩ := fr
  refine ⟨if lo == hi then (o, o + n) else (min lo o, max hi (o + n)), ?_⟩
  have he : w.freeze ⟨b, o, none⟩ n = { w with heap := w.heap.modify b fun
      | .cells c elem (lo, hi) => .cells c elem (if lo == hi then (o, o + n) else (min lo o, max hi (o + n)))
      | o => o } := by
    unfold World.freeze
    rw [if_neg hn]
    rfl
  rw [he]
  refine ⟨rfl, rfl, rfl, by simp, fun k hk => ?_, ?_⟩
  · simp only [Array.getElem?_modify]
    rw [if_neg (by omega)]
  · simp [Array.getElem?_modify, h]

theorem empty_app (l : List UInt8) : ByteArray.empty.data ++ l.toArray = ⟨l⟩ := by apply Array.ext'; simp

theorem us_def (t : TypeId) (rest : List TypeId) (ty : TypeId) (a : Addr) (k : IntKind) (m : Int) : Builtin.unsafeString_ ⟨t :: rest⟩ ty #[.pointer (some a), .int k m] =
    (do
      let n ← asInt (.int k m)
      if n < 0 then runtimePanic (.error "unsafe.String: len out of range")
      if n > IntKind.i64.max then unsupported (.unsafePointer "String: a length above the largest int")
      if n = 0 then pure (.string .empty)
      else if ← variablesAt a (← elemOf t) n.toNat then do
        let s ← loadBytes a .empty n.toNat
        freeze a n.toNat
        pure (.string s)
      else unsupported (.unsafePointer "String: not so many bytes at ptr")) := rfl

theorem us_ok {ats : List TypeId} {p p' m m' : Value} {ty : TypeId} {r : Res} (hp : VR ρ p p') (hm : VR ρ m m') (hh : HRel ρ h.heap.get w) (hr : abuiltin P h .unsafeString ats [p, m] = some r) :
    ∃ v h', r = .val v h' ∧ ValOK P ρ h w (Builtin.unsafeString_ ⟨ats⟩ ty #[p', m']) v h' := by
  simp only [abuiltin] at hr
  split at hr
  · rename_i t rest
    split at hr
    · rename_i k
      cases hr
      cases hp
      cases hm
      exact ⟨_, _, rfl, ValOK.pure hh (v' := .string .empty) rfl (.sc _ rfl)⟩
    · rename_i a k n
      split at hr
      · rename_i n kb et hsp hk hu
        split at hr
        · rename_i cs i hcs he hkel hi
          split at hr
          · rename_i bs hbs hsz hle hown
            cases hr
            cases hm
            cases hp with
            | sc _ hs => simp [simple] at hs
            | ptr b o L hL =>
              obtain ⟨L0, x, hL0, hx0, hR⟩ := hh.obj _ _ hk
              rw [hL] at hL0; cases hL0
              obtain ⟨c, fr, rfl, hR⟩ := blk_of_or hR
              obtain ⟨ns, h1, rfl, h3⟩ := bytesAt hR hx0 hcs hbs
              have hkel' : kb.elem = et := Nat.eq_of_beq_eq_true hkel
              have hsz' := Nat.eq_of_beq_eq_true hsz
              have hle' : n + 1 ≤ 1099511627776 := Nat.le_of_ble_eq_true hle
              have hlast : L.δ + o + (n + 1) ≤ c.size := by
                have hn : (ns.map fun (n : Nat) => Value.int .u8 (n : Int))[n]? ≠ none := by simp; omega
                obtain ⟨v, hv⟩ := Option.ne_none_iff_exists'.1 hn
                have := h3 n v hv
                simp [World.cell?, hx0] at this
                have := (Array.getElem?_eq_some_iff.1 this).1
                omega
              have hcells : P.cellsOf et = 1 := by unfold Program.cellsOf; rw [hi]; exact hsz'
              have hvars : (variablesAt ⟨L.φ, L.δ + o, none⟩ et (n + 1)).run P w = .ok true w := by
                have hsh : w.shape? L.φ = some (kb.elem, c.size) := by simp [World.shape?, hx0]
                simp only [variablesAt, Sem.run_bind, run_program, Result.andThen_ok, run_shape, hsh, Sem.run_pure]
                rw [hkel', hcells, Nat.div_one, lies_bytes hcells rfl hlast]
              have hload := loadBytes_run (P := P) (w := w) L.φ ns (L.δ + o) .empty h3
              rw [h1] at hload
              obtain ⟨fr', hu'⟩ := WUpd.freeze (o := L.δ + o) (show n + 1 ≠ 0 by omega) hx0
              have hOR : OR ρ L (.blk { kb with frz := 2 }) (.cells c kb.elem fr') :=
                ⟨rfl, hR.len, hR.room, hR.cell, hR.exact, hR.whole, (fun h => by cases h), (fun h => by cases h)⟩
              refine ⟨_, _, rfl, ρ, .string ⟨⟨ns.map UInt8.ofNat⟩⟩, w.freeze ⟨L.φ, L.δ + o, none⟩ (n + 1), ?_, .sc _ rfl, hh.upd hk hown hL hu' hOR (fun j => T.get_set _ _ _ _), Step.upd hk hown hL hu' (fun j => T.get_set _ _ _ _) _ _⟩
              have helem : (elemOf t).run P w = .ok et w := by simp [elemOf, run_underlying' hu]
              have hmax : ¬ ((n + 1 : Nat) : Int) > IntKind.i64.max := by
                have : IntKind.i64.max = 9223372036854775807 := by decide
                rw [this]; omega
              have hneg : ¬ ((n + 1 : Nat) : Int) < 0 := by omega
              rw [show (Int.ofNat (n + 1)) = ((n + 1 : Nat) : Int) from rfl, us_def]
              have hasint : (asInt (.int k ((n + 1 : Nat) : Int))).run P w = .ok ((n + 1 : Nat) : Int) w := rfl
              have hz : ¬ ((n + 1 : Nat) : Int) = 0 := by omega
              simp only [Sem.run_bind, hasint, Result.andThen_ok, if_neg hneg, if_neg hmax, if_neg hz, Int.toNat_natCast, helem, hvars, if_true, hload, run_freeze, Sem.run_pure, empty_app]
          · cases hr
        · cases hr
      · cases hr
    · cases hr
  · cases hr

end
end Go.AV
