/-
  The operations' soundness, sixth part: comparisons, what only computes, conversions, new slices.
-/
import Derived.Test.YthecahanniaggaaAvOpE
import Derived.IntWalk
namespace Go.AV

section
variable {P : Program} {ρ : Ren} {w : World} {h : Hs}

theorem prunV_sound {s : Sem Value} {v : Value} (hv : prunV P s = some v) : (∀ w, s.run P w = .ok v w) ∧ plainV v = true := by
  unfold prunV at hv
  split at hv
  · rename_i u hu
    split at hv
    · rename_i hp; cases hv; exact ⟨prun_sound hu, hp⟩
    · cases hv
  · cases hv

theorem unary_ok {op : UnOp} {x x' : Value} {r : Res} (hh : HRel ρ h.heap.get w) (hx : VR ρ x x') (hr : aunary P h op x = some r) : ∃ v, r = .val v h ∧ ValOK P ρ h w (Op.unary op x') v h := by
  unfold aunary at hr
  split at hr
  · rename_i hp
    split at hr
    · rename_i v hv
      cases hr
      have := hx.plain hp; subst this
      obtain ⟨h1, h2⟩ := prunV_sound hv
      exact ⟨v, rfl, ValOK.pure hh (h1 w) (VR.of_plain h2)⟩
    · cases hr
  · cases hr

theorem noView_run {a : Addr} {c : Array Value} {e : TypeId} {fr : Nat × Nat} (hx : w.heap[a.block]? = some (.cells c e fr)) : (noView a).run P w = .ok () w := by
  have : w.shape? a.block = some (e, c.size) := by simp [World.shape?, hx]
  simp [noView, viewAt, this]

theorem stringish_run {a : Addr} {c : Array Value} {e : TypeId} (hx : w.heap[a.block]? = some (.cells c e (0, 0))) : (stringish a).run P w = .ok false w := by
  have h1 : w.shape? a.block = some (e, c.size) := by simp [World.shape?, hx]
  have h2 : w.frozen? a = false := by simp [World.frozen?, hx]
  have h3 : w.frozen? { block := a.block, off := c.size } = false := by simp [World.frozen?, hx]
  simp [stringish, h1, h2, h3]

theorem sameAddr_ne {a b : Addr} {c d : Array Value} {e f : TypeId} (hne : a.block ≠ b.block) (hx : w.heap[a.block]? = some (.cells c e (0, 0))) (hy : w.heap[b.block]? = some (.cells d f (0, 0))) : (sameAddr a b).run P w = .ok false w := by
  have h2 : w.frozen? a = false := by simp [World.frozen?, hx]
  have hb : (a.block == b.block) = false := by simpa using hne
  have h3 : w.shape? b.block = some (f, d.size) := by simp [World.shape?, hy]
  simp [sameAddr, hb, h2, noView_run hx, noView_run hy, mayBeOne, stringish_run hx, stringish_run hy, h3]

theorem equal_succ (t : TypeId) (x y : Value) : Op.equal t x y = Op.equalIn (9999 + 1) t x y := rfl

theorem eqNil_sound {d : TypeDesc} {xt : TypeId} {x x' y y' : Value} {b : Bool} (hh : HRel ρ h.heap.get w) (hu : P.underlying xt = some d) (hx : VR ρ x x') (hy : VR ρ y y') (hr : eqNil P h d x y = some b) :
    (Op.equal xt x' y').run P w = .ok b w ∧ (∀ op ox oy, (eqGuard op xt ox oy x' y').run P w = .ok () w) ∧
      binOp .eql xt x' y' = (do pure (.bool (← Op.equal xt x' y'))) ∧ binOp .neq xt x' y' = (do pure (.bool (!(← Op.equal xt x' y')))) := by
  have guard : ∀ (a c : Value) op ox oy, (∀ a', a ≠ .agg a') → (a ≠ .nilIface) → (eqGuard op xt ox oy a c).run P w = .ok () w := by
    intro a c op ox oy h1 h2
    unfold eqGuard
    cases op <;> first | rfl | (cases a <;> first | rfl | exact (h1 _ rfl).elim | exact (h2 rfl).elim)
  unfold eqNil at hr
  split at hr
  · rename_i e b0
    cases hr
    cases hx with
    | sc _ _ =>
      have : ∃ b', y' = .pointer b' ∧ b'.isNone = b0.isNone := by
        cases hy with
        | sc _ _ => exact ⟨_, rfl, rfl⟩
        | ptr => exact ⟨_, rfl, rfl⟩
      obtain ⟨b', rfl, hb⟩ := this
      exact ⟨by rw [equal_succ, Op.equalIn]; simp [run_underlying' hu, hb], fun op ox oy => guard _ _ _ _ _ (by simp) (by simp), rfl, rfl⟩
  · cases hr
    cases hx with
    | sc _ hs => simp [simple] at hs
    | ptr b o L hL =>
      cases hy with
      | sc _ _ => exact ⟨by rw [equal_succ, Op.equalIn]; simp [run_underlying' hu], fun op ox oy => guard _ _ _ _ _ (by simp) (by simp), rfl, rfl⟩
  · rename_i e a c
    split at hr
    · rename_i i hi hs1 hs2
      split at hr
      · cases hr
      · rename_i m hm
        cases hx with
        | sc _ hs => simp [simple] at hs
        | ptr bx ox Lx hLx =>
          cases hy with
          | sc _ hs => simp [simple] at hs
          | ptr by_ oy Ly hLy =>
            refine ⟨?_, fun op ox oy => guard _ _ _ _ _ (by simp) (by simp), rfl, rfl⟩
            have hsz : i.size ≠ 0 := by omega
            split at hr
            · rename_i hbe
              cases hr
              have hbe' : bx = by_ := Nat.eq_of_beq_eq_true hbe
              subst hbe'
              rw [hLx] at hLy; cases hLy
              have key : (sameAddr ⟨Lx.φ, Lx.δ + ox, none⟩ ⟨Lx.φ, Lx.δ + oy, none⟩).run P w = .ok (Nat.beq ox oy) w := by
                simp only [sameAddr, beq_self_eq_true, if_true, Sem.run_pure]
                congr 1
                rw [Bool.eq_iff_iff]
                simp
              rw [equal_succ, Op.equalIn]
              simp [run_underlying' hu, run_sizeOf' hi, hsz, key]
            · rename_i k l hbe hk hl
              split at hr
              · rename_i ho hf1 hf2
                cases hr
                obtain ⟨L1, x1, hL1, hx1, hR1⟩ := hh.obj _ _ hk
                obtain ⟨L2, x2, hL2, hx2, hR2⟩ := hh.obj _ _ hl
                rw [hLx] at hL1; cases hL1
                rw [hLy] at hL2; cases hL2
                obtain ⟨c1, fr1, rfl, hR1⟩ := blk_of_or hR1
                obtain ⟨c2, fr2, rfl, hR2⟩ := blk_of_or hR2
                have e1 := hR1.frz0 hf1
                have e2 := hR2.frz0 hf2
                subst e1 e2
                have hne : bx ≠ by_ := by rintro rfl; simp at hbe
                have hφ := hh.inj bx by_ _ _ Lx Ly hk hl hne ho hLx hLy
                have key := sameAddr_ne (P := P) (a := ⟨Lx.φ, Lx.δ + ox, none⟩) (b := ⟨Ly.φ, Ly.δ + oy, none⟩) hφ hx1 hx2
                rw [equal_succ, Op.equalIn]
                simp [run_underlying' hu, run_sizeOf' hi, hsz, key]
              · cases hr
            · cases hr
    · cases hr
  · rename_i e _ _ b0 _ _
    cases hr
    cases hx with
    | sc _ _ =>
      have : ∃ b' n m, y' = .slice b' n m ∧ b'.isNone = b0.isNone := by
        cases hy with
        | sc _ _ => exact ⟨_, _, _, rfl, rfl⟩
        | sl => exact ⟨_, _, _, rfl, rfl⟩
      obtain ⟨b', n, m, rfl, hb⟩ := this
      exact ⟨by rw [equal_succ, Op.equalIn]; simp [run_underlying' hu, hb], fun op ox oy => guard _ _ _ _ _ (by simp) (by simp), rfl, rfl⟩
  · cases hr
    cases hx with
    | sc _ hs => simp [simple] at hs
    | sl b o n c L hL =>
      cases hy with
      | sc _ _ => exact ⟨by rw [equal_succ, Op.equalIn]; simp [run_underlying' hu], fun op ox oy => guard _ _ _ _ _ (by simp) (by simp), rfl, rfl⟩
  · rename_i e _ b0
    cases hr
    cases hx with
    | sc _ _ =>
      have : ∃ b', y' = .map b' ∧ b'.isNone = b0.isNone := by
        cases hy with
        | sc _ _ => exact ⟨_, rfl, rfl⟩
        | map => exact ⟨_, rfl, rfl⟩
      obtain ⟨b', rfl, hb⟩ := this
      exact ⟨by rw [equal_succ, Op.equalIn]; simp [run_underlying' hu, hb], fun op ox oy => guard _ _ _ _ _ (by simp) (by simp), rfl, rfl⟩
  · cases hr
    cases hx with
    | sc _ hs => simp [simple] at hs
    | map b L hL =>
      cases hy with
      | sc _ _ => exact ⟨by rw [equal_succ, Op.equalIn]; simp [run_underlying' hu], fun op ox oy => guard _ _ _ _ _ (by simp) (by simp), rfl, rfl⟩
  · cases hr
    have : ∃ f a c, x' = .func f a c := by cases hx <;> first | exact ⟨_, _, _, rfl⟩ | (rename_i hs; simp [simple] at hs)
    obtain ⟨f, a, c, rfl⟩ := this
    cases hy with
    | sc _ _ => exact ⟨by rw [equal_succ, Op.equalIn]; simp [run_underlying' hu], fun op ox oy => guard _ _ _ _ _ (by simp) (by simp), rfl, rfl⟩
  · cases hr
    have : ∃ f a c, y' = .func f a c := by cases hy <;> first | exact ⟨_, _, _, rfl⟩ | (rename_i hs; simp [simple] at hs)
    obtain ⟨f, a, c, rfl⟩ := this
    cases hx with
    | sc _ _ => exact ⟨by rw [equal_succ, Op.equalIn]; simp [run_underlying' hu], fun op ox oy => guard _ _ _ _ _ (by simp) (by simp), rfl, rfl⟩
  · cases hr

theorem binop_ok {op : BinOp} {xt : TypeId} {ox oy : Operand} {x x' y y' v : Value} (hh : HRel ρ h.heap.get w) (hx : VR ρ x x') (hy : VR ρ y y') (hr : abinop P h op xt ox oy x y = some v) :
    ValOK P ρ h w (do eqGuard op xt ox oy x' y'; binOp op xt x' y') v h := by
  unfold abinop at hr
  split at hr
  · rename_i h1 h2
    have e1 := hx.plain h1
    have e2 := hy.plain h2
    subst e1 e2
    obtain ⟨h3, h4⟩ := prunV_sound hr
    exact ValOK.pure hh (h3 w) (VR.of_plain h4)
  · split at hr
    · rename_i d hu
      split at hr
      · split at hr
        · rename_i b hb
          cases hr
          obtain ⟨e1, e2, e3, e4⟩ := eqNil_sound hh hu hx hy hb
          exact ValOK.pure hh (v' := .bool b) (by simp [e2, e3, e1]) (.sc _ rfl)
        · cases hr
      · split at hr
        · rename_i b hb
          cases hr
          obtain ⟨e1, e2, e3, e4⟩ := eqNil_sound hh hu hx hy hb
          exact ValOK.pure hh (v' := .bool (!b)) (by simp [e2, e4, e1]) (.sc _ rfl)
        · cases hr
      · cases hr
    · cases hr

theorem nilCheck_ok {x x' : Value} {r : Res} (hx : VR ρ x x') (hr : anilCheck h x = some r) : ∃ v, r = .val v h ∧ VR ρ v x' ∧ ((∃ a, x' = .pointer (some a)) ∨ (∃ f a b, x' = .func (.func f) a b) ∨ (∃ f a b, x' = .func (.yield f) a b)) := by
  unfold anilCheck at hr
  split at hr
  · cases hr
    refine ⟨_, rfl, hx, ?_⟩
    cases hx with
    | sc _ hs => simp [simple] at hs
    | ptr => exact .inl ⟨_, rfl⟩
  · cases hr
    refine ⟨_, rfl, hx, ?_⟩
    cases hx with
    | sc _ hs => simp [simple] at hs
    | fn => exact .inr (.inl ⟨_, _, _, rfl⟩)
  · cases hr
    refine ⟨_, rfl, hx, ?_⟩
    cases hx with
    | sc _ hs => simp [simple] at hs
    | yield => exact .inr (.inr ⟨_, _, _, rfl⟩)
  · cases hr

theorem makeSlice_ok {t : TypeId} {l l' c c' : Value} {r : Res} (hh : HRel ρ h.heap.get w) (hl : VR ρ l l') (hc : VR ρ c c') (hf : Fresh ρ h.next (r.next h)) (hr : amakeSlice P h t l c = some r) : ∃ v h', r = .val v h' ∧ ValOK P ρ h w (Instr.makeSlice t l' c') v h' := by
  unfold amakeSlice at hr
  split at hr
  · rename_i e k1 ln k2 cn hu
    cases hl
    cases hc
    split at hr
    · rename_i i hi hle hcm
      split at hr
      · rename_i z hz hby
        split at hr
        · rename_i hpz hac hsz
          cases hr
          have hle' := Nat.le_of_ble_eq_true hle
          have hcm' := Nat.le_of_ble_eq_true hcm
          have hby' := Nat.le_of_ble_eq_true hby
          have hsz' := Nat.eq_of_beq_eq_true hsz
          have hzs : z.cells.size = i.size := by rw [← Array.length_toList, vcells_eq, hsz']
          have hrep : VRs ρ (rep cn (vcells z)) (rep cn (vcells z)) := by
            have : ∀ k, VRs ρ (rep k (vcells z)) (rep k (vcells z)) := by
              intro k
              induction k with
              | zero => exact .nil
              | succ k ih =>
                refine VRs.append ?_ ih
                have := (VR.of_plain hpz (ρ := ρ)).cells
                rw [vcells_eq] at this
                exact this
            exact this cn
          refine ⟨_, _, rfl, ValOK.newBlk (v' := .slice (some ⟨w.heap.size, 0, none⟩) ln cn) hh hf hrep ?_ (VR.newSl _ _ _ _ _ rfl)⟩
          have w1 : IntKind.i64.wrap (ln : Int) = ln := IntWalk.i64_in _ (by omega)
          have w2 : IntKind.i64.wrap (cn : Int) = cn := IntWalk.i64_in _ (by omega)
          have hmul : i.bytes * cn ≤ 1099511627776 := Nat.le_trans (Nat.mul_le_mul hby' hcm') (by omega)
          have c1 : ¬ ((i.bytes : Int) * (cn : Int) > 2 ^ 48) := by
            have h1 : ((i.bytes * cn : Nat) : Int) ≤ ((1099511627776 : Nat) : Int) := Int.ofNat_le.2 hmul
            have h2 : ((i.bytes * cn : Nat) : Int) = (i.bytes : Int) * (cn : Int) := Int.natCast_mul _ _
            rw [h2] at h1
            omega
          have c2 : ¬ ((ln : Int) > (cn : Int)) := by omega
          have c3 : ¬ ((cn : Int) < 0) := by omega
          have c4 : ¬ ((ln : Int) < 0) := by omega
          have v1 : (Value.int k1 (Int.ofNat ln)) = Value.int k1 (ln : Int) := rfl
          have v2 : (Value.int k2 (Int.ofNat cn)) = Value.int k2 (cn : Int) := rfl
          have ha : ∀ k (n : Nat), (asInt (.int k (n : Int))).run P w = .ok (n : Int) w := fun k n => rfl
          have hcond : ((decide ((cn : Int) < 0) || decide ((i.bytes : Int) * (cn : Int) > 2 ^ 48)) || decide ((ln : Int) < 0) || decide ((ln : Int) > (cn : Int))) = false := by
            rw [decide_eq_false c1, decide_eq_false c2, decide_eq_false c3, decide_eq_false c4]; rfl
          rw [v1, v2]
          simp only [Instr.makeSlice, Sem.run_bind, run_underlying' hu, Result.andThen_ok, ha, run_typeInfo' hi, w1, w2, hcond, Bool.false_eq_true, if_false, run_askRoom, run_sizeOf' hi, Int.toNat_natCast]
          by_cases h0 : cn * i.size = 0
          · have hnil : rep cn (vcells z) = [] := by
              rw [← List.length_eq_zero_iff, rep_len, hsz']; exact h0
            have hr0 : ∀ f : Nat → Value, Array.map f (Array.range 0) = #[] := fun f => by simp [Array.range]
            simp [h0, hr0, hnil, run_newRow]
          · have hcells : ((Array.range (cn * i.size)).map (z.cells[· % z.cells.size]!)) = (rep cn (vcells z)).toArray := by
              rw [zeros_eq cn z i.size hzs (by
                rcases Nat.eq_zero_or_pos i.size with h | h
                · rw [h] at h0; simp at h0
                · left; omega), vcells_eq]
            simp only [if_neg h0, Sem.run_bind, run_zeroValue' hi hz, Result.andThen_ok, Sem.run_pure, hcells, run_newRow]
        · cases hr
      · cases hr
    · cases hr
  · cases hr

end
end Go.AV
