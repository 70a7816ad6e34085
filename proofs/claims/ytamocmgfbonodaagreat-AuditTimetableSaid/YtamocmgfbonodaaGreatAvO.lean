/-
  A part of the proof: lemmas of my own.
-/
import Derived.Test.YtamocmgfbonodaaGreatAvD
import Derived.Test.YtamocmgfbonodaaGreatAvE
set_option linter.unusedVariables false
set_option linter.unusedSimpArgs false
namespace Go.AV

def eqK : IntKind → IntKind → Bool
  | .i8, .i8 | .i16, .i16 | .i32, .i32 | .i64, .i64 | .u8, .u8 | .u16, .u16 | .u32, .u32 | .u64, .u64 => true
  | _, _ => false
def eqI : Int → Int → Bool
  | .ofNat a, .ofNat b => Nat.beq a b
  | .negSucc a, .negSucc b => Nat.beq a b
  | _, _ => false
def eqB : Bool → Bool → Bool
  | true, true | false, false => true
  | _, _ => false
def eqBytes : List UInt8 → List UInt8 → Bool
  | [], [] => true
  | a :: l, b :: m => match Nat.beq a.toNat b.toNat with | true => eqBytes l m | false => false
  | _, _ => false
def eqAddr (a b : Addr) : Bool := match a.spot, b.spot with
  | none, none => match Nat.beq a.block b.block with | true => Nat.beq a.off b.off | false => false
  | some i, some j => match Nat.beq a.block b.block with | true => (match Nat.beq a.off b.off with | true => Nat.beq i j | false => false) | false => false
  | _, _ => false

mutual
def eqV : Value → Value → Bool
  | .bool a, v => match v with | .bool b => eqB a b | _ => false
  | .int k n, v => match v with | .int j m => (match eqK k j with | true => eqI n m | false => false) | _ => false
  | .string s, v => match v with | .string t => eqBytes s.data.toList t.data.toList | _ => false
  | .pointer none, v => match v with | .pointer none => true | _ => false
  | .pointer (some a), v => match v with | .pointer (some b) => eqAddr a b | _ => false
  | .slice none n c, v => match v with | .slice none m d => (match Nat.beq n m with | true => Nat.beq c d | false => false) | _ => false
  | .slice (some a) n c, v => match v with | .slice (some b) m d => (match eqAddr a b with | true => (match Nat.beq n m with | true => Nat.beq c d | false => false) | false => false) | _ => false
  | .map none, v => match v with | .map none => true | _ => false
  | .nilFunc, v => match v with | .nilFunc => true | _ => false
  | .nilIface, v => match v with | .nilIface => true | _ => false
  | .func (.func f) ⟨a⟩ ⟨b⟩, v => match v with | .func (.func g) ⟨c⟩ ⟨d⟩ => (match Nat.beq f g with | true => (match eqL a c with | true => eqL b d | false => false) | false => false) | _ => false
  | .agg ⟨l⟩, v => match v with | .agg ⟨m⟩ => eqL l m | _ => false
  | .tuple ⟨l⟩, v => match v with | .tuple ⟨m⟩ => eqL l m | _ => false
  | _, _ => false
def eqL : List Value → List Value → Bool
  | [], l => match l with | [] => true | _ => false
  | a :: l, m => match m with | b :: m => (match eqV a b with | true => eqL l m | false => false) | [] => false
end

theorem eqK_eq {a b : IntKind} (h : eqK a b = true) : a = b := by cases a <;> cases b <;> first | rfl | cases h
theorem eqI_eq {a b : Int} (h : eqI a b = true) : a = b := by
  cases a <;> cases b
  · rw [Nat.eq_of_beq_eq_true h]
  · cases h
  · cases h
  · rw [Nat.eq_of_beq_eq_true h]
theorem eqB_eq {a b : Bool} (h : eqB a b = true) : a = b := by cases a <;> cases b <;> first | rfl | cases h
theorem eqBytes_eq : ∀ {a b : List UInt8}, eqBytes a b = true → a = b
  | [], [], _ => rfl
  | a :: l, b :: m, h => by
    simp only [eqBytes] at h
    split at h
    · rename_i hb
      rw [UInt8.toNat_inj.1 (Nat.eq_of_beq_eq_true hb), eqBytes_eq h]
    · cases h
  | [], _ :: _, h => by cases h
  | _ :: _, [], h => by cases h
theorem eqAddr_eq {a b : Addr} (h : eqAddr a b = true) : a = b := by
  obtain ⟨x, y, z⟩ := a
  obtain ⟨x', y', z'⟩ := b
  unfold eqAddr at h
  split at h
  · rename_i h1 h2
    simp only at h1 h2 h
    subst h1 h2
    split at h
    · rename_i h3
      rw [Nat.eq_of_beq_eq_true h3, Nat.eq_of_beq_eq_true h]
    · cases h
  · rename_i h1 h2
    simp only at h1 h2 h
    subst h1 h2
    split at h
    · rename_i h3
      split at h
      · rename_i h4
        rw [Nat.eq_of_beq_eq_true h3, Nat.eq_of_beq_eq_true h4, Nat.eq_of_beq_eq_true h]
      · cases h
    · cases h
  · cases h

mutual
theorem eqV_eq : ∀ (a b : Value), eqV a b = true → a = b
  | .bool a, v, h => by
    simp only [eqV] at h
    split at h
    · rw [eqB_eq h]
    · cases h
  | .int k n, v, h => by
    simp only [eqV] at h
    split at h
    · split at h
      · rename_i h1; rw [eqK_eq h1, eqI_eq h]
      · cases h
    · cases h
  | .string s, v, h => by
    simp only [eqV] at h
    split at h
    · rename_i t
      rw [ByteArray.ext (Array.toList_inj.1 (eqBytes_eq h))]
    · cases h
  | .pointer none, v, h => by
    simp only [eqV] at h
    split at h
    · rfl
    · cases h
  | .pointer (some a), v, h => by
    simp only [eqV] at h
    split at h
    · rw [eqAddr_eq h]
    · cases h
  | .slice none n c, v, h => by
    simp only [eqV] at h
    split at h
    · split at h
      · rename_i h1; rw [Nat.eq_of_beq_eq_true h1, Nat.eq_of_beq_eq_true h]
      · cases h
    · cases h
  | .slice (some a) n c, v, h => by
    simp only [eqV] at h
    split at h
    · split at h
      · rename_i h0
        split at h
        · rename_i h1; rw [eqAddr_eq h0, Nat.eq_of_beq_eq_true h1, Nat.eq_of_beq_eq_true h]
        · cases h
      · cases h
    · cases h
  | .map none, v, h => by
    simp only [eqV] at h
    split at h
    · rfl
    · cases h
  | .nilFunc, v, h => by
    simp only [eqV] at h
    split at h
    · rfl
    · cases h
  | .nilIface, v, h => by
    simp only [eqV] at h
    split at h
    · rfl
    · cases h
  | .func (.func f) ⟨a⟩ ⟨b⟩, v, h => by
    simp only [eqV] at h
    split at h
    · split at h
      · rename_i h0
        split at h
        · rename_i h1; rw [Nat.eq_of_beq_eq_true h0, eqL_eq _ _ h1, eqL_eq _ _ h]
        · cases h
      · cases h
    · cases h
  | .agg ⟨l⟩, v, h => by
    simp only [eqV] at h
    split at h
    · rw [eqL_eq _ _ h]
    · cases h
  | .tuple ⟨l⟩, v, h => by
    simp only [eqV] at h
    split at h
    · rw [eqL_eq _ _ h]
    · cases h
  | .func (.method _) _ _, v, h | .func (.methodOf _ _) _ _, v, h | .func (.via _ _ _ _) _ _, v, h | .func (.yield _) _ _, v, h => by simp [eqV] at h
  | .map (some _), v, h | .chan _, v, h | .float _ _, v, h | .complex _ _ _, v, h | .iface _ _, v, h => by simp [eqV] at h
theorem eqL_eq : ∀ (a b : List Value), eqL a b = true → a = b
  | [], m, h => by
    simp only [eqL] at h
    split at h
    · rfl
    · cases h
  | a :: l, m, h => by
    simp only [eqL] at h
    split at h
    · split at h
      · rename_i h1; rw [eqV_eq _ _ h1, eqL_eq _ _ h]
      · cases h
    · cases h
end

def eqO : AObj → AObj → Bool
  | .blk a, .blk b => eqB a.exact b.exact && eqB a.whole b.whole && eqB a.own b.own && Nat.beq a.frz b.frz && Nat.beq a.cap b.cap && Nat.beq a.esz b.esz && Nat.beq a.elem b.elem && eqL a.cells b.cells
  | _, _ => false

theorem eqO_eq {a b : AObj} (h : eqO a b = true) : a = b := by
  unfold eqO at h
  split at h
  · rename_i x y
    simp only [Bool.and_eq_true] at h
    obtain ⟨⟨⟨⟨⟨⟨⟨h1, h2⟩, h3⟩, h4⟩, h5⟩, h6⟩, h7⟩, h8⟩ := h
    obtain ⟨a1, a2, a3, a4, a5, a6, a7, a8⟩ := x
    obtain ⟨b1, b2, b3, b4, b5, b6, b7, b8⟩ := y
    simp only at h1 h2 h3 h4 h5 h6 h7 h8
    rw [eqB_eq h1, eqB_eq h2, eqB_eq h3, Nat.eq_of_beq_eq_true h4, Nat.eq_of_beq_eq_true h5, Nat.eq_of_beq_eq_true h6, Nat.eq_of_beq_eq_true h7, eqL_eq _ _ h8]
  · cases h

abbrev BO := Nat × AObj
abbrev I (n : Nat) : Value := .int .i64 (.ofNat n)
abbrev J (n : Nat) : Value := .int .i64 (.negSucc n)
abbrev S (l : List UInt8) : Value := .string ⟨⟨l⟩⟩
abbrev T1 : Value := .bool true
abbrev F0 : Value := .bool false
abbrev E0 : Value := .string ⟨⟨[]⟩⟩

def mkT : List BO → T AObj
  | [] => .leaf
  | (b, o) :: l => (mkT l).set b o

def putL (t : T AObj) : List BO → T AObj
  | [] => t
  | (b, o) :: l => (putL t l).set b o

/-- the heap holds these -/
def subH : List BO → T AObj → Bool
  | [], _ => true
  | (b, o) :: l, t => match t.get b with
    | some o' => match eqO o o' with | true => subH l t | false => false
    | none => false

def hasB : List BO → Nat → Bool
  | [], _ => false
  | (b, _) :: l, c => match Nat.beq b c with | true => true | false => hasB l c

theorem subH_mem : ∀ {l : List BO} {t : T AObj}, subH l t = true → ∀ b o, (b, o) ∈ l → t.get b = some o
  | (b, o) :: l, t, h, b', o', hm => by
    simp only [subH] at h
    split at h
    · rename_i o2 ho
      split at h
      · rename_i he
        rcases List.mem_cons.1 hm with e | e
        · cases e; rw [ho, eqO_eq he]
        · exact subH_mem h _ _ e
      · cases h
    · cases h

theorem mkT_get : ∀ {l : List BO} {b : Nat} {o : AObj}, (mkT l).get b = some o → (b, o) ∈ l
  | [], b, o, h => by simp [mkT, T.get_leaf] at h
  | (c, x) :: l, b, o, h => by
    simp only [mkT, T.get_set] at h
    split at h
    · rename_i e; cases h; subst e; exact List.mem_cons_self ..
    · exact List.mem_cons_of_mem _ (mkT_get h)

theorem mkT_has : ∀ {l : List BO} {b : Nat}, hasB l b = true → (mkT l).get b ≠ none
  | (c, x) :: l, b, h => by
    simp only [mkT, T.get_set]
    split
    · simp
    · rename_i hne
      simp only [hasB] at h
      split at h
      · rename_i e; exact absurd (Nat.eq_of_beq_eq_true e).symm hne
      · exact mkT_has h

theorem putL_get (t : T AObj) : ∀ {l : List BO} {b : Nat} {o : AObj}, (putL t l).get b = some o → (b, o) ∈ l ∨ (hasB l b = false ∧ t.get b = some o)
  | [], b, o, h => .inr ⟨rfl, h⟩
  | (c, x) :: l, b, o, h => by
    simp only [putL, T.get_set] at h
    split at h
    · rename_i e; cases h; subst e; exact .inl (List.mem_cons_self ..)
    · rename_i hne
      rcases putL_get t h with k | ⟨k1, k2⟩
      · exact .inl (List.mem_cons_of_mem _ k)
      · refine .inr ⟨?_, k2⟩
        simp only [hasB]
        split
        · rename_i e; exact absurd (Nat.eq_of_beq_eq_true e).symm hne
        · exact k1

theorem putL_no (t : T AObj) : ∀ {l : List BO} {b : Nat}, (∀ o, (b, o) ∉ l) → (putL t l).get b = t.get b
  | [], _, _ => rfl
  | (c, x) :: l, b, h => by
    simp only [putL, T.get_set]
    rw [if_neg (fun e => h x (by subst e; exact List.mem_cons_self ..))]
    exact putL_no t fun o hm => h o (List.mem_cons_of_mem _ hm)

/-- One call with its answer. -/
structure Ent where
  f : Nat
  args : List Value
  pre : List BO
  next : Nat
  v : Value
  post : List BO
  next2 : Nat
  log : List Nat

def Ent.h0 (e : Ent) : Hs := { heap := mkT e.pre, next := e.next, log := [] }
def Ent.app (e : Ent) (h : Hs) : Hs := { heap := putL (delAll h.heap e.log) e.post, next := e.next2, log := e.log ++ h.log }

def memL (b : Nat) : List Nat → Bool
  | [] => false
  | a :: l => match Nat.beq a b with | true => true | false => memL b l
theorem memL_mem : ∀ {l : List Nat} {b : Nat}, memL b l = true → b ∈ l
  | a :: l, b, h => by
    simp only [memL] at h
    split at h
    · rename_i e; rw [Nat.eq_of_beq_eq_true e]; exact List.mem_cons_self ..
    · exact List.mem_cons_of_mem _ (memL_mem h)

def newB (e : Ent) (b : Nat) : Bool := match Nat.ble e.next b with | true => Nat.blt b e.next2 | false => false

def logOk (e : Ent) : List Nat → Bool
  | [] => true
  | b :: l => match memL b e.log with
    | true => logOk e l
    | false => match newB e b with | true => logOk e l | false => false

def postOk (e : Ent) : List BO → Bool
  | [] => true
  | (b, _) :: l => match memL b e.log with
    | true => postOk e l
    | false => match newB e b with | true => postOk e l | false => false

def oldOk (e : Ent) : List Nat → Bool
  | [] => true
  | b :: l => match hasB e.pre b with | true => oldOk e l | false => false

def chkE (r : Option (Value × Hs)) (e : Ent) : Bool := match r with
  | some (v, h) => eqV v e.v && Nat.beq h.next e.next2 && subH e.post h.heap && logOk e h.log && postOk e e.post && oldOk e e.log
  | none => false

theorem logOk_mem {e : Ent} : ∀ {l : List Nat}, logOk e l = true → ∀ b, b ∈ l → b ∈ e.log ∨ (e.next ≤ b ∧ b < e.next2)
  | a :: l, h, b, hb => by
    simp only [logOk] at h
    have : (a ∈ e.log ∨ (e.next ≤ a ∧ a < e.next2)) ∧ logOk e l = true := by
      split at h
      · rename_i k; exact ⟨.inl (memL_mem k), h⟩
      · split at h
        · rename_i k
          unfold newB at k
          split at k
          · rename_i k1
            exact ⟨.inr ⟨Nat.le_of_ble_eq_true k1, by rw [Nat.blt_eq] at k; exact k⟩, h⟩
          · cases k
        · cases h
    rcases List.mem_cons.1 hb with rfl | hb
    · exact this.1
    · exact logOk_mem this.2 b hb

theorem postOk_mem {e : Ent} : ∀ {l : List BO}, postOk e l = true → ∀ b o, (b, o) ∈ l → b ∈ e.log ∨ (e.next ≤ b ∧ b < e.next2)
  | (a, x) :: l, h, b, o, hb => by
    simp only [postOk] at h
    have : (a ∈ e.log ∨ (e.next ≤ a ∧ a < e.next2)) ∧ postOk e l = true := by
      split at h
      · rename_i k; exact ⟨.inl (memL_mem k), h⟩
      · split at h
        · rename_i k
          unfold newB at k
          split at k
          · rename_i k1
            exact ⟨.inr ⟨Nat.le_of_ble_eq_true k1, by rw [Nat.blt_eq] at k; exact k⟩, h⟩
          · cases k
        · cases h
    rcases List.mem_cons.1 hb with e1 | hb
    · cases e1; exact this.1
    · exact postOk_mem this.2 b o hb

theorem oldOk_mem {e : Ent} : ∀ {l : List Nat}, oldOk e l = true → ∀ b, b ∈ l → hasB e.pre b = true
  | a :: l, h, b, hb => by
    simp only [oldOk] at h
    split at h
    · rename_i k
      rcases List.mem_cons.1 hb with rfl | hb
      · exact k
      · exact oldOk_mem h b hb
    · cases h

def EntOK (P : Program) (e : Ent) : Prop := ∀ h : Hs, h.next = e.next → (∀ b o, (b, o) ∈ e.pre → h.heap.get b = some o) → Mod h (e.app h) ∧
  ∀ ρ w args' n, VRs ρ e.args args' → HRel ρ h.heap.get w → Fresh ρ h.next (e.app h).next → CallsIn Fence.wide n P e.f ⟨args'⟩ w (Got ρ h w e.v (e.app h))

section
variable {P : Program}

theorem entOK_of_chk {c : CallF} (hc : CallOK P c) {e : Ent} (hk : chkE (c e.f e.args e.h0) e = true) : EntOK P e := by
  cases hr : c e.f e.args e.h0 with
  | none => rw [hr] at hk; cases hk
  | some r =>
    obtain ⟨v, h1⟩ := r
    rw [hr] at hk
    simp only [chkE, Bool.and_eq_true] at hk
    obtain ⟨⟨⟨⟨⟨k1, k2⟩, k3⟩, k4⟩, k5⟩, k6⟩ := hk
    have hv := eqV_eq _ _ k1
    subst hv
    have hn := Nat.eq_of_beq_eq_true k2
    have hpost := subH_mem k3
    have hlog := logOk_mem k4
    have hpl := postOk_mem k5
    have hold := oldOk_mem k6
    obtain ⟨m, key⟩ := hc _ _ _ _ _ hr
    have mn : e.next ≤ h1.next := m.next
    obtain ⟨l, l1, l2, l3⟩ := m.log
    simp only [Ent.h0, List.append_nil] at l1
    subst l1
    intro h hnext hsub
    have hsub0 : ∀ b o, e.h0.heap.get b = some o → h.heap.get b = some o := fun b o hb => hsub b o (mkT_get hb)
    have appget : ∀ b o, (e.app h).heap.get b = some o → ((b, o) ∈ e.post ∧ h1.heap.get b = some o) ∨ (b ∉ e.log ∧ h.heap.get b = some o) := by
      intro b o hb
      rcases putL_get _ hb with q | ⟨_, q⟩
      · exact .inl ⟨q, hpost _ _ q⟩
      · rw [delAll_get] at q
        split at q
        · cases q
        · exact .inr ⟨by assumption, q⟩
    refine ⟨⟨by show h.next ≤ e.next2; omega, e.log, rfl, fun b hb => ?_, fun b hb hnl => ?_⟩, fun ρ w args' n hargs hh hf => ?_⟩
    · have := mkT_has (hold b hb)
      cases hg : (mkT e.pre).get b with
      | none => exact absurd hg this
      | some o => exact .inl (by rw [hsub0 b o hg]; simp)
    · show (putL (delAll h.heap e.log) e.post).get b = _
      rw [putL_no, delAll_get, if_neg hnl]
      intro o ho
      rcases hpl b o ho with q | q
      · exact hnl q
      · have : (e.app h).next = e.next2 := rfl
        omega
    · have hh0 : HRel ρ e.h0.heap.get w := hh.sub hsub0
      have hf0 : Fresh ρ e.h0.next h1.next := fun x hx hy => hf x (by show h.next ≤ x; rw [hnext]; exact hx) (by show x < e.next2; omega)
      refine (key ρ w args' n hargs hh0 hf0).mono fun en w' hg => ?_
      obtain ⟨ρ', v', rfl, g1, g2, g3⟩ := hg
      -- the blocks that the call has not seen stay
      have far : ∀ b o, h.heap.get b = some o → b ∉ e.log → (h1.heap.get b = some o) ∨ (e.h0.heap.get b = none ∧ ∃ L x, ρ b = some L ∧ w.heap[L.φ]? = some x ∧ OR ρ L o x) := by
        intro b o hb hnl
        obtain ⟨L, x, a1, a2, a3⟩ := hh.obj b o hb
        cases h0 : e.h0.heap.get b with
        | none => exact .inr ⟨rfl, L, x, a1, a2, a3⟩
        | some o2 =>
          have e2 := hsub0 b o2 h0
          rw [hb] at e2; cases e2
          refine .inl ?_
          have hnn : ¬ (e.next ≤ b ∧ b < e.next2) := fun q => by
            rw [hf b (by show h.next ≤ b; omega) (by show b < e.next2; omega)] at a1; cases a1
          rw [l3 b (by show b < e.next ∨ h1.next ≤ b; omega) ?_, h0]
          intro hl
          rcases hlog b hl with q | q
          · exact hnl q
          · exact hnn q
      have lt : ∀ {L : Loc} {x : Obj}, w.heap[L.φ]? = some x → L.φ < w.heap.size := fun h => (Array.getElem?_eq_some_iff.1 h).1
      have stay : ∀ b o L x, h.heap.get b = some o → e.h0.heap.get b = none → ρ b = some L → w.heap[L.φ]? = some x → w'.heap[L.φ]? = some x := by
        intro b o L x hb h0 hL hx
        rw [g3.same L.φ (lt hx) ?_]
        · exact hx
        · intro b0 o0 L0 hb0 ho0 hL0
          have hne : b ≠ b0 := by rintro rfl; rw [h0] at hb0; cases hb0
          exact (hh.inj b b0 o o0 L L0 hb (hsub0 _ _ hb0) hne ho0 hL hL0).symm
      have two : ∀ b o, (e.app h).heap.get b = some o → h1.heap.get b = some o ∨ (h.heap.get b = some o ∧ e.h0.heap.get b = none ∧ ∃ L x, ρ b = some L ∧ w.heap[L.φ]? = some x ∧ OR ρ L o x) := by
        intro b o hb
        rcases appget b o hb with ⟨_, q⟩ | ⟨q1, q2⟩
        · exact .inl q
        · rcases far b o q2 q1 with q | q
          · exact .inl q
          · exact .inr ⟨q2, q⟩
      refine ⟨ρ', v', rfl, g1, ⟨fun b o hb => ?_, fun i j oi oj Li Lj hi hj hij hoj hLi hLj => ?_⟩, ⟨g3.os, g3.tape, g3.output, g3.size, fun r hr hno => g3.same r hr fun b o L hb ho hL => hno b o L (hsub0 _ _ hb) ho hL, fun b o L hb ho hL => ?_, fun b o L hb hL => ?_, g3.ext, fun b hb => g3.rng b (by
        have h3 : (e.app h).next = e.next2 := rfl
        have h4 : e.h0.next = e.next := rfl
        omega)⟩⟩
      · rcases two b o hb with q | ⟨q1, q2, L, x, q3, q4, q5⟩
        · exact g2.obj b o q
        · exact ⟨L, x, g3.ext _ _ q3, stay b o L x q1 q2 q3 q4, q5.mono g3.ext⟩
      · rcases two i oi hi with qi | ⟨i1, i2, L1, x1, i3, i4, i5⟩ <;> rcases two j oj hj with qj | ⟨j1, j2, L2, x2, j3, j4, j5⟩
        · exact g2.inj i j oi oj Li Lj qi qj hij hoj hLi hLj
        · have e2 := g3.ext _ _ j3
          rw [hLj] at e2; cases e2
          rcases g3.any i oi Li qi hLi with ⟨k, ok, Lk, hk, hLk, he⟩ | hge
          · have hne : k ≠ j := by rintro rfl; rw [j2] at hk; cases hk
            rw [← he]
            exact hh.inj k j ok oj Lk Lj (hsub0 _ _ hk) j1 hne hoj hLk j3
          · have := lt j4; omega
        · have e2 := g3.ext _ _ i3
          rw [hLi] at e2; cases e2
          rcases g3.own j oj Lj qj hoj hLj with ⟨k, ok, Lk, hk, hok, hLk, he⟩ | hge
          · have hne : i ≠ k := by rintro rfl; rw [i2] at hk; cases hk
            rw [← he]
            exact hh.inj i k oi ok Li Lk i1 (hsub0 _ _ hk) hne hok i3 hLk
          · have := lt i4; omega
        · have e1 := g3.ext _ _ i3
          rw [hLi] at e1; cases e1
          have e2 := g3.ext _ _ j3
          rw [hLj] at e2; cases e2
          exact hh.inj i j oi oj Li Lj i1 j1 hij hoj i3 j3
      · rcases two b o hb with q | ⟨q1, q2, L1, x, q3, q4, q5⟩
        · rcases g3.own b o L q ho hL with ⟨k, ok, Lk, hk, hok, hLk, he⟩ | hge
          · exact .inl ⟨k, ok, Lk, hsub0 _ _ hk, hok, hLk, he⟩
          · exact .inr hge
        · have e1 := g3.ext _ _ q3
          rw [hL] at e1; cases e1
          exact .inl ⟨b, o, L, q1, ho, q3, rfl⟩
      · rcases two b o hb with q | ⟨q1, q2, L1, x, q3, q4, q5⟩
        · rcases g3.any b o L q hL with ⟨k, ok, Lk, hk, hLk, he⟩ | hge
          · exact .inl ⟨k, ok, Lk, hsub0 _ _ hk, hLk, he⟩
          · exact .inr hge
        · have e1 := g3.ext _ _ q3
          rw [hL] at e1; cases e1
          exact .inl ⟨b, o, L, q1, q3, rfl⟩

/-- the given answers, as a function -/
def orcF : List Ent → CallF
  | [], _, _, _ => none
  | e :: es, f, args, h => match Nat.beq e.f f with
    | true => match Nat.beq e.next h.next with
      | true => match eqL e.args args with
        | true => match subH e.pre h.heap with
          | true => some (e.v, e.app h)
          | false => orcF es f args h
        | false => orcF es f args h
      | false => orcF es f args h
    | false => orcF es f args h

inductive AllOK (P : Program) : List Ent → Prop where
  | nil : AllOK P []
  | cons {e : Ent} {es : List Ent} (h : EntOK P e) (k : AllOK P es) : AllOK P (e :: es)

theorem orcF_ok : ∀ {es : List Ent}, AllOK P es → CallOK P (orcF es)
  | [], _ => fun f args h v h' he => by cases he
  | e :: es, .cons hok k => fun f args h v h' he => by
    have ih := orcF_ok k f args h v h'
    simp only [orcF] at he
    split at he
    · rename_i q1
      split at he
      · rename_i q2
        split at he
        · rename_i q3
          split at he
          · rename_i q4
            cases he
            have e1 := Nat.eq_of_beq_eq_true q1
            have e3 := eqL_eq _ _ q3
            subst e1 e3
            exact hok h (Nat.eq_of_beq_eq_true q2).symm (subH_mem q4)
          · exact ih he
        · exact ih he
      · exact ih he
    · exact ih he

def callO (P : Program) (ex : ExF) (orc : CallF) : Nat → CallF
  | 0, _, _, _ => none
  | n + 1, f, args, h => match orc f args h with
    | some r => some r
    | none => callW P ex (callO P ex orc n) f args h

def execO (P : Program) (orc : CallF) : Nat → ExF
  | 0, _, _, _, _ => none
  | n + 1, rdd, .scope b, fr, h => scopeW (execO P orc n) n b b rdd fr h
  | n + 1, rdd, .loop b, fr, h => loopW (execO P orc n) n b rdd fr h
  | n + 1, rdd, c, fr, h => codeW P (execO P orc n) (callO P (execO P orc n) orc n) rdd c fr h

/-- the run of one function: its own call is not asked of the given answers -/
def runO (P : Program) (es : List Ent) (fuel : Nat) : CallF := callW P (execO P (orcF es) fuel) (fun _ _ _ => none)

theorem callO_ok {ex : ExF} {orc : CallF} (hex : ExOK P ex) (ho : CallOK P orc) : ∀ n, CallOK P (callO P ex orc n)
  | 0 => fun f args h v h' he => by simp [callO] at he
  | n + 1 => fun f args h v h' he => by
    simp only [callO] at he
    split at he
    · rename_i r hr
      cases he
      exact ho _ _ _ _ _ hr
    · exact callW_ok (call := callO P ex orc n) hex f args h v h' he

theorem execO_ok (hD : DrawOK P) {orc : CallF} (ho : CallOK P orc) : ∀ n, ExOK P (execO P orc n)
  | 0 => fun rdd c fr h e fr' h' he => by simp [execO] at he
  | n + 1 => fun rdd c fr h e fr' h' he => by
    have ih := execO_ok hD ho n
    unfold execO at he
    split at he
    · cases he
    · rename_i heq
      cases heq
      obtain ⟨m, k⟩ := scopeW_ok ih _ _ _ _ _ _ _ _ _ he
      exact ⟨m, fun ρ w a n F hF hfr hh hf => wpIn_scope_rounds _ (k ρ w a n F hF hfr hh hf _ fun _ _ _ q => q)⟩
    · rename_i heq
      cases heq
      obtain ⟨m, k⟩ := loopW_ok ih _ _ _ _ _ _ _ _ he
      exact ⟨m, fun ρ w a n F hF hfr hh hf => wpIn_loop_rounds _ (k ρ w a n F hF hfr hh hf _ fun _ _ _ q => q)⟩
    · rename_i heq _ _
      cases heq
      exact codeW_ok hD ih (callO_ok ih ho _) _ _ _ _ _ _ _ he

theorem runO_ok (hD : DrawOK P) {es : List Ent} (h : AllOK P es) (fuel : Nat) : CallOK P (runO P es fuel) :=
  callW_ok (execO_ok hD (orcF_ok h) fuel)

theorem ent_ok (hD : DrawOK P) {es : List Ent} (h : AllOK P es) (fuel : Nat) {e : Ent} (hk : chkE (runO P es fuel e.f e.args e.h0) e = true) : EntOK P e :=
  entOK_of_chk (runO_ok hD h fuel) hk

/-- A function of no arguments that returns 'true', by its entry. -/
theorem calls_of_ent {f : Nat} {nx nx2 : Nat} (hok : EntOK P ⟨f, [], [], nx, .bool true, [], nx2, []⟩) (w : World) :
    Calls P f #[] w (fun e w' => e = .returned (.bool true) ∧ w'.os = w.os ∧ w'.tape = w.tape ∧ w'.output = w.output ∧ w.heap.size ≤ w'.heap.size ∧ ∀ r, r < w.heap.size → w'.heap[r]? = w.heap[r]?) := by
  have hh : HRel noRen (T.leaf : T AObj).get w := ⟨fun b o hb => absurd hb (by rw [T.get_leaf]; simp), fun i j oi oj Li Lj hi => absurd hi (by rw [T.get_leaf]; simp)⟩
  obtain ⟨_, key⟩ := hok { heap := .leaf, next := nx, log := [] } rfl (fun b o hb => by cases hb)
  have hc := key noRen w [] 0 .nil hh (fun _ _ _ => rfl)
  refine Calls.mono (hc.calls fun _ => room_wide _) fun e w' hg => ?_
  obtain ⟨ρ', v', rfl, h1, h2, h3⟩ := hg
  cases h1
  exact ⟨rfl, h3.os, h3.tape, h3.output, h3.size, fun r hr => h3.same r hr fun b o L hb => absurd hb (by rw [T.get_leaf]; simp)⟩
end
end Go.AV
