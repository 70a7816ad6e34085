/-
  What the abstract evaluator's states say of the model's: the relation of values, heaps, frames; the step from one world to another.
-/
import Derived.Test.YthecahanniaggaaAvExec
import Derived.RangeFuncLeaves
import Derived.OrdersIn
import Derived.Laws.Cells
import Derived.Below
namespace Go.AV

/-- Where an abstract block lies: its block, the cells ahead of it, the room more than known behind a slice over it. -/
structure Loc where
  φ : Nat
  δ : Nat
  ψ : Nat

abbrev Ren := Nat → Option Loc

def Ren.le (ρ ρ' : Ren) : Prop := ∀ b L, ρ b = some L → ρ' b = some L
theorem Ren.le.refl (ρ : Ren) : ρ.le ρ := fun _ _ h => h
theorem Ren.le.trans {a b c : Ren} (h : a.le b) (k : b.le c) : a.le c := fun i L hi => k i L (h i L hi)

mutual
inductive VR (ρ : Ren) : Value → Value → Prop where
  | sc (v : Value) (h : simple v = true) : VR ρ v v
  | ptr (b o : Nat) (L : Loc) (h : ρ b = some L) : VR ρ (.pointer (some ⟨b, o, none⟩)) (.pointer (some ⟨L.φ, L.δ + o, none⟩))
  | sl (b o n c : Nat) (L : Loc) (h : ρ b = some L) : VR ρ (.slice (some ⟨b, o, none⟩) n c) (.slice (some ⟨L.φ, L.δ + o, none⟩) n (c + L.ψ))
  | map (b : Nat) (L : Loc) (h : ρ b = some L) : VR ρ (.map (some b)) (.map (some L.φ))
  | fn (f : FuncId) (a a' c c' : List Value) (h : VRs ρ a a') (k : VRs ρ c c') : VR ρ (.func (.func f) ⟨a⟩ ⟨c⟩) (.func (.func f) ⟨a'⟩ ⟨c'⟩)
  | yield (l : Nat) (L : Loc) (a a' : List Value) (h : ρ l = some L) (k : VRs ρ a a') : VR ρ (.func (.yield l) ⟨a⟩ #[]) (.func (.yield L.φ) ⟨a'⟩ #[])
  | agg (a a' : List Value) (h : VRs ρ a a') : VR ρ (.agg ⟨a⟩) (.agg ⟨a'⟩)
  | tuple (a a' : List Value) (h : VRs ρ a a') : VR ρ (.tuple ⟨a⟩) (.tuple ⟨a'⟩)
inductive VRs (ρ : Ren) : List Value → List Value → Prop where
  | nil : VRs ρ [] []
  | cons (v v' : Value) (l l' : List Value) (h : VR ρ v v') (k : VRs ρ l l') : VRs ρ (v :: l) (v' :: l')
end

mutual
theorem VR.mono {ρ ρ' : Ren} (hl : ρ.le ρ') : ∀ {v v' : Value}, VR ρ v v' → VR ρ' v v'
  | _, _, .sc v h => .sc v h
  | _, _, .ptr b o L h => .ptr b o L (hl _ _ h)
  | _, _, .sl b o n c L h => .sl b o n c L (hl _ _ h)
  | _, _, .map b L h => .map b L (hl _ _ h)
  | _, _, .fn f a a' c c' h k => .fn f a a' c c' (VRs.mono hl h) (VRs.mono hl k)
  | _, _, .yield l L a a' h k => .yield l L a a' (hl _ _ h) (VRs.mono hl k)
  | _, _, .agg a a' h => .agg a a' (VRs.mono hl h)
  | _, _, .tuple a a' h => .tuple a a' (VRs.mono hl h)
theorem VRs.mono {ρ ρ' : Ren} (hl : ρ.le ρ') : ∀ {l l' : List Value}, VRs ρ l l' → VRs ρ' l l'
  | _, _, .nil => .nil
  | _, _, .cons v v' l l' h k => .cons v v' l l' (VR.mono hl h) (VRs.mono hl k)
end

theorem VRs.length {ρ : Ren} : ∀ {l l' : List Value}, VRs ρ l l' → l'.length = l.length
  | _, _, .nil => rfl
  | _, _, .cons _ _ _ _ _ k => by simp [VRs.length k]

theorem VRs.append {ρ : Ren} : ∀ {a a' b b' : List Value}, VRs ρ a a' → VRs ρ b b' → VRs ρ (a ++ b) (a' ++ b')
  | _, _, _, _, .nil, k => k
  | _, _, _, _, .cons v v' l l' h r, k => .cons v v' _ _ h (VRs.append r k)

theorem VRs.get {ρ : Ren} : ∀ {l l' : List Value}, VRs ρ l l' → ∀ {i : Nat} {v : Value}, l[i]? = some v → ∃ v', l'[i]? = some v' ∧ VR ρ v v'
  | _, _, .nil, i, v, h => by simp at h
  | _, _, .cons v v' l l' h k, 0, u, hu => by simp at hu; subst hu; exact ⟨v', rfl, h⟩
  | _, _, .cons v v' l l' h k, i + 1, u, hu => by simp at hu; simpa using VRs.get k hu

theorem VRs.of_get {ρ : Ren} : ∀ {l l' : List Value}, l'.length = l.length → (∀ (i : Nat) (v : Value), l[i]? = some v → ∃ v', l'[i]? = some v' ∧ VR ρ v v') → VRs ρ l l'
  | [], [], _, _ => .nil
  | [], _ :: _, h, _ => by simp at h
  | _ :: _, [], h, _ => by simp at h
  | a :: l, b :: l', h, k => by
    obtain ⟨v', h1, h2⟩ := k 0 a rfl
    simp at h1; subst h1
    exact .cons a b l l' h2 (VRs.of_get (by simpa using h) fun i v hi => by simpa using k (i + 1) v (by simpa using hi))

theorem VRs.get' {ρ : Ren} {l l' : List Value} (h : VRs ρ l l') {i : Nat} (hi : l[i]? = none) : l'[i]? = none := by
  rw [List.getElem?_eq_none_iff] at hi ⊢
  rw [h.length]; exact hi

theorem VRs.one {ρ : Ren} {v v' : Value} (h : VR ρ v v') : VRs ρ [v] [v'] := .cons _ _ _ _ h .nil
theorem VR.undef {ρ : Ren} : VR ρ Go.undef Go.undef := .tuple [] [] .nil

mutual
theorem VR.plain {ρ : Ren} : ∀ {v v' : Value}, VR ρ v v' → plainV v = true → v' = v
  | _, _, .sc v h, _ => rfl
  | _, _, .ptr b o L h, hp => by simp [plainV] at hp
  | _, _, .sl b o n c L h, hp => by simp [plainV] at hp
  | _, _, .map b L h, hp => by simp [plainV] at hp
  | _, _, .fn f a a' c c' h k, hp => by simp [plainV] at hp
  | _, _, .yield l L a a' h k, hp => by simp [plainV] at hp
  | _, _, .agg a a' h, hp => by simp only [plainV] at hp; rw [VRs.plain h hp]
  | _, _, .tuple a a' h, hp => by simp only [plainV] at hp; rw [VRs.plain h hp]
theorem VRs.plain {ρ : Ren} : ∀ {l l' : List Value}, VRs ρ l l' → plainL l = true → l' = l
  | _, _, .nil, _ => rfl
  | _, _, .cons v v' l l' h k, hp => by
    simp only [plainL] at hp
    cases hv : plainV v with
    | false => simp [hv] at hp
    | true => rw [hv] at hp; rw [VR.plain h hv, VRs.plain k hp]
end

mutual
theorem VR.of_plain {ρ : Ren} : ∀ {v : Value}, plainV v = true → VR ρ v v
  | .bool _, _ => .sc _ rfl
  | .int _ _, _ => .sc _ rfl
  | .string _, _ => .sc _ rfl
  | .float _ _, _ => .sc _ rfl
  | .nilFunc, _ => .sc _ rfl
  | .nilIface, _ => .sc _ rfl
  | .pointer none, _ => .sc _ rfl
  | .slice none _ _, _ => .sc _ rfl
  | .map none, _ => .sc _ rfl
  | .agg ⟨l⟩, h => .agg l l (VRs.of_plain (by simpa [plainV] using h))
  | .tuple ⟨l⟩, h => .tuple l l (VRs.of_plain (by simpa [plainV] using h))
  | .pointer (some _), h => by simp [plainV] at h
  | .slice (some _) _ _, h => by simp [plainV] at h
  | .map (some _), h => by simp [plainV] at h
  | .complex _ _ _, h => by simp [plainV] at h
  | .chan _, h => by simp [plainV] at h
  | .func _ _ _, h => by simp [plainV] at h
  | .iface _ _, h => by simp [plainV] at h
theorem VRs.of_plain {ρ : Ren} : ∀ {l : List Value}, plainL l = true → VRs ρ l l
  | [], _ => .nil
  | v :: l, h => by
    simp only [plainL] at h
    cases hv : plainV v with
    | false => simp [hv] at h
    | true => rw [hv] at h; exact .cons v v l l (VR.of_plain hv) (VRs.of_plain h)
end

theorem VR.simple {ρ : Ren} {v : Value} (h : AV.simple v = true) : VR ρ v v := .sc v h

theorem VR.cells {ρ : Ren} {v v' : Value} (h : VR ρ v v') : VRs ρ (vcells v) v'.cells.toList := by
  cases h with
  | agg a a' h => exact h
  | sc v h => cases v <;> first | (simp [AV.simple] at h; done) | exact .one (.sc _ h)
  | _ => exact .one (by constructor <;> assumption)

theorem VR.isCell {ρ : Ren} {v v' : Value} (h : VR ρ v v') : v'.oneCell' = AV.isCell v := by
  cases h with
  | sc v h => cases v <;> rfl
  | _ => rfl

theorem VRs.allCells {ρ : Ren} : ∀ {l l' : List Value}, VRs ρ l l' → AV.allCells l = true → ∀ v ∈ l', v.oneCell' = true
  | _, _, .nil, _, v, hv => by simp at hv
  | _, _, .cons v v' l l' h k, hp, u, hu => by
    simp only [AV.allCells] at hp
    cases hv : AV.isCell v with
    | false => simp [hv] at hp
    | true =>
      rw [hv] at hp
      rcases List.mem_cons.1 hu with rfl | hu
      · rw [h.isCell, hv]
      · exact VRs.allCells k hp u hu

/-! ### Objects and heaps -/

def ER (ρ : Ren) (e e' : MapEntry) : Prop := VR ρ e.key e'.key ∧ VR ρ e.val e'.val ∧ e'.born = e.born

inductive ERs (ρ : Ren) : List MapEntry → List MapEntry → Prop where
  | nil : ERs ρ [] []
  | cons (e e' : MapEntry) (l l' : List MapEntry) (h : ER ρ e e') (k : ERs ρ l l') : ERs ρ (e :: l) (e' :: l')

theorem ERs.mono {ρ ρ' : Ren} (hl : ρ.le ρ') : ∀ {l l' : List MapEntry}, ERs ρ l l' → ERs ρ' l l'
  | _, _, .nil => .nil
  | _, _, .cons e e' l l' h k => .cons e e' l l' ⟨h.1.mono hl, h.2.1.mono hl, h.2.2⟩ (k.mono hl)

/-- The temporaries of a frame. -/
def TR (ρ : Ren) (tm : Tm) (n : Nat) (tmps : Array Value) : Prop := tmps.size = n ∧ ∀ t, VR ρ (rd tm t) (tmps.getD t undef)

theorem TR.mono {ρ ρ' : Ren} (hl : ρ.le ρ') {tm : Tm} {n : Nat} {tmps : Array Value} (h : TR ρ tm n tmps) : TR ρ' tm n tmps := ⟨h.1, fun t => (h.2 t).mono hl⟩

structure BlkR (ρ : Ren) (L : Loc) (k : Blk) (c : Array Value) (elem : TypeId) (fr : Nat × Nat) : Prop where
  elem : elem = k.elem
  len : k.cells.length ≤ k.cap
  room : k.own = true → L.δ + k.cap + L.ψ * k.esz ≤ c.size
  cell : ∀ i v, k.cells[i]? = some v → ∃ v', c[L.δ + i]? = some v' ∧ VR ρ v v'
  exact : k.exact = true → L.ψ = 0
  whole : k.whole = true → L.δ = 0 ∧ c.size = k.cap
  frz0 : k.frz = 0 → fr = (0, 0)
  frz1 : k.frz = 1 → fr.2 ≤ fr.1 ∨ c.size ≤ fr.1

def OR (ρ : Ren) (L : Loc) : AObj → Obj → Prop
  | .blk k, .cells c e fr => BlkR ρ L k c e fr
  | .map es ck, .map es' ck' => ERs ρ es es'.toList ∧ ck' = ck
  | .siter s p, .stringIter s' p' => s' = s ∧ p' = p ∧ L.δ = 0
  | .miter m since seen last, .mapIter m' since' seen' last' => (match m with | none => m' = none | some b => ∃ L, ρ b = some L ∧ m' = some L.φ) ∧ since' = since ∧ seen'.toList = seen.reverse ∧ last' = last ∧ L.δ = 0
  | .loop l, .loop l' => l'.state = l.st ∧ l'.pending = l.pending ∧ TR ρ l.tm l.n l'.tmps ∧ l'.params.toList = l.params ∧ l'.assign = l.assign ∧ l'.body = l.body ∧ ∃ L, ρ l.defers = some L ∧ l'.defers = L.φ
  | .dfr b, .deferred ds => ds = if b then some [] else none
  | _, _ => False

theorem BlkR.mono {ρ ρ' : Ren} (hl : ρ.le ρ') {L : Loc} {k : Blk} {c : Array Value} {e : TypeId} {fr : Nat × Nat} (h : BlkR ρ L k c e fr) : BlkR ρ' L k c e fr :=
  { h with cell := fun i v hi => let ⟨v', a, b⟩ := h.cell i v hi; ⟨v', a, b.mono hl⟩ }

theorem OR.mono {ρ ρ' : Ren} (hl : ρ.le ρ') {L : Loc} {o : AObj} {x : Obj} (h : OR ρ L o x) : OR ρ' L o x := by
  cases o <;> cases x <;> simp only [OR] at h ⊢ <;> first | exact h.elim | skip
  · exact BlkR.mono hl h
  · exact ⟨h.1.mono hl, h.2⟩
  · exact h
  · refine ⟨?_, h.2⟩
    have h1 := h.1
    split at h1
    · exact h1
    · obtain ⟨L, a, b⟩ := h1; exact ⟨L, hl _ _ a, b⟩
  · obtain ⟨a, b, c, d, e, f, L, g, i⟩ := h; exact ⟨a, b, c.mono hl, d, e, f, L, hl _ _ g, i⟩
  · exact h

def AObj.owned : AObj → Bool
  | .blk k => k.own
  | _ => true

abbrev HF := Nat → Option AObj

structure HRel (ρ : Ren) (H : HF) (w : World) : Prop where
  obj : ∀ b o, H b = some o → ∃ L x, ρ b = some L ∧ w.heap[L.φ]? = some x ∧ OR ρ L o x
  inj : ∀ i j oi oj Li Lj, H i = some oi → H j = some oj → i ≠ j → oj.owned = true → ρ i = some Li → ρ j = some Lj → Li.φ ≠ Lj.φ

theorem HRel.sub {ρ : Ren} {H H' : HF} {w : World} (h : HRel ρ H w) (hs : ∀ b o, H' b = some o → H b = some o) : HRel ρ H' w :=
  ⟨fun b o hb => h.obj b o (hs b o hb), fun i j oi oj Li Lj hi hj => h.inj i j oi oj Li Lj (hs _ _ hi) (hs _ _ hj)⟩

/-- From one world to a later one: what the heap of the start owns may have turned, and nothing else. -/
structure Step (ρ : Ren) (H : HF) (w : World) (ρ' : Ren) (H' : HF) (w' : World) (lo hi : Nat) : Prop where
  os : w'.os = w.os
  tape : w'.tape = w.tape
  output : w'.output = w.output
  size : w.heap.size ≤ w'.heap.size
  same : ∀ r, r < w.heap.size → (∀ b o L, H b = some o → o.owned = true → ρ b = some L → L.φ ≠ r) → w'.heap[r]? = w.heap[r]?
  own : ∀ b o L, H' b = some o → o.owned = true → ρ' b = some L → (∃ i oi Li, H i = some oi ∧ oi.owned = true ∧ ρ i = some Li ∧ Li.φ = L.φ) ∨ w.heap.size ≤ L.φ
  any : ∀ b o L, H' b = some o → ρ' b = some L → (∃ i oi Li, H i = some oi ∧ ρ i = some Li ∧ Li.φ = L.φ) ∨ w.heap.size ≤ L.φ
  ext : ρ.le ρ'
  rng : ∀ b, b < lo ∨ hi ≤ b → ρ' b = ρ b

theorem Step.refl (ρ : Ren) (H : HF) (w : World) (lo hi : Nat) : Step ρ H w ρ H w lo hi :=
  ⟨rfl, rfl, rfl, Nat.le_refl _, fun _ _ _ => rfl, fun b o L h ho hL => .inl ⟨b, o, L, h, ho, hL, rfl⟩, fun b o L h hL => .inl ⟨b, o, L, h, hL, rfl⟩, Ren.le.refl _, fun _ _ => rfl⟩

theorem Step.trans {ρ ρ1 ρ2 : Ren} {H H1 H2 : HF} {w w1 w2 : World} {a b c : Nat} (h : Step ρ H w ρ1 H1 w1 a b) (k : Step ρ1 H1 w1 ρ2 H2 w2 b c) (hab : a ≤ b) (hbc : b ≤ c) : Step ρ H w ρ2 H2 w2 a c := by
  refine ⟨k.os.trans h.os, k.tape.trans h.tape, k.output.trans h.output, Nat.le_trans h.size k.size, ?_, ?_, ?_, h.ext.trans k.ext, ?_⟩
  · intro r hr hno
    rw [k.same r (Nat.lt_of_lt_of_le hr h.size) ?_, h.same r hr hno]
    intro i o L hi ho hL he
    rcases h.own i o L hi ho hL with ⟨j, oj, Lj, hj, hoj, hLj, hej⟩ | hge
    · exact hno j oj Lj hj hoj hLj (hej.trans he)
    · omega
  · intro i o L hi ho hL
    rcases k.own i o L hi ho hL with ⟨j, oj, Lj, hj, hoj, hLj, hej⟩ | hge
    · rcases h.own j oj Lj hj hoj hLj with ⟨m, om, Lm, hm, hom, hLm, hem⟩ | hge
      · exact .inl ⟨m, om, Lm, hm, hom, hLm, hem.trans hej⟩
      · exact .inr (hej ▸ hge)
    · exact .inr (Nat.le_trans h.size hge)
  · intro i o L hi hL
    rcases k.any i o L hi hL with ⟨j, oj, Lj, hj, hLj, hej⟩ | hge
    · rcases h.any j oj Lj hj hLj with ⟨m, om, Lm, hm, hLm, hem⟩ | hge
      · exact .inl ⟨m, om, Lm, hm, hLm, hem.trans hej⟩
      · exact .inr (hej ▸ hge)
    · exact .inr (Nat.le_trans h.size hge)
  · intro i hi
    rw [k.rng i (by omega), h.rng i (by omega)]

end Go.AV
