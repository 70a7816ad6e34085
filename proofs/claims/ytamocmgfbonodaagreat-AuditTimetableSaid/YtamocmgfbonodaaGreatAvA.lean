/-
  A part of the proof: lemmas of my own.
-/
import GoSem.Dispatch
import GoSem.Machine.Return
import Derived.RangeFuncLeaves
import Derived.OrdersIn
import Derived.Laws.Cells
import Derived.Below
set_option linter.unusedVariables false
set_option linter.unusedSimpArgs false
namespace Go.AV

/-- A binary trie over the natural numbers. -/
inductive T (α : Type) where
  | leaf
  | node (l : T α) (v : Option α) (r : T α)

def T.get {α : Type} : T α → Nat → Option α
  | .leaf, _ => none
  | .node _ v _, 0 => v
  | .node l _ r, n + 1 => match n % 2 with
    | 0 => l.get (n / 2)
    | _ => r.get (n / 2)

def T.put {α : Type} : Nat → T α → Nat → Option α → T α
  | 0, t, _, _ => t
  | _ + 1, .leaf, 0, x => .node .leaf x .leaf
  | _ + 1, .node l _ r, 0, x => .node l x r
  | f + 1, .leaf, n + 1, x => match n % 2 with
    | 0 => .node (T.put f .leaf (n / 2) x) none .leaf
    | _ => .node .leaf none (T.put f .leaf (n / 2) x)
  | f + 1, .node l v r, n + 1, x => match n % 2 with
    | 0 => .node (T.put f l (n / 2) x) v r
    | _ => .node l v (T.put f r (n / 2) x)

def T.set {α : Type} (t : T α) (n : Nat) (x : α) : T α := T.put (n + 1) t n (some x)
def T.del {α : Type} (t : T α) (n : Nat) : T α := T.put (n + 1) t n none

theorem T.get_leaf {α : Type} (m : Nat) : (T.leaf : T α).get m = none := by cases m <;> rfl

def T.lt {α : Type} : T α → T α | .leaf => .leaf | .node l _ _ => l
def T.rt {α : Type} : T α → T α | .leaf => .leaf | .node _ _ r => r
def T.vl {α : Type} : T α → Option α | .leaf => none | .node _ v _ => v

theorem T.get_succ {α : Type} (t : T α) (n : Nat) : t.get (n + 1) = if n % 2 = 0 then t.lt.get (n / 2) else t.rt.get (n / 2) := by
  cases t with
  | leaf => simp [T.lt, T.rt, T.get]
  | node l v r =>
    simp only [T.get, T.lt, T.rt]
    split
    · rename_i h; rw [if_pos h]
    · rename_i h; rw [if_neg h]

theorem T.get_zero {α : Type} (t : T α) : t.get 0 = t.vl := by cases t <;> rfl

theorem T.put_succ {α : Type} (f n : Nat) (t : T α) (x : Option α) : T.put (f + 1) t (n + 1) x =
    if n % 2 = 0 then .node (T.put f t.lt (n / 2) x) t.vl t.rt else .node t.lt t.vl (T.put f t.rt (n / 2) x) := by
  cases t <;> (simp only [T.put, T.lt, T.rt, T.vl]; split <;> (rename_i h; first | rw [if_pos h] | rw [if_neg h]))

theorem T.put_zero {α : Type} (f : Nat) (t : T α) (x : Option α) : T.put (f + 1) t 0 x = .node t.lt x t.rt := by cases t <;> rfl

theorem T.get_put {α : Type} (x : Option α) : ∀ (f n : Nat) (t : T α) (m : Nat), n < f → (T.put f t n x).get m = if m = n then x else t.get m := by
  intro f
  induction f with
  | zero => intro n t m h; omega
  | succ f ih =>
    intro n t m h
    cases n with
    | zero =>
      rw [T.put_zero]
      cases m with
      | zero => simp [T.get]
      | succ m => rw [T.get_succ, T.get_succ]; simp [T.lt, T.rt]
    | succ k =>
      have hk : k / 2 < f := by omega
      rw [T.put_succ]
      cases m with
      | zero => rw [T.get_zero, T.get_zero]; split <;> simp [T.vl]
      | succ m =>
        rw [T.get_succ, T.get_succ]
        by_cases hk2 : k % 2 = 0
        · rw [if_pos hk2]
          by_cases hm2 : m % 2 = 0
          · rw [if_pos hm2, if_pos hm2]
            simp only [T.lt]
            rw [ih _ _ _ hk]
            by_cases he : m = k
            · subst he; simp
            · rw [if_neg (by omega), if_neg (by omega)]
          · rw [if_neg hm2, if_neg hm2, if_neg (by omega)]; rfl
        · rw [if_neg hk2]
          by_cases hm2 : m % 2 = 0
          · rw [if_pos hm2, if_pos hm2, if_neg (by omega)]; rfl
          · rw [if_neg hm2, if_neg hm2]
            simp only [T.rt]
            rw [ih _ _ _ hk]
            by_cases he : m = k
            · subst he; simp
            · rw [if_neg (by omega), if_neg (by omega)]

theorem T.get_set {α : Type} (t : T α) (n m : Nat) (x : α) : (t.set n x).get m = if m = n then some x else t.get m := T.get_put _ _ _ _ _ (Nat.lt_succ_self n)
theorem T.get_del {α : Type} (t : T α) (n m : Nat) : (t.del n).get m = if m = n then none else t.get m := T.get_put _ _ _ _ _ (Nat.lt_succ_self n)
/-- A block of cells, as far as it is known: 'cells' the first of them, 'cap' how many there are at least (with a slice's known room); 'exact': the room is the known one; 'whole': there are no more cells; 'frz': 0 nothing frozen, 1 nothing within frozen, 2 not known; 'own': it may be written. -/
structure Blk where
  cells : List Value
  cap : Nat
  esz : Nat
  elem : TypeId
  exact : Bool
  whole : Bool
  frz : Nat
  own : Bool

inductive ADfr where
  | call (f : FuncId) (args captured : List Value)
  | mark (r : Nat)

abbrev Tm := T Value

structure ALoop where
  st : LoopState
  pending : Option Code
  tm : Tm
  n : Nat
  params : List Tmp
  assign : Code
  body : Code
  defers : Nat

inductive AObj where
  | blk (b : Blk)
  | map (es : List MapEntry) (clock : Nat)
  | siter (s : ByteArray) (pos : Nat)
  | miter (m : Option Nat) (since : Nat) (seen : List Nat) (stepped : Nat)
  | loop (l : ALoop)
  | dfr (opened : Bool)

structure Hs where
  heap : T AObj
  next : Nat
  log : List Nat

def simple : Value → Bool
  | .bool _ | .int _ _ | .string _ | .pointer none | .slice none _ _ | .map none | .nilFunc | .nilIface | .float _ _ => true
  | .slice (some ⟨_, _, some _⟩) 0 0 => true
  | _ => false

def rd (tm : Tm) (t : Nat) : Value := match tm.get t with | some v => v | none => undef

/-- a slot of which nothing is known holds junk: it is not read -/
def junk : Value := .chan none
def noJunk : Value → Option Value
  | .chan _ => none
  | v => some v

def ev (tm : Tm) : Operand → Option Value
  | .tmp t => noJunk (rd tm t)
  | .const v => match simple v with | true => some v | false => none
  | .global _ => none
  | .func f => some (.func (.func f) #[] #[])

def evs (tm : Tm) : List Operand → Option (List Value)
  | [] => some []
  | x :: l => match ev tm x with
    | some v => match evs tm l with
      | some vs => some (v :: vs)
      | none => none
    | none => none

def evParts (tm : Tm) : List (Nat × Operand) → Option (List (Nat × Value))
  | [] => some []
  | (i, x) :: l => match ev tm x with
    | some v => match evParts tm l with
      | some vs => some ((i, v) :: vs)
      | none => none
    | none => none

/-- A Sem program that asks nothing of the world but the program. -/
def prun {α : Type} (P : Program) : Sem α → Option α
  | .pure a => some a
  | .program k => prun P (k P)
  | .mark _ k => prun P k
  | _ => none

mutual
def plainV : Value → Bool
  | .bool _ | .int _ _ | .string _ | .float _ _ | .nilFunc | .nilIface | .pointer none | .slice none _ _ | .map none => true
  | .agg ⟨cs⟩ => plainL cs
  | .tuple ⟨cs⟩ => plainL cs
  | _ => false
def plainL : List Value → Bool
  | [] => true
  | v :: l => match plainV v with | true => plainL l | false => false
end

def vcells : Value → List Value
  | .agg cs => cs.toList
  | v => [v]

def isCell : Value → Bool
  | .agg _ | .tuple _ => false
  | _ => true

def allCells : List Value → Bool
  | [] => true
  | v :: l => match isCell v with | true => allCells l | false => false

def takeN {α : Type} : Nat → List α → Option (List α)
  | 0, _ => some []
  | _ + 1, [] => none
  | n + 1, a :: l => match takeN n l with | some r => some (a :: r) | none => none

def dropN {α : Type} : Nat → List α → List α
  | 0, l => l
  | _ + 1, [] => []
  | n + 1, _ :: l => dropN n l

def nth {α : Type} : List α → Nat → Option α
  | [], _ => none
  | a :: _, 0 => some a
  | _ :: l, n + 1 => nth l n

/-- the cells from 'off' on replaced by 'vs': within the known ones, or at their end. -/
def overwrite : List Value → Nat → List Value → Option (List Value)
  | cs, 0, [] => some cs
  | [], 0, vs => some vs
  | _ :: cs, 0, v :: vs => match overwrite cs 0 vs with | some r => some (v :: r) | none => none
  | c :: cs, n + 1, vs => match overwrite cs n vs with | some r => some (c :: r) | none => none
  | [], _ + 1, _ => none

def isAggD : TypeDesc → Bool
  | .struct _ | .array _ _ => true
  | _ => false

/-- What a variable of type t at a place holds. -/
def readVar (P : Program) (h : Hs) (t : TypeId) (b off : Nat) : Option Value :=
  match h.heap.get b with
  | some (.blk k) =>
    match P.underlying t with
    | some d => match isAggD d with
      | true => match P.info? t with
        | some i => match takeN i.size (dropN off k.cells) with
          | some cs => some (.agg ⟨cs⟩)
          | none => none
        | none => none
      | false => nth k.cells off
    | none => none
  | _ => none

def writeAt (h : Hs) (b off : Nat) (vs : List Value) : Option Hs :=
  match h.heap.get b with
  | some (.blk k) =>
    match k.own, k.frz with
    | true, 0 | true, 1 =>
      match allCells vs, overwrite k.cells off vs with
      | true, some cs => match Nat.ble cs.length k.cap with
        | true => some { h with heap := h.heap.set b (.blk { k with cells := cs }), log := b :: h.log }
        | false => none
      | _, _ => none
    | _, _ => none
  | _ => none

def newObjA (h : Hs) (o : AObj) : Hs := { heap := h.heap.set h.next o, next := h.next + 1, log := h.log }

def newBlk (h : Hs) (elem esz : Nat) (cells : List Value) : Hs :=
  newObjA h (.blk { cells, cap := cells.length, esz, elem, exact := true, whole := true, frz := 0, own := true })

def ptrTo (id : Nat) : Value := .pointer (some ⟨id, 0, none⟩)

/-- What an operation comes to. -/
inductive Res where
  | val (v : Value) (h : Hs)
  | skip (h : Hs)
  | call (f : FuncId) (args : List Value)
  | round (l : Nat) (args : List Value)
  | dfr (d : ADfr)

def prunV (P : Program) (s : Sem Value) : Option Value := match prun P s with
  | some v => match plainV v with
    | true => some v
    | false => none
  | none => none

def eqNil (P : Program) (h : Hs) (d : TypeDesc) (x y : Value) : Option Bool := match d, x, y with
  | .pointer _, .pointer none, .pointer b => some b.isNone
  | .pointer _, .pointer (some _), .pointer none => some false
  | .pointer e, .pointer (some a), .pointer (some b) => match P.info? e, a.spot, b.spot with
    | some i, none, none => match i.size with
      | 0 => none
      | _ + 1 =>
        match Nat.beq a.block b.block, h.heap.get a.block, h.heap.get b.block with
        | true, _, _ => some (Nat.beq a.off b.off)
        | false, some (.blk k), some (.blk l) => match l.own, k.frz, l.frz with
          | true, 0, 0 => some false
          | _, _, _ => none
        | _, _, _ => none
    | _, _, _ => none
  | .slice _, .slice none _ _, .slice b _ _ => some b.isNone
  | .slice _, .slice (some _) _ _, .slice none _ _ => some false
  | .map _ _, .map none, .map b => some b.isNone
  | .map _ _, .map (some _), .map none => some false
  | .func _ _ _, .func .., .nilFunc => some false
  | .func _ _ _, .nilFunc, .func .. => some false
  | _, _, _ => none

def abinop (P : Program) (h : Hs) (op : BinOp) (xt : TypeId) (ox oy : Operand) (x y : Value) : Option Value :=
  match plainV x, plainV y with
  | true, true => prunV P (do eqGuard op xt ox oy x y; binOp op xt x y)
  | _, _ => match P.underlying xt with
    | some d => match op with
      | .eql => match eqNil P h d x y with | some b => some (.bool b) | none => none
      | .neq => match eqNil P h d x y with | some b => some (.bool (!b)) | none => none
      | _ => none
    | none => none

def nonNil : List Value → Bool
  | [] => false
  | _ :: _ => true

def boundV (v : Value) (hi : Nat) : Option Nat := match v with
  | .int _ (.ofNat i) => match Nat.ble i hi with | true => some i | false => none
  | _ => none

def boundO (tm : Tm) (o : Option Operand) (dflt hi : Nat) : Option Nat := match o with
  | none => match Nat.ble dflt hi with
    | true => some dflt
    | false => none
  | some o => match ev tm o with
    | some v => boundV v hi
    | none => none

def sliceStr (tm : Tm) (s : ByteArray) (lo hi : Option Operand) : Option Value :=
  match boundO tm hi s.size s.size with
  | some h => match boundO tm lo 0 h with
    | some l => some (.string (s.extract l h))
    | none => none
  | none => none

/-- a slice of no room, not nil, whose place is not known -/
def emptyS : Value := .slice (some ⟨0, 0, some 0⟩) 0 0

def sliceSl (h : Hs) (tm : Tm) (size : Nat) (a : Option Addr) (len cap : Nat) (lo hi mx : Option Operand) : Option Res :=
  match a, mx with
  | none, none =>
    match cap, boundO tm hi len cap with
    | 0, some hh => match boundO tm lo 0 hh with
      | some l => some (.val (.slice none (hh - l) (cap - l)) h)
      | none => none
    | _, _ => none
  | some ad, none =>
    match ad.spot, h.heap.get ad.block, boundO tm hi len cap with
    | none, some (.blk k), some hh => match boundO tm lo 0 hh with
      | some l => match Nat.beq cap l with
        | false => some (.val (.slice (some ⟨ad.block, ad.off + l * size, none⟩) (hh - l) (cap - l)) h)
        | true => match k.exact with
          | true => some (.val (.slice (some ad) (hh - l) (cap - l)) h)
          | false => match k.own, k.frz, (Nat.beq (ad.off + cap * size) k.cap && Nat.beq k.esz size) && Nat.beq size 1 with
            | true, 0, true => some (.val (.slice (some ⟨h.next, 0, none⟩) 0 0)
                { heap := (h.heap.del ad.block).set h.next (.blk { cells := [], cap := 0, esz := size, elem := k.elem, exact := false, whole := false, frz := 0, own := true }), next := h.next + 1, log := ad.block :: h.log })
            | _, _, _ => some (.val (.slice (some ⟨h.next, 0, none⟩) 0 0) { h with next := h.next + 1 })
      | none => none
    | _, _, _ => none
  | some ad, some mo =>
    match boundO tm (some mo) 0 cap with
    | some m => match boundO tm hi len m, hi with
      | some hh, some _ => match boundO tm lo 0 hh with
        | some l => match Nat.beq m l with
          | true => some (.val emptyS h)
          | false => match ad.spot, h.heap.get ad.block with
            | none, some (.blk k) => match Nat.beq hh m, k.own with
              | true, true => match takeN ((hh - l) * size) (dropN (ad.off + l * size) k.cells) with
                | some cs =>
                  some (.val (.slice (some ⟨h.next, 0, none⟩) (hh - l) (hh - l))
                    { heap := (h.heap.del ad.block).set h.next (.blk { k with cells := cs, cap := (hh - l) * size, esz := size, exact := true, whole := false, own := nonNil cs }), next := h.next + 1, log := ad.block :: h.log })
                | none => none
              | _, _ => none
            | _, _ => none
        | none => none
      | _, _ => none
    | none => none
  | none, some mo =>
    match cap, boundO tm (some mo) 0 cap, hi with
    | 0, some m, some ho => match boundO tm (some ho) 0 m with
      | some hh => match boundO tm lo 0 hh with
        | some l => some (.val (.slice none (hh - l) (m - l)) h)
        | none => none
      | none => none
    | _, _, _ => none

def aslice (P : Program) (tm : Tm) (h : Hs) (xt : TypeId) (x : Value) (lo hi mx : Option Operand) : Option Res :=
  match P.underlying xt, x with
  | some .string, .string s => match mx with
    | none => match sliceStr tm s lo hi with | some v => some (.val v h) | none => none
    | some _ => none
  | some (.slice e), .slice a len cap => match P.info? e with
    | some i => sliceSl h tm i.size a len cap lo hi mx
    | none => none
  | some (.array n e), .pointer (some ad) => match P.info? e, mx, ad.spot, h.heap.get ad.block with
    | some i, none, none, some (.blk k) => match k.exact, boundO tm hi n n with
      | true, some hh => match boundO tm lo 0 hh with
        | some l => match Nat.beq n l with
          | true => some (.val (.slice (some ad) (hh - l) (n - l)) h)
          | false => some (.val (.slice (some ⟨ad.block, ad.off + l * i.size, none⟩) (hh - l) (n - l)) h)
        | none => none
      | _, _ => none
    | _, _, _, _ => none
  | _, _ => none

def bytesV : List UInt8 → List Value
  | [] => []
  | b :: l => .int .u8 b.toNat :: bytesV l

def vBytes : List Value → Option (List UInt8)
  | [] => some []
  | .int .u8 (.ofNat n) :: l => match vBytes l with | some r => some (UInt8.ofNat n :: r) | none => none
  | _ :: _ => none

/-- the first n elements' cells of a slice or string -/
def firstC (h : Hs) (size n : Nat) : Value → Option (List Value)
  | .slice none _ _ => some []
  | .slice (some a) _ _ => match n with
    | 0 => some []
    | _ + 1 => match a.spot, h.heap.get a.block with
      | none, some (.blk k) => takeN (n * size) (dropN a.off k.cells)
      | _, _ => none
  | .string s => match takeN n s.data.toList with
    | some l => some (bytesV l)
    | none => none
  | _ => none

def lenV : Value → Option Nat
  | .slice _ n _ => some n
  | .string s => some s.size
  | _ => none

def big : Nat := 1099511627776

/-- what append needs of an element type, and of the number of elements, that a new row can be laid -/
def roomOk (i : TypeInfo) (n : Nat) : Bool := match i.zero with
  | some z => Nat.beq (vcells z).length i.size && Nat.ble (n * i.bytes) big && Nat.ble n big && Nat.blt 0 i.bytes && Nat.ble i.bytes 1048576
  | none => false

def aappend (P : Program) (h : Hs) (ats : List TypeId) (s x : Value) : Option Res :=
  match ats with
  | [st, xt] =>
    match P.underlying st, P.underlying xt with
    | some (.slice e), some xd => match xd, P.info? e with
      | .int _, _ => none
      | _, some i => match lenV x, s with
        | some n, .slice base len cap =>
          match firstC h i.size n x with
          | some new =>
            match Nat.ble (len + n) cap with
            | true => match base with
              | none => match new with | [] => some (.val (.slice none (len + n) cap) h) | _ => none
              | some a => match a.spot, new with
                | none, [] => some (.val (.slice (some a) (len + n) cap) h)
                | none, _ => match writeAt h a.block (a.off + len * i.size) new with
                  | some h => some (.val (.slice (some a) (len + n) cap) h)
                  | none => none
                | some _, [] => some (.val emptyS h)
                | _, _ => none
            | false => match roomOk i (len + n) && Nat.beq new.length (n * i.size) with
              | true => match base with
                | none => match len, cap with
                  | 0, 0 => some (.val (.slice (some ⟨h.next, 0, none⟩) n n)
                      (newObjA h (.blk { cells := new, cap := n * i.size, esz := i.size, elem := e, exact := false, whole := false, frz := 0, own := true })))
                  | _, _ => none
                | some a => match a.spot, h.heap.get a.block with
                  | some _, _ => some (.val (.slice (some ⟨h.next, 0, none⟩) n n)
                      (newObjA h (.blk { cells := new, cap := n * i.size, esz := i.size, elem := e, exact := false, whole := false, frz := 0, own := true })))
                  | none, some (.blk k) => match takeN (len * i.size) (dropN a.off k.cells) with
                    | some old => match k.exact with
                      | true => some (.val (.slice (some ⟨h.next, 0, none⟩) (len + n) (len + n))
                          (newObjA h (.blk { cells := old ++ new, cap := (len + n) * i.size, esz := i.size, elem := e, exact := false, whole := false, frz := 0, own := true })))
                      | false => match k.own, k.frz, Nat.beq (a.off + cap * i.size) k.cap, Nat.beq k.esz i.size && Nat.beq k.elem e && allCells new with
                        | true, 0, true, true => some (.val (.slice (some ⟨h.next, 0, none⟩) (len + n) (len + n))
                            { heap := (h.heap.del a.block).set h.next (.blk { cells := old ++ new, cap := (len + n) * i.size, esz := i.size, elem := e, exact := false, whole := false, frz := 0, own := true }), next := h.next + 1, log := a.block :: h.log })
                        | _, _, _, _ => none
                    | none => none
                  | _, _ => none
              | false => none
          | none => none
        | _, _ => none
      | _, _ => none
    | _, _ => none
  | _ => none

def findE (P : Program) (kt : TypeId) (k : Value) : List MapEntry → Nat → Option (Option (Nat × Value))
  | [], _ => some none
  | e :: es, i => match plainV e.key with
    | true => match prun P (Op.equal kt k e.key) with
      | some true => some (some (i, e.val))
      | some false => findE P kt k es (i + 1)
      | none => none
    | false => none

def akey (P : Program) (kt : TypeId) (k : Value) : Bool :=
  match plainV k with
  | true => match prun P (Instr.checkKey false 10000 kt k), prun P (Instr.checkKey true 10000 kt k) with
    | some (), some () => true
    | _, _ => false
  | false => false

def setVal : Nat → Value → List MapEntry → List MapEntry
  | _, _, [] => []
  | 0, x, a :: l => { a with val := x } :: l
  | n + 1, x, a :: l => a :: setVal n x l

def setKV : Nat → Value → Value → List MapEntry → List MapEntry
  | _, _, _, [] => []
  | 0, k, x, a :: l => { a with key := k, val := x } :: l
  | n + 1, k, x, a :: l => a :: setKV n k x l

def setK : Nat → Value → List MapEntry → List MapEntry
  | _, _, [] => []
  | 0, k, a :: l => { a with key := k } :: l
  | n + 1, k, a :: l => a :: setK n k l

def dropAt : Nat → List MapEntry → List MapEntry
  | _, [] => []
  | 0, _ :: l => l
  | n + 1, a :: l => a :: dropAt n l

def rep {α : Type} : Nat → List α → List α
  | 0, _ => []
  | n + 1, l => l ++ rep n l

def abuiltin (P : Program) (h : Hs) (b : Builtin) (ats : List TypeId) (args : List Value) : Option Res :=
  match b, args with
  | .append, [s, x] => aappend P h ats s x
  | .len, [x] => match ats with
    | t :: _ => match P.underlying t, x with
      | some .string, .string s => some (.val (goInt s.size) h)
      | some (.array n _), _ => some (.val (goInt n) h)
      | some (.slice _), .slice _ n _ => some (.val (goInt n) h)
      | some (.map _ _), .map none => some (.val (goInt 0) h)
      | some (.map _ _), .map (some r) => match h.heap.get r with
        | some (.map es _) => some (.val (goInt es.length) h)
        | _ => none
      | _, _ => none
    | [] => none
  | .cap, [x] => match ats with
    | t :: _ => match P.underlying t, x with
      | some (.slice _), .slice none _ n => some (.val (goInt n) h)
      | some (.slice _), .slice (some a) _ n => match h.heap.get a.block with
        | some (.blk k) => match k.exact with | true => some (.val (goInt n) h) | false => none
        | _ => none
      | _, _ => none
    | [] => none
  | .copy, [d, s] => match ats with
    | t :: _ => match P.underlying t with
      | some (.slice e) => match P.info? e, d, lenV s with
        | some i, .slice base dl _, some sl => match firstC h i.size (Nat.min sl dl) s with
          | some cs => match base, cs with
            | none, _ => some (.val (goInt (Nat.min sl dl)) h)
            | some _, [] => some (.val (goInt (Nat.min sl dl)) h)
            | some a, _ => match a.spot, writeAt h a.block a.off cs with
              | none, some h => some (.val (goInt (Nat.min sl dl)) h)
              | _, _ => none
          | none => none
        | _, _, _ => none
      | _ => none
    | [] => none
  | .delete, [m, k] => match ats with
    | t :: _ => match P.underlying t, m with
      | some (.map kt _), .map none => match akey P kt k with | true => some (.val (.tuple #[]) h) | false => none
      | some (.map kt _), .map (some r) => match akey P kt k, h.heap.get r with
        | true, some (.map es c) => match findE P kt k es 0 with
          | some (some (i, _)) => some (.val (.tuple #[]) { h with heap := h.heap.set r (.map (dropAt i es) c), log := r :: h.log })
          | some none => some (.val (.tuple #[]) h)
          | none => none
        | _, _ => none
      | _, _ => none
    | [] => none
  | .clear, [x] => match ats with
    | t :: _ => match P.underlying t, x with
      | some (.slice e), .slice (some a) n _ => match P.info? e, a.spot with
        | some i, none => match i.zero, (i.zero.map plainV).getD false with
          | some z, true => match n with
            | 0 => some (.val (.tuple #[]) h)
            | _ => match writeAt h a.block a.off (rep n (vcells z)) with
              | some h => some (.val (.tuple #[]) h)
              | none => none
          | _, _ => none
        | _, _ => none
      | _, _ => none
    | [] => none
  | .min, l => match plainL l with
    | true => match prunV P (Builtin.min_ #[] 0 ⟨l⟩) with | some v => some (.val v h) | none => none
    | false => none
  | .max, l => match plainL l with
    | true => match prunV P (Builtin.max_ #[] 0 ⟨l⟩) with | some v => some (.val v h) | none => none
    | false => none
  | .unsafeString, [p, n] => match ats with
    | t :: _ => match p, n with
      | .pointer none, .int _ (.ofNat 0) => some (.val (.string .empty) h)
      | .pointer (some a), .int _ (.ofNat n) => match n, a.spot, h.heap.get a.block, P.underlying t with
        | _ + 1, none, some (.blk k), some (.pointer et) => match takeN n (dropN a.off k.cells), P.underlying et, Nat.beq k.elem et, P.info? et with
          | some cs, some (.int .u8), true, some i => match vBytes cs, Nat.beq i.size 1, Nat.ble n big, k.own with
            | some bs, true, true, true => some (.val (.string ⟨⟨bs⟩⟩) { h with heap := h.heap.set a.block (.blk { k with frz := 2 }), log := a.block :: h.log })
            | _, _, _, _ => none
          | _, _, _, _ => none
        | _, _, _, _ => none
      | _, _ => none
    | [] => none
  | .unsafeSliceData, [x] => match x with
    | .slice none _ _ => some (.val (.pointer none) h)
    | .slice (some a) _ (_ + 1) => some (.val (.pointer (some a)) h)
    | _ => none
  | _, _ => none

def aconvert (P : Program) (h : Hs) (src dst : TypeId) (x : Value) : Option Res :=
  match P.underlying src, P.underlying dst with
  | some s, some d => match s, d, x with
    | _, .int k, .int _ n => some (.val (.int k (k.wrap n)) h)
    | _, .string, .int _ n => some (.val (.string (Utf8.encode n)) h)
    | _, .string, .string t => some (.val (.string t) h)
    | .string, .slice e, .string t => match P.underlying e with
      | some (.int .u8) => some (.val (.slice (some ⟨h.next, 0, none⟩) t.size t.size)
          (newObjA h (.blk { cells := bytesV t.data.toList, cap := t.size, esz := 1, elem := e, exact := false, whole := false, frz := 1, own := true })))
      | _ => none
    | .slice e, .string, x => match P.underlying e with
      | some (.int .u8) => match x with
        | .slice none _ _ => some (.val (.string .empty) h)
        | .slice (some a) n _ => match a.spot, h.heap.get a.block with
          | none, some (.blk k) => match takeN n (dropN a.off k.cells) with
            | some cs => match vBytes cs with
              | some bs => some (.val (.string ⟨⟨bs⟩⟩) h)
              | none => none
            | none => none
          | _, _ => none
        | _ => none
      | _ => none
    | .pointer _, .unsafePointer, .pointer none => some (.val (.pointer none) h)
    | .pointer t, .unsafePointer, .pointer (some a) => match a.spot, h.heap.get a.block, P.info? t with
      | none, some (.blk k), some i => match i.size, Nat.ble k.cap a.off, k.own with
        | _ + 1, false, true => some (.val (.pointer (some a)) h)
        | _, _, _ => none
      | _, _, _ => none
    | .unsafePointer, .pointer _, .pointer none => some (.val (.pointer none) h)
    | .unsafePointer, .pointer u, .pointer (some a) => match a.spot, h.heap.get a.block, P.info? u with
      | none, some (.blk k), some i => match i.size, k.whole with
        | _ + 1, true => match liesAt P P.depth k.elem (k.cap / P.cellsOf k.elem) a.off u 1 with
          | true => some (.val (.pointer (some a)) h)
          | false => none
        | _, _ => none
      | _, _, _ => none
    | _, _, _ => none
  | _, _ => none

/-- the functions without a body that are known here: 1 NoEscape, 2 MakeNoZero, 3 IndexByteString, 4 CountString -/
def externNo (fn : Func) : Nat :=
  if fn.origin = "" then
    if fn.name = "internal/abi.NoEscape" then 1
    else if fn.name = "internal/bytealg.MakeNoZero" then 2
    else if fn.name = "internal/bytealg.IndexByteString" then 3
    else if fn.name = "internal/bytealg.CountString" then 4
    else 0
  else 0

def aextern (P : Program) (h : Hs) (fn : Func) (args : List Value) : Option Res :=
  match externNo fn, args with
  | 1, [x] => some (.val x h)
  | 2, [.int .i64 (.ofNat n)] => match fn.resultTypes.toList with
    | t :: _ => match P.underlying t, Nat.ble n big with
      | some (.slice e), true => some (.val (.slice (some ⟨h.next, 0, none⟩) n n)
          (newObjA h (.blk { cells := [], cap := n, esz := 1, elem := e, exact := false, whole := false, frz := 0, own := true })))
      | _, _ => none
    | [] => none
  | 3, [x, y] => match plainV x, plainV y with
    | true, true => match prunV P (Extern.BytealgIndexByte.indexByte #[x, y]) with
      | some v => some (.val v h)
      | none => none
    | _, _ => none
  | 4, [x, y] => match plainV x, plainV y with
    | true, true => match prunV P (Extern.BytealgCount.count #[x, y]) with
      | some v => some (.val v h)
      | none => none
    | _, _ => none
  | _, _ => none

def fieldOf (fields : Array Field) (i : Nat) : Option Field := nth fields.toList i

def partA (P : Program) (t : TypeId) (cs : List Value) (off : Nat) : Option Value :=
  match P.underlying t with
  | some d => match isAggD d with
    | true => match P.info? t with
      | some i => some (.agg (Array.mk cs |>.extract off (off + i.size)))
      | none => none
    | false => nth cs off
  | none => none

def placesA (P : Program) : List Field → Option (List (Nat × Nat))
  | [] => some []
  | f :: l => match P.info? f.type with
    | some i => match placesA P l with
      | some r => some ((f.offset, i.size) :: r)
      | none => none
    | none => none

/-- fill, over lists: the parts written in their order. -/
def fillA (place : Nat → Option (Nat × Nat)) (cells : List Value) : List (Nat × Value) → Option (List Value)
  | [] => some cells
  | (i, v) :: rest => match place i with
    | some (off, size) => match Nat.beq (vcells v).length size, Nat.ble (off + (vcells v).length) cells.length, overwrite cells off (vcells v) with
      | true, true, some cs => fillA place cs rest
      | _, _, _ => none
    | none => none

def abuild (P : Program) (tm : Tm) (h : Hs) (t : TypeId) (parts : List (Nat × Operand)) : Option Res :=
  match evParts tm parts, P.info? t, P.underlying t with
  | some ps, some ti, some d => match ti.zero, d with
    | some z, .struct fields => match plainV z, placesA P fields.toList with
      | true, some pl => match fillA (nth pl) (vcells z) ps with
        | some cs => some (.val (.agg ⟨cs⟩) h)
        | none => none
      | _, _ => none
    | some z, .array _ e => match plainV z, P.info? e with
      | true, some ei => match fillA (fun i => some (i * ei.size, ei.size)) (vcells z) ps with
        | some cs => some (.val (.agg ⟨cs⟩) h)
        | none => none
      | _, _ => none
    | _, _ => none
  | _, _, _ => none

def afield (P : Program) (h : Hs) (t : TypeId) (x : Value) (f : Nat) : Option Res :=
  match P.underlying t, x with
  | some (.struct fields), .agg ⟨cs⟩ => match fieldOf fields f with
    | some f => match partA P f.type cs f.offset with
      | some v => some (.val v h)
      | none => none
    | none => none
  | _, _ => none

def amap (h : Hs) : Value → Option (List MapEntry)
  | .map none => some []
  | .map (some r) => match h.heap.get r with
    | some (.map es _) => some es
    | _ => none
  | _ => none

def alookup (P : Program) (h : Hs) (t : TypeId) (m k : Value) (ok : Bool) : Option Res :=
  match P.underlying t with
  | some (.map kt e) => match akey P kt k, amap h m with
    | true, some es => match findE P kt k es 0 with
      | some (some (_, v)) => some (.val (match ok with | true => .tuple #[v, .bool true] | false => v) h)
      | some none => match P.info? e with
        | some i => match i.zero with
          | some z => match plainV z with
            | true => some (.val (match ok with | true => .tuple #[z, .bool false] | false => z) h)
            | false => none
          | none => none
        | none => none
      | none => none
    | _, _ => none
  | _ => none

def amapUpdate (P : Program) (h : Hs) (t : TypeId) (m k x : Value) : Option Res :=
  match P.underlying t, m with
  | some (.map kt _), .map (some r) => match akey P kt k, h.heap.get r with
    | true, some (.map es c) => match findE P kt k es 0 with
      | some (some (i, _)) => match nth es i with
        | some e => match plainV e.key && Instr.sameBits 10000 e.key k with
          | true => some (.skip { h with heap := h.heap.set r (.map (setKV i k x es) c), log := r :: h.log })
          | false => none
        | none => none
      | some none => some (.skip { h with heap := h.heap.set r (.map (es ++ [{ key := k, val := x, born := c }]) (c + 1)), log := r :: h.log })
      | none => none
    | _, _ => none
  | _, _ => none

def amapEntry (P : Program) (h : Hs) (t : TypeId) (m k : Value) : Option Res :=
  match P.underlying t, m with
  | some (.map kt el), .map (some r) => match akey P kt k, h.heap.get r with
    | true, some (.map es c) => match findE P kt k es 0 with
      | some (some (i, v)) => match nth es i with
        | some e => match plainV e.key && Instr.sameBits 10000 e.key k with
          | true => some (.val (.tuple #[v, goInt e.born]) { h with heap := h.heap.set r (.map (setK i k es) c), log := r :: h.log })
          | false => none
        | none => none
      | some none => match P.info? el with
        | some i => match i.zero with
          | some z => match plainV z with
            | true => some (.val (.tuple #[z, goInt c]) { h with heap := h.heap.set r (.map (es ++ [{ key := k, val := z, born := c }]) (c + 1)), log := r :: h.log })
            | false => none
          | none => none
        | none => none
      | none => none
    | _, _ => none
  | _, _ => none

def bornAt (s : Int) : List MapEntry → Nat → Option Nat
  | [], _ => none
  | e :: es, i => match decide ((e.born : Int) = s) with
    | true => some i
    | false => bornAt s es (i + 1)

def aentryStore (h : Hs) (m s x : Value) : Option Res :=
  match m, s with
  | .map (some r), .int _ s => match h.heap.get r with
    | some (.map es c) => match bornAt s es 0 with
      | some i => some (.skip { h with heap := h.heap.set r (.map (setVal i x es) c), log := r :: h.log })
      | none => none
    | _ => none
  | _, _ => none

def memN (n : Nat) : List Nat → Bool
  | [] => false
  | m :: l => match Nat.beq m n with | true => true | false => memN n l

def leftE (seen : List Nat) : List MapEntry → List MapEntry
  | [] => []
  | e :: es => match memN e.born seen with
    | true => leftE seen es
    | false => e :: leftE seen es

def anext (h : Hs) (it : Value) (isString : Bool) : Option Res :=
  match it with
  | .pointer (some ⟨b, 0, none⟩) => match h.heap.get b, isString with
    | some (.siter s pos), true => match Nat.blt pos s.size with
      | true => match Utf8.decode s pos with
        | (c, w) => some (.val (.tuple #[.bool true, goInt pos, .int .i32 c]) { h with heap := h.heap.set b (.siter s (pos + w)), log := b :: h.log })
      | false => some (.val (.tuple #[.bool false]) h)
    | some (.miter none _ _ _), false => some (.val (.tuple #[.bool false]) h)
    | some (.miter (some m) since seen last), false => match h.heap.get m with
      | some (.map es c) => match leftE seen es with
        | [] => match seen, es with
          | [], _ => some (.val (.tuple #[.bool false]) h)
          | _, e :: _ => match Nat.blt e.born last with
            | true => some (.val (.tuple #[.bool false]) h)
            | false => none
          | _, [] => some (.val (.tuple #[.bool false]) h)
        | [e] => match Nat.blt e.born since, seen with
          | true, [] => some (.val (.tuple #[.bool true, e.key, e.val]) { h with heap := h.heap.set b (.miter (some m) since (e.born :: seen) c), log := b :: h.log })
          | _, _ => none
        | _ => none
      | _ => none
    | _, _ => none
  | _ => none

def findBorn (st : Nat) : List MapEntry → Option MapEntry
  | [] => none
  | e :: es => match Nat.beq e.born st with
    | true => some e
    | false => findBorn st es

def aentry (h : Hs) (it : Value) : Option Res :=
  match it with
  | .pointer (some ⟨b, 0, none⟩) => match h.heap.get b with
    | some (.miter (some m) _ (st :: _) stepped) => match h.heap.get m with
      | some (.map es c) => match Nat.beq c stepped, findBorn st es with
        | true, some e => some (.val (.tuple #[e.key, e.val]) h)
        | _, _ => none
      | _ => none
    | _ => none
  | _ => none

def arange (P : Program) (h : Hs) (t : TypeId) (x : Value) : Option Res :=
  match P.underlying t, x with
  | some .string, .string s => some (.val (ptrTo h.next) (newObjA h (.siter s 0)))
  | some (.map _ _), .map none => some (.val (ptrTo h.next) (newObjA h (.miter none 0 [] 0)))
  | some (.map _ _), .map (some m) => match h.heap.get m with
    | some (.map _ c) => some (.val (ptrTo h.next) (newObjA h (.miter (some m) c [] c)))
    | _ => none
  | _, _ => none

def acall (P : Program) (tm : Tm) (h : Hs) (c : Call) : Option Res :=
  match evs tm c.args.toList with
  | some args => match c.callee with
    | .builtin b => abuiltin P h b c.argTypes.toList args
    | .value f => match ev tm f with
      | some (.func (.func f) ⟨first⟩ ⟨captured⟩) => match P.funcs[f]? with
        | some fn => match fn.body with
          | some _ => match decide (fn.name = "runtime.NumGoroutine") with
            | true => none
            | false => some (.call f ((first ++ args) ++ captured))
          | none => aextern P h fn ((first ++ args) ++ captured)
        | none => none
      | some (.func (.yield l) ⟨first⟩ _) => some (.round l (first ++ args))
      | _ => none
    | .invoke _ _ => none
  | none => none

def adefer (tm : Tm) (c : Call) : Option Res :=
  match evs tm c.args.toList with
  | some args => match c.callee with
    | .value f => match ev tm f with
      | some (.func (.func f) ⟨first⟩ ⟨captured⟩) => some (.dfr (.call f (first ++ args) captured))
      | _ => none
    | _ => none
  | none => none

def amakeSlice (P : Program) (h : Hs) (t : TypeId) (l c : Value) : Option Res :=
  match P.underlying t, l, c with
  | some (.slice e), .int _ (.ofNat l), .int _ (.ofNat c) => match P.info? e, Nat.ble l c, Nat.ble c 1048576 with
    | some i, true, true => match i.zero, Nat.ble i.bytes 1048576 with
      | some z, true => match plainV z, allCells (vcells z), Nat.beq (vcells z).length i.size with
        | true, true, true => some (.val (.slice (some ⟨h.next, 0, none⟩) l c) (newBlk h e i.size (rep c (vcells z))))
        | _, _, _ => none
      | _, _ => none
    | _, _, _ => none
  | _, _, _ => none

def abuildSlice (P : Program) (tm : Tm) (h : Hs) (t : TypeId) (len : Nat) (parts : List (Nat × Operand)) : Option Res :=
  match P.underlying t, evParts tm parts with
  | some (.slice e), some ps => match P.info? e with
    | some i => match i.zero with
      | some z => match plainV z, Nat.beq (vcells z).length i.size, Nat.ble (len * i.size) 16777216, fillA (fun j => some (j * i.size, i.size)) (rep len (vcells z)) ps with
        | true, true, true, some cs => some (.val (.slice (some ⟨h.next, 0, none⟩) len len) (newBlk h e i.size cs))
        | _, _, _, _ => none
      | none => none
    | none => none
  | _, _ => none

def aindexAddr (P : Program) (h : Hs) (t : TypeId) (x i : Value) : Option Res :=
  match P.underlying t, x, i with
  | some (.array n e), .pointer (some a), .int _ (.ofNat i) => match P.info? e, a.spot, Nat.blt i n with
    | some ei, none, true => some (.val (.pointer (some ⟨a.block, a.off + i * ei.size, none⟩)) h)
    | _, _, _ => none
  | some (.slice e), .slice (some a) n _, .int _ (.ofNat i) => match P.info? e, a.spot, Nat.blt i n with
    | some ei, none, true => some (.val (.pointer (some ⟨a.block, a.off + i * ei.size, none⟩)) h)
    | _, _, _ => none
  | _, _, _ => none

def aindex (P : Program) (h : Hs) (t : TypeId) (x i : Value) : Option Res :=
  match P.underlying t, x, i with
  | some (.array n e), .agg ⟨cs⟩, .int _ (.ofNat i) => match P.info? e, Nat.blt i n with
    | some ei, true => match partA P e cs (i * ei.size) with
      | some v => some (.val v h)
      | none => none
    | _, _ => none
  | some .string, .string s, .int _ (.ofNat i) => match nth s.data.toList i with
    | some b => some (.val (.int .u8 b.toNat) h)
    | none => none
  | _, _, _ => none

def afieldAddr (P : Program) (h : Hs) (s : TypeId) (x : Value) (f : Nat) : Option Res :=
  match P.underlying s, x with
  | some (.struct fields), .pointer (some a) => match fieldOf fields f, a.spot with
    | some f, none => match P.info? f.type with
      | some i => match i.size with
        | 0 => none
        | _ + 1 => some (.val (.pointer (some ⟨a.block, a.off + f.offset, none⟩)) h)
      | none => none
    | _, _ => none
  | _, _ => none

def opt2 (f : Value → Value → Option Res) (a b : Option Value) : Option Res := match a, b with
  | some a, some b => f a b
  | _, _ => none
def opt1 (f : Value → Option Res) (a : Option Value) : Option Res := match a with
  | some a => f a
  | none => none
def opt3 (f : Value → Value → Value → Option Res) (a b c : Option Value) : Option Res := match a, b, c with
  | some a, some b, some c => f a b c
  | _, _, _ => none

def aload (P : Program) (h : Hs) (t : TypeId) (a : Value) : Option Res := match a with
  | .pointer (some ⟨b, off, none⟩) => match readVar P h t b off with
    | some v => some (.val v h)
    | none => none
  | _ => none

def astore (P : Program) (h : Hs) (t : TypeId) (a v : Value) : Option Res := match a with
  | .pointer (some ⟨b, off, none⟩) => match P.info? t with
    | some i => match Nat.beq (vcells v).length i.size, vcells v, writeAt h b off (vcells v) with
      | true, _ :: _, some h => some (.skip h)
      | _, _, _ => none
    | none => none
  | _ => none

def anilCheck (h : Hs) (v : Value) : Option Res := match v with
  | .pointer (some a) => some (.val (.pointer (some a)) h)
  | .func (.func f) a b => some (.val (.func (.func f) a b) h)
  | .func (.yield f) a b => some (.val (.func (.yield f) a b) h)
  | _ => none

def aextract (h : Hs) (v : Value) (i : Nat) : Option Res := match v with
  | .tuple ⟨vs⟩ => match nth vs i with
    | some v => some (.val v h)
    | none => none
  | _ => none

def aunary (P : Program) (h : Hs) (op : UnOp) (v : Value) : Option Res := match plainV v with
  | true => match prunV P (Op.unary op v) with
    | some v => some (.val v h)
    | none => none
  | false => none

def aop (P : Program) (tm : Tm) (h : Hs) (o : Oper) : Option Res :=
  match o.op with
  | .move x | .assign x => opt1 (fun v => some (.val v h)) (ev tm x)
  | .pick c a b => match ev tm c with
    | some (.bool true) => opt1 (fun v => some (.val v h)) (ev tm a)
    | some (.bool false) => opt1 (fun v => some (.val v h)) (ev tm b)
    | _ => none
  | .alloc e => match P.info? e with
    | some i => match i.zero with
      | some z => match plainV z with
        | true => some (.val (ptrTo h.next) (newBlk h e 1 (vcells z)))
        | false => none
      | none => none
    | none => none
  | .box e x => opt1 (fun v => some (.val (ptrTo h.next) (newBlk h e 1 (vcells v)))) (ev tm x)
  | .build t parts => abuild P tm h t parts.toList
  | .buildSlice t len parts => abuildSlice P tm h t len parts.toList
  | .load t a => opt1 (aload P h t) (ev tm a)
  | .store t a x => opt2 (astore P h t) (ev tm a) (ev tm x)
  | .nilCheck x => opt1 (anilCheck h) (ev tm x)
  | .binOp op xt x y _ => opt2 (fun a b => match abinop P h op xt x y a b with | some v => some (.val v h) | none => none) (ev tm x) (ev tm y)
  | .unOp op _ x => opt1 (aunary P h op) (ev tm x)
  | .convert s d x => opt1 (aconvert P h s d) (ev tm x)
  | .makeFunc fn first captured => match fn with
    | .func _ => match evs tm first.toList, evs tm captured.toList with
      | some f, some c => some (.val (.func fn ⟨f⟩ ⟨c⟩) h)
      | _, _ => none
    | _ => none
  | .makeMap _ r => match r with
    | none => some (.val (.map (some h.next)) (newObjA h (.map [] 0)))
    | some _ => none
  | .makeSlice t l c => opt2 (amakeSlice P h t) (ev tm l) (ev tm c)
  | .slice t x lo hi mx => opt1 (fun v => aslice P tm h t v lo hi mx) (ev tm x)
  | .fieldAddr s x f => opt1 (fun v => afieldAddr P h s v f) (ev tm x)
  | .field t x f => opt1 (fun v => afield P h t v f) (ev tm x)
  | .indexAddr t x i => opt2 (aindexAddr P h t) (ev tm x) (ev tm i)
  | .index t x i => opt2 (aindex P h t) (ev tm x) (ev tm i)
  | .lookup t m k ok => opt2 (fun m k => alookup P h t m k ok) (ev tm m) (ev tm k)
  | .mapUpdate t m k x | .insert t m k x => opt3 (amapUpdate P h t) (ev tm m) (ev tm k) (ev tm x)
  | .mapEntry t m k => opt2 (amapEntry P h t) (ev tm m) (ev tm k)
  | .entryStore _ m s x => opt3 (aentryStore h) (ev tm m) (ev tm s) (ev tm x)
  | .range t x => opt1 (arange P h t) (ev tm x)
  | .next it isString => opt1 (fun v => anext h v isString) (ev tm it)
  | .entry it => opt1 (aentry h) (ev tm it)
  | .extract t i => opt1 (fun v => aextract h v i) (ev tm t)
  | .call c => acall P tm h c
  | .defer c => adefer tm c
  | _ => none

end Go.AV

namespace Go.AV

inductive AExit where | normal | exit (id : Nat) | goto (l : Nat) | ret

structure Fr where
  tm : Tm
  n : Nat
  dfr : List ADfr

abbrev Out := Option (AExit × Fr × Hs)

def Fr.put (fr : Fr) (d : Option Tmp) (v : Value) : Option Fr := match d with
  | some d => match Nat.blt d fr.n with
    | true => some { fr with tm := fr.tm.set d v }
    | false => none
  | none => some fr

def wantedB (ops : Array Oper) (tm : Tm) (o : Oper) : Option Bool := match o.guard with
  | none => some true
  | some (j, w) => match (nth ops.toList j).bind (·.dst) with
    | some d => match rd tm d with
      | .bool b => some (b == w)
      | .tuple _ => some false
      | _ => none
    | none => some false

def setAll : List Value → Nat → Tm → Tm
  | [], _, t => t
  | v :: l, i, t => setAll l (i + 1) (t.set i v)

def setPs : List Tmp → List Value → Nat → Tm → Option Tm
  | [], [], _, t => some t
  | p :: ps, v :: vs, n, t => match Nat.blt p n with
    | true => setPs ps vs n (t.set p v)
    | false => none
  | _, _, _, _ => none

def resultsA (P : Program) (tm : Tm) (h : Hs) : List ResultVar → Option (List Value)
  | [] => some []
  | .tmp t :: l => match resultsA P tm h l with
    | some vs => match noJunk (rd tm t) with
      | some v => some (v :: vs)
      | none => none
    | none => none
  | .cell a t :: l => match rd tm a with
    | .pointer (some ⟨b, off, none⟩) => match readVar P h t b off, resultsA P tm h l with
      | some v, some vs => some (v :: vs)
      | _, _ => none
    | _ => none

def oneA : List Value → Value
  | [v] => v
  | l => .tuple ⟨l⟩

abbrev CallF := Nat → List Value → Hs → Option (Value × Hs)
abbrev ExF := Option Nat → Code → Fr → Hs → Out

/-- the body of a deferred call: it defers nothing itself -/
def dcallW (P : Program) (ex : ExF) (f : Nat) (args : List Value) (h : Hs) : Option Hs :=
  match P.funcs[f]? with
  | some fn => match fn.body, decide (fn.name = "runtime.NumGoroutine") with
    | some body, false =>
      match ex none body { tm := setAll args 0 .leaf, n := args.length + (fn.ntmps - args.length), dfr := [] } h with
      | some (.normal, fr, h) | some (.ret, fr, h) =>
        match fr.dfr, resultsA P fr.tm h fn.results.toList with
        | [], some _ => some h
        | _, _ => none
      | _ => none
    | _, _ => none
  | none => none

def dfrs (P : Program) (ex : ExF) : List ADfr → Hs → Option Hs
  | [], h => some h
  | .call f args captured :: ds, h => match dcallW P ex f (args ++ captured) h with
    | some h => dfrs P ex ds h
    | none => none
  | .mark r :: ds, h => match h.heap.get r with
    | some (.dfr true) => dfrs P ex ds { h with heap := h.heap.set r (.dfr false), log := r :: h.log }
    | _ => none

def callW (P : Program) (ex : ExF) (call : CallF) (f : Nat) (args : List Value) (h : Hs) : Option (Value × Hs) :=
  match P.funcs[f]? with
  | some fn => match fn.body with
    | some body =>
      match ex none body { tm := setAll args 0 .leaf, n := args.length + (fn.ntmps - args.length), dfr := [] } h with
      | some (.normal, fr, h) | some (.ret, fr, h) =>
        match dfrs P ex fr.dfr h with
        | some h => match resultsA P fr.tm h fn.results.toList with
          | some vs => some (oneA vs, h)
          | none => none
        | none => none
      | _ => none
    | none => none
  | none => none

def jumpOf : AExit → Option Code
  | .normal => none
  | .ret => some .ret
  | .exit i => some (.exit i)
  | .goto i => some (.goto i)

def roundW (ex : ExF) (l : Nat) (args : List Value) (h : Hs) : Option (Value × Hs) :=
  match h.heap.get l with
  | some (.loop r) => match setPs r.params args r.n r.tm with
    | some tm => match ex (some l) r.assign { tm := tm, n := r.n, dfr := [] } h with
      | some (.normal, fr, h) => match h.heap.get l with
        | some (.loop r1) => match r1.st with
          | .ready => match ex (some l) r.body fr { h with heap := h.heap.set l (.loop { r1 with st := .busy }), log := l :: h.log } with
            | some (e, _, h) => match h.heap.get l with
              | some (.loop r) => some (.bool (jumpOf e).isNone, { h with heap := h.heap.set l (.loop { r with st := (match jumpOf e with | none => .ready | some _ => .done), pending := jumpOf e }), log := l :: h.log })
              | _ => none
            | none => none
          | _ => none
        | _ => none
      | _ => none
    | none => none
  | _ => none

def opsW (P : Program) (call round : CallF) (rdd : Option Nat) (ops : Array Oper) : List Oper → Fr → Hs → Option (Fr × Hs)
  | [], fr, h => some (fr, h)
  | o :: l, fr, h =>
    match wantedB ops fr.tm o with
    | none => none
    | some false => match fr.put o.dst undef with
      | some fr => opsW P call round rdd ops l fr h
      | none => none
    | some true => match aop P fr.tm h o with
      | none => none
      | some (.val v h) => match fr.put o.dst v with
        | some fr => opsW P call round rdd ops l fr h
        | none => none
      | some (.skip h) => match fr.put o.dst undef with
        | some fr => opsW P call round rdd ops l fr h
        | none => none
      | some (.call f args) => match call f args h with
        | some (v, h) => match fr.put o.dst v with
          | some fr => opsW P call round rdd ops l fr h
          | none => none
        | none => none
      | some (.round f args) => match round f args h with
        | some (v, h) => match fr.put o.dst v with
          | some fr => opsW P call round rdd ops l fr h
          | none => none
        | none => none
      | some (.dfr d) => match rdd with
        | none => match ({ fr with dfr := d :: fr.dfr } : Fr).put o.dst undef with
          | some fr => opsW P call round rdd ops l fr h
          | none => none
        | some _ => none

/-! ### Regions that draw their order -/

/-- the temporaries that an operation looks at or writes -/
def namesOf (ops : Array Oper) (o : Oper) : List Tmp :=
  (o.op.operands.toList.filterMap fun | .tmp t => some t | _ => none) ++ o.dst.toList ++
  (match o.guard with
   | some (g, _) => ((nth ops.toList g).bind (·.dst)).toList
   | none => [])

def maskOf (acc : List Nat) (i : Nat) : List Edge → Option Nat
  | [] => some 0
  | e :: es => match Region.binds .any e with
    | true => match Nat.blt e.on i, nth acc (i - 1 - e.on), maskOf acc i es with
      | true, some m, some r => some (2 ^ e.on ||| m ||| r)
      | _, _, _ => none
    | false => maskOf acc i es

def forceN {α : Type} (n : Nat) (k : Nat → α) : α := match n with | 0 => k 0 | m + 1 => k (m + 1)

/-- for each operation the set of those that come before it in every order; the last one first -/
def masks : List Oper → Nat → List Nat → Option (List Nat)
  | [], _, acc => some acc
  | o :: l, i, acc => match maskOf acc i o.after.toList with
    | some m => forceN m fun m => masks l (i + 1) (m :: acc)
    | none => none

/-- no temporary is named by two operations of which one writes it and neither comes before the other -/
def tmpsOk (ops : Array Oper) (ms : List Nat) : List Oper → Nat → List (Nat × Oper) → Bool
  | [], _, _ => true
  | o :: l, i, prev => match nth ms i with
    | some m => match prev.all fun (j, p) => m.testBit j ||
        ((match p.dst with | some d => !memN d (namesOf ops o) | none => true) && (match o.dst with | some d => !memN d (namesOf ops p) | none => true)) with
      | true => tmpsOk ops ms l (i + 1) ((i, o) :: prev)
      | false => false
    | none => false

def planOf (ops : Array Oper) : Option (List Nat) :=
  match masks ops.toList 0 [] with
  | some ms => match tmpsOk ops ms.reverse ops.toList 0 [] with
    | true => some ms.reverse
    | false => none
  | none => none

structure Rec where
  i : Nat
  all : Bool
  reads : List Nat
  writes : List Nat
  lo : Nat
  hi : Nat

def idsOf : Value → List Nat
  | .pointer (some a) => [a.block]
  | .slice (some a) _ _ => [a.block]
  | .map (some r) => [r]
  | _ => []

def idsOp (tm : Tm) (x : Operand) : List Nat := match ev tm x with
  | some v => idsOf v
  | none => []

def idsOps (tm : Tm) : List Operand → List Nat
  | [] => []
  | x :: l => idsOp tm x ++ idsOps tm l

def mapBehind (h : Hs) : List Nat → List Nat
  | [] => []
  | b :: l => match h.heap.get b with
    | some (.miter (some m) _ _ _) => b :: m :: mapBehind h l
    | _ => b :: mapBehind h l

/-- the blocks that an operation looks into -/
def touches (tm : Tm) (h : Hs) (o : Oper) : List Nat :=
  match o.op with
  | .load _ a => idsOp tm a
  | .store _ a _ => idsOp tm a
  | .binOp _ _ x y _ => idsOps tm [x, y]
  | .convert _ _ x => idsOp tm x
  | .slice _ x _ _ _ => idsOp tm x
  | .lookup _ m _ _ => idsOp tm m
  | .mapUpdate _ m _ _ | .insert _ m _ _ => idsOp tm m
  | .mapEntry _ m _ => idsOp tm m
  | .entryStore _ m _ _ => idsOp tm m
  | .range _ x => idsOp tm x
  | .next it _ => mapBehind h (idsOp tm it)
  | .entry it => mapBehind h (idsOp tm it)
  | .call c => idsOps tm c.args.toList
  | _ => []

def viewOf (h : Hs) : List Nat → T AObj
  | [] => .leaf
  | b :: l => match h.heap.get b with
    | some o => (viewOf h l).set b o
    | none => viewOf h l

def mergeAt (t s : T AObj) : List Nat → T AObj
  | [] => t
  | b :: l => match s.get b with
    | some o => (mergeAt t s l).set b o
    | none => (mergeAt t s l).del b

def range' (lo : Nat) : Nat → List Nat
  | 0 => []
  | n + 1 => lo :: range' (lo + 1) n

def disj : List Nat → List Nat → Bool
  | [], _ => true
  | a :: l, m => match memN a m with
    | true => false
    | false => disj l m

def isNil : List Nat → Bool
  | [] => true
  | _ => false

/-- r's operation, which comes before the new one in the text alone, and the new one do not meet -/
def apartR (mask : Nat) (new r : Rec) : Bool :=
  match mask.testBit r.i with
  | true => true
  | false =>
    (match new.all with | true => isNil r.writes | false => disj r.writes new.reads) &&
    (match r.all with | true => isNil new.writes | false => disj new.writes r.reads) &&
    new.reads.all (fun b => Nat.blt b r.lo || Nat.ble r.hi b)

def apartRs (mask : Nat) (new : Rec) : List Rec → Bool
  | [] => true
  | r :: l => match apartR mask new r with
    | true => apartRs mask new l
    | false => false

/-- the ids that operations have made which do not come before in every order -/
def hidden (mask : Nat) : List Rec → List Nat
  | [] => []
  | r :: l => match mask.testBit r.i with
    | true => hidden mask l
    | false => range' r.lo (r.hi - r.lo) ++ hidden mask l

def delAll (t : T AObj) : List Nat → T AObj
  | [] => t
  | b :: l => (delAll t l).del b

/-- an operation that is no call of a Go function, on what it looks into alone -/
def stepD (P : Program) (mask i : Nat) (recs : List Rec) (tm : Tm) (h : Hs) (o : Oper) : Option (Value × Hs × Rec) :=
  let ts := touches tm h o
  match aop P tm { heap := viewOf h ts, next := h.next, log := [] } o with
  | some (.val v h') => fin ts v h'
  | some (.skip h') => fin ts undef h'
  | _ => none
where
  fin (ts : List Nat) (v : Value) (h' : Hs) : Option (Value × Hs × Rec) :=
    let r : Rec := { i, all := false, reads := ts ++ h'.log, writes := h'.log, lo := h.next, hi := h'.next }
    match apartRs mask r recs with
    | true => some (v, { heap := mergeAt h.heap h'.heap (h'.log ++ range' h.next (h'.next - h.next)), next := h'.next, log := h'.log ++ h.log }, r)
    | false => none

def callD (call : CallF) (mask i : Nat) (recs : List Rec) (f : Nat) (args : List Value) (h : Hs) : Option (Value × Hs × Rec) :=
  let hid := hidden mask recs
  match call f args { heap := delAll h.heap hid, next := h.next, log := [] } with
  | some (v, h') =>
    let r : Rec := { i, all := true, reads := [], writes := h'.log, lo := h.next, hi := h'.next }
    match apartRs mask r recs, disj h'.log hid with
    | true, true => some (v, { heap := mergeAt h'.heap h.heap hid, next := h'.next, log := h'.log ++ h.log }, r)
    | _, _ => none
  | none => none

def isCallRes : Option Res → Option (Bool × Nat × List Value)
  | some (.call f args) => some (true, f, args)
  | some (.round f args) => some (false, f, args)
  | _ => none

def isGoCall (o : Oper) : Bool := match o.op with
  | .call { callee := .builtin _, .. } => false
  | .call _ => true
  | _ => false

def drawW (P : Program) (call round : CallF) (ops : Array Oper) : List Oper → Nat → List Nat → List Rec → Fr → Hs → Option (Fr × Hs)
  | [], _, _, _, fr, h => some (fr, h)
  | o :: l, i, m :: ms, recs, fr, h =>
    match wantedB ops fr.tm o with
    | none => none
    | some false => match fr.put o.dst undef with
      | some fr => drawW P call round ops l (i + 1) ms recs fr h
      | none => none
    | some true =>
      match (match isGoCall o with
        | true => match isCallRes (aop P fr.tm { heap := .leaf, next := 0, log := [] } o) with
          | some (true, f, args) => callD call m i recs f args h
          | some (false, f, args) => callD round m i recs f args h
          | none => stepD P m i recs fr.tm h o
        | false => stepD P m i recs fr.tm h o) with
      | some (v, h, r) => match fr.put o.dst v with
        | some fr => drawW P call round ops l (i + 1) ms (r :: recs) fr h
        | none => none
      | none => none
  | _ :: _, _, [], _, _, _ => none

def regionW (P : Program) (call round : CallF) (rdd : Option Nat) (ops : Array Oper) (draw : Bool) (fr : Fr) (h : Hs) : Option (Fr × Hs) :=
  match draw with
  | false => opsW P call round rdd ops ops.toList fr h
  | true => match planOf ops with
    | some ms => drawW P call round ops ops.toList 0 ms [] fr h
    | none => none

def codeW (P : Program) (ex : ExF) (call : CallF) (rdd : Option Nat) (c : Code) (fr : Fr) (h : Hs) : Out :=
  match c with
  | .skip | .label _ => some (.normal, fr, h)
  | .seq a b => match ex rdd a fr h with
    | some (.normal, fr, h) => ex rdd b fr h
    | r => r
  | .cond c a b => match ev fr.tm c with
    | some (.bool true) => ex rdd a fr h
    | some (.bool false) => ex rdd b fr h
    | _ => none
  | .block id b => match ex rdd b fr h with
    | some (.exit i, fr, h) => match Nat.beq i id with
      | true => some (.normal, fr, h)
      | false => some (.exit i, fr, h)
    | r => r
  | .exit id => some (.exit id, fr, h)
  | .goto l => some (.goto l, fr, h)
  | .ret => some (.ret, fr, h)
  | .region _ ops draw => match regionW P call (roundW ex) rdd ops draw fr h with
    | some (fr, h) => some (.normal, fr, h)
    | none => none
  | .rangeFunc f ps asg b =>
    match ev fr.tm f with
    | some (.func (.func g) ⟨first⟩ ⟨cap⟩) =>
      match (match rdd with
        | some l => match h.heap.get l with
          | some (.loop r) => some (r.defers, ([] : List ADfr), h)
          | _ => none
        | none => some (h.next, [.mark h.next], newObjA h (.dfr true))) with
      | some (dk, mark, h) => rangeW fr g first cap dk mark ps asg b h
      | none => none
    | _ => none
  | _ => none
where
  rangeW (fr : Fr) (g : Nat) (first cap : List Value) (dk : Nat) (mark : List ADfr) (ps : Array Tmp) (asg b : Code) (h : Hs) : Out :=
    match P.funcs[g]? with
    | some fn => match fn.body, decide (fn.name = "runtime.NumGoroutine") with
      | some _, false =>
        match call g ((first ++ [.func (.yield h.next) #[] #[]]) ++ cap) (newObjA h (.loop { st := .ready, pending := none, tm := fr.tm, n := fr.n, params := ps.toList, assign := asg, body := b, defers := dk })) with
        | some (_, h') =>
          match h'.heap.get h.next with
          | some (.loop r) => match r.st with
            | .busy => none
            | _ =>
              match r.pending with
              | none => some (.normal, { fr with dfr := mark ++ fr.dfr }, { h' with heap := h'.heap.set h.next (.loop { r with st := .exhausted }), log := h.next :: h'.log })
              | some .ret => some (.ret, { fr with dfr := mark ++ fr.dfr }, { h' with heap := h'.heap.set h.next (.loop { r with st := .exhausted }), log := h.next :: h'.log })
              | some (.exit i) => some (.exit i, { fr with dfr := mark ++ fr.dfr }, { h' with heap := h'.heap.set h.next (.loop { r with st := .exhausted }), log := h.next :: h'.log })
              | some (.goto i) => some (.goto i, { fr with dfr := mark ++ fr.dfr }, { h' with heap := h'.heap.set h.next (.loop { r with st := .exhausted }), log := h.next :: h'.log })
              | _ => none
          | _ => none
        | none => none
      | _, _ => none
    | none => none

def scopeW (ex : ExF) : Nat → Code → Code → Option Nat → Fr → Hs → Out
  | 0, _, _, _, _, _ => none
  | n + 1, b, cur, rdd, fr, h => match ex rdd cur fr h with
    | some (.goto l, fr, h) => match findLabel b l with
      | some rest => scopeW ex n b rest rdd fr h
      | none => some (.goto l, fr, h)
    | r => r

def loopW (ex : ExF) : Nat → Code → Option Nat → Fr → Hs → Out
  | 0, _, _, _, _ => none
  | n + 1, b, rdd, fr, h => match ex rdd b fr h with
    | some (.normal, fr, h) => loopW ex n b rdd fr h
    | r => r

def callN (P : Program) (ex : ExF) : Nat → CallF
  | 0, _, _, _ => none
  | n + 1, f, args, h => callW P ex (callN P ex n) f args h

/-- the executor of code -/
def exec (P : Program) : Nat → ExF
  | 0, _, _, _, _ => none
  | n + 1, rdd, .scope b, fr, h => scopeW (exec P n) n b b rdd fr h
  | n + 1, rdd, .loop b, fr, h => loopW (exec P n) n b rdd fr h
  | n + 1, rdd, c, fr, h => codeW P (exec P n) (callN P (exec P n) n) rdd c fr h

def runF (P : Program) (fuel : Nat) : CallF := callN P (exec P fuel) fuel

def outB : Option (Value × Hs) → Option Bool
  | some (.bool b, _) => some b
  | _ => none
end Go.AV

namespace Go.AV

/-- Where an abstract block lies: its block, the cells ahead of it, the room more than known behind a slice over it. -/
structure Loc where
  φ : Nat
  δ : Nat
  ψ : Nat

abbrev Ren := Nat → Option Loc

def Ren.le (ρ ρ' : Ren) : Prop := ∀ b L, ρ b = some L → ρ' b = some L
theorem Ren.le.refl (ρ : Ren) : ρ.le ρ := fun _ _ h => h
theorem Ren.le.trans {a b c : Ren} (h : a.le b) (k : b.le c) : a.le c := fun i L hi => k i L (h i L hi)

mutual
inductive VR (ρ : Ren) : Value → Value → Prop where
  | sc (v : Value) (h : simple v = true) : VR ρ v v
  | ptr (b o : Nat) (L : Loc) (h : ρ b = some L) : VR ρ (.pointer (some ⟨b, o, none⟩)) (.pointer (some ⟨L.φ, L.δ + o, none⟩))
  | sl (b o n c : Nat) (L : Loc) (h : ρ b = some L) : VR ρ (.slice (some ⟨b, o, none⟩) n c) (.slice (some ⟨L.φ, L.δ + o, none⟩) n (c + L.ψ))
  | es (a a' : Addr) (h : a.spot ≠ none) : VR ρ (.slice (some a) 0 0) (.slice (some a') 0 0)
  | map (b : Nat) (L : Loc) (h : ρ b = some L) : VR ρ (.map (some b)) (.map (some L.φ))
  | fn (f : FuncId) (a a' c c' : List Value) (h : VRs ρ a a') (k : VRs ρ c c') : VR ρ (.func (.func f) ⟨a⟩ ⟨c⟩) (.func (.func f) ⟨a'⟩ ⟨c'⟩)
  | yield (l : Nat) (L : Loc) (a a' : List Value) (h : ρ l = some L) (k : VRs ρ a a') : VR ρ (.func (.yield l) ⟨a⟩ #[]) (.func (.yield L.φ) ⟨a'⟩ #[])
  | agg (a a' : List Value) (h : VRs ρ a a') : VR ρ (.agg ⟨a⟩) (.agg ⟨a'⟩)
  | tuple (a a' : List Value) (h : VRs ρ a a') : VR ρ (.tuple ⟨a⟩) (.tuple ⟨a'⟩)
inductive VRs (ρ : Ren) : List Value → List Value → Prop where
  | nil : VRs ρ [] []
  | cons (v v' : Value) (l l' : List Value) (h : VR ρ v v') (k : VRs ρ l l') : VRs ρ (v :: l) (v' :: l')
end

mutual
theorem VR.mono {ρ ρ' : Ren} (hl : ρ.le ρ') : ∀ {v v' : Value}, VR ρ v v' → VR ρ' v v'
  | _, _, .sc v h => .sc v h
  | _, _, .ptr b o L h => .ptr b o L (hl _ _ h)
  | _, _, .sl b o n c L h => .sl b o n c L (hl _ _ h)
  | _, _, .es a a' h => .es a a' h
  | _, _, .map b L h => .map b L (hl _ _ h)
  | _, _, .fn f a a' c c' h k => .fn f a a' c c' (VRs.mono hl h) (VRs.mono hl k)
  | _, _, .yield l L a a' h k => .yield l L a a' (hl _ _ h) (VRs.mono hl k)
  | _, _, .agg a a' h => .agg a a' (VRs.mono hl h)
  | _, _, .tuple a a' h => .tuple a a' (VRs.mono hl h)
theorem VRs.mono {ρ ρ' : Ren} (hl : ρ.le ρ') : ∀ {l l' : List Value}, VRs ρ l l' → VRs ρ' l l'
  | _, _, .nil => .nil
  | _, _, .cons v v' l l' h k => .cons v v' l l' (VR.mono hl h) (VRs.mono hl k)
end

theorem VRs.length {ρ : Ren} : ∀ {l l' : List Value}, VRs ρ l l' → l'.length = l.length
  | _, _, .nil => rfl
  | _, _, .cons _ _ _ _ _ k => by simp [VRs.length k]

theorem VRs.append {ρ : Ren} : ∀ {a a' b b' : List Value}, VRs ρ a a' → VRs ρ b b' → VRs ρ (a ++ b) (a' ++ b')
  | _, _, _, _, .nil, k => k
  | _, _, _, _, .cons v v' l l' h r, k => .cons v v' _ _ h (VRs.append r k)

theorem VRs.get {ρ : Ren} : ∀ {l l' : List Value}, VRs ρ l l' → ∀ {i : Nat} {v : Value}, l[i]? = some v → ∃ v', l'[i]? = some v' ∧ VR ρ v v'
  | _, _, .nil, i, v, h => by simp at h
  | _, _, .cons v v' l l' h k, 0, u, hu => by simp at hu; subst hu; exact ⟨v', rfl, h⟩
  | _, _, .cons v v' l l' h k, i + 1, u, hu => by simp at hu; simpa using VRs.get k hu

theorem VRs.of_get {ρ : Ren} : ∀ {l l' : List Value}, l'.length = l.length → (∀ (i : Nat) (v : Value), l[i]? = some v → ∃ v', l'[i]? = some v' ∧ VR ρ v v') → VRs ρ l l'
  | [], [], _, _ => .nil
  | [], _ :: _, h, _ => by simp at h
  | _ :: _, [], h, _ => by simp at h
  | a :: l, b :: l', h, k => by
    obtain ⟨v', h1, h2⟩ := k 0 a rfl
    simp at h1; subst h1
    exact .cons a b l l' h2 (VRs.of_get (by simpa using h) fun i v hi => by simpa using k (i + 1) v (by simpa using hi))

theorem VRs.get' {ρ : Ren} {l l' : List Value} (h : VRs ρ l l') {i : Nat} (hi : l[i]? = none) : l'[i]? = none := by
  rw [List.getElem?_eq_none_iff] at hi ⊢
  rw [h.length]; exact hi

theorem VRs.one {ρ : Ren} {v v' : Value} (h : VR ρ v v') : VRs ρ [v] [v'] := .cons _ _ _ _ h .nil
theorem VR.undef {ρ : Ren} : VR ρ Go.undef Go.undef := .tuple [] [] .nil

mutual
theorem VR.plain {ρ : Ren} : ∀ {v v' : Value}, VR ρ v v' → plainV v = true → v' = v
  | _, _, .sc v h, _ => rfl
  | _, _, .ptr b o L h, hp => by simp [plainV] at hp
  | _, _, .sl b o n c L h, hp => by simp [plainV] at hp
  | _, _, .es a a' h, hp => by simp [plainV] at hp
  | _, _, .map b L h, hp => by simp [plainV] at hp
  | _, _, .fn f a a' c c' h k, hp => by simp [plainV] at hp
  | _, _, .yield l L a a' h k, hp => by simp [plainV] at hp
  | _, _, .agg a a' h, hp => by simp only [plainV] at hp; rw [VRs.plain h hp]
  | _, _, .tuple a a' h, hp => by simp only [plainV] at hp; rw [VRs.plain h hp]
theorem VRs.plain {ρ : Ren} : ∀ {l l' : List Value}, VRs ρ l l' → plainL l = true → l' = l
  | _, _, .nil, _ => rfl
  | _, _, .cons v v' l l' h k, hp => by
    simp only [plainL] at hp
    cases hv : plainV v with
    | false => simp [hv] at hp
    | true => rw [hv] at hp; rw [VR.plain h hv, VRs.plain k hp]
end

mutual
theorem VR.of_plain {ρ : Ren} : ∀ {v : Value}, plainV v = true → VR ρ v v
  | .bool _, _ => .sc _ rfl
  | .int _ _, _ => .sc _ rfl
  | .string _, _ => .sc _ rfl
  | .float _ _, _ => .sc _ rfl
  | .nilFunc, _ => .sc _ rfl
  | .nilIface, _ => .sc _ rfl
  | .pointer none, _ => .sc _ rfl
  | .slice none _ _, _ => .sc _ rfl
  | .map none, _ => .sc _ rfl
  | .agg ⟨l⟩, h => .agg l l (VRs.of_plain (by simpa [plainV] using h))
  | .tuple ⟨l⟩, h => .tuple l l (VRs.of_plain (by simpa [plainV] using h))
  | .pointer (some _), h => by simp [plainV] at h
  | .slice (some _) _ _, h => by simp [plainV] at h
  | .map (some _), h => by simp [plainV] at h
  | .complex _ _ _, h => by simp [plainV] at h
  | .chan _, h => by simp [plainV] at h
  | .func _ _ _, h => by simp [plainV] at h
  | .iface _ _, h => by simp [plainV] at h
theorem VRs.of_plain {ρ : Ren} : ∀ {l : List Value}, plainL l = true → VRs ρ l l
  | [], _ => .nil
  | v :: l, h => by
    simp only [plainL] at h
    cases hv : plainV v with
    | false => simp [hv] at h
    | true => rw [hv] at h; exact .cons v v l l (VR.of_plain hv) (VRs.of_plain h)
end

theorem simple_sl {a : Addr} {n c : Nat} (h : AV.simple (.slice (some a) n c) = true) : a.spot ≠ none ∧ n = 0 ∧ c = 0 := by
  obtain ⟨b, o, s⟩ := a
  cases s with
  | none => simp [AV.simple] at h
  | some s =>
    cases n with
    | succ n => simp [AV.simple] at h
    | zero =>
      cases c with
      | succ c => simp [AV.simple] at h
      | zero => exact ⟨by simp, rfl, rfl⟩

theorem VR.simple {ρ : Ren} {v : Value} (h : AV.simple v = true) : VR ρ v v := .sc v h

theorem VR.cells {ρ : Ren} {v v' : Value} (h : VR ρ v v') : VRs ρ (vcells v) v'.cells.toList := by
  cases h with
  | agg a a' h => exact h
  | sc v h => cases v <;> first | (simp [AV.simple] at h; done) | exact .one (.sc _ h)
  | _ => exact .one (by constructor <;> assumption)

theorem VR.isCell {ρ : Ren} {v v' : Value} (h : VR ρ v v') : v'.oneCell' = AV.isCell v := by
  cases h with
  | sc v h => cases v <;> rfl
  | _ => rfl

theorem VRs.allCells {ρ : Ren} : ∀ {l l' : List Value}, VRs ρ l l' → AV.allCells l = true → ∀ v ∈ l', v.oneCell' = true
  | _, _, .nil, _, v, hv => by simp at hv
  | _, _, .cons v v' l l' h k, hp, u, hu => by
    simp only [AV.allCells] at hp
    cases hv : AV.isCell v with
    | false => simp [hv] at hp
    | true =>
      rw [hv] at hp
      rcases List.mem_cons.1 hu with rfl | hu
      · rw [h.isCell, hv]
      · exact VRs.allCells k hp u hu

/-! ### Objects and heaps -/

def ER (ρ : Ren) (e e' : MapEntry) : Prop := VR ρ e.key e'.key ∧ VR ρ e.val e'.val ∧ e'.born = e.born

inductive ERs (ρ : Ren) : List MapEntry → List MapEntry → Prop where
  | nil : ERs ρ [] []
  | cons (e e' : MapEntry) (l l' : List MapEntry) (h : ER ρ e e') (k : ERs ρ l l') : ERs ρ (e :: l) (e' :: l')

theorem ERs.mono {ρ ρ' : Ren} (hl : ρ.le ρ') : ∀ {l l' : List MapEntry}, ERs ρ l l' → ERs ρ' l l'
  | _, _, .nil => .nil
  | _, _, .cons e e' l l' h k => .cons e e' l l' ⟨h.1.mono hl, h.2.1.mono hl, h.2.2⟩ (k.mono hl)

/-- The temporaries of a frame. -/
def VJ (ρ : Ren) (v v' : Value) : Prop := v = junk ∨ VR ρ v v'
theorem VJ.mono {ρ ρ' : Ren} (hl : ρ.le ρ') {v v' : Value} (h : VJ ρ v v') : VJ ρ' v v' := h.imp id (VR.mono hl)
theorem VJ.vr {ρ : Ren} {v v' : Value} (h : VJ ρ v v') (hv : v ≠ junk) : VR ρ v v' := h.resolve_left hv
theorem noJunk_some {v u : Value} (h : noJunk v = some u) : u = v ∧ v ≠ junk := by
  unfold noJunk at h
  split at h
  · cases h
  · rename_i hne
    cases h
    exact ⟨rfl, fun e => hne none e⟩

def TR (ρ : Ren) (tm : Tm) (n : Nat) (tmps : Array Value) : Prop := tmps.size = n ∧ ∀ t, VJ ρ (rd tm t) (tmps.getD t undef)

theorem TR.mono {ρ ρ' : Ren} (hl : ρ.le ρ') {tm : Tm} {n : Nat} {tmps : Array Value} (h : TR ρ tm n tmps) : TR ρ' tm n tmps := ⟨h.1, fun t => (h.2 t).mono hl⟩

structure BlkR (ρ : Ren) (L : Loc) (k : Blk) (c : Array Value) (elem : TypeId) (fr : Nat × Nat) : Prop where
  elem : elem = k.elem
  len : k.cells.length ≤ k.cap
  room : k.own = true → L.δ + k.cap + L.ψ * k.esz ≤ c.size
  cell : ∀ i v, k.cells[i]? = some v → ∃ v', c[L.δ + i]? = some v' ∧ VR ρ v v'
  exact : k.exact = true → L.ψ = 0
  whole : k.whole = true → L.δ = 0 ∧ c.size = k.cap
  frz0 : k.frz = 0 → fr = (0, 0)
  frz1 : k.frz = 1 → fr.2 ≤ fr.1 ∨ c.size ≤ fr.1

def OR (ρ : Ren) (L : Loc) : AObj → Obj → Prop
  | .blk k, .cells c e fr => BlkR ρ L k c e fr
  | .map es ck, .map es' ck' => ERs ρ es es'.toList ∧ ck' = ck
  | .siter s p, .stringIter s' p' => s' = s ∧ p' = p ∧ L.δ = 0
  | .miter m since seen last, .mapIter m' since' seen' last' => (match m with | none => m' = none | some b => ∃ L, ρ b = some L ∧ m' = some L.φ) ∧ since' = since ∧ seen'.toList = seen.reverse ∧ last' = last ∧ L.δ = 0
  | .loop l, .loop l' => l'.state = l.st ∧ l'.pending = l.pending ∧ TR ρ l.tm l.n l'.tmps ∧ l'.params.toList = l.params ∧ l'.assign = l.assign ∧ l'.body = l.body ∧ ∃ L, ρ l.defers = some L ∧ l'.defers = L.φ
  | .dfr b, .deferred ds => ds = if b then some [] else none
  | _, _ => False

theorem BlkR.mono {ρ ρ' : Ren} (hl : ρ.le ρ') {L : Loc} {k : Blk} {c : Array Value} {e : TypeId} {fr : Nat × Nat} (h : BlkR ρ L k c e fr) : BlkR ρ' L k c e fr :=
  { h with cell := fun i v hi => let ⟨v', a, b⟩ := h.cell i v hi; ⟨v', a, b.mono hl⟩ }

theorem OR.mono {ρ ρ' : Ren} (hl : ρ.le ρ') {L : Loc} {o : AObj} {x : Obj} (h : OR ρ L o x) : OR ρ' L o x := by
  cases o <;> cases x <;> simp only [OR] at h ⊢ <;> first | exact h.elim | skip
  · exact BlkR.mono hl h
  · exact ⟨h.1.mono hl, h.2⟩
  · exact h
  · refine ⟨?_, h.2⟩
    have h1 := h.1
    split at h1
    · exact h1
    · obtain ⟨L, a, b⟩ := h1; exact ⟨L, hl _ _ a, b⟩
  · obtain ⟨a, b, c, d, e, f, L, g, i⟩ := h; exact ⟨a, b, c.mono hl, d, e, f, L, hl _ _ g, i⟩
  · exact h

def AObj.owned : AObj → Bool
  | .blk k => k.own
  | _ => true

abbrev HF := Nat → Option AObj

structure HRel (ρ : Ren) (H : HF) (w : World) : Prop where
  obj : ∀ b o, H b = some o → ∃ L x, ρ b = some L ∧ w.heap[L.φ]? = some x ∧ OR ρ L o x
  inj : ∀ i j oi oj Li Lj, H i = some oi → H j = some oj → i ≠ j → oj.owned = true → ρ i = some Li → ρ j = some Lj → Li.φ ≠ Lj.φ

theorem HRel.sub {ρ : Ren} {H H' : HF} {w : World} (h : HRel ρ H w) (hs : ∀ b o, H' b = some o → H b = some o) : HRel ρ H' w :=
  ⟨fun b o hb => h.obj b o (hs b o hb), fun i j oi oj Li Lj hi hj => h.inj i j oi oj Li Lj (hs _ _ hi) (hs _ _ hj)⟩

/-- From one world to a later one: what the heap of the start owns may have turned, and nothing else. -/
structure Step (ρ : Ren) (H : HF) (w : World) (ρ' : Ren) (H' : HF) (w' : World) (lo hi : Nat) : Prop where
  os : w'.os = w.os
  tape : w'.tape = w.tape
  output : w'.output = w.output
  size : w.heap.size ≤ w'.heap.size
  same : ∀ r, r < w.heap.size → (∀ b o L, H b = some o → o.owned = true → ρ b = some L → L.φ ≠ r) → w'.heap[r]? = w.heap[r]?
  own : ∀ b o L, H' b = some o → o.owned = true → ρ' b = some L → (∃ i oi Li, H i = some oi ∧ oi.owned = true ∧ ρ i = some Li ∧ Li.φ = L.φ) ∨ w.heap.size ≤ L.φ
  any : ∀ b o L, H' b = some o → ρ' b = some L → (∃ i oi Li, H i = some oi ∧ ρ i = some Li ∧ Li.φ = L.φ) ∨ w.heap.size ≤ L.φ
  ext : ρ.le ρ'
  rng : ∀ b, b < lo ∨ hi ≤ b → ρ' b = ρ b

theorem Step.refl (ρ : Ren) (H : HF) (w : World) (lo hi : Nat) : Step ρ H w ρ H w lo hi :=
  ⟨rfl, rfl, rfl, Nat.le_refl _, fun _ _ _ => rfl, fun b o L h ho hL => .inl ⟨b, o, L, h, ho, hL, rfl⟩, fun b o L h hL => .inl ⟨b, o, L, h, hL, rfl⟩, Ren.le.refl _, fun _ _ => rfl⟩

theorem Step.trans {ρ ρ1 ρ2 : Ren} {H H1 H2 : HF} {w w1 w2 : World} {a b c : Nat} (h : Step ρ H w ρ1 H1 w1 a b) (k : Step ρ1 H1 w1 ρ2 H2 w2 b c) (hab : a ≤ b) (hbc : b ≤ c) : Step ρ H w ρ2 H2 w2 a c := by
  refine ⟨k.os.trans h.os, k.tape.trans h.tape, k.output.trans h.output, Nat.le_trans h.size k.size, ?_, ?_, ?_, h.ext.trans k.ext, ?_⟩
  · intro r hr hno
    rw [k.same r (Nat.lt_of_lt_of_le hr h.size) ?_, h.same r hr hno]
    intro i o L hi ho hL he
    rcases h.own i o L hi ho hL with ⟨j, oj, Lj, hj, hoj, hLj, hej⟩ | hge
    · exact hno j oj Lj hj hoj hLj (hej.trans he)
    · omega
  · intro i o L hi ho hL
    rcases k.own i o L hi ho hL with ⟨j, oj, Lj, hj, hoj, hLj, hej⟩ | hge
    · rcases h.own j oj Lj hj hoj hLj with ⟨m, om, Lm, hm, hom, hLm, hem⟩ | hge
      · exact .inl ⟨m, om, Lm, hm, hom, hLm, hem.trans hej⟩
      · exact .inr (hej ▸ hge)
    · exact .inr (Nat.le_trans h.size hge)
  · intro i o L hi hL
    rcases k.any i o L hi hL with ⟨j, oj, Lj, hj, hLj, hej⟩ | hge
    · rcases h.any j oj Lj hj hLj with ⟨m, om, Lm, hm, hLm, hem⟩ | hge
      · exact .inl ⟨m, om, Lm, hm, hLm, hem.trans hej⟩
      · exact .inr (hej ▸ hge)
    · exact .inr (Nat.le_trans h.size hge)
  · intro i hi
    rw [k.rng i (by omega), h.rng i (by omega)]

end Go.AV

namespace Go.AV

structure WUpd (w w' : World) (r : Nat) (x : Obj) : Prop where
  os : w'.os = w.os
  tape : w'.tape = w.tape
  output : w'.output = w.output
  size : w'.heap.size = w.heap.size
  other : ∀ k, k ≠ r → w'.heap[k]? = w.heap[k]?
  at_ : w'.heap[r]? = some x

theorem WUpd.trans {a b c : World} {r : Nat} {x y : Obj} (h : WUpd a b r x) (k : WUpd b c r y) : WUpd a c r y :=
  ⟨k.os.trans h.os, k.tape.trans h.tape, k.output.trans h.output, k.size.trans h.size, fun i hi => (k.other i hi).trans (h.other i hi), k.at_⟩

theorem WUpd.setCell {w : World} {b p : Nat} {c : Array Value} {e : TypeId} {fr : Nat × Nat} (v : Value) (h : w.heap[b]? = some (.cells c e fr)) :
    WUpd w (w.setCell ⟨b, p, none⟩ v) b (.cells (c.setIfInBounds p v) e fr) := by
  refine ⟨rfl, rfl, rfl, by simp, fun k hk => ?_, ?_⟩
  · simp only [World.setCell, Array.getElem?_modify]
    rw [if_neg (by omega)]
  · simp [World.setCell, Array.getElem?_modify, h]

theorem addr_add (b o n : Nat) : (⟨b, o, none⟩ : Addr).add n = ⟨b, o + n, none⟩ := by unfold Addr.add; split <;> simp_all

theorem stores (P : Program) (b : Nat) (e : TypeId) (fr : Nat × Nat) : ∀ (vs : List Value) (o i : Nat) (c : Array Value) (w : World), w.heap[b]? = some (.cells c e fr) →
    o + i + vs.length ≤ c.size → (∀ p, o + i ≤ p → p < o + i + vs.length → ¬(fr.1 ≤ p ∧ p < fr.2)) → (∀ v ∈ vs, v.oneCell' = true) →
    ∃ w' c', (storeCells ⟨b, o, none⟩ vs i).run P w = .ok () w' ∧ WUpd w w' b (.cells c' e fr) ∧ c'.size = c.size ∧
      ∀ p, c'[p]? = if o + i ≤ p ∧ p < o + i + vs.length then vs[p - (o + i)]? else c[p]?
  | [], o, i, c, w, h, _, _, _ => ⟨w, c, rfl, ⟨rfl, rfl, rfl, rfl, fun _ _ => rfl, h⟩, rfl, fun p => by rw [if_neg (by simp)]⟩
  | v :: vs, o, i, c, w, h, hl, hf, h1 => by
    have hi : o + i < c.size := by simp at hl; omega
    have hcell : w.cell? ⟨b, o + i, none⟩ = some c[o + i] := by simp [World.cell?, h, hi]
    have hfro : w.frozen? ⟨b, o + i, none⟩ = false := by
      have := hf (o + i) (Nat.le_refl _) (by simp)
      simp only [World.frozen?, h]
      simp only [Bool.and_eq_false_imp, decide_eq_true_eq, decide_eq_false_iff_not]
      intro h1 h2; exact this ⟨h1, h2⟩
    have hst : (store ((⟨b, o, none⟩ : Addr).add i) v).run P w = .ok () (w.setCell ⟨b, o + i, none⟩ v) := by
      rw [addr_add, run_store P w _ v _ (h1 v (by simp)), hcell]
      simp [hfro]
    have hu := WUpd.setCell (p := o + i) v h
    obtain ⟨w', c', hr, hu', hs, hc⟩ := stores P b e fr vs o (i + 1) (c.setIfInBounds (o + i) v) _ hu.at_ (by simp at hl ⊢; omega)
      (fun p h1 h2 => hf p (by omega) (by simp; omega)) (fun x hx => h1 x (by simp [hx]))
    refine ⟨w', c', ?_, hu.trans hu', by simpa using hs, fun p => ?_⟩
    · simp only [storeCells, Sem.run_bind, hst, Result.andThen_ok, hr]
    · rw [hc p]
      by_cases hp : p = o + i
      · subst hp
        rw [if_neg (by omega), if_pos (by simp)]
        simp [hi]
      · by_cases hq : o + (i + 1) ≤ p ∧ p < o + (i + 1) + vs.length
        · rw [if_pos hq, if_pos (by simp; omega)]
          rw [show p - (o + i) = (p - (o + (i + 1))) + 1 by omega]
          simp
        · rw [if_neg hq, if_neg (by simp; omega)]
          rw [Array.getElem?_setIfInBounds_ne (by omega)]

/-! ### lists -/
theorem takeN_spec {α : Type} : ∀ {n : Nat} {l r : List α}, takeN n l = some r → r.length = n ∧ ∀ j, j < n → r[j]? = l[j]?
  | 0, l, r, h => by simp [takeN] at h; subst h; simp
  | n + 1, [], r, h => by simp [takeN] at h
  | n + 1, a :: l, r, h => by
    simp only [takeN] at h
    split at h
    · rename_i r' hr
      cases h
      obtain ⟨h1, h2⟩ := takeN_spec hr
      refine ⟨by simp [h1], fun j hj => ?_⟩
      cases j with
      | zero => rfl
      | succ j => simpa using h2 j (by omega)
    · cases h

theorem dropN_spec {α : Type} : ∀ (n : Nat) (l : List α), dropN n l = l.drop n
  | 0, l => rfl
  | n + 1, [] => rfl
  | n + 1, a :: l => by simp [dropN, dropN_spec n l]

theorem nth_spec {α : Type} : ∀ (l : List α) (n : Nat), nth l n = l[n]?
  | [], n => by simp [nth]
  | a :: l, 0 => rfl
  | a :: l, n + 1 => by simp [nth, nth_spec l n]

theorem overwrite_spec : ∀ {cs vs r : List Value} {n : Nat}, overwrite cs n vs = some r →
    n ≤ cs.length ∧ r.length = max cs.length (n + vs.length) ∧ ∀ p, r[p]? = if n ≤ p ∧ p < n + vs.length then vs[p - n]? else cs[p]?
  | [], vs, r, 0, h => by
    have : r = vs := by cases vs <;> (simp [overwrite] at h; first | exact h | exact h.symm)
    subst this
    refine ⟨Nat.zero_le _, by simp, fun p => ?_⟩
    by_cases hp : 0 ≤ p ∧ p < 0 + r.length
    · rw [if_pos hp]; rfl
    · rw [if_neg hp]; simp; omega
  | [], vs, r, n + 1, h => by cases vs <;> simp [overwrite] at h
  | c :: cs, [], r, 0, h => by
    simp [overwrite] at h; subst h
    refine ⟨Nat.zero_le _, by simp, fun p => by rw [if_neg (by simp)]⟩
  | c :: cs, v :: vs, r, 0, h => by
    simp only [overwrite] at h
    split at h
    · rename_i r' hr
      cases h
      obtain ⟨h1, h2, h3⟩ := overwrite_spec hr
      refine ⟨by simp, by simp [h2], fun p => ?_⟩
      cases p with
      | zero => simp
      | succ p => simpa using h3 p
    · cases h
  | c :: cs, vs, r, n + 1, h => by
    have h' : ∃ r', overwrite cs n vs = some r' ∧ c :: r' = r := by
      cases vs <;> (simp only [overwrite] at h; split at h <;> first | (rename_i r' hr; cases h; exact ⟨r', hr, rfl⟩) | cases h)
    · obtain ⟨r', hr, rfl⟩ := h'
      obtain ⟨h1, h2, h3⟩ := overwrite_spec hr
      refine ⟨by simp; omega, by simp [h2]; omega, fun p => ?_⟩
      cases p with
      | zero => simp
      | succ p =>
        simp only [List.getElem?_cons_succ, h3 p]
        by_cases hq : n ≤ p ∧ p < n + vs.length
        · rw [if_pos hq, if_pos (by omega), show p + 1 - (n + 1) = p - n by omega]
        · rw [if_neg hq, if_neg (by omega)]

/-! ### reading -/
section
variable {P : Program} {ρ : Ren} {w : World}

/-- a list of known cells, as they lie -/
theorem BlkR.cellsAt {L : Loc} {k : Blk} {c : Array Value} {e : TypeId} {fr : Nat × Nat} (h : BlkR ρ L k c e fr) (hw : w.heap[L.φ]? = some (.cells c e fr)) {n off : Nat} {cs : List Value}
    (ht : takeN n (dropN off k.cells) = some cs) : ∃ cs', cs'.length = n ∧ VRs ρ cs cs' ∧ ∀ j v, cs'[j]? = some v → w.cell? ⟨L.φ, L.δ + off + j, none⟩ = some v := by
  obtain ⟨h1, h2⟩ := takeN_spec ht
  rw [dropN_spec] at h2
  have hsz : min n (c.size - (L.δ + off)) = n := by
    cases n with
    | zero => simp
    | succ n =>
      have h3 := h2 n (by omega)
      have h4 : cs[n]? ≠ none := by simp; omega
      rw [h3, List.getElem?_drop] at h4
      obtain ⟨v, hv⟩ := Option.ne_none_iff_exists'.1 h4
      obtain ⟨v', hv', _⟩ := h.cell _ _ hv
      have := (Array.getElem?_eq_some_iff.1 hv').1
      omega
  refine ⟨(c.toList.drop (L.δ + off)).take n, ?_, ?_, ?_⟩
  · simp only [List.length_take, List.length_drop, Array.length_toList]
    exact hsz
  · refine VRs.of_get ?_ fun i v hi => ?_
    · simp only [List.length_take, List.length_drop, Array.length_toList, h1]
      exact hsz
    · have hin : i < n := by
        have : i < cs.length := by
          rcases Nat.lt_or_ge i cs.length with h' | h'
          · exact h'
          · simp [List.getElem?_eq_none h'] at hi
        omega
      rw [h2 i hin, List.getElem?_drop] at hi
      obtain ⟨v', hv', hR⟩ := h.cell _ _ hi
      refine ⟨v', ?_, hR⟩
      rw [List.getElem?_take_of_lt hin, List.getElem?_drop, Array.getElem?_toList, Nat.add_assoc]
      exact hv'
  · intro j v hj
    have hjn : j < n := by
      rcases Nat.lt_or_ge j n with h' | h'
      · exact h'
      · rw [List.getElem?_take_eq_none h'] at hj; cases hj
    rw [List.getElem?_take_of_lt hjn, List.getElem?_drop, Array.getElem?_toList] at hj
    simpa [World.cell?, hw] using hj

theorem run_underlying' {t : TypeId} {d : TypeDesc} (h : P.underlying t = some d) : (underlying t).run P w = .ok d w := by
  simp [underlying, h]

theorem run_typeInfo' {t : TypeId} {i : TypeInfo} (h : P.info? t = some i) : (typeInfo t).run P w = .ok i w := by
  simp [typeInfo, h]

theorem run_sizeOf' {t : TypeId} {i : TypeInfo} (h : P.info? t = some i) : (sizeOf t).run P w = .ok i.size w := by
  simp [sizeOf, run_typeInfo' h]

theorem run_isAgg' {t : TypeId} {d : TypeDesc} (h : P.underlying t = some d) : (isAgg t).run P w = .ok (isAggD d) w := by
  simp only [isAgg, Sem.run_bind, run_underlying' h, Result.andThen_ok]
  cases d <;> rfl

theorem run_zeroValue' {t : TypeId} {i : TypeInfo} {z : Value} (h : P.info? t = some i) (hz : i.zero = some z) : (zeroValue t).run P w = .ok z w := by
  simp [zeroValue, run_typeInfo' h, hz]

theorem readVar_sound {h : Hs} {t : TypeId} {b off : Nat} {v : Value} (hh : HRel ρ h.heap.get w) (hr : readVar P h t b off = some v) :
    ∃ L v', ρ b = some L ∧ (loadVar t ⟨L.φ, L.δ + off, none⟩).run P w = .ok v' w ∧ VR ρ v v' := by
  unfold readVar at hr
  split at hr
  · rename_i k hk
    obtain ⟨L, x, hL, hx, hR⟩ := hh.obj _ _ hk
    cases x <;> simp only [OR] at hR <;> first | exact hR.elim | skip
    rename_i c e fr
    split at hr
    · rename_i d hd
      split at hr
      · rename_i hag
        split at hr
        · rename_i i hi
          split at hr
          · rename_i cs hcs
            cases hr
            obtain ⟨cs', h1, h2, h3⟩ := hR.cellsAt hx hcs
            refine ⟨L, .agg ⟨cs'⟩, hL, ?_, .agg _ _ h2⟩
            have hl := run_loadCells_list (P := P) w ⟨L.φ, L.δ + off, none⟩ cs' (fun j v hj => by rw [addr_add]; exact h3 j v hj)
            simp only [loadVar, Sem.run_bind, run_isAgg' hd, Result.andThen_ok, hag, if_true, run_sizeOf' hi]
            rw [h1] at hl
            simp [hl]
          · cases hr
        · cases hr
      · rename_i hag
        rw [nth_spec] at hr
        obtain ⟨v', hv', hvR⟩ := hR.cell _ _ hr
        refine ⟨L, v', hL, ?_, hvR⟩
        have hc : w.cell? ⟨L.φ, L.δ + off, none⟩ = some v' := by simpa [World.cell?, hx] using hv'
        simp only [loadVar, Sem.run_bind, run_isAgg' hd, Result.andThen_ok, hag, Bool.false_eq_true, if_false, run_load, hc]
    · cases hr
  · cases hr

/-! ### writing -/

theorem HRel.upd {H H' : HF} {b : Nat} {o o' : AObj} {L : Loc} {x : Obj} {w' : World} (hh : HRel ρ H w) (hb : H b = some o) (ho : o.owned = true) (hL : ρ b = some L)
    (hw : WUpd w w' L.φ x) (hR : OR ρ L o' x) (hH : ∀ i, H' i = if i = b then some o' else H i) : HRel ρ H' w' := by
  refine ⟨fun i oi hi => ?_, fun i j oi oj Li Lj hi hj hij hoj hLi hLj => ?_⟩
  · rw [hH] at hi
    split at hi
    · rename_i he; subst he; cases hi; exact ⟨L, x, hL, hw.at_, hR⟩
    · rename_i he
      obtain ⟨Li, xi, hLi, hxi, hRi⟩ := hh.obj _ _ hi
      exact ⟨Li, xi, hLi, by rw [hw.other _ (hh.inj i b oi o Li L hi hb he ho hLi hL)]; exact hxi, hRi⟩
  · have hi' : ∃ oi', H i = some oi' := by
      rw [hH] at hi; split at hi
      · rename_i he; subst he; exact ⟨_, hb⟩
      · exact ⟨_, hi⟩
    have hj' : ∃ oj', H j = some oj' ∧ oj'.owned = true := by
      rw [hH] at hj; split at hj
      · rename_i he; subst he; exact ⟨_, hb, ho⟩
      · exact ⟨_, hj, hoj⟩
    obtain ⟨oi', hi'⟩ := hi'
    obtain ⟨oj', hj', hoj'⟩ := hj'
    exact hh.inj i j oi' oj' Li Lj hi' hj' hij hoj' hLi hLj

theorem Step.upd {H H' : HF} {b : Nat} {o o' : AObj} {L : Loc} {x : Obj} {w' : World} (hb : H b = some o) (ho : o.owned = true) (hL : ρ b = some L)
    (hw : WUpd w w' L.φ x) (hH : ∀ i, H' i = if i = b then some o' else H i) (lo hi : Nat) : Step ρ H w ρ H' w' lo hi := by
  refine ⟨hw.os, hw.tape, hw.output, by rw [hw.size]; exact Nat.le_refl _, fun r _ hno => hw.other r fun he => hno b o L hb ho hL he.symm, ?_, ?_, Ren.le.refl _, fun _ _ => rfl⟩
  · intro i oi Li hi ho' hLi
    rw [hH] at hi
    split at hi
    · rename_i he; subst he; exact .inl ⟨_, o, Li, hb, ho, hLi, rfl⟩
    · exact .inl ⟨i, oi, Li, hi, ho', hLi, rfl⟩
  · intro i oi Li hi hLi
    rw [hH] at hi
    split at hi
    · rename_i he; subst he; exact .inl ⟨_, o, Li, hb, hLi, rfl⟩
    · exact .inl ⟨i, oi, Li, hi, hLi, rfl⟩

theorem writeAt_sound {h h' : Hs} {b off : Nat} {vs vs' : List Value} (hh : HRel ρ h.heap.get w) (hw : writeAt h b off vs = some h') (hv : VRs ρ vs vs') :
    ∃ L w', ρ b = some L ∧ (storeCells ⟨L.φ, L.δ + off, none⟩ vs').run P w = .ok () w' ∧ HRel ρ h'.heap.get w' ∧ ∀ lo hi, Step ρ h.heap.get w ρ h'.heap.get w' lo hi := by
  unfold writeAt at hw
  split at hw
  · rename_i k hk
    have key : k.own = true → (k.frz = 0 ∨ k.frz = 1) → ∀ cs, allCells vs = true → overwrite k.cells off vs = some cs → cs.length ≤ k.cap →
        ∃ L w', ρ b = some L ∧ (storeCells ⟨L.φ, L.δ + off, none⟩ vs').run P w = .ok () w' ∧ HRel ρ ((h.heap.set b (.blk { k with cells := cs })).get) w' ∧
          ∀ lo hi, Step ρ h.heap.get w ρ ((h.heap.set b (.blk { k with cells := cs })).get) w' lo hi := by
      intro hown hfrz cs hac how hcap
      obtain ⟨L, x, hL, hx, hR⟩ := hh.obj _ _ hk
      cases x <;> simp only [OR] at hR <;> first | exact hR.elim | skip
      rename_i c e fr
      obtain ⟨ho1, ho2, ho3⟩ := overwrite_spec how
      have hlen : vs'.length = vs.length := hv.length
      have hroom := hR.room hown
      obtain ⟨w', c', hr, hu, hs, hc⟩ := stores P L.φ e fr vs' (L.δ + off) 0 c w hx (by omega)
        (fun p h1 h2 => by
          rcases hfrz with hf | hf
          · have := hR.frz0 hf; subst this; simp
          · rcases hR.frz1 hf with h3 | h3 <;> omega) (hv.allCells hac)
      have hR' : OR ρ L (.blk { k with cells := cs }) (.cells c' e fr) := by
        refine ⟨hR.elem, hcap, fun _ => by show L.δ + k.cap + L.ψ * k.esz ≤ c'.size; omega, fun i v hi => ?_, hR.exact, fun hwh => ?_, hR.frz0, fun hf => ?_⟩
        · rw [hc]
          have hi' : cs[i]? = some v := hi
          rw [ho3] at hi'
          by_cases hq : off ≤ i ∧ i < off + vs.length
          · rw [if_pos hq] at hi'
            rw [if_pos (by omega)]
            obtain ⟨v', hv', hvR⟩ := hv.get hi'
            exact ⟨v', by rw [show L.δ + i - (L.δ + off + 0) = i - off by omega]; exact hv', hvR⟩
          · rw [if_neg hq] at hi'
            rw [if_neg (by omega)]
            exact hR.cell i v hi'
        · obtain ⟨h1, h2⟩ := hR.whole hwh; exact ⟨h1, by rw [hs]; exact h2⟩
        · rw [hs]; exact hR.frz1 hf
      exact ⟨L, w', hL, hr, hh.upd hk hown hL hu hR' (fun i => T.get_set _ _ _ _), fun lo hi => Step.upd hk hown hL hu (fun i => T.get_set _ _ _ _) lo hi⟩
    have fin : k.own = true → (k.frz = 0 ∨ k.frz = 1) → (match allCells vs, overwrite k.cells off vs with
      | true, some cs => match Nat.ble cs.length k.cap with
        | true => some { h with heap := h.heap.set b (.blk { k with cells := cs }), log := b :: h.log }
        | false => none
      | _, _ => none) = some h' → ∃ L w', ρ b = some L ∧ (storeCells ⟨L.φ, L.δ + off, none⟩ vs').run P w = .ok () w' ∧ HRel ρ h'.heap.get w' ∧ ∀ lo hi, Step ρ h.heap.get w ρ h'.heap.get w' lo hi := by
      intro h1 h2 hm
      split at hm
      · rename_i cs hac how
        split at hm
        · rename_i hle
          cases hm
          exact key h1 h2 cs hac how (Nat.le_of_ble_eq_true hle)
        · cases hm
      · cases hm
    split at hw
    · rename_i ho hf; exact fin ho (.inl hf) hw
    · rename_i ho hf; exact fin ho (.inr hf) hw
    · cases hw
  · cases hw

/-! ### new blocks -/

theorem HRel.world {H : HF} {w' : World} (hh : HRel ρ H w) (he : w'.heap = w.heap) : HRel ρ H w' :=
  ⟨fun b o hb => let ⟨L, x, h1, h2, h3⟩ := hh.obj b o hb; ⟨L, x, h1, by rw [he]; exact h2, h3⟩, hh.inj⟩

theorem Step.world {H : HF} {w' : World} (h1 : w'.heap = w.heap) (h2 : w'.os = w.os) (h3 : w'.tape = w.tape) (h4 : w'.output = w.output) (lo hi : Nat) : Step ρ H w ρ H w' lo hi :=
  ⟨h2, h3, h4, by rw [h1]; exact Nat.le_refl _, fun _ _ _ => by rw [h1], fun b o L h ho hL => .inl ⟨b, o, L, h, ho, hL, rfl⟩, fun b o L h hL => .inl ⟨b, o, L, h, hL, rfl⟩, Ren.le.refl _, fun _ _ => rfl⟩

def Ren.set (ρ : Ren) (b : Nat) (L : Loc) : Ren := fun i => if i = b then some L else ρ i

theorem Ren.set_same (ρ : Ren) (b : Nat) (L : Loc) : (ρ.set b L) b = some L := by simp [Ren.set]
theorem Ren.set_le {b : Nat} (L : Loc) (h : ρ b = none) : ρ.le (ρ.set b L) := fun i M hi => by
  unfold Ren.set; rw [if_neg (fun he => by subst he; rw [h] at hi; cases hi)]; exact hi
theorem Ren.set_other {b i : Nat} (L : Loc) (h : i ≠ b) : (ρ.set b L) i = ρ i := by simp [Ren.set, h]

/-- one more object, in a new block -/
theorem HRel.new {H H' : HF} {b : Nat} {o : AObj} {x : Obj} {δ ψ : Nat} (hh : HRel ρ H w) (hb : ρ b = none)
    (hR : OR (ρ.set b ⟨w.heap.size, δ, ψ⟩) ⟨w.heap.size, δ, ψ⟩ o x) (hH : ∀ i, H' i = if i = b then some o else H i) :
    HRel (ρ.set b ⟨w.heap.size, δ, ψ⟩) H' (w.alloc x) ∧ Step ρ H w (ρ.set b ⟨w.heap.size, δ, ψ⟩) H' (w.alloc x) b (b + 1) := by
  have hle := Ren.set_le (ρ := ρ) ⟨w.heap.size, δ, ψ⟩ hb
  have hlt : ∀ i oi Li, H i = some oi → ρ i = some Li → Li.φ < w.heap.size := by
    intro i oi Li hi hLi
    obtain ⟨L, y, hL, hy, _⟩ := hh.obj _ _ hi
    rw [hLi] at hL; cases hL
    exact (Array.getElem?_eq_some_iff.1 hy).1
  have hold : ∀ k, k < w.heap.size → (w.alloc x).heap[k]? = w.heap[k]? := fun k hk => by
    show (w.heap.push x)[k]? = _
    rw [Array.getElem?_push, if_neg (by omega)]
  have hnb : ∀ i oi, H i = some oi → i ≠ b := fun i oi hi he => by
    obtain ⟨L, y, hL, _, _⟩ := hh.obj _ _ hi
    subst he; rw [hb] at hL; cases hL
  refine ⟨⟨fun i oi hi => ?_, fun i j oi oj Li Lj hi hj hij hoj hLi hLj => ?_⟩, ⟨rfl, rfl, rfl, by simp, fun r hr _ => hold r hr, ?_, ?_, hle, ?_⟩⟩
  · rw [hH] at hi
    split at hi
    · rename_i he; subst he; cases hi
      exact ⟨_, x, Ren.set_same _ _ _, by show (w.heap.push x)[w.heap.size]? = some x; simp, hR⟩
    · obtain ⟨L, y, hL, hy, hRy⟩ := hh.obj _ _ hi
      exact ⟨L, y, hle _ _ hL, by rw [hold _ (hlt i oi L hi hL)]; exact hy, hRy.mono hle⟩
  · rw [hH] at hi hj
    split at hi
    · rename_i he; subst he; cases hi
      rw [Ren.set_same] at hLi; cases hLi
      rw [if_neg (fun h => hij h.symm)] at hj
      rw [Ren.set_other _ (fun h => hij h.symm)] at hLj
      have := hlt j oj Lj hj hLj
      show w.heap.size ≠ Lj.φ
      omega
    · rename_i hne
      rw [Ren.set_other _ hne] at hLi
      split at hj
      · rename_i he; subst he; cases hj
        rw [Ren.set_same] at hLj; cases hLj
        have := hlt i oi Li hi hLi
        show Li.φ ≠ w.heap.size
        omega
      · rename_i hne2
        rw [Ren.set_other _ hne2] at hLj
        exact hh.inj i j oi oj Li Lj hi hj hij hoj hLi hLj
  · intro i oi Li hi ho hLi
    rw [hH] at hi
    split at hi
    · rename_i he; subst he; rw [Ren.set_same] at hLi; cases hLi; exact .inr (Nat.le_refl _)
    · rename_i hne
      rw [Ren.set_other _ hne] at hLi
      exact .inl ⟨i, oi, Li, hi, ho, hLi, rfl⟩
  · intro i oi Li hi hLi
    rw [hH] at hi
    split at hi
    · rename_i he; subst he; rw [Ren.set_same] at hLi; cases hLi; exact .inr (Nat.le_refl _)
    · rename_i hne
      rw [Ren.set_other _ hne] at hLi
      exact .inl ⟨i, oi, Li, hi, hLi, rfl⟩
  · intro i hi
    exact Ren.set_other _ (by omega)

end
end Go.AV
