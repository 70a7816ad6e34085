/-
  An abstract evaluator of the model's code: definitions alone. It runs a function of a program on a heap of its own numbering; blocks are known in part; the room behind a slice that append has grown is not known.
-/
import GoSem.Dispatch
import GoSem.Machine.Return
namespace Go.AV

/-- A binary trie over the natural numbers. -/
inductive T (α : Type) where
  | leaf
  | node (l : T α) (v : Option α) (r : T α)

def T.get {α : Type} : T α → Nat → Option α
  | .leaf, _ => none
  | .node _ v _, 0 => v
  | .node l _ r, n + 1 => match n % 2 with
    | 0 => l.get (n / 2)
    | _ => r.get (n / 2)

def T.put {α : Type} : Nat → T α → Nat → Option α → T α
  | 0, t, _, _ => t
  | _ + 1, .leaf, 0, x => .node .leaf x .leaf
  | _ + 1, .node l _ r, 0, x => .node l x r
  | f + 1, .leaf, n + 1, x => match n % 2 with
    | 0 => .node (T.put f .leaf (n / 2) x) none .leaf
    | _ => .node .leaf none (T.put f .leaf (n / 2) x)
  | f + 1, .node l v r, n + 1, x => match n % 2 with
    | 0 => .node (T.put f l (n / 2) x) v r
    | _ => .node l v (T.put f r (n / 2) x)

def T.set {α : Type} (t : T α) (n : Nat) (x : α) : T α := T.put (n + 1) t n (some x)
def T.del {α : Type} (t : T α) (n : Nat) : T α := T.put (n + 1) t n none

theorem T.get_leaf {α : Type} (m : Nat) : (T.leaf : T α).get m = none := by cases m <;> rfl

def T.lt {α : Type} : T α → T α | .leaf => .leaf | .node l _ _ => l
def T.rt {α : Type} : T α → T α | .leaf => .leaf | .node _ _ r => r
def T.vl {α : Type} : T α → Option α | .leaf => none | .node _ v _ => v

theorem T.get_succ {α : Type} (t : T α) (n : Nat) : t.get (n + 1) = if n % 2 = 0 then t.lt.get (n / 2) else t.rt.get (n / 2) := by
  cases t with
  | leaf => simp [T.lt, T.rt, T.get]
  | node l v r =>
    simp only [T.get, T.lt, T.rt]
    split
    · rename_i h; rw [if_pos h]
    · rename_i h; rw [if_neg h]

theorem T.get_zero {α : Type} (t : T α) : t.get 0 = t.vl := by cases t <;> rfl

theorem T.put_succ {α : Type} (f n : Nat) (t : T α) (x : Option α) : T.put (f + 1) t (n + 1) x =
    if n % 2 = 0 then .node (T.put f t.lt (n / 2) x) t.vl t.rt else .node t.lt t.vl (T.put f t.rt (n / 2) x) := by
  cases t <;> (simp only [T.put, T.lt, T.rt, T.vl]; split <;> (rename_i h; first | rw [if_pos h] | rw [if_neg h]))

theorem T.put_zero {α : Type} (f : Nat) (t : T α) (x : Option α) : T.put (f + 1) t 0 x = .node t.lt x t.rt := by cases t <;> rfl

theorem T.get_put {α : Type} (x : Option α) : ∀ (f n : Nat) (t : T α) (m : Nat), n < f → (T.put f t n x).get m = if m = n then x else t.get m := by
  intro f
  induction f with
  | zero => intro n t m h; omega
  | succ f ih =>
    intro n t m h
    cases n with
    | zero =>
      rw [T.put_zero]
      cases m with
      | zero => simp [T.get]
      | succ m => rw [T.get_succ, T.get_succ]; simp [T.lt, T.rt]
    | succ k =>
      have hk : k / 2 < f := by omega
      rw [T.put_succ]
      cases m with
      | zero => rw [T.get_zero, T.get_zero]; split <;> simp [T.vl]
      | succ m =>
        rw [T.get_succ, T.get_succ]
        by_cases hk2 : k % 2 = 0
        · rw [if_pos hk2]
          by_cases hm2 : m % 2 = 0
          · rw [if_pos hm2, if_pos hm2]
            simp only [T.lt]
            rw [ih _ _ _ hk]
            by_cases he : m = k
            · subst he; simp
            · rw [if_neg (by omega), if_neg (by omega)]
          · rw [if_neg hm2, if_neg hm2, if_neg (by omega)]; rfl
        · rw [if_neg hk2]
          by_cases hm2 : m % 2 = 0
          · rw [if_pos hm2, if_pos hm2, if_neg (by omega)]; rfl
          · rw [if_neg hm2, if_neg hm2]
            simp only [T.rt]
            rw [ih _ _ _ hk]
            by_cases he : m = k
            · subst he; simp
            · rw [if_neg (by omega), if_neg (by omega)]

theorem T.get_set {α : Type} (t : T α) (n m : Nat) (x : α) : (t.set n x).get m = if m = n then some x else t.get m := T.get_put _ _ _ _ _ (Nat.lt_succ_self n)
theorem T.get_del {α : Type} (t : T α) (n m : Nat) : (t.del n).get m = if m = n then none else t.get m := T.get_put _ _ _ _ _ (Nat.lt_succ_self n)
/-- A block of cells, as far as it is known: 'cells' the first of them, 'cap' how many there are at least (with a slice's known room); 'exact': the room is the known one; 'whole': there are no more cells; 'frz': 0 nothing frozen, 1 nothing within frozen, 2 not known; 'own': it may be written. -/
structure Blk where
  cells : List Value
  cap : Nat
  esz : Nat
  elem : TypeId
  exact : Bool
  whole : Bool
  frz : Nat
  own : Bool

inductive ADfr where
  | call (f : FuncId) (args captured : List Value)
  | mark (r : Nat)

abbrev Tm := T Value

structure ALoop where
  st : LoopState
  pending : Option Code
  tm : Tm
  n : Nat
  params : List Tmp
  assign : Code
  body : Code
  defers : Nat

inductive AObj where
  | blk (b : Blk)
  | map (es : List MapEntry) (clock : Nat)
  | siter (s : ByteArray) (pos : Nat)
  | miter (m : Option Nat) (since : Nat) (seen : List Nat) (stepped : Nat)
  | loop (l : ALoop)
  | dfr (opened : Bool)

structure Hs where
  heap : T AObj
  next : Nat
  log : List Nat

def simple : Value → Bool
  | .bool _ | .int _ _ | .string _ | .pointer none | .slice none _ _ | .map none | .nilFunc | .nilIface | .float _ _ => true
  | _ => false

def rd (tm : Tm) (t : Nat) : Value := match tm.get t with | some v => v | none => undef

def ev (tm : Tm) : Operand → Option Value
  | .tmp t => some (rd tm t)
  | .const v => match simple v with | true => some v | false => none
  | .global _ => none
  | .func f => some (.func (.func f) #[] #[])

def evs (tm : Tm) : List Operand → Option (List Value)
  | [] => some []
  | x :: l => match ev tm x with
    | some v => match evs tm l with
      | some vs => some (v :: vs)
      | none => none
    | none => none

def evParts (tm : Tm) : List (Nat × Operand) → Option (List (Nat × Value))
  | [] => some []
  | (i, x) :: l => match ev tm x with
    | some v => match evParts tm l with
      | some vs => some ((i, v) :: vs)
      | none => none
    | none => none

/-- A Sem program that asks nothing of the world but the program. -/
def prun {α : Type} (P : Program) : Sem α → Option α
  | .pure a => some a
  | .program k => prun P (k P)
  | .mark _ k => prun P k
  | _ => none

mutual
def plainV : Value → Bool
  | .bool _ | .int _ _ | .string _ | .float _ _ | .nilFunc | .nilIface | .pointer none | .slice none _ _ | .map none => true
  | .agg ⟨cs⟩ => plainL cs
  | .tuple ⟨cs⟩ => plainL cs
  | _ => false
def plainL : List Value → Bool
  | [] => true
  | v :: l => match plainV v with | true => plainL l | false => false
end

def vcells : Value → List Value
  | .agg cs => cs.toList
  | v => [v]

def isCell : Value → Bool
  | .agg _ | .tuple _ => false
  | _ => true

def allCells : List Value → Bool
  | [] => true
  | v :: l => match isCell v with | true => allCells l | false => false

def takeN {α : Type} : Nat → List α → Option (List α)
  | 0, _ => some []
  | _ + 1, [] => none
  | n + 1, a :: l => match takeN n l with | some r => some (a :: r) | none => none

def dropN {α : Type} : Nat → List α → List α
  | 0, l => l
  | _ + 1, [] => []
  | n + 1, _ :: l => dropN n l

def nth {α : Type} : List α → Nat → Option α
  | [], _ => none
  | a :: _, 0 => some a
  | _ :: l, n + 1 => nth l n

/-- the cells from 'off' on replaced by 'vs': within the known ones, or at their end. -/
def overwrite : List Value → Nat → List Value → Option (List Value)
  | cs, 0, [] => some cs
  | [], 0, vs => some vs
  | _ :: cs, 0, v :: vs => match overwrite cs 0 vs with | some r => some (v :: r) | none => none
  | c :: cs, n + 1, vs => match overwrite cs n vs with | some r => some (c :: r) | none => none
  | [], _ + 1, _ => none

def isAggD : TypeDesc → Bool
  | .struct _ | .array _ _ => true
  | _ => false

/-- What a variable of type t at a place holds. -/
def readVar (P : Program) (h : Hs) (t : TypeId) (b off : Nat) : Option Value :=
  match h.heap.get b with
  | some (.blk k) =>
    match P.underlying t with
    | some d => match isAggD d with
      | true => match P.info? t with
        | some i => match takeN i.size (dropN off k.cells) with
          | some cs => some (.agg ⟨cs⟩)
          | none => none
        | none => none
      | false => nth k.cells off
    | none => none
  | _ => none

def writeAt (h : Hs) (b off : Nat) (vs : List Value) : Option Hs :=
  match h.heap.get b with
  | some (.blk k) =>
    match k.own, k.frz with
    | true, 0 | true, 1 =>
      match allCells vs, overwrite k.cells off vs with
      | true, some cs => match Nat.ble cs.length k.cap with
        | true => some { h with heap := h.heap.set b (.blk { k with cells := cs }), log := b :: h.log }
        | false => none
      | _, _ => none
    | _, _ => none
  | _ => none

def newObjA (h : Hs) (o : AObj) : Hs := { heap := h.heap.set h.next o, next := h.next + 1, log := h.log }

def newBlk (h : Hs) (elem esz : Nat) (cells : List Value) : Hs :=
  newObjA h (.blk { cells, cap := cells.length, esz, elem, exact := true, whole := true, frz := 0, own := true })

def ptrTo (id : Nat) : Value := .pointer (some ⟨id, 0, none⟩)

/-- What an operation comes to. -/
inductive Res where
  | val (v : Value) (h : Hs)
  | skip (h : Hs)
  | call (f : FuncId) (args : List Value)
  | round (l : Nat) (args : List Value)
  | dfr (d : ADfr)

def prunV (P : Program) (s : Sem Value) : Option Value := match prun P s with
  | some v => match plainV v with
    | true => some v
    | false => none
  | none => none

def eqNil (P : Program) (h : Hs) (d : TypeDesc) (x y : Value) : Option Bool := match d, x, y with
  | .pointer _, .pointer none, .pointer b => some b.isNone
  | .pointer _, .pointer (some _), .pointer none => some false
  | .pointer e, .pointer (some a), .pointer (some b) => match P.info? e, a.spot, b.spot with
    | some i, none, none => match i.size with
      | 0 => none
      | _ + 1 =>
        match Nat.beq a.block b.block, h.heap.get a.block, h.heap.get b.block with
        | true, _, _ => some (Nat.beq a.off b.off)
        | false, some (.blk k), some (.blk l) => match l.own, k.frz, l.frz with
          | true, 0, 0 => some false
          | _, _, _ => none
        | _, _, _ => none
    | _, _, _ => none
  | .slice _, .slice none _ _, .slice b _ _ => some b.isNone
  | .slice _, .slice (some _) _ _, .slice none _ _ => some false
  | .map _ _, .map none, .map b => some b.isNone
  | .map _ _, .map (some _), .map none => some false
  | .func _ _ _, .func .., .nilFunc => some false
  | .func _ _ _, .nilFunc, .func .. => some false
  | _, _, _ => none

def abinop (P : Program) (h : Hs) (op : BinOp) (xt : TypeId) (ox oy : Operand) (x y : Value) : Option Value :=
  match plainV x, plainV y with
  | true, true => prunV P (do eqGuard op xt ox oy x y; binOp op xt x y)
  | _, _ => match P.underlying xt with
    | some d => match op with
      | .eql => match eqNil P h d x y with | some b => some (.bool b) | none => none
      | .neq => match eqNil P h d x y with | some b => some (.bool (!b)) | none => none
      | _ => none
    | none => none

def nonNil : List Value → Bool
  | [] => false
  | _ :: _ => true

def boundV (v : Value) (hi : Nat) : Option Nat := match v with
  | .int _ (.ofNat i) => match Nat.ble i hi with | true => some i | false => none
  | _ => none

def boundO (tm : Tm) (o : Option Operand) (dflt hi : Nat) : Option Nat := match o with
  | none => match Nat.ble dflt hi with
    | true => some dflt
    | false => none
  | some o => match ev tm o with
    | some v => boundV v hi
    | none => none

def sliceStr (tm : Tm) (s : ByteArray) (lo hi : Option Operand) : Option Value :=
  match boundO tm hi s.size s.size with
  | some h => match boundO tm lo 0 h with
    | some l => some (.string (s.extract l h))
    | none => none
  | none => none

def sliceSl (h : Hs) (tm : Tm) (size : Nat) (a : Option Addr) (len cap : Nat) (lo hi mx : Option Operand) : Option Res :=
  match a, mx with
  | none, none =>
    match cap, boundO tm hi len cap with
    | 0, some hh => match boundO tm lo 0 hh with
      | some l => some (.val (.slice none (hh - l) (cap - l)) h)
      | none => none
    | _, _ => none
  | some ad, none =>
    match ad.spot, h.heap.get ad.block, boundO tm hi len cap with
    | none, some (.blk k), some hh => match boundO tm lo 0 hh with
      | some l => match Nat.beq cap l with
        | false => some (.val (.slice (some ⟨ad.block, ad.off + l * size, none⟩) (hh - l) (cap - l)) h)
        | true => match k.exact with
          | true => some (.val (.slice (some ad) (hh - l) (cap - l)) h)
          | false => some (.val (.slice (some ⟨h.next, 0, none⟩) 0 0) { h with next := h.next + 1 })
      | none => none
    | _, _, _ => none
  | some ad, some mo =>
    match ad.spot, h.heap.get ad.block, boundO tm (some mo) 0 cap with
    | none, some (.blk k), some m => match boundO tm hi len m, hi with
      | some hh, some _ => match boundO tm lo 0 hh with
        | some l => match Nat.beq hh m, k.own, k.exact with
          | true, true, _ => match takeN ((hh - l) * size) (dropN (ad.off + l * size) k.cells) with
            | some cs =>
              some (.val (.slice (some ⟨h.next, 0, none⟩) (hh - l) (hh - l))
                { heap := (h.heap.del ad.block).set h.next (.blk { k with cells := cs, cap := (hh - l) * size, esz := size, exact := true, whole := false, own := nonNil cs }), next := h.next + 1, log := ad.block :: h.log })
            | none => none
          | _, _, _ => none
        | none => none
      | _, _ => none
    | _, _, _ => none
  | none, some mo =>
    match cap, boundO tm (some mo) 0 cap, hi with
    | 0, some m, some ho => match boundO tm (some ho) 0 m with
      | some hh => match boundO tm lo 0 hh with
        | some l => some (.val (.slice none (hh - l) (m - l)) h)
        | none => none
      | none => none
    | _, _, _ => none

def aslice (P : Program) (tm : Tm) (h : Hs) (xt : TypeId) (x : Value) (lo hi mx : Option Operand) : Option Res :=
  match P.underlying xt, x with
  | some .string, .string s => match mx with
    | none => match sliceStr tm s lo hi with | some v => some (.val v h) | none => none
    | some _ => none
  | some (.slice e), .slice a len cap => match P.info? e with
    | some i => sliceSl h tm i.size a len cap lo hi mx
    | none => none
  | some (.array n e), .pointer (some ad) => match P.info? e, mx, ad.spot, h.heap.get ad.block with
    | some i, none, none, some (.blk k) => match k.exact, boundO tm hi n n with
      | true, some hh => match boundO tm lo 0 hh with
        | some l => match Nat.beq n l with
          | true => some (.val (.slice (some ad) (hh - l) (n - l)) h)
          | false => some (.val (.slice (some ⟨ad.block, ad.off + l * i.size, none⟩) (hh - l) (n - l)) h)
        | none => none
      | _, _ => none
    | _, _, _, _ => none
  | _, _ => none

def bytesV : List UInt8 → List Value
  | [] => []
  | b :: l => .int .u8 b.toNat :: bytesV l

def vBytes : List Value → Option (List UInt8)
  | [] => some []
  | .int .u8 (.ofNat n) :: l => match vBytes l with | some r => some (UInt8.ofNat n :: r) | none => none
  | _ :: _ => none

/-- the first n elements' cells of a slice or string -/
def firstC (h : Hs) (size n : Nat) : Value → Option (List Value)
  | .slice none _ _ => some []
  | .slice (some a) _ _ => match n with
    | 0 => some []
    | _ + 1 => match a.spot, h.heap.get a.block with
      | none, some (.blk k) => takeN (n * size) (dropN a.off k.cells)
      | _, _ => none
  | .string s => match takeN n s.data.toList with
    | some l => some (bytesV l)
    | none => none
  | _ => none

def lenV : Value → Option Nat
  | .slice _ n _ => some n
  | .string s => some s.size
  | _ => none

def big : Nat := 1099511627776

/-- what append needs of an element type, and of the number of elements, that a new row can be laid -/
def roomOk (i : TypeInfo) (n : Nat) : Bool := match i.zero with
  | some z => Nat.beq (vcells z).length i.size && Nat.ble (n * i.bytes) big && Nat.ble n big && Nat.blt 0 i.bytes && Nat.ble i.bytes 1048576
  | none => false

def aappend (P : Program) (h : Hs) (ats : List TypeId) (s x : Value) : Option Res :=
  match ats with
  | [st, xt] =>
    match P.underlying st, P.underlying xt with
    | some (.slice e), some xd => match xd, P.info? e with
      | .int _, _ => none
      | _, some i => match lenV x, s with
        | some n, .slice base len cap =>
          match firstC h i.size n x with
          | some new =>
            match Nat.ble (len + n) cap with
            | true => match base with
              | none => match new with | [] => some (.val (.slice none (len + n) cap) h) | _ => none
              | some a => match a.spot, new with
                | none, [] => some (.val (.slice (some a) (len + n) cap) h)
                | none, _ => match writeAt h a.block (a.off + len * i.size) new with
                  | some h => some (.val (.slice (some a) (len + n) cap) h)
                  | none => none
                | _, _ => none
            | false => match roomOk i (len + n) && Nat.beq new.length (n * i.size) with
              | true => match base with
                | none => match len, cap with
                  | 0, 0 => some (.val (.slice (some ⟨h.next, 0, none⟩) n n)
                      (newObjA h (.blk { cells := new, cap := n * i.size, esz := i.size, elem := e, exact := false, whole := false, frz := 0, own := true })))
                  | _, _ => none
                | some a => match a.spot, h.heap.get a.block with
                  | none, some (.blk k) => match takeN (len * i.size) (dropN a.off k.cells) with
                    | some old => match k.exact with
                      | true => some (.val (.slice (some ⟨h.next, 0, none⟩) (len + n) (len + n))
                          (newObjA h (.blk { cells := old ++ new, cap := (len + n) * i.size, esz := i.size, elem := e, exact := false, whole := false, frz := 0, own := true })))
                      | false => match k.own, k.frz, Nat.beq (a.off + cap * i.size) k.cap, Nat.beq k.esz i.size && Nat.beq k.elem e && allCells new with
                        | true, 0, true, true => some (.val (.slice (some ⟨h.next, 0, none⟩) (len + n) (len + n))
                            { heap := (h.heap.del a.block).set h.next (.blk { cells := old ++ new, cap := (len + n) * i.size, esz := i.size, elem := e, exact := false, whole := false, frz := 0, own := true }), next := h.next + 1, log := a.block :: h.log })
                        | _, _, _, _ => none
                    | none => none
                  | _, _ => none
              | false => none
          | none => none
        | _, _ => none
      | _, _ => none
    | _, _ => none
  | _ => none

def findE (P : Program) (kt : TypeId) (k : Value) : List MapEntry → Nat → Option (Option (Nat × Value))
  | [], _ => some none
  | e :: es, i => match plainV e.key with
    | true => match prun P (Op.equal kt k e.key) with
      | some true => some (some (i, e.val))
      | some false => findE P kt k es (i + 1)
      | none => none
    | false => none

def akey (P : Program) (kt : TypeId) (k : Value) : Bool :=
  match plainV k with
  | true => match prun P (Instr.checkKey false 10000 kt k), prun P (Instr.checkKey true 10000 kt k) with
    | some (), some () => true
    | _, _ => false
  | false => false

def setVal : Nat → Value → List MapEntry → List MapEntry
  | _, _, [] => []
  | 0, x, a :: l => { a with val := x } :: l
  | n + 1, x, a :: l => a :: setVal n x l

def setKV : Nat → Value → Value → List MapEntry → List MapEntry
  | _, _, _, [] => []
  | 0, k, x, a :: l => { a with key := k, val := x } :: l
  | n + 1, k, x, a :: l => a :: setKV n k x l

def setK : Nat → Value → List MapEntry → List MapEntry
  | _, _, [] => []
  | 0, k, a :: l => { a with key := k } :: l
  | n + 1, k, a :: l => a :: setK n k l

def dropAt : Nat → List MapEntry → List MapEntry
  | _, [] => []
  | 0, _ :: l => l
  | n + 1, a :: l => a :: dropAt n l

def rep {α : Type} : Nat → List α → List α
  | 0, _ => []
  | n + 1, l => l ++ rep n l

def abuiltin (P : Program) (h : Hs) (b : Builtin) (ats : List TypeId) (args : List Value) : Option Res :=
  match b, args with
  | .append, [s, x] => aappend P h ats s x
  | .len, [x] => match ats with
    | t :: _ => match P.underlying t, x with
      | some .string, .string s => some (.val (goInt s.size) h)
      | some (.array n _), _ => some (.val (goInt n) h)
      | some (.slice _), .slice _ n _ => some (.val (goInt n) h)
      | some (.map _ _), .map none => some (.val (goInt 0) h)
      | some (.map _ _), .map (some r) => match h.heap.get r with
        | some (.map es _) => some (.val (goInt es.length) h)
        | _ => none
      | _, _ => none
    | [] => none
  | .cap, [x] => match ats with
    | t :: _ => match P.underlying t, x with
      | some (.slice _), .slice none _ n => some (.val (goInt n) h)
      | some (.slice _), .slice (some a) _ n => match h.heap.get a.block with
        | some (.blk k) => match k.exact with | true => some (.val (goInt n) h) | false => none
        | _ => none
      | _, _ => none
    | [] => none
  | .copy, [d, s] => match ats with
    | t :: _ => match P.underlying t with
      | some (.slice e) => match P.info? e, d, lenV s with
        | some i, .slice base dl _, some sl => match firstC h i.size (Nat.min sl dl) s with
          | some cs => match base, cs with
            | none, _ => some (.val (goInt (Nat.min sl dl)) h)
            | some _, [] => some (.val (goInt (Nat.min sl dl)) h)
            | some a, _ => match a.spot, writeAt h a.block a.off cs with
              | none, some h => some (.val (goInt (Nat.min sl dl)) h)
              | _, _ => none
          | none => none
        | _, _, _ => none
      | _ => none
    | [] => none
  | .delete, [m, k] => match ats with
    | t :: _ => match P.underlying t, m with
      | some (.map kt _), .map none => match akey P kt k with | true => some (.val (.tuple #[]) h) | false => none
      | some (.map kt _), .map (some r) => match akey P kt k, h.heap.get r with
        | true, some (.map es c) => match findE P kt k es 0 with
          | some (some (i, _)) => some (.val (.tuple #[]) { h with heap := h.heap.set r (.map (dropAt i es) c), log := r :: h.log })
          | some none => some (.val (.tuple #[]) h)
          | none => none
        | _, _ => none
      | _, _ => none
    | [] => none
  | .clear, [x] => match ats with
    | t :: _ => match P.underlying t, x with
      | some (.slice e), .slice (some a) n _ => match P.info? e, a.spot with
        | some i, none => match i.zero, (i.zero.map plainV).getD false with
          | some z, true => match n with
            | 0 => some (.val (.tuple #[]) h)
            | _ => match writeAt h a.block a.off (rep n (vcells z)) with
              | some h => some (.val (.tuple #[]) h)
              | none => none
          | _, _ => none
        | _, _ => none
      | _, _ => none
    | [] => none
  | .min, l => match plainL l with
    | true => match prunV P (Builtin.min_ #[] 0 ⟨l⟩) with | some v => some (.val v h) | none => none
    | false => none
  | .max, l => match plainL l with
    | true => match prunV P (Builtin.max_ #[] 0 ⟨l⟩) with | some v => some (.val v h) | none => none
    | false => none
  | .unsafeString, [p, n] => match ats with
    | t :: _ => match p, n with
      | .pointer none, .int _ (.ofNat 0) => some (.val (.string .empty) h)
      | .pointer (some a), .int _ (.ofNat n) => match n, a.spot, h.heap.get a.block, P.underlying t with
        | _ + 1, none, some (.blk k), some (.pointer et) => match takeN n (dropN a.off k.cells), P.underlying et, Nat.beq k.elem et, P.info? et with
          | some cs, some (.int .u8), true, some i => match vBytes cs, Nat.beq i.size 1, Nat.ble n big, k.own with
            | some bs, true, true, true => some (.val (.string ⟨⟨bs⟩⟩) { h with heap := h.heap.set a.block (.blk { k with frz := 2 }), log := a.block :: h.log })
            | _, _, _, _ => none
          | _, _, _, _ => none
        | _, _, _, _ => none
      | _, _ => none
    | [] => none
  | .unsafeSliceData, [x] => match x with
    | .slice none _ _ => some (.val (.pointer none) h)
    | .slice (some a) _ (_ + 1) => some (.val (.pointer (some a)) h)
    | _ => none
  | _, _ => none

def aconvert (P : Program) (h : Hs) (src dst : TypeId) (x : Value) : Option Res :=
  match P.underlying src, P.underlying dst with
  | some s, some d => match s, d, x with
    | _, .int k, .int _ n => some (.val (.int k (k.wrap n)) h)
    | _, .string, .int _ n => some (.val (.string (Utf8.encode n)) h)
    | _, .string, .string t => some (.val (.string t) h)
    | .string, .slice e, .string t => match P.underlying e with
      | some (.int .u8) => some (.val (.slice (some ⟨h.next, 0, none⟩) t.size t.size)
          (newObjA h (.blk { cells := bytesV t.data.toList, cap := t.size, esz := 1, elem := e, exact := false, whole := false, frz := 1, own := true })))
      | _ => none
    | .slice e, .string, x => match P.underlying e with
      | some (.int .u8) => match x with
        | .slice none _ _ => some (.val (.string .empty) h)
        | .slice (some a) n _ => match a.spot, h.heap.get a.block with
          | none, some (.blk k) => match takeN n (dropN a.off k.cells) with
            | some cs => match vBytes cs with
              | some bs => some (.val (.string ⟨⟨bs⟩⟩) h)
              | none => none
            | none => none
          | _, _ => none
        | _ => none
      | _ => none
    | .pointer _, .unsafePointer, .pointer none => some (.val (.pointer none) h)
    | .pointer t, .unsafePointer, .pointer (some a) => match a.spot, h.heap.get a.block, P.info? t with
      | none, some (.blk k), some i => match i.size, Nat.ble k.cap a.off, k.own with
        | _ + 1, false, true => some (.val (.pointer (some a)) h)
        | _, _, _ => none
      | _, _, _ => none
    | .unsafePointer, .pointer _, .pointer none => some (.val (.pointer none) h)
    | .unsafePointer, .pointer u, .pointer (some a) => match a.spot, h.heap.get a.block, P.info? u with
      | none, some (.blk k), some i => match i.size, k.whole with
        | _ + 1, true => match liesAt P P.depth k.elem (k.cap / P.cellsOf k.elem) a.off u 1 with
          | true => some (.val (.pointer (some a)) h)
          | false => none
        | _, _ => none
      | _, _, _ => none
    | _, _, _ => none
  | _, _ => none

/-- the functions without a body that are known here: 1 NoEscape, 2 MakeNoZero, 3 IndexByteString, 4 CountString -/
def externNo (fn : Func) : Nat :=
  if fn.origin = "" then
    if fn.name = "internal/abi.NoEscape" then 1
    else if fn.name = "internal/bytealg.MakeNoZero" then 2
    else if fn.name = "internal/bytealg.IndexByteString" then 3
    else if fn.name = "internal/bytealg.CountString" then 4
    else 0
  else 0

def aextern (P : Program) (h : Hs) (fn : Func) (args : List Value) : Option Res :=
  match externNo fn, args with
  | 1, [x] => some (.val x h)
  | 2, [.int .i64 (.ofNat n)] => match fn.resultTypes.toList with
    | t :: _ => match P.underlying t, Nat.ble n big with
      | some (.slice e), true => some (.val (.slice (some ⟨h.next, 0, none⟩) n n)
          (newObjA h (.blk { cells := [], cap := n, esz := 1, elem := e, exact := false, whole := false, frz := 0, own := true })))
      | _, _ => none
    | [] => none
  | 3, [x, y] => match plainV x, plainV y with
    | true, true => match prunV P (Extern.BytealgIndexByte.indexByte #[x, y]) with
      | some v => some (.val v h)
      | none => none
    | _, _ => none
  | 4, [x, y] => match plainV x, plainV y with
    | true, true => match prunV P (Extern.BytealgCount.count #[x, y]) with
      | some v => some (.val v h)
      | none => none
    | _, _ => none
  | _, _ => none

def fieldOf (fields : Array Field) (i : Nat) : Option Field := nth fields.toList i

def partA (P : Program) (t : TypeId) (cs : List Value) (off : Nat) : Option Value :=
  match P.underlying t with
  | some d => match isAggD d with
    | true => match P.info? t with
      | some i => some (.agg (Array.mk cs |>.extract off (off + i.size)))
      | none => none
    | false => nth cs off
  | none => none

def placesA (P : Program) : List Field → Option (List (Nat × Nat))
  | [] => some []
  | f :: l => match P.info? f.type with
    | some i => match placesA P l with
      | some r => some ((f.offset, i.size) :: r)
      | none => none
    | none => none

/-- fill, over lists: the parts written in their order. -/
def fillA (place : Nat → Option (Nat × Nat)) (cells : List Value) : List (Nat × Value) → Option (List Value)
  | [] => some cells
  | (i, v) :: rest => match place i with
    | some (off, size) => match Nat.beq (vcells v).length size, Nat.ble (off + (vcells v).length) cells.length, overwrite cells off (vcells v) with
      | true, true, some cs => fillA place cs rest
      | _, _, _ => none
    | none => none

def abuild (P : Program) (tm : Tm) (h : Hs) (t : TypeId) (parts : List (Nat × Operand)) : Option Res :=
  match evParts tm parts, P.info? t, P.underlying t with
  | some ps, some ti, some d => match ti.zero, d with
    | some z, .struct fields => match plainV z, placesA P fields.toList with
      | true, some pl => match fillA (nth pl) (vcells z) ps with
        | some cs => some (.val (.agg ⟨cs⟩) h)
        | none => none
      | _, _ => none
    | some z, .array _ e => match plainV z, P.info? e with
      | true, some ei => match fillA (fun i => some (i * ei.size, ei.size)) (vcells z) ps with
        | some cs => some (.val (.agg ⟨cs⟩) h)
        | none => none
      | _, _ => none
    | _, _ => none
  | _, _, _ => none

def afield (P : Program) (h : Hs) (t : TypeId) (x : Value) (f : Nat) : Option Res :=
  match P.underlying t, x with
  | some (.struct fields), .agg ⟨cs⟩ => match fieldOf fields f with
    | some f => match partA P f.type cs f.offset with
      | some v => some (.val v h)
      | none => none
    | none => none
  | _, _ => none

def amap (h : Hs) : Value → Option (List MapEntry)
  | .map none => some []
  | .map (some r) => match h.heap.get r with
    | some (.map es _) => some es
    | _ => none
  | _ => none

def alookup (P : Program) (h : Hs) (t : TypeId) (m k : Value) (ok : Bool) : Option Res :=
  match P.underlying t with
  | some (.map kt e) => match akey P kt k, amap h m with
    | true, some es => match findE P kt k es 0 with
      | some (some (_, v)) => some (.val (match ok with | true => .tuple #[v, .bool true] | false => v) h)
      | some none => match P.info? e with
        | some i => match i.zero with
          | some z => match plainV z with
            | true => some (.val (match ok with | true => .tuple #[z, .bool false] | false => z) h)
            | false => none
          | none => none
        | none => none
      | none => none
    | _, _ => none
  | _ => none

def amapUpdate (P : Program) (h : Hs) (t : TypeId) (m k x : Value) : Option Res :=
  match P.underlying t, m with
  | some (.map kt _), .map (some r) => match akey P kt k, h.heap.get r with
    | true, some (.map es c) => match findE P kt k es 0 with
      | some (some (i, _)) => match nth es i with
        | some e => match plainV e.key && Instr.sameBits 10000 e.key k with
          | true => some (.skip { h with heap := h.heap.set r (.map (setKV i k x es) c), log := r :: h.log })
          | false => none
        | none => none
      | some none => some (.skip { h with heap := h.heap.set r (.map (es ++ [{ key := k, val := x, born := c }]) (c + 1)), log := r :: h.log })
      | none => none
    | _, _ => none
  | _, _ => none

def amapEntry (P : Program) (h : Hs) (t : TypeId) (m k : Value) : Option Res :=
  match P.underlying t, m with
  | some (.map kt el), .map (some r) => match akey P kt k, h.heap.get r with
    | true, some (.map es c) => match findE P kt k es 0 with
      | some (some (i, v)) => match nth es i with
        | some e => match plainV e.key && Instr.sameBits 10000 e.key k with
          | true => some (.val (.tuple #[v, goInt e.born]) { h with heap := h.heap.set r (.map (setK i k es) c), log := r :: h.log })
          | false => none
        | none => none
      | some none => match P.info? el with
        | some i => match i.zero with
          | some z => match plainV z with
            | true => some (.val (.tuple #[z, goInt c]) { h with heap := h.heap.set r (.map (es ++ [{ key := k, val := z, born := c }]) (c + 1)), log := r :: h.log })
            | false => none
          | none => none
        | none => none
      | none => none
    | _, _ => none
  | _, _ => none

def bornAt (s : Int) : List MapEntry → Nat → Option Nat
  | [], _ => none
  | e :: es, i => match decide ((e.born : Int) = s) with
    | true => some i
    | false => bornAt s es (i + 1)

def aentryStore (h : Hs) (m s x : Value) : Option Res :=
  match m, s with
  | .map (some r), .int _ s => match h.heap.get r with
    | some (.map es c) => match bornAt s es 0 with
      | some i => some (.skip { h with heap := h.heap.set r (.map (setVal i x es) c), log := r :: h.log })
      | none => none
    | _ => none
  | _, _ => none

def memN (n : Nat) : List Nat → Bool
  | [] => false
  | m :: l => match Nat.beq m n with | true => true | false => memN n l

def leftE (seen : List Nat) : List MapEntry → List MapEntry
  | [] => []
  | e :: es => match memN e.born seen with
    | true => leftE seen es
    | false => e :: leftE seen es

def anext (h : Hs) (it : Value) (isString : Bool) : Option Res :=
  match it with
  | .pointer (some ⟨b, 0, none⟩) => match h.heap.get b, isString with
    | some (.siter s pos), true => match Nat.blt pos s.size with
      | true => match Utf8.decode s pos with
        | (c, w) => some (.val (.tuple #[.bool true, goInt pos, .int .i32 c]) { h with heap := h.heap.set b (.siter s (pos + w)), log := b :: h.log })
      | false => some (.val (.tuple #[.bool false]) h)
    | some (.miter none _ _ _), false => some (.val (.tuple #[.bool false]) h)
    | some (.miter (some m) since seen last), false => match h.heap.get m with
      | some (.map es c) => match leftE seen es with
        | [] => match seen, es with
          | [], _ => some (.val (.tuple #[.bool false]) h)
          | _, e :: _ => match Nat.blt e.born last with
            | true => some (.val (.tuple #[.bool false]) h)
            | false => none
          | _, [] => some (.val (.tuple #[.bool false]) h)
        | [e] => match Nat.blt e.born since, seen with
          | true, [] => some (.val (.tuple #[.bool true, e.key, e.val]) { h with heap := h.heap.set b (.miter (some m) since (e.born :: seen) c), log := b :: h.log })
          | _, _ => none
        | _ => none
      | _ => none
    | _, _ => none
  | _ => none

def findBorn (st : Nat) : List MapEntry → Option MapEntry
  | [] => none
  | e :: es => match Nat.beq e.born st with
    | true => some e
    | false => findBorn st es

def aentry (h : Hs) (it : Value) : Option Res :=
  match it with
  | .pointer (some ⟨b, 0, none⟩) => match h.heap.get b with
    | some (.miter (some m) _ (st :: _) stepped) => match h.heap.get m with
      | some (.map es c) => match Nat.beq c stepped, findBorn st es with
        | true, some e => some (.val (.tuple #[e.key, e.val]) h)
        | _, _ => none
      | _ => none
    | _ => none
  | _ => none

def arange (P : Program) (h : Hs) (t : TypeId) (x : Value) : Option Res :=
  match P.underlying t, x with
  | some .string, .string s => some (.val (ptrTo h.next) (newObjA h (.siter s 0)))
  | some (.map _ _), .map none => some (.val (ptrTo h.next) (newObjA h (.miter none 0 [] 0)))
  | some (.map _ _), .map (some m) => match h.heap.get m with
    | some (.map _ c) => some (.val (ptrTo h.next) (newObjA h (.miter (some m) c [] c)))
    | _ => none
  | _, _ => none

def acall (P : Program) (tm : Tm) (h : Hs) (c : Call) : Option Res :=
  match evs tm c.args.toList with
  | some args => match c.callee with
    | .builtin b => abuiltin P h b c.argTypes.toList args
    | .value f => match ev tm f with
      | some (.func (.func f) ⟨first⟩ ⟨captured⟩) => match P.funcs[f]? with
        | some fn => match fn.body with
          | some _ => match decide (fn.name = "runtime.NumGoroutine") with
            | true => none
            | false => some (.call f ((first ++ args) ++ captured))
          | none => aextern P h fn ((first ++ args) ++ captured)
        | none => none
      | some (.func (.yield l) ⟨first⟩ _) => some (.round l (first ++ args))
      | _ => none
    | .invoke _ _ => none
  | none => none

def adefer (tm : Tm) (c : Call) : Option Res :=
  match evs tm c.args.toList with
  | some args => match c.callee with
    | .value f => match ev tm f with
      | some (.func (.func f) ⟨first⟩ ⟨captured⟩) => some (.dfr (.call f (first ++ args) captured))
      | _ => none
    | _ => none
  | none => none

def amakeSlice (P : Program) (h : Hs) (t : TypeId) (l c : Value) : Option Res :=
  match P.underlying t, l, c with
  | some (.slice e), .int _ (.ofNat l), .int _ (.ofNat c) => match P.info? e, Nat.ble l c, Nat.ble c 1048576 with
    | some i, true, true => match i.zero, Nat.ble i.bytes 1048576 with
      | some z, true => match plainV z, allCells (vcells z), Nat.beq (vcells z).length i.size with
        | true, true, true => some (.val (.slice (some ⟨h.next, 0, none⟩) l c) (newBlk h e i.size (rep c (vcells z))))
        | _, _, _ => none
      | _, _ => none
    | _, _, _ => none
  | _, _, _ => none

def abuildSlice (P : Program) (tm : Tm) (h : Hs) (t : TypeId) (len : Nat) (parts : List (Nat × Operand)) : Option Res :=
  match P.underlying t, evParts tm parts with
  | some (.slice e), some ps => match P.info? e with
    | some i => match i.zero with
      | some z => match plainV z, Nat.beq (vcells z).length i.size, Nat.ble (len * i.size) 16777216, fillA (fun j => some (j * i.size, i.size)) (rep len (vcells z)) ps with
        | true, true, true, some cs => some (.val (.slice (some ⟨h.next, 0, none⟩) len len) (newBlk h e i.size cs))
        | _, _, _, _ => none
      | none => none
    | none => none
  | _, _ => none

def aindexAddr (P : Program) (h : Hs) (t : TypeId) (x i : Value) : Option Res :=
  match P.underlying t, x, i with
  | some (.array n e), .pointer (some a), .int _ (.ofNat i) => match P.info? e, a.spot, Nat.blt i n with
    | some ei, none, true => some (.val (.pointer (some ⟨a.block, a.off + i * ei.size, none⟩)) h)
    | _, _, _ => none
  | some (.slice e), .slice (some a) n _, .int _ (.ofNat i) => match P.info? e, a.spot, Nat.blt i n with
    | some ei, none, true => some (.val (.pointer (some ⟨a.block, a.off + i * ei.size, none⟩)) h)
    | _, _, _ => none
  | _, _, _ => none

def aindex (P : Program) (h : Hs) (t : TypeId) (x i : Value) : Option Res :=
  match P.underlying t, x, i with
  | some (.array n e), .agg ⟨cs⟩, .int _ (.ofNat i) => match P.info? e, Nat.blt i n with
    | some ei, true => match partA P e cs (i * ei.size) with
      | some v => some (.val v h)
      | none => none
    | _, _ => none
  | some .string, .string s, .int _ (.ofNat i) => match nth s.data.toList i with
    | some b => some (.val (.int .u8 b.toNat) h)
    | none => none
  | _, _, _ => none

def afieldAddr (P : Program) (h : Hs) (s : TypeId) (x : Value) (f : Nat) : Option Res :=
  match P.underlying s, x with
  | some (.struct fields), .pointer (some a) => match fieldOf fields f, a.spot with
    | some f, none => match P.info? f.type with
      | some i => match i.size with
        | 0 => none
        | _ + 1 => some (.val (.pointer (some ⟨a.block, a.off + f.offset, none⟩)) h)
      | none => none
    | _, _ => none
  | _, _ => none

def opt2 (f : Value → Value → Option Res) (a b : Option Value) : Option Res := match a, b with
  | some a, some b => f a b
  | _, _ => none
def opt1 (f : Value → Option Res) (a : Option Value) : Option Res := match a with
  | some a => f a
  | none => none
def opt3 (f : Value → Value → Value → Option Res) (a b c : Option Value) : Option Res := match a, b, c with
  | some a, some b, some c => f a b c
  | _, _, _ => none

def aload (P : Program) (h : Hs) (t : TypeId) (a : Value) : Option Res := match a with
  | .pointer (some ⟨b, off, none⟩) => match readVar P h t b off with
    | some v => some (.val v h)
    | none => none
  | _ => none

def astore (P : Program) (h : Hs) (t : TypeId) (a v : Value) : Option Res := match a with
  | .pointer (some ⟨b, off, none⟩) => match P.info? t with
    | some i => match Nat.beq (vcells v).length i.size, vcells v, writeAt h b off (vcells v) with
      | true, _ :: _, some h => some (.skip h)
      | _, _, _ => none
    | none => none
  | _ => none

def anilCheck (h : Hs) (v : Value) : Option Res := match v with
  | .pointer (some a) => some (.val (.pointer (some a)) h)
  | .func (.func f) a b => some (.val (.func (.func f) a b) h)
  | .func (.yield f) a b => some (.val (.func (.yield f) a b) h)
  | _ => none

def aextract (h : Hs) (v : Value) (i : Nat) : Option Res := match v with
  | .tuple ⟨vs⟩ => match nth vs i with
    | some v => some (.val v h)
    | none => none
  | _ => none

def aunary (P : Program) (h : Hs) (op : UnOp) (v : Value) : Option Res := match plainV v with
  | true => match prunV P (Op.unary op v) with
    | some v => some (.val v h)
    | none => none
  | false => none

def aop (P : Program) (tm : Tm) (h : Hs) (o : Oper) : Option Res :=
  match o.op with
  | .move x | .assign x => opt1 (fun v => some (.val v h)) (ev tm x)
  | .pick c a b => match ev tm c with
    | some (.bool true) => opt1 (fun v => some (.val v h)) (ev tm a)
    | some (.bool false) => opt1 (fun v => some (.val v h)) (ev tm b)
    | _ => none
  | .alloc e => match P.info? e with
    | some i => match i.zero with
      | some z => match plainV z with
        | true => some (.val (ptrTo h.next) (newBlk h e 1 (vcells z)))
        | false => none
      | none => none
    | none => none
  | .box e x => opt1 (fun v => some (.val (ptrTo h.next) (newBlk h e 1 (vcells v)))) (ev tm x)
  | .build t parts => abuild P tm h t parts.toList
  | .buildSlice t len parts => abuildSlice P tm h t len parts.toList
  | .load t a => opt1 (aload P h t) (ev tm a)
  | .store t a x => opt2 (astore P h t) (ev tm a) (ev tm x)
  | .nilCheck x => opt1 (anilCheck h) (ev tm x)
  | .binOp op xt x y _ => opt2 (fun a b => match abinop P h op xt x y a b with | some v => some (.val v h) | none => none) (ev tm x) (ev tm y)
  | .unOp op _ x => opt1 (aunary P h op) (ev tm x)
  | .convert s d x => opt1 (aconvert P h s d) (ev tm x)
  | .makeFunc fn first captured => match fn with
    | .func _ => match evs tm first.toList, evs tm captured.toList with
      | some f, some c => some (.val (.func fn ⟨f⟩ ⟨c⟩) h)
      | _, _ => none
    | _ => none
  | .makeMap _ r => match r with
    | none => some (.val (.map (some h.next)) (newObjA h (.map [] 0)))
    | some _ => none
  | .makeSlice t l c => opt2 (amakeSlice P h t) (ev tm l) (ev tm c)
  | .slice t x lo hi mx => opt1 (fun v => aslice P tm h t v lo hi mx) (ev tm x)
  | .fieldAddr s x f => opt1 (fun v => afieldAddr P h s v f) (ev tm x)
  | .field t x f => opt1 (fun v => afield P h t v f) (ev tm x)
  | .indexAddr t x i => opt2 (aindexAddr P h t) (ev tm x) (ev tm i)
  | .index t x i => opt2 (aindex P h t) (ev tm x) (ev tm i)
  | .lookup t m k ok => opt2 (fun m k => alookup P h t m k ok) (ev tm m) (ev tm k)
  | .mapUpdate t m k x | .insert t m k x => opt3 (amapUpdate P h t) (ev tm m) (ev tm k) (ev tm x)
  | .mapEntry t m k => opt2 (amapEntry P h t) (ev tm m) (ev tm k)
  | .entryStore _ m s x => opt3 (aentryStore h) (ev tm m) (ev tm s) (ev tm x)
  | .range t x => opt1 (arange P h t) (ev tm x)
  | .next it isString => opt1 (fun v => anext h v isString) (ev tm it)
  | .entry it => opt1 (aentry h) (ev tm it)
  | .extract t i => opt1 (fun v => aextract h v i) (ev tm t)
  | .call c => acall P tm h c
  | .defer c => adefer tm c
  | _ => none

end Go.AV
