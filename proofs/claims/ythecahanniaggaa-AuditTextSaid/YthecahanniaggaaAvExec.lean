/-
  The evaluator: regions (in the text's order; where the order is drawn, with a look that no order makes a difference), code, calls.
-/
import Derived.Test.YthecahanniaggaaAvCore
namespace Go.AV

inductive AExit where | normal | exit (id : Nat) | goto (l : Nat) | ret

structure Fr where
  tm : Tm
  n : Nat
  dfr : List ADfr

abbrev Out := Option (AExit × Fr × Hs)

def Fr.put (fr : Fr) (d : Option Tmp) (v : Value) : Option Fr := match d with
  | some d => match Nat.blt d fr.n with
    | true => some { fr with tm := fr.tm.set d v }
    | false => none
  | none => some fr

def wantedB (ops : Array Oper) (tm : Tm) (o : Oper) : Option Bool := match o.guard with
  | none => some true
  | some (j, w) => match (nth ops.toList j).bind (·.dst) with
    | some d => match rd tm d with
      | .bool b => some (b == w)
      | .tuple _ => some false
      | _ => none
    | none => some false

def setAll : List Value → Nat → Tm → Tm
  | [], _, t => t
  | v :: l, i, t => setAll l (i + 1) (t.set i v)

def setPs : List Tmp → List Value → Nat → Tm → Option Tm
  | [], [], _, t => some t
  | p :: ps, v :: vs, n, t => match Nat.blt p n with
    | true => setPs ps vs n (t.set p v)
    | false => none
  | _, _, _, _ => none

def resultsA (P : Program) (tm : Tm) (h : Hs) : List ResultVar → Option (List Value)
  | [] => some []
  | .tmp t :: l => match resultsA P tm h l with
    | some vs => some (rd tm t :: vs)
    | none => none
  | .cell a t :: l => match rd tm a with
    | .pointer (some ⟨b, off, none⟩) => match readVar P h t b off, resultsA P tm h l with
      | some v, some vs => some (v :: vs)
      | _, _ => none
    | _ => none

def oneA : List Value → Value
  | [v] => v
  | l => .tuple ⟨l⟩

abbrev CallF := Nat → List Value → Hs → Option (Value × Hs)
abbrev ExF := Option Nat → Code → Fr → Hs → Out

def dfrs : List ADfr → Hs → Option Hs
  | [], h => some h
  | .call _ _ _ :: _, _ => none
  | .mark r :: ds, h => match h.heap.get r with
    | some (.dfr true) => dfrs ds { h with heap := h.heap.set r (.dfr false), log := r :: h.log }
    | _ => none

def callW (P : Program) (ex : ExF) (call : CallF) (f : Nat) (args : List Value) (h : Hs) : Option (Value × Hs) :=
  match P.funcs[f]? with
  | some fn => match fn.body with
    | some body =>
      match ex none body { tm := setAll args 0 .leaf, n := args.length + (fn.ntmps - args.length), dfr := [] } h with
      | some (.normal, fr, h) | some (.ret, fr, h) =>
        match dfrs fr.dfr h with
        | some h => match resultsA P fr.tm h fn.results.toList with
          | some vs => some (oneA vs, h)
          | none => none
        | none => none
      | _ => none
    | none => none
  | none => none

def jumpOf : AExit → Option Code
  | .normal => none
  | .ret => some .ret
  | .exit i => some (.exit i)
  | .goto i => some (.goto i)

def roundW (ex : ExF) (l : Nat) (args : List Value) (h : Hs) : Option (Value × Hs) :=
  match h.heap.get l with
  | some (.loop r) => match setPs r.params args r.n r.tm with
    | some tm => match ex (some l) r.assign { tm := tm, n := r.n, dfr := [] } h with
      | some (.normal, fr, h) => match h.heap.get l with
        | some (.loop r1) => match r1.st with
          | .ready => match ex (some l) r.body fr { h with heap := h.heap.set l (.loop { r1 with st := .busy }), log := l :: h.log } with
            | some (e, _, h) => match h.heap.get l with
              | some (.loop r) => some (.bool (jumpOf e).isNone, { h with heap := h.heap.set l (.loop { r with st := (match jumpOf e with | none => .ready | some _ => .done), pending := jumpOf e }), log := l :: h.log })
              | _ => none
            | none => none
          | _ => none
        | _ => none
      | _ => none
    | none => none
  | _ => none

def opsW (P : Program) (call round : CallF) (rdd : Option Nat) (ops : Array Oper) : List Oper → Fr → Hs → Option (Fr × Hs)
  | [], fr, h => some (fr, h)
  | o :: l, fr, h =>
    match wantedB ops fr.tm o with
    | none => none
    | some false => match fr.put o.dst undef with
      | some fr => opsW P call round rdd ops l fr h
      | none => none
    | some true => match aop P fr.tm h o with
      | none => none
      | some (.val v h) => match fr.put o.dst v with
        | some fr => opsW P call round rdd ops l fr h
        | none => none
      | some (.skip h) => match fr.put o.dst undef with
        | some fr => opsW P call round rdd ops l fr h
        | none => none
      | some (.call f args) => match call f args h with
        | some (v, h) => match fr.put o.dst v with
          | some fr => opsW P call round rdd ops l fr h
          | none => none
        | none => none
      | some (.round f args) => match round f args h with
        | some (v, h) => match fr.put o.dst v with
          | some fr => opsW P call round rdd ops l fr h
          | none => none
        | none => none
      | some (.dfr d) => match rdd with
        | none => match ({ fr with dfr := d :: fr.dfr } : Fr).put o.dst undef with
          | some fr => opsW P call round rdd ops l fr h
          | none => none
        | some _ => none

/-! ### Regions that draw their order -/

/-- the temporaries that an operation looks at or writes -/
def namesOf (ops : Array Oper) (o : Oper) : List Tmp :=
  (o.op.operands.toList.filterMap fun | .tmp t => some t | _ => none) ++ o.dst.toList ++
  (match o.guard with
   | some (g, _) => ((nth ops.toList g).bind (·.dst)).toList
   | none => [])

def maskOf (acc : List Nat) (i : Nat) : List Edge → Option Nat
  | [] => some 0
  | e :: es => match Region.binds .any e with
    | true => match Nat.blt e.on i, nth acc (i - 1 - e.on), maskOf acc i es with
      | true, some m, some r => some (2 ^ e.on ||| m ||| r)
      | _, _, _ => none
    | false => maskOf acc i es

def forceN {α : Type} (n : Nat) (k : Nat → α) : α := match n with | 0 => k 0 | m + 1 => k (m + 1)

/-- for each operation the set of those that come before it in every order; the last one first -/
def masks : List Oper → Nat → List Nat → Option (List Nat)
  | [], _, acc => some acc
  | o :: l, i, acc => match maskOf acc i o.after.toList with
    | some m => forceN m fun m => masks l (i + 1) (m :: acc)
    | none => none

/-- no temporary is named by two operations of which one writes it and neither comes before the other -/
def tmpsOk (ops : Array Oper) (ms : List Nat) : List Oper → Nat → List (Nat × Oper) → Bool
  | [], _, _ => true
  | o :: l, i, prev => match nth ms i with
    | some m => match prev.all fun (j, p) => m.testBit j ||
        ((match p.dst with | some d => !memN d (namesOf ops o) | none => true) && (match o.dst with | some d => !memN d (namesOf ops p) | none => true)) with
      | true => tmpsOk ops ms l (i + 1) ((i, o) :: prev)
      | false => false
    | none => false

def planOf (ops : Array Oper) : Option (List Nat) :=
  match masks ops.toList 0 [] with
  | some ms => match tmpsOk ops ms.reverse ops.toList 0 [] with
    | true => some ms.reverse
    | false => none
  | none => none

structure Rec where
  i : Nat
  all : Bool
  reads : List Nat
  writes : List Nat
  lo : Nat
  hi : Nat

def idsOf : Value → List Nat
  | .pointer (some a) => [a.block]
  | .slice (some a) _ _ => [a.block]
  | .map (some r) => [r]
  | _ => []

def idsOp (tm : Tm) (x : Operand) : List Nat := match ev tm x with
  | some v => idsOf v
  | none => []

def idsOps (tm : Tm) : List Operand → List Nat
  | [] => []
  | x :: l => idsOp tm x ++ idsOps tm l

def mapBehind (h : Hs) : List Nat → List Nat
  | [] => []
  | b :: l => match h.heap.get b with
    | some (.miter (some m) _ _ _) => b :: m :: mapBehind h l
    | _ => b :: mapBehind h l

/-- the blocks that an operation looks into -/
def touches (tm : Tm) (h : Hs) (o : Oper) : List Nat :=
  match o.op with
  | .load _ a => idsOp tm a
  | .store _ a _ => idsOp tm a
  | .binOp _ _ x y _ => idsOps tm [x, y]
  | .convert _ _ x => idsOp tm x
  | .slice _ x _ _ _ => idsOp tm x
  | .lookup _ m _ _ => idsOp tm m
  | .mapUpdate _ m _ _ | .insert _ m _ _ => idsOp tm m
  | .mapEntry _ m _ => idsOp tm m
  | .entryStore _ m _ _ => idsOp tm m
  | .range _ x => idsOp tm x
  | .next it _ => mapBehind h (idsOp tm it)
  | .entry it => mapBehind h (idsOp tm it)
  | .call c => idsOps tm c.args.toList
  | _ => []

def viewOf (h : Hs) : List Nat → T AObj
  | [] => .leaf
  | b :: l => match h.heap.get b with
    | some o => (viewOf h l).set b o
    | none => viewOf h l

def mergeAt (t s : T AObj) : List Nat → T AObj
  | [] => t
  | b :: l => match s.get b with
    | some o => (mergeAt t s l).set b o
    | none => (mergeAt t s l).del b

def range' (lo : Nat) : Nat → List Nat
  | 0 => []
  | n + 1 => lo :: range' (lo + 1) n

def disj : List Nat → List Nat → Bool
  | [], _ => true
  | a :: l, m => match memN a m with
    | true => false
    | false => disj l m

def isNil : List Nat → Bool
  | [] => true
  | _ => false

/-- r's operation, which comes before the new one in the text alone, and the new one do not meet -/
def apartR (mask : Nat) (new r : Rec) : Bool :=
  match mask.testBit r.i with
  | true => true
  | false =>
    (match new.all with | true => isNil r.writes | false => disj r.writes new.reads) &&
    (match r.all with | true => isNil new.writes | false => disj new.writes r.reads) &&
    new.reads.all (fun b => Nat.blt b r.lo || Nat.ble r.hi b)

def apartRs (mask : Nat) (new : Rec) : List Rec → Bool
  | [] => true
  | r :: l => match apartR mask new r with
    | true => apartRs mask new l
    | false => false

/-- the ids that operations have made which do not come before in every order -/
def hidden (mask : Nat) : List Rec → List Nat
  | [] => []
  | r :: l => match mask.testBit r.i with
    | true => hidden mask l
    | false => range' r.lo (r.hi - r.lo) ++ hidden mask l

def delAll (t : T AObj) : List Nat → T AObj
  | [] => t
  | b :: l => (delAll t l).del b

/-- an operation that is no call of a Go function, on what it looks into alone -/
def stepD (P : Program) (mask i : Nat) (recs : List Rec) (tm : Tm) (h : Hs) (o : Oper) : Option (Value × Hs × Rec) :=
  let ts := touches tm h o
  match aop P tm { heap := viewOf h ts, next := h.next, log := [] } o with
  | some (.val v h') => fin ts v h'
  | some (.skip h') => fin ts undef h'
  | _ => none
where
  fin (ts : List Nat) (v : Value) (h' : Hs) : Option (Value × Hs × Rec) :=
    let r : Rec := { i, all := false, reads := ts ++ h'.log, writes := h'.log, lo := h.next, hi := h'.next }
    match apartRs mask r recs with
    | true => some (v, { heap := mergeAt h.heap h'.heap (h'.log ++ range' h.next (h'.next - h.next)), next := h'.next, log := h'.log ++ h.log }, r)
    | false => none

def callD (call : CallF) (mask i : Nat) (recs : List Rec) (f : Nat) (args : List Value) (h : Hs) : Option (Value × Hs × Rec) :=
  let hid := hidden mask recs
  match call f args { heap := delAll h.heap hid, next := h.next, log := [] } with
  | some (v, h') =>
    let r : Rec := { i, all := true, reads := [], writes := h'.log, lo := h.next, hi := h'.next }
    match apartRs mask r recs, disj h'.log hid with
    | true, true => some (v, { heap := mergeAt h'.heap h.heap hid, next := h'.next, log := h'.log ++ h.log }, r)
    | _, _ => none
  | none => none

def isCallRes : Option Res → Option (Bool × Nat × List Value)
  | some (.call f args) => some (true, f, args)
  | some (.round f args) => some (false, f, args)
  | _ => none

def isGoCall (o : Oper) : Bool := match o.op with
  | .call { callee := .builtin _, .. } => false
  | .call _ => true
  | _ => false

def drawW (P : Program) (call round : CallF) (ops : Array Oper) : List Oper → Nat → List Nat → List Rec → Fr → Hs → Option (Fr × Hs)
  | [], _, _, _, fr, h => some (fr, h)
  | o :: l, i, m :: ms, recs, fr, h =>
    match wantedB ops fr.tm o with
    | none => none
    | some false => match fr.put o.dst undef with
      | some fr => drawW P call round ops l (i + 1) ms recs fr h
      | none => none
    | some true =>
      match (match isGoCall o with
        | true => match isCallRes (aop P fr.tm { heap := .leaf, next := 0, log := [] } o) with
          | some (true, f, args) => callD call m i recs f args h
          | some (false, f, args) => callD round m i recs f args h
          | none => stepD P m i recs fr.tm h o
        | false => stepD P m i recs fr.tm h o) with
      | some (v, h, r) => match fr.put o.dst v with
        | some fr => drawW P call round ops l (i + 1) ms (r :: recs) fr h
        | none => none
      | none => none
  | _ :: _, _, [], _, _, _ => none

def regionW (P : Program) (call round : CallF) (rdd : Option Nat) (ops : Array Oper) (draw : Bool) (fr : Fr) (h : Hs) : Option (Fr × Hs) :=
  match draw with
  | false => opsW P call round rdd ops ops.toList fr h
  | true => match planOf ops with
    | some ms => drawW P call round ops ops.toList 0 ms [] fr h
    | none => none

def codeW (P : Program) (ex : ExF) (call : CallF) (rdd : Option Nat) (c : Code) (fr : Fr) (h : Hs) : Out :=
  match c with
  | .skip | .label _ => some (.normal, fr, h)
  | .seq a b => match ex rdd a fr h with
    | some (.normal, fr, h) => ex rdd b fr h
    | r => r
  | .cond c a b => match ev fr.tm c with
    | some (.bool true) => ex rdd a fr h
    | some (.bool false) => ex rdd b fr h
    | _ => none
  | .block id b => match ex rdd b fr h with
    | some (.exit i, fr, h) => match Nat.beq i id with
      | true => some (.normal, fr, h)
      | false => some (.exit i, fr, h)
    | r => r
  | .exit id => some (.exit id, fr, h)
  | .goto l => some (.goto l, fr, h)
  | .ret => some (.ret, fr, h)
  | .region _ ops draw => match regionW P call (roundW ex) rdd ops draw fr h with
    | some (fr, h) => some (.normal, fr, h)
    | none => none
  | .rangeFunc f ps asg b =>
    match ev fr.tm f with
    | some (.func (.func g) ⟨first⟩ ⟨cap⟩) =>
      match (match rdd with
        | some l => match h.heap.get l with
          | some (.loop r) => some (r.defers, ([] : List ADfr), h)
          | _ => none
        | none => some (h.next, [.mark h.next], newObjA h (.dfr true))) with
      | some (dk, mark, h) => rangeW fr g first cap dk mark ps asg b h
      | none => none
    | _ => none
  | _ => none
where
  rangeW (fr : Fr) (g : Nat) (first cap : List Value) (dk : Nat) (mark : List ADfr) (ps : Array Tmp) (asg b : Code) (h : Hs) : Out :=
    match P.funcs[g]? with
    | some fn => match fn.body, decide (fn.name = "runtime.NumGoroutine") with
      | some _, false =>
        match call g ((first ++ [.func (.yield h.next) #[] #[]]) ++ cap) (newObjA h (.loop { st := .ready, pending := none, tm := fr.tm, n := fr.n, params := ps.toList, assign := asg, body := b, defers := dk })) with
        | some (_, h') =>
          match h'.heap.get h.next with
          | some (.loop r) => match r.st with
            | .busy => none
            | _ =>
              match r.pending with
              | none => some (.normal, { fr with dfr := mark ++ fr.dfr }, { h' with heap := h'.heap.set h.next (.loop { r with st := .exhausted }), log := h.next :: h'.log })
              | some .ret => some (.ret, { fr with dfr := mark ++ fr.dfr }, { h' with heap := h'.heap.set h.next (.loop { r with st := .exhausted }), log := h.next :: h'.log })
              | some (.exit i) => some (.exit i, { fr with dfr := mark ++ fr.dfr }, { h' with heap := h'.heap.set h.next (.loop { r with st := .exhausted }), log := h.next :: h'.log })
              | some (.goto i) => some (.goto i, { fr with dfr := mark ++ fr.dfr }, { h' with heap := h'.heap.set h.next (.loop { r with st := .exhausted }), log := h.next :: h'.log })
              | _ => none
          | _ => none
        | none => none
      | _, _ => none
    | none => none

def scopeW (ex : ExF) : Nat → Code → Code → Option Nat → Fr → Hs → Out
  | 0, _, _, _, _, _ => none
  | n + 1, b, cur, rdd, fr, h => match ex rdd cur fr h with
    | some (.goto l, fr, h) => match findLabel b l with
      | some rest => scopeW ex n b rest rdd fr h
      | none => some (.goto l, fr, h)
    | r => r

def loopW (ex : ExF) : Nat → Code → Option Nat → Fr → Hs → Out
  | 0, _, _, _, _ => none
  | n + 1, b, rdd, fr, h => match ex rdd b fr h with
    | some (.normal, fr, h) => loopW ex n b rdd fr h
    | r => r

def callN (P : Program) (ex : ExF) : Nat → CallF
  | 0, _, _, _ => none
  | n + 1, f, args, h => callW P ex (callN P ex n) f args h

/-- the executor of code -/
def exec (P : Program) : Nat → ExF
  | 0, _, _, _, _ => none
  | n + 1, rdd, .scope b, fr, h => scopeW (exec P n) n b b rdd fr h
  | n + 1, rdd, .loop b, fr, h => loopW (exec P n) n b rdd fr h
  | n + 1, rdd, c, fr, h => codeW P (exec P n) (callN P (exec P n) n) rdd c fr h

def runF (P : Program) (fuel : Nat) : CallF := callN P (exec P fuel) fuel

def outB : Option (Value × Hs) → Option Bool
  | some (.bool b, _) => some b
  | _ => none
end Go.AV
