/-
  A part of the proof: lemmas of my own.
-/
import GoSem.Dispatch
import Derived.Laws.World
import Derived.Laws.Sem
import Derived.Laws.Append
import GoSem.Machine.Return
import Derived.RangeFuncLeaves
import Derived.OrdersIn
import Derived.Laws.Cells
import Derived.Below
import Derived.IntWalk
import Derived.KernelRfl
import Derived.Laws.IdiomStrings
import Derived.RangeFuncCalls
import Derived.TacticsIn
import Derived.LoopNIn
set_option linter.unusedVariables false
set_option linter.unusedSimpArgs false
namespace Go.AV
theorem ru{P:Program}{w:World}{t:TypeId}{d:TypeDesc}(h:P.underlying t=some d):(underlying t).run P w= .ok d w:=by
 simp[underlying,h]
theorem rt{P:Program}{w:World}{t:TypeId}{i:TypeInfo}(h:P.info? t=some i):(typeInfo t).run P w= .ok i w:=by
 simp[typeInfo,h]
theorem rs{P:Program}{w:World}{t:TypeId}{i:TypeInfo}(h:P.info? t=some i):(sizeOf t).run P w= .ok i.size w:=by
 simp[sizeOf,rt h]
theorem rz{P:Program}{w:World}{t:TypeId}{i:TypeInfo}{z:Value}(h:P.info? t=some i)(hz:i.zero=some z):(zeroValue t).run P w= .ok z w:=by
 simp[zeroValue,rt h,hz]
theorem rn{P:Program}{w:World}(elem:TypeId)(c:Array Value):(newRow elem c).run P w= .ok ⟨w.heap.size,0,none⟩ (w.alloc (.cells c elem)):=by
 simp[newRow]
section
variable{P:Program}{w:World}
def qf:TypeDesc->Bool
 | .int _=>false
 |_=>true
structure Room(P:Program)(e:TypeId)(i:TypeInfo)(n:Nat)(z:Value):Prop where
 info:P.info? e=some i
 zero:i.zero=some z
 size:z.cells.size=i.size
 bytes:n*i.bytes<=1099511627776
 len:n<=1099511627776
 pos:0<i.bytes
 small:i.bytes<=1048576
theorem rU(z:Array Value)(n:Nat):(Builtin.zeroCells z n).size=n*z.size:=by simp[Builtin.zeroCells]
set_option maxHeartbeats 2000000 in
theorem g8{st xt e ty:TypeId}{i:TypeInfo}{xd:TypeDesc}{base:Option Addr}{len cap n:Nat}{x':Value}{new':List Value}{w':World}(hu:P.underlying st=some (.slice e))(hxu:P.underlying xt=some xd)(hxd:qf xd=true)
 (hi:P.info? e=some i) (hn:(Builtin.lenOf x').run P w= .ok n w) (me:(Builtin.firstCells i.size n x').run P w= .ok ⟨new'⟩ w) (hle:len+n<=cap)
 (hst:match base with|none=>w'=w|some a=>(storeCells (a.add (len*i.size)) new').run P w= .ok () w'):
 (Builtin.append_ #[st,xt] ty #[.slice base len cap,x']).run P w= .ok (.slice base (len+n) cap) w':=by
 cases base with
 |none=>
  subst hst
  cases xd<;>first
   |(simp[qf] at hxd;done)
   |simp[Builtin.append_,ru hu,ru hxu,rs hi,hn,hle,me]
 |some a=>
  cases xd<;>first
   |(simp[qf] at hxd;done)
   |simp[Builtin.append_,ru hu,ru hxu,rs hi,hn,hle,me,hst]
set_option maxHeartbeats 2000000 in
theorem je{st xt e ty:TypeId}{i:TypeInfo}{xd:TypeDesc}{base:Option Addr}{len cap n:Nat}{x' z:Value}{new' old':List Value}(hu:P.underlying st=some (.slice e))(hxu:P.underlying xt=some xd)(hxd:qf xd=true)
 (hroom:Room P e i (len+n) z) (hn:(Builtin.lenOf x').run P w= .ok n w) (me: ∀w1:World,w1.heap=w.heap->(Builtin.firstCells i.size n x').run P w1= .ok ⟨new'⟩ w1) (hlt:cap<len+n)
 (hold: ∀w1:World,w1.heap=w.heap->(Builtin.firstCells i.size len (.slice base len cap)).run P w1= .ok ⟨old'⟩ w1):
 ∃ψ,(Builtin.append_ #[st,xt] ty #[.slice base len cap,x']).run P w= .ok (.slice (some ⟨w.heap.size,0,none⟩) (len+n) (len+n+ψ)) (w.drew.alloc (.cells ((⟨old'⟩:Array Value)++((⟨new'⟩:Array Value)++Builtin.zeroCells z.cells ψ)) e)):=by
 have hi:=hroom.info
 have hbz:i.bytes≠0:=by have:=hroom.pos;omega
 have hfit: ¬Builtin.nextslicecap (len+n) cap*i.bytes>2 ^ 48:=by
  have:=growslice_fits (bytes:=i.bytes) hlt (by have:=hroom.bytes;omega)
  omega
 refine⟨w.tape w.drawn (.appendCap (len+n) cap e) % (2 ^ 63 - (len+n)),?_⟩
 have hnle: ¬len+n<=cap:=by omega
 have hold':=hold w.drew rfl
 have hnew':=me w.drew rfl
 have hcut':(Question.appendCap (len+n) cap e).cut (w.tape w.drawn (.appendCap (len+n) cap e))=len+n+w.tape w.drawn (.appendCap (len+n) cap e) % (2 ^ 63 - (len+n)):=rfl
 generalize w.tape w.drawn (.appendCap (len+n) cap e) % (2 ^ 63 - (len+n))=ψ at*
 cases xd<;>first
  |(simp[qf] at hxd;done)
  |(simp[Builtin.append_,ru hu,ru hxu,rs hi,rt hi,hn,hnle,hbz,hfit,Question.forced,hold',hnew',rz hi hroom.zero,rn,hcut'];done)
end
inductive T (α:Type) where
 |leaf
 |node (l:T α) (v:Option α) (r:T α)
def T.get{α:Type}:T α->Nat->Option α
 | .leaf,_=>none
 | .node _ v _,0=>v
 | .node l _ r,n+1=>match n % 2 with
   |0=>l.get (n / 2)
   |_=>r.get (n / 2)
def T.put{α:Type}:Nat->T α->Nat->Option α->T α
 |0,t,_,_=>t
 |_+1, .leaf,0,x=> .node .leaf x .leaf
 |_+1, .node l _ r,0,x=> .node l x r
 |f+1, .leaf,n+1,x=>match n % 2 with
  |0=> .node (T.put f .leaf (n / 2) x) none .leaf
  |_=> .node .leaf none (T.put f .leaf (n / 2) x)
 |f+1, .node l v r,n+1,x=>match n % 2 with
  |0=> .node (T.put f l (n / 2) x) v r
  |_=> .node l v (T.put f r (n / 2) x)
def T.set{α:Type}(t:T α)(n:Nat)(x:α):T α:=T.put (n+1) t n (some x)
def T.del{α:Type}(t:T α)(n:Nat):T α:=T.put (n+1) t n none
theorem T.dA{α:Type}(m:Nat):(T.leaf:T α).get m=none:=by cases m<;>rfl
def T.lt{α:Type}:T α->T α| .leaf=> .leaf| .node l _ _=>l
def T.rt{α:Type}:T α->T α| .leaf=> .leaf| .node _ _ r=>r
def T.vl{α:Type}:T α->Option α| .leaf=>none| .node _ v _=>v
theorem T.fI{α:Type}(t:T α)(n:Nat):t.get (n+1)=if n % 2=0 then t.lt.get (n / 2) else t.rt.get (n / 2):=by
 cases t with
 |leaf=>simp[T.lt,T.rt,T.get]
 |node l v r=>
  simp only[T.get,T.lt,T.rt]
  split
  ·rename_i h;rw[if_pos h]
  ·rename_i h;rw[if_neg h]
theorem T.zF{α:Type}(t:T α):t.get 0=t.vl:=by cases t<;>rfl
theorem T.oR{α:Type}(f n:Nat)(t:T α)(x:Option α):T.put (f+1) t (n+1) x=
 if n % 2=0 then .node (T.put f t.lt (n / 2) x) t.vl t.rt else .node t.lt t.vl (T.put f t.rt (n / 2) x):=by
 cases t<;>(simp only[T.put,T.lt,T.rt,T.vl];split<;>(rename_i h;first|rw[if_pos h]|rw[if_neg h]))
theorem T.sJ{α:Type}(f:Nat)(t:T α)(x:Option α):T.put (f+1) t 0 x= .node t.lt x t.rt:=by cases t<;>rfl
theorem T.CQ{α:Type}(x:Option α): ∀(f n:Nat)(t:T α)(m:Nat),n<f->(T.put f t n x).get m=if m=n then x else t.get m:=by
 intro f
 induction f with
 |zero=>intro n t m h;omega
 |succ f ih=>
  intro n t m h
  cases n with
  |zero=>
   rw[T.sJ]
   cases m with
   |zero=>simp[T.get]
   |succ m=>rw[T.fI,T.fI];simp[T.lt,T.rt]
  |succ k=>
   have hk:k / 2<f:=by omega
   rw[T.oR]
   cases m with
   |zero=>rw[T.zF,T.zF];split<;>simp[T.vl]
   |succ m=>
    rw[T.fI,T.fI]
    by_cases hk2:k % 2=0
    ·rw[if_pos hk2]
     by_cases hm2:m % 2=0
     ·rw[if_pos hm2,if_pos hm2]
      simp only[T.lt]
      rw[ih _ _ _ hk]
      by_cases he:m=k
      ·subst he;simp
      ·rw[if_neg (by omega),if_neg (by omega)]
     ·rw[if_neg hm2,if_neg hm2,if_neg (by omega)];rfl
    ·rw[if_neg hk2]
     by_cases hm2:m % 2=0
     ·rw[if_pos hm2,if_pos hm2,if_neg (by omega)];rfl
     ·rw[if_neg hm2,if_neg hm2]
      simp only[T.rt]
      rw[ih _ _ _ hk]
      by_cases he:m=k
      ·subst he;simp
      ·rw[if_neg (by omega),if_neg (by omega)]
theorem T.aL{α:Type}(t:T α)(n m:Nat)(x:α):(t.set n x).get m=if m=n then some x else t.get m:=T.CQ _ _ _ _ _ (Nat.lt_succ_self n)
theorem T.fQ{α:Type}(t:T α)(n m:Nat):(t.del n).get m=if m=n then none else t.get m:=T.CQ _ _ _ _ _ (Nat.lt_succ_self n)
structure bg where
 cells:List Value
 cap:Nat
 kv:Nat
 elem:TypeId
 exact:Bool
 whole:Bool
 bN:Nat
 own:Bool
inductive nv where
 |call (f:FuncId) (args captured:List Value)
 |mark (r:Nat)
abbrev Tm:=T Value
structure Iy where
 st:LoopState
 pending:Option Code
 tm:Tm
 n:Nat
 params:List Tmp
 assign:Code
 body:Code
 defers:Nat
inductive aa where
 |ax (b:bg)
 |map (es:List MapEntry) (clock:Nat)
 |oE (s:ByteArray) (pos:Nat)
 |dw (m:Option Nat) (since:Nat) (seen:List Nat) (stepped:Nat)
 |loop (l:Iy)
 |fL (opened:Bool)
structure Hs where
 heap:T aa
 next:Nat
 log:List Nat
def simple:Value->Bool
 | .bool _| .int _ _| .string _| .pointer none| .slice none _ _| .map none| .nilFunc| .nilIface| .float _ _=>true
 | .slice (some ⟨_,_,some _⟩) 0 0=>true
 |_=>false
def rd(tm:Tm)(t:Nat):Value:=match tm.get t with|some v=>v|none=>undef
def qY:Value:= .chan none
def xb:Value->Option Value
 | .chan _=>none
 |v=>some v
def ev(tm:Tm):Operand->Option Value
 | .tmp t=>xb (rd tm t)
 | .const v=>match simple v with|true=>some v|false=>none
 | .global _=>none
 | .func f=>some (.func (.func f) #[] #[])
def we(tm:Tm):List Operand->Option (List Value)
 |[]=>some []
 |x::l=>match ev tm x with
  |some v=>match we tm l with
   |some vs=>some (v::vs)
   |none=>none
  |none=>none
def iQ(tm:Tm):List (Nat × Operand)->Option (List (Nat × Value))
 |[]=>some []
 |(i,x)::l=>match ev tm x with
  |some v=>match iQ tm l with
   |some vs=>some ((i,v)::vs)
   |none=>none
  |none=>none
def prun{α:Type}(P:Program):Sem α->Option α
 | .pure a=>some a
 | .program k=>prun P (k P)
 | .mark _ k=>prun P k
 |_=>none
mutual
def au:Value->Bool
 | .bool _| .int _ _| .string _| .float _ _| .nilFunc| .nilIface| .pointer none| .slice none _ _| .map none=>true
 | .agg ⟨cs⟩=>bG cs
 | .tuple ⟨cs⟩=>bG cs
 |_=>false
def bG:List Value->Bool
 |[]=>true
 |v::l=>match au v with|true=>bG l|false=>false
end
def aW:Value->List Value
 | .agg cs=>cs.toList
 |v=>[v]
def tB:Value->Bool
 | .agg _| .tuple _=>false
 |_=>true
def cG:List Value->Bool
 |[]=>true
 |v::l=>match tB v with|true=>cG l|false=>false
def takeN{α:Type}:Nat->List α->Option (List α)
 |0,_=>some []
 |_+1,[]=>none
 |n+1,a::l=>match takeN n l with|some r=>some (a::r)|none=>none
def gg{α:Type}:Nat->List α->List α
 |0,l=>l
 |_+1,[]=>[]
 |n+1,_::l=>gg n l
def nth{α:Type}:List α->Nat->Option α
 |[],_=>none
 |a::_,0=>some a
 |_::l,n+1=>nth l n
def overwrite:List Value->Nat->List Value->Option (List Value)
 |cs,0,[]=>some cs
 |[],0,vs=>some vs
 |_::cs,0,v::vs=>match overwrite cs 0 vs with|some r=>some (v::r)|none=>none
 |c::cs,n+1,vs=>match overwrite cs n vs with|some r=>some (c::r)|none=>none
 |[],_+1,_=>none
def kW:TypeDesc->Bool
 | .struct _| .array _ _=>true
 |_=>false
def mQ(P:Program)(h:Hs)(t:TypeId)(b off:Nat):Option Value:=
 match h.heap.get b with
 |some (.ax k)=>
  match P.underlying t with
  |some d=>match kW d with
   |true=>match P.info? t with
    |some i=>match takeN i.size (gg off k.cells) with
     |some cs=>some (.agg ⟨cs⟩)
     |none=>none
    |none=>none
   |false=>nth k.cells off
  |none=>none
 |_=>none
def dr(h:Hs)(b off:Nat)(vs:List Value):Option Hs:=
 match h.heap.get b with
 |some (.ax k)=>
  match k.own,k.bN with
  |true,0|true,1=>
   match cG vs,overwrite k.cells off vs with
   |true,some cs=>match Nat.ble cs.length k.cap with
    |true=>some {h with heap:=h.heap.set b (.ax {k with cells:=cs}),log:=b::h.log}
    |false=>none
   |_,_=>none
  |_,_=>none
 |_=>none
def cA(h:Hs)(o:aa):Hs:={heap:=h.heap.set h.next o,next:=h.next+1,log:=h.log}
def gw(h:Hs)(elem kv:Nat)(cells:List Value):Hs:=
 cA h (.ax {cells,cap:=cells.length,kv,elem,exact:=true,whole:=true,bN:=0,own:=true})
def ptrTo(id:Nat):Value:= .pointer (some ⟨id,0,none⟩)
inductive bW where
 |val (v:Value) (h:Hs)
 |skip (h:Hs)
 |call (f:FuncId) (args:List Value)
 |round (l:Nat) (args:List Value)
 |fL (d:nv)
def kg(P:Program)(s:Sem Value):Option Value:=match prun P s with
 |some v=>match au v with
  |true=>some v
  |false=>none
 |none=>none
def CS(P:Program)(h:Hs)(d:TypeDesc)(x y:Value):Option Bool:=match d,x,y with
 | .pointer _, .pointer none, .pointer b=>some b.isNone
 | .pointer _, .pointer (some _), .pointer none=>some false
 | .pointer e, .pointer (some a), .pointer (some b)=>match P.info? e,a.spot,b.spot with
   |some i,none,none=>match i.size with
    |0=>none
    |_+1=>
     match Nat.beq a.block b.block,h.heap.get a.block,h.heap.get b.block with
     |true,_,_=>some (Nat.beq a.off b.off)
     |false,some (.ax k),some (.ax l)=>match l.own,k.bN,l.bN with
      |true,0,0=>some false
      |_,_,_=>none
     |_,_,_=>none
   |_,_,_=>none
 | .slice _, .slice none _ _, .slice b _ _=>some b.isNone
 | .slice _, .slice (some _) _ _, .slice none _ _=>some false
 | .map _ _, .map none, .map b=>some b.isNone
 | .map _ _, .map (some _), .map none=>some false
 | .func _ _ _, .func .., .nilFunc=>some false
 | .func _ _ _, .nilFunc, .func .. =>some false
 |_,_,_=>none
def xS(P:Program)(h:Hs)(op:BinOp)(xt:TypeId)(ox oy:Operand)(x y:Value):Option Value:=
 match au x,au y with
 |true,true=>kg P (do eqGuard op xt ox oy x y;binOp op xt x y)
 |_,_=>match P.underlying xt with
  |some d=>match op with
   | .eql=>match CS P h d x y with|some b=>some (.bool b)|none=>none
   | .neq=>match CS P h d x y with|some b=>some (.bool (!b))|none=>none
   |_=>none
  |none=>none
def xa:List Value->Bool
 |[]=>false
 |_::_=>true
def xB(v:Value)(hi:Nat):Option Nat:=match v with
 | .int _ (.ofNat i)=>match Nat.ble i hi with|true=>some i|false=>none
 |_=>none
def bP(tm:Tm)(o:Option Operand)(dflt hi:Nat):Option Nat:=match o with
 |none=>match Nat.ble dflt hi with
  |true=>some dflt
  |false=>none
 |some o=>match ev tm o with
  |some v=>xB v hi
  |none=>none
def oD(tm:Tm)(s:ByteArray)(lo hi:Option Operand):Option Value:=
 match bP tm hi s.size s.size with
 |some h=>match bP tm lo 0 h with
  |some l=>some (.string (s.extract l h))
  |none=>none
 |none=>none
def gn(h:Hs)(tm:Tm)(size:Nat)(a:Option Addr)(len cap:Nat)(lo hi mx:Option Operand):Option bW:=
 match a,mx with
 |none,none=>
  match cap,bP tm hi len cap with
  |0,some hh=>match bP tm lo 0 hh with
   |some l=>some (.val (.slice none (hh - l) (cap - l)) h)
   |none=>none
  |_,_=>none
 |some ad,none=>
  match ad.spot,h.heap.get ad.block,bP tm hi len cap with
  |none,some (.ax k),some hh=>match bP tm lo 0 hh with
   |some l=>match Nat.beq cap l with
    |false=>some (.val (.slice (some ⟨ad.block,ad.off+l*size,none⟩) (hh - l) (cap - l)) h)
    |true=>match k.exact with
     |true=>some (.val (.slice (some ad) (hh - l) (cap - l)) h)
     |false=>some (.val (.slice (some ⟨h.next,0,none⟩) 0 0) {h with next:=h.next+1})
   |none=>none
  |_,_,_=>none
 |some ad,some mo=>
  match ad.spot,h.heap.get ad.block,bP tm (some mo) 0 cap with
  |none,some (.ax k),some m=>match bP tm hi len m,hi with
   |some hh,some _=>match bP tm lo 0 hh with
    |some l=>match Nat.beq hh m,k.own,k.exact with
     |true,true,_=>match takeN ((hh - l)*size) (gg (ad.off+l*size) k.cells) with
      |some cs=>
       some (.val (.slice (some ⟨h.next,0,none⟩) (hh - l) (hh - l))
        {heap:=(h.heap.del ad.block).set h.next (.ax {k with cells:=cs,cap:=(hh - l)*size,kv:=size,exact:=true,whole:=false,own:=xa cs}),next:=h.next+1,log:=ad.block::h.log})
      |none=>none
     |_,_,_=>none
    |none=>none
   |_,_=>none
  |_,_,_=>none
 |none,some mo=>
  match cap,bP tm (some mo) 0 cap,hi with
  |0,some m,some ho=>match bP tm (some ho) 0 m with
   |some hh=>match bP tm lo 0 hh with
    |some l=>some (.val (.slice none (hh - l) (m - l)) h)
    |none=>none
   |none=>none
  |_,_,_=>none
def lq(P:Program)(tm:Tm)(h:Hs)(xt:TypeId)(x:Value)(lo hi mx:Option Operand):Option bW:=
 match P.underlying xt,x with
 |some .string, .string s=>match mx with
  |none=>match oD tm s lo hi with|some v=>some (.val v h)|none=>none
  |some _=>none
 |some (.slice e), .slice a len cap=>match P.info? e with
  |some i=>gn h tm i.size a len cap lo hi mx
  |none=>none
 |some (.array n e), .pointer (some ad)=>match P.info? e,mx,ad.spot,h.heap.get ad.block with
  |some i,none,none,some (.ax k)=>match k.exact,bP tm hi n n with
   |true,some hh=>match bP tm lo 0 hh with
    |some l=>match Nat.beq n l with
     |true=>some (.val (.slice (some ad) (hh - l) (n - l)) h)
     |false=>some (.val (.slice (some ⟨ad.block,ad.off+l*i.size,none⟩) (hh - l) (n - l)) h)
    |none=>none
   |_,_=>none
  |_,_,_,_=>none
 |_,_=>none
def lh:List UInt8->List Value
 |[]=>[]
 |b::l=> .int .u8 b.toNat::lh l
def cM:List Value->Option (List UInt8)
 |[]=>some []
 | .int .u8 (.ofNat n)::l=>match cM l with|some r=>some (UInt8.ofNat n::r)|none=>none
 |_::_=>none
def eW(h:Hs)(size n:Nat):Value->Option (List Value)
 | .slice none _ _=>some []
 | .slice (some a) _ _=>match n with
   |0=>some []
   |_+1=>match a.spot,h.heap.get a.block with
    |none,some (.ax k)=>takeN (n*size) (gg a.off k.cells)
    |_,_=>none
 | .string s=>match takeN n s.data.toList with
   |some l=>some (lh l)
   |none=>none
 |_=>none
def nY:Value->Option Nat
 | .slice _ n _=>some n
 | .string s=>some s.size
 |_=>none
def iY:Nat:=1099511627776
def sB(i:TypeInfo)(n:Nat):Bool:=match i.zero with
 |some z=>Nat.beq (aW z).length i.size && Nat.ble (n*i.bytes) iY && Nat.ble n iY && Nat.blt 0 i.bytes && Nat.ble i.bytes 1048576
 |none=>false
def fp(P:Program)(h:Hs)(ats:List TypeId)(s x:Value):Option bW:=
 match ats with
 |[st,xt]=>
  match P.underlying st,P.underlying xt with
  |some (.slice e),some xd=>match xd,P.info? e with
   | .int _,_=>none
   |_,some i=>match nY x,s with
    |some n, .slice base len cap=>
     match eW h i.size n x with
     |some new=>
      match Nat.ble (len+n) cap with
      |true=>match base with
       |none=>match new with|[]=>some (.val (.slice none (len+n) cap) h)|_=>none
       |some a=>match a.spot,new with
        |none,[]=>some (.val (.slice (some a) (len+n) cap) h)
        |none,_=>match dr h a.block (a.off+len*i.size) new with
         |some h=>some (.val (.slice (some a) (len+n) cap) h)
         |none=>none
        |_,_=>none
      |false=>match sB i (len+n) && Nat.beq new.length (n*i.size) with
       |true=>match base with
        |none=>match len,cap with
         |0,0=>some (.val (.slice (some ⟨h.next,0,none⟩) n n)
          (cA h (.ax {cells:=new,cap:=n*i.size,kv:=i.size,elem:=e,exact:=false,whole:=false,bN:=0,own:=true})))
         |_,_=>none
        |some a=>match a.spot,h.heap.get a.block with
         |none,some (.ax k)=>match takeN (len*i.size) (gg a.off k.cells) with
          |some ie=>match k.exact with
           |true=>some (.val (.slice (some ⟨h.next,0,none⟩) (len+n) (len+n))
            (cA h (.ax {cells:=ie++new,cap:=(len+n)*i.size,kv:=i.size,elem:=e,exact:=false,whole:=false,bN:=0,own:=true})))
           |false=>match k.own,k.bN,Nat.beq (a.off+cap*i.size) k.cap,Nat.beq k.kv i.size && Nat.beq k.elem e && cG new with
            |true,0,true,true=>some (.val (.slice (some ⟨h.next,0,none⟩) (len+n) (len+n))
             {heap:=(h.heap.del a.block).set h.next (.ax {cells:=ie++new,cap:=(len+n)*i.size,kv:=i.size,elem:=e,exact:=false,whole:=false,bN:=0,own:=true}),next:=h.next+1,log:=a.block::h.log})
            |_,_,_,_=>none
          |none=>none
         |_,_=>none
       |false=>none
     |none=>none
    |_,_=>none
   |_,_=>none
  |_,_=>none
 |_=>none
def aA(P:Program)(kt:TypeId)(k:Value):List MapEntry->Nat->Option (Option (Nat × Value))
 |[],_=>some none
 |e::es,i=>match au e.key with
  |true=>match prun P (Op.equal kt k e.key) with
   |some true=>some (some (i,e.val))
   |some false=>aA P kt k es (i+1)
   |none=>none
  |false=>none
def pH(P:Program)(kt:TypeId)(k:Value):Bool:=
 match au k with
 |true=>match prun P (Instr.checkKey false 10000 kt k),prun P (Instr.checkKey true 10000 kt k) with
  |some (),some ()=>true
  |_,_=>false
 |false=>false
def pW:Nat->Value->List MapEntry->List MapEntry
 |_,_,[]=>[]
 |0,x,a::l=>{a with val:=x}::l
 |n+1,x,a::l=>a::pW n x l
def cX:Nat->Value->Value->List MapEntry->List MapEntry
 |_,_,_,[]=>[]
 |0,k,x,a::l=>{a with key:=k,val:=x}::l
 |n+1,k,x,a::l=>a::cX n k x l
def Dw:Nat->Value->List MapEntry->List MapEntry
 |_,_,[]=>[]
 |0,k,a::l=>{a with key:=k}::l
 |n+1,k,a::l=>a::Dw n k l
def ob:Nat->List MapEntry->List MapEntry
 |_,[]=>[]
 |0,_::l=>l
 |n+1,a::l=>a::ob n l
def rep{α:Type}:Nat->List α->List α
 |0,_=>[]
 |n+1,l=>l++rep n l
def bu(P:Program)(h:Hs)(b:Builtin)(ats:List TypeId)(args:List Value):Option bW:=
 match b,args with
 | .append,[s,x]=>fp P h ats s x
 | .len,[x]=>match ats with
   |t::_=>match P.underlying t,x with
    |some .string, .string s=>some (.val (goInt s.size) h)
    |some (.array n _),_=>some (.val (goInt n) h)
    |some (.slice _), .slice _ n _=>some (.val (goInt n) h)
    |some (.map _ _), .map none=>some (.val (goInt 0) h)
    |some (.map _ _), .map (some r)=>match h.heap.get r with
     |some (.map es _)=>some (.val (goInt es.length) h)
     |_=>none
    |_,_=>none
   |[]=>none
 | .cap,[x]=>match ats with
   |t::_=>match P.underlying t,x with
    |some (.slice _), .slice none _ n=>some (.val (goInt n) h)
    |some (.slice _), .slice (some a) _ n=>match h.heap.get a.block with
     |some (.ax k)=>match k.exact with|true=>some (.val (goInt n) h)|false=>none
     |_=>none
    |_,_=>none
   |[]=>none
 | .copy,[d,s]=>match ats with
   |t::_=>match P.underlying t with
    |some (.slice e)=>match P.info? e,d,nY s with
     |some i, .slice base dl _,some sl=>match eW h i.size (Nat.min sl dl) s with
      |some cs=>match base,cs with
       |none,_=>some (.val (goInt (Nat.min sl dl)) h)
       |some _,[]=>some (.val (goInt (Nat.min sl dl)) h)
       |some a,_=>match a.spot,dr h a.block a.off cs with
        |none,some h=>some (.val (goInt (Nat.min sl dl)) h)
        |_,_=>none
      |none=>none
     |_,_,_=>none
    |_=>none
   |[]=>none
 | .delete,[m,k]=>match ats with
   |t::_=>match P.underlying t,m with
    |some (.map kt _), .map none=>match pH P kt k with|true=>some (.val (.tuple #[]) h)|false=>none
    |some (.map kt _), .map (some r)=>match pH P kt k,h.heap.get r with
     |true,some (.map es c)=>match aA P kt k es 0 with
      |some (some (i,_))=>some (.val (.tuple #[]) {h with heap:=h.heap.set r (.map (ob i es) c),log:=r::h.log})
      |some none=>some (.val (.tuple #[]) h)
      |none=>none
     |_,_=>none
    |_,_=>none
   |[]=>none
 | .clear,[x]=>match ats with
   |t::_=>match P.underlying t,x with
    |some (.slice e), .slice (some a) n _=>match P.info? e,a.spot with
     |some i,none=>match i.zero,(i.zero.map au).getD false with
      |some z,true=>match n with
       |0=>some (.val (.tuple #[]) h)
       |_=>match dr h a.block a.off (rep n (aW z)) with
        |some h=>some (.val (.tuple #[]) h)
        |none=>none
      |_,_=>none
     |_,_=>none
    |_,_=>none
   |[]=>none
 | .min,l=>match bG l with
   |true=>match kg P (Builtin.min_ #[] 0 ⟨l⟩) with|some v=>some (.val v h)|none=>none
   |false=>none
 | .max,l=>match bG l with
   |true=>match kg P (Builtin.max_ #[] 0 ⟨l⟩) with|some v=>some (.val v h)|none=>none
   |false=>none
 | .unsafeString,[p,n]=>match ats with
   |t::_=>match p,n with
    | .pointer none, .int _ (.ofNat 0)=>some (.val (.string .empty) h)
    | .pointer (some a), .int _ (.ofNat n)=>match n,a.spot,h.heap.get a.block,P.underlying t with
      |_+1,none,some (.ax k),some (.pointer et)=>match takeN n (gg a.off k.cells),P.underlying et,Nat.beq k.elem et,P.info? et with
       |some cs,some (.int .u8),true,some i=>match cM cs,Nat.beq i.size 1,Nat.ble n iY,k.own with
        |some bs,true,true,true=>some (.val (.string ⟨⟨bs⟩⟩) {h with heap:=h.heap.set a.block (.ax {k with bN:=2}),log:=a.block::h.log})
        |_,_,_,_=>none
       |_,_,_,_=>none
      |_,_,_,_=>none
    |_,_=>none
   |[]=>none
 | .unsafeSliceData,[x]=>match x with
   | .slice none _ _=>some (.val (.pointer none) h)
   | .slice (some a) _ (_+1)=>some (.val (.pointer (some a)) h)
   |_=>none
 |_,_=>none
def mB(P:Program)(h:Hs)(src dst:TypeId)(x:Value):Option bW:=
 match P.underlying src,P.underlying dst with
 |some s,some d=>match s,d,x with
  |_, .int k, .int _ n=>some (.val (.int k (k.wrap n)) h)
  |_, .string, .int _ n=>some (.val (.string (Utf8.encode n)) h)
  |_, .string, .string t=>some (.val (.string t) h)
  | .string, .slice e, .string t=>match P.underlying e with
    |some (.int .u8)=>some (.val (.slice (some ⟨h.next,0,none⟩) t.size t.size)
     (cA h (.ax {cells:=lh t.data.toList,cap:=t.size,kv:=1,elem:=e,exact:=false,whole:=false,bN:=1,own:=true})))
    |_=>none
  | .slice e, .string,x=>match P.underlying e with
    |some (.int .u8)=>match x with
     | .slice none _ _=>some (.val (.string .empty) h)
     | .slice (some a) n _=>match a.spot,h.heap.get a.block with
       |none,some (.ax k)=>match takeN n (gg a.off k.cells) with
        |some cs=>match cM cs with
         |some bs=>some (.val (.string ⟨⟨bs⟩⟩) h)
         |none=>none
        |none=>none
       |_,_=>none
     |_=>none
    |_=>none
  | .pointer _, .unsafePointer, .pointer none=>some (.val (.pointer none) h)
  | .pointer t, .unsafePointer, .pointer (some a)=>match a.spot,h.heap.get a.block,P.info? t with
    |none,some (.ax k),some i=>match i.size,Nat.ble k.cap a.off,k.own with
     |_+1,false,true=>some (.val (.pointer (some a)) h)
     |_,_,_=>none
    |_,_,_=>none
  | .unsafePointer, .pointer _, .pointer none=>some (.val (.pointer none) h)
  | .unsafePointer, .pointer u, .pointer (some a)=>match a.spot,h.heap.get a.block,P.info? u with
    |none,some (.ax k),some i=>match i.size,k.whole with
     |_+1,true=>match liesAt P P.depth k.elem (k.cap / P.cellsOf k.elem) a.off u 1 with
      |true=>some (.val (.pointer (some a)) h)
      |false=>none
     |_,_=>none
    |_,_,_=>none
  |_,_,_=>none
 |_,_=>none
def mq(fn:Func):Nat:=
 if fn.origin= "" then
  if fn.name= "internal/abi.NoEscape" then 1
  else if fn.name= "internal/bytealg.MakeNoZero" then 2
  else if fn.name= "internal/bytealg.IndexByteString" then 3
  else if fn.name= "internal/bytealg.CountString" then 4
  else 0
 else 0
def pJ(P:Program)(h:Hs)(fn:Func)(args:List Value):Option bW:=
 match mq fn,args with
 |1,[x]=>some (.val x h)
 |2,[.int .i64 (.ofNat n)]=>match fn.resultTypes.toList with
  |t::_=>match P.underlying t,Nat.ble n iY with
   |some (.slice e),true=>some (.val (.slice (some ⟨h.next,0,none⟩) n n)
    (cA h (.ax {cells:=[],cap:=n,kv:=1,elem:=e,exact:=false,whole:=false,bN:=0,own:=true})))
   |_,_=>none
  |[]=>none
 |3,[x,y]=>match au x,au y with
  |true,true=>match kg P (Extern.BytealgIndexByte.indexByte #[x,y]) with
   |some v=>some (.val v h)
   |none=>none
  |_,_=>none
 |4,[x,y]=>match au x,au y with
  |true,true=>match kg P (Extern.BytealgCount.count #[x,y]) with
   |some v=>some (.val v h)
   |none=>none
  |_,_=>none
 |_,_=>none
def rJ(fields:Array Field)(i:Nat):Option Field:=nth fields.toList i
def Co(P:Program)(t:TypeId)(cs:List Value)(off:Nat):Option Value:=
 match P.underlying t with
 |some d=>match kW d with
  |true=>match P.info? t with
   |some i=>some (.agg (Array.mk cs|>.extract off (off+i.size)))
   |none=>none
  |false=>nth cs off
 |none=>none
def oS(P:Program):List Field->Option (List (Nat × Nat))
 |[]=>some []
 |f::l=>match P.info? f.type with
  |some i=>match oS P l with
   |some r=>some ((f.offset,i.size)::r)
   |none=>none
  |none=>none
def tJ(place:Nat->Option (Nat × Nat))(cells:List Value):List (Nat × Value)->Option (List Value)
 |[]=>some cells
 |(i,v)::rest=>match place i with
  |some (off,size)=>match Nat.beq (aW v).length size,Nat.ble (off+(aW v).length) cells.length,overwrite cells off (aW v) with
   |true,true,some cs=>tJ place cs rest
   |_,_,_=>none
  |none=>none
def uk(P:Program)(tm:Tm)(h:Hs)(t:TypeId)(parts:List (Nat × Operand)):Option bW:=
 match iQ tm parts,P.info? t,P.underlying t with
 |some ps,some ti,some d=>match ti.zero,d with
  |some z, .struct fields=>match au z,oS P fields.toList with
   |true,some pl=>match tJ (nth pl) (aW z) ps with
    |some cs=>some (.val (.agg ⟨cs⟩) h)
    |none=>none
   |_,_=>none
  |some z, .array _ e=>match au z,P.info? e with
   |true,some ei=>match tJ (fun i=>some (i*ei.size,ei.size)) (aW z) ps with
    |some cs=>some (.val (.agg ⟨cs⟩) h)
    |none=>none
   |_,_=>none
  |_,_=>none
 |_,_,_=>none
def xR(P:Program)(h:Hs)(t:TypeId)(x:Value)(f:Nat):Option bW:=
 match P.underlying t,x with
 |some (.struct fields), .agg ⟨cs⟩=>match rJ fields f with
  |some f=>match Co P f.type cs f.offset with
   |some v=>some (.val v h)
   |none=>none
  |none=>none
 |_,_=>none
def BS(h:Hs):Value->Option (List MapEntry)
 | .map none=>some []
 | .map (some r)=>match h.heap.get r with
   |some (.map es _)=>some es
   |_=>none
 |_=>none
def m9(P:Program)(h:Hs)(t:TypeId)(m k:Value)(ok:Bool):Option bW:=
 match P.underlying t with
 |some (.map kt e)=>match pH P kt k,BS h m with
  |true,some es=>match aA P kt k es 0 with
   |some (some (_,v))=>some (.val (match ok with|true=> .tuple #[v, .bool true]|false=>v) h)
   |some none=>match P.info? e with
    |some i=>match i.zero with
     |some z=>match au z with
      |true=>some (.val (match ok with|true=> .tuple #[z, .bool false]|false=>z) h)
      |false=>none
     |none=>none
    |none=>none
   |none=>none
  |_,_=>none
 |_=>none
def gW(P:Program)(h:Hs)(t:TypeId)(m k x:Value):Option bW:=
 match P.underlying t,m with
 |some (.map kt _), .map (some r)=>match pH P kt k,h.heap.get r with
  |true,some (.map es c)=>match aA P kt k es 0 with
   |some (some (i,_))=>match nth es i with
    |some e=>match au e.key && Instr.sameBits 10000 e.key k with
     |true=>some (.skip {h with heap:=h.heap.set r (.map (cX i k x es) c),log:=r::h.log})
     |false=>none
    |none=>none
   |some none=>some (.skip {h with heap:=h.heap.set r (.map (es++[{key:=k,val:=x,born:=c}]) (c+1)),log:=r::h.log})
   |none=>none
  |_,_=>none
 |_,_=>none
def mZ(P:Program)(h:Hs)(t:TypeId)(m k:Value):Option bW:=
 match P.underlying t,m with
 |some (.map kt el), .map (some r)=>match pH P kt k,h.heap.get r with
  |true,some (.map es c)=>match aA P kt k es 0 with
   |some (some (i,v))=>match nth es i with
    |some e=>match au e.key && Instr.sameBits 10000 e.key k with
     |true=>some (.val (.tuple #[v,goInt e.born]) {h with heap:=h.heap.set r (.map (Dw i k es) c),log:=r::h.log})
     |false=>none
    |none=>none
   |some none=>match P.info? el with
    |some i=>match i.zero with
     |some z=>match au z with
      |true=>some (.val (.tuple #[z,goInt c]) {h with heap:=h.heap.set r (.map (es++[{key:=k,val:=z,born:=c}]) (c+1)),log:=r::h.log})
      |false=>none
     |none=>none
    |none=>none
   |none=>none
  |_,_=>none
 |_,_=>none
def tZ(s:Int):List MapEntry->Nat->Option Nat
 |[],_=>none
 |e::es,i=>match decide ((e.born:Int)=s) with
  |true=>some i
  |false=>tZ s es (i+1)
def jL(h:Hs)(m s x:Value):Option bW:=
 match m,s with
 | .map (some r), .int _ s=>match h.heap.get r with
   |some (.map es c)=>match tZ s es 0 with
    |some i=>some (.skip {h with heap:=h.heap.set r (.map (pW i x es) c),log:=r::h.log})
    |none=>none
   |_=>none
 |_,_=>none
def kh(n:Nat):List Nat->Bool
 |[]=>false
 |m::l=>match Nat.beq m n with|true=>true|false=>kh n l
def vY(seen:List Nat):List MapEntry->List MapEntry
 |[]=>[]
 |e::es=>match kh e.born seen with
  |true=>vY seen es
  |false=>e::vY seen es
def Da(h:Hs)(it:Value)(isString:Bool):Option bW:=
 match it with
 | .pointer (some ⟨b,0,none⟩)=>match h.heap.get b,isString with
   |some (.oE s pos),true=>match Nat.blt pos s.size with
    |true=>match Utf8.decode s pos with
     |(c,w)=>some (.val (.tuple #[.bool true,goInt pos, .int .i32 c]) {h with heap:=h.heap.set b (.oE s (pos+w)),log:=b::h.log})
    |false=>some (.val (.tuple #[.bool false]) h)
   |some (.dw none _ _ _),false=>some (.val (.tuple #[.bool false]) h)
   |some (.dw (some m) since seen last),false=>match h.heap.get m with
    |some (.map es c)=>match vY seen es with
     |[]=>match seen,es with
      |[],_=>some (.val (.tuple #[.bool false]) h)
      |_,e::_=>match Nat.blt e.born last with
       |true=>some (.val (.tuple #[.bool false]) h)
       |false=>none
      |_,[]=>some (.val (.tuple #[.bool false]) h)
     |[e]=>match Nat.blt e.born since,seen with
      |true,[]=>some (.val (.tuple #[.bool true,e.key,e.val]) {h with heap:=h.heap.set b (.dw (some m) since (e.born::seen) c),log:=b::h.log})
      |_,_=>none
     |_=>none
    |_=>none
   |_,_=>none
 |_=>none
def eY(st:Nat):List MapEntry->Option MapEntry
 |[]=>none
 |e::es=>match Nat.beq e.born st with
  |true=>some e
  |false=>eY st es
def uj(h:Hs)(it:Value):Option bW:=
 match it with
 | .pointer (some ⟨b,0,none⟩)=>match h.heap.get b with
   |some (.dw (some m) _ (st::_) stepped)=>match h.heap.get m with
    |some (.map es c)=>match Nat.beq c stepped,eY st es with
     |true,some e=>some (.val (.tuple #[e.key,e.val]) h)
     |_,_=>none
    |_=>none
   |_=>none
 |_=>none
def xM(P:Program)(h:Hs)(t:TypeId)(x:Value):Option bW:=
 match P.underlying t,x with
 |some .string, .string s=>some (.val (ptrTo h.next) (cA h (.oE s 0)))
 |some (.map _ _), .map none=>some (.val (ptrTo h.next) (cA h (.dw none 0 [] 0)))
 |some (.map _ _), .map (some m)=>match h.heap.get m with
  |some (.map _ c)=>some (.val (ptrTo h.next) (cA h (.dw (some m) c [] c)))
  |_=>none
 |_,_=>none
def jM(P:Program)(tm:Tm)(h:Hs)(c:Call):Option bW:=
 match we tm c.args.toList with
 |some args=>match c.callee with
  | .builtin b=>bu P h b c.argTypes.toList args
  | .value f=>match ev tm f with
    |some (.func (.func f) ⟨first⟩ ⟨captured⟩)=>match P.funcs[f]? with
     |some fn=>match fn.body with
      |some _=>match decide (fn.name= "runtime.NumGoroutine") with
       |true=>none
       |false=>some (.call f ((first++args)++captured))
      |none=>pJ P h fn ((first++args)++captured)
     |none=>none
    |some (.func (.yield l) ⟨first⟩ _)=>some (.round l (first++args))
    |_=>none
  | .invoke _ _=>none
 |none=>none
def qp(tm:Tm)(c:Call):Option bW:=
 match we tm c.args.toList with
 |some args=>match c.callee with
  | .value f=>match ev tm f with
    |some (.func (.func f) ⟨first⟩ ⟨captured⟩)=>some (.fL (.call f (first++args) captured))
    |_=>none
  |_=>none
 |none=>none
def gX(P:Program)(h:Hs)(t:TypeId)(l c:Value):Option bW:=
 match P.underlying t,l,c with
 |some (.slice e), .int _ (.ofNat l), .int _ (.ofNat c)=>match P.info? e,Nat.ble l c,Nat.ble c 1048576 with
  |some i,true,true=>match i.zero,Nat.ble i.bytes 1048576 with
   |some z,true=>match au z,cG (aW z),Nat.beq (aW z).length i.size with
    |true,true,true=>some (.val (.slice (some ⟨h.next,0,none⟩) l c) (gw h e i.size (rep c (aW z))))
    |_,_,_=>none
   |_,_=>none
  |_,_,_=>none
 |_,_,_=>none
def iA(P:Program)(tm:Tm)(h:Hs)(t:TypeId)(len:Nat)(parts:List (Nat × Operand)):Option bW:=
 match P.underlying t,iQ tm parts with
 |some (.slice e),some ps=>match P.info? e with
  |some i=>match i.zero with
   |some z=>match au z,Nat.beq (aW z).length i.size,Nat.ble (len*i.size) 16777216,tJ (fun j=>some (j*i.size,i.size)) (rep len (aW z)) ps with
    |true,true,true,some cs=>some (.val (.slice (some ⟨h.next,0,none⟩) len len) (gw h e i.size cs))
    |_,_,_,_=>none
   |none=>none
  |none=>none
 |_,_=>none
def gY(P:Program)(h:Hs)(t:TypeId)(x i:Value):Option bW:=
 match P.underlying t,x,i with
 |some (.array n e), .pointer (some a), .int _ (.ofNat i)=>match P.info? e,a.spot,Nat.blt i n with
  |some ei,none,true=>some (.val (.pointer (some ⟨a.block,a.off+i*ei.size,none⟩)) h)
  |_,_,_=>none
 |some (.slice e), .slice (some a) n _, .int _ (.ofNat i)=>match P.info? e,a.spot,Nat.blt i n with
  |some ei,none,true=>some (.val (.pointer (some ⟨a.block,a.off+i*ei.size,none⟩)) h)
  |_,_,_=>none
 |_,_,_=>none
def xQ(P:Program)(h:Hs)(t:TypeId)(x i:Value):Option bW:=
 match P.underlying t,x,i with
 |some (.array n e), .agg ⟨cs⟩, .int _ (.ofNat i)=>match P.info? e,Nat.blt i n with
  |some ei,true=>match Co P e cs (i*ei.size) with
   |some v=>some (.val v h)
   |none=>none
  |_,_=>none
 |some .string, .string s, .int _ (.ofNat i)=>match nth s.data.toList i with
  |some b=>some (.val (.int .u8 b.toNat) h)
  |none=>none
 |_,_,_=>none
def lz(P:Program)(h:Hs)(s:TypeId)(x:Value)(f:Nat):Option bW:=
 match P.underlying s,x with
 |some (.struct fields), .pointer (some a)=>match rJ fields f,a.spot with
  |some f,none=>match P.info? f.type with
   |some i=>match i.size with
    |0=>none
    |_+1=>some (.val (.pointer (some ⟨a.block,a.off+f.offset,none⟩)) h)
   |none=>none
  |_,_=>none
 |_,_=>none
def jx(f:Value->Value->Option bW)(a b:Option Value):Option bW:=match a,b with
 |some a,some b=>f a b
 |_,_=>none
def gR(f:Value->Option bW)(a:Option Value):Option bW:=match a with
 |some a=>f a
 |none=>none
def A6(f:Value->Value->Value->Option bW)(a b c:Option Value):Option bW:=match a,b,c with
 |some a,some b,some c=>f a b c
 |_,_,_=>none
def uh(P:Program)(h:Hs)(t:TypeId)(a:Value):Option bW:=match a with
 | .pointer (some ⟨b,off,none⟩)=>match mQ P h t b off with
   |some v=>some (.val v h)
   |none=>none
 |_=>none
def oh(P:Program)(h:Hs)(t:TypeId)(a v:Value):Option bW:=match a with
 | .pointer (some ⟨b,off,none⟩)=>match P.info? t with
   |some i=>match Nat.beq (aW v).length i.size,aW v,dr h b off (aW v) with
    |true,_::_,some h=>some (.skip h)
    |_,_,_=>none
   |none=>none
 |_=>none
def mY(h:Hs)(v:Value):Option bW:=match v with
 | .pointer (some a)=>some (.val (.pointer (some a)) h)
 | .func (.func f) a b=>some (.val (.func (.func f) a b) h)
 | .func (.yield f) a b=>some (.val (.func (.yield f) a b) h)
 |_=>none
def pI(h:Hs)(v:Value)(i:Nat):Option bW:=match v with
 | .tuple ⟨vs⟩=>match nth vs i with
   |some v=>some (.val v h)
   |none=>none
 |_=>none
def xI(P:Program)(h:Hs)(op:UnOp)(v:Value):Option bW:=match au v with
 |true=>match kg P (Op.unary op v) with
  |some v=>some (.val v h)
  |none=>none
 |false=>none
def dF(P:Program)(tm:Tm)(h:Hs)(o:Oper):Option bW:=
 match o.op with
 | .move x| .assign x=>gR (fun v=>some (.val v h)) (ev tm x)
 | .pick c a b=>match ev tm c with
   |some (.bool true)=>gR (fun v=>some (.val v h)) (ev tm a)
   |some (.bool false)=>gR (fun v=>some (.val v h)) (ev tm b)
   |_=>none
 | .alloc e=>match P.info? e with
   |some i=>match i.zero with
    |some z=>match au z with
     |true=>some (.val (ptrTo h.next) (gw h e 1 (aW z)))
     |false=>none
    |none=>none
   |none=>none
 | .box e x=>gR (fun v=>some (.val (ptrTo h.next) (gw h e 1 (aW v)))) (ev tm x)
 | .build t parts=>uk P tm h t parts.toList
 | .buildSlice t len parts=>iA P tm h t len parts.toList
 | .load t a=>gR (uh P h t) (ev tm a)
 | .store t a x=>jx (oh P h t) (ev tm a) (ev tm x)
 | .nilCheck x=>gR (mY h) (ev tm x)
 | .binOp op xt x y _=>jx (fun a b=>match xS P h op xt x y a b with|some v=>some (.val v h)|none=>none) (ev tm x) (ev tm y)
 | .unOp op _ x=>gR (xI P h op) (ev tm x)
 | .convert s d x=>gR (mB P h s d) (ev tm x)
 | .makeFunc fn first captured=>match fn with
   | .func _=>match we tm first.toList,we tm captured.toList with
     |some f,some c=>some (.val (.func fn ⟨f⟩ ⟨c⟩) h)
     |_,_=>none
   |_=>none
 | .makeMap _ r=>match r with
   |none=>some (.val (.map (some h.next)) (cA h (.map [] 0)))
   |some _=>none
 | .makeSlice t l c=>jx (gX P h t) (ev tm l) (ev tm c)
 | .slice t x lo hi mx=>gR (fun v=>lq P tm h t v lo hi mx) (ev tm x)
 | .fieldAddr s x f=>gR (fun v=>lz P h s v f) (ev tm x)
 | .field t x f=>gR (fun v=>xR P h t v f) (ev tm x)
 | .indexAddr t x i=>jx (gY P h t) (ev tm x) (ev tm i)
 | .index t x i=>jx (xQ P h t) (ev tm x) (ev tm i)
 | .lookup t m k ok=>jx (fun m k=>m9 P h t m k ok) (ev tm m) (ev tm k)
 | .mapUpdate t m k x| .insert t m k x=>A6 (gW P h t) (ev tm m) (ev tm k) (ev tm x)
 | .mapEntry t m k=>jx (mZ P h t) (ev tm m) (ev tm k)
 | .entryStore _ m s x=>A6 (jL h) (ev tm m) (ev tm s) (ev tm x)
 | .range t x=>gR (xM P h t) (ev tm x)
 | .next it isString=>gR (fun v=>Da h v isString) (ev tm it)
 | .entry it=>gR (uj h) (ev tm it)
 | .extract t i=>gR (fun v=>pI h v i) (ev tm t)
 | .call c=>jM P tm h c
 | .defer c=>qp tm c
 |_=>none
inductive af where|normal|exit (id:Nat)|goto (l:Nat)|ret
structure Fr where
 tm:Tm
 n:Nat
 fL:List nv
abbrev Out:=Option (af × Fr × Hs)
def Fr.put(fr:Fr)(d:Option Tmp)(v:Value):Option Fr:=match d with
 |some d=>match Nat.blt d fr.n with
  |true=>some {fr with tm:=fr.tm.set d v}
  |false=>none
 |none=>some fr
def fO(ops:Array Oper)(tm:Tm)(o:Oper):Option Bool:=match o.guard with
 |none=>some true
 |some (j,w)=>match (nth ops.toList j).bind (·.dst) with
  |some d=>match rd tm d with
   | .bool b=>some (b==w)
   | .tuple _=>some false
   |_=>none
  |none=>some false
def jO:List Value->Nat->Tm->Tm
 |[],_,t=>t
 |v::l,i,t=>jO l (i+1) (t.set i v)
def sj:List Tmp->List Value->Nat->Tm->Option Tm
 |[],[],_,t=>some t
 |p::ps,v::vs,n,t=>match Nat.blt p n with
  |true=>sj ps vs n (t.set p v)
  |false=>none
 |_,_,_,_=>none
def dM(P:Program)(tm:Tm)(h:Hs):List ResultVar->Option (List Value)
 |[]=>some []
 | .tmp t::l=>match dM P tm h l with
   |some vs=>match xb (rd tm t) with
    |some v=>some (v::vs)
    |none=>none
   |none=>none
 | .cell a t::l=>match rd tm a with
   | .pointer (some ⟨b,off,none⟩)=>match mQ P h t b off,dM P tm h l with
     |some v,some vs=>some (v::vs)
     |_,_=>none
   |_=>none
def uN:List Value->Value
 |[v]=>v
 |l=> .tuple ⟨l⟩
abbrev cI:=Nat->List Value->Hs->Option (Value × Hs)
abbrev u5:=Option Nat->Code->Fr->Hs->Out
def BB(P:Program)(ex:u5)(f:Nat)(args:List Value)(h:Hs):Option Hs:=
 match P.funcs[f]? with
 |some fn=>match fn.body,decide (fn.name= "runtime.NumGoroutine") with
  |some body,false=>
   match ex none body {tm:=jO args 0 .leaf,n:=args.length+(fn.ntmps - args.length),fL:=[]} h with
   |some (.normal,fr,h)|some (.ret,fr,h)=>
    match fr.fL,dM P fr.tm h fn.results.toList with
    |[],some _=>some h
    |_,_=>none
   |_=>none
  |_,_=>none
 |none=>none
def q8(P:Program)(ex:u5):List nv->Hs->Option Hs
 |[],h=>some h
 | .call f args captured::ds,h=>match BB P ex f (args++captured) h with
   |some h=>q8 P ex ds h
   |none=>none
 | .mark r::ds,h=>match h.heap.get r with
   |some (.fL true)=>q8 P ex ds {h with heap:=h.heap.set r (.fL false),log:=r::h.log}
   |_=>none
def wz(P:Program)(ex:u5)(call:cI)(f:Nat)(args:List Value)(h:Hs):Option (Value × Hs):=
 match P.funcs[f]? with
 |some fn=>match fn.body with
  |some body=>
   match ex none body {tm:=jO args 0 .leaf,n:=args.length+(fn.ntmps - args.length),fL:=[]} h with
   |some (.normal,fr,h)|some (.ret,fr,h)=>
    match q8 P ex fr.fL h with
    |some h=>match dM P fr.tm h fn.results.toList with
     |some vs=>some (uN vs,h)
     |none=>none
    |none=>none
   |_=>none
  |none=>none
 |none=>none
def fX:af->Option Code
 | .normal=>none
 | .ret=>some .ret
 | .exit i=>some (.exit i)
 | .goto i=>some (.goto i)
def AX(ex:u5)(l:Nat)(args:List Value)(h:Hs):Option (Value × Hs):=
 match h.heap.get l with
 |some (.loop r)=>match sj r.params args r.n r.tm with
  |some tm=>match ex (some l) r.assign {tm:=tm,n:=r.n,fL:=[]} h with
   |some (.normal,fr,h)=>match h.heap.get l with
    |some (.loop r1)=>match r1.st with
     | .ready=>match ex (some l) r.body fr {h with heap:=h.heap.set l (.loop {r1 with st:= .busy}),log:=l::h.log} with
       |some (e,_,h)=>match h.heap.get l with
        |some (.loop r)=>some (.bool (fX e).isNone,{h with heap:=h.heap.set l (.loop {r with st:=(match fX e with|none=> .ready|some _=> .done),pending:=fX e}),log:=l::h.log})
        |_=>none
       |none=>none
     |_=>none
    |_=>none
   |_=>none
  |none=>none
 |_=>none
def sR(P:Program)(call round:cI)(rdd:Option Nat)(ops:Array Oper):List Oper->Fr->Hs->Option (Fr × Hs)
 |[],fr,h=>some (fr,h)
 |o::l,fr,h=>
  match fO ops fr.tm o with
  |none=>none
  |some false=>match fr.put o.dst undef with
   |some fr=>sR P call round rdd ops l fr h
   |none=>none
  |some true=>match dF P fr.tm h o with
   |none=>none
   |some (.val v h)=>match fr.put o.dst v with
    |some fr=>sR P call round rdd ops l fr h
    |none=>none
   |some (.skip h)=>match fr.put o.dst undef with
    |some fr=>sR P call round rdd ops l fr h
    |none=>none
   |some (.call f args)=>match call f args h with
    |some (v,h)=>match fr.put o.dst v with
     |some fr=>sR P call round rdd ops l fr h
     |none=>none
    |none=>none
   |some (.round f args)=>match round f args h with
    |some (v,h)=>match fr.put o.dst v with
     |some fr=>sR P call round rdd ops l fr h
     |none=>none
    |none=>none
   |some (.fL d)=>match rdd with
    |none=>match ({fr with fL:=d::fr.fL}:Fr).put o.dst undef with
     |some fr=>sR P call round rdd ops l fr h
     |none=>none
    |some _=>none
def eM(ops:Array Oper)(o:Oper):List Tmp:=
 (o.op.operands.toList.filterMap fun| .tmp t=>some t|_=>none)++o.dst.toList++
 (match o.guard with
  |some (g,_)=>((nth ops.toList g).bind (·.dst)).toList
  |none=>[])
def qg(acc:List Nat)(i:Nat):List Edge->Option Nat
 |[]=>some 0
 |e::es=>match Region.binds .any e with
  |true=>match Nat.blt e.on i,nth acc (i - 1 - e.on),qg acc i es with
   |true,some m,some r=>some (2 ^ e.on|||m|||r)
   |_,_,_=>none
  |false=>qg acc i es
def GZ{α:Type}(n:Nat)(k:Nat->α):α:=match n with|0=>k 0|m+1=>k (m+1)
def yX:List Oper->Nat->List Nat->Option (List Nat)
 |[],_,acc=>some acc
 |o::l,i,acc=>match qg acc i o.after.toList with
  |some m=>GZ m fun m=>yX l (i+1) (m::acc)
  |none=>none
def wS(ops:Array Oper)(ms:List Nat):List Oper->Nat->List (Nat × Oper)->Bool
 |[],_,_=>true
 |o::l,i,prev=>match nth ms i with
  |some m=>match prev.all fun(j,p)=>m.testBit j||
   ((match p.dst with|some d=> !kh d (eM ops o)|none=>true) && (match o.dst with|some d=> !kh d (eM ops p)|none=>true)) with
   |true=>wS ops ms l (i+1) ((i,o)::prev)
   |false=>false
  |none=>false
def sM(ops:Array Oper):Option (List Nat):=
 match yX ops.toList 0 [] with
 |some ms=>match wS ops ms.reverse ops.toList 0 [] with
  |true=>some ms.reverse
  |false=>none
 |none=>none
structure Rec where
 i:Nat
 all:Bool
 reads:List Nat
 writes:List Nat
 lo:Nat
 hi:Nat
def tD:Value->List Nat
 | .pointer (some a)=>[a.block]
 | .slice (some a) _ _=>[a.block]
 | .map (some r)=>[r]
 |_=>[]
def iH(tm:Tm)(x:Operand):List Nat:=match ev tm x with
 |some v=>tD v
 |none=>[]
def tC(tm:Tm):List Operand->List Nat
 |[]=>[]
 |x::l=>iH tm x++tC tm l
def mS(h:Hs):List Nat->List Nat
 |[]=>[]
 |b::l=>match h.heap.get b with
  |some (.dw (some m) _ _ _)=>b::m::mS h l
  |_=>b::mS h l
def bw(tm:Tm)(h:Hs)(o:Oper):List Nat:=
 match o.op with
 | .load _ a=>iH tm a
 | .store _ a _=>iH tm a
 | .binOp _ _ x y _=>tC tm [x,y]
 | .convert _ _ x=>iH tm x
 | .slice _ x _ _ _=>iH tm x
 | .lookup _ m _ _=>iH tm m
 | .mapUpdate _ m _ _| .insert _ m _ _=>iH tm m
 | .mapEntry _ m _=>iH tm m
 | .entryStore _ m _ _=>iH tm m
 | .range _ x=>iH tm x
 | .next it _=>mS h (iH tm it)
 | .entry it=>mS h (iH tm it)
 | .call c=>tC tm c.args.toList
 |_=>[]
def dR(h:Hs):List Nat->T aa
 |[]=> .leaf
 |b::l=>match h.heap.get b with
  |some o=>(dR h l).set b o
  |none=>dR h l
def gx(t s:T aa):List Nat->T aa
 |[]=>t
 |b::l=>match s.get b with
  |some o=>(gx t s l).set b o
  |none=>(gx t s l).del b
def range'(lo:Nat):Nat->List Nat
 |0=>[]
 |n+1=>lo::range' (lo+1) n
def BA:List Nat->List Nat->Bool
 |[],_=>true
 |a::l,m=>match kh a m with
  |true=>false
  |false=>BA l m
def isNil:List Nat->Bool
 |[]=>true
 |_=>false
def BN(mask:Nat)(new r:Rec):Bool:=
 match mask.testBit r.i with
 |true=>true
 |false=>
  (match new.all with|true=>isNil r.writes|false=>BA r.writes new.reads) &&
  (match r.all with|true=>isNil new.writes|false=>BA new.writes r.reads) &&
  new.reads.all (fun b=>Nat.blt b r.lo||Nat.ble r.hi b)
def eO(mask:Nat)(new:Rec):List Rec->Bool
 |[]=>true
 |r::l=>match BN mask new r with
  |true=>eO mask new l
  |false=>false
def hidden(mask:Nat):List Rec->List Nat
 |[]=>[]
 |r::l=>match mask.testBit r.i with
  |true=>hidden mask l
  |false=>range' r.lo (r.hi - r.lo)++hidden mask l
def jU(t:T aa):List Nat->T aa
 |[]=>t
 |b::l=>(jU t l).del b
def dx(P:Program)(mask i:Nat)(bm:List Rec)(tm:Tm)(h:Hs)(o:Oper):Option (Value × Hs × Rec):=
 let ts:=bw tm h o
 match dF P tm {heap:=dR h ts,next:=h.next,log:=[]} o with
 |some (.val v h')=>fin ts v h'
 |some (.skip h')=>fin ts undef h'
 |_=>none
where
 fin (ts:List Nat) (v:Value) (h':Hs):Option (Value × Hs × Rec):=
  let r:Rec:={i,all:=false,reads:=ts++h'.log,writes:=h'.log,lo:=h.next,hi:=h'.next}
  match eO mask r bm with
  |true=>some (v,{heap:=gx h.heap h'.heap (h'.log++range' h.next (h'.next - h.next)),next:=h'.next,log:=h'.log++h.log},r)
  |false=>none
def wB(call:cI)(mask i:Nat)(bm:List Rec)(f:Nat)(args:List Value)(h:Hs):Option (Value × Hs × Rec):=
 let hid:=hidden mask bm
 match call f args {heap:=jU h.heap hid,next:=h.next,log:=[]} with
 |some (v,h')=>
  let r:Rec:={i,all:=true,reads:=[],writes:=h'.log,lo:=h.next,hi:=h'.next}
  match eO mask r bm,BA h'.log hid with
  |true,true=>some (v,{heap:=gx h'.heap h.heap hid,next:=h'.next,log:=h'.log++h.log},r)
  |_,_=>none
 |none=>none
def mU:Option bW->Option (Bool × Nat × List Value)
 |some (.call f args)=>some (true,f,args)
 |some (.round f args)=>some (false,f,args)
 |_=>none
def zD(o:Oper):Bool:=match o.op with
 | .call {callee:= .builtin _, ..}=>false
 | .call _=>true
 |_=>false
def ir(P:Program)(call round:cI)(ops:Array Oper):List Oper->Nat->List Nat->List Rec->Fr->Hs->Option (Fr × Hs)
 |[],_,_,_,fr,h=>some (fr,h)
 |o::l,i,m::ms,bm,fr,h=>
  match fO ops fr.tm o with
  |none=>none
  |some false=>match fr.put o.dst undef with
   |some fr=>ir P call round ops l (i+1) ms bm fr h
   |none=>none
  |some true=>
   match (match zD o with
    |true=>match mU (dF P fr.tm {heap:= .leaf,next:=0,log:=[]} o) with
     |some (true,f,args)=>wB call m i bm f args h
     |some (false,f,args)=>wB round m i bm f args h
     |none=>dx P m i bm fr.tm h o
    |false=>dx P m i bm fr.tm h o) with
   |some (v,h,r)=>match fr.put o.dst v with
    |some fr=>ir P call round ops l (i+1) ms (r::bm) fr h
    |none=>none
   |none=>none
 |_::_,_,[],_,_,_=>none
def oQ(P:Program)(call round:cI)(rdd:Option Nat)(ops:Array Oper)(draw:Bool)(fr:Fr)(h:Hs):Option (Fr × Hs):=
 match draw with
 |false=>sR P call round rdd ops ops.toList fr h
 |true=>match sM ops with
  |some ms=>ir P call round ops ops.toList 0 ms [] fr h
  |none=>none
def wu(P:Program)(ex:u5)(call:cI)(rdd:Option Nat)(c:Code)(fr:Fr)(h:Hs):Out:=
 match c with
 | .skip| .label _=>some (.normal,fr,h)
 | .seq a b=>match ex rdd a fr h with
   |some (.normal,fr,h)=>ex rdd b fr h
   |r=>r
 | .cond c a b=>match ev fr.tm c with
   |some (.bool true)=>ex rdd a fr h
   |some (.bool false)=>ex rdd b fr h
   |_=>none
 | .block id b=>match ex rdd b fr h with
   |some (.exit i,fr,h)=>match Nat.beq i id with
    |true=>some (.normal,fr,h)
    |false=>some (.exit i,fr,h)
   |r=>r
 | .exit id=>some (.exit id,fr,h)
 | .goto l=>some (.goto l,fr,h)
 | .ret=>some (.ret,fr,h)
 | .region _ ops draw=>match oQ P call (AX ex) rdd ops draw fr h with
   |some (fr,h)=>some (.normal,fr,h)
   |none=>none
 | .rangeFunc f ps asg b=>
   match ev fr.tm f with
   |some (.func (.func g) ⟨first⟩ ⟨cap⟩)=>
    match (match rdd with
     |some l=>match h.heap.get l with
      |some (.loop r)=>some (r.defers,([]:List nv),h)
      |_=>none
     |none=>some (h.next,[.mark h.next],cA h (.fL true))) with
    |some (dk,mark,h)=>AZ fr g first cap dk mark ps asg b h
    |none=>none
   |_=>none
 |_=>none
where
 AZ (fr:Fr) (g:Nat) (first cap:List Value) (dk:Nat) (mark:List nv) (ps:Array Tmp) (asg b:Code) (h:Hs):Out:=
  match P.funcs[g]? with
  |some fn=>match fn.body,decide (fn.name= "runtime.NumGoroutine") with
   |some _,false=>
    match call g ((first++[.func (.yield h.next) #[] #[]])++cap) (cA h (.loop {st:= .ready,pending:=none,tm:=fr.tm,n:=fr.n,params:=ps.toList,assign:=asg,body:=b,defers:=dk})) with
    |some (_,h')=>
     match h'.heap.get h.next with
     |some (.loop r)=>match r.st with
      | .busy=>none
      |_=>
       match r.pending with
       |none=>some (.normal,{fr with fL:=mark++fr.fL},{h' with heap:=h'.heap.set h.next (.loop {r with st:= .exhausted}),log:=h.next::h'.log})
       |some .ret=>some (.ret,{fr with fL:=mark++fr.fL},{h' with heap:=h'.heap.set h.next (.loop {r with st:= .exhausted}),log:=h.next::h'.log})
       |some (.exit i)=>some (.exit i,{fr with fL:=mark++fr.fL},{h' with heap:=h'.heap.set h.next (.loop {r with st:= .exhausted}),log:=h.next::h'.log})
       |some (.goto i)=>some (.goto i,{fr with fL:=mark++fr.fL},{h' with heap:=h'.heap.set h.next (.loop {r with st:= .exhausted}),log:=h.next::h'.log})
       |_=>none
     |_=>none
    |none=>none
   |_,_=>none
  |none=>none
def pX(ex:u5):Nat->Code->Code->Option Nat->Fr->Hs->Out
 |0,_,_,_,_,_=>none
 |n+1,b,cur,rdd,fr,h=>match ex rdd cur fr h with
  |some (.goto l,fr,h)=>match findLabel b l with
   |some rest=>pX ex n b rest rdd fr h
   |none=>some (.goto l,fr,h)
  |r=>r
def vT(ex:u5):Nat->Code->Option Nat->Fr->Hs->Out
 |0,_,_,_,_=>none
 |n+1,b,rdd,fr,h=>match ex rdd b fr h with
  |some (.normal,fr,h)=>vT ex n b rdd fr h
  |r=>r
def LL(P:Program)(ex:u5):Nat->cI
 |0,_,_,_=>none
 |n+1,f,args,h=>wz P ex (LL P ex n) f args h
def exec(P:Program):Nat->u5
 |0,_,_,_,_=>none
 |n+1,rdd, .scope b,fr,h=>pX (exec P n) n b b rdd fr h
 |n+1,rdd, .loop b,fr,h=>vT (exec P n) n b rdd fr h
 |n+1,rdd,c,fr,h=>wu P (exec P n) (LL P (exec P n) n) rdd c fr h
structure Loc where
 φ:Nat
 δ:Nat
 ψ:Nat
abbrev aU:=Nat->Option Loc
def aU.le(ρ ρ':aU):Prop:= ∀b L,ρ b=some L->ρ' b=some L
theorem aU.le.refl(ρ:aU):ρ.le ρ:=fun _ _ h=>h
theorem aU.le.trans{a b c:aU}(h:a.le b)(k:b.le c):a.le c:=fun i L hi=>k i L (h i L hi)
mutual
inductive VR (ρ:aU):Value->Value->Prop where
 |sc (v:Value) (h:simple v=true):VR ρ v v
 |ptr (b o:Nat) (L:Loc) (h:ρ b=some L):VR ρ (.pointer (some ⟨b,o,none⟩)) (.pointer (some ⟨L.φ,L.δ+o,none⟩))
 |sl (b o n c:Nat) (L:Loc) (h:ρ b=some L):VR ρ (.slice (some ⟨b,o,none⟩) n c) (.slice (some ⟨L.φ,L.δ+o,none⟩) n (c+L.ψ))
 |map (b:Nat) (L:Loc) (h:ρ b=some L):VR ρ (.map (some b)) (.map (some L.φ))
 |fn (f:FuncId) (a a' c c':List Value) (h:cU ρ a a') (k:cU ρ c c'):VR ρ (.func (.func f) ⟨a⟩ ⟨c⟩) (.func (.func f) ⟨a'⟩ ⟨c'⟩)
 |yield (l:Nat) (L:Loc) (a a':List Value) (h:ρ l=some L) (k:cU ρ a a'):VR ρ (.func (.yield l) ⟨a⟩ #[]) (.func (.yield L.φ) ⟨a'⟩ #[])
 |agg (a a':List Value) (h:cU ρ a a'):VR ρ (.agg ⟨a⟩) (.agg ⟨a'⟩)
 |tuple (a a':List Value) (h:cU ρ a a'):VR ρ (.tuple ⟨a⟩) (.tuple ⟨a'⟩)
inductive cU (ρ:aU):List Value->List Value->Prop where
 |nil:cU ρ [] []
 |cons (v v':Value) (l l':List Value) (h:VR ρ v v') (k:cU ρ l l'):cU ρ (v::l) (v'::l')
end
mutual
theorem VR.mono{ρ ρ':aU}(hl:ρ.le ρ'): ∀{v v':Value},VR ρ v v'->VR ρ' v v'
 |_,_, .sc v h=> .sc v h
 |_,_, .ptr b o L h=> .ptr b o L (hl _ _ h)
 |_,_, .sl b o n c L h=> .sl b o n c L (hl _ _ h)
 |_,_, .map b L h=> .map b L (hl _ _ h)
 |_,_, .fn f a a' c c' h k=> .fn f a a' c c' (cU.mono hl h) (cU.mono hl k)
 |_,_, .yield l L a a' h k=> .yield l L a a' (hl _ _ h) (cU.mono hl k)
 |_,_, .agg a a' h=> .agg a a' (cU.mono hl h)
 |_,_, .tuple a a' h=> .tuple a a' (cU.mono hl h)
theorem cU.mono{ρ ρ':aU}(hl:ρ.le ρ'): ∀{l l':List Value},cU ρ l l'->cU ρ' l l'
 |_,_, .nil=> .nil
 |_,_, .cons v v' l l' h k=> .cons v v' l l' (VR.mono hl h) (cU.mono hl k)
end
theorem cU.length{ρ:aU}: ∀{l l':List Value},cU ρ l l'->l'.length=l.length
 |_,_, .nil=>rfl
 |_,_, .cons _ _ _ _ _ k=>by simp[cU.length k]
theorem cU.append{ρ:aU}: ∀{a a' b b':List Value},cU ρ a a'->cU ρ b b'->cU ρ (a++b) (a'++b')
 |_,_,_,_, .nil,k=>k
 |_,_,_,_, .cons v v' l l' h r,k=> .cons v v' _ _ h (cU.append r k)
theorem cU.get{ρ:aU}: ∀{l l':List Value},cU ρ l l'-> ∀{i:Nat} {v:Value},l[i]? =some v-> ∃v',l'[i]? =some v'/\VR ρ v v'
 |_,_, .nil,i,v,h=>by simp at h
 |_,_, .cons v v' l l' h k,0,u,hu=>by simp at hu;subst hu;exact⟨v',rfl,h⟩
 |_,_, .cons v v' l l' h k,i+1,u,hu=>by simp at hu;simpa using cU.get k hu
theorem cU.w9{ρ:aU}: ∀{l l':List Value},l'.length=l.length->(∀(i:Nat)(v:Value),l[i]? =some v-> ∃v',l'[i]? =some v'/\VR ρ v v')->cU ρ l l'
 |[],[],_,_=> .nil
 |[],_::_,h,_=>by simp at h
 |_::_,[],h,_=>by simp at h
 |a::l,b::l',h,k=>by
  obtain⟨v',h1,h2⟩:=k 0 a rfl
  simp at h1;subst h1
  exact .cons a b l l' h2 (cU.w9 (by simpa using h) fun i v hi=>by simpa using k (i+1) v (by simpa using hi))
theorem cU.one{ρ:aU}{v v':Value}(h:VR ρ v v'):cU ρ [v] [v']:= .cons _ _ _ _ h .nil
theorem VR.undef{ρ:aU}:VR ρ Go.undef Go.undef:= .tuple [] [] .nil
mutual
theorem VR.plain{ρ:aU}: ∀{v v':Value},VR ρ v v'->au v=true->v'=v
 |_,_, .sc v h,_=>rfl
 |_,_, .ptr b o L h,hp=>by simp[au] at hp
 |_,_, .sl b o n c L h,hp=>by simp[au] at hp
 |_,_, .map b L h,hp=>by simp[au] at hp
 |_,_, .fn f a a' c c' h k,hp=>by simp[au] at hp
 |_,_, .yield l L a a' h k,hp=>by simp[au] at hp
 |_,_, .agg a a' h,hp=>by simp only[au] at hp;rw[cU.plain h hp]
 |_,_, .tuple a a' h,hp=>by simp only[au] at hp;rw[cU.plain h hp]
theorem cU.plain{ρ:aU}: ∀{l l':List Value},cU ρ l l'->bG l=true->l'=l
 |_,_, .nil,_=>rfl
 |_,_, .cons v v' l l' h k,hp=>by
  simp only[bG] at hp
  cases hv:au v with
  |false=>simp[hv] at hp
  |true=>rw[hv] at hp;rw[VR.plain h hv,cU.plain k hp]
end
mutual
theorem VR.ba{ρ:aU}: ∀{v:Value},au v=true->VR ρ v v
 | .bool _,_=> .sc _ rfl
 | .int _ _,_=> .sc _ rfl
 | .string _,_=> .sc _ rfl
 | .float _ _,_=> .sc _ rfl
 | .nilFunc,_=> .sc _ rfl
 | .nilIface,_=> .sc _ rfl
 | .pointer none,_=> .sc _ rfl
 | .slice none _ _,_=> .sc _ rfl
 | .map none,_=> .sc _ rfl
 | .agg ⟨l⟩,h=> .agg l l (cU.ba (by simpa[au] using h))
 | .tuple ⟨l⟩,h=> .tuple l l (cU.ba (by simpa[au] using h))
 | .pointer (some _),h=>by simp[au] at h
 | .slice (some _) _ _,h=>by simp[au] at h
 | .map (some _),h=>by simp[au] at h
 | .complex _ _ _,h=>by simp[au] at h
 | .chan _,h=>by simp[au] at h
 | .func _ _ _,h=>by simp[au] at h
 | .iface _ _,h=>by simp[au] at h
theorem cU.ba{ρ:aU}: ∀{l:List Value},bG l=true->cU ρ l l
 |[],_=> .nil
 |v::l,h=>by
  simp only[bG] at h
  cases hv:au v with
  |false=>simp[hv] at h
  |true=>rw[hv] at h;exact .cons v v l l (VR.ba hv) (cU.ba h)
end
theorem dY{a:Addr}{n c:Nat}(h:AV.simple (.slice (some a) n c)=true):a.spot≠none/\n=0/\c=0:=by
 obtain⟨b,o,s⟩:=a
 cases s with
 |none=>simp[AV.simple] at h
 |some s=>
  cases n with
  |succ n=>simp[AV.simple] at h
  |zero=>
   cases c with
   |succ c=>simp[AV.simple] at h
   |zero=>exact⟨by simp,rfl,rfl⟩
theorem VR.simple{ρ:aU}{v:Value}(h:AV.simple v=true):VR ρ v v:= .sc v h
theorem VR.cells{ρ:aU}{v v':Value}(h:VR ρ v v'):cU ρ (aW v) v'.cells.toList:=by
 cases h with
 |agg a a' h=>exact h
 |sc v h=>cases v<;>first|(simp[AV.simple] at h;done)|exact .one (.sc _ h)
 |_=>exact .one (by constructor<;>assumption)
theorem VR.tB{ρ:aU}{v v':Value}(h:VR ρ v v'):v'.oneCell'=AV.tB v:=by
 cases h with
 |sc v h=>cases v<;>rfl
 |_=>rfl
theorem cU.cG{ρ:aU}: ∀{l l':List Value},cU ρ l l'->AV.cG l=true-> ∀v∈l',v.oneCell'=true
 |_,_, .nil,_,v,hv=>by simp at hv
 |_,_, .cons v v' l l' h k,hp,u,hu=>by
  simp only[AV.cG] at hp
  cases hv:AV.tB v with
  |false=>simp[hv] at hp
  |true=>
   rw[hv] at hp
   rcases List.mem_cons.1 hu with rfl|hu
   ·rw[h.tB,hv]
   ·exact cU.cG k hp u hu
def ER(ρ:aU)(e e':MapEntry):Prop:=VR ρ e.key e'.key/\VR ρ e.val e'.val/\e'.born=e.born
inductive gL (ρ:aU):List MapEntry->List MapEntry->Prop where
 |nil:gL ρ [] []
 |cons (e e':MapEntry) (l l':List MapEntry) (h:ER ρ e e') (k:gL ρ l l'):gL ρ (e::l) (e'::l')
theorem gL.mono{ρ ρ':aU}(hl:ρ.le ρ'): ∀{l l':List MapEntry},gL ρ l l'->gL ρ' l l'
 |_,_, .nil=> .nil
 |_,_, .cons e e' l l' h k=> .cons e e' l l' ⟨h.1.mono hl,h.2.1.mono hl,h.2.2⟩ (k.mono hl)
def VJ(ρ:aU)(v v':Value):Prop:=v=qY\/VR ρ v v'
theorem VJ.mono{ρ ρ':aU}(hl:ρ.le ρ'){v v':Value}(h:VJ ρ v v'):VJ ρ' v v':=h.imp id (VR.mono hl)
theorem VJ.vr{ρ:aU}{v v':Value}(h:VJ ρ v v')(hv:v≠qY):VR ρ v v':=h.resolve_left hv
theorem qD{v u:Value}(h:xb v=some u):u=v/\v≠qY:=by
 unfold xb at h
 split at h
 ·cases h
 ·rename_i hne
  cases h
  exact⟨rfl,fun e=>hne none e⟩
def TR(ρ:aU)(tm:Tm)(n:Nat)(tmps:Array Value):Prop:=tmps.size=n/\ ∀t,VJ ρ (rd tm t) (tmps.getD t undef)
theorem TR.mono{ρ ρ':aU}(hl:ρ.le ρ'){tm:Tm}{n:Nat}{tmps:Array Value}(h:TR ρ tm n tmps):TR ρ' tm n tmps:=⟨h.1,fun t=>(h.2 t).mono hl⟩
structure xW(ρ:aU)(L:Loc)(k:bg)(c:Array Value)(elem:TypeId)(fr:Nat × Nat):Prop where
 elem:elem=k.elem
 len:k.cells.length<=k.cap
 room:k.own=true->L.δ+k.cap+L.ψ*k.kv<=c.size
 cell: ∀i v,k.cells[i]? =some v-> ∃v',c[L.δ+i]? =some v'/\VR ρ v v'
 exact:k.exact=true->L.ψ=0
 whole:k.whole=true->L.δ=0/\c.size=k.cap
 fJ:k.bN=0->fr=(0,0)
 NP:k.bN=1->fr.2<=fr.1\/c.size<=fr.1
def OR(ρ:aU)(L:Loc):aa->Obj->Prop
 | .ax k, .cells c e fr=>xW ρ L k c e fr
 | .map es ck, .map es' ck'=>gL ρ es es'.toList/\ck'=ck
 | .oE s p, .stringIter s' p'=>s'=s/\p'=p/\L.δ=0
 | .dw m since seen last, .mapIter m' since' seen' last'=>(match m with|none=>m'=none|some b=> ∃L,ρ b=some L/\m'=some L.φ)/\since'=since/\seen'.toList=seen.reverse/\last'=last/\L.δ=0
 | .loop l, .loop l'=>l'.state=l.st/\l'.pending=l.pending/\TR ρ l.tm l.n l'.tmps/\l'.params.toList=l.params/\l'.assign=l.assign/\l'.body=l.body/\ ∃L,ρ l.defers=some L/\l'.defers=L.φ
 | .fL b, .deferred ds=>ds=if b then some [] else none
 |_,_=>False
theorem xW.mono{ρ ρ':aU}(hl:ρ.le ρ'){L:Loc}{k:bg}{c:Array Value}{e:TypeId}{fr:Nat × Nat}(h:xW ρ L k c e fr):xW ρ' L k c e fr:=
 {h with cell:=fun i v hi=>let ⟨v',a,b⟩:=h.cell i v hi;⟨v',a,b.mono hl⟩}
theorem OR.mono{ρ ρ':aU}(hl:ρ.le ρ'){L:Loc}{o:aa}{x:Obj}(h:OR ρ L o x):OR ρ' L o x:=by
 cases o<;>cases x<;>simp only[OR] at h ⊢ <;>first|exact h.elim|skip
 ·exact xW.mono hl h
 ·exact⟨h.1.mono hl,h.2⟩
 ·exact h
 ·refine⟨?_,h.2⟩
  have h1:=h.1
  split at h1
  ·exact h1
  ·obtain⟨L,a,b⟩:=h1;exact⟨L,hl _ _ a,b⟩
 ·obtain⟨a,b,c,d,e,f,L,g,i⟩:=h;exact⟨a,b,c.mono hl,d,e,f,L,hl _ _ g,i⟩
 ·exact h
def aa.owned:aa->Bool
 | .ax k=>k.own
 |_=>true
abbrev HF:=Nat->Option aa
structure aI(ρ:aU)(H:HF)(w:World):Prop where
 obj: ∀b o,H b=some o-> ∃L x,ρ b=some L/\w.heap[L.φ]? =some x/\OR ρ L o x
 inj: ∀i j oi oj Li Lj,H i=some oi->H j=some oj->i≠j->oj.owned=true->ρ i=some Li->ρ j=some Lj->Li.φ≠Lj.φ
theorem aI.sub{ρ:aU}{H H':HF}{w:World}(h:aI ρ H w)(hs: ∀b o,H' b=some o->H b=some o):aI ρ H' w:=
 ⟨fun b o hb=>h.obj b o (hs b o hb),fun i j oi oj Li Lj hi hj=>h.inj i j oi oj Li Lj (hs _ _ hi) (hs _ _ hj)⟩
structure Step(ρ:aU)(H:HF)(w:World)(ρ':aU)(H':HF)(w':World)(lo hi:Nat):Prop where
 os:w'.os=w.os
 tape:w'.tape=w.tape
 output:w'.output=w.output
 size:w.heap.size<=w'.heap.size
 same: ∀r,r<w.heap.size->(∀b o L,H b=some o->o.owned=true->ρ b=some L->L.φ≠r)->w'.heap[r]? =w.heap[r]?
 own: ∀b o L,H' b=some o->o.owned=true->ρ' b=some L->(∃i oi Li,H i=some oi/\oi.owned=true/\ρ i=some Li/\Li.φ=L.φ)\/w.heap.size<=L.φ
 any: ∀b o L,H' b=some o->ρ' b=some L->(∃i oi Li,H i=some oi/\ρ i=some Li/\Li.φ=L.φ)\/w.heap.size<=L.φ
 ext:ρ.le ρ'
 sE: ∀b,b<lo\/hi<=b->ρ' b=ρ b
theorem Step.refl(ρ:aU)(H:HF)(w:World)(lo hi:Nat):Step ρ H w ρ H w lo hi:=
 ⟨rfl,rfl,rfl,Nat.le_refl _,fun _ _ _=>rfl,fun b o L h ho hL=> .inl ⟨b,o,L,h,ho,hL,rfl⟩,fun b o L h hL=> .inl ⟨b,o,L,h,hL,rfl⟩,aU.le.refl _,fun _ _=>rfl⟩
theorem Step.trans{ρ ρ1 ρ2:aU}{H H1 H2:HF}{w w1 w2:World}{a b c:Nat}(h:Step ρ H w ρ1 H1 w1 a b)(k:Step ρ1 H1 w1 ρ2 H2 w2 b c)(hab:a<=b)(hbc:b<=c):Step ρ H w ρ2 H2 w2 a c:=by
 refine⟨k.os.trans h.os,k.tape.trans h.tape,k.output.trans h.output,Nat.le_trans h.size k.size,?_,?_,?_,h.ext.trans k.ext,?_⟩
 ·intro r hr hno
  rw[k.same r (Nat.lt_of_lt_of_le hr h.size) ?_,h.same r hr hno]
  intro i o L hi ho hL he
  rcases h.own i o L hi ho hL with ⟨j,oj,Lj,hj,hoj,hLj,hej⟩|hge
  ·exact hno j oj Lj hj hoj hLj (hej.trans he)
  ·omega
 ·intro i o L hi ho hL
  rcases k.own i o L hi ho hL with ⟨j,oj,Lj,hj,hoj,hLj,hej⟩|hge
  ·rcases h.own j oj Lj hj hoj hLj with ⟨m,om,Lm,hm,hom,hLm,hem⟩|hge
   ·exact .inl ⟨m,om,Lm,hm,hom,hLm,hem.trans hej⟩
   ·exact .inr (hej ▸ hge)
  ·exact .inr (Nat.le_trans h.size hge)
 ·intro i o L hi hL
  rcases k.any i o L hi hL with ⟨j,oj,Lj,hj,hLj,hej⟩|hge
  ·rcases h.any j oj Lj hj hLj with ⟨m,om,Lm,hm,hLm,hem⟩|hge
   ·exact .inl ⟨m,om,Lm,hm,hLm,hem.trans hej⟩
   ·exact .inr (hej ▸ hge)
  ·exact .inr (Nat.le_trans h.size hge)
 ·intro i hi
  rw[k.sE i (by omega),h.sE i (by omega)]
structure lC(w w':World)(r:Nat)(x:Obj):Prop where
 os:w'.os=w.os
 tape:w'.tape=w.tape
 output:w'.output=w.output
 size:w'.heap.size=w.heap.size
 other: ∀k,k≠r->w'.heap[k]? =w.heap[k]?
 at_:w'.heap[r]? =some x
theorem lC.trans{a b c:World}{r:Nat}{x y:Obj}(h:lC a b r x)(k:lC b c r y):lC a c r y:=
 ⟨k.os.trans h.os,k.tape.trans h.tape,k.output.trans h.output,k.size.trans h.size,fun i hi=>(k.other i hi).trans (h.other i hi),k.at_⟩
theorem lC.setCell{w:World}{b p:Nat}{c:Array Value}{e:TypeId}{fr:Nat × Nat}(v:Value)(h:w.heap[b]? =some (.cells c e fr)):
 lC w (w.setCell ⟨b,p,none⟩ v) b (.cells (c.setIfInBounds p v) e fr):=by
 refine⟨rfl,rfl,rfl,by simp,fun k hk=>?_,?_⟩
 ·simp only[World.setCell,Array.getElem?_modify]
  rw[if_neg (by omega)]
 ·simp[World.setCell,Array.getElem?_modify,h]
theorem dD(b o n:Nat):(⟨b,o,none⟩:Addr).add n=⟨b,o+n,none⟩:=by unfold Addr.add;split<;>simp_all
theorem AQ(P:Program)(b:Nat)(e:TypeId)(fr:Nat × Nat): ∀(vs:List Value)(o i:Nat)(c:Array Value)(w:World),w.heap[b]? =some (.cells c e fr)->
 o+i+vs.length<=c.size->(∀p,o+i<=p->p<o+i+vs.length-> ¬(fr.1<=p/\p<fr.2))->(∀v∈vs,v.oneCell'=true)->
 ∃w' c',(storeCells ⟨b,o,none⟩ vs i).run P w= .ok () w'/\lC w w' b (.cells c' e fr)/\c'.size=c.size/\
  ∀p,c'[p]? =if o+i<=p/\p<o+i+vs.length then vs[p - (o+i)]? else c[p]?
 |[],o,i,c,w,h,_,_,_=>⟨w,c,rfl,⟨rfl,rfl,rfl,rfl,fun _ _=>rfl,h⟩,rfl,fun p=>by rw[if_neg (by simp)]⟩
 |v::vs,o,i,c,w,h,hl,hf,h1=>by
  have hi:o+i<c.size:=by simp at hl;omega
  have hcell:w.cell? ⟨b,o+i,none⟩=some c[o+i]:=by simp[World.cell?,h,hi]
  have hfro:w.frozen? ⟨b,o+i,none⟩=false:=by
   have:=hf (o+i) (Nat.le_refl _) (by simp)
   simp only[World.frozen?,h]
   simp only[Bool.and_eq_false_imp,decide_eq_true_eq,decide_eq_false_iff_not]
   intro h1 h2;exact this ⟨h1,h2⟩
  have hst:(store ((⟨b,o,none⟩:Addr).add i) v).run P w= .ok () (w.setCell ⟨b,o+i,none⟩ v):=by
   rw[dD,run_store P w _ v _ (h1 v (by simp)),hcell]
   simp[hfro]
  have hu:=lC.setCell (p:=o+i) v h
  obtain⟨w',c',hr,hu',hs,hc⟩:=AQ P b e fr vs o (i+1) (c.setIfInBounds (o+i) v) _ hu.at_ (by simp at hl ⊢;omega)
   (fun p h1 h2=>hf p (by omega) (by simp;omega)) (fun x hx=>h1 x (by simp[hx]))
  refine⟨w',c',?_,hu.trans hu',by simpa using hs,fun p=>?_⟩
  ·simp only[storeCells,Sem.run_bind,hst,Result.andThen_ok,hr]
  ·rw[hc p]
   by_cases hp:p=o+i
   ·subst hp
    rw[if_neg (by omega),if_pos (by simp)]
    simp[hi]
   ·by_cases hq:o+(i+1)<=p/\p<o+(i+1)+vs.length
    ·rw[if_pos hq,if_pos (by simp;omega)]
     rw[show p - (o+i)=(p - (o+(i+1)))+1 by omega]
     simp
    ·rw[if_neg hq,if_neg (by simp;omega)]
     rw[Array.getElem?_setIfInBounds_ne (by omega)]
theorem fV{α:Type}: ∀{n:Nat} {l r:List α},takeN n l=some r->r.length=n/\ ∀j,j<n->r[j]? =l[j]?
 |0,l,r,h=>by simp[takeN] at h;subst h;simp
 |n+1,[],r,h=>by simp[takeN] at h
 |n+1,a::l,r,h=>by
  simp only[takeN] at h
  split at h
  ·rename_i r' hr
   cases h
   obtain⟨h1,h2⟩:=fV hr
   refine⟨by simp[h1],fun j hj=>?_⟩
   cases j with
   |zero=>rfl
   |succ j=>simpa using h2 j (by omega)
  ·cases h
theorem k9{α:Type}: ∀(n:Nat)(l:List α),gg n l=l.drop n
 |0,l=>rfl
 |n+1,[]=>rfl
 |n+1,a::l=>by simp[gg,k9 n l]
theorem fF{α:Type}: ∀(l:List α)(n:Nat),nth l n=l[n]?
 |[],n=>by simp[nth]
 |a::l,0=>rfl
 |a::l,n+1=>by simp[nth,fF l n]
theorem gv: ∀{cs vs r:List Value} {n:Nat},overwrite cs n vs=some r->
 n<=cs.length/\r.length=max cs.length (n+vs.length)/\ ∀p,r[p]? =if n<=p/\p<n+vs.length then vs[p - n]? else cs[p]?
 |[],vs,r,0,h=>by
  have:r=vs:=by cases vs<;>(simp[overwrite] at h;first|exact h|exact h.symm)
  subst this
  refine⟨Nat.zero_le _,by simp,fun p=>?_⟩
  by_cases hp:0<=p/\p<0+r.length
  ·rw[if_pos hp];rfl
  ·rw[if_neg hp];simp;omega
 |[],vs,r,n+1,h=>by cases vs<;>simp[overwrite] at h
 |c::cs,[],r,0,h=>by
  simp[overwrite] at h;subst h
  refine⟨Nat.zero_le _,by simp,fun p=>by rw[if_neg (by simp)]⟩
 |c::cs,v::vs,r,0,h=>by
  simp only[overwrite] at h
  split at h
  ·rename_i r' hr
   cases h
   obtain⟨h1,h2,h3⟩:=gv hr
   refine⟨by simp,by simp[h2],fun p=>?_⟩
   cases p with
   |zero=>simp
   |succ p=>simpa using h3 p
  ·cases h
 |c::cs,vs,r,n+1,h=>by
  have h': ∃r',overwrite cs n vs=some r'/\c::r'=r:=by
   cases vs<;>(simp only[overwrite] at h;split at h<;>first|(rename_i r' hr;cases h;exact⟨r',hr,rfl⟩)|cases h)
  ·obtain⟨r',hr,rfl⟩:=h'
   obtain⟨h1,h2,h3⟩:=gv hr
   refine⟨by simp;omega,by simp[h2];omega,fun p=>?_⟩
   cases p with
   |zero=>simp
   |succ p=>
    simp only[List.getElem?_cons_succ,h3 p]
    by_cases hq:n<=p/\p<n+vs.length
    ·rw[if_pos hq,if_pos (by omega),show p+1 - (n+1)=p - n by omega]
    ·rw[if_neg hq,if_neg (by omega)]
section
variable{P:Program}{ρ:aU}{w:World}
theorem xW.pA{L:Loc}{k:bg}{c:Array Value}{e:TypeId}{fr:Nat × Nat}(h:xW ρ L k c e fr)(hw:w.heap[L.φ]? =some (.cells c e fr)){n off:Nat}{cs:List Value}
 (ht:takeN n (gg off k.cells)=some cs): ∃cs',cs'.length=n/\cU ρ cs cs'/\ ∀j v,cs'[j]? =some v->w.cell? ⟨L.φ,L.δ+off+j,none⟩=some v:=by
 obtain⟨h1,h2⟩:=fV ht
 rw[k9] at h2
 have hsz:min n (c.size - (L.δ+off))=n:=by
  cases n with
  |zero=>simp
  |succ n=>
   have h3:=h2 n (by omega)
   have h4:cs[n]? ≠none:=by simp;omega
   rw[h3,List.getElem?_drop] at h4
   obtain⟨v,hv⟩:=Option.ne_none_iff_exists'.1 h4
   obtain⟨v',hv',_⟩:=h.cell _ _ hv
   have:=(Array.getElem?_eq_some_iff.1 hv').1
   omega
 refine⟨(c.toList.drop (L.δ+off)).take n,?_,?_,?_⟩
 ·simp only[List.length_take,List.length_drop,Array.length_toList]
  exact hsz
 ·refine cU.w9 ?_ fun i v hi=>?_
  ·simp only[List.length_take,List.length_drop,Array.length_toList,h1]
   exact hsz
  ·have hin:i<n:=by
    have:i<cs.length:=by
     rcases Nat.lt_or_ge i cs.length with h'|h'
     ·exact h'
     ·simp[List.getElem?_eq_none h'] at hi
    omega
   rw[h2 i hin,List.getElem?_drop] at hi
   obtain⟨v',hv',hR⟩:=h.cell _ _ hi
   refine⟨v',?_,hR⟩
   rw[List.getElem?_take_of_lt hin,List.getElem?_drop,Array.getElem?_toList,Nat.add_assoc]
   exact hv'
 ·intro j v hj
  have hjn:j<n:=by
   rcases Nat.lt_or_ge j n with h'|h'
   ·exact h'
   ·rw[List.getElem?_take_eq_none h'] at hj;cases hj
  rw[List.getElem?_take_of_lt hjn,List.getElem?_drop,Array.getElem?_toList] at hj
  simpa[World.cell?,hw] using hj
theorem ab{t:TypeId}{d:TypeDesc}(h:P.underlying t=some d):(underlying t).run P w= .ok d w:=by
 simp[underlying,h]
theorem jP{t:TypeId}{i:TypeInfo}(h:P.info? t=some i):(typeInfo t).run P w= .ok i w:=by
 simp[typeInfo,h]
theorem aP{t:TypeId}{i:TypeInfo}(h:P.info? t=some i):(sizeOf t).run P w= .ok i.size w:=by
 simp[sizeOf,jP h]
theorem kK{t:TypeId}{d:TypeDesc}(h:P.underlying t=some d):(isAgg t).run P w= .ok (kW d) w:=by
 simp only[isAgg,Sem.run_bind,ab h,Result.andThen_ok]
 cases d<;>rfl
theorem cY{t:TypeId}{i:TypeInfo}{z:Value}(h:P.info? t=some i)(hz:i.zero=some z):(zeroValue t).run P w= .ok z w:=by
 simp[zeroValue,jP h,hz]
theorem nA{h:Hs}{t:TypeId}{b off:Nat}{v:Value}(hh:aI ρ h.heap.get w)(hr:mQ P h t b off=some v):
 ∃L v',ρ b=some L/\(loadVar t ⟨L.φ,L.δ+off,none⟩).run P w= .ok v' w/\VR ρ v v':=by
 unfold mQ at hr
 split at hr
 ·rename_i k hk
  obtain⟨L,x,hL,hx,hR⟩:=hh.obj _ _ hk
  cases x<;>simp only[OR] at hR<;>first|exact hR.elim|skip
  rename_i c e fr
  split at hr
  ·rename_i d hd
   split at hr
   ·rename_i hag
    split at hr
    ·rename_i i hi
     split at hr
     ·rename_i cs hcs
      cases hr
      obtain⟨cs',h1,h2,h3⟩:=hR.pA hx hcs
      refine⟨L, .agg ⟨cs'⟩,hL,?_, .agg _ _ h2⟩
      have hl:=run_loadCells_list (P:=P) w ⟨L.φ,L.δ+off,none⟩ cs' (fun j v hj=>by rw[dD];exact h3 j v hj)
      simp only[loadVar,Sem.run_bind,kK hd,Result.andThen_ok,hag,if_true,aP hi]
      rw[h1] at hl
      simp[hl]
     ·cases hr
    ·cases hr
   ·rename_i hag
    rw[fF] at hr
    obtain⟨v',hv',hvR⟩:=hR.cell _ _ hr
    refine⟨L,v',hL,?_,hvR⟩
    have hc:w.cell? ⟨L.φ,L.δ+off,none⟩=some v':=by simpa[World.cell?,hx] using hv'
    simp only[loadVar,Sem.run_bind,kK hd,Result.andThen_ok,hag,Bool.false_eq_true,if_false,run_load,hc]
  ·cases hr
 ·cases hr
theorem aI.nw{H H':HF}{b:Nat}{o o':aa}{L:Loc}{x:Obj}{w':World}(hh:aI ρ H w)(hb:H b=some o)(ho:o.owned=true)(hL:ρ b=some L)
 (hw:lC w w' L.φ x) (hR:OR ρ L o' x) (hH: ∀i,H' i=if i=b then some o' else H i):aI ρ H' w':=by
 refine⟨fun i oi hi=>?_,fun i j oi oj Li Lj hi hj hij hoj hLi hLj=>?_⟩
 ·rw[hH] at hi
  split at hi
  ·rename_i he;subst he;cases hi;exact⟨L,x,hL,hw.at_,hR⟩
  ·rename_i he
   obtain⟨Li,xi,hLi,hxi,hRi⟩:=hh.obj _ _ hi
   exact⟨Li,xi,hLi,by rw[hw.other _ (hh.inj i b oi o Li L hi hb he ho hLi hL)];exact hxi,hRi⟩
 ·have hi': ∃oi',H i=some oi':=by
   rw[hH] at hi;split at hi
   ·rename_i he;subst he;exact⟨_,hb⟩
   ·exact⟨_,hi⟩
  have hj': ∃oj',H j=some oj'/\oj'.owned=true:=by
   rw[hH] at hj;split at hj
   ·rename_i he;subst he;exact⟨_,hb,ho⟩
   ·exact⟨_,hj,hoj⟩
  obtain⟨oi',hi'⟩:=hi'
  obtain⟨oj',hj',hoj'⟩:=hj'
  exact hh.inj i j oi' oj' Li Lj hi' hj' hij hoj' hLi hLj
theorem Step.nw{H H':HF}{b:Nat}{o o':aa}{L:Loc}{x:Obj}{w':World}(hb:H b=some o)(ho:o.owned=true)(hL:ρ b=some L)
 (hw:lC w w' L.φ x) (hH: ∀i,H' i=if i=b then some o' else H i) (lo hi:Nat):Step ρ H w ρ H' w' lo hi:=by
 refine⟨hw.os,hw.tape,hw.output,by rw[hw.size];exact Nat.le_refl _,fun r _ hno=>hw.other r fun he=>hno b o L hb ho hL he.symm,?_,?_,aU.le.refl _,fun _ _=>rfl⟩
 ·intro i oi Li hi ho' hLi
  rw[hH] at hi
  split at hi
  ·rename_i he;subst he;exact .inl ⟨_,o,Li,hb,ho,hLi,rfl⟩
  ·exact .inl ⟨i,oi,Li,hi,ho',hLi,rfl⟩
 ·intro i oi Li hi hLi
  rw[hH] at hi
  split at hi
  ·rename_i he;subst he;exact .inl ⟨_,o,Li,hb,hLi,rfl⟩
  ·exact .inl ⟨i,oi,Li,hi,hLi,rfl⟩
theorem g6{h h':Hs}{b off:Nat}{vs vs':List Value}(hh:aI ρ h.heap.get w)(hw:dr h b off vs=some h')(hv:cU ρ vs vs'):
 ∃L w',ρ b=some L/\(storeCells ⟨L.φ,L.δ+off,none⟩ vs').run P w= .ok () w'/\aI ρ h'.heap.get w'/\ ∀lo hi,Step ρ h.heap.get w ρ h'.heap.get w' lo hi:=by
 unfold dr at hw
 split at hw
 ·rename_i k hk
  have key:k.own=true->(k.bN=0\/k.bN=1)-> ∀cs,cG vs=true->overwrite k.cells off vs=some cs->cs.length<=k.cap->
   ∃L w',ρ b=some L/\(storeCells ⟨L.φ,L.δ+off,none⟩ vs').run P w= .ok () w'/\aI ρ ((h.heap.set b (.ax {k with cells:=cs})).get) w'/\
    ∀lo hi,Step ρ h.heap.get w ρ ((h.heap.set b (.ax {k with cells:=cs})).get) w' lo hi:=by
   intro hown hfrz cs hac how hcap
   obtain⟨L,x,hL,hx,hR⟩:=hh.obj _ _ hk
   cases x<;>simp only[OR] at hR<;>first|exact hR.elim|skip
   rename_i c e fr
   obtain⟨ho1,ho2,ho3⟩:=gv how
   have hlen:vs'.length=vs.length:=hv.length
   have hroom:=hR.room hown
   obtain⟨w',c',hr,hu,hs,hc⟩:=AQ P L.φ e fr vs' (L.δ+off) 0 c w hx (by omega)
    (fun p h1 h2=>by
      rcases hfrz with hf|hf
      ·have:=hR.fJ hf;subst this;simp
      ·rcases hR.NP hf with h3|h3<;>omega) (hv.cG hac)
   have hR':OR ρ L (.ax {k with cells:=cs}) (.cells c' e fr):=by
    refine⟨hR.elem,hcap,fun _=>by show L.δ+k.cap+L.ψ*k.kv<=c'.size;omega,fun i v hi=>?_,hR.exact,fun hwh=>?_,hR.fJ,fun hf=>?_⟩
    ·rw[hc]
     have hi':cs[i]? =some v:=hi
     rw[ho3] at hi'
     by_cases hq:off<=i/\i<off+vs.length
     ·rw[if_pos hq] at hi'
      rw[if_pos (by omega)]
      obtain⟨v',hv',hvR⟩:=hv.get hi'
      exact⟨v',by rw[show L.δ+i - (L.δ+off+0)=i - off by omega];exact hv',hvR⟩
     ·rw[if_neg hq] at hi'
      rw[if_neg (by omega)]
      exact hR.cell i v hi'
    ·obtain⟨h1,h2⟩:=hR.whole hwh;exact⟨h1,by rw[hs];exact h2⟩
    ·rw[hs];exact hR.NP hf
   exact⟨L,w',hL,hr,hh.nw hk hown hL hu hR' (fun i=>T.aL _ _ _ _),fun lo hi=>Step.nw hk hown hL hu (fun i=>T.aL _ _ _ _) lo hi⟩
  have fin:k.own=true->(k.bN=0\/k.bN=1)->(match cG vs,overwrite k.cells off vs with
   |true,some cs=>match Nat.ble cs.length k.cap with
    |true=>some {h with heap:=h.heap.set b (.ax {k with cells:=cs}),log:=b::h.log}
    |false=>none
   |_,_=>none)=some h'-> ∃L w',ρ b=some L/\(storeCells ⟨L.φ,L.δ+off,none⟩ vs').run P w= .ok () w'/\aI ρ h'.heap.get w'/\ ∀lo hi,Step ρ h.heap.get w ρ h'.heap.get w' lo hi:=by
   intro h1 h2 hm
   split at hm
   ·rename_i cs hac how
    split at hm
    ·rename_i hle
     cases hm
     exact key h1 h2 cs hac how (Nat.le_of_ble_eq_true hle)
    ·cases hm
   ·cases hm
  split at hw
  ·rename_i ho hf;exact fin ho (.inl hf) hw
  ·rename_i ho hf;exact fin ho (.inr hf) hw
  ·cases hw
 ·cases hw
theorem aI.world{H:HF}{w':World}(hh:aI ρ H w)(he:w'.heap=w.heap):aI ρ H w':=
 ⟨fun b o hb=>let ⟨L,x,h1,h2,h3⟩:=hh.obj b o hb;⟨L,x,h1,by rw[he];exact h2,h3⟩,hh.inj⟩
theorem Step.world{H:HF}{w':World}(h1:w'.heap=w.heap)(h2:w'.os=w.os)(h3:w'.tape=w.tape)(h4:w'.output=w.output)(lo hi:Nat):Step ρ H w ρ H w' lo hi:=
 ⟨h2,h3,h4,by rw[h1];exact Nat.le_refl _,fun _ _ _=>by rw[h1],fun b o L h ho hL=> .inl ⟨b,o,L,h,ho,hL,rfl⟩,fun b o L h hL=> .inl ⟨b,o,L,h,hL,rfl⟩,aU.le.refl _,fun _ _=>rfl⟩
def aU.set(ρ:aU)(b:Nat)(L:Loc):aU:=fun i=>if i=b then some L else ρ i
theorem aU.cE(ρ:aU)(b:Nat)(L:Loc):(ρ.set b L) b=some L:=by simp[aU.set]
theorem aU.iE{b:Nat}(L:Loc)(h:ρ b=none):ρ.le (ρ.set b L):=fun i M hi=>by
 unfold aU.set;rw[if_neg (fun he=>by subst he;rw[h] at hi;cases hi)];exact hi
theorem aU.ga{b i:Nat}(L:Loc)(h:i≠b):(ρ.set b L) i=ρ i:=by simp[aU.set,h]
theorem aI.new{H H':HF}{b:Nat}{o:aa}{x:Obj}{δ ψ:Nat}(hh:aI ρ H w)(hb:ρ b=none)
 (hR:OR (ρ.set b ⟨w.heap.size,δ,ψ⟩) ⟨w.heap.size,δ,ψ⟩ o x) (hH: ∀i,H' i=if i=b then some o else H i):
 aI (ρ.set b ⟨w.heap.size,δ,ψ⟩) H' (w.alloc x)/\Step ρ H w (ρ.set b ⟨w.heap.size,δ,ψ⟩) H' (w.alloc x) b (b+1):=by
 have hle:=aU.iE (ρ:=ρ) ⟨w.heap.size,δ,ψ⟩ hb
 have hlt: ∀i oi Li,H i=some oi->ρ i=some Li->Li.φ<w.heap.size:=by
  intro i oi Li hi hLi
  obtain⟨L,y,hL,hy,_⟩:=hh.obj _ _ hi
  rw[hLi] at hL;cases hL
  exact(Array.getElem?_eq_some_iff.1 hy).1
 have hold: ∀k,k<w.heap.size->(w.alloc x).heap[k]? =w.heap[k]? :=fun k hk=>by
  show(w.heap.push x)[k]? =_
  rw[Array.getElem?_push,if_neg (by omega)]
 have hnb: ∀i oi,H i=some oi->i≠b:=fun i oi hi he=>by
  obtain⟨L,y,hL,_,_⟩:=hh.obj _ _ hi
  subst he;rw[hb] at hL;cases hL
 refine⟨⟨fun i oi hi=>?_,fun i j oi oj Li Lj hi hj hij hoj hLi hLj=>?_⟩,⟨rfl,rfl,rfl,by simp,fun r hr _=>hold r hr,?_,?_,hle,?_⟩⟩
 ·rw[hH] at hi
  split at hi
  ·rename_i he;subst he;cases hi
   exact⟨_,x,aU.cE _ _ _,by show(w.heap.push x)[w.heap.size]? =some x;simp,hR⟩
  ·obtain⟨L,y,hL,hy,hRy⟩:=hh.obj _ _ hi
   exact⟨L,y,hle _ _ hL,by rw[hold _ (hlt i oi L hi hL)];exact hy,hRy.mono hle⟩
 ·rw[hH] at hi hj
  split at hi
  ·rename_i he;subst he;cases hi
   rw[aU.cE] at hLi;cases hLi
   rw[if_neg (fun h=>hij h.symm)] at hj
   rw[aU.ga _ (fun h=>hij h.symm)] at hLj
   have:=hlt j oj Lj hj hLj
   show w.heap.size≠Lj.φ
   omega
  ·rename_i hne
   rw[aU.ga _ hne] at hLi
   split at hj
   ·rename_i he;subst he;cases hj
    rw[aU.cE] at hLj;cases hLj
    have:=hlt i oi Li hi hLi
    show Li.φ≠w.heap.size
    omega
   ·rename_i hne2
    rw[aU.ga _ hne2] at hLj
    exact hh.inj i j oi oj Li Lj hi hj hij hoj hLi hLj
 ·intro i oi Li hi ho hLi
  rw[hH] at hi
  split at hi
  ·rename_i he;subst he;rw[aU.cE] at hLi;cases hLi;exact .inr (Nat.le_refl _)
  ·rename_i hne
   rw[aU.ga _ hne] at hLi
   exact .inl ⟨i,oi,Li,hi,ho,hLi,rfl⟩
 ·intro i oi Li hi hLi
  rw[hH] at hi
  split at hi
  ·rename_i he;subst he;rw[aU.cE] at hLi;cases hLi;exact .inr (Nat.le_refl _)
  ·rename_i hne
   rw[aU.ga _ hne] at hLi
   exact .inl ⟨i,oi,Li,hi,hLi,rfl⟩
 ·intro i hi
  exact aU.ga _ (by omega)
end
section
variable{P:Program}{ρ:aU}{w:World}{h:Hs}
theorem eV{α:Type}: ∀{s:Sem α} {a:α},prun P s=some a-> ∀w,s.run P w= .ok a w
 | .pure a,_,h,w=>by simp[prun] at h;subst h;rfl
 | .program k,a,h,w=>by simp only[prun] at h;simp only[Sem.run];exact eV h w
 | .mark m k,a,h,w=>by simp only[prun] at h;simp only[Sem.run];exact eV h w
 | .load _ _ _,_,h,_=>by simp[prun] at h
 | .store _ _ _ _,_,h,_=>by simp[prun] at h
 | .new _ _,_,h,_=>by simp[prun] at h
 | .shape _ _,_,h,_=>by simp[prun] at h
 | .freeze _ _ _,_,h,_=>by simp[prun] at h
 | .frozen _ _,_,h,_=>by simp[prun] at h
 | .getObj _ _,_,h,_=>by simp[prun] at h
 | .setObj _ _ _,_,h,_=>by simp[prun] at h
 | .choose _ _,_,h,_=>by simp[prun] at h
 | .sys _ _,_,h,_=>by simp[prun] at h
 | .halt _,_,h,_=>by simp[prun] at h
theorem aJ{tm:Tm}{n:Nat}{a:Act}(ht:TR ρ tm n a.tmps){x:Operand}{v:Value}(hx:ev tm x=some v):VR ρ v (a.eval x):=by
 cases x with
 |tmp t=>
  simp only[ev] at hx
  obtain⟨rfl,hj⟩:=qD hx
  exact(ht.2 t).vr hj
 |const c=>
  simp only[ev] at hx
  split at hx
  ·rename_i hs;cases hx;exact .sc _ hs
  ·cases hx
 |global g=>simp[ev] at hx
 |func f=>simp only[ev,Option.some.injEq] at hx;subst hx;exact .fn f [] [] [] [] .nil .nil
theorem wc{tm:Tm}{n:Nat}{a:Act}(ht:TR ρ tm n a.tmps): ∀{l:List Operand} {vs:List Value},we tm l=some vs->cU ρ vs (l.map a.eval)
 |[],vs,h=>by simp[we] at h;subst h;exact .nil
 |x::l,vs,h=>by
  simp only[we] at h
  split at h
  ·rename_i v hv
   split at h
   ·rename_i vs' hvs
    cases h
    exact .cons _ _ _ _ (aJ ht hv) (wc ht hvs)
   ·cases h
  ·cases h
inductive R0 (ρ:aU):List (Nat × Value)->List (Nat × Value)->Prop where
 |nil:R0 ρ [] []
 |cons (i:Nat) (v v':Value) (l l':List (Nat × Value)) (h:VR ρ v v') (k:R0 ρ l l'):R0 ρ ((i,v)::l) ((i,v')::l')
theorem jS{tm:Tm}{n:Nat}{a:Act}(ht:TR ρ tm n a.tmps): ∀{l:List (Nat × Operand)} {vs:List (Nat × Value)},iQ tm l=some vs->R0 ρ vs (l.map fun x=>(x.1,a.eval x.2))
 |[],vs,h=>by simp[iQ] at h;subst h;exact .nil
 |(i,x)::l,vs,h=>by
  simp only[iQ] at h
  split at h
  ·rename_i v hv
   split at h
   ·rename_i vs' hvs
    cases h
    exact .cons _ _ _ _ _ (aJ ht hv) (jS ht hvs)
   ·cases h
  ·cases h
def bC(ρ:aU)(lo hi:Nat):Prop:= ∀b,lo<=b->b<hi->ρ b=none
def aE(P:Program)(ρ:aU)(h:Hs)(w:World)(s:Sem Value)(v:Value)(h':Hs):Prop:=
 ∃ρ' v' w',s.run P w= .ok v' w'/\VR ρ' v v'/\aI ρ' h'.heap.get w'/\Step ρ h.heap.get w ρ' h'.heap.get w' h.next h'.next
def qt(P:Program)(ρ:aU)(h:Hs)(w:World)(s:Sem Unit)(h':Hs):Prop:=
 ∃ρ' w',s.run P w= .ok () w'/\aI ρ' h'.heap.get w'/\Step ρ h.heap.get w ρ' h'.heap.get w' h.next h'.next
def DR(ρ:aU):nv->Deferred->Prop
 | .call f args captured,d=> ∃args' captured',d={target:= .fn (.func f) ⟨captured'⟩,args:=⟨args'⟩}/\cU ρ args args'/\cU ρ captured captured'
 | .mark r,d=> ∃L,ρ r=some L/\d={target:= .collected L.φ,args:= #[]}
def dH(P:Program)(ρ:aU)(h:Hs)(w:World)(s:Sem Next):bW->Prop
 | .val v h'=> ∃ρ' v' w',s.run P w= .ok (.value v') w'/\VR ρ' v v'/\aI ρ' h'.heap.get w'/\Step ρ h.heap.get w ρ' h'.heap.get w' h.next h'.next
 | .skip h'=> ∃ρ' w',s.run P w= .ok .skip w'/\aI ρ' h'.heap.get w'/\Step ρ h.heap.get w ρ' h'.heap.get w' h.next h'.next
 | .call f args=> ∃args',s.run P w= .ok (.enter f ⟨args'⟩) w/\cU ρ args args'
 | .round l args=> ∃L args',ρ l=some L/\s.run P w=(Instr.yield L.φ ⟨args'⟩).run P w/\cU ρ args args'
 | .fL d=> ∃d',s.run P w= .ok (.defer d') w/\DR ρ d d'
def bW.next(h:Hs):bW->Nat
 | .val _ h'| .skip h'=>h'.next
 |_=>h.next
theorem dH.sS{s:Sem Value}{v:Value}{h':Hs}(hv:aE P ρ h w s v h'):dH P ρ h w (do pure (.value (←s))) (.val v h'):=by
 obtain⟨ρ',v',w',h1,h2,h3,h4⟩:=hv
 exact⟨ρ',v',w',by simp[h1],h2,h3,h4⟩
theorem dH.F4{s:Sem Unit}{h':Hs}(hv:qt P ρ h w s h'):dH P ρ h w (do s;pure .skip) (.skip h'):=by
 obtain⟨ρ',w',h1,h3,h4⟩:=hv
 exact⟨ρ',w',by simp[h1],h3,h4⟩
theorem aE.pure{s:Sem Value}{v v':Value}(hh:aI ρ h.heap.get w)(hs:s.run P w= .ok v' w)(hv:VR ρ v v'):aE P ρ h w s v h:=
 ⟨ρ,v',w,hs,hv,hh,Step.refl _ _ _ _ _⟩
theorem aE.new{s:Sem Value}{v v':Value}{o:aa}{x:Obj}{δ ψ:Nat}(hh:aI ρ h.heap.get w)(hf:bC ρ h.next (h.next+1))(hs:s.run P w= .ok v' (w.alloc x))
 (hR:OR (ρ.set h.next ⟨w.heap.size,δ,ψ⟩) ⟨w.heap.size,δ,ψ⟩ o x) (hv:VR (ρ.set h.next ⟨w.heap.size,δ,ψ⟩) v v'):aE P ρ h w s v (cA h o):=by
 have hn:ρ h.next=none:=hf _ (Nat.le_refl _) (Nat.lt_succ_self _)
 obtain⟨h1,h2⟩:=aI.new (H':=(cA h o).heap.get) hh hn hR (fun i=>T.aL _ _ _ _)
 exact⟨_,v',_,hs,hv,h1,h2⟩
theorem rM{L:Loc}{vs vs':List Value}{c:Array Value}{cap kv elem:Nat}{exact whole:Bool}{fr:Nat × Nat}{bN:Nat}{own:Bool}(hv:cU ρ vs vs')
 (hlen:vs.length<=cap) (hroom:own=true->L.δ+cap+L.ψ*kv<=c.size) (hc: ∀i,i<vs.length->c[L.δ+i]? =vs'[i]?) (hex:exact=true->L.ψ=0) (hwh:whole=true->L.δ=0/\c.size=cap)
 (h0:bN=0->fr=(0,0)) (h1:bN=1->fr.2<=fr.1\/c.size<=fr.1):
 OR ρ L (.ax {cells:=vs,cap,kv,elem,exact,whole,bN,own}) (.cells c elem fr):=
 ⟨rfl,hlen,hroom,fun i v hi=>by
   have hi':vs[i]? =some v:=hi
   obtain⟨v',hv',hR⟩:=hv.get hi'
   have hlt:i<vs.length:=by
    rcases Nat.lt_or_ge i vs.length with h'|h'
    ·exact h'
    ·simp[List.getElem?_eq_none h'] at hi'
   exact⟨v',by rw[hc i hlt];exact hv',hR⟩,hex,hwh,h0,h1⟩
theorem fW(elem:TypeId)(c:Array Value):(newRow elem c).run P w= .ok ⟨w.heap.size,0,none⟩ (w.alloc (.cells c elem)):=by
 simp[newRow]
theorem aE.gw{s:Sem Value}{v v':Value}{elem kv:Nat}{vs vs':List Value}(hh:aI ρ h.heap.get w)(hf:bC ρ h.next (h.next+1))(hv:cU ρ vs vs')
 (hs:s.run P w= .ok v' (w.alloc (.cells ⟨vs'⟩ elem))) (hr:VR (ρ.set h.next ⟨w.heap.size,0,0⟩) v v'):aE P ρ h w s v (gw h elem kv vs):=by
 have hn:ρ h.next=none:=hf _ (Nat.le_refl _) (Nat.lt_succ_self _)
 refine aE.new (δ:=0) (ψ:=0) hh hf hs (rM (hv.mono (aU.iE _ hn)) (Nat.le_refl _) ?_ ?_ (fun _=>rfl) (fun _=>⟨rfl,?_⟩) (fun _=>rfl) (fun h=>by cases h)) hr
 ·intro _;simp[hv.length]
 ·intro i _;simp
 ·simp[hv.length]
theorem VR.sY(ρ:aU)(b:Nat)(L:Loc)(h:L.δ=0):VR (ρ.set b L) (ptrTo b) (.pointer (some ⟨L.φ,0,none⟩)):=by
 have:=VR.ptr (ρ:=ρ.set b L) b 0 L (aU.cE _ _ _)
 simpa[h,ptrTo] using this
theorem VR.sX(ρ:aU)(b:Nat)(L:Loc)(n c:Nat)(h:L.δ=0):VR (ρ.set b L) (.slice (some ⟨b,0,none⟩) n c) (.slice (some ⟨L.φ,0,none⟩) n (c+L.ψ)):=by
 have:=VR.sl (ρ:=ρ.set b L) b 0 n c L (aU.cE _ _ _)
 simpa[h] using this
theorem Ib{e:TypeId}{i:TypeInfo}{z:Value}(hh:aI ρ h.heap.get w)(hf:bC ρ h.next (h.next+1))(hi:P.info? e=some i)(hz:i.zero=some z)(hp:au z=true):
 aE P ρ h w (Instr.alloc e true (.tuple #[])) (ptrTo h.next) (gw h e 1 (aW z)):=by
 refine aE.gw (v':= .pointer (some ⟨w.heap.size,0,none⟩)) hh hf (VR.ba hp).cells ?_ (VR.sY _ _ _ rfl)
 simp[Instr.alloc,cY hi hz,newVar,fW]
theorem On{e:TypeId}{v v':Value}(hh:aI ρ h.heap.get w)(hf:bC ρ h.next (h.next+1))(hv:VR ρ v v'):
 aE P ρ h w (Instr.box e v') (ptrTo h.next) (gw h e 1 (aW v)):=by
 refine aE.gw (v':= .pointer (some ⟨w.heap.size,0,none⟩)) hh hf hv.cells ?_ (VR.sY _ _ _ rfl)
 simp[Instr.box,newVar,fW]
theorem J9{t:TypeId}{a a':Value}{r:bW}(hh:aI ρ h.heap.get w)(ha:VR ρ a a')(hr:uh P h t a=some r): ∃v,r= .val v h/\aE P ρ h w (Instr.loadAt t a') v h:=by
 unfold uh at hr
 split at hr
 ·split at hr
  ·rename_i b off v hv
   cases hr
   obtain⟨L,v',hL,hrun,hvR⟩:=nA hh hv
   cases ha with
   |sc _ hs=>simp[simple] at hs
   |ptr b o L' hL'=>
    rw[hL] at hL';cases hL'
    exact⟨v,rfl,aE.pure hh (by simp[Instr.loadAt,Instr.sureAddr,hrun]) hvR⟩
  ·cases hr
 ·cases hr
theorem Fs{t:TypeId}{a a' v v':Value}{r:bW}(hh:aI ρ h.heap.get w)(ha:VR ρ a a')(hv:VR ρ v v')(hr:oh P h t a v=some r):
 ∃h',r= .skip h'/\h'.next=h.next/\qt P ρ h w (Instr.storeAt t a' v') h':=by
 unfold oh at hr
 split at hr
 ·rename_i b off
  split at hr
  ·rename_i i hi
   split at hr
   ·rename_i c cs h' h1 h2 h3
    cases hr
    rw[h2] at h3 h1
    have hc:=hv.cells
    rw[h2] at hc
    obtain⟨L,w',hL,hrun,hh',hst⟩:=g6 (P:=P) hh h3 hc
    have hnx:h'.next=h.next:=by
     unfold dr at h3
     repeat' (split at h3)
     all_goals first|(cases h3;rfl)|cases h3
    cases ha with
    |sc _ hs=>simp[simple] at hs
    |ptr b o L' hL'=>
     rw[hL] at hL';cases hL'
     have hlen:=hc.length
     have hsz:v'.cells.size=i.size:=by
      rw[←Array.length_toList,hlen,Nat.eq_of_beq_eq_true h1]
     exact⟨h',rfl,hnx,ρ,w',by simp[Instr.storeAt,Instr.sureAddr,storeVar,aP hi,hsz,hrun],hh',hst _ _⟩
   ·cases hr
  ·cases hr
 ·cases hr
end
section
variable{P:Program}{ρ:aU}{w:World}{h:Hs}
theorem wb(off:Nat): ∀(l:List Value)(k:Nat)(a:Array Value),off+k+l.length<=a.size->
 ((l.zipIdx k).foldl (fun cs (x:Value × Nat)=>cs.setIfInBounds (off+x.2) x.1) a).size=a.size/\
 ∀p,((l.zipIdx k).foldl (fun cs (x:Value × Nat)=>cs.setIfInBounds (off+x.2) x.1) a)[p]? =if off+k<=p/\p<off+k+l.length then l[p - (off+k)]? else a[p]?
 |[],k,a,_=>⟨rfl,fun p=>by rw[if_neg (by simp)];rfl⟩
 |v::l,k,a,hl=>by
  simp only[List.zipIdx_cons,List.foldl_cons]
  have hi:off+k<a.size:=by simp at hl;omega
  obtain⟨h1,h2⟩:=wb off l (k+1) (a.setIfInBounds (off+k) v) (by simp at hl ⊢;omega)
  refine⟨by rw[h1];simp,fun p=>?_⟩
  rw[h2 p]
  by_cases hp:p=off+k
  ·subst hp
   rw[if_neg (by omega),if_pos (by simp)]
   simp[hi]
  ·by_cases hq:off+(k+1)<=p/\p<off+(k+1)+l.length
   ·rw[if_pos hq,if_pos (by simp;omega),show p - (off+k)=(p - (off+(k+1)))+1 by omega]
    simp
   ·rw[if_neg hq,if_neg (by simp;omega),Array.getElem?_setIfInBounds_ne (by omega)]
theorem kY{place:Nat->Option (Nat × Nat)}: ∀{ps ps':List (Nat × Value)} {cells cs:List Value} {cells':Array Value},R0 ρ ps ps'->cU ρ cells cells'.toList->
 tJ place cells ps=some cs-> ∃cs':Array Value,Instr.fill place cells' ps'=some cs'/\cU ρ cs cs'.toList
 |_,_,cells,cs,cells', .nil,hc,hf=>by
  simp only[tJ,Option.some.injEq] at hf
  subst hf
  exact⟨cells',rfl,hc⟩
 |_,_,cells,cs,cells', .cons i v v' l l' hv hl,hc,hf=>by
  simp only[tJ] at hf
  cases hp:place i with
  |none=>simp[hp] at hf
  |some x=>
   obtain⟨off,size⟩:=x
   simp only[hp] at hf
   split at hf
   ·rename_i cs1 h1 h2 h3
    have hvc:=hv.cells
    have hlen:v'.cells.size=(aW v).length:=by rw[←Array.length_toList];exact hvc.length
    have hclen:cells'.size=cells.length:=by rw[←Array.length_toList];exact hc.length
    have e1:=Nat.eq_of_beq_eq_true h1
    have e2:=Nat.le_of_ble_eq_true h2
    obtain⟨o1,o2,o3⟩:=gv h3
    have hfold:=wb off v'.cells.toList 0 cells' (by simp[hlen,hclen];omega)
    have hnext:cU ρ cs1 (v'.cells.zipIdx.foldl (fun cs (x:Value × Nat)=>cs.setIfInBounds (off+x.2) x.1) cells').toList:=by
     rw[←Array.foldl_toList,Array.toList_zipIdx]
     refine cU.w9 ?_ fun p u hu=>?_
     ·rw[Array.length_toList,hfold.1,hclen,o2];omega
     ·rw[Array.getElem?_toList,hfold.2 p]
      rw[o3 p] at hu
      by_cases hq:off<=p/\p<off+(aW v).length
      ·rw[if_pos hq] at hu
       rw[if_pos (by rw[Array.length_toList,hlen];omega)]
       simpa using hvc.get hu
      ·rw[if_neg hq] at hu
       rw[if_neg (by rw[Array.length_toList,hlen];omega)]
       simpa using hc.get hu
    obtain⟨cs',hcs',hR⟩:=kY hl hnext hf
    refine⟨cs',?_,hR⟩
    simp only[Instr.fill,hp]
    rw[if_neg (by simp[hlen,hclen,e1];omega)]
    exact hcs'
   ·cases hf
theorem qy: ∀{fs:List Field} {pl:List (Nat × Nat)},oS P fs=some pl->(fs.mapM fun f=>Prod.mk f.offset<$>sizeOf f.type).run P w= .ok pl w
 |[],pl,hp=>by simp only[oS,Option.some.injEq] at hp;subst hp;simp
 |f::fs,pl,hp=>by
  simp only[oS] at hp
  split at hp
  ·rename_i i hi
   split at hp
   ·rename_i r hr
    cases hp
    simp[List.mapM_cons,aP hi,qy hr]
   ·cases hp
  ·cases hp
theorem H4{tm:Tm}{n:Nat}{a:Act}(ht:TR ρ tm n a.tmps){t:TypeId}{parts:Array (Nat × Operand)}{r:bW}(hh:aI ρ h.heap.get w)(hr:uk P tm h t parts.toList=some r):
 ∃v,r= .val v h/\aE P ρ h w (Instr.build t (parts.map fun(i,x)=>(i,a.eval x))) v h:=by
 unfold uk at hr
 split at hr
 ·rename_i ps ti d hps hti hd
  have hpr:=jS ht hps
  split at hr
  ·rename_i z fields hz
   split at hr
   ·rename_i pl hpz hpl
    split at hr
    ·rename_i cs hcs
     cases hr
     obtain⟨cs',h1,h2⟩:=kY hpr (VR.ba hpz (ρ:=ρ)).cells hcs
     have hpe:nth pl=fun i=>pl[i]? :=funext fun i=>by rw[fF]
     rw[hpe] at h1
     refine⟨_,rfl,aE.pure hh ?_ (.agg cs cs'.toList h2)⟩
     simp[Instr.build,cY hti hz,ab hd,Array.mapM_eq_mapM_toList,qy hpl,h1]
    ·cases hr
   ·cases hr
  ·rename_i z ln e hz
   split at hr
   ·rename_i ei hpz hei
    split at hr
    ·rename_i cs hcs
     cases hr
     obtain⟨cs',h1,h2⟩:=kY hpr (VR.ba hpz (ρ:=ρ)).cells hcs
     refine⟨_,rfl,aE.pure hh ?_ (.agg cs cs'.toList h2)⟩
     simp[Instr.build,cY hti hz,ab hd,aP hei,h1]
    ·cases hr
   ·cases hr
  ·cases hr
 ·cases hr
theorem rp{α:Type}: ∀(n:Nat)(l:List α),(rep n l).length=n*l.length
 |0,l=>by simp[rep]
 |n+1,l=>by simp[rep,rp n l,Nat.add_mul];omega
theorem Cc: ∀(n:Nat)(l:List Value)(i:Nat),i<n*l.length->(rep n l)[i]? =l[i % l.length]?
 |0,l,i,h=>by simp at h
 |n+1,l,i,h=>by
  simp only[rep]
  by_cases hi:i<l.length
  ·rw[List.getElem?_append_left hi,Nat.mod_eq_of_lt hi]
  ·rw[List.getElem?_append_right (by omega),Cc n l (i - l.length) (by rw[Nat.add_mul] at h;omega)]
   rw[Nat.mod_eq_sub_mod (a:=i) (by omega)]
theorem rS(n:Nat)(z:Value)(s:Nat)(hs:z.cells.size=s)(hs0:s≠0\/n=0):
 ((Array.range (n*s)).map (z.cells[· % z.cells.size]!))=(rep n z.cells.toList).toArray:=by
 apply Array.ext'
 apply List.ext_getElem?
 intro i
 rw[Array.getElem?_toList]
 by_cases hi:i<n*s
 ·have hz:0<s:=by rcases hs0 with h|h<;>(try subst h)<;>omega
  have hlt:i % s<s:=Nat.mod_lt _ hz
  have e1:(rep n z.cells.toList)[i]? =z.cells.toList[i % z.cells.toList.length]? :=Cc n _ i (by rw[Array.length_toList,hs];exact hi)
  simp only[Array.getElem?_map,Array.getElem?_range,hi,if_true,Option.map_some,e1,Array.length_toList,hs]
  rw[Array.getElem?_toList,Array.getElem?_eq_getElem (by omega)]
  rw[getElem!_pos _ _ (by omega)]
 ·rw[Array.getElem?_eq_none (by simp;omega),List.getElem?_eq_none (by simp[rp,hs];omega)]
theorem fg{v:Value}:v.cells.toList=aW v:=by cases v<;>rfl
theorem uW{tm:Tm}{n:Nat}{a:Act}(ht:TR ρ tm n a.tmps){t:TypeId}{len:Nat}{parts:Array (Nat × Operand)}{r:bW}(hh:aI ρ h.heap.get w)(hf:bC ρ h.next (r.next h))
 (hr:iA P tm h t len parts.toList=some r): ∃v h',r= .val v h'/\aE P ρ h w (Instr.buildSlice t len (parts.map fun(i,x)=>(i,a.eval x))) v h':=by
 unfold iA at hr
 split at hr
 ·rename_i e ps hu hps
  have hpr:=jS ht hps
  split at hr
  ·rename_i i hi
   split at hr
   ·rename_i z hz
    split at hr
    ·rename_i cs hpz hsz hle hcs
     cases hr
     have hle':=Nat.le_of_ble_eq_true hle
     have hsz':=Nat.eq_of_beq_eq_true hsz
     have hzs:z.cells.size=i.size:=by rw[←Array.length_toList,fg,hsz']
     have hrep:cU ρ (rep len (aW z)) (rep len (aW z)).toArray.toList:=by
      have: ∀k,cU ρ (rep k (aW z)) (rep k (aW z)):=by
       intro k
       induction k with
       |zero=>exact .nil
       |succ k ih=>
        refine cU.append ?_ ih
        have:=(VR.ba hpz (ρ:=ρ)).cells
        rw[fg] at this
        exact this
      simpa using this len
     obtain⟨cs',h1,h2⟩:=kY hpr hrep hcs
     refine⟨_,_,rfl,aE.gw (v':= .slice (some ⟨w.heap.size,0,none⟩) len len) hh hf h2 ?_ (VR.sX _ _ _ _ _ rfl)⟩
     have hbig: ¬len*i.size>2 ^ 24:=by omega
     by_cases h0:len*i.size=0
     ·have hnil:rep len (aW z)=[]:=by
       rw[←List.length_eq_zero_iff,rp,hsz'];exact h0
      rw[hnil] at h1
      have hr0: ∀f:Nat->Value,Array.map f (Array.range 0)= #[]:=fun f=>by simp[Array.range]
      simp[hr0,Instr.buildSlice,ab hu,aP hi,h0,h1,fW]
     ·have hcells:((Array.range (len*i.size)).map (z.cells[· % z.cells.size]!))=(rep len (aW z)).toArray:=by
       rw[rS len z i.size hzs (by
        rcases Nat.eq_zero_or_pos i.size with h|h
        ·rw[h] at h0;simp at h0
        ·left;omega),fg]
      simp only[Instr.buildSlice,Sem.run_bind,ab hu,Result.andThen_ok,aP hi,if_neg hbig,if_neg h0,cY hi hz,Sem.run_pure,hcells]
      simp[h1,fW]
    ·cases hr
   ·cases hr
  ·cases hr
 ·cases hr
theorem qC{t:TypeId}{cs:List Value}{cs':List Value}{off:Nat}{v:Value}(hc:cU ρ cs cs')(hp:Co P t cs off=some v):
 ∃v',(part t ⟨cs'⟩ off).run P w= .ok v' w/\VR ρ v v':=by
 unfold Co at hp
 split at hp
 ·rename_i d hd
  split at hp
  ·rename_i hag
   split at hp
   ·rename_i i hi
    cases hp
    refine⟨.agg (Array.extract ⟨cs'⟩ off (off+i.size)),by simp[part,kK hd,hag,aP hi],?_⟩
    have e: ∀l:List Value,(Array.extract ⟨l⟩ off (off+i.size))=⟨(l.drop off).take i.size⟩:=fun l=>by
     apply Array.ext'
     simp[List.extract]
    rw[e,e]
    refine .agg _ _ (cU.w9 (by simp[hc.length]) fun j u hj=>?_)
    have hjs:j<i.size:=by
     rcases Nat.lt_or_ge j i.size with h'|h'
     ·exact h'
     ·rw[List.getElem?_take_eq_none h'] at hj;cases hj
    rw[List.getElem?_take_of_lt hjs,List.getElem?_drop] at hj ⊢
    exact hc.get hj
   ·cases hp
  ·rename_i hag
   rw[fF] at hp
   obtain⟨v',h1,h2⟩:=hc.get hp
   refine⟨v',?_,h2⟩
   simp[part,kK hd,hag,h1]
 ·cases hp
theorem G0{t:TypeId}{x x':Value}{f:Nat}{r:bW}(hh:aI ρ h.heap.get w)(hx:VR ρ x x')(hr:xR P h t x f=some r): ∃v,r= .val v h/\aE P ρ h w (Instr.field t x' f) v h:=by
 unfold xR at hr
 split at hr
 ·rename_i fields cs hu
  split at hr
  ·rename_i fd hfd
   split at hr
   ·rename_i v hv
    cases hr
    cases hx with
    |sc _ hs=>simp[simple] at hs
    |agg a a' hc=>
     obtain⟨v',h1,h2⟩:=qC (P:=P) (w:=w) hc hv
     have hfd':fields[f]? =some fd:=by rw[←hfd,rJ,fF,Array.getElem?_toList]
     exact⟨v,rfl,aE.pure hh (by simp[Instr.field,ab hu,hfd',asAgg,h1]) h2⟩
   ·cases hr
  ·cases hr
 ·cases hr
theorem xq{t:TypeId}{x x':Value}{f:Nat}{r:bW}(hh:aI ρ h.heap.get w)(hx:VR ρ x x')(hr:lz P h t x f=some r): ∃v,r= .val v h/\aE P ρ h w (Instr.fieldAt t x' f) v h:=by
 unfold lz at hr
 split at hr
 ·rename_i fields a hu
  split at hr
  ·rename_i fd hfd hsp
   split at hr
   ·rename_i i hi
    split at hr
    ·cases hr
    ·rename_i m hm
     cases hr
     cases hx with
     |sc _ hs=>simp[simple] at hs
     |ptr b o L hL=>
      have hfd':fields[f]? =some fd:=by rw[←hfd,rJ,fF,Array.getElem?_toList]
      refine⟨_,rfl,aE.pure hh (v':= .pointer (some ⟨L.φ,L.δ+o+fd.offset,none⟩)) ?_ ?_⟩
      ·simp[Instr.fieldAt,ab hu,hfd',Instr.sureAddr,fieldPlace,aP hi,hm,dD]
      ·have:=VR.ptr (ρ:=ρ) b (o+fd.offset) L hL
       rw[Nat.add_assoc];exact this
   ·cases hr
  ·cases hr
 ·cases hr
theorem Bw{x x':Value}{i:Nat}{r:bW}(hh:aI ρ h.heap.get w)(hx:VR ρ x x')(hr:pI h x i=some r): ∃v,r= .val v h/\aE P ρ h w (Instr.extract x' i) v h:=by
 unfold pI at hr
 split at hr
 ·rename_i vs
  split at hr
  ·rename_i v hv
   cases hr
   rw[fF] at hv
   cases hx with
   |sc _ hs=>simp[simple] at hs
   |tuple a a' hc=>
    obtain⟨v',h1,h2⟩:=hc.get hv
    exact⟨v,rfl,aE.pure hh (by simp[Instr.extract,h1]) h2⟩
  ·cases hr
 ·cases hr
theorem xl{t:TypeId}{x x' i i':Value}{r:bW}(hh:aI ρ h.heap.get w)(hx:VR ρ x x')(hi:VR ρ i i')(hr:gY P h t x i=some r): ∃v,r= .val v h/\aE P ρ h w (Instr.indexAt t x' i') v h:=by
 unfold gY at hr
 split at hr
 ·rename_i n e a k j hu
  split at hr
  ·rename_i ei hei hsp hlt
   cases hr
   cases hi with
   |sc _ _=>
    cases hx with
    |sc _ hs=>simp[simple] at hs
    |ptr b o L hL=>
     have hlt':j<n:=by simpa[Nat.blt_eq] using hlt
     refine⟨_,rfl,aE.pure hh (v':= .pointer (some ⟨L.φ,L.δ+o+j*ei.size,none⟩)) ?_ ?_⟩
     ·simp[Instr.indexAt,asIntOf,ab hu,Instr.sureAddr,aP hei,dD,hlt']
     ·have:=VR.ptr (ρ:=ρ) b (o+j*ei.size) L hL
      rw[Nat.add_assoc];exact this
  ·cases hr
 ·rename_i e a n c k j hu
  split at hr
  ·rename_i ei hei hsp hlt
   cases hr
   cases hi with
   |sc _ _=>
    cases hx with
    |sc _ hs=>exact absurd hsp (dY hs).1
    |sl b o m c L hL=>
     have hlt':j<n:=by simpa[Nat.blt_eq] using hlt
     refine⟨_,rfl,aE.pure hh (v':= .pointer (some ⟨L.φ,L.δ+o+j*ei.size,none⟩)) ?_ ?_⟩
     ·simp[Instr.indexAt,asIntOf,ab hu,aP hei,dD,hlt']
     ·have:=VR.ptr (ρ:=ρ) b (o+j*ei.size) L hL
      rw[Nat.add_assoc];exact this
  ·cases hr
 ·cases hr
theorem uV(s:ByteArray)(i:Nat):s[i]? =s.data.toList[i]? :=by
 rw[Array.getElem?_toList]
 simp only[getElem?_def]
 rfl
theorem GN{t:TypeId}{x x' i i':Value}{r:bW}(hh:aI ρ h.heap.get w)(hx:VR ρ x x')(hi:VR ρ i i')(hr:xQ P h t x i=some r): ∃v,r= .val v h/\aE P ρ h w (Instr.index t x' i') v h:=by
 unfold xQ at hr
 split at hr
 ·rename_i n e cs k j hu
  split at hr
  ·rename_i ei hei hlt
   split at hr
   ·rename_i v hv
    cases hr
    cases hi with
    |sc _ _=>
     cases hx with
     |sc _ hs=>simp[simple] at hs
     |agg a a' hc=>
      obtain⟨v',h1,h2⟩:=qC (P:=P) (w:=w) hc hv
      have hlt':j<n:=by simpa[Nat.blt_eq] using hlt
      exact⟨v,rfl,aE.pure hh (by simp[Instr.index,asIntOf,ab hu,aP hei,hlt',h1]) h2⟩
   ·cases hr
  ·cases hr
 ·rename_i s k j hu
  split at hr
  ·rename_i b hb
   cases hr
   cases hi with
   |sc _ _=>
    cases hx with
    |sc _ hs=>
     rw[fF] at hb
     refine⟨_,rfl,aE.pure hh (v':= .int .u8 b.toNat) ?_ (.sc _ rfl)⟩
     have hb':s[j]? =some b:=by rw[uV];exact hb
     simp[Instr.index,asIntOf,ab hu,hb']
  ·cases hr
 ·cases hr
end
section
variable{P:Program}{ρ:aU}{w:World}{h:Hs}
theorem xA{v:Value}{hi i:Nat}(hb:xB v hi=some i):(∃k,v= .int k (i:Int))/\i<=hi:=by
 unfold xB at hb
 split at hb
 ·split at hb
  ·rename_i h;cases hb;exact⟨⟨_,rfl⟩,Nat.le_of_ble_eq_true h⟩
  ·cases hb
 ·cases hb
theorem VR.int{k:IntKind}{i:Int}{x:Value}(hv:VR ρ (.int k i) x):x= .int k i:=by cases hv;rfl
theorem eC{tm:Tm}{n:Nat}{a:Act}(ht:TR ρ tm n a.tmps){o:Operand}{d hi i:Nat}(hb:bP tm (some o) d hi=some i):(∃k,a.eval o= .int k (i:Int))/\i<=hi:=by
 simp only[bP] at hb
 split at hb
 ·rename_i v hv
  obtain⟨⟨k,rfl⟩,hle⟩:=xA hb
  exact⟨⟨k,(aJ ht hv).int⟩,hle⟩
 ·cases hb
theorem iw{tm:Tm}{d hi i:Nat}(hb:bP tm none d hi=some i):i=d/\d<=hi:=by
 simp only[bP] at hb
 split at hb
 ·rename_i h;cases hb;exact⟨rfl,Nat.le_of_ble_eq_true h⟩
 ·cases hb
theorem kz{tm:Tm}{n:Nat}{a:Act}(ht:TR ρ tm n a.tmps){o:Option Operand}{d hi i:Nat}(hb:bP tm o d hi=some i):i<=hi:=by
 cases o with
 |none=>obtain⟨rfl,h⟩:=iw hb;exact h
 |some o=>exact(eC ht hb).2
theorem run_sliceBound{k:IntKind}{i y:Nat}(c:BoundsCode)(hle:i<=y):(Instr.sliceBound (.int k (i:Int)) y c).run P w= .ok i w:=by
 simp[Instr.sliceBound,asIntOf]
 omega
theorem kL{tm:Tm}{n:Nat}{a:Act}(ht:TR ρ tm n a.tmps){lo hi:Option Operand}{len top cap l hh:Nat}(b:Bool)(h1:bP tm hi len top=some hh)(h2:bP tm lo 0 hh=some l)(hle:top<=cap):
 (Instr.sliceBounds b len cap (lo.map a.eval) (hi.map a.eval) none).run P w= .ok (l,hh,cap) w:=by
 cases hi with
 |none=>
  obtain⟨rfl,_⟩:=iw h1
  cases lo with
  |none=>obtain⟨rfl,_⟩:=iw h2;simp[Instr.sliceBounds]
  |some lo=>
   obtain⟨⟨k,hk⟩,hl⟩:=eC ht h2
   simp[Instr.sliceBounds,hk,run_sliceBound _ hl]
 |some hi=>
  obtain⟨⟨k,hk⟩,hl⟩:=eC ht h1
  cases lo with
  |none=>obtain⟨rfl,_⟩:=iw h2;simp[Instr.sliceBounds,hk,run_sliceBound _ (Nat.le_trans hl hle)]
  |some lo=>
   obtain⟨⟨k',hk'⟩,hl'⟩:=eC ht h2
   simp[Instr.sliceBounds,hk,hk',run_sliceBound _ (Nat.le_trans hl hle),run_sliceBound _ hl']
theorem qz{tm:Tm}{n:Nat}{a:Act}(ht:TR ρ tm n a.tmps){lo:Option Operand}{hi mx:Operand}{len top cap l hh m d d':Nat}(b:Bool)(h0:bP tm (some mx) d top=some m)(h1:bP tm (some hi) d' m=some hh)(h2:bP tm lo 0 hh=some l)
 (hle:top<=cap):(Instr.sliceBounds b len cap (lo.map a.eval) (some (a.eval hi)) (some (a.eval mx))).run P w= .ok (l,hh,m) w:=by
 obtain⟨⟨k0,hk0⟩,hl0⟩:=eC ht h0
 obtain⟨⟨k,hk⟩,hl⟩:=eC ht h1
 cases lo with
 |none=>obtain⟨rfl,_⟩:=iw h2;simp[Instr.sliceBounds,hk0,hk,run_sliceBound _ (Nat.le_trans hl0 hle),run_sliceBound _ hl]
 |some lo=>
  obtain⟨⟨k',hk'⟩,hl'⟩:=eC ht h2
  simp[Instr.sliceBounds,hk0,hk,hk',run_sliceBound _ (Nat.le_trans hl0 hle),run_sliceBound _ hl,run_sliceBound _ hl']
theorem aI.ext{H:HF}{b:Nat}(L:Loc)(hh:aI ρ H w)(hb:ρ b=none):aI (ρ.set b L) H w/\Step ρ H w (ρ.set b L) H w b (b+1):=by
 have hle:=aU.iE (ρ:=ρ) L hb
 have hsame: ∀i o Li,H i=some o->(ρ.set b L) i=some Li->ρ i=some Li:=by
  intro i o Li hi hLi
  obtain⟨M,x,hM,_,_⟩:=hh.obj _ _ hi
  have:=hle _ _ hM
  rw[hLi] at this;cases this;exact hM
 refine⟨⟨fun i o hi=>?_,fun i j oi oj Li Lj hi hj hij hoj hLi hLj=>hh.inj i j oi oj Li Lj hi hj hij hoj (hsame _ _ _ hi hLi) (hsame _ _ _ hj hLj)⟩,
  ⟨rfl,rfl,rfl,Nat.le_refl _,fun _ _ _=>rfl,fun i o Li hi ho hLi=> .inl ⟨i,o,Li,hi,ho,hsame _ _ _ hi hLi,rfl⟩,fun i o Li hi hLi=> .inl ⟨i,o,Li,hi,hsame _ _ _ hi hLi,rfl⟩,hle,fun i hi=>aU.ga _ (by omega)⟩⟩
 obtain⟨M,x,hM,hx,hR⟩:=hh.obj _ _ hi
 exact⟨M,x,hle _ _ hM,hx,hR.mono hle⟩
theorem aI.move{H H':HF}{b nb:Nat}{o o':aa}{L L':Loc}{x':Obj}{w':World}(hh:aI ρ H w)(hb:H b=some o)(ho:o.owned=true)(hL:ρ b=some L)(hn:ρ nb=none)(hφ:L'.φ=L.φ)
 (hw:lC w w' L.φ x') (hR:OR (ρ.set nb L') L' o' x') (hH: ∀i,H' i=if i=nb then some o' else if i=b then none else H i):
 aI (ρ.set nb L') H' w'/\Step ρ H w (ρ.set nb L') H' w' nb (nb+1):=by
 have hle:=aU.iE (ρ:=ρ) L' hn
 have hsame: ∀i o Li,H i=some o->(ρ.set nb L') i=some Li->ρ i=some Li:=by
  intro i o Li hi hLi
  obtain⟨M,x,hM,_,_⟩:=hh.obj _ _ hi
  have:=hle _ _ hM
  rw[hLi] at this;cases this;exact hM
 refine⟨⟨fun i oi hi=>?_,fun i j oi oj Li Lj hi hj hij hoj hLi hLj=>?_⟩,⟨hw.os,hw.tape,hw.output,by rw[hw.size];exact Nat.le_refl _,fun r _ hno=>hw.other r fun he=>hno b o L hb ho hL he.symm,?_,?_,hle,fun i hi=>aU.ga _ (by omega)⟩⟩
 ·rw[hH] at hi
  split at hi
  ·rename_i he;subst he;cases hi;exact⟨L',x',aU.cE _ _ _,by rw[hφ];exact hw.at_,hR⟩
  ·split at hi
   ·cases hi
   ·rename_i hne
    obtain⟨M,x,hM,hx,hRx⟩:=hh.obj _ _ hi
    exact⟨M,x,hle _ _ hM,by rw[hw.other _ (hh.inj i b oi o M L hi hb hne ho hM hL)];exact hx,hRx.mono hle⟩
 ·rw[hH] at hi hj
  split at hi
  ·rename_i he;subst he;cases hi
   rw[if_neg (fun h=>hij h.symm)] at hj
   split at hj
   ·cases hj
   ·rename_i hne
    rw[aU.cE] at hLi;cases hLi
    rw[hφ]
    exact fun he=>hh.inj j b oj o Lj L hj hb hne ho (hsame _ _ _ hj hLj) hL he.symm
  ·rename_i hni
   split at hi
   ·cases hi
   ·rename_i hne
    split at hj
    ·rename_i he;subst he;cases hj
     rw[aU.cE] at hLj;cases hLj
     rw[hφ]
     exact hh.inj i b oi o Li L hi hb hne ho (hsame _ _ _ hi hLi) hL
    ·split at hj
     ·cases hj
     ·exact hh.inj i j oi oj Li Lj hi hj hij hoj (hsame _ _ _ hi hLi) (hsame _ _ _ hj hLj)
 ·intro i oi Li hi ho' hLi
  rw[hH] at hi
  split at hi
  ·rename_i he;subst he;rw[aU.cE] at hLi;cases hLi;exact .inl ⟨b,o,L,hb,ho,hL,hφ.symm⟩
  ·split at hi
   ·cases hi
   ·exact .inl ⟨i,oi,Li,hi,ho',hsame _ _ _ hi hLi,rfl⟩
 ·intro i oi Li hi hLi
  rw[hH] at hi
  split at hi
  ·rename_i he;subst he;rw[aU.cE] at hLi;cases hLi;exact .inl ⟨b,o,L,hb,hL,hφ.symm⟩
  ·split at hi
   ·cases hi
   ·exact .inl ⟨i,oi,Li,hi,hsame _ _ _ hi hLi,rfl⟩
theorem lC.self{r:Nat}{x:Obj}(hx:w.heap[r]? =some x):lC w w r x:=⟨rfl,rfl,rfl,rfl,fun _ _=>rfl,hx⟩
theorem yq{tm:Tm}{n:Nat}{a:Act}(ht:TR ρ tm n a.tmps){xt:TypeId}{s:ByteArray}{lo hi:Option Operand}{v:Value}(hu:P.underlying xt=some .string)(hr:oD tm s lo hi=some v)(hh:aI ρ h.heap.get w):
 aE P ρ h w (Instr.sliceAt xt (.string s) (lo.map a.eval) (hi.map a.eval) none) v h:=by
 unfold oD at hr
 split at hr
 ·rename_i hh' h1
  split at hr
  ·rename_i l h2
   cases hr
   have:=kL (P:=P) (w:=w) ht false h1 h2 (Nat.le_refl _)
   exact aE.pure hh (v':= .string (s.extract l hh')) (by simp[Instr.sliceAt,Instr.slice,ab hu,this]) (.sc _ rfl)
  ·cases hr
 ·cases hr
theorem dL{L:Loc}{k:bg}{x:Obj}(hR:OR ρ L (.ax k) x): ∃c fr,x= .cells c k.elem fr/\xW ρ L k c k.elem fr:=by
 cases x<;>simp only[OR] at hR<;>first|exact hR.elim|skip
 rename_i c e fr
 have:=hR.elem;subst this
 exact⟨c,fr,rfl,hR⟩
theorem AT{tm:Tm}{n:Nat}{a:Act}(ht:TR ρ tm n a.tmps){xt e:TypeId}{i:TypeInfo}{ao:Option Addr}{len cap:Nat}{v':Value}{lo hi mx:Option Operand}{r:bW}(hu:P.underlying xt=some (.slice e))(hi':P.info? e=some i)
 (hx:VR ρ (.slice ao len cap) v') (hh:aI ρ h.heap.get w) (hf:bC ρ h.next (r.next h)) (hr:gn h tm i.size ao len cap lo hi mx=some r):
 ∃v h',r= .val v h'/\aE P ρ h w (Instr.sliceAt xt v' (lo.map a.eval) (hi.map a.eval) (mx.map a.eval)) v h':=by
 unfold gn at hr
 split at hr
 ·
  split at hr
  ·rename_i hh' h1
   split at hr
   ·rename_i l h2
    cases hr
    cases hx with
    |sc _ _=>
     have hb:=kL (P:=P) (w:=w) ht true h1 h2 (Nat.le_refl _)
     refine⟨_,_,rfl,aE.pure hh (v':= .slice none (hh' - l) (0 - l)) ?_ (.sc _ rfl)⟩
     simp[Instr.sliceAt,Instr.slice,ab hu,hb,aP hi']
   ·cases hr
  ·cases hr
 ·
  rename_i ad
  split at hr
  ·rename_i k hh' hsp hk h1
   split at hr
   ·rename_i l h2
    have hl1:=kz ht h1
    have hl2:=kz ht h2
    cases hx with
    |sc _ hs=>exact absurd hsp (dY hs).1
    |sl b o _ _ L hL=>
     have hb:=kL (P:=P) (w:=w) (cap:=cap+L.ψ) ht true h1 h2 (Nat.le_add_right _ _)
     split at hr
     ·rename_i hne
      cases hr
      have hne':cap≠l:=by intro he;subst he;simp at hne
      refine⟨_,_,rfl,aE.pure hh (v':= .slice (some ⟨L.φ,L.δ+o+l*i.size,none⟩) (hh' - l) (cap+L.ψ - l)) ?_ ?_⟩
      ·simp[Instr.sliceAt,Instr.slice,ab hu,hb,aP hi',show¬cap+L.ψ=l by omega,dD]
      ·have:=VR.sl (ρ:=ρ) b (o+l*i.size) (hh' - l) (cap - l) L hL
       rw[show cap - l+L.ψ=cap+L.ψ - l by omega,←Nat.add_assoc] at this
       exact this
     ·rename_i heq
      have heq':cap=l:=Nat.eq_of_beq_eq_true heq
      split at hr
      ·rename_i hex
       cases hr
       obtain⟨L0,x,hL0,hx0,hR⟩:=hh.obj _ _ hk
       rw[hL] at hL0;cases hL0
       obtain⟨c,fr,rfl,hR⟩:=dL hR
       have hψ:=hR.exact hex
       refine⟨_,_,rfl,aE.pure hh (v':= .slice (some ⟨L.φ,L.δ+o,none⟩) (hh' - l) (cap+L.ψ - l)) ?_ ?_⟩
       ·simp only[Instr.sliceAt,Instr.slice,Sem.run_bind,ab hu,Result.andThen_ok,Option.map_none,hb,aP hi',Sem.run_pure]
        rw[if_pos (by omega)]
       ·have:=VR.sl (ρ:=ρ) b o (hh' - l) (cap - l) L hL
        rw[show cap - l+L.ψ=cap+L.ψ - l by omega] at this
        exact this
      ·cases hr
       have hn:ρ h.next=none:=hf _ (Nat.le_refl _) (Nat.lt_succ_self _)
       obtain⟨e1,e2⟩:=aI.ext (⟨L.φ,if cap+L.ψ=l then L.δ+o else L.δ+o+l*i.size,L.ψ⟩:Loc) hh hn
       refine⟨_,_,rfl,_, .slice (some ⟨L.φ,if cap+L.ψ=l then L.δ+o else L.δ+o+l*i.size,none⟩) 0 L.ψ,w,?_,?_,e1,e2⟩
       ·have z1:hh' - l=0:=by omega
        have z2:cap+L.ψ - l=L.ψ:=by omega
        simp only[Instr.sliceAt,Instr.slice,Sem.run_bind,ab hu,Result.andThen_ok,Option.map_none,hb,aP hi',Sem.run_pure,z1,z2]
        by_cases hz:cap+L.ψ=l
        ·rw[if_pos hz,if_pos hz]
        ·rw[if_neg hz,if_neg hz];simp[dD]
       ·have:=VR.sl (ρ:=ρ.set h.next (⟨L.φ,if cap+L.ψ=l then L.δ+o else L.δ+o+l*i.size,L.ψ⟩:Loc)) h.next 0 0 0 _ (aU.cE _ _ _)
        simpa using this
   ·cases hr
  ·cases hr
 ·
  rename_i ad mo
  split at hr
  ·rename_i k m hsp hk h0
   split at hr
   ·rename_i hh' hio h1
    split at hr
    ·rename_i l h2
     have hl0:=kz ht h0
     have hl1:=kz ht h1
     have hl2:=kz ht h2
     split at hr
     ·rename_i hhm hown
      split at hr
      ·rename_i cs hcs
       cases hr
       have hhm':hh'=m:=Nat.eq_of_beq_eq_true hhm
       subst hhm'
       cases hx with
       |sc _ hs=>exact absurd hsp (dY hs).1
       |sl b o _ _ L hL=>
        have hb:=qz (P:=P) (w:=w) (len:=len) (cap:=cap+L.ψ) ht true h0 h1 h2 (Nat.le_add_right _ _)
        have hn:ρ h.next=none:=hf _ (Nat.le_refl _) (Nat.lt_succ_self _)
        obtain⟨L0,x,hL0,hx0,hR⟩:=hh.obj _ _ hk
        rw[hL] at hL0;cases hL0
        obtain⟨c,fr,rfl,hR⟩:=dL hR
        obtain⟨cs',c1,c2,c3⟩:=hR.pA hx0 hcs
        obtain⟨δ',hδ⟩: ∃δ',δ'=if hh'=l then L.δ+o else L.δ+(o+l*i.size):=⟨_,rfl⟩
        have hlen:=(fV hcs).1
        have hget: ∀j,j<(hh' - l)*i.size->cs[j]? =k.cells[o+l*i.size+j]? :=fun j hj=>by
         rw[(fV hcs).2 j hj,k9,List.getElem?_drop]
        have hOR:OR (ρ.set h.next ⟨L.φ,δ',0⟩) ⟨L.φ,δ',0⟩ (.ax {k with cells:=cs,cap:=(hh' - l)*i.size,kv:=i.size,exact:=true,whole:=false,own:=xa cs}) (.cells c k.elem fr):=by
         refine⟨rfl,by show cs.length<=_;rw[hlen];exact Nat.le_refl _,fun ho=>?_,fun j v hj=>?_,fun _=>rfl,(fun h=>by cases h),hR.fJ,hR.NP⟩
         ·show δ'+(hh' - l)*i.size+0*i.size<=c.size
          cases hc0:cs with
          |nil=>have ho':xa cs=true:=ho;rw[hc0] at ho';cases ho'
          |cons c0 cr=>
           have hpos:0<(hh' - l)*i.size:=by rw[←hlen,hc0];simp
           have hne:hh'≠l:=by rintro rfl;simp at hpos
           have h1:=hget ((hh' - l)*i.size - 1) (by omega)
           have h2:cs[(hh' - l)*i.size - 1]? ≠none:=by simp;omega
           rw[h1] at h2
           have h3:o+l*i.size+((hh' - l)*i.size - 1)<k.cells.length:=by simpa using h2
           have h4:=hR.len
           have h5:=hR.room hown
           rw[hδ,if_neg hne]
           omega
         ·have hj':cs[j]? =some v:=hj
          have hjl:j<(hh' - l)*i.size:=by
           rw[←hlen]
           rcases Nat.lt_or_ge j cs.length with h'|h'
           ·exact h'
           ·simp[List.getElem?_eq_none h'] at hj'
          have hne:hh'≠l:=by rintro rfl;simp at hjl
          rw[hget j hjl] at hj'
          obtain⟨u,hu1,hu2⟩:=hR.cell _ _ hj'
          refine⟨u,?_,hu2.mono (aU.iE _ hn)⟩
          show c[δ'+j]? =some u
          rw[hδ,if_neg hne,show L.δ+(o+l*i.size)+j=L.δ+(o+l*i.size+j) by omega]
          exact hu1
        obtain⟨e1,e2⟩:=aI.move (H':=((h.heap.del b).set h.next (.ax {k with cells:=cs,cap:=(hh' - l)*i.size,kv:=i.size,exact:=true,whole:=false,own:=xa cs})).get)
         (L':=⟨L.φ,δ',0⟩) hh hk hown hL hn rfl (lC.self hx0) hOR (fun j=>by rw[T.aL,T.fQ])
        refine⟨_,_,rfl,_, .slice (some ⟨L.φ,δ',none⟩) (hh' - l) (hh' - l),w,?_,?_,e1,e2⟩
        ·simp only[Instr.sliceAt,Instr.slice,Sem.run_bind,ab hu,Result.andThen_ok,Option.map_some,hb,aP hi',Sem.run_pure]
         congr 3
         rw[hδ]
         split
         ·rfl
         ·simp[dD,Nat.add_assoc]
        ·have:=VR.sl (ρ:=ρ.set h.next ⟨L.φ,δ',0⟩) h.next 0 (hh' - l) (hh' - l) _ (aU.cE _ _ _)
         simpa using this
      ·cases hr
     ·cases hr
    ·cases hr
   ·cases hr
  ·cases hr
 ·rename_i mo
  split at hr
  ·rename_i m hio h0
   split at hr
   ·rename_i hh' h1
    split at hr
    ·rename_i l h2
     cases hr
     cases hx with
     |sc _ _=>
      have hb:=qz (P:=P) (w:=w) (len:=len) (cap:=0) ht true h0 h1 h2 (Nat.le_refl _)
      refine⟨_,_,rfl,aE.pure hh (v':= .slice none (hh' - l) (m - l)) ?_ (.sc _ rfl)⟩
      simp only[Instr.sliceAt,Instr.slice,Sem.run_bind,ab hu,Result.andThen_ok,Option.map_some,hb,aP hi',Sem.run_pure]
      split<;>rfl
    ·cases hr
   ·cases hr
  ·cases hr
theorem Fx{tm:Tm}{n:Nat}{a:Act}(ht:TR ρ tm n a.tmps){xt:TypeId}{x x':Value}{lo hi mx:Option Operand}{r:bW}(hx:VR ρ x x')(hh:aI ρ h.heap.get w)(hf:bC ρ h.next (r.next h))
 (hr:lq P tm h xt x lo hi mx=some r): ∃v h',r= .val v h'/\aE P ρ h w (Instr.sliceAt xt x' (lo.map a.eval) (hi.map a.eval) (mx.map a.eval)) v h':=by
 unfold lq at hr
 split at hr
 ·rename_i s hu
  split at hr
  ·split at hr
   ·rename_i v hv
    cases hr
    cases hx with
    |sc _ _=>exact⟨v,h,rfl,yq ht hu hv hh⟩
   ·cases hr
  ·cases hr
 ·rename_i e ao len cap hu
  split at hr
  ·rename_i i hi'
   exact AT ht hu hi' hx hh hf hr
  ·cases hr
 ·rename_i m e ad hu
  split at hr
  ·rename_i i k hi' hsp hk
   split at hr
   ·rename_i hh' hex h1
    split at hr
    ·rename_i l h2
     cases hx with
     |sc _ hs=>simp[simple] at hs
     |ptr b o L hL=>
      have hb:=kL (P:=P) (w:=w) ht false h1 h2 (Nat.le_refl _)
      obtain⟨L0,x,hL0,hx0,hR⟩:=hh.obj _ _ hk
      rw[hL] at hL0;cases hL0
      obtain⟨c,fr,rfl,hR⟩:=dL hR
      have hψ:=hR.exact hex
      split at hr
      ·rename_i heq
       have heq':m=l:=Nat.eq_of_beq_eq_true heq
       cases hr
       refine⟨_,_,rfl,aE.pure hh (v':= .slice (some ⟨L.φ,L.δ+o,none⟩) (hh' - l) (m - l+L.ψ)) ?_ (.sl b o _ _ L hL)⟩
       simp only[Instr.sliceAt,Sem.run_bind,ab hu,Result.andThen_ok,Option.map_none,hb,aP hi',Sem.run_pure,Instr.sureAddr]
       rw[if_pos heq',hψ];rfl
      ·rename_i hne
       have hne':m≠l:=by intro he;subst he;simp at hne
       cases hr
       refine⟨_,_,rfl,aE.pure hh (v':= .slice (some ⟨L.φ,L.δ+(o+l*i.size),none⟩) (hh' - l) (m - l+L.ψ)) ?_ (.sl b _ _ _ L hL)⟩
       simp only[Instr.sliceAt,Sem.run_bind,ab hu,Result.andThen_ok,Option.map_none,hb,aP hi',Sem.run_pure,Instr.sureAddr]
       rw[if_neg hne',hψ,dD,Nat.add_assoc];rfl
    ·cases hr
   ·cases hr
  ·cases hr
 ·cases hr
end
section
variable{P:Program}{ρ:aU}{w:World}{h:Hs}
theorem ky: ∀l:List UInt8,lh l=l.map fun b=>Value.int .u8 b.toNat
 |[]=>rfl
 |b::l=>by simp[lh,ky l]
theorem tY(l:List UInt8):cU ρ (lh l) (lh l):=by
 induction l with
 |nil=>exact .nil
 |cons b l ih=>exact .cons _ _ _ _ (.sc _ rfl) ih
theorem ph{size n:Nat}{x x':Value}{cs:List Value}(hh:aI ρ h.heap.get w)(hx:VR ρ x x')(hc:eW h size n x=some cs):
 ∃cs',(∀w1:World,w1.heap=w.heap->(Builtin.firstCells size n x').run P w1= .ok ⟨cs'⟩ w1)/\cU ρ cs cs':=by
 cases hx with
 |sc _ hs=>
  cases x<;>simp only[eW] at hc<;>try (cases hc;done)
  ·rename_i s
   split at hc
   ·rename_i l hl
    cases hc
    obtain⟨h1,h2⟩:=fV hl
    refine⟨lh l,fun w1 _=>?_,tY l⟩
    simp only[Builtin.firstCells,Sem.run_pure]
    congr 1
    rw[ky]
    apply Array.ext'
    rw[Array.toList_map]
    congr 1
    have e:(s.extract 0 n).data.toList=s.data.toList.take n:=by
     rw[ByteArray.data_extract]
     simp[List.extract]
    rw[e]
    apply List.ext_getElem?
    intro j
    by_cases hj:j<n
    ·rw[List.getElem?_take_of_lt hj,h2 j hj]
    ·rw[List.getElem?_take_eq_none (by omega),List.getElem?_eq_none (by omega)]
   ·cases hc
  ·rename_i a _ _
   cases a with
   |none=>simp only[Option.some.injEq] at hc;subst hc;exact⟨[],fun w1 _=>by simp[Builtin.firstCells], .nil⟩
   |some a=>
    simp only at hc
    split at hc
    ·cases hc;exact⟨[],fun w1 _=>by simp[Builtin.firstCells,loadCells,loadCellsFrom], .nil⟩
    ·split at hc
     ·rename_i hsp _;exact absurd hsp (dY hs).1
     ·cases hc
 |sl b o m c L hL=>
  simp only[eW] at hc
  split at hc
  ·cases hc;exact⟨[],fun w1 _=>by simp[Builtin.firstCells,loadCells,loadCellsFrom], .nil⟩
  ·split at hc
   ·rename_i n' k hsp hk
    obtain⟨L0,x,hL0,hx0,hR⟩:=hh.obj _ _ hk
    rw[hL] at hL0;cases hL0
    obtain⟨c',fr,rfl,hR⟩:=dL hR
    obtain⟨cs',h1,h2,h3⟩:=hR.pA hx0 hc
    refine⟨cs',fun w1 hw1=>?_,h2⟩
    have hl:=run_loadCells_list (P:=P) w1 ⟨L.φ,L.δ+o,none⟩ cs' (fun j v hj=>by
     rw[dD]
     have:=h3 j v hj
     simp only[World.cell?] at this ⊢
     rw[hw1];exact this)
    rw[h1] at hl
    simp only[Builtin.firstCells];exact hl
   ·cases hc
 |ptr=>simp[eW] at hc
 |map=>simp[eW] at hc
 |fn=>simp[eW] at hc
 |yield=>simp[eW] at hc
 |agg=>simp[eW] at hc
 |tuple=>simp[eW] at hc
theorem tw{x x':Value}{n:Nat}(hx:VR ρ x x')(hc:nY x=some n):(Builtin.lenOf x').run P w= .ok n w:=by
 cases hx with
 |sc _ hs=>cases x<;>simp only[nY] at hc<;>first|(cases hc;done)|(cases hc;simp[Builtin.lenOf])
 |sl b o m c L hL=>simp only[nY,Option.some.injEq] at hc;subst hc;simp[Builtin.lenOf]
 |ptr=>simp[nY] at hc
 |map=>simp[nY] at hc
 |fn=>simp[nY] at hc
 |yield=>simp[nY] at hc
 |agg=>simp[nY] at hc
 |tuple=>simp[nY] at hc
end
section
variable{P:Program}{ρ:aU}{w:World}{h:Hs}
theorem wX{e:TypeId}{i:TypeInfo}{n:Nat}(hi:P.info? e=some i)(hr:sB i n=true): ∃z,Room P e i n z:=by
 unfold sB at hr
 split at hr
 ·rename_i z hz
  simp only[Bool.and_eq_true] at hr
  obtain⟨⟨⟨⟨h1,h2⟩,h3⟩,h4⟩,h5⟩:=hr
  refine⟨z,hi,hz,?_,Nat.le_of_ble_eq_true h2,Nat.le_of_ble_eq_true h3,?_,Nat.le_of_ble_eq_true h5⟩
  ·rw[←Array.length_toList,fg];exact Nat.eq_of_beq_eq_true h1
  ·simpa[Nat.blt_eq] using h4
 ·cases hr
theorem aI.heap{H:HF}{w1:World}(hh:aI ρ H w)(he:w1.heap=w.heap):aI ρ H w1:=hh.world he
theorem Step.j7{ρ':aU}{H H':HF}{w1 w':World}{lo hi:Nat}(hs:Step ρ H w1 ρ' H' w' lo hi)(h1:w1.heap=w.heap)(h2:w1.os=w.os)(h3:w1.tape=w.tape)(h4:w1.output=w.output):Step ρ H w ρ' H' w' lo hi:=
 ⟨hs.os.trans h2,hs.tape.trans h3,hs.output.trans h4,by rw[←h1];exact hs.size,fun r hr hno=>by rw[←h1] at hr ⊢;exact hs.same r hr hno,fun b o L a c d=>by rw[←h1];exact hs.own b o L a c d,
   fun b o L a c=>by rw[←h1];exact hs.any b o L a c,hs.ext,hs.sE⟩
theorem Step.TQ{ρ':aU}{H0 H H':HF}{w':World}{lo hi:Nat}(hs:Step ρ H w ρ' H' w' lo hi)(hsub: ∀b o,H b=some o->H0 b=some o):Step ρ H0 w ρ' H' w' lo hi:=
 {hs with
  same:=fun r hr hno=>hs.same r hr fun b o L a c d=>hno b o L (hsub _ _ a) c d
  own:=fun b o L a c d=>(hs.own b o L a c d).imp (fun⟨i,oi,Li,x⟩=>⟨i,oi,Li,hsub _ _ x.1,x.2⟩) id
  any:=fun b o L a c=>(hs.any b o L a c).imp (fun⟨i,oi,Li,x⟩=>⟨i,oi,Li,hsub _ _ x.1,x.2⟩) id}
theorem AW{ρ':aU}{b ψ e:Nat}{cs:List Value}{cs':List Value}{i:TypeInfo}{z:Value}{n:Nat}(hv:cU ρ' cs cs')(hlen:cs.length=n*i.size)(hz:z.cells.size=i.size):
 OR ρ' ⟨b,0,ψ⟩ (.ax {cells:=cs,cap:=n*i.size,kv:=i.size,elem:=e,exact:=false,whole:=false,bN:=0,own:=true}) (.cells ((⟨cs'⟩:Array Value)++Builtin.zeroCells z.cells ψ) e):=by
 refine rM hv (by omega) (fun _=>?_) (fun j hj=>?_) (fun h=>by cases h) (fun h=>by cases h) (fun _=>rfl) (fun h=>by cases h)
 ·simp only[Array.size_append,rU,hz,List.size_toArray,hv.length]
  rw[hlen]
  simp
 ·simp only[Nat.zero_add]
  rw[Array.getElem?_append_left (by simp[hv.length,hj])]
  simp
theorem xK(a b:List Value)(c:Array Value):(⟨a⟩:Array Value)++((⟨b⟩:Array Value)++c)=(⟨a++b⟩:Array Value)++c:=by apply Array.ext';simp
theorem EG{ats:List TypeId}{s s' x x':Value}{ty:TypeId}{r:bW}(hs:VR ρ s s')(hx:VR ρ x x')(hh:aI ρ h.heap.get w)(hf:bC ρ h.next (r.next h))(hr:fp P h ats s x=some r):
 ∃v h',r= .val v h'/\aE P ρ h w (Builtin.append_ ⟨ats⟩ ty #[s',x']) v h':=by
 unfold fp at hr
 split at hr
 ·rename_i st xt
  split at hr
  ·rename_i e xd hu hxu
   split at hr
   ·cases hr
   ·rename_i xd _ _ i hnot hi
    have hxd:qf xd=true:=by cases xd<;>first|rfl|exact(hnot _ rfl).elim
    split at hr
    ·rename_i n base len cap hn
     have hlen:=tw (P:=P) (w:=w) hx hn
     split at hr
     ·rename_i new me
      obtain⟨new',hnew',hnR⟩:=ph (P:=P) hh hx me
      have hrn:=hnew' w rfl
      split at hr
      ·
       rename_i hle
       have hle':=Nat.le_of_ble_eq_true hle
       split at hr
       ·split at hr
        ·cases hr
         cases hs with
         |sc _ _=>exact⟨_,_,rfl,aE.pure hh (g8 hu hxu hxd hi hlen hrn hle' rfl) (.sc _ rfl)⟩
        ·cases hr
       ·rename_i a
        split at hr
        ·cases hr
         cases hnR
         cases hs with
         |sc _ h=>exact((dY h).1 (by assumption)).elim
         |sl b o _ _ L hL=>exact⟨_,_,rfl,aE.pure hh (g8 hu hxu hxd hi hlen hrn (by omega) (by simp[storeCells])) (.sl _ _ _ _ _ hL)⟩
        ·split at hr
         ·rename_i hsp h' hw
          cases hr
          obtain⟨L,w',hL,hrun,hh',hst⟩:=g6 (P:=P) hh hw hnR
          cases hs with
          |sc _ h=>exact((dY h).1 (by assumption)).elim
          |sl b o _ _ L' hL'=>
           rw[hL] at hL';cases hL'
           refine⟨_,_,rfl,ρ,_,w',g8 hu hxu hxd hi hlen hrn (by omega) ?_, .sl _ _ _ _ _ hL,hh',hst _ _⟩
           show(storeCells ((⟨L.φ,L.δ+o,none⟩:Addr).add (len*i.size)) new').run P w=_
           rw[dD,Nat.add_assoc];exact hrun
         ·cases hr
        ·cases hr
      ·
       rename_i hle
       have hlt:cap<len+n:=by
        rcases Nat.lt_or_ge cap (len+n) with h'|h'
        ·exact h'
        ·rw[Nat.ble_eq_true_of_le h'] at hle;cases hle
       split at hr
       ·rename_i hroom
        simp only[Bool.and_eq_true] at hroom
        obtain⟨hroom,hnl⟩:=hroom
        have hlen':new.length=n*i.size:=Nat.eq_of_beq_eq_true hnl
        have hn': ∀v h',r= .val v h'->h.next<h'.next->ρ h.next=none:=fun v h' he hlt=>hf _ (Nat.le_refl _) (by rw[he];exact hlt)
        obtain⟨z,hroom⟩:=wX hi hroom
        split at hr
        ·
         split at hr
         ·cases hr
          have hn':=hn' _ _ rfl (Nat.lt_succ_self _)
          cases hs with
          |sc _ _=>
           obtain⟨ψ,hrun⟩:=je (ty:=ty) (base:=none) hu hxu hxd hroom hlen hnew' hlt (old':=[]) (fun w1 _=>by simp[Builtin.firstCells])
           rw[xK,List.nil_append] at hrun
           obtain⟨e1,e2⟩:=aI.new (w:=w.drew) (H':=(cA h (.ax {cells:=new,cap:=n*i.size,kv:=i.size,elem:=e,exact:=false,whole:=false,bN:=0,own:=true})).heap.get)
            (δ:=0) (ψ:=ψ) (hh.heap (w1:=w.drew) rfl) hn' (AW (z:=z) (hnR.mono (aU.iE _ hn')) hlen' hroom.size) (fun j=>T.aL _ _ _ _)
           refine⟨_,_,rfl,_,_,_,hrun,?_,?_,e2.j7 (w:=w) rfl rfl rfl rfl⟩
           ·have:=VR.sX ρ h.next ⟨w.heap.size,0,ψ⟩ n n rfl
            simpa using this
           ·simpa using e1
         ·cases hr
        ·
         rename_i a
         split at hr
         ·rename_i k hsp hk
          split at hr
          ·rename_i ie hold
           cases hs with
           |sc _ h=>exact((dY h).1 (by assumption)).elim
           |sl b o _ _ L hL=>
            obtain⟨L0,x0,hL0,hx0,hR⟩:=hh.obj _ _ hk
            rw[hL] at hL0;cases hL0
            obtain⟨c,fr,rfl,hR⟩:=dL hR
            obtain⟨old',c1,c2,c3⟩:=hR.pA hx0 hold
            have hrold: ∀cap' (w1:World),w1.heap=w.heap->(Builtin.firstCells i.size len (.slice (some ⟨L.φ,L.δ+o,none⟩) len cap')).run P w1= .ok ⟨old'⟩ w1:=fun cap' w1 hw1=>by
             have hl:=run_loadCells_list (P:=P) w1 ⟨L.φ,L.δ+o,none⟩ old' (fun j v hj=>by
              rw[dD]
              have:=c3 j v hj
              simp only[World.cell?] at this ⊢
              rw[hw1];exact this)
             rw[c1] at hl
             simp only[Builtin.firstCells];exact hl
            have holen:=(fV hold).1
            have hcat:(ie++new).length=(len+n)*i.size:=by rw[List.length_append,holen,hlen',Nat.add_mul]
            split at hr
            ·
             rename_i hex
             cases hr
             have hn':=hn' _ _ rfl (Nat.lt_succ_self _)
             have hψ:=hR.exact hex
             obtain⟨ψ,hrun⟩:=je (ty:=ty) (cap:=cap+L.ψ) hu hxu hxd hroom hlen hnew' (by omega) (hrold _)
             rw[xK] at hrun
             obtain⟨e1,e2⟩:=aI.new (w:=w.drew) (H':=(cA h (.ax {cells:=ie++new,cap:=(len+n)*i.size,kv:=i.size,elem:=e,exact:=false,whole:=false,bN:=0,own:=true})).heap.get)
              (δ:=0) (ψ:=ψ) (hh.heap (w1:=w.drew) rfl) hn' (AW (z:=z) ((c2.append hnR).mono (aU.iE _ hn')) hcat hroom.size) (fun j=>T.aL _ _ _ _)
             refine⟨_,_,rfl,_,_,_,hrun,?_,?_,e2.j7 (w:=w) rfl rfl rfl rfl⟩
             ·have:=VR.sX ρ h.next ⟨w.heap.size,0,ψ⟩ (len+n) (len+n) rfl
              simpa using this
             ·simpa[Array.append_assoc] using e1
            ·split at hr
             ·rename_i hown hfrz hcapk hesz
              simp only[Bool.and_eq_true] at hesz
              obtain⟨⟨hesz,hkel⟩,hac⟩:=hesz
              cases hr
              have hn':=hn' _ _ rfl (Nat.lt_succ_self _)
              have hcapk':o+cap*i.size=k.cap:=Nat.eq_of_beq_eq_true hcapk
              have hesz':=Nat.eq_of_beq_eq_true hesz
              by_cases hin:len+n<=cap+L.ψ
              ·
               have hroomk:=hR.room hown
               have hfr:=hR.fJ hfrz
               subst hfr
               have hmul:(len+n)*i.size<=(cap+L.ψ)*i.size:=Nat.mul_le_mul_right _ hin
               rw[Nat.add_mul,Nat.add_mul] at hmul
               rw[hesz'] at hroomk
               have hnl':=hnR.length
               obtain⟨w',c',hr1,hu1,hs1,hc1⟩:=AQ P L.φ k.elem (0,0) new' (L.δ+o+len*i.size) 0 c w hx0 (by omega) (fun p _ _=>by simp) (hnR.cG hac)
               have hwr:cU ρ (ie++new) (old'++new'):=c2.append hnR
               have hOR:OR (ρ.set h.next ⟨L.φ,L.δ+o,cap+L.ψ - (len+n)⟩) ⟨L.φ,L.δ+o,cap+L.ψ - (len+n)⟩ (.ax {cells:=ie++new,cap:=(len+n)*i.size,kv:=i.size,elem:=e,exact:=false,whole:=false,bN:=0,own:=true}) (.cells c' k.elem (0,0)):=by
                refine⟨?_,by show(ie++new).length<=_;rw[hcat];exact Nat.le_refl _,fun _=>?_,fun j v hj=>?_,(fun h=>by cases h),(fun h=>by cases h),fun _=>rfl,(fun h=>by cases h)⟩
                ·show k.elem=e
                 exact Nat.eq_of_beq_eq_true hkel
                ·show L.δ+o+(len+n)*i.size+(cap+L.ψ - (len+n))*i.size<=c'.size
                 rw[hs1,Nat.sub_mul,Nat.add_mul,Nat.add_mul]
                 omega
                ·have hj':(ie++new)[j]? =some v:=hj
                 show∃v',c'[L.δ+o+j]? =some v'/\_
                 rw[hc1]
                 by_cases hjo:j<len*i.size
                 ·rw[List.getElem?_append_left (by omega)] at hj'
                  rw[if_neg (by omega)]
                  rw[(fV hold).2 j hjo,k9,List.getElem?_drop] at hj'
                  obtain⟨u,hu1,hu2⟩:=hR.cell _ _ hj'
                  exact⟨u,by rw[←Nat.add_assoc] at hu1;exact hu1,hu2.mono (aU.iE _ hn')⟩
                 ·rw[List.getElem?_append_right (by omega)] at hj'
                  obtain⟨u,hu1,hu2⟩:=hnR.get hj'
                  have hjn:j - ie.length<new.length:=by
                   rcases Nat.lt_or_ge (j - ie.length) new.length with h'|h'
                   ·exact h'
                   ·simp[List.getElem?_eq_none h'] at hj'
                  rw[if_pos (by omega)]
                  exact⟨u,by rw[show L.δ+o+j - (L.δ+o+len*i.size+0)=j - ie.length by omega];exact hu1,hu2.mono (aU.iE _ hn')⟩
               obtain⟨e1,e2⟩:=aI.move (H':=((h.heap.del b).set h.next (.ax {cells:=ie++new,cap:=(len+n)*i.size,kv:=i.size,elem:=e,exact:=false,whole:=false,bN:=0,own:=true})).get)
                (L':=⟨L.φ,L.δ+o,cap+L.ψ - (len+n)⟩) hh hk hown hL hn' rfl hu1 hOR (fun j=>by rw[T.aL,T.fQ])
               refine⟨_,_,rfl,_, .slice (some ⟨L.φ,L.δ+o,none⟩) (len+n) (cap+L.ψ),w',g8 hu hxu hxd hi hlen hrn hin ?_,?_,e1,e2⟩
               ·show(storeCells ((⟨L.φ,L.δ+o,none⟩:Addr).add (len*i.size)) new').run P w=_
                rw[dD];exact hr1
               ·have:=VR.sl (ρ:=ρ.set h.next ⟨L.φ,L.δ+o,cap+L.ψ - (len+n)⟩) h.next 0 (len+n) (len+n) _ (aU.cE _ _ _)
                rw[show len+n+(⟨L.φ,L.δ+o,cap+L.ψ - (len+n)⟩:Loc).ψ=cap+L.ψ by show len+n+(cap+L.ψ - (len+n))=cap+L.ψ;omega] at this
                simpa using this
              ·
               obtain⟨ψ,hrun⟩:=je (ty:=ty) (cap:=cap+L.ψ) hu hxu hxd hroom hlen hnew' (by omega) (hrold _)
               rw[xK] at hrun
               have hdel:aI ρ (h.heap.del b).get w.drew:=(hh.heap (w1:=w.drew) rfl).sub fun j o' hj=>by rw[T.fQ] at hj;split at hj<;>first|cases hj|exact hj
               obtain⟨e1,e2⟩:=aI.new (w:=w.drew) (H':=((h.heap.del b).set h.next (.ax {cells:=ie++new,cap:=(len+n)*i.size,kv:=i.size,elem:=e,exact:=false,whole:=false,bN:=0,own:=true})).get)
                (δ:=0) (ψ:=ψ) hdel hn' (AW (z:=z) ((c2.append hnR).mono (aU.iE _ hn')) hcat hroom.size) (fun j=>T.aL _ _ _ _)
               refine⟨_,_,rfl,_,_,_,hrun,?_,?_,(e2.TQ (H0:=h.heap.get) fun j o' hj=>by rw[T.fQ] at hj;split at hj<;>first|cases hj|exact hj).j7 (w:=w) rfl rfl rfl rfl⟩
               ·have:=VR.sX ρ h.next ⟨w.heap.size,0,ψ⟩ (len+n) (len+n) rfl
                simpa using this
               ·simpa[Array.append_assoc] using e1
             ·cases hr
          ·cases hr
         ·cases hr
       ·cases hr
     ·cases hr
    ·cases hr
   ·cases hr
  ·cases hr
 ·cases hr
end
section
variable{P:Program}{ρ:aU}{w:World}{h:Hs}
theorem gf{s:Sem Value}{v:Value}(hv:kg P s=some v):(∀w,s.run P w= .ok v w)/\au v=true:=by
 unfold kg at hv
 split at hv
 ·rename_i u hu
  split at hv
  ·rename_i hp;cases hv;exact⟨eV hu,hp⟩
  ·cases hv
 ·cases hv
theorem Fp{op:UnOp}{x x':Value}{r:bW}(hh:aI ρ h.heap.get w)(hx:VR ρ x x')(hr:xI P h op x=some r): ∃v,r= .val v h/\aE P ρ h w (Op.unary op x') v h:=by
 unfold xI at hr
 split at hr
 ·rename_i hp
  split at hr
  ·rename_i v hv
   cases hr
   have:=hx.plain hp;subst this
   obtain⟨h1,h2⟩:=gf hv
   exact⟨v,rfl,aE.pure hh (h1 w) (VR.ba h2)⟩
  ·cases hr
 ·cases hr
theorem sV{a:Addr}{c:Array Value}{e:TypeId}{fr:Nat × Nat}(hx:w.heap[a.block]? =some (.cells c e fr)):(noView a).run P w= .ok () w:=by
 have:w.shape? a.block=some (e,c.size):=by simp[World.shape?,hx]
 simp[noView,viewAt,this]
theorem ny{a:Addr}{c:Array Value}{e:TypeId}(hx:w.heap[a.block]? =some (.cells c e (0,0))):(stringish a).run P w= .ok false w:=by
 have h1:w.shape? a.block=some (e,c.size):=by simp[World.shape?,hx]
 have h2:w.frozen? a=false:=by simp[World.frozen?,hx]
 have h3:w.frozen? {block:=a.block,off:=c.size}=false:=by simp[World.frozen?,hx]
 simp[stringish,h1,h2,h3]
theorem yx{a b:Addr}{c d:Array Value}{e f:TypeId}(hne:a.block≠b.block)(hx:w.heap[a.block]? =some (.cells c e (0,0)))(hy:w.heap[b.block]? =some (.cells d f (0,0))):(sameAddr a b).run P w= .ok false w:=by
 have h2:w.frozen? a=false:=by simp[World.frozen?,hx]
 have hb:(a.block==b.block)=false:=by simpa using hne
 have h3:w.shape? b.block=some (f,d.size):=by simp[World.shape?,hy]
 simp[sameAddr,hb,h2,sV hx,sV hy,mayBeOne,ny hx,ny hy,h3]
theorem da(t:TypeId)(x y:Value):Op.equal t x y=Op.equalIn (9999+1) t x y:=rfl
theorem qJ{d:TypeDesc}{xt:TypeId}{x x' y y':Value}{b:Bool}(hh:aI ρ h.heap.get w)(hu:P.underlying xt=some d)(hx:VR ρ x x')(hy:VR ρ y y')(hr:CS P h d x y=some b):
 (Op.equal xt x' y').run P w= .ok b w/\(∀op ox oy,(eqGuard op xt ox oy x' y').run P w= .ok () w)/\
   binOp .eql xt x' y'=(do pure (.bool (←Op.equal xt x' y')))/\binOp .neq xt x' y'=(do pure (.bool (!(←Op.equal xt x' y')))):=by
 have guard: ∀(a c:Value) op ox oy,(∀a',a≠ .agg a')->(a≠ .nilIface)->(eqGuard op xt ox oy a c).run P w= .ok () w:=by
  intro a c op ox oy h1 h2
  unfold eqGuard
  cases op<;>first|rfl|(cases a<;>first|rfl|exact(h1 _ rfl).elim|exact(h2 rfl).elim)
 unfold CS at hr
 split at hr
 ·rename_i e b0
  cases hr
  cases hx with
  |sc _ _=>
   have: ∃b',y'= .pointer b'/\b'.isNone=b0.isNone:=by
    cases hy with
    |sc _ _=>exact⟨_,rfl,rfl⟩
    |ptr=>exact⟨_,rfl,rfl⟩
   obtain⟨b',rfl,hb⟩:=this
   exact⟨by rw[da,Op.equalIn];simp[ab hu,hb],fun op ox oy=>guard _ _ _ _ _ (by simp) (by simp),rfl,rfl⟩
 ·cases hr
  cases hx with
  |sc _ hs=>simp[simple] at hs
  |ptr b o L hL=>
   cases hy with
   |sc _ _=>exact⟨by rw[da,Op.equalIn];simp[ab hu],fun op ox oy=>guard _ _ _ _ _ (by simp) (by simp),rfl,rfl⟩
 ·rename_i e a c
  split at hr
  ·rename_i i hi hs1 hs2
   split at hr
   ·cases hr
   ·rename_i m hm
    cases hx with
    |sc _ hs=>simp[simple] at hs
    |ptr bx ox Lx hLx=>
     cases hy with
     |sc _ hs=>simp[simple] at hs
     |ptr by_ oy Ly hLy=>
      refine⟨?_,fun op ox oy=>guard _ _ _ _ _ (by simp) (by simp),rfl,rfl⟩
      have hsz:i.size≠0:=by omega
      split at hr
      ·rename_i hbe
       cases hr
       have hbe':bx=by_:=Nat.eq_of_beq_eq_true hbe
       subst hbe'
       rw[hLx] at hLy;cases hLy
       have key:(sameAddr ⟨Lx.φ,Lx.δ+ox,none⟩ ⟨Lx.φ,Lx.δ+oy,none⟩).run P w= .ok (Nat.beq ox oy) w:=by
        simp only[sameAddr,beq_self_eq_true,if_true,Sem.run_pure]
        congr 1
        rw[Bool.eq_iff_iff]
        simp
       rw[da,Op.equalIn]
       simp[ab hu,aP hi,hsz,key]
      ·rename_i k l hbe hk hl
       split at hr
       ·rename_i ho hf1 hf2
        cases hr
        obtain⟨L1,x1,hL1,hx1,hR1⟩:=hh.obj _ _ hk
        obtain⟨L2,x2,hL2,hx2,hR2⟩:=hh.obj _ _ hl
        rw[hLx] at hL1;cases hL1
        rw[hLy] at hL2;cases hL2
        obtain⟨c1,fr1,rfl,hR1⟩:=dL hR1
        obtain⟨c2,fr2,rfl,hR2⟩:=dL hR2
        have e1:=hR1.fJ hf1
        have e2:=hR2.fJ hf2
        subst e1 e2
        have hne:bx≠by_:=by rintro rfl;simp at hbe
        have hφ:=hh.inj bx by_ _ _ Lx Ly hk hl hne ho hLx hLy
        have key:=yx (P:=P) (a:=⟨Lx.φ,Lx.δ+ox,none⟩) (b:=⟨Ly.φ,Ly.δ+oy,none⟩) hφ hx1 hx2
        rw[da,Op.equalIn]
        simp[ab hu,aP hi,hsz,key]
       ·cases hr
      ·cases hr
  ·cases hr
 ·rename_i e _ _ b0 _ _
  cases hr
  cases hx with
  |sc _ _=>
   have: ∃b' n m,y'= .slice b' n m/\b'.isNone=b0.isNone:=by
    cases hy with
    |sc _ _=>exact⟨_,_,_,rfl,rfl⟩
    |sl=>exact⟨_,_,_,rfl,rfl⟩
   obtain⟨b',n,m,rfl,hb⟩:=this
   exact⟨by rw[da,Op.equalIn];simp[ab hu,hb],fun op ox oy=>guard _ _ _ _ _ (by simp) (by simp),rfl,rfl⟩
 ·cases hr
  cases hx with
  |sc _ hs=>
   cases hy with
   |sc _ _=>exact⟨by rw[da,Op.equalIn];simp[ab hu],fun op ox oy=>guard _ _ _ _ _ (by simp) (by simp),rfl,rfl⟩
  |sl b o n c L hL=>
   cases hy with
   |sc _ _=>exact⟨by rw[da,Op.equalIn];simp[ab hu],fun op ox oy=>guard _ _ _ _ _ (by simp) (by simp),rfl,rfl⟩
 ·rename_i e _ b0
  cases hr
  cases hx with
  |sc _ _=>
   have: ∃b',y'= .map b'/\b'.isNone=b0.isNone:=by
    cases hy with
    |sc _ _=>exact⟨_,rfl,rfl⟩
    |map=>exact⟨_,rfl,rfl⟩
   obtain⟨b',rfl,hb⟩:=this
   exact⟨by rw[da,Op.equalIn];simp[ab hu,hb],fun op ox oy=>guard _ _ _ _ _ (by simp) (by simp),rfl,rfl⟩
 ·cases hr
  cases hx with
  |sc _ hs=>simp[simple] at hs
  |map b L hL=>
   cases hy with
   |sc _ _=>exact⟨by rw[da,Op.equalIn];simp[ab hu],fun op ox oy=>guard _ _ _ _ _ (by simp) (by simp),rfl,rfl⟩
 ·cases hr
  have: ∃f a c,x'= .func f a c:=by cases hx<;>first|exact⟨_,_,_,rfl⟩|(rename_i hs;simp[simple] at hs)
  obtain⟨f,a,c,rfl⟩:=this
  cases hy with
  |sc _ _=>exact⟨by rw[da,Op.equalIn];simp[ab hu],fun op ox oy=>guard _ _ _ _ _ (by simp) (by simp),rfl,rfl⟩
 ·cases hr
  have: ∃f a c,y'= .func f a c:=by cases hy<;>first|exact⟨_,_,_,rfl⟩|(rename_i hs;simp[simple] at hs)
  obtain⟨f,a,c,rfl⟩:=this
  cases hx with
  |sc _ _=>exact⟨by rw[da,Op.equalIn];simp[ab hu],fun op ox oy=>guard _ _ _ _ _ (by simp) (by simp),rfl,rfl⟩
 ·cases hr
theorem H6{op:BinOp}{xt:TypeId}{ox oy:Operand}{x x' y y' v:Value}(hh:aI ρ h.heap.get w)(hx:VR ρ x x')(hy:VR ρ y y')(hr:xS P h op xt ox oy x y=some v):
 aE P ρ h w (do eqGuard op xt ox oy x' y';binOp op xt x' y') v h:=by
 unfold xS at hr
 split at hr
 ·rename_i h1 h2
  have e1:=hx.plain h1
  have e2:=hy.plain h2
  subst e1 e2
  obtain⟨h3,h4⟩:=gf hr
  exact aE.pure hh (h3 w) (VR.ba h4)
 ·split at hr
  ·rename_i d hu
   split at hr
   ·split at hr
    ·rename_i b hb
     cases hr
     obtain⟨e1,e2,e3,e4⟩:=qJ hh hu hx hy hb
     exact aE.pure hh (v':= .bool b) (by simp[e2,e3,e1]) (.sc _ rfl)
    ·cases hr
   ·split at hr
    ·rename_i b hb
     cases hr
     obtain⟨e1,e2,e3,e4⟩:=qJ hh hu hx hy hb
     exact aE.pure hh (v':= .bool (!b)) (by simp[e2,e4,e1]) (.sc _ rfl)
    ·cases hr
   ·cases hr
  ·cases hr
theorem yQ{x x':Value}{r:bW}(hx:VR ρ x x')(hr:mY h x=some r): ∃v,r= .val v h/\VR ρ v x'/\((∃a,x'= .pointer (some a))\/(∃f a b,x'= .func (.func f) a b)\/(∃f a b,x'= .func (.yield f) a b)):=by
 unfold mY at hr
 split at hr
 ·cases hr
  refine⟨_,rfl,hx,?_⟩
  cases hx with
  |sc _ hs=>simp[simple] at hs
  |ptr=>exact .inl ⟨_,rfl⟩
 ·cases hr
  refine⟨_,rfl,hx,?_⟩
  cases hx with
  |sc _ hs=>simp[simple] at hs
  |fn=>exact .inr (.inl ⟨_,_,_,rfl⟩)
 ·cases hr
  refine⟨_,rfl,hx,?_⟩
  cases hx with
  |sc _ hs=>simp[simple] at hs
  |yield=>exact .inr (.inr ⟨_,_,_,rfl⟩)
 ·cases hr
theorem xc{t:TypeId}{l l' c c':Value}{r:bW}(hh:aI ρ h.heap.get w)(hl:VR ρ l l')(hc:VR ρ c c')(hf:bC ρ h.next (r.next h))(hr:gX P h t l c=some r): ∃v h',r= .val v h'/\aE P ρ h w (Instr.makeSlice t l' c') v h':=by
 unfold gX at hr
 split at hr
 ·rename_i e k1 ln k2 cn hu
  cases hl
  cases hc
  split at hr
  ·rename_i i hi hle hcm
   split at hr
   ·rename_i z hz hby
    split at hr
    ·rename_i hpz hac hsz
     cases hr
     have hle':=Nat.le_of_ble_eq_true hle
     have hcm':=Nat.le_of_ble_eq_true hcm
     have hby':=Nat.le_of_ble_eq_true hby
     have hsz':=Nat.eq_of_beq_eq_true hsz
     have hzs:z.cells.size=i.size:=by rw[←Array.length_toList,fg,hsz']
     have hrep:cU ρ (rep cn (aW z)) (rep cn (aW z)):=by
      have: ∀k,cU ρ (rep k (aW z)) (rep k (aW z)):=by
       intro k
       induction k with
       |zero=>exact .nil
       |succ k ih=>
        refine cU.append ?_ ih
        have:=(VR.ba hpz (ρ:=ρ)).cells
        rw[fg] at this
        exact this
      exact this cn
     refine⟨_,_,rfl,aE.gw (v':= .slice (some ⟨w.heap.size,0,none⟩) ln cn) hh hf hrep ?_ (VR.sX _ _ _ _ _ rfl)⟩
     have w1:IntKind.i64.wrap (ln:Int)=ln:=IntWalk.i64_in _ (by omega)
     have w2:IntKind.i64.wrap (cn:Int)=cn:=IntWalk.i64_in _ (by omega)
     have hmul:i.bytes*cn<=1099511627776:=Nat.le_trans (Nat.mul_le_mul hby' hcm') (by omega)
     have c1: ¬((i.bytes:Int)*(cn:Int)>2 ^ 48):=by
      have h1:((i.bytes*cn:Nat):Int)<=((1099511627776:Nat):Int):=Int.ofNat_le.2 hmul
      have h2:((i.bytes*cn:Nat):Int)=(i.bytes:Int)*(cn:Int):=Int.natCast_mul _ _
      rw[h2] at h1
      omega
     have c2: ¬((ln:Int)>(cn:Int)):=by omega
     have c3: ¬((cn:Int)<0):=by omega
     have c4: ¬((ln:Int)<0):=by omega
     have v1:(Value.int k1 (Int.ofNat ln))=Value.int k1 (ln:Int):=rfl
     have v2:(Value.int k2 (Int.ofNat cn))=Value.int k2 (cn:Int):=rfl
     have ha: ∀k (n:Nat),(asInt (.int k (n:Int))).run P w= .ok (n:Int) w:=fun k n=>rfl
     have hcond:((decide ((cn:Int)<0)||decide ((i.bytes:Int)*(cn:Int)>2 ^ 48))||decide ((ln:Int)<0)||decide ((ln:Int)>(cn:Int)))=false:=by
      rw[decide_eq_false c1,decide_eq_false c2,decide_eq_false c3,decide_eq_false c4];rfl
     rw[v1,v2]
     simp only[Instr.makeSlice,Sem.run_bind,ab hu,Result.andThen_ok,ha,jP hi,w1,w2,hcond,Bool.false_eq_true,if_false,run_askRoom,aP hi,Int.toNat_natCast]
     by_cases h0:cn*i.size=0
     ·have hnil:rep cn (aW z)=[]:=by
       rw[←List.length_eq_zero_iff,rp,hsz'];exact h0
      have hr0: ∀f:Nat->Value,Array.map f (Array.range 0)= #[]:=fun f=>by simp[Array.range]
      simp[h0,hr0,hnil,fW]
     ·have hcells:((Array.range (cn*i.size)).map (z.cells[· % z.cells.size]!))=(rep cn (aW z)).toArray:=by
       rw[rS cn z i.size hzs (by
        rcases Nat.eq_zero_or_pos i.size with h|h
        ·rw[h] at h0;simp at h0
        ·left;omega),fg]
      simp only[if_neg h0,Sem.run_bind,cY hi hz,Result.andThen_ok,Sem.run_pure,hcells,fW]
    ·cases hr
   ·cases hr
  ·cases hr
 ·cases hr
end
theorem sW:Extern.allNextRows.lookup "internal/abi.NoEscape" =none:=by kernel_rfl
theorem jh:Extern.allNextRows.lookup "internal/bytealg.MakeNoZero" =none:=by kernel_rfl
theorem Qh:Extern.allNextRows.lookup "internal/bytealg.IndexByteString" =none:=by kernel_rfl
theorem Qg:Extern.allNextRows.lookup "internal/bytealg.CountString" =none:=by kernel_rfl
theorem Qi:Extern.allNextRows.lookup "" =none:=by kernel_rfl
theorem UY:Extern.allGenericRows.lookup "internal/abi.NoEscape" =none:=by kernel_rfl
theorem UX:Extern.allGenericRows.lookup "internal/bytealg.MakeNoZero" =none:=by kernel_rfl
theorem UW:Extern.allGenericRows.lookup "internal/bytealg.IndexByteString" =none:=by kernel_rfl
theorem UU:Extern.allGenericRows.lookup "internal/bytealg.CountString" =none:=by kernel_rfl
theorem TO:Extern.allTypedRows.lookup "internal/abi.NoEscape" =none:=by kernel_rfl
theorem TN:Extern.allTypedRows.lookup "internal/bytealg.MakeNoZero" =some Extern.BytealgMakeNoZero.makeNoZero:=by kernel_rfl
theorem TM:Extern.allTypedRows.lookup "internal/bytealg.IndexByteString" =none:=by kernel_rfl
theorem TL:Extern.allTypedRows.lookup "internal/bytealg.CountString" =none:=by kernel_rfl
theorem T5:Extern.allRows.lookup "internal/abi.NoEscape" =some Extern.AbiNoEscape.same:=by kernel_rfl
theorem T4:Extern.allRows.lookup "internal/bytealg.IndexByteString" =some Extern.BytealgIndexByte.indexByte:=by kernel_rfl
theorem T3:Extern.allRows.lookup "internal/bytealg.CountString" =some Extern.BytealgCount.count:=by kernel_rfl
section
variable{P:Program}{ρ:aU}{w:World}{h:Hs}
theorem CV{ats:List TypeId}{d d' s s':Value}{ty:TypeId}{r:bW}(hd:VR ρ d d')(hs:VR ρ s s')(hh:aI ρ h.heap.get w)(hr:bu P h .copy ats [d,s]=some r):
 ∃v h',r= .val v h'/\aE P ρ h w (Builtin.copy_ ⟨ats⟩ ty #[d',s']) v h':=by
 simp only[bu] at hr
 split at hr
 ·rename_i t _
  split at hr
  ·rename_i e hu
   split at hr
   ·rename_i i base dl dc sl hi hsl
    have hlen:=tw (P:=P) (w:=w) hs hsl
    split at hr
    ·rename_i cs hcs
     obtain⟨cs',hrun,hR⟩:=ph (P:=P) hh hs hcs
     have hrun:=hrun w rfl
     split at hr
     ·cases hr
      cases hd with
      |sc _ _=>exact⟨_,_,rfl,aE.pure hh (v':=goInt (Nat.min sl dl)) (by simp[Builtin.copy_,ab hu,hlen,aP hi,hrun]) (.sc _ rfl)⟩
     ·cases hr
      cases hR
      cases hd with
      |sc _ hs=>exact⟨_,_,rfl,aE.pure hh (v':=goInt (Nat.min sl dl)) (by simp[Builtin.copy_,ab hu,hlen,aP hi,hrun,storeCells]) (.sc _ rfl)⟩
      |sl b o _ _ L hL=>exact⟨_,_,rfl,aE.pure hh (v':=goInt (Nat.min sl dl)) (by simp[Builtin.copy_,ab hu,hlen,aP hi,hrun,storeCells]) (.sc _ rfl)⟩
     ·rename_i a _ _
      split at hr
      ·rename_i h1 hsp hw
       cases hr
       obtain⟨L,w',hL,hst,hh',hstep⟩:=g6 (P:=P) hh hw hR
       cases hd with
       |sc _ hs=>exact((dY hs).1 (by assumption)).elim
       |sl b o _ _ L' hL'=>
        rw[hL] at hL';cases hL'
        exact⟨_,_,rfl,ρ,goInt (Nat.min sl dl),w',by simp[Builtin.copy_,ab hu,hlen,aP hi,hrun,hst], .sc _ rfl,hh',hstep _ _⟩
      ·cases hr
    ·cases hr
   ·cases hr
  ·cases hr
 ·cases hr
theorem GG{ats:List TypeId}{x x':Value}{ty:TypeId}{r:bW}(hx:VR ρ x x')(hh:aI ρ h.heap.get w)(hr:bu P h .len ats [x]=some r):
 ∃v h',r= .val v h'/\aE P ρ h w (Builtin.len_ ⟨ats⟩ ty #[x']) v h':=by
 simp only[bu] at hr
 split at hr
 ·rename_i t _
  split at hr
  ·rename_i s hu
   cases hr
   cases hx
   exact⟨_,_,rfl,aE.pure hh (v':=goInt s.size) (by simp[Builtin.len_,ab hu]) (.sc _ rfl)⟩
  ·rename_i n e hu
   cases hr
   exact⟨_,_,rfl,aE.pure hh (v':=goInt n) (by simp[Builtin.len_,ab hu]) (.sc _ rfl)⟩
  ·rename_i e a n c hu
   cases hr
   refine⟨_,_,rfl,aE.pure hh (v':=goInt n) ?_ (.sc _ rfl)⟩
   cases hx<;>simp[Builtin.len_,ab hu]
  ·rename_i k e hu
   cases hr
   cases hx
   exact⟨_,_,rfl,aE.pure hh (v':=goInt 0) (by simp[Builtin.len_,ab hu]) (.sc _ rfl)⟩
  ·rename_i k e b hu
   split at hr
   ·rename_i es ck hb
    cases hr
    cases hx with
    |sc _ hs=>simp[simple] at hs
    |map _ L hL=>
     obtain⟨L0,x,hL0,hx0,hR⟩:=hh.obj _ _ hb
     rw[hL] at hL0;cases hL0
     cases x<;>simp only[OR] at hR<;>first|exact hR.elim|skip
     rename_i es' ck'
     have hlen:es'.size=es.length:=by
      rw[←Array.length_toList]
      have: ∀{l l':List MapEntry},gL ρ l l'->l'.length=l.length:=by
       intro l l' h
       induction h with
       |nil=>rfl
       |cons _ _ _ _ _ _ ih=>simp[ih]
      exact this hR.1
     refine⟨_,_,rfl,aE.pure hh (v':=goInt es.length) ?_ (.sc _ rfl)⟩
     simp[Builtin.len_,ab hu,getObj,Sem.run,hx0,hlen]
   ·cases hr
  ·cases hr
 ·cases hr
theorem Ho{ats:List TypeId}{x x':Value}{ty:TypeId}{r:bW}(hx:VR ρ x x')(hh:aI ρ h.heap.get w)(hr:bu P h .cap ats [x]=some r):
 ∃v h',r= .val v h'/\aE P ρ h w (Builtin.cap_ ⟨ats⟩ ty #[x']) v h':=by
 simp only[bu] at hr
 split at hr
 ·rename_i t _
  split at hr
  ·rename_i e n c hu
   cases hr
   cases hx
   exact⟨_,_,rfl,aE.pure hh (v':=goInt c) (by simp[Builtin.cap_,ab hu]) (.sc _ rfl)⟩
  ·rename_i e a n c hu
   split at hr
   ·rename_i k hk
    split at hr
    ·rename_i hex
     cases hr
     cases hx with
     |sc _ hs=>exact⟨_,_,rfl,aE.pure hh (v':=goInt c) (by simp[Builtin.cap_,ab hu]) (.sc _ rfl)⟩
     |sl b o _ _ L hL=>
      obtain⟨L0,x,hL0,hx0,hR⟩:=hh.obj _ _ hk
      rw[hL] at hL0;cases hL0
      obtain⟨c',fr,rfl,hR⟩:=dL hR
      have hψ:=hR.exact hex
      exact⟨_,_,rfl,aE.pure hh (v':=goInt c) (by simp[Builtin.cap_,ab hu,hψ]) (.sc _ rfl)⟩
    ·cases hr
   ·cases hr
  ·cases hr
 ·cases hr
theorem wQ(z:Value)(n:Nat):(Builtin.zeroCells z.cells n).toList=rep n (aW z):=by
 rw[←fg]
 rcases Nat.eq_zero_or_pos z.cells.size with h|h
 ·have h1:z.cells.toList=[]:=by rw[←List.length_eq_zero_iff,Array.length_toList];exact h
  have h2: ∀k,rep k ([]:List Value)=[]:=fun k=>by
   induction k with
   |zero=>rfl
   |succ k ih=>simp[rep,ih]
  simp[Builtin.zeroCells,h,h1,h2]
 ·have:=rS n z z.cells.size rfl (.inl (by omega))
  simp only[Builtin.zeroCells,this]
theorem DB{z:Value}(hz:au z=true)(n:Nat):cU ρ (rep n (aW z)) (rep n (aW z)):=by
 induction n with
 |zero=>exact .nil
 |succ k ih=>
  refine cU.append ?_ ih
  have:=(VR.ba hz (ρ:=ρ)).cells
  rw[fg] at this
  exact this
theorem tS{ats:List TypeId}{x x':Value}{ty:TypeId}{r:bW}(hx:VR ρ x x')(hh:aI ρ h.heap.get w)(hr:bu P h .clear ats [x]=some r):
 ∃v h',r= .val v h'/\aE P ρ h w (Builtin.clear_ ⟨ats⟩ ty #[x']) v h':=by
 simp only[bu] at hr
 split at hr
 ·rename_i t _
  split at hr
  ·rename_i e a n c hu
   split at hr
   ·rename_i i hi hsp
    split at hr
    ·rename_i z hz hz'
     split at hr
     ·cases hr
      cases hx with
      |sc _ hs=>exact((dY hs).1 (by assumption)).elim
      |sl b o _ _ L hL=>
       exact⟨_,_,rfl,aE.pure hh (v':= .tuple #[]) (by simp[Builtin.clear_,ab hu]) (.tuple [] [] .nil)⟩
     ·rename_i n' hn'
      split at hr
      ·rename_i h1 hw
       cases hr
       obtain⟨L,w',hL,hst,hh',hstep⟩:=g6 (P:=P) hh hw (DB (by simpa[hz] using hz') n)
       cases hx with
       |sc _ hs=>exact((dY hs).1 (by assumption)).elim
       |sl b o _ _ L' hL'=>
        rw[hL] at hL';cases hL'
        refine⟨_,_,rfl,ρ, .tuple #[],w',?_, .tuple [] [] .nil,hh',hstep _ _⟩
        cases n with
        |zero=>exact(hn' rfl).elim
        |succ n=>simp[Builtin.clear_,ab hu,cY hi hz,wQ,hst]
      ·cases hr
    ·cases hr
   ·cases hr
  ·cases hr
 ·cases hr
theorem vA{b:Builtin}{l l':List Value}{ats:Array TypeId}{ty:TypeId}{r:bW}(hl:cU ρ l l')(hh:aI ρ h.heap.get w)(hb:(b= .min/\bu P h .min ats.toList l=some r)\/(b= .max/\bu P h .max ats.toList l=some r)):
 ∃v h',r= .val v h'/\aE P ρ h w (if b matches .min then Builtin.min_ ats ty ⟨l'⟩ else Builtin.max_ ats ty ⟨l'⟩) v h':=by
 rcases hb with ⟨rfl,hr⟩|⟨rfl,hr⟩
 ·simp only[bu] at hr
  split at hr
  ·rename_i hp
   have:=hl.plain hp;subst this
   split at hr
   ·rename_i v hv
    cases hr
    obtain⟨h1,h2⟩:=gf hv
    exact⟨v,h,rfl,aE.pure hh (h1 w) (VR.ba h2)⟩
   ·cases hr
  ·cases hr
 ·simp only[bu] at hr
  split at hr
  ·rename_i hp
   have:=hl.plain hp;subst this
   split at hr
   ·rename_i v hv
    cases hr
    obtain⟨h1,h2⟩:=gf hv
    exact⟨v,h,rfl,aE.pure hh (h1 w) (VR.ba h2)⟩
   ·cases hr
  ·cases hr
theorem Fo{ats:List TypeId}{x x':Value}{ty:TypeId}{r:bW}(hx:VR ρ x x')(hh:aI ρ h.heap.get w)(hr:bu P h .unsafeSliceData ats [x]=some r):
 ∃v h',r= .val v h'/\aE P ρ h w (Builtin.unsafeSliceData_ ⟨ats⟩ ty #[x']) v h':=by
 simp only[bu] at hr
 split at hr
 ·cases hr
  cases hx
  exact⟨_,_,rfl,aE.pure hh (v':= .pointer none) rfl (.sc _ rfl)⟩
 ·rename_i a n c
  cases hr
  cases hx with
  |sc _ hs=>simp[simple] at hs
  |sl b o _ _ L hL=>
   refine⟨_,_,rfl,aE.pure hh (v':= .pointer (some ⟨L.φ,L.δ+o,none⟩)) ?_ (.ptr b o L hL)⟩
   have:c+1+L.ψ≠0:=by omega
   change Sem.run P (if c+1+L.ψ≠0 then pure (Value.pointer (some ⟨L.φ,L.δ+o,none⟩)) else _) w=_
   rw[if_pos this]
   rfl
 ·cases hr
theorem oz: ∀{cs:List Value} {bs:List UInt8},cM cs=some bs-> ∃ns:List Nat,cs=ns.map (fun(n:Nat)=>Value.int .u8 (n:Int))/\bs=ns.map UInt8.ofNat
 |[],bs,hb=>by simp only[cM,Option.some.injEq] at hb;subst hb;exact⟨[],rfl,rfl⟩
 | .int .u8 (.ofNat n)::l,bs,hb=>by
   simp only[cM] at hb
   split at hb
   ·rename_i r hr
    cases hb
    obtain⟨ns,h1,h2⟩:=oz hr
    exact⟨n::ns,by simp[h1],by simp[h2]⟩
   ·cases hb
 | .int .u8 (.negSucc n)::l,bs,hb=>by simp[cM] at hb
 | .int .i8 _::l,bs,hb=>by simp[cM] at hb
 | .int .i16 _::l,bs,hb=>by simp[cM] at hb
 | .int .i32 _::l,bs,hb=>by simp[cM] at hb
 | .int .i64 _::l,bs,hb=>by simp[cM] at hb
 | .int .u16 _::l,bs,hb=>by simp[cM] at hb
 | .int .u32 _::l,bs,hb=>by simp[cM] at hb
 | .int .u64 _::l,bs,hb=>by simp[cM] at hb
 | .bool _::l,bs,hb=>by simp[cM] at hb
 | .float _ _::l,bs,hb=>by simp[cM] at hb
 | .complex _ _ _::l,bs,hb=>by simp[cM] at hb
 | .string _::l,bs,hb=>by simp[cM] at hb
 | .pointer _::l,bs,hb=>by simp[cM] at hb
 | .slice _ _ _::l,bs,hb=>by simp[cM] at hb
 | .map _::l,bs,hb=>by simp[cM] at hb
 | .chan _::l,bs,hb=>by simp[cM] at hb
 | .func _ _ _::l,bs,hb=>by simp[cM] at hb
 | .nilFunc::l,bs,hb=>by simp[cM] at hb
 | .iface _ _::l,bs,hb=>by simp[cM] at hb
 | .nilIface::l,bs,hb=>by simp[cM] at hb
 | .agg _::l,bs,hb=>by simp[cM] at hb
 | .tuple _::l,bs,hb=>by simp[cM] at hb
theorem Bq(ns:List Nat):bG (ns.map fun(n:Nat)=>Value.int .u8 (n:Int))=true:=by
 induction ns with
 |nil=>rfl
 |cons n ns ih=>simpa[bG,au] using ih
theorem C2{L:Loc}{k:bg}{c:Array Value}{e:TypeId}{fr:Nat × Nat}{n off:Nat}{cs:List Value}{bs:List UInt8}(hR:xW ρ L k c e fr)(hx:w.heap[L.φ]? =some (.cells c e fr))(ht:takeN n (gg off k.cells)=some cs)(hb:cM cs=some bs):
 ∃ns:List Nat,ns.length=n/\bs=ns.map UInt8.ofNat/\ ∀j (v:Value),(ns.map fun(n:Nat)=>Value.int .u8 (n:Int))[j]? =some v->w.cell? ⟨L.φ,L.δ+off+j,none⟩=some v:=by
 obtain⟨cs',h1,h2,h3⟩:=hR.pA hx ht
 obtain⟨ns,rfl,rfl⟩:=oz hb
 have:=h2.plain (Bq ns)
 subst this
 exact⟨ns,by simpa using h1,rfl,h3⟩
theorem nC(b:Nat): ∀(ns:List Nat)(o:Nat)(acc:ByteArray),(∀j (v:Value),(ns.map fun(n:Nat)=>Value.int .u8 (n:Int))[j]? =some v->w.cell? ⟨b,o+j,none⟩=some v)->
 (loadBytes ⟨b,o,none⟩ acc ns.length).run P w= .ok ⟨acc.data++(ns.map UInt8.ofNat).toArray⟩ w
 |[],o,acc,_=>by simp[loadBytes]
 |n::ns,o,acc,hc=>by
  have h0:w.cell? ⟨b,o,none⟩=some (.int .u8 (n:Int)):=hc 0 _ rfl
  have ih:=nC b ns (o+1) (acc.push (n:Int).toNat.toUInt8) (fun j v hj=>by
   have:=hc (j+1) v (by simpa using hj)
   rwa [show o+(j+1)=o+1+j by omega] at this)
  simp only[List.length_cons,loadBytes,Sem.run_bind,run_load,h0,Result.andThen_ok,dD,ih]
  simp[ByteArray.push]
theorem Dy{f:TypeId->Bool}{d e count off n:Nat}(hc:P.cellsOf e=1)(hf:f e=true)(hle:off+n<=count):rowAt P f (d+1) e count off n=true:=by
 unfold rowAt
 rw[hc]
 simp[hf,hle,Nat.mod_one]
theorem Bj{e u:TypeId}{count off n:Nat}(hc:P.cellsOf e=1)(he:e=u)(hle:off+n<=count):liesAt P P.depth e count off u n=true:=by
 subst he
 obtain⟨d,hd⟩: ∃d,P.depth=d+1:=⟨P.depth - 1,by unfold Program.depth;omega⟩
 have hs:sameLayout P P.depth e e=true:=by rw[hd];unfold sameLayout;simp
 have h1:rowAt P (sameLayout P P.depth · e) P.depth e count off n=true:=by
  have:=Dy (P:=P) (f:=(sameLayout P P.depth · e)) (d:=d) hc hs hle
  rw[←hd] at this
  exact this
 have hl: ∀k,liesAt P (k+1) e count off e n=(rowAt P (sameLayout P P.depth · e) P.depth e count off n||match P.underlying e with
  |some (.array m u')=>liesAt P k e count off u' (n*m)
  |_=>false):=fun k=>rfl
 have h2:=hl d
 rw[h1,Bool.true_or] at h2
 rw[←hd] at h2
 exact h2
theorem lC.freeze{b n o:Nat}{c:Array Value}{e:TypeId}{fr:Nat × Nat}(hn:n≠0)(h:w.heap[b]? =some (.cells c e fr)): ∃fr',lC w (w.freeze ⟨b,o,none⟩ n) b (.cells c e fr'):=by
 obtain⟨lo,hi⟩:=fr
 refine⟨if lo==hi then (o,o+n) else (min lo o,max hi (o+n)),?_⟩
 have he:w.freeze ⟨b,o,none⟩ n={w with heap:=w.heap.modify b fun
  | .cells c elem (lo,hi)=> .cells c elem (if lo==hi then (o,o+n) else (min lo o,max hi (o+n)))
  |o=>o}:=by
  unfold World.freeze
  rw[if_neg hn]
  rfl
 rw[he]
 refine⟨rfl,rfl,rfl,by simp,fun k hk=>?_,?_⟩
 ·simp only[Array.getElem?_modify]
  rw[if_neg (by omega)]
 ·simp[Array.getElem?_modify,h]
theorem wm(l:List UInt8):ByteArray.empty.data++l.toArray=⟨l⟩:=by apply Array.ext';simp
theorem MS(t:TypeId)(rest:List TypeId)(ty:TypeId)(a:Addr)(k:IntKind)(m:Int):Builtin.unsafeString_ ⟨t::rest⟩ ty #[.pointer (some a), .int k m]=
 (do
   let n←asInt (.int k m)
   if n<0 then runtimePanic (.error "unsafe.String: len out of range")
   if n>IntKind.i64.max then unsupported (.unsafePointer "String: a length above the largest int")
   if n=0 then pure (.string .empty)
   else if←variablesAt a (←elemOf t) n.toNat then do
    let s←loadBytes a .empty n.toNat
    freeze a n.toNat
    pure (.string s)
   else unsupported (.unsafePointer "String: not so many bytes at ptr")):=rfl
theorem Lr{ats:List TypeId}{p p' m m':Value}{ty:TypeId}{r:bW}(hp:VR ρ p p')(hm:VR ρ m m')(hh:aI ρ h.heap.get w)(hr:bu P h .unsafeString ats [p,m]=some r):
 ∃v h',r= .val v h'/\aE P ρ h w (Builtin.unsafeString_ ⟨ats⟩ ty #[p',m']) v h':=by
 simp only[bu] at hr
 split at hr
 ·rename_i t rest
  split at hr
  ·rename_i k
   cases hr
   cases hp
   cases hm
   exact⟨_,_,rfl,aE.pure hh (v':= .string .empty) rfl (.sc _ rfl)⟩
  ·rename_i a k n
   split at hr
   ·rename_i n kb et hsp hk hu
    split at hr
    ·rename_i cs i hcs he hkel hi
     split at hr
     ·rename_i bs hbs hsz hle hown
      cases hr
      cases hm
      cases hp with
      |sc _ hs=>simp[simple] at hs
      |ptr b o L hL=>
       obtain⟨L0,x,hL0,hx0,hR⟩:=hh.obj _ _ hk
       rw[hL] at hL0;cases hL0
       obtain⟨c,fr,rfl,hR⟩:=dL hR
       obtain⟨ns,h1,rfl,h3⟩:=C2 hR hx0 hcs hbs
       have hkel':kb.elem=et:=Nat.eq_of_beq_eq_true hkel
       have hsz':=Nat.eq_of_beq_eq_true hsz
       have hle':n+1<=1099511627776:=Nat.le_of_ble_eq_true hle
       have hlast:L.δ+o+(n+1)<=c.size:=by
        have hn:(ns.map fun(n:Nat)=>Value.int .u8 (n:Int))[n]? ≠none:=by simp;omega
        obtain⟨v,hv⟩:=Option.ne_none_iff_exists'.1 hn
        have:=h3 n v hv
        simp[World.cell?,hx0] at this
        have:=(Array.getElem?_eq_some_iff.1 this).1
        omega
       have hcells:P.cellsOf et=1:=by unfold Program.cellsOf;rw[hi];exact hsz'
       have hvars:(variablesAt ⟨L.φ,L.δ+o,none⟩ et (n+1)).run P w= .ok true w:=by
        have hsh:w.shape? L.φ=some (kb.elem,c.size):=by simp[World.shape?,hx0]
        simp only[variablesAt,Sem.run_bind,run_program,Result.andThen_ok,run_shape,hsh,Sem.run_pure]
        rw[hkel',hcells,Nat.div_one,Bj hcells rfl hlast]
       have hload:=nC (P:=P) (w:=w) L.φ ns (L.δ+o) .empty h3
       rw[h1] at hload
       obtain⟨fr',hu'⟩:=lC.freeze (o:=L.δ+o) (show n+1≠0 by omega) hx0
       have hOR:OR ρ L (.ax {kb with bN:=2}) (.cells c kb.elem fr'):=
        ⟨rfl,hR.len,hR.room,hR.cell,hR.exact,hR.whole,(fun h=>by cases h),(fun h=>by cases h)⟩
       refine⟨_,_,rfl,ρ, .string ⟨⟨ns.map UInt8.ofNat⟩⟩,w.freeze ⟨L.φ,L.δ+o,none⟩ (n+1),?_, .sc _ rfl,hh.nw hk hown hL hu' hOR (fun j=>T.aL _ _ _ _),Step.nw hk hown hL hu' (fun j=>T.aL _ _ _ _) _ _⟩
       have helem:(elemOf t).run P w= .ok et w:=by simp[elemOf,ab hu]
       have hmax: ¬((n+1:Nat):Int)>IntKind.i64.max:=by
        have:IntKind.i64.max=9223372036854775807:=by decide
        rw[this];omega
       have hneg: ¬((n+1:Nat):Int)<0:=by omega
       rw[show(Int.ofNat (n+1))=((n+1:Nat):Int) from rfl,MS]
       have hasint:(asInt (.int k ((n+1:Nat):Int))).run P w= .ok ((n+1:Nat):Int) w:=rfl
       have hz: ¬((n+1:Nat):Int)=0:=by omega
       simp only[Sem.run_bind,hasint,Result.andThen_ok,if_neg hneg,if_neg hmax,if_neg hz,Int.toNat_natCast,helem,hvars,if_true,hload,run_freeze,Sem.run_pure,wm]
     ·cases hr
    ·cases hr
   ·cases hr
  ·cases hr
 ·cases hr
end
section
variable{P:Program}{ρ:aU}{w:World}{h:Hs}
theorem aE.same{s:Sem Value}{v:Value}(hh:aI ρ h.heap.get w)(hs:s.run P w= .ok v w)(hv:simple v=true):aE P ρ h w s v h:=aE.pure hh hs (.sc _ hv)
theorem sn{a:Addr}{c:Array Value}{e:TypeId}{fr:Nat × Nat}(hx:w.heap[a.block]? =some (.cells c e fr)):(Conv.seenAt a).run P w= .ok a w:=by
 have:w.shape? a.block=some (e,c.size):=by simp[World.shape?,hx]
 simp[Conv.seenAt,viewAt,this]
theorem zW{b:Nat}{c:Array Value}{e:TypeId}{fr:Nat × Nat}(hx:w.heap[b]? =some (.cells c e fr)):(cellsIn b).run P w= .ok (some c.size) w:=by
 have:w.shape? b=some (e,c.size):=by simp[World.shape?,hx]
 simp[cellsIn,this]
theorem BC{s d:TypeId}{x x':Value}{r:bW}(hx:VR ρ x x')(hh:aI ρ h.heap.get w)(hf:bC ρ h.next (r.next h))(hr:mB P h s d x=some r):
 ∃v h',r= .val v h'/\aE P ρ h w (convert s d x') v h':=by
 unfold mB at hr
 split at hr
 ·rename_i sd dd hs hd
  split at hr
  ·cases hr
   cases hx
   exact⟨_,_,rfl,aE.same hh (by cases sd<;>simp[convert,ab hs,ab hd,Conv.intToInt]) rfl⟩
  ·cases hr
   cases hx
   exact⟨_,_,rfl,aE.same hh (by cases sd<;>simp[convert,ab hs,ab hd,Conv.intToString]) rfl⟩
  ·cases hr
   cases hx
   exact⟨_,_,rfl,aE.same hh (by cases sd<;>simp[convert,ab hs,ab hd]) rfl⟩
  ·rename_i e t
   split at hr
   ·rename_i he
    cases hr
    cases hx
    have hn:ρ h.next=none:=hf _ (Nat.le_refl _) (Nat.lt_succ_self _)
    obtain⟨ψ,hψ⟩: ∃ψ,grownCap w t.size 0 e=t.size+ψ:=⟨_,rfl⟩
    have hrun:(convert s d (.string t)).run P w= .ok (.slice (some ⟨w.heap.size,0,none⟩) t.size (grownCap w t.size 0 e))
     (w.drew.alloc (.cells (bytesRow t (grownCap w t.size 0 e)) e ((bytesRow t (grownCap w t.size 0 e)).size,(bytesRow t (grownCap w t.size 0 e)).size+1))):=
     run_bytes_of_string w s d e t hs hd he
    have hsz:t.data.size=t.size:=rfl
    have hbs:(bytesRow t (t.size+ψ)).size=t.size+ψ:=by simp[bytesRow,hsz]
    obtain⟨e1,e2⟩:=aI.new (w:=w.drew) (H':=(cA h (.ax {cells:=lh t.data.toList,cap:=t.size,kv:=1,elem:=e,exact:=false,whole:=false,bN:=1,own:=true})).heap.get)
     (x:= .cells (bytesRow t (t.size+ψ)) e (t.size+ψ,t.size+ψ+1)) (δ:=0) (ψ:=ψ) (hh.heap (w1:=w.drew) rfl) hn
     (rM (tY _) (by simp[ky,hsz]) (fun _=>by simp[hbs]) (fun j hj=>by
       rw[ky] at hj
       simp at hj
       simp only[Nat.zero_add]
       rw[bytesRow,Array.getElem?_append_left (by simpa using hj),ky]
       simp) (fun h=>by cases h) (fun h=>by cases h) (fun h=>by cases h) (fun _=> .inr (by simp[hbs])))
     (fun j=>T.aL _ _ _ _)
    rw[hψ,hbs] at hrun
    refine⟨_,_,rfl,_,_,_,hrun,?_,?_,e2.j7 (w:=w) rfl rfl rfl rfl⟩
    ·have:=VR.sX ρ h.next ⟨w.heap.size,0,ψ⟩ t.size t.size rfl
     simpa using this
    ·simpa using e1
   ·cases hr
  ·rename_i e
   split at hr
   ·rename_i he
    split at hr
    ·cases hr
     cases hx
     refine⟨_,_,rfl,aE.pure hh (v':= .string .empty) ?_ (.sc _ rfl)⟩
     simp[convert,ab hs,ab hd,ab he,Conv.bytesToString]
    ·rename_i a n c _
     split at hr
     ·rename_i k hsp hk
      split at hr
      ·rename_i cs hcs
       split at hr
       ·rename_i bs hbs
        cases hr
        cases hx with
        |sc _ hs=>exact((dY hs).1 (by assumption)).elim
        |sl b o _ _ L hL=>
         obtain⟨L0,x,hL0,hx0,hR⟩:=hh.obj _ _ hk
         rw[hL] at hL0;cases hL0
         obtain⟨c',fr,rfl,hR⟩:=dL hR
         obtain⟨ns,h1,rfl,h3⟩:=C2 hR hx0 hcs hbs
         refine⟨_,_,rfl,aE.pure hh (v':= .string ⟨⟨ns.map UInt8.ofNat⟩⟩) ?_ (.sc _ rfl)⟩
         have hl:=run_loadCells_list (P:=P) w ⟨L.φ,L.δ+o,none⟩ (ns.map fun(n:Nat)=>Value.int .u8 (n:Int)) (fun j v hj=>by rw[dD];exact h3 j v hj)
         rw[List.length_map,h1] at hl
         have hb:=run_bytesToString (P:=P) w ⟨L.φ,L.δ+o,none⟩ n (c+L.ψ) (ns.map fun(n:Nat)=>(n:Int)) (by rw[hl];simp)
         have hfold: ∀(ns:List Nat)(s:ByteArray),(ns.map fun(n:Nat)=>(n:Int)).foldl (fun r n=>r.push (UInt8.ofNat n.toNat)) s=⟨s.data++(ns.map UInt8.ofNat).toArray⟩:=by
          intro ns
          induction ns with
          |nil=>intro s;simp
          |cons n ns ih=>intro s;simp only[List.map_cons,List.foldl_cons];rw[ih];simp[ByteArray.push]
         rw[hfold,wm] at hb
         simp only[convert,Sem.run_bind,ab hs,ab hd,ab he,Result.andThen_ok,hb]
       ·cases hr
      ·cases hr
     ·cases hr
    ·cases hr
   ·cases hr
  ·cases hr
   cases hx
   exact⟨_,_,rfl,aE.same hh (by simp[convert,ab hs,ab hd,Conv.unsafePointer]) rfl⟩
  ·rename_i t a
   split at hr
   ·rename_i k i hsp hk hi
    split at hr
    ·rename_i m hm hle hown
     cases hr
     cases hx with
     |sc _ hs=>simp[simple] at hs
     |ptr b o L hL=>
      obtain⟨L0,x,hL0,hx0,hR⟩:=hh.obj _ _ hk
      rw[hL] at hL0;cases hL0
      obtain⟨c,fr,rfl,hR⟩:=dL hR
      have hroom:=hR.room hown
      have hlt:o<k.cap:=by
       rcases Nat.lt_or_ge o k.cap with h'|h'
       ·exact h'
       ·rw[Nat.ble_eq_true_of_le h'] at hle;cases hle
      refine⟨_,_,rfl,aE.pure hh (v':= .pointer (some ⟨L.φ,L.δ+o,none⟩)) ?_ (.ptr b o L hL)⟩
      have h1:=sn (P:=P) (a:=⟨L.φ,L.δ+o,none⟩) hx0
      have h2:=zW (P:=P) hx0
      have h3: ¬(c.size<=L.δ+o):=by omega
      simp[convert,ab hs,ab hd,Conv.unsafePointer,h1,h2,aP hi,hm,h3]
    ·cases hr
   ·cases hr
  ·cases hr
   cases hx
   exact⟨_,_,rfl,aE.same hh (by simp[convert,ab hs,ab hd,Conv.unsafePointer]) rfl⟩
  ·rename_i u a
   split at hr
   ·rename_i k i hsp hk hi
    split at hr
    ·rename_i m hm hwh
     split at hr
     ·rename_i hlies
      cases hr
      cases hx with
      |sc _ hs=>simp[simple] at hs
      |ptr b o L hL=>
       obtain⟨L0,x,hL0,hx0,hR⟩:=hh.obj _ _ hk
       rw[hL] at hL0;cases hL0
       obtain⟨c,fr,rfl,hR⟩:=dL hR
       obtain⟨hδ,hcs⟩:=hR.whole hwh
       refine⟨_,_,rfl,aE.pure hh (v':= .pointer (some ⟨L.φ,L.δ+o,none⟩)) ?_ (.ptr b o L hL)⟩
       have h1:=sn (P:=P) (a:=⟨L.φ,L.δ+o,none⟩) hx0
       have h2:(variablesAt ⟨L.φ,L.δ+o,none⟩ u 1).run P w= .ok true w:=by
        have hsh:w.shape? L.φ=some (k.elem,c.size):=by simp[World.shape?,hx0]
        simp only[variablesAt,Sem.run_bind,run_program,Result.andThen_ok,run_shape,hsh,Sem.run_pure,hcs,hδ,Nat.zero_add]
        rw[hlies]
       simp[convert,ab hs,ab hd,Conv.unsafePointer,h1,h2,aP hi,hm]
     ·cases hr
    ·cases hr
   ·cases hr
  ·cases hr
 ·cases hr
theorem rI{fn:Func}{e:Array Value->Sem Value}{n:String}(ho:fn.origin= "")(hn:fn.name=n)(h1:Extern.allNextRows.lookup n=none)(h2:Extern.allGenericRows.lookup n=none)
 (h3:(Extern.allTypedRows.lookup n).map (· fn.params fn.resultTypes)=none/\Extern.allRows.lookup n=some e\/(Extern.allTypedRows.lookup n).map (· fn.params fn.resultTypes)=some e):Extern.findNext fn=none/\Extern.find fn=some e:=by
 constructor
 ·unfold Extern.findNext
  simp only[hn,ho,h1,Qi]
  rfl
 ·unfold Extern.find
  simp only[hn,h2]
  rcases h3 with ⟨h3,h4⟩|h3
  ·rw[h3,h4];rfl
  ·rw[h3];rfl
theorem pY{f:FuncId}{fn:Func}{e:Array Value->Sem Value}(hf:P.funcs[f]? =some fn)(hb:fn.body=none)(hname:fn.name≠ "runtime.NumGoroutine")(h1:Extern.findNext fn=none)(h2:Extern.find fn=some e)(args:Array Value):
 (callFunc f args).run P w=((e args).run P w).andThen fun v w'=> .ok (.value v) w':=by
 simp[callFunc,hf,hname,hb,h1,h2,mark,Sem.run]
theorem dH.ext{f:FuncId}{fn:Func}{e:Array Value->Sem Value}{args:Array Value}{v:Value}{h':Hs}(hf:P.funcs[f]? =some fn)(hb:fn.body=none)(hname:fn.name≠ "runtime.NumGoroutine")(h1:Extern.findNext fn=none)(h2:Extern.find fn=some e)
 (hv:aE P ρ h w (e args) v h'):dH P ρ h w (callFunc f args) (.val v h'):=by
 obtain⟨ρ',v',w',a,b,c,d⟩:=hv
 exact⟨ρ',v',w',by rw[pY hf hb hname h1 h2,a];rfl,b,c,d⟩
theorem qL: ∀(n t:Nat)(acc:Array Value),(Extern.BytealgMakeNoZero.digits n t acc).size=acc.size+n
 |0,_,acc=>rfl
 |n+1,t,acc=>by simp[Extern.BytealgMakeNoZero.digits,qL n];omega
theorem Jy(ps rs:Array TypeId)(n:Nat):Extern.BytealgMakeNoZero.makeNoZero ps rs #[.int .i64 (Int.ofNat n)]=(do
 let some t:=rs[0]? |stuck "bytealg.MakeNoZero: no result type"
 let .slice elem←underlying t|stuck "bytealg.MakeNoZero: slice type expected"
 if (n:Int)<0||(n:Int)>2 ^ 48 then runtimePanic (.error "makeslice: len out of range")
 let cap←choose (.appendCap (n:Int).toNat 0 elem)
 askRoom cap
 let bytes←choose (.extern "internal/bytealg.MakeNoZero.bytes" 0)
 let a←newRow elem (Extern.BytealgMakeNoZero.digits cap bytes #[])
 pure (.slice (some a) (n:Int).toNat cap)):=rfl
theorem Eg{f:FuncId}{fn:Func}{args args':List Value}{r:bW}(hf':P.funcs[f]? =some fn)(hb:fn.body=none)(ha:cU ρ args args')(hh:aI ρ h.heap.get w)(hf:bC ρ h.next (r.next h))(hr:pJ P h fn args=some r):
 dH P ρ h w (callFunc f ⟨args'⟩) r:=by
 unfold pJ at hr
 split at hr
 ·rename_i x hno
  cases hr
  obtain⟨ho,hn⟩:fn.origin= "" /\fn.name= "internal/abi.NoEscape" :=by
   unfold mq at hno
   repeat' (split at hno)
   all_goals first|exact⟨by assumption,by assumption⟩|(exact absurd hno (by decide))
  obtain⟨h1,h2⟩:=rI ho hn sW UY (.inl ⟨by rw[TO];rfl,T5⟩)
  cases ha with
  |cons _ x' _ _ hx hr=>
   cases hr
   exact dH.ext hf' hb (by rw[hn];decide) h1 h2 (aE.pure hh (v':=x') rfl hx)
 ·rename_i n hno
  obtain⟨ho,hn⟩:fn.origin= "" /\fn.name= "internal/bytealg.MakeNoZero" :=by
   unfold mq at hno
   repeat' (split at hno)
   all_goals first|exact⟨by assumption,by assumption⟩|(exact absurd hno (by decide))
  obtain⟨h1,h2⟩:=rI ho hn jh UX (.inr (by rw[TN];rfl))
  split at hr
  ·rename_i t rest hres
   split at hr
   ·rename_i e hu hle
    cases hr
    cases ha with
    |cons _ x' _ _ hx hr=>
     cases hr
     cases hx
     have hn':ρ h.next=none:=hf _ (Nat.le_refl _) (Nat.lt_succ_self _)
     have hle':n<=1099511627776:=Nat.le_of_ble_eq_true hle
     refine dH.ext hf' hb (by rw[hn];decide) h1 h2 ?_
     have ht:fn.resultTypes[0]? =some t:=by rw[←Array.getElem?_toList,hres];rfl
     obtain⟨ψ,bytes,hrun⟩: ∃ψ bytes,(Extern.BytealgMakeNoZero.makeNoZero fn.params fn.resultTypes #[.int .i64 (Int.ofNat n)]).run P w=
      .ok (.slice (some ⟨w.heap.size,0,none⟩) n (n+ψ)) (w.drew.drew.alloc (.cells (Extern.BytealgMakeNoZero.digits (n+ψ) bytes #[]) e)):=by
      refine⟨w.tape w.drawn (.appendCap n 0 e) % (2 ^ 63 - n),(Question.extern "internal/bytealg.MakeNoZero.bytes" 0).cut (w.drew.tape w.drew.drawn (.extern "internal/bytealg.MakeNoZero.bytes" 0)),?_⟩
      rw[Jy]
      have c1: ¬((n:Int)<0):=by omega
      have c2: ¬((n:Int)>2 ^ 48):=by omega
      have c3:(decide ((n:Int)<0)||decide ((n:Int)>2 ^ 48))=false:=by rw[decide_eq_false c1,decide_eq_false c2];rfl
      have hcut:(Question.appendCap n 0 e).cut (w.tape w.drawn (.appendCap n 0 e))=n+w.tape w.drawn (.appendCap n 0 e) % (2 ^ 63 - n):=rfl
      simp only[ht,Sem.run_bind,ab hu,Result.andThen_ok,c3,Bool.false_eq_true,if_false,run_choose,Question.forced,Int.toNat_natCast,World.drew_eq,hcut,run_askRoom,fW,Sem.run_pure]
      rfl
     obtain⟨e1,e2⟩:=aI.new (w:=w.drew.drew) (H':=(cA h (.ax {cells:=[],cap:=n,kv:=1,elem:=e,exact:=false,whole:=false,bN:=0,own:=true})).heap.get)
      (x:= .cells (Extern.BytealgMakeNoZero.digits (n+ψ) bytes #[]) e) (δ:=0) (ψ:=ψ) (hh.heap (w1:=w.drew.drew) rfl) hn'
      (rM .nil (by simp) (fun _=>by simp[qL]) (fun j hj=>by simp at hj) (fun h=>by cases h) (fun h=>by cases h) (fun _=>rfl) (fun h=>by cases h)) (fun j=>T.aL _ _ _ _)
     refine⟨_,_,_,hrun,?_,?_,e2.j7 (w:=w) rfl rfl rfl rfl⟩
     ·have:=VR.sX ρ h.next ⟨w.heap.size,0,ψ⟩ n n rfl
      simpa using this
     ·simpa using e1
   ·cases hr
  ·cases hr
 ·rename_i x y hno
  obtain⟨ho,hn⟩:fn.origin= "" /\fn.name= "internal/bytealg.IndexByteString" :=by
   unfold mq at hno
   repeat' (split at hno)
   all_goals first|exact⟨by assumption,by assumption⟩|(exact absurd hno (by decide))
  obtain⟨h1,h2⟩:=rI ho hn Qh UW (.inl ⟨by rw[TM];rfl,T4⟩)
  split at hr
  ·rename_i p1 p2
   split at hr
   ·rename_i v hv
    cases hr
    obtain⟨h3,h4⟩:=gf hv
    cases ha with
    |cons _ x' _ _ hx hr=>
     cases hr with
     |cons _ y' _ _ hy hr=>
      cases hr
      have e1:=hx.plain p1
      have e2:=hy.plain p2
      subst e1 e2
      exact dH.ext hf' hb (by rw[hn];decide) h1 h2 (aE.pure hh (h3 w) (VR.ba h4))
   ·cases hr
  ·cases hr
 ·rename_i x y hno
  obtain⟨ho,hn⟩:fn.origin= "" /\fn.name= "internal/bytealg.CountString" :=by
   unfold mq at hno
   repeat' (split at hno)
   all_goals first|exact⟨by assumption,by assumption⟩|(exact absurd hno (by decide))
  obtain⟨h1,h2⟩:=rI ho hn Qg UU (.inl ⟨by rw[TL];rfl,T3⟩)
  split at hr
  ·rename_i p1 p2
   split at hr
   ·rename_i v hv
    cases hr
    obtain⟨h3,h4⟩:=gf hv
    cases ha with
    |cons _ x' _ _ hx hr=>
     cases hr with
     |cons _ y' _ _ hy hr=>
      cases hr
      have e1:=hx.plain p1
      have e2:=hy.plain p2
      subst e1 e2
      exact dH.ext hf' hb (by rw[hn];decide) h1 h2 (aE.pure hh (h3 w) (VR.ba h4))
   ·cases hr
  ·cases hr
 ·cases hr
end
section
variable{P:Program}{ρ:aU}{w:World}{h:Hs}
theorem gL.length: ∀{l l':List MapEntry},gL ρ l l'->l'.length=l.length
 |_,_, .nil=>rfl
 |_,_, .cons _ _ _ _ _ k=>by simp[gL.length k]
theorem gL.get: ∀{l l':List MapEntry},gL ρ l l'-> ∀{i:Nat} {e:MapEntry},l[i]? =some e-> ∃e',l'[i]? =some e'/\ER ρ e e'
 |_,_, .nil,i,e,h=>by simp at h
 |_,_, .cons a a' l l' h k,0,e,he=>by simp at he;subst he;exact⟨a',rfl,h⟩
 |_,_, .cons a a' l l' h k,i+1,e,he=>by simp at he;simpa using gL.get k he
theorem gL.append: ∀{a a' b b':List MapEntry},gL ρ a a'->gL ρ b b'->gL ρ (a++b) (a'++b')
 |_,_,_,_, .nil,k=>k
 |_,_,_,_, .cons v v' l l' h r,k=> .cons v v' _ _ h (gL.append r k)
theorem oI{kt:TypeId}{d:TypeDesc}{x y:Value}{b b':Bool}(hu:P.underlying kt=some d)(h1:Instr.sameNow d x y=some b)(h2:prun P (Op.equal kt x y)=some b'):b'=b:=by
 have hr:=eV h2 default
 rw[da,Op.equalIn] at hr
 simp only[Sem.run_bind,ab hu,Result.andThen_ok] at hr
 unfold Instr.sameNow at h1
 split at h1
 ·split at h1
  ·rename_i he
   cases h1
   simp[he] at hr
   exact hr.symm
  ·cases h1
 ·cases h1
  simp at hr
  exact hr.symm
 ·cases h1
  simp at hr
  exact hr.symm
 ·cases h1
def B1(ρ:aU):Option (Nat × Value)->Option (Nat × Value)->Prop
 |none,r'=>r'=none
 |some (j,v),r'=> ∃v',r'=some (j,v')/\VR ρ v v'
theorem qH{kt:TypeId}{k:Value}(hk:au k=true): ∀{es es':List MapEntry} {i:Nat} {r:Option (Nat × Value)},gL ρ es es'->aA P kt k es i=some r->
 ∃r',(∀w,(Instr.findAsking kt k es' i).run P w= .ok r' w)/\(∀d r'',P.underlying kt=some d->Instr.findNow d k es' i=some r''->r''=r')/\
  B1 ρ r r'
 |_,_,i,r, .nil,hf=>by
  simp only[aA,Option.some.injEq] at hf
  subst hf
  exact⟨none,fun w=>by simp[Instr.findAsking],fun d r'' _ hn=>by simp only[Instr.findNow,Option.some.injEq] at hn;exact hn.symm,rfl⟩
 |_,_,i,r, .cons e e' l l' he hl,hf=>by
  simp only[aA] at hf
  split at hf
  ·rename_i hp
   have hkey:=he.1.plain hp
   split at hf
   ·rename_i hq
    cases hf
    refine⟨some (i,e'.val),fun w=>?_,fun d r'' hu hn=>?_,e'.val,rfl,he.2.1⟩
    ·have:=eV hq w
     simp only[Instr.findAsking,Sem.run_bind,hkey,this,Result.andThen_ok,if_true,Sem.run_pure]
    ·simp only[Instr.findNow,hkey] at hn
     split at hn
     ·cases hn;rfl
     ·rename_i hs
      have:=oI hu hs hq
      cases this
     ·cases hn
   ·rename_i hq
    obtain⟨r',h1,h2,h3⟩:=qH hk hl hf
    refine⟨r',fun w=>?_,fun d r'' hu hn=>?_,h3⟩
    ·have:=eV hq w
     simp only[Instr.findAsking,Sem.run_bind,hkey,this,Result.andThen_ok,Bool.false_eq_true,if_false,h1 w]
    ·simp only[Instr.findNow,hkey] at hn
     split at hn
     ·rename_i hs
      have:=oI hu hs hq
      cases this
     ·exact h2 d r'' hu hn
     ·cases hn
   ·cases hf
  ·cases hf
theorem ek{kt:TypeId}{k:Value}(hk:au k=true){es es':List MapEntry}{r:Option (Nat × Value)}(hE:gL ρ es es')(hf:aA P kt k es 0=some r){d:TypeDesc}(hu:P.underlying kt=some d):
 ∃r',(∀w,(Instr.findKey kt k es').run P w= .ok r' w)/\B1 ρ r r':=by
 obtain⟨r',h1,h2,h3⟩:=qH hk hE hf
 refine⟨r',fun w=>?_,h3⟩
 simp only[Instr.findKey,Sem.run_bind,ab hu,Result.andThen_ok]
 split
 ·rename_i r'' hn
  rw[h2 d r'' hu hn];rfl
 ·exact h1 w
theorem jr{kt:TypeId}{k k':Value}(hk:VR ρ k k')(ha:pH P kt k=true):k'=k/\au k=true/\ ∀b w,(Instr.checkKey b 10000 kt k).run P w= .ok () w:=by
 unfold pH at ha
 split at ha
 ·rename_i hp
  split at ha
  ·rename_i h1 h2
   exact⟨hk.plain hp,hp,fun b w=>by cases b;exact eV h1 w;exact eV h2 w⟩
  ·cases ha
 ·cases ha
theorem ez{b:Nat}{L:Loc}{es:List MapEntry}{ck:Nat}(hh:aI ρ h.heap.get w)(hb:h.heap.get b=some (.map es ck))(hL:ρ b=some L):
 ∃es':Array MapEntry,w.heap[L.φ]? =some (.map es' ck)/\(getObj L.φ).run P w= .ok (.map es' ck) w/\gL ρ es es'.toList:=by
 obtain⟨L0,x,hL0,hx0,hR⟩:=hh.obj _ _ hb
 rw[hL] at hL0;cases hL0
 cases x<;>simp only[OR] at hR<;>first|exact hR.elim|skip
 rename_i es' ck'
 obtain⟨h1,rfl⟩:=hR
 exact⟨es',hx0,by simp[getObj,Sem.run,hx0],h1⟩
theorem nL{r:Nat}{x o:Obj}(hx:w.heap[r]? =some x)(hc: ∀c e f,x≠ .cells c e f): ∃w',(setObj r o).run P w= .ok () w'/\lC w w' r o:=by
 refine⟨{w with heap:=w.heap.setIfInBounds r o},?_,⟨rfl,rfl,rfl,by simp,fun k hk=>?_,?_⟩⟩
 ·simp only[setObj,Sem.run,hx]
 ·show(w.heap.setIfInBounds r o)[k]? =_
  rw[Array.getElem?_setIfInBounds_ne (by omega)]
 ·show(w.heap.setIfInBounds r o)[r]? =_
  have:=(Array.getElem?_eq_some_iff.1 hx).1
  simp[this]
theorem ly{kt:TypeId}{k:Value}(h: ∀b w,(Instr.checkKey b 10000 kt k).run P w= .ok () w): ∃d,P.underlying kt=some d:=by
 cases hu:P.underlying kt with
 |some d=>exact⟨d,rfl⟩
 |none=>
  have:=h true default
  rw[show(10000:Nat)=9999+1 from rfl,Instr.checkKey] at this
  simp[underlying,hu] at this
theorem D2{t:TypeId}{m m' k k':Value}{ok:Bool}{r:bW}(hh:aI ρ h.heap.get w)(hm:VR ρ m m')(hk:VR ρ k k')(hr:m9 P h t m k ok=some r): ∃v,r= .val v h/\aE P ρ h w (Instr.lookup t m' k' ok) v h:=by
 unfold m9 at hr
 split at hr
 ·rename_i kt e hu
  split at hr
  ·rename_i es hak hes
   obtain⟨rfl,hp,hck⟩:=jr hk hak
   obtain⟨kd,hkd⟩:=ly hck
   have key: ∀r',(∃es':Array MapEntry,gL ρ es es'.toList/\(∀w,(Instr.findKey kt k' es'.toList).run P w= .ok r' w))->B1 ρ (none:Option (Nat × Value)) r'\/True:=fun _ _=> .inr trivial
   have hold: ∃es':Array MapEntry,gL ρ es es'.toList/\ ∀r':Option (Nat × Value),(∀w,(Instr.findKey kt k' es'.toList).run P w= .ok r' w)-> ∀v',(match r' with
    |some (_,v)=>v'=(if ok then .tuple #[v, .bool true] else v)
    |none=> ∃z,(zeroValue e).run P w= .ok z w/\v'=(if ok then .tuple #[z, .bool false] else z))->(Instr.lookup t m' k' ok).run P w= .ok v' w:=by
    unfold BS at hes
    split at hes
    ·cases hes
     cases hm
     refine⟨#[], .nil,fun r' hf v' hv=>?_⟩
     cases r' with
     |none=>
      obtain⟨z,hz,rfl⟩:=hv
      simp only[Instr.lookup,Sem.run_bind,ab hu,Result.andThen_ok,Sem.run_pure,hck,hf,hz]
     |some x=>
      obtain⟨j,v⟩:=x
      simp only at hv
      subst hv
      simp only[Instr.lookup,Sem.run_bind,ab hu,Result.andThen_ok,Sem.run_pure,hck,hf]
    ·split at hes
     ·rename_i b es ck hb
      cases hes
      cases hm with
      |sc _ hs=>simp[simple] at hs
      |map _ L hL=>
       obtain⟨es',h1,h2,h3⟩:=ez (P:=P) hh hb hL
       refine⟨es',h3,fun r' hf v' hv=>?_⟩
       cases r' with
       |none=>
        obtain⟨z,hz,rfl⟩:=hv
        simp only[Instr.lookup,Sem.run_bind,ab hu,Result.andThen_ok,Sem.run_pure,h2,hck,hf,hz]
       |some x=>
        obtain⟨j,v⟩:=x
        simp only at hv
        subst hv
        simp only[Instr.lookup,Sem.run_bind,ab hu,Result.andThen_ok,Sem.run_pure,h2,hck,hf]
     ·cases hes
    ·cases hes
   obtain⟨es',hE,hold⟩:=hold
   split at hr
   ·rename_i j v hf
    cases hr
    obtain⟨r',h1,v',rfl,hv⟩:=ek hp hE hf hkd
    refine⟨_,rfl,aE.pure hh (hold _ h1 _ rfl) ?_⟩
    cases ok
    ·exact hv
    ·exact .tuple _ _ (.cons _ _ _ _ hv (.one (.sc _ rfl)))
   ·rename_i hf
    obtain⟨r',h1,h2⟩:=ek hp hE hf hkd
    have h2:r'=none:=h2
    subst h2
    split at hr
    ·rename_i i hi
     split at hr
     ·rename_i z hz
      split at hr
      ·rename_i hpz
       cases hr
       refine⟨_,rfl,aE.pure hh (hold _ h1 _ ⟨z,cY hi hz,rfl⟩) ?_⟩
       cases ok
       ·exact VR.ba hpz
       ·exact .tuple _ _ (.cons _ _ _ _ (VR.ba hpz) (.one (.sc _ rfl)))
      ·cases hr
     ·cases hr
    ·cases hr
   ·cases hr
  ·cases hr
 ·cases hr
theorem qx{k x x':Value}(hk:au k=true)(hx:VR ρ x x'): ∀{es es':List MapEntry} {i:Nat},gL ρ es es'->gL ρ (cX i k x es) (es'.modify i fun e=>{e with key:=k,val:=x'})
 |_,_,i, .nil=>by cases i<;>simpa[cX] using gL.nil
 |_,_,0, .cons e e' l l' he hl=>by simpa[cX] using gL.cons _ _ _ _ (show ER ρ {e with key:=k,val:=x} {e' with key:=k,val:=x'} from⟨VR.ba hk,hx,he.2.2⟩) hl
 |_,_,i+1, .cons e e' l l' he hl=>by simpa[cX] using gL.cons _ _ _ _ he (qx hk hx hl)
theorem sm{k:Value}(hk:au k=true): ∀{es es':List MapEntry} {i:Nat},gL ρ es es'->gL ρ (Dw i k es) (es'.modify i fun e=>{e with key:=k})
 |_,_,i, .nil=>by cases i<;>simpa[Dw] using gL.nil
 |_,_,0, .cons e e' l l' he hl=>by simpa[Dw] using gL.cons _ _ _ _ (show ER ρ {e with key:=k} {e' with key:=k} from⟨VR.ba hk,he.2.1,he.2.2⟩) hl
 |_,_,i+1, .cons e e' l l' he hl=>by simpa[Dw] using gL.cons _ _ _ _ he (sm hk hl)
theorem oH{x x':Value}(hx:VR ρ x x'): ∀{es es':List MapEntry} {i:Nat},gL ρ es es'->gL ρ (pW i x es) (es'.modify i fun e=>{e with val:=x'})
 |_,_,i, .nil=>by cases i<;>simpa[pW] using gL.nil
 |_,_,0, .cons e e' l l' he hl=>by simpa[pW] using gL.cons _ _ _ _ (show ER ρ {e with val:=x} {e' with val:=x'} from⟨he.1,hx,he.2.2⟩) hl
 |_,_,i+1, .cons e e' l l' he hl=>by simpa[pW] using gL.cons _ _ _ _ he (oH hx hl)
theorem pr: ∀{es es':List MapEntry} {i:Nat},gL ρ es es'->gL ρ (ob i es) (es'.eraseIdx i)
 |_,_,i, .nil=>by cases i<;>simpa[ob] using gL.nil
 |_,_,0, .cons e e' l l' he hl=>by simpa[ob] using hl
 |_,_,i+1, .cons e e' l l' he hl=>by simpa[ob] using gL.cons _ _ _ _ he (pr hl)
theorem iU{b:Nat}{L:Loc}{es es2:List MapEntry}{ck ck2:Nat}{es2':Array MapEntry}(hh:aI ρ h.heap.get w)(hb:h.heap.get b=some (.map es ck))(hL:ρ b=some L)(hE:gL ρ es2 es2'.toList):
 ∃w',(setObj L.φ (.map es2' ck2)).run P w= .ok () w'/\aI ρ (h.heap.set b (.map es2 ck2)).get w'/\ ∀lo hi,Step ρ h.heap.get w ρ (h.heap.set b (.map es2 ck2)).get w' lo hi:=by
 obtain⟨es',h1,_,_⟩:=ez (P:=P) hh hb hL
 obtain⟨w',hr,hu⟩:=nL (P:=P) (o:= .map es2' ck2) h1 (fun _ _ _ h=>by cases h)
 exact⟨w',hr,hh.nw hb rfl hL hu (show OR ρ L (.map es2 ck2) (.map es2' ck2) from⟨hE,rfl⟩) (fun j=>T.aL _ _ _ _),fun lo hi=>Step.nw hb rfl hL hu (fun j=>T.aL _ _ _ _) lo hi⟩
theorem zA{k:Value}{es:List MapEntry}{arr:Array MapEntry}{e:MapEntry}{j:Nat}(hs:(au e.key && Instr.sameBits 10000 e.key k)=true)(hE:gL ρ es arr.toList)(he:es[j]? =some e):
 (Instr.keyThatStays (((arr[j]?).map (·.key)).getD k) k).run P w= .ok k w:=by
 obtain⟨e',he',hER⟩:=hE.get he
 rw[Array.getElem?_toList] at he'
 simp only[Bool.and_eq_true] at hs
 have:=hER.1.plain hs.1
 simp only[he',Option.map_some,Option.getD_some,this,Instr.keyThatStays,hs.2,if_true,Sem.run_pure]
theorem o6{t:TypeId}{m m' k k' x x':Value}{r:bW}(hh:aI ρ h.heap.get w)(hm:VR ρ m m')(hk:VR ρ k k')(hx:VR ρ x x')(hr:gW P h t m k x=some r): ∃h',r= .skip h'/\qt P ρ h w (Instr.mapUpdate t m' k' x') h':=by
 unfold gW at hr
 split at hr
 ·rename_i kt e b hu
  split at hr
  ·rename_i es ck hak hb
   obtain⟨rfl,hp,hck⟩:=jr hk hak
   obtain⟨kd,hkd⟩:=ly hck
   cases hm with
   |sc _ hs=>simp[simple] at hs
   |map _ L hL=>
    obtain⟨es',h1,h2,hE⟩:=ez (P:=P) hh hb hL
    split at hr
    ·rename_i j v hf
     obtain⟨r',h3,v',rfl,hv⟩:=ek hp hE hf hkd
     split at hr
     ·rename_i e0 he0
      split at hr
      ·rename_i hsb
       cases hr
       rw[fF] at he0
       have hkeep:=zA (P:=P) (w:=w) (k:=k') hsb hE he0
       obtain⟨w',h4,h5,h6⟩:=iU (P:=P) (ck2:=ck) (es2':=es'.modify j fun e=>{e with key:=k',val:=x'}) hh hb hL (by
        rw[Array.toList_modify];exact qx hp hx hE)
       refine⟨_,rfl,ρ,w',?_,h5,h6 _ _⟩
       simp only[Instr.mapUpdate,Sem.run_bind,ab hu,Result.andThen_ok,h2,hck,h3,hkeep,h4]
      ·cases hr
     ·cases hr
    ·rename_i hf
     cases hr
     obtain⟨r',h3,h3'⟩:=ek hp hE hf hkd
     have h3':r'=none:=h3'
     subst h3'
     obtain⟨w',h4,h5,h6⟩:=iU (P:=P) (ck2:=ck+1) (es2':=es'.push {key:=k',val:=x',born:=ck}) hh hb hL (by
      rw[Array.toList_push];exact hE.append (gL.cons {key:=k',val:=x,born:=ck} _ _ _ ⟨VR.ba hp,hx,rfl⟩ .nil))
     refine⟨_,rfl,ρ,w',?_,h5,h6 _ _⟩
     simp only[Instr.mapUpdate,Sem.run_bind,ab hu,Result.andThen_ok,h2,hck,h3,h4]
    ·cases hr
  ·cases hr
 ·cases hr
theorem yY{t:TypeId}{m m' k k':Value}{r:bW}(hh:aI ρ h.heap.get w)(hm:VR ρ m m')(hk:VR ρ k k')(hr:mZ P h t m k=some r): ∃v h',r= .val v h'/\h'.next=h.next/\aE P ρ h w (Instr.mapEntry t m' k') v h':=by
 unfold mZ at hr
 split at hr
 ·rename_i kt e b hu
  split at hr
  ·rename_i es ck hak hb
   obtain⟨rfl,hp,hck⟩:=jr hk hak
   obtain⟨kd,hkd⟩:=ly hck
   cases hm with
   |sc _ hs=>simp[simple] at hs
   |map _ L hL=>
    obtain⟨es',h1,h2,hE⟩:=ez (P:=P) hh hb hL
    split at hr
    ·rename_i j v hf
     obtain⟨r',h3,v',rfl,hv⟩:=ek hp hE hf hkd
     split at hr
     ·rename_i e0 he0
      split at hr
      ·rename_i hsb
       cases hr
       rw[fF] at he0
       have hkeep:=zA (P:=P) (w:=w) (k:=k') hsb hE he0
       obtain⟨e0',he0',hER⟩:=hE.get he0
       obtain⟨w',h4,h5,h6⟩:=iU (P:=P) (ck2:=ck) (es2':=es'.modify j fun e=>{e with key:=k'}) hh hb hL (by
        rw[Array.toList_modify];exact sm hp hE)
       refine⟨_,_,rfl,rfl,ρ, .tuple #[v',goInt e0.born],w',?_, .tuple _ _ (.cons _ _ _ _ hv (.one (.sc _ rfl))),h5,h6 _ _⟩
       have hborn:((es'[j]?).map (fun x=>(x.born:Int))).getD 0=(e0.born:Int):=by
        rw[Array.getElem?_toList] at he0'
        simp[he0',hER.2.2]
       simp only[Instr.mapEntry,Sem.run_bind,ab hu,Result.andThen_ok,h2,hck,h3,hkeep,h4,hborn,Sem.run_pure]
      ·cases hr
     ·cases hr
    ·rename_i hf
     obtain⟨r',h3,h3'⟩:=ek hp hE hf hkd
     have h3':r'=none:=h3'
     subst h3'
     split at hr
     ·rename_i i hi
      split at hr
      ·rename_i z hz
       split at hr
       ·rename_i hpz
        cases hr
        obtain⟨w',h4,h5,h6⟩:=iU (P:=P) (ck2:=ck+1) (es2':=es'.push {key:=k',val:=z,born:=ck}) hh hb hL (by
         rw[Array.toList_push];exact hE.append (gL.cons {key:=k',val:=z,born:=ck} _ _ _ ⟨VR.ba hp,VR.ba hpz,rfl⟩ .nil))
        refine⟨_,_,rfl,rfl,ρ, .tuple #[z,goInt ck],w',?_, .tuple _ _ (.cons _ _ _ _ (VR.ba hpz) (.one (.sc _ rfl))),h5,h6 _ _⟩
        simp only[Instr.mapEntry,Sem.run_bind,ab hu,Result.andThen_ok,h2,hck,h3,cY hi hz,h4,Sem.run_pure]
       ·cases hr
      ·cases hr
     ·cases hr
    ·cases hr
  ·cases hr
 ·cases hr
theorem pD{s:Int}: ∀{es es':List MapEntry} {i j:Nat},gL ρ es es'->tZ s es i=some j->i<=j/\es'.findIdx? (fun e=>(e.born:Int)==s)=some (j - i)
 |_,_,i,j, .nil,hb=>by simp[tZ] at hb
 |_,_,i,j, .cons e e' l l' he hl,hb=>by
  simp only[tZ] at hb
  split at hb
  ·rename_i hd
   cases hb
   have:((e'.born:Int)==s)=true:=by rw[he.2.2];simpa using hd
   simp[List.findIdx?_cons,this]
  ·rename_i hd
   obtain⟨h1,h2⟩:=pD hl hb
   have:((e'.born:Int)==s)=false:=by rw[he.2.2];simpa using hd
   refine⟨by omega,?_⟩
   rw[List.findIdx?_cons,this]
   simp only[Bool.false_eq_true,if_false,h2,Option.map_some]
   congr 1
   omega
theorem uS{t:TypeId}{m m' s s' x x':Value}{r:bW}(hh:aI ρ h.heap.get w)(hm:VR ρ m m')(hs:VR ρ s s')(hx:VR ρ x x')(hr:jL h m s x=some r): ∃h',r= .skip h'/\h'.next=h.next/\qt P ρ h w (Instr.entryStore t m' s' x') h':=by
 unfold jL at hr
 split at hr
 ·rename_i b k s
  split at hr
  ·rename_i es ck hb
   split at hr
   ·rename_i i hi
    cases hr
    cases hs
    cases hm with
    |sc _ hs=>simp[simple] at hs
    |map _ L hL=>
     obtain⟨es',h1,h2,hE⟩:=ez (P:=P) hh hb hL
     obtain⟨_,hfi⟩:=pD hE hi
     obtain⟨w',h4,h5,h6⟩:=iU (P:=P) (ck2:=ck) (es2':=es'.modify i fun e=>{e with val:=x'}) hh hb hL (by
      rw[Array.toList_modify];exact oH hx hE)
     refine⟨_,rfl,rfl,ρ,w',?_,h5,h6 _ _⟩
     have hfi':es'.findIdx? (fun e=>(e.born:Int)==s)=some i:=by
      obtain⟨l⟩:=es'
      simpa using hfi
     have has:(asInt (.int k s)).run P w= .ok s w:=rfl
     simp only[Instr.entryStore,Sem.run_bind,h2,Result.andThen_ok,has,hfi',h4]
   ·cases hr
  ·cases hr
 ·cases hr
theorem FP{t:TypeId}{x x':Value}{r:bW}(hh:aI ρ h.heap.get w)(hf:bC ρ h.next (r.next h))(hx:VR ρ x x')(hr:xM P h t x=some r): ∃v h',r= .val v h'/\aE P ρ h w (Instr.range t x') v h':=by
 unfold xM at hr
 split at hr
 ·rename_i s hu
  cases hr
  cases hx
  exact⟨_,_,rfl,aE.new (x:= .stringIter s 0) (δ:=0) (ψ:=0) hh hf (by simp[Instr.range,ab hu]) ⟨rfl,rfl,rfl⟩ (VR.sY _ _ _ rfl)⟩
 ·rename_i k e hu
  cases hr
  cases hx
  exact⟨_,_,rfl,aE.new (x:= .mapIter none 0 #[] 0) (δ:=0) (ψ:=0) hh hf (by simp[Instr.range,ab hu]) ⟨rfl,rfl,rfl,rfl,rfl⟩ (VR.sY _ _ _ rfl)⟩
 ·rename_i k e b hu
  split at hr
  ·rename_i es ck hb
   cases hr
   cases hx with
   |sc _ hs=>simp[simple] at hs
   |map _ L hL=>
    obtain⟨es',h1,h2,hE⟩:=ez (P:=P) hh hb hL
    have hn:ρ h.next=none:=hf _ (Nat.le_refl _) (Nat.lt_succ_self _)
    exact⟨_,_,rfl,aE.new (x:= .mapIter (some L.φ) ck #[] ck) (δ:=0) (ψ:=0) hh hf (by simp[Instr.range,ab hu,h2]) ⟨⟨L,aU.iE _ hn _ _ hL,rfl⟩,rfl,rfl,rfl,rfl⟩ (VR.sY _ _ _ rfl)⟩
  ·cases hr
 ·cases hr
theorem iW{n:Nat}: ∀{l:List Nat},kh n l=true↔n∈l
 |[]=>by simp[kh]
 |m::l=>by
  simp only[kh]
  split
  ·rename_i h;have:=Nat.eq_of_beq_eq_true h;simp[this]
  ·rename_i h
   have:n≠m:=by rintro rfl;simp at h
   rw[iW];simp[this]
theorem qF{seen:List Nat}{seen':Array Nat}(hs:seen'.toList=seen.reverse): ∀{es es':List MapEntry},gL ρ es es'->gL ρ (vY seen es) (es'.filter fun e=> !seen'.contains e.born)
 |_,_, .nil=>by simpa[vY] using gL.nil
 |_,_, .cons e e' l l' he hl=>by
  have ih:=qF hs hl
  have hc:seen'.contains e'.born=kh e.born seen:=by
   rw[Bool.eq_iff_iff,iW,Array.contains_iff_mem,←Array.mem_toList_iff,hs,List.mem_reverse,he.2.2]
  simp only[vY]
  split
  ·rename_i h
   rw[List.filter_cons,if_neg (by rw[hc,h];decide)];exact ih
  ·rename_i h
   rw[List.filter_cons,if_pos (by rw[hc,h];rfl)];exact .cons _ _ _ _ he ih
end
section
variable{P:Program}{ρ:aU}{w:World}{h:Hs}
theorem im{b:Nat}{L:Loc}{o:aa}(hh:aI ρ h.heap.get w)(hb:h.heap.get b=some o)(hL:ρ b=some L)(hn: ∀k,o≠ .ax k):
 ∃x,w.heap[L.φ]? =some x/\OR ρ L o x/\(getObj L.φ).run P w= .ok x w:=by
 obtain⟨L0,x,hL0,hx0,hR⟩:=hh.obj _ _ hb
 rw[hL] at hL0;cases hL0
 refine⟨x,hx0,hR,?_⟩
 cases o<;>cases x<;>simp only[OR] at hR<;>first|exact hR.elim|exact(hn _ rfl).elim|simp only[getObj,Sem.run,hx0]
theorem kJ{b:Nat}{L:Loc}{o o2:aa}{x x2:Obj}(hh:aI ρ h.heap.get w)(hb:h.heap.get b=some o)(ho:o.owned=true)(hL:ρ b=some L)(hx:w.heap[L.φ]? =some x)(hc: ∀c e f,x≠ .cells c e f)(hR:OR ρ L o2 x2):
 ∃w',(setObj L.φ x2).run P w= .ok () w'/\aI ρ (h.heap.set b o2).get w'/\ ∀lo hi,Step ρ h.heap.get w ρ (h.heap.set b o2).get w' lo hi:=by
 obtain⟨w',hr,hu⟩:=nL (P:=P) (o:=x2) hx hc
 exact⟨w',hr,hh.nw hb ho hL hu hR (fun j=>T.aL _ _ _ _),fun lo hi=>Step.nw hb ho hL hu (fun j=>T.aL _ _ _ _) lo hi⟩
theorem VR.Nd{b:Nat}{x:Value}(hx:VR ρ (.pointer (some ⟨b,0,none⟩)) x): ∃L,ρ b=some L/\x= .pointer (some ⟨L.φ,L.δ+0,none⟩):=by
 cases hx with
 |sc _ hs=>simp[AV.simple] at hs
 |ptr _ _ L hL=>exact⟨L,hL,rfl⟩
theorem Ju{t:TypeId}{x x':Value}{st:Bool}{r:bW}(hh:aI ρ h.heap.get w)(hx:VR ρ x x')(hr:Da h x st=some r): ∃v h',r= .val v h'/\h'.next=h.next/\aE P ρ h w (Instr.next x' st t) v h':=by
 unfold Da at hr
 split at hr
 ·rename_i b
  obtain⟨L,hL,rfl⟩:=hx.Nd
  split at hr
  ·
   rename_i s pos hb
   obtain⟨y,hy,hR,hg⟩:=im (P:=P) hh hb hL (fun k h=>by cases h)
   cases y<;>simp only[OR] at hR<;>first|exact hR.elim|skip
   obtain⟨rfl,rfl,hδ⟩:=hR
   rename_i s pos
   rw[hδ]
   split at hr
   ·rename_i hlt
    have hlt':pos<s.size:=by simpa[Nat.blt_eq] using hlt
    split at hr
    rename_i c wd hdec
    cases hr
    obtain⟨w',h1,h2,h3⟩:=kJ (P:=P) (o2:= .oE s (pos+wd)) (x2:= .stringIter s (pos+wd)) hh hb rfl hL hy (fun _ _ _ h=>by cases h) ⟨rfl,rfl,hδ⟩
    refine⟨_,_,rfl,rfl,ρ, .tuple #[.bool true,goInt pos, .int .i32 c],w',?_, .tuple _ _ (.cons _ _ _ _ (.sc _ rfl) (.cons _ _ _ _ (.sc _ rfl) (.one (.sc _ rfl)))),h2,h3 _ _⟩
    simp only[Instr.next,Nat.add_zero,Sem.run_bind,hg,Result.andThen_ok,if_pos hlt',hdec,h1,Sem.run_pure]
   ·rename_i hlt
    have hlt': ¬pos<s.size:=fun hc=>by rw[show pos.blt s.size=true by rw[Nat.blt_eq];exact hc] at hlt;cases hlt
    cases hr
    refine⟨_,_,rfl,rfl,aE.pure hh (v':= .tuple #[.bool false]) ?_ (.tuple _ _ (.one (.sc _ rfl)))⟩
    simp only[Instr.next,Nat.add_zero,Sem.run_bind,hg,Result.andThen_ok,if_neg hlt',Sem.run_pure]
  ·
   rename_i since seen last hb
   obtain⟨y,hy,hR,hg⟩:=im (P:=P) hh hb hL (fun k h=>by cases h)
   cases y<;>simp only[OR] at hR<;>first|exact hR.elim|skip
   obtain⟨rfl,rfl,hs,rfl,hδ⟩:=hR
   cases hr
   rw[hδ]
   refine⟨_,_,rfl,rfl,aE.pure hh (v':= .tuple #[.bool false]) ?_ (.tuple _ _ (.one (.sc _ rfl)))⟩
   simp only[Instr.next,Nat.add_zero,Sem.run_bind,hg,Result.andThen_ok,Sem.run_pure]
  ·
   rename_i m since seen last hb
   obtain⟨y,hy,hR,hg⟩:=im (P:=P) hh hb hL (fun k h=>by cases h)
   cases y<;>simp only[OR] at hR<;>first|exact hR.elim|skip
   rename_i m' since' seen' last'
   obtain⟨⟨Lm,hLm,rfl⟩,rfl,hs,rfl,hδ⟩:=hR
   rw[hδ]
   split at hr
   ·rename_i es ck hm
    obtain⟨es',h1,h2,hE⟩:=ez (P:=P) hh hm hLm
    have hleft:=qF hs hE
    have hfil:(es'.filter fun e=> !seen'.contains e.born).toList=es'.toList.filter fun e=> !seen'.contains e.born:=by simp
    split at hr
    ·
     rename_i hl
     rw[hl] at hleft
     have hnil:(es'.filter fun e=> !seen'.contains e.born)= #[]:=by
      apply Array.ext'
      rw[hfil]
      generalize (es'.toList.filter fun e=> !seen'.contains e.born)=l at hleft
      cases hleft;rfl
     have hgo:r= .val (.tuple #[.bool false]) h/\(!seen'.isEmpty && !es'.isEmpty && es'.all fun x=>decide (x.born>=last'))=false:=by
      split at hr
      ·cases hr
       have:seen'= #[]:=by apply Array.ext';rw[hs];rfl
       exact⟨rfl,by simp[this]⟩
      ·split at hr
       ·rename_i e l hlt
        cases hr
        cases hE':es'.toList with
        |nil=>rw[hE'] at hE;cases hE
        |cons e' l'=>
         rw[hE'] at hE
         cases hE with
         |cons _ _ _ _ he _=>
          have hb1:e'.born<last':=by rw[he.2.2];rw[Nat.blt_eq] at hlt;exact hlt
          have hall:(es'.all fun x=>decide (x.born>=last'))=false:=by
           rw[←Array.all_toList,hE',List.all_cons]
           simp;omega
          exact⟨rfl,by rw[hall];simp⟩
       ·cases hr
      ·cases hr
       have:es'= #[]:=by apply Array.ext';cases hE':es'.toList with|nil=>rfl|cons _ _=>(rw[hE'] at hE;cases hE)
       exact⟨rfl,by simp[this]⟩
     obtain⟨rfl,hg2⟩:=hgo
     refine⟨_,_,rfl,rfl,aE.pure hh (v':= .tuple #[.bool false]) ?_ (.tuple _ _ (.one (.sc _ rfl)))⟩
     simp only[Instr.next,Nat.add_zero,Sem.run_bind,hg,Result.andThen_ok,h2,hg2,Bool.false_eq_true,if_false,hnil]
     simp[choose,Sem.run,Question.forced]
    ·
     rename_i e hl
     rw[hl] at hleft
     split at hr
     ·rename_i hlt
      cases hr
      have hone: ∃e',(es'.filter fun e=> !seen'.contains e.born)= #[e']/\ER ρ e e':=by
       have: ∃e',(es'.filter fun e=> !seen'.contains e.born).toList=[e']/\ER ρ e e':=by
        rw[hfil]
        generalize (es'.toList.filter fun e=> !seen'.contains e.born)=l at hleft
        cases hleft with
        |cons _ e' _ l he hl=>cases hl;exact⟨e',rfl,he⟩
       obtain⟨e',h3,h4⟩:=this
       exact⟨e',Array.ext' (by rw[h3]),h4⟩
      obtain⟨e',ho,he⟩:=hone
      have hseen:seen'= #[]:=by apply Array.ext';rw[hs];rfl
      subst hseen
      have hb1:e'.born<since':=by rw[he.2.2];rw[Nat.blt_eq] at hlt;exact hlt
      obtain⟨w',h4,h5,h6⟩:=kJ (P:=P) (o2:= .dw (some m) since' [e.born] ck) (x2:= .mapIter (some Lm.φ) since' #[e'.born] ck) hh hb rfl hL hy (fun _ _ _ h=>by cases h) ⟨⟨Lm,hLm,rfl⟩,rfl,by simp[he.2.2],rfl,hδ⟩
      refine⟨_,_,rfl,rfl,ρ, .tuple #[.bool true,e'.key,e'.val],w',?_, .tuple _ _ (.cons _ _ _ _ (.sc _ rfl) (.cons _ _ _ _ he.1 (.one he.2.1))),h5,h6 _ _⟩
      have hf1:(#[e']:Array MapEntry).filter (fun x=>decide (x.born<since'))= #[e']:=by simp[hb1]
      have hf2:(#[e']:Array MapEntry).filter (fun x=>decide (x.born>=since'))= #[]:=by simp;omega
      simp only[Instr.next,Nat.add_zero,Sem.run_bind,hg,Result.andThen_ok,h2,Array.isEmpty_empty,Bool.not_true,Bool.false_and,Bool.false_eq_true,if_false,ho,hf1,hf2]
      simp[choose,Sem.run,Question.forced,h4]
     ·cases hr
    ·cases hr
   ·cases hr
  ·cases hr
 ·cases hr
theorem ml{st:Nat}: ∀{es es':List MapEntry} {e:MapEntry},gL ρ es es'->eY st es=some e-> ∃e',es'.find? (·.born==st)=some e'/\ER ρ e e'
 |_,_,e, .nil,hb=>by simp[eY] at hb
 |_,_,e, .cons a a' l l' ha hl,hb=>by
  simp only[eY] at hb
  split at hb
  ·rename_i hd
   cases hb
   have:(a'.born==st)=true:=by rw[ha.2.2,Nat.eq_of_beq_eq_true hd];simp
   exact⟨a',by rw[List.find?_cons,this],ha⟩
  ·rename_i hd
   obtain⟨e',h1,h2⟩:=ml hl hb
   have:(a'.born==st)=false:=by rw[ha.2.2];have:=Nat.ne_of_beq_eq_false hd;simpa using this
   exact⟨e',by rw[List.find?_cons,this];exact h1,h2⟩
theorem Hb{x x':Value}{r:bW}(hh:aI ρ h.heap.get w)(hx:VR ρ x x')(hr:uj h x=some r): ∃v,r= .val v h/\aE P ρ h w (Instr.entry x') v h:=by
 unfold uj at hr
 split at hr
 ·rename_i b
  obtain⟨L,hL,rfl⟩:=hx.Nd
  split at hr
  ·rename_i m since st seen stepped hb
   obtain⟨y,hy,hR,hg⟩:=im (P:=P) hh hb hL (fun k h=>by cases h)
   cases y<;>simp only[OR] at hR<;>first|exact hR.elim|skip
   rename_i m' since' seen' last'
   obtain⟨⟨Lm,hLm,rfl⟩,rfl,hs,rfl,hδ⟩:=hR
   rw[hδ]
   split at hr
   ·rename_i es ck hm
    obtain⟨es',h1,h2,hE⟩:=ez (P:=P) hh hm hLm
    split at hr
    ·rename_i e hck hfb
     cases hr
     obtain⟨e',h3,h4⟩:=ml hE hfb
     have hck':=Nat.eq_of_beq_eq_true hck
     have hback:seen'.back? =some st:=by
      have:seen'.toList.getLast? =some st:=by rw[hs];simp
      simpa using this
     have hfind:es'.find? (·.born==st)=some e':=by
      obtain⟨l⟩:=es'
      simpa using h3
     refine⟨_,rfl,aE.pure hh (v':= .tuple #[e'.key,e'.val]) ?_ (.tuple _ _ (.cons _ _ _ _ h4.1 (.one h4.2.1)))⟩
     have hne:(ck !=last')=false:=by simp[hck']
     simp only[Instr.entry,Nat.add_zero,Sem.run_bind,hg,Result.andThen_ok,hback,h2,hne,Bool.false_eq_true,if_false,hfind,Sem.run_pure]
    ·cases hr
   ·cases hr
  ·cases hr
 ·cases hr
theorem Em{ats:List TypeId}{m m' k k':Value}{ty:TypeId}{r:bW}(hm:VR ρ m m')(hk:VR ρ k k')(hh:aI ρ h.heap.get w)(hr:bu P h .delete ats [m,k]=some r):
 ∃v h',r= .val v h'/\h'.next=h.next/\aE P ρ h w (Builtin.delete_ ⟨ats⟩ ty #[m',k']) v h':=by
 simp only[bu] at hr
 split at hr
 ·rename_i t _
  split at hr
  ·rename_i kt e hu
   split at hr
   ·rename_i hak
    cases hr
    obtain⟨rfl,hp,hck⟩:=jr hk hak
    cases hm
    refine⟨_,_,rfl,rfl,aE.pure hh (v':= .tuple #[]) ?_ (.tuple _ _ .nil)⟩
    simp[Builtin.delete_,ab hu,hck]
   ·cases hr
  ·rename_i kt e b hu0
   have hu:=hu0
   split at hr
   ·rename_i es ck hak hb
    obtain⟨rfl,hp,hck⟩:=jr hk hak
    obtain⟨kd,hkd⟩:=ly hck
    cases hm with
    |sc _ hs=>simp[simple] at hs
    |map _ L hL=>
     obtain⟨es',h1,h2,hE⟩:=ez (P:=P) hh hb hL
     split at hr
     ·rename_i j v hf
      cases hr
      obtain⟨r',h3,v',rfl,hv⟩:=ek hp hE hf hkd
      obtain⟨w',h4,h5,h6⟩:=iU (P:=P) (ck2:=ck) (es2':=es'.eraseIdxIfInBounds j) hh hb hL (by
       rw[Array.toList_eraseIdxIfInBounds];exact pr hE)
      refine⟨_,_,rfl,rfl,ρ, .tuple #[],w',?_, .tuple _ _ .nil,h5,h6 _ _⟩
      simp[Builtin.delete_,ab hu,h2,hck,h3,h4]
     ·rename_i hf
      cases hr
      obtain⟨r',h3,h3'⟩:=ek hp hE hf hkd
      have h3':r'=none:=h3'
      subst h3'
      obtain⟨w',h4,hu⟩:=nL (P:=P) (o:= .map es' ck) h1 (fun _ _ _ h=>by cases h)
      have hsame: ∀j,h.heap.get j=if j=b then some (aa.map es ck) else h.heap.get j:=fun j=>by
       split
       ·rename_i he;subst he;exact hb
       ·rfl
      have hup:=hh.nw (H':=h.heap.get) hb rfl hL hu (show OR ρ L (.map es ck) (.map es' ck) from⟨hE,rfl⟩) hsame
      have hst:=fun lo hi=>Step.nw (lo:=lo) (hi:=hi) (H':=h.heap.get) hb (o:= .map es ck) (o':= .map es ck) rfl hL hu hsame
      refine⟨_,_,rfl,rfl,ρ, .tuple #[],w',?_, .tuple _ _ .nil,hup,hst _ _⟩
      simp[Builtin.delete_,ab hu0,h2,hck,h3,h4]
     ·cases hr
   ·cases hr
  ·cases hr
 ·cases hr
end
section
variable{P:Program}{ρ:aU}{w:World}{h:Hs}
theorem dH.Cx{s:Sem Value}{r:bW}(hv: ∃v h',r= .val v h'/\aE P ρ h w s v h'):dH P ρ h w (do pure (.value (←s))) r:=by
 obtain⟨v,h',rfl,hv⟩:=hv
 exact dH.sS hv
theorem dH.oU{s:Sem Value}{r:bW}(hv: ∃v,r= .val v h/\aE P ρ h w s v h):dH P ρ h w (do pure (.value (←s))) r:=by
 obtain⟨v,rfl,hv⟩:=hv
 exact dH.sS hv
theorem dH.DH{s:Sem Value}{r:bW}(hv: ∃v h',r= .val v h'/\h'.next=h.next/\aE P ρ h w s v h'):dH P ρ h w (do pure (.value (←s))) r:=by
 obtain⟨v,h',rfl,_,hv⟩:=hv
 exact dH.sS hv
theorem dH.Wx{s:Sem Unit}{r:bW}(hv: ∃h',r= .skip h'/\qt P ρ h w s h'):dH P ρ h w (do s;pure .skip) r:=by
 obtain⟨h',rfl,hv⟩:=hv
 exact dH.F4 hv
theorem dH.Qd{s:Sem Unit}{r:bW}(hv: ∃h',r= .skip h'/\h'.next=h.next/\qt P ρ h w s h'):dH P ρ h w (do s;pure .skip) r:=by
 obtain⟨h',rfl,_,hv⟩:=hv
 exact dH.F4 hv
theorem BK{b:Builtin}{ats:List TypeId}{l l':List Value}{ty:TypeId}{consts:Array Bool}{r:bW}(hl:cU ρ l l')(hh:aI ρ h.heap.get w)(hf:bC ρ h.next (r.next h))(hr:bu P h b ats l=some r):
 dH P ρ h w (builtin b ⟨ats⟩ ty consts ⟨l'⟩) r:=by
 cases b with
 |min=>exact .Cx (vA (ats:=⟨ats⟩) (ty:=ty) hl hh (.inl ⟨rfl,hr⟩))
 |max=>exact .Cx (vA (ats:=⟨ats⟩) (ty:=ty) hl hh (.inr ⟨rfl,hr⟩))
 |_=>
  cases hl with
  |nil=>simp[bu] at hr
  |cons x x' t t' hx ht=>
   cases ht with
   |nil=>
    first
     |(simp only[bu,reduceCtorEq] at hr;done)
     |exact .Cx (GG hx hh hr)
     |exact .Cx (Ho hx hh hr)
     |exact .Cx (tS hx hh hr)
     |exact .Cx (Fo hx hh hr)
     |exact .oU (GG hx hh hr)
     |exact .oU (Ho hx hh hr)
     |exact .oU (tS hx hh hr)
     |exact .oU (Fo hx hh hr)
     |exact .DH (tS hx hh hr)
   |cons y y' u u' hy hu=>
    cases hu with
    |nil=>
     first
      |(simp only[bu,reduceCtorEq] at hr;done)
      |exact .Cx (EG hx hy hh hf hr)
      |exact .Cx (CV hx hy hh hr)
      |exact .DH (CV hx hy hh hr)
      |exact .DH (Em hx hy hh hr)
      |exact .Cx (Lr hx hy hh hr)
      |exact .DH (Lr hx hy hh hr)
    |cons _ _ _ _ _ _=>simp[bu] at hr
theorem rK{tm:Tm}{n:Nat}{a:Act}(ht:TR ρ tm n a.tmps){xs:Array Operand}{vs:List Value}(hv:we tm xs.toList=some vs): ∃vs',xs.map a.eval=⟨vs'⟩/\cU ρ vs vs':=by
 refine⟨(xs.map a.eval).toList,rfl,?_⟩
 rw[Array.toList_map]
 exact wc ht hv
theorem KC{tm:Tm}{n:Nat}{a:Act}(ht:TR ρ tm n a.tmps){c:Call}{ty:TypeId}{r:bW}(hh:aI ρ h.heap.get w)(hf:bC ρ h.next (r.next h))(hr:jM P tm h c=some r):
 dH P ρ h w (do let d←resolve a.eval c ty;invoke d.target d.args) r:=by
 unfold jM at hr
 split at hr
 ·rename_i args hargs
  obtain⟨args',hargs',hR⟩:=rK ht hargs
  split at hr
  ·rename_i b hcal
   have hb:=fun consts=>BK (ty:=ty) (consts:=consts) hR hh hf hr
   simp only[resolve,hcal,hargs',pure_bind,invoke]
   exact hb _
  ·rename_i f hcal
   split at hr
   ·rename_i f0 first captured hev
    have hfv:=aJ ht hev
    cases hfv':a.eval f with
    |func g fi ca=>
     rw[hfv'] at hfv
     cases hfv with
     |sc _ hs=>simp[AV.simple] at hs
     |fn _ _ fi' _ ca' h1 h2=>
      have hall:=(h1.append hR).append h2
      have hres:(do let d←resolve a.eval c ty;invoke d.target d.args)=callFunc f0 ⟨(fi'++args')++ca'⟩:=by
       simp[resolve,hcal,hfv',Deferred.ofValue,invoke,hargs']
      rw[hres]
      split at hr
      ·rename_i fn hfn
       split at hr
       ·rename_i body hbody
        split at hr
        ·cases hr
        ·rename_i hname
         cases hr
         have hname': ¬fn.name= "runtime.NumGoroutine" :=by simpa using hname
         refine⟨_,?_,hall⟩
         simp[callFunc,hfn,hname',hbody]
       ·rename_i hbody
        exact Eg hfn hbody hall hh hf hr
      ·cases hr
    |_=>rw[hfv'] at hfv;cases hfv
   ·rename_i l first cap hev
    cases hr
    have hfv:=aJ ht hev
    generalize hfv':a.eval f=fv at hfv
    cases hfv with
    |sc _ hs=>simp[AV.simple] at hs
    |yield _ L _ fi' hL h1=>
     refine⟨L,_,hL,?_,h1.append hR⟩
     simp[resolve,hcal,hfv',Deferred.ofValue,invoke,hargs']
   ·cases hr
  ·cases hr
 ·cases hr
theorem Hg{tm:Tm}{n:Nat}{a:Act}(ht:TR ρ tm n a.tmps){c:Call}{ty:TypeId}{r:bW}(hr:qp tm c=some r):
 dH P ρ h w (do pure (.defer (←resolve a.eval c ty))) r:=by
 unfold qp at hr
 split at hr
 ·rename_i args hargs
  obtain⟨args',hargs',hR⟩:=rK ht hargs
  split at hr
  ·rename_i f hcal
   split at hr
   ·rename_i f0 first captured hev
    cases hr
    have hfv:=aJ ht hev
    generalize hfv':a.eval f=fv at hfv
    cases hfv with
    |sc _ hs=>simp[AV.simple] at hs
    |fn _ _ fi' _ ca' h1 h2=>
     refine⟨_,?_,_,_,rfl,h1.append hR,h2⟩
     simp[resolve,hcal,hfv',Deferred.ofValue,hargs']
   ·cases hr
  ·cases hr
 ·cases hr
theorem cQ{f:Value->Option bW}{a:Option Value}{r:bW}(hr:gR f a=some r): ∃v,a=some v/\f v=some r:=by
 unfold gR at hr
 split at hr
 ·exact⟨_,rfl,hr⟩
 ·cases hr
theorem gO{f:Value->Value->Option bW}{a b:Option Value}{r:bW}(hr:jx f a b=some r): ∃v u,a=some v/\b=some u/\f v u=some r:=by
 unfold jx at hr
 split at hr
 ·exact⟨_,_,rfl,rfl,hr⟩
 ·cases hr
theorem qd{f:Value->Value->Value->Option bW}{a b c:Option Value}{r:bW}(hr:A6 f a b c=some r): ∃v u x,a=some v/\b=some u/\c=some x/\f v u x=some r:=by
 unfold A6 at hr
 split at hr
 ·exact⟨_,_,_,rfl,rfl,rfl,hr⟩
 ·cases hr
theorem iZ{tm:Tm}{n:Nat}{a:Act}(ht:TR ρ tm n a.tmps){o:Oper}{r:bW}(hh:aI ρ h.heap.get w)(hf:bC ρ h.next (r.next h))(hr:dF P tm h o=some r):
 dH P ρ h w (execOp a.eval o) r:=by
 unfold dF at hr
 unfold execOp
 cases ho:o.op with
 |move x=>
  rw[ho] at hr
  obtain⟨v,h1,h2⟩:=cQ hr
  cases h2
  exact⟨ρ,_,w,rfl,aJ ht h1,hh,Step.refl _ _ _ _ _⟩
 |assign x=>
  rw[ho] at hr
  obtain⟨v,h1,h2⟩:=cQ hr
  cases h2
  exact⟨ρ,_,w,rfl,aJ ht h1,hh,Step.refl _ _ _ _ _⟩
 |pick c x y=>
  rw[ho] at hr
  dsimp only at hr ⊢
  split at hr
  ·rename_i hc
   have hcv:=aJ ht hc
   generalize hce:a.eval c=cv at hcv
   cases hcv
   obtain⟨v,h1,h2⟩:=cQ hr
   cases h2
   exact⟨ρ,_,w,by simp[asBool],aJ ht h1,hh,Step.refl _ _ _ _ _⟩
  ·rename_i hc
   have hcv:=aJ ht hc
   generalize hce:a.eval c=cv at hcv
   cases hcv
   obtain⟨v,h1,h2⟩:=cQ hr
   cases h2
   exact⟨ρ,_,w,by simp[asBool],aJ ht h1,hh,Step.refl _ _ _ _ _⟩
  ·cases hr
 |alloc e=>
  rw[ho] at hr
  dsimp only at hr
  split at hr
  ·rename_i i hi
   split at hr
   ·rename_i z hz
    split at hr
    ·rename_i hp
     cases hr
     exact .sS (Ib hh hf hi hz hp)
    ·cases hr
   ·cases hr
  ·cases hr
 |box e x=>
  rw[ho] at hr
  obtain⟨v,h1,h2⟩:=cQ hr
  cases h2
  exact .sS (On hh hf (aJ ht h1))
 |build t parts=>rw[ho] at hr;exact .oU (H4 ht hh hr)
 |buildSlice t len parts=>rw[ho] at hr;exact .Cx (uW ht hh hf hr)
 |load t x=>
  rw[ho] at hr
  obtain⟨v,h1,h2⟩:=cQ hr
  exact .oU (J9 hh (aJ ht h1) h2)
 |store t x y=>
  rw[ho] at hr
  obtain⟨v,u,h1,h2,h3⟩:=gO hr
  exact .Qd (Fs hh (aJ ht h1) (aJ ht h2) h3)
 |nilCheck x=>
  rw[ho] at hr
  obtain⟨v,h1,h2⟩:=cQ hr
  obtain⟨u,rfl,h4,h5⟩:=yQ (aJ ht h1) h2
  refine⟨ρ,a.eval x,w,?_,h4,hh,Step.refl _ _ _ _ _⟩
  rcases h5 with ⟨b,h5⟩|⟨f,b,c,h5⟩|⟨f,b,c,h5⟩<;>simp[h5]
 |binOp op xt x y yt=>
  rw[ho] at hr
  obtain⟨v,u,h1,h2,h3⟩:=gO hr
  split at h3
  ·rename_i v hv
   cases h3
   exact .sS (H6 hh (aJ ht h1) (aJ ht h2) hv)
  ·cases h3
 |unOp op xt x=>
  rw[ho] at hr
  obtain⟨v,h1,h2⟩:=cQ hr
  exact .oU (Fp hh (aJ ht h1) h2)
 |convert s d x=>
  rw[ho] at hr
  obtain⟨v,h1,h2⟩:=cQ hr
  exact .Cx (BC (aJ ht h1) hh hf h2)
 |makeFunc fn first captured=>
  rw[ho] at hr
  dsimp only at hr
  split at hr
  ·split at hr
   ·rename_i f c h1 h2
    cases hr
    obtain⟨f',e1,r1⟩:=rK ht h1
    obtain⟨c',e2,r2⟩:=rK ht h2
    exact⟨ρ, .func (.func _) ⟨f'⟩ ⟨c'⟩,w,by simp[Instr.makeFunc,e1,e2], .fn _ _ _ _ _ r1 r2,hh,Step.refl _ _ _ _ _⟩
   ·cases hr
  ·cases hr
 |makeMap t r=>
  rw[ho] at hr
  dsimp only at hr
  split at hr
  ·cases hr
   refine .sS (aE.new (δ:=0) (ψ:=0) (x:= .map #[] 0) (v':= .map (some w.heap.size)) hh hf ?_ ⟨.nil,rfl⟩ (.map _ _ (aU.cE _ _ _)))
   simp[Instr.makeMap]
  ·cases hr
 |makeSlice t l c=>
  rw[ho] at hr
  obtain⟨v,u,h1,h2,h3⟩:=gO hr
  exact .Cx (xc hh (aJ ht h1) (aJ ht h2) hf h3)
 |slice t x lo hi mx=>
  rw[ho] at hr
  obtain⟨v,h1,h2⟩:=cQ hr
  exact .Cx (Fx ht (aJ ht h1) hh hf h2)
 |fieldAddr s x f=>
  rw[ho] at hr
  obtain⟨v,h1,h2⟩:=cQ hr
  exact .oU (xq hh (aJ ht h1) h2)
 |field t x f=>
  rw[ho] at hr
  obtain⟨v,h1,h2⟩:=cQ hr
  exact .oU (G0 hh (aJ ht h1) h2)
 |indexAddr t x i=>
  rw[ho] at hr
  obtain⟨v,u,h1,h2,h3⟩:=gO hr
  exact .oU (xl hh (aJ ht h1) (aJ ht h2) h3)
 |index t x i=>
  rw[ho] at hr
  obtain⟨v,u,h1,h2,h3⟩:=gO hr
  exact .oU (GN hh (aJ ht h1) (aJ ht h2) h3)
 |lookup t m k ok=>
  rw[ho] at hr
  obtain⟨v,u,h1,h2,h3⟩:=gO hr
  exact .oU (D2 hh (aJ ht h1) (aJ ht h2) h3)
 |mapUpdate t m k x=>
  rw[ho] at hr
  obtain⟨v,u,y,h1,h2,h3,h4⟩:=qd hr
  exact .Wx (o6 hh (aJ ht h1) (aJ ht h2) (aJ ht h3) h4)
 |insert t m k x=>
  rw[ho] at hr
  obtain⟨v,u,y,h1,h2,h3,h4⟩:=qd hr
  exact .Wx (o6 hh (aJ ht h1) (aJ ht h2) (aJ ht h3) h4)
 |mapEntry t m k=>
  rw[ho] at hr
  obtain⟨v,u,h1,h2,h3⟩:=gO hr
  exact .DH (yY hh (aJ ht h1) (aJ ht h2) h3)
 |entryStore t m s x=>
  rw[ho] at hr
  obtain⟨v,u,y,h1,h2,h3,h4⟩:=qd hr
  exact .Qd (uS hh (aJ ht h1) (aJ ht h2) (aJ ht h3) h4)
 |range t x=>
  rw[ho] at hr
  obtain⟨v,h1,h2⟩:=cQ hr
  exact .Cx (FP hh hf (aJ ht h1) h2)
 |next it s=>
  rw[ho] at hr
  obtain⟨v,h1,h2⟩:=cQ hr
  exact .DH (Ju hh (aJ ht h1) h2)
 |entry it=>
  rw[ho] at hr
  obtain⟨v,h1,h2⟩:=cQ hr
  exact .oU (Hb hh (aJ ht h1) h2)
 |extract t i=>
  rw[ho] at hr
  obtain⟨v,h1,h2⟩:=cQ hr
  exact .oU (Bw hh (aJ ht h1) h2)
 |call c=>rw[ho] at hr;exact KC ht hh hf hr
 |defer c=>rw[ho] at hr;exact Hg ht hr
 |_=>rw[ho] at hr;cases hr
end
structure Mod(h h':Hs):Prop where
 next:h.next<=h'.next
 log: ∃l,h'.log=l++h.log/\(∀b,b∈l->h.heap.get b≠none\/(h.next<=b/\b<h'.next))/\ ∀b,(b<h.next\/h'.next<=b)->b ∉ l->h'.heap.get b=h.heap.get b
theorem Mod.refl(h:Hs):Mod h h:=⟨Nat.le_refl _,[],rfl,fun _ hb=>(by cases hb),fun _ _ _=>rfl⟩
theorem Mod.trans{a b c:Hs}(h:Mod a b)(k:Mod b c):Mod a c:=by
 obtain⟨l,h1,h3,h2⟩:=h.log
 obtain⟨m,k1,k3,k2⟩:=k.log
 have hn:=h.next
 have kn:=k.next
 refine⟨Nat.le_trans h.next k.next,m++l,by rw[k1,h1,List.append_assoc],fun x hx=>?_,fun x hx hm=>?_⟩
 ·have first:x∈l->a.heap.get x≠none\/(a.next<=x/\x<c.next):=fun hl=>by
   rcases h3 x hl with q|q
   ·exact .inl q
   ·exact .inr (by omega)
  rcases List.mem_append.1 hx with hm|hl
  ·rcases k3 x hm with q|q
   ·by_cases hl:x∈l
    ·exact first hl
    ·by_cases hr:a.next<=x/\x<b.next
     ·exact .inr (by omega)
     ·exact .inl (by rw[←h2 x (by omega) hl];exact q)
   ·exact .inr (by omega)
  ·exact first hl
 ·rw[List.mem_append,not_or] at hm
  rw[k2 x (by omega) hm.1,h2 x (by omega) hm.2]
theorem Mod.new(h:Hs)(o:aa):Mod h (cA h o):=
 ⟨Nat.le_succ _,[],rfl,fun _ hb=>(by cases hb),fun b hb _=>by
   simp only[cA,T.aL] at hb ⊢
   rw[if_neg (by omega)]⟩
theorem Mod.set(h:Hs)(b:Nat)(o:aa){o0:aa}(hb:h.heap.get b=some o0):Mod h {h with heap:=h.heap.set b o,log:=b::h.log}:=
 ⟨Nat.le_refl _,[b],rfl,fun i hi=>by rw[List.mem_singleton.1 hi,hb];exact .inl (by simp),fun i _ hi=>by
   simp only[T.aL]
   rw[if_neg (by simpa using hi)]⟩
theorem Mod.PZ(h:Hs)(b:Nat)(o:aa){o0:aa}(hb:h.heap.get b=some o0):Mod h {heap:=(h.heap.del b).set h.next o,next:=h.next+1,log:=b::h.log}:=
 ⟨Nat.le_succ _,[b],rfl,fun i hi=>by rw[List.mem_singleton.1 hi,hb];exact .inl (by simp),fun i hb hi=>by
   simp only[T.aL,T.fQ] at hb ⊢
   rw[if_neg (by omega),if_neg (by simpa using hi)]⟩
theorem Mod.skip(h:Hs):Mod h {h with next:=h.next+1}:=⟨Nat.le_succ _,[],rfl,fun _ hb=>(by cases hb),fun _ _ _=>rfl⟩
theorem Mod.write{h h':Hs}{b off:Nat}{vs:List Value}(hr:dr h b off vs=some h'):Mod h h':=by
 unfold dr at hr
 repeat' (split at hr)
 all_goals first|(cases hr;exact Mod.set _ _ _ (by assumption))|cases hr
def bW.hs(h:Hs):bW->Hs
 | .val _ h'| .skip h'=>h'
 |_=>h
section
variable{P:Program}{h:Hs}{r:bW}
theorem Ae{ats:List TypeId}{s x:Value}(hr:fp P h ats s x=some r):Mod h (r.hs h):=by
 unfold fp at hr
 repeat' (split at hr)
 all_goals first
  |(cases hr;exact Mod.refl _)
  |(cases hr;exact Mod.new _ _)
  |(cases hr;exact Mod.PZ _ _ _ (by assumption))
  |(cases hr;exact Mod.write (by assumption))
  |cases hr
theorem xP{b:Builtin}{ats:List TypeId}{l:List Value}(hr:bu P h b ats l=some r):Mod h (r.hs h):=by
 unfold bu at hr
 split at hr
 ·exact Ae hr
 all_goals
  repeat' (split at hr)
  all_goals first
   |(cases hr;exact Mod.refl _)
   |(cases hr;exact Mod.set _ _ _ (by assumption))
   |(cases hr;exact Mod.write (by assumption))
   |cases hr
theorem xO{s d:TypeId}{x:Value}(hr:mB P h s d x=some r):Mod h (r.hs h):=by
 unfold mB at hr
 repeat' (split at hr)
 all_goals first
  |(cases hr;exact Mod.refl _)
  |(cases hr;exact Mod.new _ _)
  |cases hr
theorem Ad{fn:Func}{args:List Value}(hr:pJ P h fn args=some r):Mod h (r.hs h):=by
 unfold pJ at hr
 repeat' (split at hr)
 all_goals first
  |(cases hr;exact Mod.refl _)
  |(cases hr;exact Mod.new _ _)
  |cases hr
theorem EJ{tm:Tm}{c:Call}(hr:jM P tm h c=some r):Mod h (r.hs h):=by
 unfold jM at hr
 repeat' (split at hr)
 all_goals first
  |exact xP hr
  |exact Ad hr
  |(cases hr;exact Mod.refl _)
  |cases hr
theorem xN{tm:Tm}{size:Nat}{a:Option Addr}{len cap:Nat}{lo hi mx:Option Operand}(hr:gn h tm size a len cap lo hi mx=some r):Mod h (r.hs h):=by
 unfold gn at hr
 repeat' (split at hr)
 all_goals first
  |(cases hr;exact Mod.refl _)
  |(cases hr;exact Mod.skip _)
  |(cases hr;exact Mod.PZ _ _ _ (by assumption))
  |cases hr
theorem BP{tm:Tm}{xt:TypeId}{x:Value}{lo hi mx:Option Operand}(hr:lq P tm h xt x lo hi mx=some r):Mod h (r.hs h):=by
 unfold lq at hr
 repeat' (split at hr)
 all_goals first
  |exact xN hr
  |(cases hr;exact Mod.refl _)
  |cases hr
theorem jK{tm:Tm}{o:Oper}(hr:dF P tm h o=some r):Mod h (r.hs h):=by
 unfold dF at hr
 split at hr
 all_goals first
  |exact EJ hr
  |(unfold gR at hr;split at hr;· exact BP hr
    ·cases hr)
  |(unfold gR at hr;split at hr;· exact xO hr
    ·cases hr)
  |skip
 all_goals
  (try unfold gR at hr)
  (try unfold jx at hr)
  (try unfold A6 at hr)
  (try unfold uk at hr)
  (try unfold iA at hr)
  (try unfold uh at hr)
  (try unfold oh at hr)
  (try unfold mY at hr)
  (try unfold xI at hr)
  (try unfold gX at hr)
  (try unfold lz at hr)
  (try unfold xR at hr)
  (try unfold gY at hr)
  (try unfold xQ at hr)
  (try unfold m9 at hr)
  (try unfold gW at hr)
  (try unfold mZ at hr)
  (try unfold jL at hr)
  (try unfold xM at hr)
  (try unfold Da at hr)
  (try unfold uj at hr)
  (try unfold pI at hr)
  (try unfold qp at hr)
  repeat' (first|split at hr|(dsimp only at hr;split at hr))
  all_goals first
   |(cases hr;exact Mod.refl _)
   |(cases hr;exact Mod.new _ _)
   |(cases hr;exact Mod.set _ _ _ (by assumption))
   |(cases hr;exact Mod.write (by assumption))
   |cases hr
end
end Go.AV
namespace Go
def Code.rm(F:Fence)(n:Nat)(P:Program)(b:Code)(Q:Exit->Act->World->Prop):Nat->Code->Act->World->Prop
 |0,_,_,_=>False
 |m+1,cur,a,w=>cur.wpIn F n P (fun e a' w'=>match e with
   | .goto l=>(match findLabel b l with
     |some rest=>Code.rm F n P b Q m rest a' w'
     |none=>Q (.goto l) a' w')
   |e=>Q e a' w') a w
theorem gl{F:Fence}{n:Nat}{P:Program}{c:Code}{Q:Exit->Act->World->Prop}{a:Act}{w:World}(m:Nat)(h:Code.rm F n P c Q m c a w):
 (Code.scope c).wpIn F n P Q a w:=by
 intro b k cs hro hb hr
 have s1: ∀{a w},step P (lone (b.atR a (.code (.scope c)::k)) cs w)= .next (lone (b.atR a (.code c:: .inScope c::k)) cs w):=step_lone_go (by simp[stepG,stepG.exec,Frame.atR])
 have s2: ∀{a w},step P (lone (b.atR a (.inScope c::k)) cs w)= .next (lone (b.atR a k) cs w):=step_lone_go (by simp[stepG,stepG.exec,Frame.atR])
 have key: ∀m cur a w,Code.rm F n P c Q m cur a w->
  ∃e a' w',Q e a' w'/\ArrivesIn (Machine.fenced P F) P (lone (b.atR a (.code cur:: .inScope c::k)) cs w) b k cs e a' w':=by
  intro m
  induction m with
  |zero=>intro cur a w h;exact h.elim
  |succ m ih=>
   intro cur a w h
   obtain⟨e,a₁,w₁,hq,harr⟩:=h b (.inScope c::k) cs hro hb hr
   cases e with
   |normal=>exact⟨.normal,a₁,w₁,hq,StepsIn.trans harr (.one (fenced_calm hb hr rfl) s2)⟩
   |exit id=>
    have hx:exitTo id (.inScope c::k)=exitTo id k:=by simp[exitTo]
    exact⟨.exit id,a₁,w₁,hq,fun k' hk=>harr.1 k' (by rw[hx];exact hk),fun hr' hk=>harr.2 hr' (by rw[hx];exact hk)⟩
   |goto l=>
    cases hf:findLabel c l with
    |some rest=>
     simp only[hf] at hq
     have hg:gotoIn l (.inScope c::k)=some (.code rest:: .inScope c::k):=by simp[gotoIn,hf]
     obtain⟨e₂,a₂,w₂,hq₂,harr₂⟩:=ih _ _ _ hq
     exact⟨e₂,a₂,w₂,hq₂, .of_steps (harr.1 _ hg) harr₂⟩
    |none=>
     simp only[hf] at hq
     have hg:gotoIn l (.inScope c::k)=gotoIn l k:=by simp[gotoIn,hf]
     exact⟨.goto l,a₁,w₁,hq,fun k' hk=>harr.1 k' (by rw[hg];exact hk),fun hr' hk=>harr.2 hr' (by rw[hg];exact hk)⟩
   |ret=>exact⟨_,a₁,w₁,hq,harr⟩
   |panic ch=>exact⟨_,a₁,w₁,hq,harr⟩
   |outgrown=>exact⟨_,a₁,w₁,hq,harr⟩
 obtain⟨e,a',w',hq,harr⟩:=key m c a w h
 exact⟨e,a',w',hq, .of_steps (.one (fenced_calm hb hr rfl) s1) harr⟩
end Go
namespace Go.AV
inductive AM (ρ:aU):List nv->List Deferred->Prop where
 |nil:AM ρ [] []
 |cons (d:nv) (d':Deferred) (l:List nv) (l':List Deferred) (h:DR ρ d d') (k:AM ρ l l'):AM ρ (d::l) (d'::l')
theorem DR.mono{ρ ρ':aU}(hl:ρ.le ρ'){d:nv}{d':Deferred}(h:DR ρ d d'):DR ρ' d d':=by
 cases d with
 |call f args captured=>obtain⟨a,c,h1,h2,h3⟩:=h;exact⟨a,c,h1,h2.mono hl,h3.mono hl⟩
 |mark r=>obtain⟨L,h1,h2⟩:=h;exact⟨L,hl _ _ h1,h2⟩
theorem AM.mono{ρ ρ':aU}(hl:ρ.le ρ'): ∀{l:List nv} {l':List Deferred},AM ρ l l'->AM ρ' l l'
 |_,_, .nil=> .nil
 |_,_, .cons _ _ _ _ h k=> .cons _ _ _ _ (h.mono hl) (k.mono hl)
structure eG(ρ:aU)(fr:Fr)(a:Act):Prop where
 tr:TR ρ fr.tm fr.n a.tmps
 ds:AM ρ fr.fL a.defers
theorem eG.mono{ρ ρ':aU}(hl:ρ.le ρ'){fr:Fr}{a:Act}(h:eG ρ fr a):eG ρ' fr a:=⟨h.tr.mono hl,h.ds.mono hl⟩
theorem p9(tm:Tm)(d:Nat)(v:Value)(t:Nat):rd (tm.set d v) t=if t=d then v else rd tm t:=by
 unfold rd
 rw[T.aL]
 by_cases ht:t=d
 ·rw[if_pos ht,if_pos ht]
 ·rw[if_neg ht,if_neg ht]
theorem TR.put{ρ:aU}{tm:Tm}{n:Nat}{tmps:Array Value}(h:TR ρ tm n tmps){d:Nat}(hd:d<n){v v':Value}(hv:VR ρ v v'):TR ρ (tm.set d v) n (tmps.setIfInBounds d v'):=by
 refine⟨by rw[Array.size_setIfInBounds];exact h.1,fun t=>?_⟩
 rw[p9]
 by_cases ht:t=d
 ·subst ht
  rw[if_pos rfl]
  have:(tmps.setIfInBounds t v').getD t undef=v':=by simp[Array.getD,h.1,hd]
  rw[this];exact .inr hv
 ·rw[if_neg ht]
  have:(tmps.setIfInBounds d v').getD t undef=tmps.getD t undef:=by
   simp only[Array.getD_eq_getD_getElem?]
   rw[Array.getElem?_setIfInBounds_ne (by omega)]
  rw[this];exact h.2 t
theorem Fr.jR{ρ:aU}{fr fr':Fr}{a:Act}(h:eG ρ fr a){d:Option Tmp}{v v':Value}(hv:VR ρ v v')(hp:fr.put d v=some fr'):eG ρ fr' (a.put d v'):=by
 unfold Fr.put at hp
 split at hp
 ·split at hp
  ·rename_i d hd
   cases hp
   exact⟨h.tr.put (by rw[Nat.blt_eq] at hd;exact hd) hv,h.ds⟩
  ·cases hp
 ·cases hp
  exact h
theorem qe{α:Type}: ∀(l:List α)(i:Nat),nth l i=l[i]?
 |[],i=>by simp[nth]
 |a::l,0=>rfl
 |a::l,i+1=>by simp[nth,qe l i]
theorem ja{ρ:aU}{ops:Array Oper}{tm:Tm}{n:Nat}{a:Act}(h:TR ρ tm n a.tmps){o:Oper}{b:Bool}(hw:fO ops tm o=some b):
 Region.wanted o (yielded ops a.tmps)=b:=by
 unfold fO at hw
 unfold Region.wanted
 split at hw
 ·rename_i hg
  cases hw
  simp[hg]
 ·rename_i j want hg
  simp only[hg]
  have hn:nth ops.toList j=ops[j]? :=by rw[qe];simp
  rw[hn] at hw
  unfold yielded
  split at hw
  ·rename_i d hd
   have hd':(ops[j]?).bind (·.dst)=some d:=hd
   rw[hd']
   have hv:=h.2 d
   simp only[Option.bind_some]
   split at hw
   ·rename_i b' hb
    cases hw
    rw[hb] at hv
    replace hv:=hv.vr (fun e=>by cases e)
    generalize hx:a.tmps.getD d undef=x at hv
    cases hv
    have hsome:a.tmps[d]? =some (.bool b'):=by
     rw[Array.getD_eq_getD_getElem?] at hx
     cases he:a.tmps[d]? with
     |none=>rw[he] at hx;simp[undef] at hx
     |some y=>rw[he] at hx;simp at hx;rw[hx]
    rw[hsome]
    cases b'<;>cases want<;>rfl
   ·rename_i b' hb
    cases hw
    rw[hb] at hv
    replace hv:=hv.vr (fun e=>by cases e)
    generalize hx:a.tmps.getD d undef=x at hv
    have hx': ∃l,x= .tuple l:=by
     cases hv with
     |sc _ hs=>simp[AV.simple] at hs
     |tuple _ l _=>exact⟨_,rfl⟩
    obtain⟨l,rfl⟩:=hx'
    rw[Array.getD_eq_getD_getElem?] at hx
    cases he:a.tmps[d]? with
    |none=>simp
    |some y=>rw[he] at hx;simp at hx;subst hx;simp
   ·cases hw
  ·rename_i hd
   cases hw
   have hd':(ops[j]?).bind (·.dst)=none:=hd
   rw[hd']
   simp
def fU:af->Exit
 | .normal=> .normal
 | .exit i=> .exit i
 | .goto l=> .goto l
 | .ret=> .ret
def uG(ρ:aU)(h:Hs)(w:World)(fr':Fr)(h':Hs)(a':Act)(w':World):Prop:=
 ∃ρ',eG ρ' fr' a'/\aI ρ' h'.heap.get w'/\Step ρ h.heap.get w ρ' h'.heap.get w' h.next h'.next
def mF(ρ:aU)(h:Hs)(w:World)(e:af)(fr':Fr)(h':Hs)(e':Exit)(a':Act)(w':World):Prop:=
 e'=fU e/\uG ρ h w fr' h' a' w'
def Ll(ρ:aU)(h:Hs)(w:World)(v:Value)(h':Hs)(e:Ending)(w':World):Prop:=
 ∃ρ' v',e= .returned v'/\VR ρ' v v'/\aI ρ' h'.heap.get w'/\Step ρ h.heap.get w ρ' h'.heap.get w' h.next h'.next
def dv(P:Program)(call:cI):Prop:= ∀f args h v h',call f args h=some (v,h')->Mod h h'/\
 ∀ρ w args' n,cU ρ args args'->aI ρ h.heap.get w->bC ρ h.next h'.next->CallsIn Fence.wide n P f ⟨args'⟩ w (Ll ρ h w v h')
def gF(P:Program)(round:cI):Prop:= ∀l args h v h',round l args h=some (v,h')->Mod h h'/\
 ∀ρ w args' n L,ρ l=some L->cU ρ args args'->aI ρ h.heap.get w->bC ρ h.next h'.next->
  ∃f tmps assign body,(Instr.yield L.φ ⟨args'⟩).run P w= .ok (.round L.φ f tmps assign body) w/\RoundIn Fence.wide n P L.φ f tmps assign body w (Ll ρ h w v h')
def cw(ρ:aU):Option Nat->Fence->Prop
 |none,F=>F=Fence.wide
 |some l,F=> ∃L,ρ l=some L/\F=Fence.wide.inRound L.φ
theorem cw.mono{ρ ρ':aU}(hl:ρ.le ρ'){r:Option Nat}{F:Fence}(h:cw ρ r F):cw ρ' r F:=by
 cases r with
 |none=>exact h
 |some l=>obtain⟨L,a,b⟩:=h;exact⟨L,hl _ _ a,b⟩
theorem cw.fn{ρ:aU}{r:Option Nat}{F:Fence}(h:cw ρ r F)(f:FuncId):F.fn f:=by
 cases r with
 |none=>cases h;trivial
 |some l=>obtain⟨L,a,rfl⟩:=h;trivial
theorem cw.depth{ρ:aU}{r:Option Nat}{F:Fence}(h:cw ρ r F):F.depth=none:=by
 cases r with
 |none=>cases h;rfl
 |some l=>obtain⟨L,a,rfl⟩:=h;rfl
theorem cw.calls{ρ:aU}{r:Option Nat}{F:Fence}(h:cw ρ r F){n:Nat}{P:Program}{f:FuncId}{args:Array Value}{w:World}{R:Ending->World->Prop}(hc:CallsIn Fence.wide n P f args w R):CallsIn F n P f args w R:=by
 cases r with
 |none=>cases h;exact hc
 |some l=>obtain⟨L,a,rfl⟩:=h;exact hc
theorem cw.round{ρ:aU}{r:Option Nat}{F:Fence}(h:cw ρ r F){n:Nat}{P:Program}{l:Nat}{f:FuncId}{tmps:Array Value}{assign body:Code}{w:World}{R:Ending->World->Prop}(hc:RoundIn Fence.wide n P l f tmps assign body w R):RoundIn F n P l f tmps assign body w R:=by
 cases r with
 |none=>cases h;exact hc
 |some l=>obtain⟨L,a,rfl⟩:=h;exact hc
def uA(P:Program)(ex:u5):Prop:= ∀rdd c fr h e fr' h',ex rdd c fr h=some (e,fr',h')->Mod h h'/\
 ∀ρ w a n F,cw ρ rdd F->eG ρ fr a->aI ρ h.heap.get w->bC ρ h.next h'.next->c.wpIn F n P (mF ρ h w e fr' h') a w
theorem bC.sub{ρ:aU}{a b c d:Nat}(h:bC ρ a b)(h1:a<=c)(h2:d<=b):bC ρ c d:=fun x hx hy=>h x (by omega) (by omega)
theorem Step.fresh{ρ ρ':aU}{H H':HF}{w w':World}{lo mid hi:Nat}(h:Step ρ H w ρ' H' w' lo mid)(hf:bC ρ lo hi)(hm:lo<=mid):bC ρ' mid hi:=
 fun b hb hc=>by rw[h.sE b (.inr hb)];exact hf b (by omega) hc
theorem uG.trans{ρ ρ1:aU}{h h1 h2:Hs}{w w1 w2:World}{fr2:Fr}{a2:Act}(hs:Step ρ h.heap.get w ρ1 h1.heap.get w1 h.next h1.next)(h01:h.next<=h1.next)(h12:h1.next<=h2.next)
 (k:uG ρ1 h1 w1 fr2 h2 a2 w2):uG ρ h w fr2 h2 a2 w2:=by
 obtain⟨ρ',a,b,c⟩:=k
 exact⟨ρ',a,b,hs.trans c h01 h12⟩
section
variable{P:Program}
theorem EH{tm:Tm}{h:Hs}{o:Oper}{r:bW}(hr:dF P tm h o=some r){c:Call}(hc:o.op= .defer c): ∃d,r= .fL d:=by
 unfold dF at hr
 rw[hc] at hr
 dsimp only at hr
 unfold qp at hr
 repeat' (split at hr)
 all_goals first|(cases hr;exact⟨_,rfl⟩)|cases hr
theorem lQ{tm:Tm}{h:Hs}{o:Oper}{r:bW}(hr:dF P tm h o=some r)(hd: ∀d,r≠ .fL d)(ro:Option Nat)(e:Operand->Value):o.semAt ro e=execOp e o:=
 Oper.semAt_eq ro e o fun _ hc=>let ⟨d,h⟩:=EH hr hc;hd d h
theorem A7{F:Fence}{ρ:aU}{h:Hs}{w:World}{fr fr1:Fr}{a:Act}{o:Oper}{v:Value}{h1:Hs}(hF: ∀f,F.fn f)(hfr:eG ρ fr a)(hh:aI ρ h.heap.get w)(hf:bC ρ h.next h1.next)
 (hr:dF P fr.tm h o=some (.val v h1)) (hp:fr.put o.dst v=some fr1) {n:Nat} {K:Act->World->Prop} {Q:Exit->Act->World->Prop} (hK: ∀a' w',uG ρ h w fr1 h1 a' w'->K a' w'):o.wpIn F n P a w K Q:=by
 obtain⟨ρ',v',w',e1,e2,e3,e4⟩:=iZ (r:= .val v h1) hfr.tr hh hf hr
 refine⟨fun f _=>hF f,?_⟩
 rw[lQ hr (fun _ h=>by cases h),e1]
 exact hK _ _ ⟨ρ',Fr.jR (hfr.mono e4.ext) e2 hp,e3,e4⟩
theorem w7{F:Fence}{ρ:aU}{h:Hs}{w:World}{fr fr1:Fr}{a:Act}{o:Oper}{h1:Hs}(hF: ∀f,F.fn f)(hfr:eG ρ fr a)(hh:aI ρ h.heap.get w)(hf:bC ρ h.next h1.next)
 (hr:dF P fr.tm h o=some (.skip h1)) (hp:fr.put o.dst undef=some fr1) {n:Nat} {K:Act->World->Prop} {Q:Exit->Act->World->Prop} (hK: ∀a' w',uG ρ h w fr1 h1 a' w'->K a' w'):o.wpIn F n P a w K Q:=by
 obtain⟨ρ',w',e1,e3,e4⟩:=iZ (r:= .skip h1) hfr.tr hh hf hr
 refine⟨fun f _=>hF f,?_⟩
 rw[lQ hr (fun _ h=>by cases h),e1]
 exact hK _ _ ⟨ρ',Fr.jR (hfr.mono e4.ext) .undef hp,e3,e4⟩
theorem Cv{call:cI}(hc:dv P call){F:Fence}{rdd:Option Nat}{ρ:aU}{h:Hs}{w:World}{fr fr1:Fr}{a:Act}{o:Oper}{v:Value}{f:Nat}{args:List Value}{h1:Hs}(hF:cw ρ rdd F)(hfr:eG ρ fr a)
 (hh:aI ρ h.heap.get w) (hf:bC ρ h.next h1.next) {g:Hs} (hg:aI ρ g.heap.get w)
 (hr:dF P fr.tm g o=some (.call f args)) (hcall:call f args h=some (v,h1)) (hp:fr.put o.dst v=some fr1) {n:Nat} {K:Act->World->Prop} {Q:Exit->Act->World->Prop} (hK: ∀a' w',uG ρ h w fr1 h1 a' w'->K a' w'):o.wpIn F n P a w K Q:=by
 obtain⟨args',e1,e2⟩:=iZ hfr.tr hg (fun b h1 h2=>absurd h2 (by simp only[bW.next];omega)) hr
 refine⟨fun f _=>hF.fn f,?_⟩
 rw[lQ hr (fun _ h=>by cases h),e1]
 refine⟨fun hd=>absurd hd (by rw[hF.depth];simp),?_⟩
 refine CallsIn.mono (hF.calls ((hc _ _ _ _ _ hcall).2 ρ w args' (n - 1) e2 hh hf)) fun e w' hgot=>?_
 obtain⟨ρ',v',rfl,g1,g2,g3⟩:=hgot
 exact hK _ _ ⟨ρ',Fr.jR (hfr.mono g3.ext) g1 hp,g2,g3⟩
theorem yM{round:cI}(hc:gF P round){F:Fence}{rdd:Option Nat}{ρ:aU}{h:Hs}{w:World}{fr fr1:Fr}{a:Act}{o:Oper}{v:Value}{f:Nat}{args:List Value}{h1:Hs}(hF:cw ρ rdd F)(hfr:eG ρ fr a)
 (hh:aI ρ h.heap.get w) (hf:bC ρ h.next h1.next) {g:Hs} (hg:aI ρ g.heap.get w)
 (hr:dF P fr.tm g o=some (.round f args)) (hcall:round f args h=some (v,h1)) (hp:fr.put o.dst v=some fr1) {n:Nat} {K:Act->World->Prop} {Q:Exit->Act->World->Prop} (hK: ∀a' w',uG ρ h w fr1 h1 a' w'->K a' w'):o.wpIn F n P a w K Q:=by
 obtain⟨L,args',hL,e1,e2⟩:=iZ hfr.tr hg (fun b h1 h2=>absurd h2 (by simp only[bW.next];omega)) hr
 obtain⟨f,tmps,assign,body,y1,y2⟩:=(hc _ _ _ _ _ hcall).2 ρ w args' (n - 1) L hL e2 hh hf
 refine⟨fun f _=>hF.fn f,?_⟩
 rw[lQ hr (fun _ h=>by cases h),e1,y1]
 refine⟨fun hd=>absurd hd (by rw[hF.depth];simp),?_⟩
 refine RoundIn.mono (hF.round y2) fun e w' hgot=>?_
 obtain⟨ρ',v',rfl,g1,g2,g3⟩:=hgot
 exact hK _ _ ⟨ρ',Fr.jR (hfr.mono g3.ext) g1 hp,g2,g3⟩
theorem Ng{F:Fence}{ρ:aU}{h:Hs}{w:World}{fr fr1:Fr}{a:Act}{o:Oper}{d:nv}(hF: ∀f,F.fn f)(hF0:F.round=none)(hfr:eG ρ fr a)(hh:aI ρ h.heap.get w)
 (hr:dF P fr.tm h o=some (.fL d)) (hp:({fr with fL:=d::fr.fL}:Fr).put o.dst undef=some fr1) {n:Nat} {K:Act->World->Prop} {Q:Exit->Act->World->Prop} (hK: ∀a' w',uG ρ h w fr1 h a' w'->K a' w'):o.wpIn F n P a w K Q:=by
 obtain⟨d',e1,e2⟩:=iZ hfr.tr hh (fun b h1 h2=>absurd h2 (by simp only[bW.next];omega)) hr
 refine⟨fun f _=>hF f,?_⟩
 rw[hF0,Oper.semAt_none,e1]
 exact hK _ _ ⟨ρ,Fr.jR (fr:={fr with fL:=d::fr.fL}) (a:={a with defers:=d'::a.defers}) ⟨hfr.tr, .cons _ _ _ _ e2 hfr.ds⟩ .undef hp,hh,Step.refl _ _ _ _ _⟩
theorem Ct{call round:cI}(hc:dv P call)(hr:gF P round){rdd:Option Nat}{ops:Array Oper}: ∀(l:List Oper)(fr:Fr)(h:Hs)(fr':Fr)(h':Hs),sR P call round rdd ops l fr h=some (fr',h')->Mod h h'/\
 ∀(ρ:aU)(w:World)(a:Act)(n:Nat)(F:Fence),cw ρ rdd F->eG ρ fr a->aI ρ h.heap.get w->bC ρ h.next h'.next-> ∀Q:Exit->Act->World->Prop,(∀a' w',uG ρ h w fr' h' a' w'->Q .normal a' w')->wpListIn F n P ops Q l a w
 |[],fr,h,fr',h',he=>by
  simp only[sR,Option.some.injEq,Prod.mk.injEq] at he
  obtain⟨rfl,rfl⟩:=he
  exact⟨Mod.refl _,fun ρ w a n F hF hfr hh hf Q hQ=>hQ _ _ ⟨ρ,hfr,hh,Step.refl _ _ _ _ _⟩⟩
 |o::l,fr,h,fr',h',he=>by
  have go: ∀(fr1:Fr)(h1:Hs),Mod h h1->sR P call round rdd ops l fr1 h1=some (fr',h')->
   Mod h h'/\h1.next<=h'.next/\ ∀(ρ:aU)(w:World)(n:Nat)(F:Fence),cw ρ rdd F->bC ρ h.next h'.next-> ∀Q:Exit->Act->World->Prop,(∀a' w',uG ρ h w fr' h' a' w'->Q .normal a' w')->
    ∀a' w',uG ρ h w fr1 h1 a' w'->wpListIn F n P ops Q l a' w':=by
   intro fr1 h1 hm ho
   obtain⟨m1,k1⟩:=Ct hc hr l fr1 h1 fr' h' ho
   refine⟨hm.trans m1,m1.next,fun ρ w n F hF hf Q hQ a' w' haft=>?_⟩
   obtain⟨ρ',x1,x2,x3⟩:=haft
   exact k1 ρ' w' a' n F (hF.mono x3.ext) x1 x2 (x3.fresh hf hm.next) Q fun a2 w2 k=>hQ _ _ (uG.trans x3 hm.next m1.next k)
  simp only[sR] at he
  split at he
  ·cases he
  ·rename_i hw
   split at he
   ·rename_i fr1 hp
    obtain⟨g1,g2,g3⟩:=go fr1 h (Mod.refl _) he
    refine⟨g1,fun ρ w a n F hF hfr hh hf Q hQ=>?_⟩
    simp only[wpListIn,ja hfr.tr hw,Bool.false_eq_true,if_false]
    exact⟨fun f _=>hF.fn f,g3 ρ w n F hF hf Q hQ _ _ ⟨ρ,Fr.jR hfr .undef hp,hh,Step.refl _ _ _ _ _⟩⟩
   ·cases he
  ·rename_i hw
   have wl: ∀{ρ:aU} {a:Act} {w:World} {n:Nat} {F:Fence} {Q:Exit->Act->World->Prop},eG ρ fr a->o.wpIn F n P a w (wpListIn F n P ops Q l) Q->wpListIn F n P ops Q (o::l) a w:=by
    intro ρ a w n F Q hfr hwp
    simp only[wpListIn,ja hfr.tr hw,if_true]
    exact hwp
   split at he
   ·cases he
   ·rename_i v h1 ha
    split at he
    ·rename_i fr1 hp
     have hm:=jK ha
     obtain⟨g1,g2,g3⟩:=go fr1 h1 hm he
     exact⟨g1,fun ρ w a n F hF hfr hh hf Q hQ=>wl hfr (A7 hF.fn hfr hh (hf.sub (Nat.le_refl _) g2) ha hp (g3 ρ w n F hF hf Q hQ))⟩
    ·cases he
   ·rename_i h1 ha
    split at he
    ·rename_i fr1 hp
     have hm:=jK ha
     obtain⟨g1,g2,g3⟩:=go fr1 h1 hm he
     exact⟨g1,fun ρ w a n F hF hfr hh hf Q hQ=>wl hfr (w7 hF.fn hfr hh (hf.sub (Nat.le_refl _) g2) ha hp (g3 ρ w n F hF hf Q hQ))⟩
    ·cases he
   ·rename_i f args ha
    split at he
    ·rename_i v h1 hcall
     split at he
     ·rename_i fr1 hp
      obtain⟨g1,g2,g3⟩:=go fr1 h1 (hc _ _ _ _ _ hcall).1 he
      exact⟨g1,fun ρ w a n F hF hfr hh hf Q hQ=>wl hfr (Cv hc hF hfr hh (hf.sub (Nat.le_refl _) g2) hh ha hcall hp (g3 ρ w n F hF hf Q hQ))⟩
     ·cases he
    ·cases he
   ·rename_i f args ha
    split at he
    ·rename_i v h1 hcall
     split at he
     ·rename_i fr1 hp
      obtain⟨g1,g2,g3⟩:=go fr1 h1 (hr _ _ _ _ _ hcall).1 he
      exact⟨g1,fun ρ w a n F hF hfr hh hf Q hQ=>wl hfr (yM hr hF hfr hh (hf.sub (Nat.le_refl _) g2) hh ha hcall hp (g3 ρ w n F hF hf Q hQ))⟩
     ·cases he
    ·cases he
   ·rename_i d ha
    split at he
    ·split at he
     ·rename_i fr1 hp
      obtain⟨g1,g2,g3⟩:=go fr1 h (Mod.refl _) he
      exact⟨g1,fun ρ w a n F hF hfr hh hf Q hQ=>wl hfr (Ng hF.fn (by cases hF;rfl) hfr hh ha hp (g3 ρ w n F hF hf Q hQ))⟩
     ·cases he
    ·cases he
end
section
variable{P:Program}
def gZ(P:Program):Prop:= ∀(call round:cI),dv P call->gF P round-> ∀(rdd:Option Nat)(ops:Array Oper)(ms:List Nat)(fr:Fr)(h:Hs)(fr':Fr)(h':Hs),
 sM ops=some ms->ir P call round ops ops.toList 0 ms [] fr h=some (fr',h')->Mod h h'/\
  ∀(ρ:aU)(w:World)(a:Act)(n:Nat)(F:Fence),cw ρ rdd F->eG ρ fr a->aI ρ h.heap.get w->bC ρ h.next h'.next-> ∀(Q:Exit->Act->World->Prop)(id:Nat),
   (∀a' w',uG ρ h w fr' h' a' w'->Q .normal a' w')->(Code.region id ops true).wpIn F n P Q a w
theorem zy{ex:u5}(hex:uA P ex): ∀(m:Nat)(b:Code)(rdd:Option Nat)(fr:Fr)(h:Hs)(e:af)(fr':Fr)(h':Hs),vT ex m b rdd fr h=some (e,fr',h')->Mod h h'/\
 ∀(ρ:aU)(w:World)(a:Act)(n:Nat)(F:Fence),cw ρ rdd F->eG ρ fr a->aI ρ h.heap.get w->bC ρ h.next h'.next-> ∀Q:Exit->Act->World->Prop,
  (∀e' a' w',mF ρ h w e fr' h' e' a' w'->Q e' a' w')->Code.roundsIn F n P b Q m a w
 |0,b,rdd,fr,h,e,fr',h',he=>by simp[vT] at he
 |m+1,b,rdd,fr,h,e,fr',h',he=>by
  simp only[vT] at he
  split at he
  ·rename_i fr1 h1 hb
   obtain⟨m1,k1⟩:=hex _ _ _ _ _ _ _ hb
   obtain⟨m2,k2⟩:=zy hex m b rdd fr1 h1 e fr' h' he
   refine⟨m1.trans m2,fun ρ w a n F hF hfr hh hf Q hQ=>?_⟩
   rw[roundsIn_succ]
   refine wpIn_mono (k1 ρ w a n F hF hfr hh (hf.sub (Nat.le_refl _) m2.next)) fun e' a' w' hp=>?_
   obtain⟨rfl,ρ1,x1,x2,x3⟩:=hp
   exact k2 ρ1 w' a' n F (hF.mono x3.ext) x1 x2 (x3.fresh hf m1.next) Q fun e2 a2 w2 ⟨y1,y2⟩=>hQ _ _ _ ⟨y1,uG.trans x3 m1.next m2.next y2⟩
  ·rename_i hne
   obtain⟨m1,k1⟩:=hex _ _ _ _ _ _ _ he
   refine⟨m1,fun ρ w a n F hF hfr hh hf Q hQ=>?_⟩
   rw[roundsIn_succ]
   refine wpIn_mono (k1 ρ w a n F hF hfr hh hf) fun e' a' w' hp=>?_
   have hp':=hp
   obtain⟨rfl,-⟩:=hp'
   cases e with
   |normal=>exact(hne _ _ he).elim
   |exit i=>exact hQ _ _ _ hp
   |goto l=>exact hQ _ _ _ hp
   |ret=>exact hQ _ _ _ hp
theorem vf{ex:u5}(hex:uA P ex): ∀(m:Nat)(b cur:Code)(rdd:Option Nat)(fr:Fr)(h:Hs)(e:af)(fr':Fr)(h':Hs),pX ex m b cur rdd fr h=some (e,fr',h')->Mod h h'/\
 ∀(ρ:aU)(w:World)(a:Act)(n:Nat)(F:Fence),cw ρ rdd F->eG ρ fr a->aI ρ h.heap.get w->bC ρ h.next h'.next-> ∀Q:Exit->Act->World->Prop,
  (∀e' a' w',mF ρ h w e fr' h' e' a' w'->Q e' a' w')->Code.rm F n P b Q m cur a w
 |0,b,cur,rdd,fr,h,e,fr',h',he=>by simp[pX] at he
 |m+1,b,cur,rdd,fr,h,e,fr',h',he=>by
  simp only[pX] at he
  split at he
  ·rename_i l fr1 h1 hb
   obtain⟨m1,k1⟩:=hex _ _ _ _ _ _ _ hb
   split at he
   ·rename_i rest hl
    obtain⟨m2,k2⟩:=vf hex m b rest rdd fr1 h1 e fr' h' he
    refine⟨m1.trans m2,fun ρ w a n F hF hfr hh hf Q hQ=>?_⟩
    refine wpIn_mono (k1 ρ w a n F hF hfr hh (hf.sub (Nat.le_refl _) m2.next)) fun e' a' w' hp=>?_
    obtain⟨rfl,ρ1,x1,x2,x3⟩:=hp
    simp only[fU,hl]
    exact k2 ρ1 w' a' n F (hF.mono x3.ext) x1 x2 (x3.fresh hf m1.next) Q fun e2 a2 w2 ⟨y1,y2⟩=>hQ _ _ _ ⟨y1,uG.trans x3 m1.next m2.next y2⟩
   ·rename_i hl
    cases he
    refine⟨m1,fun ρ w a n F hF hfr hh hf Q hQ=>?_⟩
    refine wpIn_mono (k1 ρ w a n F hF hfr hh hf) fun e' a' w' hp=>?_
    have hp':=hp
    obtain⟨rfl,-⟩:=hp'
    simp only[fU,hl]
    exact hQ _ _ _ hp
  ·rename_i hne
   obtain⟨m1,k1⟩:=hex _ _ _ _ _ _ _ he
   refine⟨m1,fun ρ w a n F hF hfr hh hf Q hQ=>?_⟩
   refine wpIn_mono (k1 ρ w a n F hF hfr hh hf) fun e' a' w' hp=>?_
   have hp':=hp
   obtain⟨rfl,-⟩:=hp'
   cases e with
   |normal=>exact hQ _ _ _ hp
   |exit i=>exact hQ _ _ _ hp
   |goto l=>exact(hne _ _ _ he).elim
   |ret=>exact hQ _ _ _ hp
theorem il{ρ:aU}{w:World}{h:Hs}{b:Nat}{L:Loc}{r:Iy}(hh:aI ρ h.heap.get w)(hb:h.heap.get b=some (.loop r))(hL:ρ b=some L):
 ∃r':Loop,w.heap[L.φ]? =some (.loop r')/\(∀{α:Type} (k:Loop->Sem α),(Instr.getLoop L.φ>>=k).run P w=(k r').run P w)/\
  r'.state=r.st/\r'.pending=r.pending/\TR ρ r.tm r.n r'.tmps/\r'.params.toList=r.params/\r'.assign=r.assign/\r'.body=r.body/\ ∃L,ρ r.defers=some L/\r'.defers=L.φ:=by
 obtain⟨L0,x,hL0,hx0,hR⟩:=hh.obj _ _ hb
 rw[hL] at hL0;cases hL0
 cases x<;>simp only[OR] at hR<;>first|exact hR.elim|skip
 rename_i r'
 refine⟨r',hx0,fun k=>?_,hR⟩
 simp[Instr.getLoop,getObj,Sem.run,hx0]
theorem nM{ρ:aU}{w:World}{h:Hs}{b:Nat}{L:Loc}{r r2:Iy}{r' r2':Loop}(hh:aI ρ h.heap.get w)(hb:h.heap.get b=some (.loop r))(hL:ρ b=some L)(hx:w.heap[L.φ]? =some (.loop r'))(hR:OR ρ L (.loop r2) (.loop r2')):
 ∃w',(setObj L.φ (.loop r2')).run P w= .ok () w'/\aI ρ (h.heap.set b (.loop r2)).get w'/\ ∀lo hi,Step ρ h.heap.get w ρ (h.heap.set b (.loop r2)).get w' lo hi:=
 kJ (o:= .loop r) hh hb rfl hL hx (fun _ _ _ h=>by cases h) hR
theorem yu{ρ:aU}{n:Nat}: ∀{ps:List Tmp} {vs vs':List Value} {tm tm':Tm} {tmps:Array Value},cU ρ vs vs'->TR ρ tm n tmps->sj ps vs n tm=some tm'->
 ps.length=vs.length/\TR ρ tm' n ((ps.zip vs').foldl (fun t (p,v)=>t.setIfInBounds p v) tmps)
 |[],[],_,tm,tm',tmps, .nil,ht,he=>by simp[sj] at he;subst he;exact⟨rfl,ht⟩
 |p::ps,v::vs,_,tm,tm',tmps, .cons _ v' _ vs' hv hl,ht,he=>by
  simp only[sj] at he
  split at he
  ·rename_i hp
   obtain⟨h1,h2⟩:=yu hl (ht.put (by rw[Nat.blt_eq] at hp;exact hp) hv) he
   exact⟨by simp[h1],h2⟩
  ·cases he
 |[],_::_,_,_,_,_,_,_,he=>by simp[sj] at he
 |_::_,[],_,_,_,_,_,_,he=>by simp[sj] at he
theorem Dz{ex:u5}(hex:uA P ex):gF P (AX ex):=by
 intro l args h v h' he
 unfold AX at he
 split at he
 ·rename_i r hb
  split at he
  ·rename_i tm htm
   split at he
   ·rename_i fr1 h1 hasg
    obtain⟨m1,k1⟩:=hex _ _ _ _ _ _ _ hasg
    split at he
    ·rename_i r1 hb1
     split at he
     ·rename_i hready
      split at he
      ·rename_i e fr3 h3 hbody
       obtain⟨m2,k2⟩:=hex _ _ _ _ _ _ _ hbody
       split at he
       ·rename_i r3 hb3
        cases he
        have mm1:=m1.trans (Mod.set h1 l (.loop {r1 with st:= .busy}) hb1)
        have mm2:=mm1.trans m2
        have mm3:=mm2.trans (Mod.set h3 l (.loop {r3 with st:=(match fX e with|none=> .ready|some _=> .done),pending:=fX e}) hb3)
        have n2:h1.next<=h3.next:=m2.next
        refine⟨mm3,fun ρ w args' n L hL hargs hh hf=>?_⟩
        obtain⟨r',hx,hget,q1,q2,q3,q4,q5,q6,q7⟩:=il (P:=P) hh hb hL
        obtain⟨hlen,htr⟩:=yu hargs q3 htm
        have hlen':args'.length=r'.params.size:=by rw[hargs.length,←hlen,←q4];simp
        refine⟨r'.fn,(r'.params.zip ⟨args'⟩).foldl (fun t (p,v)=>t.setIfInBounds p v) r'.tmps,r'.assign,r'.body,?_,?_⟩
        ·simp only[Instr.yield]
         rw[hget]
         simp[hlen']
        ·refine roundIn_of_wpIn trivial ?_
         have htr':TR ρ tm r.n ((r'.params.zip ⟨args'⟩).foldl (fun t (p,v)=>t.setIfInBounds p v) r'.tmps):=by
          rw[←Array.foldl_toList,Array.toList_zip,q4];exact htr
         have hF:cw ρ (some l) (Fence.wide.inRound L.φ):=⟨L,hL,rfl⟩
         rw[q5]
         refine wpIn_mono (k1 ρ w _ n _ hF ⟨htr', .nil⟩ hh (hf.sub (Nat.le_refl _) n2)) fun e1 a1 w1 hp=>?_
         obtain⟨rfl,ρ1,x1,x2,x3⟩:=hp
         have hL1:=x3.ext _ _ hL
         obtain⟨r1',hx1,hget1,p1,p2,p3,p4,p5,p6,p7⟩:=il (P:=P) x2 hb1 hL1
         obtain⟨w2,hs2,hh2,hst2⟩:=nM (P:=P) (r2:={r1 with st:= .busy}) (r2':={r1' with state:= .busy}) x2 hb1 hL1 hx1 ⟨rfl,p2,p3,p4,p5,p6,p7⟩
         have hs12:=x3.trans (hst2 h1.next h1.next) m1.next (Nat.le_refl _)
         refine⟨w2,?_,?_⟩
         ·unfold Instr.beginRound
          rw[hget1]
          simp only[Sem.run_bind,hs2,Result.andThen_ok,p1,hready,Sem.run_pure]
         ·rw[q6]
          refine wpIn_mono (k2 ρ1 w2 a1 n _ (hF.mono x3.ext) x1 hh2 (hs12.fresh (hf.sub (Nat.le_refl _) (Nat.le_refl _)) m1.next)) fun e2 a2 w3 hp=>?_
          obtain⟨rfl,ρ3,y1,y2,y3⟩:=hp
          have hL3:=y3.ext _ _ hL1
          obtain⟨r3',hx3,hget3,s1,s2,s3,s4,s5,s6,s7⟩:=il (P:=P) y2 hb3 hL3
          have fin: ∀(j:Option Code),j=fX e-> ∃w4,(Instr.endRound L.φ j).run P w3= .ok (.bool (fX e).isNone) w4/\Ll ρ h w (.bool (fX e).isNone) {h3 with heap:=h3.heap.set l (.loop {r3 with st:=(match fX e with|none=> .ready|some _=> .done),pending:=fX e}),log:=l::h3.log} (.returned (.bool (fX e).isNone)) w4:=by
           intro j hj
           subst hj
           obtain⟨w4,hs4,hh4,hst4⟩:=nM (P:=P) (r2:={r3 with st:=(match fX e with|none=> .ready|some _=> .done),pending:=fX e}) (r2':={r3' with state:=if (fX e).isNone then .ready else .done,pending:=fX e}) y2 hb3 hL3 hx3 ⟨by cases e<;>rfl,rfl,s3,s4,s5,s6,s7⟩
           refine⟨w4,?_,ρ3,_,rfl, .sc _ rfl,hh4,?_⟩
           ·unfold Instr.endRound
            rw[hget3]
            simp only[Sem.run_bind,hs4,Result.andThen_ok,Sem.run_pure]
           ·exact(hs12.trans y3 m1.next n2).trans (hst4 h3.next h3.next) (Nat.le_trans m1.next n2) (Nat.le_refl _)
          cases e with
          |normal=>obtain⟨w4,z1,z2⟩:=fin none rfl;exact⟨_,w4,z1,z2⟩
          |exit i=>obtain⟨w4,z1,z2⟩:=fin (some (.exit i)) rfl;exact⟨_,w4,z1,z2⟩
          |goto t=>obtain⟨w4,z1,z2⟩:=fin (some (.goto t)) rfl;exact⟨_,w4,z1,z2⟩
          |ret=>obtain⟨w4,z1,z2⟩:=fin (some .ret) rfl;exact⟨_,w4,z1,z2⟩
       ·cases he
      ·cases he
     ·cases he
    ·cases he
   ·cases he
  ·cases he
 ·cases he
theorem ve: ∀(l:List Value)(i:Nat)(t:Tm)(j:Nat),rd (jO l i t) j=if i<=j/\j<i+l.length then l.getD (j - i) undef else rd t j
 |[],i,t,j=>by simp only[jO,List.length_nil];rw[if_neg (by omega)]
 |v::l,i,t,j=>by
  simp only[jO,ve l,p9,List.length_cons]
  by_cases h1:i+1<=j/\j<i+1+l.length
  ·rw[if_pos h1,if_pos (by omega)]
   obtain⟨k,hk⟩: ∃k,j - i=k+1:=⟨j - i - 1,by omega⟩
   rw[hk,show j - (i+1)=k by omega]
   simp
  ·rw[if_neg h1]
   by_cases h2:j=i
   ·subst h2;rw[if_pos rfl,if_pos (by omega)];simp
   ·rw[if_neg h2,if_neg (by omega)]
theorem cU.getD{ρ:aU}: ∀{l l':List Value},cU ρ l l'-> ∀(i:Nat),VR ρ (l.getD i undef) (l'.getD i undef)
 |_,_, .nil,i=>by simpa using VR.undef
 |_,_, .cons v v' l l' h k,0=>by simpa using h
 |_,_, .cons v v' l l' h k,i+1=>by simpa using cU.getD k i
theorem Jn(j:Nat):rd (.leaf:Tm) j=undef:=by unfold rd;rw[T.dA]
theorem pq{ρ:aU}{args args':List Value}(h:cU ρ args args')(m:Nat):
 TR ρ (jO args 0 .leaf) (args.length+(m - args.length)) ((⟨args'⟩:Array Value)++Array.replicate (m - (⟨args'⟩:Array Value).size) undef):=by
 have hl:=h.length
 refine⟨by simp[hl],fun t=>?_⟩
 rw[ve,Jn]
 by_cases ht:t<args.length
 ·rw[if_pos (by omega)]
  have:((⟨args'⟩:Array Value)++Array.replicate (m - (⟨args'⟩:Array Value).size) undef).getD t undef=args'.getD t undef:=by
   rw[Array.getD_eq_getD_getElem?,Array.getElem?_append_left (by simpa[hl] using ht)]
   simp
  rw[this];exact .inr (by simpa using h.getD t)
 ·rw[if_neg (by omega)]
  have:((⟨args'⟩:Array Value)++Array.replicate (m - (⟨args'⟩:Array Value).size) undef).getD t undef=undef:=by
   rw[Array.getD_eq_getD_getElem?,Array.getElem?_append_right (by simpa[hl] using ht)]
   rw[Array.getElem?_replicate]
   split<;>rfl
  rw[this];exact .inr .undef
def wY(tmps:Array Value):ResultVar->Sem Value
 | .tmp t=>pure (tmps.getD t undef)
 | .cell a t=>do loadVar t (←asAddr (tmps.getD a undef))
theorem kN(fn:Func)(tmps:Array Value):results fn tmps=(do
 let vs←fn.results.mapM (wY tmps)
 pure (if h:vs.size=1 then vs[0] else .tuple vs)):=rfl
theorem gd{ρ:aU}{w:World}{h:Hs}{tm:Tm}{n:Nat}{tmps:Array Value}(ht:TR ρ tm n tmps)(hh:aI ρ h.heap.get w): ∀{l:List ResultVar} {vs:List Value},dM P tm h l=some vs->
 ∃vs',cU ρ vs vs'/\(l.mapM (wY tmps)).run P w= .ok vs' w
 |[],vs,he=>by simp[dM] at he;subst he;exact⟨[], .nil,rfl⟩
 | .tmp t::l,vs,he=>by
   simp only[dM] at he
   split at he
   ·rename_i vs1 h1
    split at he
    ·rename_i v hv
     obtain⟨rfl,hj⟩:=qD hv
     cases he
     obtain⟨vs',h2,h3⟩:=gd ht hh h1
     exact⟨_, .cons _ _ _ _ ((ht.2 t).vr hj) h2,by simp[List.mapM_cons,wY,h3]⟩
    ·cases he
   ·cases he
 | .cell a t::l,vs,he=>by
   simp only[dM] at he
   split at he
   ·rename_i b off ha
    split at he
    ·rename_i v vs1 hv h1
     cases he
     obtain⟨vs',h2,h3⟩:=gd ht hh h1
     obtain⟨L,v',hL,hrun,hvR⟩:=nA (P:=P) hh hv
     have hav:=(ht.2 a).vr (fun e=>by rw[ha] at e;cases e)
     rw[ha] at hav
     generalize hx:tmps.getD a undef=x at hav
     cases hav with
     |sc _ hs=>simp[AV.simple] at hs
     |ptr b o L' hL'=>
      rw[hL] at hL';cases hL'
      exact⟨_, .cons _ _ _ _ hvR h2,by simp[List.mapM_cons,wY,h3,hx,asAddr,hrun]⟩
    ·cases he
   ·cases he
theorem w8{ρ:aU}{vs vs':List Value}(h:cU ρ vs vs'):VR ρ (uN vs) (if h:(⟨vs'⟩:Array Value).size=1 then (⟨vs'⟩:Array Value)[0] else .tuple ⟨vs'⟩):=by
 cases h with
 |nil=>exact .tuple _ _ .nil
 |cons v v' l l' hv hl=>
  cases hl with
  |nil=>simpa[uN] using hv
  |cons u u' m m' hu hm=>
   have: ¬(⟨v'::u'::m'⟩:Array Value).size=1:=by simp
   rw[dif_neg this]
   exact .tuple _ _ (.cons _ _ _ _ hv (.cons _ _ _ _ hu hm))
theorem wq{ex:u5}(hex:uA P ex){f:Nat}{args:List Value}{h h':Hs}(he:BB P ex f args h=some h'):Mod h h'/\
 ∃fn body,P.funcs[f]? =some fn/\fn.body=some body/\fn.name≠ "runtime.NumGoroutine" /\
 ∀ρ w args' n u,cU ρ args args'->aI ρ h.heap.get w->bC ρ h.next h'.next->
  CallsDIn Fence.wide n P f ⟨args'⟩ u w fun e u' w'=>u'=u/\ ∃v ρ',e= .returned v/\aI ρ' h'.heap.get w'/\Step ρ h.heap.get w ρ' h'.heap.get w' h.next h'.next:=by
 unfold BB at he
 split at he
 ·rename_i fn hfn
  split at he
  ·rename_i body hbody hname
   have hname': ¬fn.name= "runtime.NumGoroutine" :=by simpa using hname
   have main: ∀(e:af)(fr1:Fr)(h1:Hs),(e= .normal\/e= .ret)->ex none body {tm:=jO args 0 .leaf,n:=args.length+(fn.ntmps - args.length),fL:=[]} h=some (e,fr1,h1)->
    (match fr1.fL,dM P fr1.tm h1 fn.results.toList with
      |[],some _=>some h1
      |_,_=>none)=some h'->Mod h h'/\
      ∃fn body,P.funcs[f]? =some fn/\fn.body=some body/\fn.name≠ "runtime.NumGoroutine" /\
      ∀ρ w args' n u,cU ρ args args'->aI ρ h.heap.get w->bC ρ h.next h'.next->
       CallsDIn Fence.wide n P f ⟨args'⟩ u w fun e u' w'=>u'=u/\ ∃v ρ',e= .returned v/\aI ρ' h'.heap.get w'/\Step ρ h.heap.get w ρ' h'.heap.get w' h.next h'.next:=by
    intro e fr1 h1 hen hb he
    obtain⟨m1,k1⟩:=hex _ _ _ _ _ _ _ hb
    split at he
    ·rename_i vs hd hvs
     cases he
     refine⟨m1,fn,body,hfn,hbody,hname',fun ρ w args' n u hargs hh hf=>?_⟩
     refine callsDIn_of_wp hfn hbody trivial ?_
     refine wpIn_mono (k1 ρ w _ n Fence.wide rfl ⟨pq hargs fn.ntmps, .nil⟩ hh hf) fun e' a' w' hp=>?_
     obtain⟨rfl,ρ1,x1,x2,x3⟩:=hp
     have hds:a'.defers=[]:=by
      have:=x1.ds
      rw[hd] at this
      generalize a'.defers=x at this
      cases this
      rfl
     obtain⟨vs',y1,y2⟩:=gd (P:=P) x1.tr x2 hvs
     have leave:a'.defers=[]/\ ∃v,(results fn a'.tmps).run P w'= .ok v w'/\ ∃v0 ρ',Ending.returned v= .returned v0/\aI ρ' h'.heap.get w'/\Step ρ h.heap.get w ρ' h'.heap.get w' h.next h'.next:=by
      obtain⟨v1,hv1⟩: ∃v,(results fn a'.tmps).run P w'= .ok v w':=by
       refine⟨if h:(⟨vs'⟩:Array Value).size=1 then (⟨vs'⟩:Array Value)[0] else .tuple ⟨vs'⟩,?_⟩
       rw[kN,Array.mapM_eq_mapM_toList]
       simp[y2]
      exact⟨hds,v1,hv1,v1,ρ1,rfl,x2,x3⟩
     rcases hen with rfl|rfl
     ·exact leave
     ·exact leave
    ·cases he
   split at he
   ·rename_i fr1 h1 hb
    exact main _ _ _ (.inl rfl) hb he
   ·rename_i fr1 h1 hb
    exact main _ _ _ (.inr rfl) hb he
   ·cases he
  ·cases he
 ·cases he
theorem mw{ex:u5}(hex:uA P ex): ∀{ds:List nv} {h h':Hs},q8 P ex ds h=some h'->Mod h h'
 |[],h,h',he=>by simp[q8] at he;subst he;exact Mod.refl _
 | .call f args captured::ds,h,h',he=>by
   simp only[q8] at he
   split at he
   ·rename_i h1 hb;exact(wq hex hb).1.trans (mw hex he)
   ·cases he
 | .mark r::ds,h,h',he=>by
   simp only[q8] at he
   split at he
   ·rename_i hb;exact(Mod.set h r (.fL false) hb).trans (mw hex he)
   ·cases he
theorem py{ex:u5}(hex:uA P ex){n:Nat}{fn:Func}{tmps:Array Value}{R:Ending->World->Prop}: ∀{ds:List nv} {h h':Hs} {ρ:aU} {w:World} {ds':List Deferred},q8 P ex ds h=some h'->AM ρ ds ds'->aI ρ h.heap.get w->bC ρ h.next h'.next->
 (∀ρ' w',aI ρ' h'.heap.get w'->Step ρ h.heap.get w ρ' h'.heap.get w' h.next h'.next-> ∃v,(results fn tmps).run P w'= .ok v w'/\R (.returned v) w')->LeavesInM Fence.wide n P fn tmps R ds' .returning w
 |[],h,h',ρ,w,_,he, .nil,hh,hf,hR=>by
  simp[q8] at he;subst he
  exact hR ρ w hh (Step.refl _ _ _ _ _)
 | .call f args captured::ds,h,h',ρ,w,_,he, .cons _ d' _ ds' hd hds,hh,hf,hR=>by
   simp only[q8] at he
   split at he
   ·rename_i h1 hb
    obtain⟨m1,fn1,body,q1,q2,q3,q4⟩:=wq hex hb
    have m2:=mw hex he
    obtain⟨args',cap',rfl,z1,z2⟩:=hd
    refine⟨by simp, .inr ⟨fun hd=>by simp[Fence.wide] at hd, .func f,⟨cap'⟩,f,⟨args'++cap'⟩,rfl,?_,fun _ _=>trivial,?_⟩⟩
    ·simp[invoke,callFunc,q1,q2,q3]
    ·refine(q4 ρ w (args'++cap') (n - 1) .returning (z1.append z2) hh (hf.sub (Nat.le_refl _) m2.next)).mono fun e u' w' hp=>?_
     obtain⟨rfl,v,ρ1,rfl,x2,x3⟩:=hp
     show LeavesInM Fence.wide n P fn tmps R ds' .returning w'
     exact py hex he (hds.mono x3.ext) x2 (x3.fresh hf m1.next) fun ρ' w2 y1 y2=>hR ρ' w2 y1 (x3.trans y2 m1.next m2.next)
   ·cases he
 | .mark r::ds,h,h',ρ,w,_,he, .cons _ d' _ ds' hd hds,hh,hf,hR=>by
   simp only[q8] at he
   split at he
   ·rename_i hb
    obtain⟨L,hL,rfl⟩:=hd
    obtain⟨L0,x,hL0,hx0,hO⟩:=hh.obj _ _ hb
    rw[hL] at hL0;cases hL0
    cases x<;>simp only[OR] at hO<;>first|exact hO.elim|skip
    subst hO
    obtain⟨w1,hs1,hh1,hst1⟩:=kJ (P:=P) (o:= .fL true) (o2:= .fL false) (x2:= .deferred none) hh hb rfl hL hx0 (fun _ _ _ h=>by cases h) rfl
    have m2:=mw hex he
    refine⟨by simp, .inl ⟨L.φ,w1,rfl,?_,py hex he hds hh1 hf fun ρ' w' q1 q2=>hR ρ' w' q1 ?_⟩⟩
    ·simp[Instr.takeDeferred,getObj,Sem.run,hx0,hs1]
    ·exact(hst1 h.next h.next).trans q2 (Nat.le_refl _) m2.next
   ·cases he
theorem tV{ex:u5}{call:cI}(hex:uA P ex):dv P (wz P ex call):=by
 intro f args h v h' he
 unfold wz at he
 split at he
 ·rename_i fn hfn
  split at he
  ·rename_i body hbody
   have main: ∀(e:af)(fr1:Fr)(h1:Hs),(e= .normal\/e= .ret)->ex none body {tm:=jO args 0 .leaf,n:=args.length+(fn.ntmps - args.length),fL:=[]} h=some (e,fr1,h1)->
    (match q8 P ex fr1.fL h1 with
      |some h=>match dM P fr1.tm h fn.results.toList with
       |some vs=>some (uN vs,h)
       |none=>none
      |none=>none)=some (v,h')->Mod h h'/\
      ∀ρ w args' n,cU ρ args args'->aI ρ h.heap.get w->bC ρ h.next h'.next->CallsIn Fence.wide n P f ⟨args'⟩ w (Ll ρ h w v h'):=by
    intro e fr1 h1 hen hb he
    obtain⟨m1,k1⟩:=hex _ _ _ _ _ _ _ hb
    split at he
    ·rename_i h2 hd
     split at he
     ·rename_i vs hvs
      cases he
      have m2:=mw hex hd
      refine⟨m1.trans m2,fun ρ w args' n hargs hh hf=>?_⟩
      refine callsIn_of_wp_marks hfn hbody trivial ?_
      refine wpIn_mono (k1 ρ w _ n Fence.wide rfl ⟨pq hargs fn.ntmps, .nil⟩ hh (hf.sub (Nat.le_refl _) m2.next)) fun e' a' w' hp=>?_
      obtain⟨rfl,ρ1,x1,x2,x3⟩:=hp
      have leave:LeavesInM Fence.wide n P fn a'.tmps (Ll ρ h w (uN vs) h') a'.defers .returning w':=by
       refine py hex hd x1.ds x2 (x3.fresh hf m1.next) fun ρ2 w2 q1 q2=>?_
       obtain⟨vs',y1,y2⟩:=gd (P:=P) (x1.tr.mono q2.ext) q1 hvs
       refine⟨_,?_,ρ2,_,rfl,w8 y1,q1,x3.trans q2 m1.next m2.next⟩
       rw[kN,Array.mapM_eq_mapM_toList]
       simp[y2]
      rcases hen with rfl|rfl
      ·exact leave
      ·exact leave
     ·cases he
    ·cases he
   split at he
   ·rename_i fr1 h1 hb
    exact main _ _ _ (.inl rfl) hb he
   ·rename_i fr1 h1 hb
    exact main _ _ _ (.inr rfl) hb he
   ·cases he
  ·cases he
 ·cases he
end
section
variable{P:Program}
theorem AM.append{ρ:aU}: ∀{a b:List nv} {a' b':List Deferred},AM ρ a a'->AM ρ b b'->AM ρ (a++b) (a'++b')
 |_,_,_,_, .nil,k=>k
 |_,_,_,_, .cons d d' l l' h r,k=> .cons d d' _ _ h (AM.append r k)
theorem vk{call:cI}(hc:dv P call){rdd:Option Nat}{fr:Fr}{g:Nat}{first cap:List Value}{dk:Nat}{mark:List nv}{ps:Array Tmp}{asg b:Code}{h0 h:Hs}{e:af}{fr':Fr}{h':Hs}{f:Operand}
 (hev:ev fr.tm f=some (.func (.func g) ⟨first⟩ ⟨cap⟩))
 (he:wu.AZ P call fr g first cap dk mark ps asg b h=some (e,fr',h'))
 (hm0:Mod h0 h)
 (hent: ∀ρ w a F,cw ρ rdd F->eG ρ fr a->aI ρ h0.heap.get w->bC ρ h0.next h'.next->h.next<=h'.next-> ∀fn,∃ρ1 w1 D ds',aI ρ1 h.heap.get w1/\Step ρ h0.heap.get w ρ1 h.heap.get w1 h0.next h.next/\(∃L,ρ1 dk=some L/\D=L.φ)/\AM ρ1 mark ds'/\
   (Instr.enterLoop fn a.tmps ps asg b F.round).run P w= .ok (w1.heap.size,ds') (w1.alloc (.loop {state:= .ready,pending:=none,fn:=fn,tmps:=a.tmps,params:=ps,assign:=asg,body:=b,defers:=D}))):
 Mod h0 h'/\ ∀(ρ:aU)(w:World)(a:Act)(n:Nat)(F:Fence),cw ρ rdd F->eG ρ fr a->aI ρ h0.heap.get w->bC ρ h0.next h'.next->(Code.rangeFunc f ps asg b).wpIn F n P (mF ρ h0 w e fr' h') a w:=by
 unfold wu.AZ at he
 split at he
 ·rename_i fn hfn
  split at he
  ·rename_i body hbody hname
   split at he
   ·rename_i v h1 hcall
    split at he
    ·rename_i r hb1
     split at he
     ·cases he
     ·rename_i hst
      obtain⟨mc,kc⟩:=hc _ _ _ _ _ hcall
      have mall:=(hm0.trans (Mod.new h _)).trans mc
      have mset:=mall.trans (Mod.set h1 h.next (.loop {r with st:= .exhausted}) hb1)
      have fin: ∀(jmp:Option Code)(c:Exit),r.pending=jmp->c=fU e->fr'={fr with fL:=mark++fr.fL}->h'={h1 with heap:=h1.heap.set h.next (.loop {r with st:= .exhausted}),log:=h.next::h1.log}->
       (∀F n (Q:Exit->Act->World->Prop) a w,Q c a w->(match jmp with|none=>Q .normal a w|some c=>c.wpIn F n P Q a w))->
       Mod h0 h'/\ ∀(ρ:aU)(w:World)(a:Act)(n:Nat)(F:Fence),cw ρ rdd F->eG ρ fr a->aI ρ h0.heap.get w->bC ρ h0.next h'.next->(Code.rangeFunc f ps asg b).wpIn F n P (mF ρ h0 w e fr' h') a w:=by
       intro jmp c hj hce hfr' hh' hjump
       subst hh' hfr' hce
       refine⟨mset,fun ρ w a n F hF hfr hh hf=>wpIn_rangeFunc fun fnid _=>?_⟩
       have hfr0:=hfr
       obtain⟨ρ1,w1,D,ds',q1,q2,⟨LD,hLD,rfl⟩,q4,q5⟩:=hent ρ w a F hF hfr hh hf (Nat.le_trans (Nat.le_succ _) mc.next) fnid
       have hn1:h.next+1<=h1.next:=mc.next
       have hfresh1:bC ρ1 h.next h1.next:=q2.fresh (hi:=h1.next) hf hm0.next
       have me:ρ1 h.next=none:=hfresh1 _ (Nat.le_refl _) (by omega)
       have hle1:ρ1.le (ρ1.set h.next ⟨w1.heap.size,0,0⟩):=aU.iE _ me
       have hfr1:=(hfr.mono q2.ext).mono hle1
       obtain⟨y1,y2⟩:=aI.new (δ:=0) (ψ:=0) (o:= .loop {st:= .ready,pending:=none,tm:=fr.tm,n:=fr.n,params:=ps.toList,assign:=asg,body:=b,defers:=dk}) (H':=(cA h (.loop {st:= .ready,pending:=none,tm:=fr.tm,n:=fr.n,params:=ps.toList,assign:=asg,body:=b,defers:=dk})).heap.get)
        (x:= .loop {state:= .ready,pending:=none,fn:=fnid,tmps:=a.tmps,params:=ps,assign:=asg,body:=b,defers:=LD.φ}) q1 me
        ⟨rfl,rfl,hfr1.tr,rfl,rfl,rfl,LD,hle1 _ _ hLD,rfl⟩ (fun i=>T.aL _ _ _ _)
       have hfv:=aJ hfr1.tr hev
       generalize hfe:a.eval f=fv at hfv
       cases hfv with
       |sc _ hs=>simp[AV.simple] at hs
       |fn _ _ first' _ cap' z1 z2=>
        have hname': ¬fn.name= "runtime.NumGoroutine" :=by simpa using hname
        generalize hW:w1.alloc (.loop {state:= .ready,pending:=none,fn:=fnid,tmps:=a.tmps,params:=ps,assign:=asg,body:=b,defers:=LD.φ})=W at q5 y1 y2
        refine⟨w1.heap.size,ds',W,{target:= .fn (.func g) ⟨cap'⟩,args:=(⟨first'⟩:Array Value)++ #[.func (.yield w1.heap.size) #[] #[]]},W,g,⟨(first'++[.func (.yield w1.heap.size) #[] #[]])++cap'⟩,W,q5,?_,fun f' _=>hF.fn f',?_,fun hd=>absurd hd (by rw[hF.depth];simp),?_⟩
        ·have hcst:a.eval (.const (.func (.yield w1.heap.size) #[] #[]))= .func (.yield w1.heap.size) #[] #[]:=rfl
         simp[resolve,Deferred.ofValue,hfe,hcst]
        ·simp[invoke,callFunc,hfn,hname',hbody]
        ·have hargs:cU (ρ1.set h.next ⟨w1.heap.size,0,0⟩) ((first++[.func (.yield h.next) #[] #[]])++cap) ((first'++[.func (.yield w1.heap.size) #[] #[]])++cap'):=
          (z1.append (.one (.yield _ ⟨w1.heap.size,0,0⟩ _ _ (aU.cE _ _ _) .nil))).append z2
         refine CallsIn.mono (hF.calls (kc _ _ _ (n - 1) hargs y1 (y2.fresh hfresh1 (Nat.le_succ _)))) fun e2 w2 hgot=>?_
         obtain⟨ρ2,v',rfl,p1,p2,p3⟩:=hgot
         have hL2:=p3.ext _ _ (aU.cE ρ1 h.next ⟨w1.heap.size,0,0⟩)
         obtain⟨r',hx,hget,s1,s2,s3,s4,s5,s6,s7⟩:=il (P:=P) p2 hb1 hL2
         obtain⟨w3,hs3,hh3,hst3⟩:=nM (P:=P) (r2:={r with st:= .exhausted}) (r2':={r' with state:= .exhausted}) p2 hb1 hL2 hx ⟨rfl,s2,s3,s4,s5,s6,s7⟩
         refine⟨jmp,w3,?_,?_⟩
         ·unfold Instr.endLoop
          rw[hget]
          have hnb:(r'.state== .busy)=false:=by
           rw[s1]
           cases hs:r.st<;>first|rfl|exact(hst hs).elim
          simp only[hnb,Bool.false_eq_true,if_false,Sem.run_bind,hs3,Result.andThen_ok,Sem.run_pure]
          rw[s2,hj]
         ·have hP:mF ρ h0 w e {fr with fL:=mark++fr.fL} {h1 with heap:=h1.heap.set h.next (.loop {r with st:= .exhausted}),log:=h.next::h1.log} (fU e) {a with defers:=ds'++a.defers} w3:=by
           refine⟨rfl,ρ2,⟨(hfr1.mono p3.ext).tr,?_⟩,hh3,?_⟩
           ·exact((AM.mono (hle1.trans p3.ext) q4).append (hfr1.mono p3.ext).ds)
           ·exact(((q2.trans y2 hm0.next (Nat.le_succ _)).trans p3 (Nat.le_succ_of_le hm0.next) mc.next).trans (hst3 h1.next h1.next) (Nat.le_trans (Nat.le_succ_of_le hm0.next) mc.next) (Nat.le_refl _))
          have hJ:=hjump F n _ _ _ hP
          cases jmp with
          |none=>exact hJ
          |some c=>exact hJ
      split at he
      ·rename_i hp
       cases he
       exact fin none .normal hp rfl rfl rfl fun _ _ _ _ _ q=>q
      ·rename_i hp
       cases he
       exact fin (some .ret) .ret hp rfl rfl rfl fun _ _ _ _ _ q=>wpIn_ret q
      ·rename_i i hp
       cases he
       exact fin (some (.exit i)) (.exit i) hp rfl rfl rfl fun _ _ _ _ _ q=>wpIn_exit q
      ·rename_i i hp
       cases he
       exact fin (some (.goto i)) (.goto i) hp rfl rfl rfl fun _ _ _ _ _ q=>wpIn_goto q
      ·cases he
    ·cases he
   ·cases he
  ·cases he
 ·cases he
theorem Bx{h:Hs}{ρ:aU}{w:World}{a:Act}{ps:Array Tmp}{asg b:Code}{fn:FuncId}(hh:aI ρ h.heap.get w)(hf:ρ h.next=none):
 ∃ρ1 w1 D ds',aI ρ1 (cA h (.fL true)).heap.get w1/\Step ρ h.heap.get w ρ1 (cA h (.fL true)).heap.get w1 h.next (cA h (.fL true)).next/\(∃L,ρ1 h.next=some L/\D=L.φ)/\AM ρ1 [.mark h.next] ds'/\
  (Instr.enterLoop fn a.tmps ps asg b none).run P w= .ok (w1.heap.size,ds') (w1.alloc (.loop {state:= .ready,pending:=none,fn:=fn,tmps:=a.tmps,params:=ps,assign:=asg,body:=b,defers:=D})):=by
 obtain⟨y1,y2⟩:=aI.new (δ:=0) (ψ:=0) (o:= .fL true) (x:= .deferred (some [])) (H':=(cA h (.fL true)).heap.get) hh hf rfl (fun i=>T.aL _ _ _ _)
 refine⟨_,_,w.heap.size,[{target:= .collected w.heap.size,args:= #[]}],y1,y2,⟨_,aU.cE _ _ _,rfl⟩, .cons _ _ _ _ ⟨_,aU.cE _ _ _,rfl⟩ .nil,?_⟩
 simp[Instr.enterLoop]
theorem nQ(hD:gZ P){call round:cI}(hc:dv P call)(hr:gF P round){rdd:Option Nat}{ops:Array Oper}{draw:Bool}{fr fr':Fr}{h h':Hs}(he:oQ P call round rdd ops draw fr h=some (fr',h'))(id:Nat):Mod h h'/\
 ∀(ρ:aU)(w:World)(a:Act)(n:Nat)(F:Fence),cw ρ rdd F->eG ρ fr a->aI ρ h.heap.get w->bC ρ h.next h'.next->(Code.region id ops draw).wpIn F n P (mF ρ h w .normal fr' h') a w:=by
 unfold oQ at he
 split at he
 ·obtain⟨m,k⟩:=Ct hc hr _ _ _ _ _ he
  exact⟨m,fun ρ w a n F hF hfr hh hf=>wpIn_region_list (k ρ w a n F hF hfr hh hf _ fun a' w' q=>⟨rfl,q⟩)⟩
 ·split at he
  ·rename_i ms hms
   obtain⟨m,k⟩:=hD call round hc hr rdd ops ms fr h fr' h' hms he
   exact⟨m,fun ρ w a n F hF hfr hh hf=>k ρ w a n F hF hfr hh hf _ id fun a' w' q=>⟨rfl,q⟩⟩
  ·cases he
theorem mF.exit{ρ:aU}{h:Hs}{w:World}{e:af}{fr':Fr}{h':Hs}{e':Exit}{a':Act}{w':World}(hp:mF ρ h w e fr' h' e' a' w'):e'=fU e:=hp.1
theorem Hj(hD:gZ P){ex:u5}{call:cI}(hex:uA P ex)(hc:dv P call): ∀rdd c fr h e fr' h',wu P ex call rdd c fr h=some (e,fr',h')->Mod h h'/\
 ∀ρ w a n F,cw ρ rdd F->eG ρ fr a->aI ρ h.heap.get w->bC ρ h.next h'.next->c.wpIn F n P (mF ρ h w e fr' h') a w:=by
 intro rdd c fr h e fr' h' he
 have stay: ∀{ρ:aU} {w:World} {a:Act} (x:af),eG ρ fr a->aI ρ h.heap.get w->mF ρ h w x fr h (fU x) a w:=fun x h1 h2=>⟨rfl,_,h1,h2,Step.refl _ _ _ _ _⟩
 unfold wu at he
 split at he
 ·cases he;exact⟨Mod.refl _,fun ρ w a n F hF hfr hh hf=>wpIn_skip (stay .normal hfr hh)⟩
 ·cases he;exact⟨Mod.refl _,fun ρ w a n F hF hfr hh hf=>wpIn_label (stay .normal hfr hh)⟩
 ·
  split at he
  ·rename_i fr1 h1 h2
   obtain⟨m1,k1⟩:=hex _ _ _ _ _ _ _ h2
   obtain⟨m2,k2⟩:=hex _ _ _ _ _ _ _ he
   refine⟨m1.trans m2,fun ρ w a n F hF hfr hh hf=>wpIn_seq ?_⟩
   refine wpIn_mono (k1 ρ w a n F hF hfr hh (hf.sub (Nat.le_refl _) m2.next)) fun e1 a1 w1 hp=>?_
   obtain⟨rfl,ρ1,x1,x2,x3⟩:=hp
   refine wpIn_mono (k2 ρ1 w1 a1 n F (hF.mono x3.ext) x1 x2 (x3.fresh hf m1.next)) fun e2 a2 w2 hp=>?_
   exact⟨hp.1,uG.trans x3 m1.next m2.next hp.2⟩
  ·rename_i hne
   obtain⟨m1,k1⟩:=hex _ _ _ _ _ _ _ he
   refine⟨m1,fun ρ w a n F hF hfr hh hf=>wpIn_seq ?_⟩
   refine wpIn_mono (k1 ρ w a n F hF hfr hh hf) fun e1 a1 w1 hp=>?_
   have:=hp.1;subst this
   cases e with
   |normal=>exact(hne _ _ he).elim
   |exit i=>exact hp
   |goto l=>exact hp
   |ret=>exact hp
 ·
  split at he
  ·rename_i hev
   obtain⟨m1,k1⟩:=hex _ _ _ _ _ _ _ he
   refine⟨m1,fun ρ w a n F hF hfr hh hf=>?_⟩
   have hv:=aJ hfr.tr hev
   generalize hx:a.eval _=x at hv
   cases hv
   exact wpIn_cond_true hx (k1 ρ w a n F hF hfr hh hf)
  ·rename_i hev
   obtain⟨m1,k1⟩:=hex _ _ _ _ _ _ _ he
   refine⟨m1,fun ρ w a n F hF hfr hh hf=>?_⟩
   have hv:=aJ hfr.tr hev
   generalize hx:a.eval _=x at hv
   cases hv
   exact wpIn_cond_false hx (k1 ρ w a n F hF hfr hh hf)
  ·cases he
 ·
  rename_i id b
  split at he
  ·rename_i i fr1 h1 hb
   obtain⟨m1,k1⟩:=hex _ _ _ _ _ _ _ hb
   split at he
   ·rename_i hi
    have hi':=Nat.eq_of_beq_eq_true hi
    cases he
    refine⟨m1,fun ρ w a n F hF hfr hh hf=>wpIn_block ?_⟩
    refine wpIn_mono (k1 ρ w a n F hF hfr hh hf) fun e1 a1 w1 hp=>?_
    obtain⟨rfl,hp⟩:=hp
    simp only[fU,Exit.inBlock,hi',if_true]
    exact⟨rfl,hp⟩
   ·rename_i hi
    have hi': ¬i=id:=Nat.ne_of_beq_eq_false hi
    cases he
    refine⟨m1,fun ρ w a n F hF hfr hh hf=>wpIn_block ?_⟩
    refine wpIn_mono (k1 ρ w a n F hF hfr hh hf) fun e1 a1 w1 hp=>?_
    obtain⟨rfl,hp⟩:=hp
    simp only[fU,Exit.inBlock,hi',if_false]
    exact⟨rfl,hp⟩
  ·rename_i hne
   obtain⟨m1,k1⟩:=hex _ _ _ _ _ _ _ he
   refine⟨m1,fun ρ w a n F hF hfr hh hf=>wpIn_block ?_⟩
   refine wpIn_mono (k1 ρ w a n F hF hfr hh hf) fun e1 a1 w1 hp=>?_
   have:=hp.1;subst this
   cases e with
   |normal=>exact hp
   |exit i=>exact(hne _ _ _ he).elim
   |goto l=>exact hp
   |ret=>exact hp
 ·cases he;exact⟨Mod.refl _,fun ρ w a n F hF hfr hh hf=>wpIn_exit (stay (.exit _) hfr hh)⟩
 ·cases he;exact⟨Mod.refl _,fun ρ w a n F hF hfr hh hf=>wpIn_goto (stay (.goto _) hfr hh)⟩
 ·cases he;exact⟨Mod.refl _,fun ρ w a n F hF hfr hh hf=>wpIn_ret (stay .ret hfr hh)⟩
 ·
  split at he
  ·rename_i fr1 h1 hreg
   cases he
   exact nQ hD hc (Dz hex) hreg _
  ·cases he
 ·
  split at he
  ·rename_i g first cap hev
   cases rdd with
   |none=>
    dsimp only at he
    exact vk (rdd:=none) hc hev he (Mod.new h _) fun ρ w a F hF hfr hh hf hlt fn=>by
     cases hF
     exact Bx hh (hf _ (Nat.le_refl _) hlt)
   |some l=>
    dsimp only at he
    split at he
    ·rename_i dk mark hx heq
     split at heq
     ·rename_i r hb
      cases heq
      exact vk (rdd:=some l) hc hev he (Mod.refl h) fun ρ w a F hF hfr hh hf hlt fn=>by
       obtain⟨L,hL,rfl⟩:=hF
       obtain⟨r',hx,hget,s1,s2,s3,s4,s5,s6,LD,hLD,s7⟩:=il (P:=P) hh hb hL
       refine⟨ρ,w,_,[],hh,Step.refl _ _ _ _ _,⟨LD,hLD,s7⟩, .nil,?_⟩
       simp only[Instr.enterLoop,Fence.inRound_round]
       rw[hget]
       simp
     ·cases heq
    ·cases he
  ·cases he
 ·cases he
def yO:aU:=fun _=>none
end
end Go.AV
