/-
  A part of the proof: lemmas of my own.
-/
import GoSem.Dispatch
import Derived.Laws.World
import Derived.Laws.Sem
import Derived.Laws.Append
import GoSem.Machine.Return
import Derived.RangeFuncLeaves
import Derived.OrdersIn
import Derived.Laws.Cells
import Derived.Below
import Derived.IntWalk
import Derived.KernelRfl
import Derived.Laws.IdiomStrings
import Derived.RangeFuncCalls
import Derived.TacticsIn
import Derived.LoopNIn
set_option linter.unusedVariables false
set_option linter.unusedSimpArgs false
namespace Go.AV
theorem ru{P:Program}{w:World}{t:TypeId}{d:TypeDesc}(h:P.underlying t=some d):(underlying t).run P w= .ok d w:=by
 simp[underlying,h]
theorem rt{P:Program}{w:World}{t:TypeId}{i:TypeInfo}(h:P.info? t=some i):(typeInfo t).run P w= .ok i w:=by
 simp[typeInfo,h]
theorem rs{P:Program}{w:World}{t:TypeId}{i:TypeInfo}(h:P.info? t=some i):(sizeOf t).run P w= .ok i.size w:=by
 simp[sizeOf,rt h]
theorem rz{P:Program}{w:World}{t:TypeId}{i:TypeInfo}{z:Value}(h:P.info? t=some i)(hz:i.zero=some z):(zeroValue t).run P w= .ok z w:=by
 simp[zeroValue,rt h,hz]
theorem rn{P:Program}{w:World}(elem:TypeId)(c:Array Value):(newRow elem c).run P w= .ok ⟨w.heap.size,0,none⟩ (w.alloc (.cells c elem)):=by
 simp[newRow]
section
variable{P:Program}{w:World}
def su:TypeDesc->Bool
 | .int _=>false
 |_=>true
structure Room(P:Program)(e:TypeId)(i:TypeInfo)(n:Nat)(z:Value):Prop where
 info:P.info? e=some i
 zero:i.zero=some z
 size:z.cells.size=i.size
 bytes:n*i.bytes<=1099511627776
 len:n<=1099511627776
 pos:0<i.bytes
 small:i.bytes<=1048576
theorem uK(z:Array Value)(n:Nat):(Builtin.zeroCells z n).size=n*z.size:=by simp[Builtin.zeroCells]
set_option maxHeartbeats 2000000 in
theorem fm{st xt e ty:TypeId}{i:TypeInfo}{xd:TypeDesc}{base:Option Addr}{len cap n:Nat}{x':Value}{new':List Value}{w':World}(hu:P.underlying st=some (.slice e))(hxu:P.underlying xt=some xd)(hxd:su xd=true)
 (hi:P.info? e=some i) (hn:(Builtin.lenOf x').run P w= .ok n w) (pR:(Builtin.firstCells i.size n x').run P w= .ok ⟨new'⟩ w) (hle:len+n<=cap)
 (hst:match base with|none=>w'=w|some a=>(storeCells (a.add (len*i.size)) new').run P w= .ok () w'):
 (Builtin.append_ #[st,xt] ty #[.slice base len cap,x']).run P w= .ok (.slice base (len+n) cap) w':=by
 cases base with
 |none=>
  subst hst
  cases xd<;>first
   |(simp[su] at hxd;done)
   |simp[Builtin.append_,ru hu,ru hxu,rs hi,hn,hle,pR]
 |some a=>
  cases xd<;>first
   |(simp[su] at hxd;done)
   |simp[Builtin.append_,ru hu,ru hxu,rs hi,hn,hle,pR,hst]
set_option maxHeartbeats 2000000 in
theorem gZ{st xt e ty:TypeId}{i:TypeInfo}{xd:TypeDesc}{base:Option Addr}{len cap n:Nat}{x' z:Value}{new' old':List Value}(hu:P.underlying st=some (.slice e))(hxu:P.underlying xt=some xd)(hxd:su xd=true)
 (hroom:Room P e i (len+n) z) (hn:(Builtin.lenOf x').run P w= .ok n w) (pR: ∀w1:World,w1.heap=w.heap->(Builtin.firstCells i.size n x').run P w1= .ok ⟨new'⟩ w1) (hlt:cap<len+n)
 (hold: ∀w1:World,w1.heap=w.heap->(Builtin.firstCells i.size len (.slice base len cap)).run P w1= .ok ⟨old'⟩ w1):
 ∃ψ,(Builtin.append_ #[st,xt] ty #[.slice base len cap,x']).run P w= .ok (.slice (some ⟨w.heap.size,0,none⟩) (len+n) (len+n+ψ)) (w.drew.alloc (.cells ((⟨old'⟩:Array Value)++((⟨new'⟩:Array Value)++Builtin.zeroCells z.cells ψ)) e)):=by
 have hi:=hroom.info
 have hbz:i.bytes≠0:=by have:=hroom.pos;omega
 have hfit: ¬Builtin.nextslicecap (len+n) cap*i.bytes>2 ^ 48:=by
  have:=growslice_fits (bytes:=i.bytes) hlt (by have:=hroom.bytes;omega)
  omega
 refine⟨w.tape w.drawn (.appendCap (len+n) cap e) % (2 ^ 63 - (len+n)),?_⟩
 have hnle: ¬len+n<=cap:=by omega
 have hold':=hold w.drew rfl
 have hnew':=pR w.drew rfl
 have hcut':(Question.appendCap (len+n) cap e).cut (w.tape w.drawn (.appendCap (len+n) cap e))=len+n+w.tape w.drawn (.appendCap (len+n) cap e) % (2 ^ 63 - (len+n)):=rfl
 generalize w.tape w.drawn (.appendCap (len+n) cap e) % (2 ^ 63 - (len+n))=ψ at*
 cases xd<;>first
  |(simp[su] at hxd;done)
  |(simp[Builtin.append_,ru hu,ru hxu,rs hi,rt hi,hn,hnle,hbz,hfit,Question.forced,hold',hnew',rz hi hroom.zero,rn,hcut'];done)
end
inductive T (α:Type) where
 |leaf
 |node (l:T α) (v:Option α) (r:T α)
def T.get{α:Type}:T α->Nat->Option α
 | .leaf,_=>none
 | .node _ v _,0=>v
 | .node l _ r,n+1=>match n % 2 with
   |0=>l.get (n / 2)
   |_=>r.get (n / 2)
def T.put{α:Type}:Nat->T α->Nat->Option α->T α
 |0,t,_,_=>t
 |_+1, .leaf,0,x=> .node .leaf x .leaf
 |_+1, .node l _ r,0,x=> .node l x r
 |f+1, .leaf,n+1,x=>match n % 2 with
  |0=> .node (T.put f .leaf (n / 2) x) none .leaf
  |_=> .node .leaf none (T.put f .leaf (n / 2) x)
 |f+1, .node l v r,n+1,x=>match n % 2 with
  |0=> .node (T.put f l (n / 2) x) v r
  |_=> .node l v (T.put f r (n / 2) x)
def T.set{α:Type}(t:T α)(n:Nat)(x:α):T α:=T.put (n+1) t n (some x)
def T.del{α:Type}(t:T α)(n:Nat):T α:=T.put (n+1) t n none
theorem T.dP{α:Type}(m:Nat):(T.leaf:T α).get m=none:=by cases m<;>rfl
def T.lt{α:Type}:T α->T α| .leaf=> .leaf| .node l _ _=>l
def T.rt{α:Type}:T α->T α| .leaf=> .leaf| .node _ _ r=>r
def T.vl{α:Type}:T α->Option α| .leaf=>none| .node _ v _=>v
theorem T.gl{α:Type}(t:T α)(n:Nat):t.get (n+1)=if n % 2=0 then t.lt.get (n / 2) else t.rt.get (n / 2):=by
 cases t with
 |leaf=>simp[T.lt,T.rt,T.get]
 |node l v r=>
  simp only[T.get,T.lt,T.rt]
  split
  ·rename_i h;rw[if_pos h]
  ·rename_i h;rw[if_neg h]
theorem T.B8{α:Type}(t:T α):t.get 0=t.vl:=by cases t<;>rfl
theorem T.qE{α:Type}(f n:Nat)(t:T α)(x:Option α):T.put (f+1) t (n+1) x=
 if n % 2=0 then .node (T.put f t.lt (n / 2) x) t.vl t.rt else .node t.lt t.vl (T.put f t.rt (n / 2) x):=by
 cases t<;>(simp only[T.put,T.lt,T.rt,T.vl];split<;>(rename_i h;first|rw[if_pos h]|rw[if_neg h]))
theorem T.vk{α:Type}(f:Nat)(t:T α)(x:Option α):T.put (f+1) t 0 x= .node t.lt x t.rt:=by cases t<;>rfl
theorem T.Fv{α:Type}(x:Option α): ∀(f n:Nat)(t:T α)(m:Nat),n<f->(T.put f t n x).get m=if m=n then x else t.get m:=by
 intro f
 induction f with
 |zero=>intro n t m h;omega
 |succ f ih=>
  intro n t m h
  cases n with
  |zero=>
   rw[T.vk]
   cases m with
   |zero=>simp[T.get]
   |succ m=>rw[T.gl,T.gl];simp[T.lt,T.rt]
  |succ k=>
   have hk:k / 2<f:=by omega
   rw[T.qE]
   cases m with
   |zero=>rw[T.B8,T.B8];split<;>simp[T.vl]
   |succ m=>
    rw[T.gl,T.gl]
    by_cases hk2:k % 2=0
    ·rw[if_pos hk2]
     by_cases hm2:m % 2=0
     ·rw[if_pos hm2,if_pos hm2]
      simp only[T.lt]
      rw[ih _ _ _ hk]
      by_cases he:m=k
      ·subst he;simp
      ·rw[if_neg (by omega),if_neg (by omega)]
     ·rw[if_neg hm2,if_neg hm2,if_neg (by omega)];rfl
    ·rw[if_neg hk2]
     by_cases hm2:m % 2=0
     ·rw[if_pos hm2,if_pos hm2,if_neg (by omega)];rfl
     ·rw[if_neg hm2,if_neg hm2]
      simp only[T.rt]
      rw[ih _ _ _ hk]
      by_cases he:m=k
      ·subst he;simp
      ·rw[if_neg (by omega),if_neg (by omega)]
theorem T.aH{α:Type}(t:T α)(n m:Nat)(x:α):(t.set n x).get m=if m=n then some x else t.get m:=T.Fv _ _ _ _ _ (Nat.lt_succ_self n)
theorem T.fC{α:Type}(t:T α)(n m:Nat):(t.del n).get m=if m=n then none else t.get m:=T.Fv _ _ _ _ _ (Nat.lt_succ_self n)
structure aV where
 cells:List Value
 cap:Nat
 ko:Nat
 elem:TypeId
 exact:Bool
 whole:Bool
 bN:Nat
 own:Bool
inductive pf where
 |call (f:FuncId) (args captured:List Value)
 |mark (r:Nat)
abbrev Tm:=T Value
structure LO where
 st:LoopState
 pending:Option Code
 tm:Tm
 n:Nat
 params:List Tmp
 assign:Code
 body:Code
 defers:Nat
inductive aa where
 |az (b:aV)
 |map (es:List MapEntry) (clock:Nat)
 |qp (s:ByteArray) (pos:Nat)
 |dK (m:Option Nat) (since:Nat) (seen:List Nat) (stepped:Nat)
 |loop (l:LO)
 |gm (opened:Bool)
structure Hs where
 heap:T aa
 next:Nat
 log:List Nat
def simple:Value->Bool
 | .bool _| .int _ _| .string _| .pointer none| .slice none _ _| .map none| .nilFunc| .nilIface| .float _ _=>true
 | .slice (some ⟨_,_,some _⟩) 0 0=>true
 |_=>false
def rd(tm:Tm)(t:Nat):Value:=match tm.get t with|some v=>v|none=>undef
def tP:Value:= .chan none
def zG:Value->Option Value
 | .chan _=>none
 |v=>some v
def ev(tm:Tm):Operand->Option Value
 | .tmp t=>zG (rd tm t)
 | .const v=>match simple v with|true=>some v|false=>none
 | .global _=>none
 | .func f=>some (.func (.func f) #[] #[])
def AJ(tm:Tm):List Operand->Option (List Value)
 |[]=>some []
 |x::l=>match ev tm x with
  |some v=>match AJ tm l with
   |some vs=>some (v::vs)
   |none=>none
  |none=>none
def jK(tm:Tm):List (Nat × Operand)->Option (List (Nat × Value))
 |[]=>some []
 |(i,x)::l=>match ev tm x with
  |some v=>match jK tm l with
   |some vs=>some ((i,v)::vs)
   |none=>none
  |none=>none
def prun{α:Type}(P:Program):Sem α->Option α
 | .pure a=>some a
 | .program k=>prun P (k P)
 | .mark _ k=>prun P k
 |_=>none
mutual
def aC:Value->Bool
 | .bool _| .int _ _| .string _| .float _ _| .nilFunc| .nilIface| .pointer none| .slice none _ _| .map none=>true
 | .agg ⟨cs⟩=>bJ cs
 | .tuple ⟨cs⟩=>bJ cs
 |_=>false
def bJ:List Value->Bool
 |[]=>true
 |v::l=>match aC v with|true=>bJ l|false=>false
end
def aZ:Value->List Value
 | .agg cs=>cs.toList
 |v=>[v]
def vY:Value->Bool
 | .agg _| .tuple _=>false
 |_=>true
def cB:List Value->Bool
 |[]=>true
 |v::l=>match vY v with|true=>cB l|false=>false
def takeN{α:Type}:Nat->List α->Option (List α)
 |0,_=>some []
 |_+1,[]=>none
 |n+1,a::l=>match takeN n l with|some r=>some (a::r)|none=>none
def je{α:Type}:Nat->List α->List α
 |0,l=>l
 |_+1,[]=>[]
 |n+1,_::l=>je n l
def nth{α:Type}:List α->Nat->Option α
 |[],_=>none
 |a::_,0=>some a
 |_::l,n+1=>nth l n
def overwrite:List Value->Nat->List Value->Option (List Value)
 |cs,0,[]=>some cs
 |[],0,vs=>some vs
 |_::cs,0,v::vs=>match overwrite cs 0 vs with|some r=>some (v::r)|none=>none
 |c::cs,n+1,vs=>match overwrite cs n vs with|some r=>some (c::r)|none=>none
 |[],_+1,_=>none
def lz:TypeDesc->Bool
 | .struct _| .array _ _=>true
 |_=>false
def oH(P:Program)(h:Hs)(t:TypeId)(b off:Nat):Option Value:=
 match h.heap.get b with
 |some (.az k)=>
  match P.underlying t with
  |some d=>match lz d with
   |true=>match P.info? t with
    |some i=>match takeN i.size (je off k.cells) with
     |some cs=>some (.agg ⟨cs⟩)
     |none=>none
    |none=>none
   |false=>nth k.cells off
  |none=>none
 |_=>none
def dF(h:Hs)(b off:Nat)(vs:List Value):Option Hs:=
 match h.heap.get b with
 |some (.az k)=>
  match k.own,k.bN with
  |true,0|true,1=>
   match cB vs,overwrite k.cells off vs with
   |true,some cs=>match Nat.ble cs.length k.cap with
    |true=>some {h with heap:=h.heap.set b (.az {k with cells:=cs}),log:=b::h.log}
    |false=>none
   |_,_=>none
  |_,_=>none
 |_=>none
def cL(h:Hs)(o:aa):Hs:={heap:=h.heap.set h.next o,next:=h.next+1,log:=h.log}
def ia(h:Hs)(elem ko:Nat)(cells:List Value):Hs:=
 cL h (.az {cells,cap:=cells.length,ko,elem,exact:=true,whole:=true,bN:=0,own:=true})
def ptrTo(id:Nat):Value:= .pointer (some ⟨id,0,none⟩)
inductive bZ where
 |val (v:Value) (h:Hs)
 |skip (h:Hs)
 |call (f:FuncId) (args:List Value)
 |round (l:Nat) (args:List Value)
 |gm (d:pf)
def vn(P:Program)(s:Sem Value):Option Value:=match prun P s with
 |some v=>match aC v with
  |true=>some v
  |false=>none
 |none=>none
def Fx(P:Program)(h:Hs)(d:TypeDesc)(x y:Value):Option Bool:=match d,x,y with
 | .pointer _, .pointer none, .pointer b=>some b.isNone
 | .pointer _, .pointer (some _), .pointer none=>some false
 | .pointer e, .pointer (some a), .pointer (some b)=>match P.info? e,a.spot,b.spot with
   |some i,none,none=>match i.size with
    |0=>none
    |_+1=>
     match Nat.beq a.block b.block,h.heap.get a.block,h.heap.get b.block with
     |true,_,_=>some (Nat.beq a.off b.off)
     |false,some (.az k),some (.az l)=>match l.own,k.bN,l.bN with
      |true,0,0=>some false
      |_,_,_=>none
     |_,_,_=>none
   |_,_,_=>none
 | .slice _, .slice none _ _, .slice b _ _=>some b.isNone
 | .slice _, .slice (some _) _ _, .slice none _ _=>some false
 | .map _ _, .map none, .map b=>some b.isNone
 | .map _ _, .map (some _), .map none=>some false
 | .func _ _ _, .func .., .nilFunc=>some false
 | .func _ _ _, .nilFunc, .func .. =>some false
 |_,_,_=>none
def Az(P:Program)(h:Hs)(op:BinOp)(xt:TypeId)(ox oy:Operand)(x y:Value):Option Value:=
 match aC x,aC y with
 |true,true=>vn P (do eqGuard op xt ox oy x y;binOp op xt x y)
 |_,_=>match P.underlying xt with
  |some d=>match op with
   | .eql=>match Fx P h d x y with|some b=>some (.bool b)|none=>none
   | .neq=>match Fx P h d x y with|some b=>some (.bool (!b))|none=>none
   |_=>none
  |none=>none
def zF:List Value->Bool
 |[]=>false
 |_::_=>true
def Ah(v:Value)(hi:Nat):Option Nat:=match v with
 | .int _ (.ofNat i)=>match Nat.ble i hi with|true=>some i|false=>none
 |_=>none
def bR(tm:Tm)(o:Option Operand)(dflt hi:Nat):Option Nat:=match o with
 |none=>match Nat.ble dflt hi with
  |true=>some dflt
  |false=>none
 |some o=>match ev tm o with
  |some v=>Ah v hi
  |none=>none
def qo(tm:Tm)(s:ByteArray)(lo hi:Option Operand):Option Value:=
 match bR tm hi s.size s.size with
 |some h=>match bR tm lo 0 h with
  |some l=>some (.string (s.extract l h))
  |none=>none
 |none=>none
def DX:Value:= .slice (some ⟨0,0,some 0⟩) 0 0
def gY(h:Hs)(tm:Tm)(size:Nat)(a:Option Addr)(len cap:Nat)(lo hi mx:Option Operand):Option bZ:=
 match a,mx with
 |none,none=>
  match cap,bR tm hi len cap with
  |0,some hh=>match bR tm lo 0 hh with
   |some l=>some (.val (.slice none (hh - l) (cap - l)) h)
   |none=>none
  |_,_=>none
 |some ad,none=>
  match ad.spot,h.heap.get ad.block,bR tm hi len cap with
  |none,some (.az k),some hh=>match bR tm lo 0 hh with
   |some l=>match Nat.beq cap l with
    |false=>some (.val (.slice (some ⟨ad.block,ad.off+l*size,none⟩) (hh - l) (cap - l)) h)
    |true=>match k.exact with
     |true=>some (.val (.slice (some ad) (hh - l) (cap - l)) h)
     |false=>match k.own,k.bN,Nat.beq (ad.off+cap*size) k.cap && Nat.beq k.ko size with
      |true,0,true=>some (.val (.slice (some ⟨h.next,0,none⟩) 0 0)
       {heap:=(h.heap.del ad.block).set h.next (.az {cells:=[],cap:=0,ko:=size,elem:=k.elem,exact:=false,whole:=false,bN:=0,own:=true}),next:=h.next+1,log:=ad.block::h.log})
      |_,_,_=>some (.val (.slice (some ⟨h.next,0,none⟩) 0 0) {h with next:=h.next+1})
   |none=>none
  |_,_,_=>none
 |some ad,some mo=>
  match bR tm (some mo) 0 cap with
  |some m=>match bR tm hi len m,hi with
   |some hh,some _=>match bR tm lo 0 hh with
    |some l=>match Nat.beq m l with
     |true=>some (.val DX h)
     |false=>match ad.spot,h.heap.get ad.block with
      |none,some (.az k)=>match Nat.beq hh m,k.own with
       |true,true=>match takeN ((hh - l)*size) (je (ad.off+l*size) k.cells) with
        |some cs=>
         some (.val (.slice (some ⟨h.next,0,none⟩) (hh - l) (hh - l))
          {heap:=(h.heap.del ad.block).set h.next (.az {k with cells:=cs,cap:=(hh - l)*size,ko:=size,exact:=true,whole:=false,own:=zF cs}),next:=h.next+1,log:=ad.block::h.log})
        |none=>none
       |_,_=>none
      |_,_=>none
    |none=>none
   |_,_=>none
  |none=>none
 |none,some mo=>
  match cap,bR tm (some mo) 0 cap,hi with
  |0,some m,some ho=>match bR tm (some ho) 0 m with
   |some hh=>match bR tm lo 0 hh with
    |some l=>some (.val (.slice none (hh - l) (m - l)) h)
    |none=>none
   |none=>none
  |_,_,_=>none
def mP(P:Program)(tm:Tm)(h:Hs)(xt:TypeId)(x:Value)(lo hi mx:Option Operand):Option bZ:=
 match P.underlying xt,x with
 |some .string, .string s=>match mx with
  |none=>match qo tm s lo hi with|some v=>some (.val v h)|none=>none
  |some _=>none
 |some (.slice e), .slice a len cap=>match P.info? e with
  |some i=>gY h tm i.size a len cap lo hi mx
  |none=>none
 |some (.array n e), .pointer (some ad)=>match P.info? e,mx,ad.spot,h.heap.get ad.block with
  |some i,none,none,some (.az k)=>match k.exact,bR tm hi n n with
   |true,some hh=>match bR tm lo 0 hh with
    |some l=>match Nat.beq n l with
     |true=>some (.val (.slice (some ad) (hh - l) (n - l)) h)
     |false=>some (.val (.slice (some ⟨ad.block,ad.off+l*i.size,none⟩) (hh - l) (n - l)) h)
    |none=>none
   |_,_=>none
  |_,_,_,_=>none
 |_,_=>none
def pY:List UInt8->List Value
 |[]=>[]
 |b::l=> .int .u8 b.toNat::pY l
def Qt:List Value->Option (List UInt8)
 |[]=>some []
 | .int .u8 (.ofNat n)::l=>match Qt l with|some r=>some (UInt8.ofNat n::r)|none=>none
 |_::_=>none
def eD(h:Hs)(size n:Nat):Value->Option (List Value)
 | .slice none _ _=>some []
 | .slice (some a) _ _=>match n with
   |0=>some []
   |_+1=>match a.spot,h.heap.get a.block with
    |none,some (.az k)=>takeN (n*size) (je a.off k.cells)
    |_,_=>none
 | .string s=>match takeN n s.data.toList with
   |some l=>some (pY l)
   |none=>none
 |_=>none
def o6:Value->Option Nat
 | .slice _ n _=>some n
 | .string s=>some s.size
 |_=>none
def kC:Nat:=1099511627776
def u9(i:TypeInfo)(n:Nat):Bool:=match i.zero with
 |some z=>Nat.beq (aZ z).length i.size && Nat.ble (n*i.bytes) kC && Nat.ble n kC && Nat.blt 0 i.bytes && Nat.ble i.bytes 1048576
 |none=>false
def fX(P:Program)(h:Hs)(ats:List TypeId)(s x:Value):Option bZ:=
 match ats with
 |[st,xt]=>
  match P.underlying st,P.underlying xt with
  |some (.slice e),some xd=>match xd,P.info? e with
   | .int _,_=>none
   |_,some i=>match o6 x,s with
    |some n, .slice base len cap=>
     match eD h i.size n x with
     |some new=>
      match Nat.ble (len+n) cap with
      |true=>match base with
       |none=>match new with|[]=>some (.val (.slice none (len+n) cap) h)|_=>none
       |some a=>match a.spot,new with
        |none,[]=>some (.val (.slice (some a) (len+n) cap) h)
        |none,_=>match dF h a.block (a.off+len*i.size) new with
         |some h=>some (.val (.slice (some a) (len+n) cap) h)
         |none=>none
        |some _,[]=>some (.val DX h)
        |_,_=>none
      |false=>match u9 i (len+n) && Nat.beq new.length (n*i.size) with
       |true=>match base with
        |none=>match len,cap with
         |0,0=>some (.val (.slice (some ⟨h.next,0,none⟩) n n)
          (cL h (.az {cells:=new,cap:=n*i.size,ko:=i.size,elem:=e,exact:=false,whole:=false,bN:=0,own:=true})))
         |_,_=>none
        |some a=>match a.spot,h.heap.get a.block with
         |some _,_=>some (.val (.slice (some ⟨h.next,0,none⟩) n n)
          (cL h (.az {cells:=new,cap:=n*i.size,ko:=i.size,elem:=e,exact:=false,whole:=false,bN:=0,own:=true})))
         |none,some (.az k)=>match takeN (len*i.size) (je a.off k.cells) with
          |some gK=>match k.exact with
           |true=>some (.val (.slice (some ⟨h.next,0,none⟩) (len+n) (len+n))
            (cL h (.az {cells:=gK++new,cap:=(len+n)*i.size,ko:=i.size,elem:=e,exact:=false,whole:=false,bN:=0,own:=true})))
           |false=>match k.own,k.bN,Nat.beq (a.off+cap*i.size) k.cap,Nat.beq k.ko i.size && Nat.beq k.elem e && cB new with
            |true,0,true,true=>some (.val (.slice (some ⟨h.next,0,none⟩) (len+n) (len+n))
             {heap:=(h.heap.del a.block).set h.next (.az {cells:=gK++new,cap:=(len+n)*i.size,ko:=i.size,elem:=e,exact:=false,whole:=false,bN:=0,own:=true}),next:=h.next+1,log:=a.block::h.log})
            |_,_,_,_=>none
          |none=>none
         |_,_=>none
       |false=>none
     |none=>none
    |_,_=>none
   |_,_=>none
  |_,_=>none
 |_=>none
def aE(P:Program)(kt:TypeId)(k:Value):List MapEntry->Nat->Option (Option (Nat × Value))
 |[],_=>some none
 |e::es,i=>match aC e.key with
  |true=>match prun P (Op.equal kt k e.key) with
   |some true=>some (some (i,e.val))
   |some false=>aE P kt k es (i+1)
   |none=>none
  |false=>none
def sL(P:Program)(kt:TypeId)(k:Value):Bool:=
 match aC k with
 |true=>match prun P (Instr.checkKey false 10000 kt k),prun P (Instr.checkKey true 10000 kt k) with
  |some (),some ()=>true
  |_,_=>false
 |false=>false
def se:Nat->Value->List MapEntry->List MapEntry
 |_,_,[]=>[]
 |0,x,a::l=>{a with val:=x}::l
 |n+1,x,a::l=>a::se n x l
def dr:Nat->Value->Value->List MapEntry->List MapEntry
 |_,_,_,[]=>[]
 |0,k,x,a::l=>{a with key:=k,val:=x}::l
 |n+1,k,x,a::l=>a::dr n k x l
def Gc:Nat->Value->List MapEntry->List MapEntry
 |_,_,[]=>[]
 |0,k,a::l=>{a with key:=k}::l
 |n+1,k,a::l=>a::Gc n k l
def sE:Nat->List MapEntry->List MapEntry
 |_,[]=>[]
 |0,_::l=>l
 |n+1,a::l=>a::sE n l
def rep{α:Type}:Nat->List α->List α
 |0,_=>[]
 |n+1,l=>l++rep n l
def cw(P:Program)(h:Hs)(b:Builtin)(ats:List TypeId)(args:List Value):Option bZ:=
 match b,args with
 | .append,[s,x]=>fX P h ats s x
 | .len,[x]=>match ats with
   |t::_=>match P.underlying t,x with
    |some .string, .string s=>some (.val (goInt s.size) h)
    |some (.array n _),_=>some (.val (goInt n) h)
    |some (.slice _), .slice _ n _=>some (.val (goInt n) h)
    |some (.map _ _), .map none=>some (.val (goInt 0) h)
    |some (.map _ _), .map (some r)=>match h.heap.get r with
     |some (.map es _)=>some (.val (goInt es.length) h)
     |_=>none
    |_,_=>none
   |[]=>none
 | .cap,[x]=>match ats with
   |t::_=>match P.underlying t,x with
    |some (.slice _), .slice none _ n=>some (.val (goInt n) h)
    |some (.slice _), .slice (some a) _ n=>match h.heap.get a.block with
     |some (.az k)=>match k.exact with|true=>some (.val (goInt n) h)|false=>none
     |_=>none
    |_,_=>none
   |[]=>none
 | .copy,[d,s]=>match ats with
   |t::_=>match P.underlying t with
    |some (.slice e)=>match P.info? e,d,o6 s with
     |some i, .slice base dl _,some sl=>match eD h i.size (Nat.min sl dl) s with
      |some cs=>match base,cs with
       |none,_=>some (.val (goInt (Nat.min sl dl)) h)
       |some _,[]=>some (.val (goInt (Nat.min sl dl)) h)
       |some a,_=>match a.spot,dF h a.block a.off cs with
        |none,some h=>some (.val (goInt (Nat.min sl dl)) h)
        |_,_=>none
      |none=>none
     |_,_,_=>none
    |_=>none
   |[]=>none
 | .delete,[m,k]=>match ats with
   |t::_=>match P.underlying t,m with
    |some (.map kt _), .map none=>match sL P kt k with|true=>some (.val (.tuple #[]) h)|false=>none
    |some (.map kt _), .map (some r)=>match sL P kt k,h.heap.get r with
     |true,some (.map es c)=>match aE P kt k es 0 with
      |some (some (i,_))=>some (.val (.tuple #[]) {h with heap:=h.heap.set r (.map (sE i es) c),log:=r::h.log})
      |some none=>some (.val (.tuple #[]) h)
      |none=>none
     |_,_=>none
    |_,_=>none
   |[]=>none
 | .clear,[x]=>match ats with
   |t::_=>match P.underlying t,x with
    |some (.slice e), .slice (some a) n _=>match P.info? e,a.spot with
     |some i,none=>match i.zero,(i.zero.map aC).getD false with
      |some z,true=>match n with
       |0=>some (.val (.tuple #[]) h)
       |_=>match dF h a.block a.off (rep n (aZ z)) with
        |some h=>some (.val (.tuple #[]) h)
        |none=>none
      |_,_=>none
     |_,_=>none
    |_,_=>none
   |[]=>none
 | .min,l=>match bJ l with
   |true=>match vn P (Builtin.min_ #[] 0 ⟨l⟩) with|some v=>some (.val v h)|none=>none
   |false=>none
 | .max,l=>match bJ l with
   |true=>match vn P (Builtin.max_ #[] 0 ⟨l⟩) with|some v=>some (.val v h)|none=>none
   |false=>none
 |_,_=>none
def ob(P:Program)(h:Hs)(src dst:TypeId)(x:Value):Option bZ:=
 match P.underlying src,P.underlying dst with
 |some s,some d=>match s,d,x with
  |_, .int k, .int _ n=>some (.val (.int k (k.wrap n)) h)
  |_, .string, .string t=>some (.val (.string t) h)
  |_,_,_=>none
 |_,_=>none
def rK(P:Program)(h:Hs)(fn:Func)(args:List Value):Option bZ:=none
def uu(fields:Array Field)(i:Nat):Option Field:=nth fields.toList i
def EX(P:Program)(t:TypeId)(cs:List Value)(off:Nat):Option Value:=
 match P.underlying t with
 |some d=>match lz d with
  |true=>match P.info? t with
   |some i=>some (.agg (Array.mk cs|>.extract off (off+i.size)))
   |none=>none
  |false=>nth cs off
 |none=>none
def qF(P:Program):List Field->Option (List (Nat × Nat))
 |[]=>some []
 |f::l=>match P.info? f.type with
  |some i=>match qF P l with
   |some r=>some ((f.offset,i.size)::r)
   |none=>none
  |none=>none
def wb(place:Nat->Option (Nat × Nat))(cells:List Value):List (Nat × Value)->Option (List Value)
 |[]=>some cells
 |(i,v)::rest=>match place i with
  |some (off,size)=>match Nat.beq (aZ v).length size,Nat.ble (off+(aZ v).length) cells.length,overwrite cells off (aZ v) with
   |true,true,some cs=>wb place cs rest
   |_,_,_=>none
  |none=>none
def wJ(P:Program)(tm:Tm)(h:Hs)(t:TypeId)(parts:List (Nat × Operand)):Option bZ:=
 match jK tm parts,P.info? t,P.underlying t with
 |some ps,some ti,some d=>match ti.zero,d with
  |some z, .struct fields=>match aC z,qF P fields.toList with
   |true,some pl=>match wb (nth pl) (aZ z) ps with
    |some cs=>some (.val (.agg ⟨cs⟩) h)
    |none=>none
   |_,_=>none
  |some z, .array _ e=>match aC z,P.info? e with
   |true,some ei=>match wb (fun i=>some (i*ei.size,ei.size)) (aZ z) ps with
    |some cs=>some (.val (.agg ⟨cs⟩) h)
    |none=>none
   |_,_=>none
  |_,_=>none
 |_,_,_=>none
def Ay(P:Program)(h:Hs)(t:TypeId)(x:Value)(f:Nat):Option bZ:=
 match P.underlying t,x with
 |some (.struct fields), .agg ⟨cs⟩=>match uu fields f with
  |some f=>match EX P f.type cs f.offset with
   |some v=>some (.val v h)
   |none=>none
  |none=>none
 |_,_=>none
def Ei(h:Hs):Value->Option (List MapEntry)
 | .map none=>some []
 | .map (some r)=>match h.heap.get r with
   |some (.map es _)=>some es
   |_=>none
 |_=>none
def oV(P:Program)(h:Hs)(t:TypeId)(m k:Value)(ok:Bool):Option bZ:=
 match P.underlying t with
 |some (.map kt e)=>match sL P kt k,Ei h m with
  |true,some es=>match aE P kt k es 0 with
   |some (some (_,v))=>some (.val (match ok with|true=> .tuple #[v, .bool true]|false=>v) h)
   |some none=>match P.info? e with
    |some i=>match i.zero with
     |some z=>match aC z with
      |true=>some (.val (match ok with|true=> .tuple #[z, .bool false]|false=>z) h)
      |false=>none
     |none=>none
    |none=>none
   |none=>none
  |_,_=>none
 |_=>none
def iK(P:Program)(h:Hs)(t:TypeId)(m k x:Value):Option bZ:=
 match P.underlying t,m with
 |some (.map kt _), .map (some r)=>match sL P kt k,h.heap.get r with
  |true,some (.map es c)=>match aE P kt k es 0 with
   |some (some (i,_))=>match nth es i with
    |some e=>match aC e.key && Instr.sameBits 10000 e.key k with
     |true=>some (.skip {h with heap:=h.heap.set r (.map (dr i k x es) c),log:=r::h.log})
     |false=>none
    |none=>none
   |some none=>some (.skip {h with heap:=h.heap.set r (.map (es++[{key:=k,val:=x,born:=c}]) (c+1)),log:=r::h.log})
   |none=>none
  |_,_=>none
 |_,_=>none
def oU(P:Program)(h:Hs)(t:TypeId)(m k:Value):Option bZ:=
 match P.underlying t,m with
 |some (.map kt el), .map (some r)=>match sL P kt k,h.heap.get r with
  |true,some (.map es c)=>match aE P kt k es 0 with
   |some (some (i,v))=>match nth es i with
    |some e=>match aC e.key && Instr.sameBits 10000 e.key k with
     |true=>some (.val (.tuple #[v,goInt e.born]) {h with heap:=h.heap.set r (.map (Gc i k es) c),log:=r::h.log})
     |false=>none
    |none=>none
   |some none=>match P.info? el with
    |some i=>match i.zero with
     |some z=>match aC z with
      |true=>some (.val (.tuple #[z,goInt c]) {h with heap:=h.heap.set r (.map (es++[{key:=k,val:=z,born:=c}]) (c+1)),log:=r::h.log})
      |false=>none
     |none=>none
    |none=>none
   |none=>none
  |_,_=>none
 |_,_=>none
def wA(s:Int):List MapEntry->Nat->Option Nat
 |[],_=>none
 |e::es,i=>match decide ((e.born:Int)=s) with
  |true=>some i
  |false=>wA s es (i+1)
def kX(h:Hs)(m s x:Value):Option bZ:=
 match m,s with
 | .map (some r), .int _ s=>match h.heap.get r with
   |some (.map es c)=>match wA s es 0 with
    |some i=>some (.skip {h with heap:=h.heap.set r (.map (se i x es) c),log:=r::h.log})
    |none=>none
   |_=>none
 |_,_=>none
def lT(n:Nat):List Nat->Bool
 |[]=>false
 |m::l=>match Nat.beq m n with|true=>true|false=>lT n l
def yp(seen:List Nat):List MapEntry->List MapEntry
 |[]=>[]
 |e::es=>match lT e.born seen with
  |true=>yp seen es
  |false=>e::yp seen es
def FT(h:Hs)(it:Value)(isString:Bool):Option bZ:=
 match it with
 | .pointer (some ⟨b,0,none⟩)=>match h.heap.get b,isString with
   |some (.qp s pos),true=>match Nat.blt pos s.size with
    |true=>match Utf8.decode s pos with
     |(c,w)=>some (.val (.tuple #[.bool true,goInt pos, .int .i32 c]) {h with heap:=h.heap.set b (.qp s (pos+w)),log:=b::h.log})
    |false=>some (.val (.tuple #[.bool false]) h)
   |some (.dK none _ _ _),false=>some (.val (.tuple #[.bool false]) h)
   |some (.dK (some m) since seen last),false=>match h.heap.get m with
    |some (.map es c)=>match yp seen es with
     |[]=>match seen,es with
      |[],_=>some (.val (.tuple #[.bool false]) h)
      |_,e::_=>match Nat.blt e.born last with
       |true=>some (.val (.tuple #[.bool false]) h)
       |false=>none
      |_,[]=>some (.val (.tuple #[.bool false]) h)
     |[e]=>match Nat.blt e.born since,seen with
      |true,[]=>some (.val (.tuple #[.bool true,e.key,e.val]) {h with heap:=h.heap.set b (.dK (some m) since (e.born::seen) c),log:=b::h.log})
      |_,_=>none
     |_=>none
    |_=>none
   |_,_=>none
 |_=>none
def fM(st:Nat):List MapEntry->Option MapEntry
 |[]=>none
 |e::es=>match Nat.beq e.born st with
  |true=>some e
  |false=>fM st es
def wI(h:Hs)(it:Value):Option bZ:=
 match it with
 | .pointer (some ⟨b,0,none⟩)=>match h.heap.get b with
   |some (.dK (some m) _ (st::_) stepped)=>match h.heap.get m with
    |some (.map es c)=>match Nat.beq c stepped,fM st es with
     |true,some e=>some (.val (.tuple #[e.key,e.val]) h)
     |_,_=>none
    |_=>none
   |_=>none
 |_=>none
def As(P:Program)(h:Hs)(t:TypeId)(x:Value):Option bZ:=
 match P.underlying t,x with
 |some .string, .string s=>some (.val (ptrTo h.next) (cL h (.qp s 0)))
 |some (.map _ _), .map none=>some (.val (ptrTo h.next) (cL h (.dK none 0 [] 0)))
 |some (.map _ _), .map (some m)=>match h.heap.get m with
  |some (.map _ c)=>some (.val (ptrTo h.next) (cL h (.dK (some m) c [] c)))
  |_=>none
 |_,_=>none
def oc(P:Program)(tm:Tm)(h:Hs)(c:Call):Option bZ:=
 match AJ tm c.args.toList with
 |some args=>match c.callee with
  | .builtin b=>cw P h b c.argTypes.toList args
  | .value f=>match ev tm f with
    |some (.func (.func f) ⟨first⟩ ⟨captured⟩)=>match P.funcs[f]? with
     |some fn=>match fn.body with
      |some _=>match decide (fn.name= "runtime.NumGoroutine") with
       |true=>none
       |false=>some (.call f ((first++args)++captured))
      |none=>rK P h fn ((first++args)++captured)
     |none=>none
    |some (.func (.yield l) ⟨first⟩ _)=>some (.round l (first++args))
    |_=>none
  | .invoke _ _=>none
 |none=>none
def sM(tm:Tm)(c:Call):Option bZ:=
 match AJ tm c.args.toList with
 |some args=>match c.callee with
  | .value f=>match ev tm f with
    |some (.func (.func f) ⟨first⟩ ⟨captured⟩)=>some (.gm (.call f (first++args) captured))
    |_=>none
  |_=>none
 |none=>none
def iL(P:Program)(h:Hs)(t:TypeId)(l c:Value):Option bZ:=
 match P.underlying t,l,c with
 |some (.slice e), .int _ (.ofNat l), .int _ (.ofNat c)=>match P.info? e,Nat.ble l c,Nat.ble c 1048576 with
  |some i,true,true=>match i.zero,Nat.ble i.bytes 1048576 with
   |some z,true=>match aC z,cB (aZ z),Nat.beq (aZ z).length i.size with
    |true,true,true=>some (.val (.slice (some ⟨h.next,0,none⟩) l c) (ia h e i.size (rep c (aZ z))))
    |_,_,_=>none
   |_,_=>none
  |_,_,_=>none
 |_,_,_=>none
def jm(P:Program)(tm:Tm)(h:Hs)(t:TypeId)(len:Nat)(parts:List (Nat × Operand)):Option bZ:=
 match P.underlying t,jK tm parts with
 |some (.slice e),some ps=>match P.info? e with
  |some i=>match i.zero with
   |some z=>match aC z,Nat.beq (aZ z).length i.size,Nat.ble (len*i.size) 16777216,wb (fun j=>some (j*i.size,i.size)) (rep len (aZ z)) ps with
    |true,true,true,some cs=>some (.val (.slice (some ⟨h.next,0,none⟩) len len) (ia h e i.size cs))
    |_,_,_,_=>none
   |none=>none
  |none=>none
 |_,_=>none
def iM(P:Program)(h:Hs)(t:TypeId)(x i:Value):Option bZ:=
 match P.underlying t,x,i with
 |some (.array n e), .pointer (some a), .int _ (.ofNat i)=>match P.info? e,a.spot,Nat.blt i n with
  |some ei,none,true=>some (.val (.pointer (some ⟨a.block,a.off+i*ei.size,none⟩)) h)
  |_,_,_=>none
 |some (.slice e), .slice (some a) n _, .int _ (.ofNat i)=>match P.info? e,a.spot,Nat.blt i n with
  |some ei,none,true=>some (.val (.pointer (some ⟨a.block,a.off+i*ei.size,none⟩)) h)
  |_,_,_=>none
 |_,_,_=>none
def Ax(P:Program)(h:Hs)(t:TypeId)(x i:Value):Option bZ:=
 match P.underlying t,x,i with
 |some (.array n e), .agg ⟨cs⟩, .int _ (.ofNat i)=>match P.info? e,Nat.blt i n with
  |some ei,true=>match EX P e cs (i*ei.size) with
   |some v=>some (.val v h)
   |none=>none
  |_,_=>none
 |some .string, .string s, .int _ (.ofNat i)=>match nth s.data.toList i with
  |some b=>some (.val (.int .u8 b.toNat) h)
  |none=>none
 |_,_,_=>none
def mS(P:Program)(h:Hs)(s:TypeId)(x:Value)(f:Nat):Option bZ:=
 match P.underlying s,x with
 |some (.struct fields), .pointer (some a)=>match uu fields f,a.spot with
  |some f,none=>match P.info? f.type with
   |some i=>match i.size with
    |0=>none
    |_+1=>some (.val (.pointer (some ⟨a.block,a.off+f.offset,none⟩)) h)
   |none=>none
  |_,_=>none
 |_,_=>none
def kE(f:Value->Value->Option bZ)(a b:Option Value):Option bZ:=match a,b with
 |some a,some b=>f a b
 |_,_=>none
def iG(f:Value->Option bZ)(a:Option Value):Option bZ:=match a with
 |some a=>f a
 |none=>none
def Dq(f:Value->Value->Value->Option bZ)(a b c:Option Value):Option bZ:=match a,b,c with
 |some a,some b,some c=>f a b c
 |_,_,_=>none
def wG(P:Program)(h:Hs)(t:TypeId)(a:Value):Option bZ:=match a with
 | .pointer (some ⟨b,off,none⟩)=>match oH P h t b off with
   |some v=>some (.val v h)
   |none=>none
 |_=>none
def qa(P:Program)(h:Hs)(t:TypeId)(a v:Value):Option bZ:=match a with
 | .pointer (some ⟨b,off,none⟩)=>match P.info? t with
   |some i=>match Nat.beq (aZ v).length i.size,aZ v,dF h b off (aZ v) with
    |true,_::_,some h=>some (.skip h)
    |_,_,_=>none
   |none=>none
 |_=>none
def oT(h:Hs)(v:Value):Option bZ:=match v with
 | .pointer (some a)=>some (.val (.pointer (some a)) h)
 | .func (.func f) a b=>some (.val (.func (.func f) a b) h)
 | .func (.yield f) a b=>some (.val (.func (.yield f) a b) h)
 |_=>none
def rJ(h:Hs)(v:Value)(i:Nat):Option bZ:=match v with
 | .tuple ⟨vs⟩=>match nth vs i with
   |some v=>some (.val v h)
   |none=>none
 |_=>none
def Ap(P:Program)(h:Hs)(op:UnOp)(v:Value):Option bZ:=match aC v with
 |true=>match vn P (Op.unary op v) with
  |some v=>some (.val v h)
  |none=>none
 |false=>none
def ep(P:Program)(tm:Tm)(h:Hs)(o:Oper):Option bZ:=
 match o.op with
 | .move x| .assign x=>iG (fun v=>some (.val v h)) (ev tm x)
 | .pick c a b=>match ev tm c with
   |some (.bool true)=>iG (fun v=>some (.val v h)) (ev tm a)
   |some (.bool false)=>iG (fun v=>some (.val v h)) (ev tm b)
   |_=>none
 | .alloc e=>match P.info? e with
   |some i=>match i.zero with
    |some z=>match aC z with
     |true=>some (.val (ptrTo h.next) (ia h e 1 (aZ z)))
     |false=>none
    |none=>none
   |none=>none
 | .box e x=>iG (fun v=>some (.val (ptrTo h.next) (ia h e 1 (aZ v)))) (ev tm x)
 | .build t parts=>wJ P tm h t parts.toList
 | .buildSlice t len parts=>jm P tm h t len parts.toList
 | .load t a=>iG (wG P h t) (ev tm a)
 | .store t a x=>kE (qa P h t) (ev tm a) (ev tm x)
 | .nilCheck x=>iG (oT h) (ev tm x)
 | .binOp op xt x y _=>kE (fun a b=>match Az P h op xt x y a b with|some v=>some (.val v h)|none=>none) (ev tm x) (ev tm y)
 | .unOp op _ x=>iG (Ap P h op) (ev tm x)
 | .convert s d x=>iG (ob P h s d) (ev tm x)
 | .makeFunc fn first captured=>match fn with
   | .func _=>match AJ tm first.toList,AJ tm captured.toList with
     |some f,some c=>some (.val (.func fn ⟨f⟩ ⟨c⟩) h)
     |_,_=>none
   |_=>none
 | .makeMap _ r=>match r with
   |none=>some (.val (.map (some h.next)) (cL h (.map [] 0)))
   |some _=>none
 | .makeSlice t l c=>kE (iL P h t) (ev tm l) (ev tm c)
 | .slice t x lo hi mx=>iG (fun v=>mP P tm h t v lo hi mx) (ev tm x)
 | .fieldAddr s x f=>iG (fun v=>mS P h s v f) (ev tm x)
 | .field t x f=>iG (fun v=>Ay P h t v f) (ev tm x)
 | .indexAddr t x i=>kE (iM P h t) (ev tm x) (ev tm i)
 | .index t x i=>kE (Ax P h t) (ev tm x) (ev tm i)
 | .lookup t m k ok=>kE (fun m k=>oV P h t m k ok) (ev tm m) (ev tm k)
 | .mapUpdate t m k x| .insert t m k x=>Dq (iK P h t) (ev tm m) (ev tm k) (ev tm x)
 | .mapEntry t m k=>kE (oU P h t) (ev tm m) (ev tm k)
 | .entryStore _ m s x=>Dq (kX h) (ev tm m) (ev tm s) (ev tm x)
 | .range t x=>iG (As P h t) (ev tm x)
 | .next it isString=>iG (fun v=>FT h v isString) (ev tm it)
 | .entry it=>iG (wI h) (ev tm it)
 | .extract t i=>iG (fun v=>rJ h v i) (ev tm t)
 | .call c=>oc P tm h c
 | .defer c=>sM tm c
 |_=>none
inductive af where|normal|exit (id:Nat)|goto (l:Nat)|ret
structure Fr where
 tm:Tm
 n:Nat
 gm:List pf
abbrev Out:=Option (af × Fr × Hs)
def Fr.put(fr:Fr)(d:Option Tmp)(v:Value):Option Fr:=match d with
 |some d=>match Nat.blt d fr.n with
  |true=>some {fr with tm:=fr.tm.set d v}
  |false=>none
 |none=>some fr
def gn(ops:Array Oper)(tm:Tm)(o:Oper):Option Bool:=match o.guard with
 |none=>some true
 |some (j,w)=>match (nth ops.toList j).bind (·.dst) with
  |some d=>match rd tm d with
   | .bool b=>some (b==w)
   | .tuple _=>some false
   |_=>none
  |none=>some false
def lh:List Value->Nat->Tm->Tm
 |[],_,t=>t
 |v::l,i,t=>lh l (i+1) (t.set i v)
def uS:List Tmp->List Value->Nat->Tm->Option Tm
 |[],[],_,t=>some t
 |p::ps,v::vs,n,t=>match Nat.blt p n with
  |true=>uS ps vs n (t.set p v)
  |false=>none
 |_,_,_,_=>none
def ej(P:Program)(tm:Tm)(h:Hs):List ResultVar->Option (List Value)
 |[]=>some []
 | .tmp t::l=>match ej P tm h l with
   |some vs=>match zG (rd tm t) with
    |some v=>some (v::vs)
    |none=>none
   |none=>none
 | .cell a t::l=>match rd tm a with
   | .pointer (some ⟨b,off,none⟩)=>match oH P h t b off,ej P tm h l with
     |some v,some vs=>some (v::vs)
     |_,_=>none
   |_=>none
def xg:List Value->Value
 |[v]=>v
 |l=> .tuple ⟨l⟩
abbrev cN:=Nat->List Value->Hs->Option (Value × Hs)
abbrev xy:=Option Nat->Code->Fr->Hs->Out
def D1(P:Program)(ex:xy)(f:Nat)(args:List Value)(h:Hs):Option Hs:=
 match P.funcs[f]? with
 |some fn=>match fn.body,decide (fn.name= "runtime.NumGoroutine") with
  |some body,false=>
   match ex none body {tm:=lh args 0 .leaf,n:=args.length+(fn.ntmps - args.length),gm:=[]} h with
   |some (.normal,fr,h)|some (.ret,fr,h)=>
    match fr.gm,ej P fr.tm h fn.results.toList with
    |[],some _=>some h
    |_,_=>none
   |_=>none
  |_,_=>none
 |none=>none
def tT(P:Program)(ex:xy):List pf->Hs->Option Hs
 |[],h=>some h
 | .call f args captured::ds,h=>match D1 P ex f (args++captured) h with
   |some h=>tT P ex ds h
   |none=>none
 | .mark r::ds,h=>match h.heap.get r with
   |some (.gm true)=>tT P ex ds {h with heap:=h.heap.set r (.gm false),log:=r::h.log}
   |_=>none
def yI(P:Program)(ex:xy)(call:cN)(f:Nat)(args:List Value)(h:Hs):Option (Value × Hs):=
 match P.funcs[f]? with
 |some fn=>match fn.body with
  |some body=>
   match ex none body {tm:=lh args 0 .leaf,n:=args.length+(fn.ntmps - args.length),gm:=[]} h with
   |some (.normal,fr,h)|some (.ret,fr,h)=>
    match tT P ex fr.gm h with
    |some h=>match ej P fr.tm h fn.results.toList with
     |some vs=>some (xg vs,h)
     |none=>none
    |none=>none
   |_=>none
  |none=>none
 |none=>none
def gy:af->Option Code
 | .normal=>none
 | .ret=>some .ret
 | .exit i=>some (.exit i)
 | .goto i=>some (.goto i)
def Df(ex:xy)(l:Nat)(args:List Value)(h:Hs):Option (Value × Hs):=
 match h.heap.get l with
 |some (.loop r)=>match uS r.params args r.n r.tm with
  |some tm=>match ex (some l) r.assign {tm:=tm,n:=r.n,gm:=[]} h with
   |some (.normal,fr,h)=>match h.heap.get l with
    |some (.loop r1)=>match r1.st with
     | .ready=>match ex (some l) r.body fr {h with heap:=h.heap.set l (.loop {r1 with st:= .busy}),log:=l::h.log} with
       |some (e,_,h)=>match h.heap.get l with
        |some (.loop r)=>some (.bool (gy e).isNone,{h with heap:=h.heap.set l (.loop {r with st:=(match gy e with|none=> .ready|some _=> .done),pending:=gy e}),log:=l::h.log})
        |_=>none
       |none=>none
     |_=>none
    |_=>none
   |_=>none
  |none=>none
 |_=>none
def vA(P:Program)(call round:cN)(rdd:Option Nat)(ops:Array Oper):List Oper->Fr->Hs->Option (Fr × Hs)
 |[],fr,h=>some (fr,h)
 |o::l,fr,h=>
  match gn ops fr.tm o with
  |none=>none
  |some false=>match fr.put o.dst undef with
   |some fr=>vA P call round rdd ops l fr h
   |none=>none
  |some true=>match ep P fr.tm h o with
   |none=>none
   |some (.val v h)=>match fr.put o.dst v with
    |some fr=>vA P call round rdd ops l fr h
    |none=>none
   |some (.skip h)=>match fr.put o.dst undef with
    |some fr=>vA P call round rdd ops l fr h
    |none=>none
   |some (.call f args)=>match call f args h with
    |some (v,h)=>match fr.put o.dst v with
     |some fr=>vA P call round rdd ops l fr h
     |none=>none
    |none=>none
   |some (.round f args)=>match round f args h with
    |some (v,h)=>match fr.put o.dst v with
     |some fr=>vA P call round rdd ops l fr h
     |none=>none
    |none=>none
   |some (.gm d)=>match rdd with
    |none=>match ({fr with gm:=d::fr.gm}:Fr).put o.dst undef with
     |some fr=>vA P call round rdd ops l fr h
     |none=>none
    |some _=>none
def fA(ops:Array Oper)(o:Oper):List Tmp:=
 (o.op.operands.toList.filterMap fun| .tmp t=>some t|_=>none)++o.dst.toList++
 (match o.guard with
  |some (g,_)=>((nth ops.toList g).bind (·.dst)).toList
  |none=>[])
def sx(acc:List Nat)(i:Nat):List Edge->Option Nat
 |[]=>some 0
 |e::es=>match Region.binds .any e with
  |true=>match Nat.blt e.on i,nth acc (i - 1 - e.on),sx acc i es with
   |true,some m,some r=>some (2 ^ e.on|||m|||r)
   |_,_,_=>none
  |false=>sx acc i es
def J4{α:Type}(n:Nat)(k:Nat->α):α:=match n with|0=>k 0|m+1=>k (m+1)
def Bx:List Oper->Nat->List Nat->Option (List Nat)
 |[],_,acc=>some acc
 |o::l,i,acc=>match sx acc i o.after.toList with
  |some m=>J4 m fun m=>Bx l (i+1) (m::acc)
  |none=>none
def y9(ops:Array Oper)(ms:List Nat):List Oper->Nat->List (Nat × Oper)->Bool
 |[],_,_=>true
 |o::l,i,prev=>match nth ms i with
  |some m=>match prev.all fun(j,p)=>m.testBit j||
   ((match p.dst with|some d=> !lT d (fA ops o)|none=>true) && (match o.dst with|some d=> !lT d (fA ops p)|none=>true)) with
   |true=>y9 ops ms l (i+1) ((i,o)::prev)
   |false=>false
  |none=>false
def vp(ops:Array Oper):Option (List Nat):=
 match Bx ops.toList 0 [] with
 |some ms=>match y9 ops ms.reverse ops.toList 0 [] with
  |true=>some ms.reverse
  |false=>none
 |none=>none
structure Rec where
 i:Nat
 all:Bool
 reads:List Nat
 writes:List Nat
 lo:Nat
 hi:Nat
def v8:Value->List Nat
 | .pointer (some a)=>[a.block]
 | .slice (some a) _ _=>[a.block]
 | .map (some r)=>[r]
 |_=>[]
def jz(tm:Tm)(x:Operand):List Nat:=match ev tm x with
 |some v=>v8 v
 |none=>[]
def vZ(tm:Tm):List Operand->List Nat
 |[]=>[]
 |x::l=>jz tm x++vZ tm l
def oL(h:Hs):List Nat->List Nat
 |[]=>[]
 |b::l=>match h.heap.get b with
  |some (.dK (some m) _ _ _)=>b::m::oL h l
  |_=>b::oL h l
def bA(tm:Tm)(h:Hs)(o:Oper):List Nat:=
 match o.op with
 | .load _ a=>jz tm a
 | .store _ a _=>jz tm a
 | .binOp _ _ x y _=>vZ tm [x,y]
 | .convert _ _ x=>jz tm x
 | .slice _ x _ _ _=>jz tm x
 | .lookup _ m _ _=>jz tm m
 | .mapUpdate _ m _ _| .insert _ m _ _=>jz tm m
 | .mapEntry _ m _=>jz tm m
 | .entryStore _ m _ _=>jz tm m
 | .range _ x=>jz tm x
 | .next it _=>oL h (jz tm it)
 | .entry it=>oL h (jz tm it)
 | .call c=>vZ tm c.args.toList
 |_=>[]
def eB(h:Hs):List Nat->T aa
 |[]=> .leaf
 |b::l=>match h.heap.get b with
  |some o=>(eB h l).set b o
  |none=>eB h l
def ib(t s:T aa):List Nat->T aa
 |[]=>t
 |b::l=>match s.get b with
  |some o=>(ib t s l).set b o
  |none=>(ib t s l).del b
def range'(lo:Nat):Nat->List Nat
 |0=>[]
 |n+1=>lo::range' (lo+1) n
def D0:List Nat->List Nat->Bool
 |[],_=>true
 |a::l,m=>match lT a m with
  |true=>false
  |false=>D0 l m
def isNil:List Nat->Bool
 |[]=>true
 |_=>false
def Eg(mask:Nat)(new r:Rec):Bool:=
 match mask.testBit r.i with
 |true=>true
 |false=>
  (match new.all with|true=>isNil r.writes|false=>D0 r.writes new.reads) &&
  (match r.all with|true=>isNil new.writes|false=>D0 new.writes r.reads) &&
  new.reads.all (fun b=>Nat.blt b r.lo||Nat.ble r.hi b)
def fE(mask:Nat)(new:Rec):List Rec->Bool
 |[]=>true
 |r::l=>match Eg mask new r with
  |true=>fE mask new l
  |false=>false
def hidden(mask:Nat):List Rec->List Nat
 |[]=>[]
 |r::l=>match mask.testBit r.i with
  |true=>hidden mask l
  |false=>range' r.lo (r.hi - r.lo)++hidden mask l
def lD(t:T aa):List Nat->T aa
 |[]=>t
 |b::l=>(lD t l).del b
def dM(P:Program)(mask i:Nat)(bw:List Rec)(tm:Tm)(h:Hs)(o:Oper):Option (Value × Hs × Rec):=
 let ts:=bA tm h o
 match ep P tm {heap:=eB h ts,next:=h.next,log:=[]} o with
 |some (.val v h')=>fin ts v h'
 |some (.skip h')=>fin ts undef h'
 |_=>none
where
 fin (ts:List Nat) (v:Value) (h':Hs):Option (Value × Hs × Rec):=
  let r:Rec:={i,all:=false,reads:=ts++h'.log,writes:=h'.log,lo:=h.next,hi:=h'.next}
  match fE mask r bw with
  |true=>some (v,{heap:=ib h.heap h'.heap (h'.log++range' h.next (h'.next - h.next)),next:=h'.next,log:=h'.log++h.log},r)
  |false=>none
def yK(call:cN)(mask i:Nat)(bw:List Rec)(f:Nat)(args:List Value)(h:Hs):Option (Value × Hs × Rec):=
 let hid:=hidden mask bw
 match call f args {heap:=lD h.heap hid,next:=h.next,log:=[]} with
 |some (v,h')=>
  let r:Rec:={i,all:=true,reads:=[],writes:=h'.log,lo:=h.next,hi:=h'.next}
  match fE mask r bw,D0 h'.log hid with
  |true,true=>some (v,{heap:=ib h'.heap h.heap hid,next:=h'.next,log:=h'.log++h.log},r)
  |_,_=>none
 |none=>none
def oN:Option bZ->Option (Bool × Nat × List Value)
 |some (.call f args)=>some (true,f,args)
 |some (.round f args)=>some (false,f,args)
 |_=>none
def B5(o:Oper):Bool:=match o.op with
 | .call {callee:= .builtin _, ..}=>false
 | .call _=>true
 |_=>false
def jf(P:Program)(call round:cN)(ops:Array Oper):List Oper->Nat->List Nat->List Rec->Fr->Hs->Option (Fr × Hs)
 |[],_,_,_,fr,h=>some (fr,h)
 |o::l,i,m::ms,bw,fr,h=>
  match gn ops fr.tm o with
  |none=>none
  |some false=>match fr.put o.dst undef with
   |some fr=>jf P call round ops l (i+1) ms bw fr h
   |none=>none
  |some true=>
   match (match B5 o with
    |true=>match oN (ep P fr.tm {heap:= .leaf,next:=0,log:=[]} o) with
     |some (true,f,args)=>yK call m i bw f args h
     |some (false,f,args)=>yK round m i bw f args h
     |none=>dM P m i bw fr.tm h o
    |false=>dM P m i bw fr.tm h o) with
   |some (v,h,r)=>match fr.put o.dst v with
    |some fr=>jf P call round ops l (i+1) ms (r::bw) fr h
    |none=>none
   |none=>none
 |_::_,_,[],_,_,_=>none
def qD(P:Program)(call round:cN)(rdd:Option Nat)(ops:Array Oper)(draw:Bool)(fr:Fr)(h:Hs):Option (Fr × Hs):=
 match draw with
 |false=>vA P call round rdd ops ops.toList fr h
 |true=>match vp ops with
  |some ms=>jf P call round ops ops.toList 0 ms [] fr h
  |none=>none
def yG(P:Program)(ex:xy)(call:cN)(rdd:Option Nat)(c:Code)(fr:Fr)(h:Hs):Out:=
 match c with
 | .skip| .label _=>some (.normal,fr,h)
 | .seq a b=>match ex rdd a fr h with
   |some (.normal,fr,h)=>ex rdd b fr h
   |r=>r
 | .cond c a b=>match ev fr.tm c with
   |some (.bool true)=>ex rdd a fr h
   |some (.bool false)=>ex rdd b fr h
   |_=>none
 | .block id b=>match ex rdd b fr h with
   |some (.exit i,fr,h)=>match Nat.beq i id with
    |true=>some (.normal,fr,h)
    |false=>some (.exit i,fr,h)
   |r=>r
 | .exit id=>some (.exit id,fr,h)
 | .goto l=>some (.goto l,fr,h)
 | .ret=>some (.ret,fr,h)
 | .region _ ops draw=>match qD P call (Df ex) rdd ops draw fr h with
   |some (fr,h)=>some (.normal,fr,h)
   |none=>none
 | .rangeFunc f ps asg b=>
   match ev fr.tm f with
   |some (.func (.func g) ⟨first⟩ ⟨cap⟩)=>
    match (match rdd with
     |some l=>match h.heap.get l with
      |some (.loop r)=>some (r.defers,([]:List pf),h)
      |_=>none
     |none=>some (h.next,[.mark h.next],cL h (.gm true))) with
    |some (dk,mark,h)=>Di fr g first cap dk mark ps asg b h
    |none=>none
   |_=>none
 |_=>none
where
 Di (fr:Fr) (g:Nat) (first cap:List Value) (dk:Nat) (mark:List pf) (ps:Array Tmp) (asg b:Code) (h:Hs):Out:=
  match P.funcs[g]? with
  |some fn=>match fn.body,decide (fn.name= "runtime.NumGoroutine") with
   |some _,false=>
    match call g ((first++[.func (.yield h.next) #[] #[]])++cap) (cL h (.loop {st:= .ready,pending:=none,tm:=fr.tm,n:=fr.n,params:=ps.toList,assign:=asg,body:=b,defers:=dk})) with
    |some (_,h')=>
     match h'.heap.get h.next with
     |some (.loop r)=>match r.st with
      | .busy=>none
      |_=>
       match r.pending with
       |none=>some (.normal,{fr with gm:=mark++fr.gm},{h' with heap:=h'.heap.set h.next (.loop {r with st:= .exhausted}),log:=h.next::h'.log})
       |some .ret=>some (.ret,{fr with gm:=mark++fr.gm},{h' with heap:=h'.heap.set h.next (.loop {r with st:= .exhausted}),log:=h.next::h'.log})
       |some (.exit i)=>some (.exit i,{fr with gm:=mark++fr.gm},{h' with heap:=h'.heap.set h.next (.loop {r with st:= .exhausted}),log:=h.next::h'.log})
       |some (.goto i)=>some (.goto i,{fr with gm:=mark++fr.gm},{h' with heap:=h'.heap.set h.next (.loop {r with st:= .exhausted}),log:=h.next::h'.log})
       |_=>none
     |_=>none
    |none=>none
   |_,_=>none
  |none=>none
def sg(ex:xy):Nat->Code->Code->Option Nat->Fr->Hs->Out
 |0,_,_,_,_,_=>none
 |n+1,b,cur,rdd,fr,h=>match ex rdd cur fr h with
  |some (.goto l,fr,h)=>match findLabel b l with
   |some rest=>sg ex n b rest rdd fr h
   |none=>some (.goto l,fr,h)
  |r=>r
def yg(ex:xy):Nat->Code->Option Nat->Fr->Hs->Out
 |0,_,_,_,_=>none
 |n+1,b,rdd,fr,h=>match ex rdd b fr h with
  |some (.normal,fr,h)=>yg ex n b rdd fr h
  |r=>r
def Pw(P:Program)(ex:xy):Nat->cN
 |0,_,_,_=>none
 |n+1,f,args,h=>yI P ex (Pw P ex n) f args h
def exec(P:Program):Nat->xy
 |0,_,_,_,_=>none
 |n+1,rdd, .scope b,fr,h=>sg (exec P n) n b b rdd fr h
 |n+1,rdd, .loop b,fr,h=>yg (exec P n) n b rdd fr h
 |n+1,rdd,c,fr,h=>yG P (exec P n) (Pw P (exec P n) n) rdd c fr h
structure Loc where
 φ:Nat
 δ:Nat
 ψ:Nat
abbrev aX:=Nat->Option Loc
def aX.le(ρ ρ':aX):Prop:= ∀b L,ρ b=some L->ρ' b=some L
theorem aX.le.refl(ρ:aX):ρ.le ρ:=fun _ _ h=>h
theorem aX.le.trans{a b c:aX}(h:a.le b)(k:b.le c):a.le c:=fun i L hi=>k i L (h i L hi)
mutual
inductive VR (ρ:aX):Value->Value->Prop where
 |sc (v:Value) (h:simple v=true):VR ρ v v
 |ptr (b o:Nat) (L:Loc) (h:ρ b=some L):VR ρ (.pointer (some ⟨b,o,none⟩)) (.pointer (some ⟨L.φ,L.δ+o,none⟩))
 |sl (b o n c:Nat) (L:Loc) (h:ρ b=some L):VR ρ (.slice (some ⟨b,o,none⟩) n c) (.slice (some ⟨L.φ,L.δ+o,none⟩) n (c+L.ψ))
 |es (a a':Addr) (h:a.spot≠none):VR ρ (.slice (some a) 0 0) (.slice (some a') 0 0)
 |map (b:Nat) (L:Loc) (h:ρ b=some L):VR ρ (.map (some b)) (.map (some L.φ))
 |fn (f:FuncId) (a a' c c':List Value) (h:cU ρ a a') (k:cU ρ c c'):VR ρ (.func (.func f) ⟨a⟩ ⟨c⟩) (.func (.func f) ⟨a'⟩ ⟨c'⟩)
 |yield (l:Nat) (L:Loc) (a a':List Value) (h:ρ l=some L) (k:cU ρ a a'):VR ρ (.func (.yield l) ⟨a⟩ #[]) (.func (.yield L.φ) ⟨a'⟩ #[])
 |agg (a a':List Value) (h:cU ρ a a'):VR ρ (.agg ⟨a⟩) (.agg ⟨a'⟩)
 |tuple (a a':List Value) (h:cU ρ a a'):VR ρ (.tuple ⟨a⟩) (.tuple ⟨a'⟩)
inductive cU (ρ:aX):List Value->List Value->Prop where
 |nil:cU ρ [] []
 |cons (v v':Value) (l l':List Value) (h:VR ρ v v') (k:cU ρ l l'):cU ρ (v::l) (v'::l')
end
mutual
theorem VR.mono{ρ ρ':aX}(hl:ρ.le ρ'): ∀{v v':Value},VR ρ v v'->VR ρ' v v'
 |_,_, .sc v h=> .sc v h
 |_,_, .ptr b o L h=> .ptr b o L (hl _ _ h)
 |_,_, .sl b o n c L h=> .sl b o n c L (hl _ _ h)
 |_,_, .es a a' h=> .es a a' h
 |_,_, .map b L h=> .map b L (hl _ _ h)
 |_,_, .fn f a a' c c' h k=> .fn f a a' c c' (cU.mono hl h) (cU.mono hl k)
 |_,_, .yield l L a a' h k=> .yield l L a a' (hl _ _ h) (cU.mono hl k)
 |_,_, .agg a a' h=> .agg a a' (cU.mono hl h)
 |_,_, .tuple a a' h=> .tuple a a' (cU.mono hl h)
theorem cU.mono{ρ ρ':aX}(hl:ρ.le ρ'): ∀{l l':List Value},cU ρ l l'->cU ρ' l l'
 |_,_, .nil=> .nil
 |_,_, .cons v v' l l' h k=> .cons v v' l l' (VR.mono hl h) (cU.mono hl k)
end
theorem cU.length{ρ:aX}: ∀{l l':List Value},cU ρ l l'->l'.length=l.length
 |_,_, .nil=>rfl
 |_,_, .cons _ _ _ _ _ k=>by simp[cU.length k]
theorem cU.append{ρ:aX}: ∀{a a' b b':List Value},cU ρ a a'->cU ρ b b'->cU ρ (a++b) (a'++b')
 |_,_,_,_, .nil,k=>k
 |_,_,_,_, .cons v v' l l' h r,k=> .cons v v' _ _ h (cU.append r k)
theorem cU.get{ρ:aX}: ∀{l l':List Value},cU ρ l l'-> ∀{i:Nat} {v:Value},l[i]? =some v-> ∃v',l'[i]? =some v'/\VR ρ v v'
 |_,_, .nil,i,v,h=>by simp at h
 |_,_, .cons v v' l l' h k,0,u,hu=>by simp at hu;subst hu;exact⟨v',rfl,h⟩
 |_,_, .cons v v' l l' h k,i+1,u,hu=>by simp at hu;simpa using cU.get k hu
theorem cU.zE{ρ:aX}: ∀{l l':List Value},l'.length=l.length->(∀(i:Nat)(v:Value),l[i]? =some v-> ∃v',l'[i]? =some v'/\VR ρ v v')->cU ρ l l'
 |[],[],_,_=> .nil
 |[],_::_,h,_=>by simp at h
 |_::_,[],h,_=>by simp at h
 |a::l,b::l',h,k=>by
  obtain⟨v',h1,h2⟩:=k 0 a rfl
  simp at h1;subst h1
  exact .cons a b l l' h2 (cU.zE (by simpa using h) fun i v hi=>by simpa using k (i+1) v (by simpa using hi))
theorem cU.one{ρ:aX}{v v':Value}(h:VR ρ v v'):cU ρ [v] [v']:= .cons _ _ _ _ h .nil
theorem VR.undef{ρ:aX}:VR ρ Go.undef Go.undef:= .tuple [] [] .nil
mutual
theorem VR.plain{ρ:aX}: ∀{v v':Value},VR ρ v v'->aC v=true->v'=v
 |_,_, .sc v h,_=>rfl
 |_,_, .ptr b o L h,hp=>by simp[aC] at hp
 |_,_, .sl b o n c L h,hp=>by simp[aC] at hp
 |_,_, .es a a' h,hp=>by simp[aC] at hp
 |_,_, .map b L h,hp=>by simp[aC] at hp
 |_,_, .fn f a a' c c' h k,hp=>by simp[aC] at hp
 |_,_, .yield l L a a' h k,hp=>by simp[aC] at hp
 |_,_, .agg a a' h,hp=>by simp only[aC] at hp;rw[cU.plain h hp]
 |_,_, .tuple a a' h,hp=>by simp only[aC] at hp;rw[cU.plain h hp]
theorem cU.plain{ρ:aX}: ∀{l l':List Value},cU ρ l l'->bJ l=true->l'=l
 |_,_, .nil,_=>rfl
 |_,_, .cons v v' l l' h k,hp=>by
  simp only[bJ] at hp
  cases hv:aC v with
  |false=>simp[hv] at hp
  |true=>rw[hv] at hp;rw[VR.plain h hv,cU.plain k hp]
end
mutual
theorem VR.aQ{ρ:aX}: ∀{v:Value},aC v=true->VR ρ v v
 | .bool _,_=> .sc _ rfl
 | .int _ _,_=> .sc _ rfl
 | .string _,_=> .sc _ rfl
 | .float _ _,_=> .sc _ rfl
 | .nilFunc,_=> .sc _ rfl
 | .nilIface,_=> .sc _ rfl
 | .pointer none,_=> .sc _ rfl
 | .slice none _ _,_=> .sc _ rfl
 | .map none,_=> .sc _ rfl
 | .agg ⟨l⟩,h=> .agg l l (cU.aQ (by simpa[aC] using h))
 | .tuple ⟨l⟩,h=> .tuple l l (cU.aQ (by simpa[aC] using h))
 | .pointer (some _),h=>by simp[aC] at h
 | .slice (some _) _ _,h=>by simp[aC] at h
 | .map (some _),h=>by simp[aC] at h
 | .complex _ _ _,h=>by simp[aC] at h
 | .chan _,h=>by simp[aC] at h
 | .func _ _ _,h=>by simp[aC] at h
 | .iface _ _,h=>by simp[aC] at h
theorem cU.aQ{ρ:aX}: ∀{l:List Value},bJ l=true->cU ρ l l
 |[],_=> .nil
 |v::l,h=>by
  simp only[bJ] at h
  cases hv:aC v with
  |false=>simp[hv] at h
  |true=>rw[hv] at h;exact .cons v v l l (VR.aQ hv) (cU.aQ h)
end
theorem eh{a:Addr}{n c:Nat}(h:AV.simple (.slice (some a) n c)=true):a.spot≠none/\n=0/\c=0:=by
 obtain⟨b,o,s⟩:=a
 cases s with
 |none=>simp[AV.simple] at h
 |some s=>
  cases n with
  |succ n=>simp[AV.simple] at h
  |zero=>
   cases c with
   |succ c=>simp[AV.simple] at h
   |zero=>exact⟨by simp,rfl,rfl⟩
theorem VR.simple{ρ:aX}{v:Value}(h:AV.simple v=true):VR ρ v v:= .sc v h
theorem VR.cells{ρ:aX}{v v':Value}(h:VR ρ v v'):cU ρ (aZ v) v'.cells.toList:=by
 cases h with
 |agg a a' h=>exact h
 |sc v h=>cases v<;>first|(simp[AV.simple] at h;done)|exact .one (.sc _ h)
 |_=>exact .one (by constructor<;>assumption)
theorem VR.vY{ρ:aX}{v v':Value}(h:VR ρ v v'):v'.oneCell'=AV.vY v:=by
 cases h with
 |sc v h=>cases v<;>rfl
 |_=>rfl
theorem cU.cB{ρ:aX}: ∀{l l':List Value},cU ρ l l'->AV.cB l=true-> ∀v∈l',v.oneCell'=true
 |_,_, .nil,_,v,hv=>by simp at hv
 |_,_, .cons v v' l l' h k,hp,u,hu=>by
  simp only[AV.cB] at hp
  cases hv:AV.vY v with
  |false=>simp[hv] at hp
  |true=>
   rw[hv] at hp
   rcases List.mem_cons.1 hu with rfl|hu
   ·rw[h.vY,hv]
   ·exact cU.cB k hp u hu
def ER(ρ:aX)(e e':MapEntry):Prop:=VR ρ e.key e'.key/\VR ρ e.val e'.val/\e'.born=e.born
inductive iA (ρ:aX):List MapEntry->List MapEntry->Prop where
 |nil:iA ρ [] []
 |cons (e e':MapEntry) (l l':List MapEntry) (h:ER ρ e e') (k:iA ρ l l'):iA ρ (e::l) (e'::l')
theorem iA.mono{ρ ρ':aX}(hl:ρ.le ρ'): ∀{l l':List MapEntry},iA ρ l l'->iA ρ' l l'
 |_,_, .nil=> .nil
 |_,_, .cons e e' l l' h k=> .cons e e' l l' ⟨h.1.mono hl,h.2.1.mono hl,h.2.2⟩ (k.mono hl)
def VJ(ρ:aX)(v v':Value):Prop:=v=tP\/VR ρ v v'
theorem VJ.mono{ρ ρ':aX}(hl:ρ.le ρ'){v v':Value}(h:VJ ρ v v'):VJ ρ' v v':=h.imp id (VR.mono hl)
theorem VJ.vr{ρ:aX}{v v':Value}(h:VJ ρ v v')(hv:v≠tP):VR ρ v v':=h.resolve_left hv
theorem td{v u:Value}(h:zG v=some u):u=v/\v≠tP:=by
 unfold zG at h
 split at h
 ·cases h
 ·rename_i hne
  cases h
  exact⟨rfl,fun e=>hne none e⟩
def TR(ρ:aX)(tm:Tm)(n:Nat)(tmps:Array Value):Prop:=tmps.size=n/\ ∀t,VJ ρ (rd tm t) (tmps.getD t undef)
theorem TR.mono{ρ ρ':aX}(hl:ρ.le ρ'){tm:Tm}{n:Nat}{tmps:Array Value}(h:TR ρ tm n tmps):TR ρ' tm n tmps:=⟨h.1,fun t=>(h.2 t).mono hl⟩
structure CR(ρ:aX)(L:Loc)(k:aV)(c:Array Value)(elem:TypeId)(fr:Nat × Nat):Prop where
 elem:elem=k.elem
 len:k.cells.length<=k.cap
 room:k.own=true->L.δ+k.cap+L.ψ*k.ko<=c.size
 cell: ∀i v,k.cells[i]? =some v-> ∃v',c[L.δ+i]? =some v'/\VR ρ v v'
 exact:k.exact=true->L.ψ=0
 whole:k.whole=true->L.δ=0/\c.size=k.cap
 jt:k.bN=0->fr=(0,0)
 RE:k.bN=1->fr.2<=fr.1\/c.size<=fr.1
def OR(ρ:aX)(L:Loc):aa->Obj->Prop
 | .az k, .cells c e fr=>CR ρ L k c e fr
 | .map es ck, .map es' ck'=>iA ρ es es'.toList/\ck'=ck
 | .qp s p, .stringIter s' p'=>s'=s/\p'=p/\L.δ=0
 | .dK m since seen last, .mapIter m' since' seen' last'=>(match m with|none=>m'=none|some b=> ∃L,ρ b=some L/\m'=some L.φ)/\since'=since/\seen'.toList=seen.reverse/\last'=last/\L.δ=0
 | .loop l, .loop l'=>l'.state=l.st/\l'.pending=l.pending/\TR ρ l.tm l.n l'.tmps/\l'.params.toList=l.params/\l'.assign=l.assign/\l'.body=l.body/\ ∃L,ρ l.defers=some L/\l'.defers=L.φ
 | .gm b, .deferred ds=>ds=if b then some [] else none
 |_,_=>False
theorem CR.mono{ρ ρ':aX}(hl:ρ.le ρ'){L:Loc}{k:aV}{c:Array Value}{e:TypeId}{fr:Nat × Nat}(h:CR ρ L k c e fr):CR ρ' L k c e fr:=
 {h with cell:=fun i v hi=>let ⟨v',a,b⟩:=h.cell i v hi;⟨v',a,b.mono hl⟩}
theorem OR.mono{ρ ρ':aX}(hl:ρ.le ρ'){L:Loc}{o:aa}{x:Obj}(h:OR ρ L o x):OR ρ' L o x:=by
 cases o<;>cases x<;>simp only[OR] at h ⊢ <;>first|exact h.elim|skip
 ·exact CR.mono hl h
 ·exact⟨h.1.mono hl,h.2⟩
 ·exact h
 ·refine⟨?_,h.2⟩
  have h1:=h.1
  split at h1
  ·exact h1
  ·obtain⟨L,a,b⟩:=h1;exact⟨L,hl _ _ a,b⟩
 ·obtain⟨a,b,c,d,e,f,L,g,i⟩:=h;exact⟨a,b,c.mono hl,d,e,f,L,hl _ _ g,i⟩
 ·exact h
def aa.owned:aa->Bool
 | .az k=>k.own
 |_=>true
abbrev HF:=Nat->Option aa
structure aM(ρ:aX)(H:HF)(w:World):Prop where
 obj: ∀b o,H b=some o-> ∃L x,ρ b=some L/\w.heap[L.φ]? =some x/\OR ρ L o x
 inj: ∀i j oi oj Li Lj,H i=some oi->H j=some oj->i≠j->oj.owned=true->ρ i=some Li->ρ j=some Lj->Li.φ≠Lj.φ
theorem aM.sub{ρ:aX}{H H':HF}{w:World}(h:aM ρ H w)(hs: ∀b o,H' b=some o->H b=some o):aM ρ H' w:=
 ⟨fun b o hb=>h.obj b o (hs b o hb),fun i j oi oj Li Lj hi hj=>h.inj i j oi oj Li Lj (hs _ _ hi) (hs _ _ hj)⟩
structure Step(ρ:aX)(H:HF)(w:World)(ρ':aX)(H':HF)(w':World)(lo hi:Nat):Prop where
 os:w'.os=w.os
 tape:w'.tape=w.tape
 output:w'.output=w.output
 size:w.heap.size<=w'.heap.size
 same: ∀r,r<w.heap.size->(∀b o L,H b=some o->o.owned=true->ρ b=some L->L.φ≠r)->w'.heap[r]? =w.heap[r]?
 own: ∀b o L,H' b=some o->o.owned=true->ρ' b=some L->(∃i oi Li,H i=some oi/\oi.owned=true/\ρ i=some Li/\Li.φ=L.φ)\/w.heap.size<=L.φ
 any: ∀b o L,H' b=some o->ρ' b=some L->(∃i oi Li,H i=some oi/\ρ i=some Li/\Li.φ=L.φ)\/w.heap.size<=L.φ
 ext:ρ.le ρ'
 ve: ∀b,b<lo\/hi<=b->ρ' b=ρ b
theorem Step.refl(ρ:aX)(H:HF)(w:World)(lo hi:Nat):Step ρ H w ρ H w lo hi:=
 ⟨rfl,rfl,rfl,Nat.le_refl _,fun _ _ _=>rfl,fun b o L h ho hL=> .inl ⟨b,o,L,h,ho,hL,rfl⟩,fun b o L h hL=> .inl ⟨b,o,L,h,hL,rfl⟩,aX.le.refl _,fun _ _=>rfl⟩
theorem Step.trans{ρ ρ1 ρ2:aX}{H H1 H2:HF}{w w1 w2:World}{a b c:Nat}(h:Step ρ H w ρ1 H1 w1 a b)(k:Step ρ1 H1 w1 ρ2 H2 w2 b c)(hab:a<=b)(hbc:b<=c):Step ρ H w ρ2 H2 w2 a c:=by
 refine⟨k.os.trans h.os,k.tape.trans h.tape,k.output.trans h.output,Nat.le_trans h.size k.size,?_,?_,?_,h.ext.trans k.ext,?_⟩
 ·intro r hr hno
  rw[k.same r (Nat.lt_of_lt_of_le hr h.size) ?_,h.same r hr hno]
  intro i o L hi ho hL he
  rcases h.own i o L hi ho hL with ⟨j,oj,Lj,hj,hoj,hLj,hej⟩|hge
  ·exact hno j oj Lj hj hoj hLj (hej.trans he)
  ·omega
 ·intro i o L hi ho hL
  rcases k.own i o L hi ho hL with ⟨j,oj,Lj,hj,hoj,hLj,hej⟩|hge
  ·rcases h.own j oj Lj hj hoj hLj with ⟨m,om,Lm,hm,Ft,hLm,hem⟩|hge
   ·exact .inl ⟨m,om,Lm,hm,Ft,hLm,hem.trans hej⟩
   ·exact .inr (hej ▸ hge)
  ·exact .inr (Nat.le_trans h.size hge)
 ·intro i o L hi hL
  rcases k.any i o L hi hL with ⟨j,oj,Lj,hj,hLj,hej⟩|hge
  ·rcases h.any j oj Lj hj hLj with ⟨m,om,Lm,hm,hLm,hem⟩|hge
   ·exact .inl ⟨m,om,Lm,hm,hLm,hem.trans hej⟩
   ·exact .inr (hej ▸ hge)
  ·exact .inr (Nat.le_trans h.size hge)
 ·intro i hi
  rw[k.ve i (by omega),h.ve i (by omega)]
structure og(w w':World)(r:Nat)(x:Obj):Prop where
 os:w'.os=w.os
 tape:w'.tape=w.tape
 output:w'.output=w.output
 size:w'.heap.size=w.heap.size
 other: ∀k,k≠r->w'.heap[k]? =w.heap[k]?
 at_:w'.heap[r]? =some x
theorem og.trans{a b c:World}{r:Nat}{x y:Obj}(h:og a b r x)(k:og b c r y):og a c r y:=
 ⟨k.os.trans h.os,k.tape.trans h.tape,k.output.trans h.output,k.size.trans h.size,fun i hi=>(k.other i hi).trans (h.other i hi),k.at_⟩
theorem og.setCell{w:World}{b p:Nat}{c:Array Value}{e:TypeId}{fr:Nat × Nat}(v:Value)(h:w.heap[b]? =some (.cells c e fr)):
 og w (w.setCell ⟨b,p,none⟩ v) b (.cells (c.setIfInBounds p v) e fr):=by
 refine⟨rfl,rfl,rfl,by simp,fun k hk=>?_,?_⟩
 ·simp only[World.setCell,Array.getElem?_modify]
  rw[if_neg (by omega)]
 ·simp[World.setCell,Array.getElem?_modify,h]
theorem ew(b o n:Nat):(⟨b,o,none⟩:Addr).add n=⟨b,o+n,none⟩:=by unfold Addr.add;split<;>simp_all
theorem C9(P:Program)(b:Nat)(e:TypeId)(fr:Nat × Nat): ∀(vs:List Value)(o i:Nat)(c:Array Value)(w:World),w.heap[b]? =some (.cells c e fr)->
 o+i+vs.length<=c.size->(∀p,o+i<=p->p<o+i+vs.length-> ¬(fr.1<=p/\p<fr.2))->(∀v∈vs,v.oneCell'=true)->
 ∃w' c',(storeCells ⟨b,o,none⟩ vs i).run P w= .ok () w'/\og w w' b (.cells c' e fr)/\c'.size=c.size/\
  ∀p,c'[p]? =if o+i<=p/\p<o+i+vs.length then vs[p - (o+i)]? else c[p]?
 |[],o,i,c,w,h,_,_,_=>⟨w,c,rfl,⟨rfl,rfl,rfl,rfl,fun _ _=>rfl,h⟩,rfl,fun p=>by rw[if_neg (by simp)]⟩
 |v::vs,o,i,c,w,h,hl,hf,h1=>by
  have hi:o+i<c.size:=by simp at hl;omega
  have hcell:w.cell? ⟨b,o+i,none⟩=some c[o+i]:=by simp[World.cell?,h,hi]
  have hfro:w.frozen? ⟨b,o+i,none⟩=false:=by
   have:=hf (o+i) (Nat.le_refl _) (by simp)
   simp only[World.frozen?,h]
   simp only[Bool.and_eq_false_imp,decide_eq_true_eq,decide_eq_false_iff_not]
   intro h1 h2;exact this ⟨h1,h2⟩
  have hst:(store ((⟨b,o,none⟩:Addr).add i) v).run P w= .ok () (w.setCell ⟨b,o+i,none⟩ v):=by
   rw[ew,run_store P w _ v _ (h1 v (by simp)),hcell]
   simp[hfro]
  have hu:=og.setCell (p:=o+i) v h
  obtain⟨w',c',hr,hu',hs,hc⟩:=C9 P b e fr vs o (i+1) (c.setIfInBounds (o+i) v) _ hu.at_ (by simp at hl ⊢;omega)
   (fun p h1 h2=>hf p (by omega) (by simp;omega)) (fun x hx=>h1 x (by simp[hx]))
  refine⟨w',c',?_,hu.trans hu',by simpa using hs,fun p=>?_⟩
  ·simp only[storeCells,Sem.run_bind,hst,Result.andThen_ok,hr]
  ·rw[hc p]
   by_cases hp:p=o+i
   ·subst hp
    rw[if_neg (by omega),if_pos (by simp)]
    simp[hi]
   ·by_cases hq:o+(i+1)<=p/\p<o+(i+1)+vs.length
    ·rw[if_pos hq,if_pos (by simp;omega)]
     rw[show p - (o+i)=(p - (o+(i+1)))+1 by omega]
     simp
    ·rw[if_neg hq,if_neg (by simp;omega)]
     rw[Array.getElem?_setIfInBounds_ne (by omega)]
theorem gx{α:Type}: ∀{n:Nat} {l r:List α},takeN n l=some r->r.length=n/\ ∀j,j<n->r[j]? =l[j]?
 |0,l,r,h=>by simp[takeN] at h;subst h;simp
 |n+1,[],r,h=>by simp[takeN] at h
 |n+1,a::l,r,h=>by
  simp only[takeN] at h
  split at h
  ·rename_i r' hr
   cases h
   obtain⟨h1,h2⟩:=gx hr
   refine⟨by simp[h1],fun j hj=>?_⟩
   cases j with
   |zero=>rfl
   |succ j=>simpa using h2 j (by omega)
  ·cases h
theorem mM{α:Type}: ∀(n:Nat)(l:List α),je n l=l.drop n
 |0,l=>rfl
 |n+1,[]=>rfl
 |n+1,a::l=>by simp[je,mM n l]
theorem gi{α:Type}: ∀(l:List α)(n:Nat),nth l n=l[n]?
 |[],n=>by simp[nth]
 |a::l,0=>rfl
 |a::l,n+1=>by simp[nth,gi l n]
theorem hX: ∀{cs vs r:List Value} {n:Nat},overwrite cs n vs=some r->
 n<=cs.length/\r.length=max cs.length (n+vs.length)/\ ∀p,r[p]? =if n<=p/\p<n+vs.length then vs[p - n]? else cs[p]?
 |[],vs,r,0,h=>by
  have:r=vs:=by cases vs<;>(simp[overwrite] at h;first|exact h|exact h.symm)
  subst this
  refine⟨Nat.zero_le _,by simp,fun p=>?_⟩
  by_cases hp:0<=p/\p<0+r.length
  ·rw[if_pos hp];rfl
  ·rw[if_neg hp];simp;omega
 |[],vs,r,n+1,h=>by cases vs<;>simp[overwrite] at h
 |c::cs,[],r,0,h=>by
  simp[overwrite] at h;subst h
  refine⟨Nat.zero_le _,by simp,fun p=>by rw[if_neg (by simp)]⟩
 |c::cs,v::vs,r,0,h=>by
  simp only[overwrite] at h
  split at h
  ·rename_i r' hr
   cases h
   obtain⟨h1,h2,h3⟩:=hX hr
   refine⟨by simp,by simp[h2],fun p=>?_⟩
   cases p with
   |zero=>simp
   |succ p=>simpa using h3 p
  ·cases h
 |c::cs,vs,r,n+1,h=>by
  have h': ∃r',overwrite cs n vs=some r'/\c::r'=r:=by
   cases vs<;>(simp only[overwrite] at h;split at h<;>first|(rename_i r' hr;cases h;exact⟨r',hr,rfl⟩)|cases h)
  ·obtain⟨r',hr,rfl⟩:=h'
   obtain⟨h1,h2,h3⟩:=hX hr
   refine⟨by simp;omega,by simp[h2];omega,fun p=>?_⟩
   cases p with
   |zero=>simp
   |succ p=>
    simp only[List.getElem?_cons_succ,h3 p]
    by_cases hq:n<=p/\p<n+vs.length
    ·rw[if_pos hq,if_pos (by omega),show p+1 - (n+1)=p - n by omega]
    ·rw[if_neg hq,if_neg (by omega)]
section
variable{P:Program}{ρ:aX}{w:World}
theorem CR.uy{L:Loc}{k:aV}{c:Array Value}{e:TypeId}{fr:Nat × Nat}(h:CR ρ L k c e fr)(hw:w.heap[L.φ]? =some (.cells c e fr)){n off:Nat}{cs:List Value}
 (ht:takeN n (je off k.cells)=some cs): ∃cs',cs'.length=n/\cU ρ cs cs'/\ ∀j v,cs'[j]? =some v->w.cell? ⟨L.φ,L.δ+off+j,none⟩=some v:=by
 obtain⟨h1,h2⟩:=gx ht
 rw[mM] at h2
 have hsz:min n (c.size - (L.δ+off))=n:=by
  cases n with
  |zero=>simp
  |succ n=>
   have h3:=h2 n (by omega)
   have h4:cs[n]? ≠none:=by simp;omega
   rw[h3,List.getElem?_drop] at h4
   obtain⟨v,hv⟩:=Option.ne_none_iff_exists'.1 h4
   obtain⟨v',hv',_⟩:=h.cell _ _ hv
   have:=(Array.getElem?_eq_some_iff.1 hv').1
   omega
 refine⟨(c.toList.drop (L.δ+off)).take n,?_,?_,?_⟩
 ·simp only[List.length_take,List.length_drop,Array.length_toList]
  exact hsz
 ·refine cU.zE ?_ fun i v hi=>?_
  ·simp only[List.length_take,List.length_drop,Array.length_toList,h1]
   exact hsz
  ·have hin:i<n:=by
    have:i<cs.length:=by
     rcases Nat.lt_or_ge i cs.length with h'|h'
     ·exact h'
     ·simp[List.getElem?_eq_none h'] at hi
    omega
   rw[h2 i hin,List.getElem?_drop] at hi
   obtain⟨v',hv',hR⟩:=h.cell _ _ hi
   refine⟨v',?_,hR⟩
   rw[List.getElem?_take_of_lt hin,List.getElem?_drop,Array.getElem?_toList,Nat.add_assoc]
   exact hv'
 ·intro j v hj
  have hjn:j<n:=by
   rcases Nat.lt_or_ge j n with h'|h'
   ·exact h'
   ·rw[List.getElem?_take_eq_none h'] at hj;cases hj
  rw[List.getElem?_take_of_lt hjn,List.getElem?_drop,Array.getElem?_toList] at hj
  simpa[World.cell?,hw] using hj
theorem ab{t:TypeId}{d:TypeDesc}(h:P.underlying t=some d):(underlying t).run P w= .ok d w:=by
 simp[underlying,h]
theorem lj{t:TypeId}{i:TypeInfo}(h:P.info? t=some i):(typeInfo t).run P w= .ok i w:=by
 simp[typeInfo,h]
theorem aR{t:TypeId}{i:TypeInfo}(h:P.info? t=some i):(sizeOf t).run P w= .ok i.size w:=by
 simp[sizeOf,lj h]
theorem mz{t:TypeId}{d:TypeDesc}(h:P.underlying t=some d):(isAgg t).run P w= .ok (lz d) w:=by
 simp only[isAgg,Sem.run_bind,ab h,Result.andThen_ok]
 cases d<;>rfl
theorem dt{t:TypeId}{i:TypeInfo}{z:Value}(h:P.info? t=some i)(hz:i.zero=some z):(zeroValue t).run P w= .ok z w:=by
 simp[zeroValue,lj h,hz]
theorem pn{h:Hs}{t:TypeId}{b off:Nat}{v:Value}(hh:aM ρ h.heap.get w)(hr:oH P h t b off=some v):
 ∃L v',ρ b=some L/\(loadVar t ⟨L.φ,L.δ+off,none⟩).run P w= .ok v' w/\VR ρ v v':=by
 unfold oH at hr
 split at hr
 ·rename_i k hk
  obtain⟨L,x,hL,hx,hR⟩:=hh.obj _ _ hk
  cases x<;>simp only[OR] at hR<;>first|exact hR.elim|skip
  rename_i c e fr
  split at hr
  ·rename_i d hd
   split at hr
   ·rename_i hag
    split at hr
    ·rename_i i hi
     split at hr
     ·rename_i cs hcs
      cases hr
      obtain⟨cs',h1,h2,h3⟩:=hR.uy hx hcs
      refine⟨L, .agg ⟨cs'⟩,hL,?_, .agg _ _ h2⟩
      have hl:=run_loadCells_list (P:=P) w ⟨L.φ,L.δ+off,none⟩ cs' (fun j v hj=>by rw[ew];exact h3 j v hj)
      simp only[loadVar,Sem.run_bind,mz hd,Result.andThen_ok,hag,if_true,aR hi]
      rw[h1] at hl
      simp[hl]
     ·cases hr
    ·cases hr
   ·rename_i hag
    rw[gi] at hr
    obtain⟨v',hv',hvR⟩:=hR.cell _ _ hr
    refine⟨L,v',hL,?_,hvR⟩
    have hc:w.cell? ⟨L.φ,L.δ+off,none⟩=some v':=by simpa[World.cell?,hx] using hv'
    simp only[loadVar,Sem.run_bind,mz hd,Result.andThen_ok,hag,Bool.false_eq_true,if_false,run_load,hc]
  ·cases hr
 ·cases hr
theorem aM.pg{H H':HF}{b:Nat}{o o':aa}{L:Loc}{x:Obj}{w':World}(hh:aM ρ H w)(hb:H b=some o)(ho:o.owned=true)(hL:ρ b=some L)
 (hw:og w w' L.φ x) (hR:OR ρ L o' x) (hH: ∀i,H' i=if i=b then some o' else H i):aM ρ H' w':=by
 refine⟨fun i oi hi=>?_,fun i j oi oj Li Lj hi hj hij hoj hLi hLj=>?_⟩
 ·rw[hH] at hi
  split at hi
  ·rename_i he;subst he;cases hi;exact⟨L,x,hL,hw.at_,hR⟩
  ·rename_i he
   obtain⟨Li,xi,hLi,hxi,hRi⟩:=hh.obj _ _ hi
   exact⟨Li,xi,hLi,by rw[hw.other _ (hh.inj i b oi o Li L hi hb he ho hLi hL)];exact hxi,hRi⟩
 ·have hi': ∃oi',H i=some oi':=by
   rw[hH] at hi;split at hi
   ·rename_i he;subst he;exact⟨_,hb⟩
   ·exact⟨_,hi⟩
  have hj': ∃oj',H j=some oj'/\oj'.owned=true:=by
   rw[hH] at hj;split at hj
   ·rename_i he;subst he;exact⟨_,hb,ho⟩
   ·exact⟨_,hj,hoj⟩
  obtain⟨oi',hi'⟩:=hi'
  obtain⟨oj',hj',hoj'⟩:=hj'
  exact hh.inj i j oi' oj' Li Lj hi' hj' hij hoj' hLi hLj
theorem Step.pg{H H':HF}{b:Nat}{o o':aa}{L:Loc}{x:Obj}{w':World}(hb:H b=some o)(ho:o.owned=true)(hL:ρ b=some L)
 (hw:og w w' L.φ x) (hH: ∀i,H' i=if i=b then some o' else H i) (lo hi:Nat):Step ρ H w ρ H' w' lo hi:=by
 refine⟨hw.os,hw.tape,hw.output,by rw[hw.size];exact Nat.le_refl _,fun r _ hno=>hw.other r fun he=>hno b o L hb ho hL he.symm,?_,?_,aX.le.refl _,fun _ _=>rfl⟩
 ·intro i oi Li hi ho' hLi
  rw[hH] at hi
  split at hi
  ·rename_i he;subst he;exact .inl ⟨_,o,Li,hb,ho,hLi,rfl⟩
  ·exact .inl ⟨i,oi,Li,hi,ho',hLi,rfl⟩
 ·intro i oi Li hi hLi
  rw[hH] at hi
  split at hi
  ·rename_i he;subst he;exact .inl ⟨_,o,Li,hb,hLi,rfl⟩
  ·exact .inl ⟨i,oi,Li,hi,hLi,rfl⟩
theorem iN{h h':Hs}{b off:Nat}{vs vs':List Value}(hh:aM ρ h.heap.get w)(hw:dF h b off vs=some h')(hv:cU ρ vs vs'):
 ∃L w',ρ b=some L/\(storeCells ⟨L.φ,L.δ+off,none⟩ vs').run P w= .ok () w'/\aM ρ h'.heap.get w'/\ ∀lo hi,Step ρ h.heap.get w ρ h'.heap.get w' lo hi:=by
 unfold dF at hw
 split at hw
 ·rename_i k hk
  have key:k.own=true->(k.bN=0\/k.bN=1)-> ∀cs,cB vs=true->overwrite k.cells off vs=some cs->cs.length<=k.cap->
   ∃L w',ρ b=some L/\(storeCells ⟨L.φ,L.δ+off,none⟩ vs').run P w= .ok () w'/\aM ρ ((h.heap.set b (.az {k with cells:=cs})).get) w'/\
    ∀lo hi,Step ρ h.heap.get w ρ ((h.heap.set b (.az {k with cells:=cs})).get) w' lo hi:=by
   intro hown hfrz cs hac how hcap
   obtain⟨L,x,hL,hx,hR⟩:=hh.obj _ _ hk
   cases x<;>simp only[OR] at hR<;>first|exact hR.elim|skip
   rename_i c e fr
   obtain⟨ho1,ho2,ho3⟩:=hX how
   have hlen:vs'.length=vs.length:=hv.length
   have hroom:=hR.room hown
   obtain⟨w',c',hr,hu,hs,hc⟩:=C9 P L.φ e fr vs' (L.δ+off) 0 c w hx (by omega)
    (fun p h1 h2=>by
      rcases hfrz with hf|hf
      ·have:=hR.jt hf;subst this;simp
      ·rcases hR.RE hf with h3|h3<;>omega) (hv.cB hac)
   have hR':OR ρ L (.az {k with cells:=cs}) (.cells c' e fr):=by
    refine⟨hR.elem,hcap,fun _=>by show L.δ+k.cap+L.ψ*k.ko<=c'.size;omega,fun i v hi=>?_,hR.exact,fun hwh=>?_,hR.jt,fun hf=>?_⟩
    ·rw[hc]
     have hi':cs[i]? =some v:=hi
     rw[ho3] at hi'
     by_cases hq:off<=i/\i<off+vs.length
     ·rw[if_pos hq] at hi'
      rw[if_pos (by omega)]
      obtain⟨v',hv',hvR⟩:=hv.get hi'
      exact⟨v',by rw[show L.δ+i - (L.δ+off+0)=i - off by omega];exact hv',hvR⟩
     ·rw[if_neg hq] at hi'
      rw[if_neg (by omega)]
      exact hR.cell i v hi'
    ·obtain⟨h1,h2⟩:=hR.whole hwh;exact⟨h1,by rw[hs];exact h2⟩
    ·rw[hs];exact hR.RE hf
   exact⟨L,w',hL,hr,hh.pg hk hown hL hu hR' (fun i=>T.aH _ _ _ _),fun lo hi=>Step.pg hk hown hL hu (fun i=>T.aH _ _ _ _) lo hi⟩
  have fin:k.own=true->(k.bN=0\/k.bN=1)->(match cB vs,overwrite k.cells off vs with
   |true,some cs=>match Nat.ble cs.length k.cap with
    |true=>some {h with heap:=h.heap.set b (.az {k with cells:=cs}),log:=b::h.log}
    |false=>none
   |_,_=>none)=some h'-> ∃L w',ρ b=some L/\(storeCells ⟨L.φ,L.δ+off,none⟩ vs').run P w= .ok () w'/\aM ρ h'.heap.get w'/\ ∀lo hi,Step ρ h.heap.get w ρ h'.heap.get w' lo hi:=by
   intro h1 h2 hm
   split at hm
   ·rename_i cs hac how
    split at hm
    ·rename_i hle
     cases hm
     exact key h1 h2 cs hac how (Nat.le_of_ble_eq_true hle)
    ·cases hm
   ·cases hm
  split at hw
  ·rename_i ho hf;exact fin ho (.inl hf) hw
  ·rename_i ho hf;exact fin ho (.inr hf) hw
  ·cases hw
 ·cases hw
theorem aM.world{H:HF}{w':World}(hh:aM ρ H w)(he:w'.heap=w.heap):aM ρ H w':=
 ⟨fun b o hb=>let ⟨L,x,h1,h2,h3⟩:=hh.obj b o hb;⟨L,x,h1,by rw[he];exact h2,h3⟩,hh.inj⟩
theorem Step.world{H:HF}{w':World}(h1:w'.heap=w.heap)(h2:w'.os=w.os)(h3:w'.tape=w.tape)(h4:w'.output=w.output)(lo hi:Nat):Step ρ H w ρ H w' lo hi:=
 ⟨h2,h3,h4,by rw[h1];exact Nat.le_refl _,fun _ _ _=>by rw[h1],fun b o L h ho hL=> .inl ⟨b,o,L,h,ho,hL,rfl⟩,fun b o L h hL=> .inl ⟨b,o,L,h,hL,rfl⟩,aX.le.refl _,fun _ _=>rfl⟩
def aX.set(ρ:aX)(b:Nat)(L:Loc):aX:=fun i=>if i=b then some L else ρ i
theorem aX.cJ(ρ:aX)(b:Nat)(L:Loc):(ρ.set b L) b=some L:=by simp[aX.set]
theorem aX.iC{b:Nat}(L:Loc)(h:ρ b=none):ρ.le (ρ.set b L):=fun i M hi=>by
 unfold aX.set;rw[if_neg (fun he=>by subst he;rw[h] at hi;cases hi)];exact hi
theorem aX.gE{b i:Nat}(L:Loc)(h:i≠b):(ρ.set b L) i=ρ i:=by simp[aX.set,h]
theorem aM.new{H H':HF}{b:Nat}{o:aa}{x:Obj}{δ ψ:Nat}(hh:aM ρ H w)(hb:ρ b=none)
 (hR:OR (ρ.set b ⟨w.heap.size,δ,ψ⟩) ⟨w.heap.size,δ,ψ⟩ o x) (hH: ∀i,H' i=if i=b then some o else H i):
 aM (ρ.set b ⟨w.heap.size,δ,ψ⟩) H' (w.alloc x)/\Step ρ H w (ρ.set b ⟨w.heap.size,δ,ψ⟩) H' (w.alloc x) b (b+1):=by
 have hle:=aX.iC (ρ:=ρ) ⟨w.heap.size,δ,ψ⟩ hb
 have hlt: ∀i oi Li,H i=some oi->ρ i=some Li->Li.φ<w.heap.size:=by
  intro i oi Li hi hLi
  obtain⟨L,y,hL,hy,_⟩:=hh.obj _ _ hi
  rw[hLi] at hL;cases hL
  exact(Array.getElem?_eq_some_iff.1 hy).1
 have hold: ∀k,k<w.heap.size->(w.alloc x).heap[k]? =w.heap[k]? :=fun k hk=>by
  show(w.heap.push x)[k]? =_
  rw[Array.getElem?_push,if_neg (by omega)]
 have hnb: ∀i oi,H i=some oi->i≠b:=fun i oi hi he=>by
  obtain⟨L,y,hL,_,_⟩:=hh.obj _ _ hi
  subst he;rw[hb] at hL;cases hL
 refine⟨⟨fun i oi hi=>?_,fun i j oi oj Li Lj hi hj hij hoj hLi hLj=>?_⟩,⟨rfl,rfl,rfl,by simp,fun r hr _=>hold r hr,?_,?_,hle,?_⟩⟩
 ·rw[hH] at hi
  split at hi
  ·rename_i he;subst he;cases hi
   exact⟨_,x,aX.cJ _ _ _,by show(w.heap.push x)[w.heap.size]? =some x;simp,hR⟩
  ·obtain⟨L,y,hL,hy,hRy⟩:=hh.obj _ _ hi
   exact⟨L,y,hle _ _ hL,by rw[hold _ (hlt i oi L hi hL)];exact hy,hRy.mono hle⟩
 ·rw[hH] at hi hj
  split at hi
  ·rename_i he;subst he;cases hi
   rw[aX.cJ] at hLi;cases hLi
   rw[if_neg (fun h=>hij h.symm)] at hj
   rw[aX.gE _ (fun h=>hij h.symm)] at hLj
   have:=hlt j oj Lj hj hLj
   show w.heap.size≠Lj.φ
   omega
  ·rename_i hne
   rw[aX.gE _ hne] at hLi
   split at hj
   ·rename_i he;subst he;cases hj
    rw[aX.cJ] at hLj;cases hLj
    have:=hlt i oi Li hi hLi
    show Li.φ≠w.heap.size
    omega
   ·rename_i hne2
    rw[aX.gE _ hne2] at hLj
    exact hh.inj i j oi oj Li Lj hi hj hij hoj hLi hLj
 ·intro i oi Li hi ho hLi
  rw[hH] at hi
  split at hi
  ·rename_i he;subst he;rw[aX.cJ] at hLi;cases hLi;exact .inr (Nat.le_refl _)
  ·rename_i hne
   rw[aX.gE _ hne] at hLi
   exact .inl ⟨i,oi,Li,hi,ho,hLi,rfl⟩
 ·intro i oi Li hi hLi
  rw[hH] at hi
  split at hi
  ·rename_i he;subst he;rw[aX.cJ] at hLi;cases hLi;exact .inr (Nat.le_refl _)
  ·rename_i hne
   rw[aX.gE _ hne] at hLi
   exact .inl ⟨i,oi,Li,hi,hLi,rfl⟩
 ·intro i hi
  exact aX.gE _ (by omega)
end
section
variable{P:Program}{ρ:aX}{w:World}{h:Hs}
theorem fK{α:Type}: ∀{s:Sem α} {a:α},prun P s=some a-> ∀w,s.run P w= .ok a w
 | .pure a,_,h,w=>by simp[prun] at h;subst h;rfl
 | .program k,a,h,w=>by simp only[prun] at h;simp only[Sem.run];exact fK h w
 | .mark m k,a,h,w=>by simp only[prun] at h;simp only[Sem.run];exact fK h w
 | .load _ _ _,_,h,_=>by simp[prun] at h
 | .store _ _ _ _,_,h,_=>by simp[prun] at h
 | .new _ _,_,h,_=>by simp[prun] at h
 | .shape _ _,_,h,_=>by simp[prun] at h
 | .freeze _ _ _,_,h,_=>by simp[prun] at h
 | .frozen _ _,_,h,_=>by simp[prun] at h
 | .getObj _ _,_,h,_=>by simp[prun] at h
 | .setObj _ _ _,_,h,_=>by simp[prun] at h
 | .choose _ _,_,h,_=>by simp[prun] at h
 | .sys _ _,_,h,_=>by simp[prun] at h
 | .halt _,_,h,_=>by simp[prun] at h
theorem aL{tm:Tm}{n:Nat}{a:Act}(ht:TR ρ tm n a.tmps){x:Operand}{v:Value}(hx:ev tm x=some v):VR ρ v (a.eval x):=by
 cases x with
 |tmp t=>
  simp only[ev] at hx
  obtain⟨rfl,hj⟩:=td hx
  exact(ht.2 t).vr hj
 |const c=>
  simp only[ev] at hx
  split at hx
  ·rename_i hs;cases hx;exact .sc _ hs
  ·cases hx
 |global g=>simp[ev] at hx
 |func f=>simp only[ev,Option.some.injEq] at hx;subst hx;exact .fn f [] [] [] [] .nil .nil
theorem yA{tm:Tm}{n:Nat}{a:Act}(ht:TR ρ tm n a.tmps): ∀{l:List Operand} {vs:List Value},AJ tm l=some vs->cU ρ vs (l.map a.eval)
 |[],vs,h=>by simp[AJ] at h;subst h;exact .nil
 |x::l,vs,h=>by
  simp only[AJ] at h
  split at h
  ·rename_i v hv
   split at h
   ·rename_i vs' hvs
    cases h
    exact .cons _ _ _ _ (aL ht hv) (yA ht hvs)
   ·cases h
  ·cases h
inductive W8 (ρ:aX):List (Nat × Value)->List (Nat × Value)->Prop where
 |nil:W8 ρ [] []
 |cons (i:Nat) (v v':Value) (l l':List (Nat × Value)) (h:VR ρ v v') (k:W8 ρ l l'):W8 ρ ((i,v)::l) ((i,v')::l')
theorem lB{tm:Tm}{n:Nat}{a:Act}(ht:TR ρ tm n a.tmps): ∀{l:List (Nat × Operand)} {vs:List (Nat × Value)},jK tm l=some vs->W8 ρ vs (l.map fun x=>(x.1,a.eval x.2))
 |[],vs,h=>by simp[jK] at h;subst h;exact .nil
 |(i,x)::l,vs,h=>by
  simp only[jK] at h
  split at h
  ·rename_i v hv
   split at h
   ·rename_i vs' hvs
    cases h
    exact .cons _ _ _ _ _ (aL ht hv) (lB ht hvs)
   ·cases h
  ·cases h
def bD(ρ:aX)(lo hi:Nat):Prop:= ∀b,lo<=b->b<hi->ρ b=none
def aJ(P:Program)(ρ:aX)(h:Hs)(w:World)(s:Sem Value)(v:Value)(h':Hs):Prop:=
 ∃ρ' v' w',s.run P w= .ok v' w'/\VR ρ' v v'/\aM ρ' h'.heap.get w'/\Step ρ h.heap.get w ρ' h'.heap.get w' h.next h'.next
def sV(P:Program)(ρ:aX)(h:Hs)(w:World)(s:Sem Unit)(h':Hs):Prop:=
 ∃ρ' w',s.run P w= .ok () w'/\aM ρ' h'.heap.get w'/\Step ρ h.heap.get w ρ' h'.heap.get w' h.next h'.next
def DR(ρ:aX):pf->Deferred->Prop
 | .call f args captured,d=> ∃args' captured',d={target:= .fn (.func f) ⟨captured'⟩,args:=⟨args'⟩}/\cU ρ args args'/\cU ρ captured captured'
 | .mark r,d=> ∃L,ρ r=some L/\d={target:= .collected L.φ,args:= #[]}
def fF(P:Program)(ρ:aX)(h:Hs)(w:World)(s:Sem Next):bZ->Prop
 | .val v h'=> ∃ρ' v' w',s.run P w= .ok (.value v') w'/\VR ρ' v v'/\aM ρ' h'.heap.get w'/\Step ρ h.heap.get w ρ' h'.heap.get w' h.next h'.next
 | .skip h'=> ∃ρ' w',s.run P w= .ok .skip w'/\aM ρ' h'.heap.get w'/\Step ρ h.heap.get w ρ' h'.heap.get w' h.next h'.next
 | .call f args=> ∃args',s.run P w= .ok (.enter f ⟨args'⟩) w/\cU ρ args args'
 | .round l args=> ∃L args',ρ l=some L/\s.run P w=(Instr.yield L.φ ⟨args'⟩).run P w/\cU ρ args args'
 | .gm d=> ∃d',s.run P w= .ok (.defer d') w/\DR ρ d d'
def bZ.next(h:Hs):bZ->Nat
 | .val _ h'| .skip h'=>h'.next
 |_=>h.next
theorem fF.vB{s:Sem Value}{v:Value}{h':Hs}(hv:aJ P ρ h w s v h'):fF P ρ h w (do pure (.value (←s))) (.val v h'):=by
 obtain⟨ρ',v',w',h1,h2,h3,h4⟩:=hv
 exact⟨ρ',v',w',by simp[h1],h2,h3,h4⟩
theorem fF.I7{s:Sem Unit}{h':Hs}(hv:sV P ρ h w s h'):fF P ρ h w (do s;pure .skip) (.skip h'):=by
 obtain⟨ρ',w',h1,h3,h4⟩:=hv
 exact⟨ρ',w',by simp[h1],h3,h4⟩
theorem aJ.pure{s:Sem Value}{v v':Value}(hh:aM ρ h.heap.get w)(hs:s.run P w= .ok v' w)(hv:VR ρ v v'):aJ P ρ h w s v h:=
 ⟨ρ,v',w,hs,hv,hh,Step.refl _ _ _ _ _⟩
theorem aJ.new{s:Sem Value}{v v':Value}{o:aa}{x:Obj}{δ ψ:Nat}(hh:aM ρ h.heap.get w)(hf:bD ρ h.next (h.next+1))(hs:s.run P w= .ok v' (w.alloc x))
 (hR:OR (ρ.set h.next ⟨w.heap.size,δ,ψ⟩) ⟨w.heap.size,δ,ψ⟩ o x) (hv:VR (ρ.set h.next ⟨w.heap.size,δ,ψ⟩) v v'):aJ P ρ h w s v (cL h o):=by
 have hn:ρ h.next=none:=hf _ (Nat.le_refl _) (Nat.lt_succ_self _)
 obtain⟨h1,h2⟩:=aM.new (H':=(cL h o).heap.get) hh hn hR (fun i=>T.aH _ _ _ _)
 exact⟨_,v',_,hs,hv,h1,h2⟩
theorem FJ{L:Loc}{vs vs':List Value}{c:Array Value}{cap ko elem:Nat}{exact whole:Bool}{fr:Nat × Nat}{bN:Nat}{own:Bool}(hv:cU ρ vs vs')
 (hlen:vs.length<=cap) (hroom:own=true->L.δ+cap+L.ψ*ko<=c.size) (hc: ∀i,i<vs.length->c[L.δ+i]? =vs'[i]?) (hex:exact=true->L.ψ=0) (hwh:whole=true->L.δ=0/\c.size=cap)
 (h0:bN=0->fr=(0,0)) (h1:bN=1->fr.2<=fr.1\/c.size<=fr.1):
 OR ρ L (.az {cells:=vs,cap,ko,elem,exact,whole,bN,own}) (.cells c elem fr):=
 ⟨rfl,hlen,hroom,fun i v hi=>by
   have hi':vs[i]? =some v:=hi
   obtain⟨v',hv',hR⟩:=hv.get hi'
   have hlt:i<vs.length:=by
    rcases Nat.lt_or_ge i vs.length with h'|h'
    ·exact h'
    ·simp[List.getElem?_eq_none h'] at hi'
   exact⟨v',by rw[hc i hlt];exact hv',hR⟩,hex,hwh,h0,h1⟩
theorem iD(elem:TypeId)(c:Array Value):(newRow elem c).run P w= .ok ⟨w.heap.size,0,none⟩ (w.alloc (.cells c elem)):=by
 simp[newRow]
theorem aJ.ia{s:Sem Value}{v v':Value}{elem ko:Nat}{vs vs':List Value}(hh:aM ρ h.heap.get w)(hf:bD ρ h.next (h.next+1))(hv:cU ρ vs vs')
 (hs:s.run P w= .ok v' (w.alloc (.cells ⟨vs'⟩ elem))) (hr:VR (ρ.set h.next ⟨w.heap.size,0,0⟩) v v'):aJ P ρ h w s v (ia h elem ko vs):=by
 have hn:ρ h.next=none:=hf _ (Nat.le_refl _) (Nat.lt_succ_self _)
 refine aJ.new (δ:=0) (ψ:=0) hh hf hs (FJ (hv.mono (aX.iC _ hn)) (Nat.le_refl _) ?_ ?_ (fun _=>rfl) (fun _=>⟨rfl,?_⟩) (fun _=>rfl) (fun h=>by cases h)) hr
 ·intro _;simp[hv.length]
 ·intro i _;simp
 ·simp[hv.length]
theorem VR.vG(ρ:aX)(b:Nat)(L:Loc)(h:L.δ=0):VR (ρ.set b L) (ptrTo b) (.pointer (some ⟨L.φ,0,none⟩)):=by
 have:=VR.ptr (ρ:=ρ.set b L) b 0 L (aX.cJ _ _ _)
 simpa[h,ptrTo] using this
theorem VR.xO(ρ:aX)(b:Nat)(L:Loc)(n c:Nat)(h:L.δ=0):VR (ρ.set b L) (.slice (some ⟨b,0,none⟩) n c) (.slice (some ⟨L.φ,0,none⟩) n (c+L.ψ)):=by
 have:=VR.sl (ρ:=ρ.set b L) b 0 n c L (aX.cJ _ _ _)
 simpa[h] using this
theorem Lf{e:TypeId}{i:TypeInfo}{z:Value}(hh:aM ρ h.heap.get w)(hf:bD ρ h.next (h.next+1))(hi:P.info? e=some i)(hz:i.zero=some z)(hp:aC z=true):
 aJ P ρ h w (Instr.alloc e true (.tuple #[])) (ptrTo h.next) (ia h e 1 (aZ z)):=by
 refine aJ.ia (v':= .pointer (some ⟨w.heap.size,0,none⟩)) hh hf (VR.aQ hp).cells ?_ (VR.vG _ _ _ rfl)
 simp[Instr.alloc,dt hi hz,newVar,iD]
theorem Sy{e:TypeId}{v v':Value}(hh:aM ρ h.heap.get w)(hf:bD ρ h.next (h.next+1))(hv:VR ρ v v'):
 aJ P ρ h w (Instr.box e v') (ptrTo h.next) (ia h e 1 (aZ v)):=by
 refine aJ.ia (v':= .pointer (some ⟨w.heap.size,0,none⟩)) hh hf hv.cells ?_ (VR.vG _ _ _ rfl)
 simp[Instr.box,newVar,iD]
theorem NO{t:TypeId}{a a':Value}{r:bZ}(hh:aM ρ h.heap.get w)(ha:VR ρ a a')(hr:wG P h t a=some r): ∃v,r= .val v h/\aJ P ρ h w (Instr.loadAt t a') v h:=by
 unfold wG at hr
 split at hr
 ·split at hr
  ·rename_i b off v hv
   cases hr
   obtain⟨L,v',hL,hrun,hvR⟩:=pn hh hv
   cases ha with
   |sc _ hs=>simp[simple] at hs
   |ptr b o L' hL'=>
    rw[hL] at hL';cases hL'
    exact⟨v,rfl,aJ.pure hh (by simp[Instr.loadAt,Instr.sureAddr,hrun]) hvR⟩
  ·cases hr
 ·cases hr
theorem Is{t:TypeId}{a a' v v':Value}{r:bZ}(hh:aM ρ h.heap.get w)(ha:VR ρ a a')(hv:VR ρ v v')(hr:qa P h t a v=some r):
 ∃h',r= .skip h'/\h'.next=h.next/\sV P ρ h w (Instr.storeAt t a' v') h':=by
 unfold qa at hr
 split at hr
 ·rename_i b off
  split at hr
  ·rename_i i hi
   split at hr
   ·rename_i c cs h' h1 h2 h3
    cases hr
    rw[h2] at h3 h1
    have hc:=hv.cells
    rw[h2] at hc
    obtain⟨L,w',hL,hrun,hh',hst⟩:=iN (P:=P) hh h3 hc
    have hnx:h'.next=h.next:=by
     unfold dF at h3
     repeat' (split at h3)
     all_goals first|(cases h3;rfl)|cases h3
    cases ha with
    |sc _ hs=>simp[simple] at hs
    |ptr b o L' hL'=>
     rw[hL] at hL';cases hL'
     have hlen:=hc.length
     have hsz:v'.cells.size=i.size:=by
      rw[←Array.length_toList,hlen,Nat.eq_of_beq_eq_true h1]
     exact⟨h',rfl,hnx,ρ,w',by simp[Instr.storeAt,Instr.sureAddr,storeVar,aR hi,hsz,hrun],hh',hst _ _⟩
   ·cases hr
  ·cases hr
 ·cases hr
end
section
variable{P:Program}{ρ:aX}{w:World}{h:Hs}
theorem yz(off:Nat): ∀(l:List Value)(k:Nat)(a:Array Value),off+k+l.length<=a.size->
 ((l.zipIdx k).foldl (fun cs (x:Value × Nat)=>cs.setIfInBounds (off+x.2) x.1) a).size=a.size/\
 ∀p,((l.zipIdx k).foldl (fun cs (x:Value × Nat)=>cs.setIfInBounds (off+x.2) x.1) a)[p]? =if off+k<=p/\p<off+k+l.length then l[p - (off+k)]? else a[p]?
 |[],k,a,_=>⟨rfl,fun p=>by rw[if_neg (by simp)];rfl⟩
 |v::l,k,a,hl=>by
  simp only[List.zipIdx_cons,List.foldl_cons]
  have hi:off+k<a.size:=by simp at hl;omega
  obtain⟨h1,h2⟩:=yz off l (k+1) (a.setIfInBounds (off+k) v) (by simp at hl ⊢;omega)
  refine⟨by rw[h1];simp,fun p=>?_⟩
  rw[h2 p]
  by_cases hp:p=off+k
  ·subst hp
   rw[if_neg (by omega),if_pos (by simp)]
   simp[hi]
  ·by_cases hq:off+(k+1)<=p/\p<off+(k+1)+l.length
   ·rw[if_pos hq,if_pos (by simp;omega),show p - (off+k)=(p - (off+(k+1)))+1 by omega]
    simp
   ·rw[if_neg hq,if_neg (by simp;omega),Array.getElem?_setIfInBounds_ne (by omega)]
theorem mK{place:Nat->Option (Nat × Nat)}: ∀{ps ps':List (Nat × Value)} {cells cs:List Value} {cells':Array Value},W8 ρ ps ps'->cU ρ cells cells'.toList->
 wb place cells ps=some cs-> ∃cs':Array Value,Instr.fill place cells' ps'=some cs'/\cU ρ cs cs'.toList
 |_,_,cells,cs,cells', .nil,hc,hf=>by
  simp only[wb,Option.some.injEq] at hf
  subst hf
  exact⟨cells',rfl,hc⟩
 |_,_,cells,cs,cells', .cons i v v' l l' hv hl,hc,hf=>by
  simp only[wb] at hf
  cases hp:place i with
  |none=>simp[hp] at hf
  |some x=>
   obtain⟨off,size⟩:=x
   simp only[hp] at hf
   split at hf
   ·rename_i cs1 h1 h2 h3
    have hvc:=hv.cells
    have hlen:v'.cells.size=(aZ v).length:=by rw[←Array.length_toList];exact hvc.length
    have hclen:cells'.size=cells.length:=by rw[←Array.length_toList];exact hc.length
    have e1:=Nat.eq_of_beq_eq_true h1
    have e2:=Nat.le_of_ble_eq_true h2
    obtain⟨o1,o2,o3⟩:=hX h3
    have hfold:=yz off v'.cells.toList 0 cells' (by simp[hlen,hclen];omega)
    have hnext:cU ρ cs1 (v'.cells.zipIdx.foldl (fun cs (x:Value × Nat)=>cs.setIfInBounds (off+x.2) x.1) cells').toList:=by
     rw[←Array.foldl_toList,Array.toList_zipIdx]
     refine cU.zE ?_ fun p u hu=>?_
     ·rw[Array.length_toList,hfold.1,hclen,o2];omega
     ·rw[Array.getElem?_toList,hfold.2 p]
      rw[o3 p] at hu
      by_cases hq:off<=p/\p<off+(aZ v).length
      ·rw[if_pos hq] at hu
       rw[if_pos (by rw[Array.length_toList,hlen];omega)]
       simpa using hvc.get hu
      ·rw[if_neg hq] at hu
       rw[if_neg (by rw[Array.length_toList,hlen];omega)]
       simpa using hc.get hu
    obtain⟨cs',hcs',hR⟩:=mK hl hnext hf
    refine⟨cs',?_,hR⟩
    simp only[Instr.fill,hp]
    rw[if_neg (by simp[hlen,hclen,e1];omega)]
    exact hcs'
   ·cases hf
theorem sZ: ∀{fs:List Field} {pl:List (Nat × Nat)},qF P fs=some pl->(fs.mapM fun f=>Prod.mk f.offset<$>sizeOf f.type).run P w= .ok pl w
 |[],pl,hp=>by simp only[qF,Option.some.injEq] at hp;subst hp;simp
 |f::fs,pl,hp=>by
  simp only[qF] at hp
  split at hp
  ·rename_i i hi
   split at hp
   ·rename_i r hr
    cases hp
    simp[List.mapM_cons,aR hi,sZ hr]
   ·cases hp
  ·cases hp
theorem K1{tm:Tm}{n:Nat}{a:Act}(ht:TR ρ tm n a.tmps){t:TypeId}{parts:Array (Nat × Operand)}{r:bZ}(hh:aM ρ h.heap.get w)(hr:wJ P tm h t parts.toList=some r):
 ∃v,r= .val v h/\aJ P ρ h w (Instr.build t (parts.map fun(i,x)=>(i,a.eval x))) v h:=by
 unfold wJ at hr
 split at hr
 ·rename_i ps ti d hps hti hd
  have hpr:=lB ht hps
  split at hr
  ·rename_i z fields hz
   split at hr
   ·rename_i pl hpz hpl
    split at hr
    ·rename_i cs hcs
     cases hr
     obtain⟨cs',h1,h2⟩:=mK hpr (VR.aQ hpz (ρ:=ρ)).cells hcs
     have hpe:nth pl=fun i=>pl[i]? :=funext fun i=>by rw[gi]
     rw[hpe] at h1
     refine⟨_,rfl,aJ.pure hh ?_ (.agg cs cs'.toList h2)⟩
     simp[Instr.build,dt hti hz,ab hd,Array.mapM_eq_mapM_toList,sZ hpl,h1]
    ·cases hr
   ·cases hr
  ·rename_i z ln e hz
   split at hr
   ·rename_i ei hpz hei
    split at hr
    ·rename_i cs hcs
     cases hr
     obtain⟨cs',h1,h2⟩:=mK hpr (VR.aQ hpz (ρ:=ρ)).cells hcs
     refine⟨_,rfl,aJ.pure hh ?_ (.agg cs cs'.toList h2)⟩
     simp[Instr.build,dt hti hz,ab hd,aR hei,h1]
    ·cases hr
   ·cases hr
  ·cases hr
 ·cases hr
theorem oD{α:Type}: ∀(n:Nat)(l:List α),(rep n l).length=n*l.length
 |0,l=>by simp[rep]
 |n+1,l=>by simp[rep,oD n l,Nat.add_mul];omega
theorem EK: ∀(n:Nat)(l:List Value)(i:Nat),i<n*l.length->(rep n l)[i]? =l[i % l.length]?
 |0,l,i,h=>by simp at h
 |n+1,l,i,h=>by
  simp only[rep]
  by_cases hi:i<l.length
  ·rw[List.getElem?_append_left hi,Nat.mod_eq_of_lt hi]
  ·rw[List.getElem?_append_right (by omega),EK n l (i - l.length) (by rw[Nat.add_mul] at h;omega)]
   rw[Nat.mod_eq_sub_mod (a:=i) (by omega)]
theorem uJ(n:Nat)(z:Value)(s:Nat)(hs:z.cells.size=s)(hs0:s≠0\/n=0):
 ((Array.range (n*s)).map (z.cells[· % z.cells.size]!))=(rep n z.cells.toList).toArray:=by
 apply Array.ext'
 apply List.ext_getElem?
 intro i
 rw[Array.getElem?_toList]
 by_cases hi:i<n*s
 ·have hz:0<s:=by rcases hs0 with h|h<;>(try subst h)<;>omega
  have hlt:i % s<s:=Nat.mod_lt _ hz
  have e1:(rep n z.cells.toList)[i]? =z.cells.toList[i % z.cells.toList.length]? :=EK n _ i (by rw[Array.length_toList,hs];exact hi)
  simp only[Array.getElem?_map,Array.getElem?_range,hi,if_true,Option.map_some,e1,Array.length_toList,hs]
  rw[Array.getElem?_toList,Array.getElem?_eq_getElem (by omega)]
  rw[getElem!_pos _ _ (by omega)]
 ·rw[Array.getElem?_eq_none (by simp;omega),List.getElem?_eq_none (by simp[oD,hs];omega)]
theorem fS{v:Value}:v.cells.toList=aZ v:=by cases v<;>rfl
theorem xp{tm:Tm}{n:Nat}{a:Act}(ht:TR ρ tm n a.tmps){t:TypeId}{len:Nat}{parts:Array (Nat × Operand)}{r:bZ}(hh:aM ρ h.heap.get w)(hf:bD ρ h.next (r.next h))
 (hr:jm P tm h t len parts.toList=some r): ∃v h',r= .val v h'/\aJ P ρ h w (Instr.buildSlice t len (parts.map fun(i,x)=>(i,a.eval x))) v h':=by
 unfold jm at hr
 split at hr
 ·rename_i e ps hu hps
  have hpr:=lB ht hps
  split at hr
  ·rename_i i hi
   split at hr
   ·rename_i z hz
    split at hr
    ·rename_i cs hpz hsz hle hcs
     cases hr
     have hle':=Nat.le_of_ble_eq_true hle
     have hsz':=Nat.eq_of_beq_eq_true hsz
     have hzs:z.cells.size=i.size:=by rw[←Array.length_toList,fS,hsz']
     have hrep:cU ρ (rep len (aZ z)) (rep len (aZ z)).toArray.toList:=by
      have: ∀k,cU ρ (rep k (aZ z)) (rep k (aZ z)):=by
       intro k
       induction k with
       |zero=>exact .nil
       |succ k ih=>
        refine cU.append ?_ ih
        have:=(VR.aQ hpz (ρ:=ρ)).cells
        rw[fS] at this
        exact this
      simpa using this len
     obtain⟨cs',h1,h2⟩:=mK hpr hrep hcs
     refine⟨_,_,rfl,aJ.ia (v':= .slice (some ⟨w.heap.size,0,none⟩) len len) hh hf h2 ?_ (VR.xO _ _ _ _ _ rfl)⟩
     have hbig: ¬len*i.size>2 ^ 24:=by omega
     by_cases h0:len*i.size=0
     ·have hnil:rep len (aZ z)=[]:=by
       rw[←List.length_eq_zero_iff,oD,hsz'];exact h0
      rw[hnil] at h1
      have hr0: ∀f:Nat->Value,Array.map f (Array.range 0)= #[]:=fun f=>by simp[Array.range]
      simp[hr0,Instr.buildSlice,ab hu,aR hi,h0,h1,iD]
     ·have hcells:((Array.range (len*i.size)).map (z.cells[· % z.cells.size]!))=(rep len (aZ z)).toArray:=by
       rw[uJ len z i.size hzs (by
        rcases Nat.eq_zero_or_pos i.size with h|h
        ·rw[h] at h0;simp at h0
        ·left;omega),fS]
      simp only[Instr.buildSlice,Sem.run_bind,ab hu,Result.andThen_ok,aR hi,if_neg hbig,if_neg h0,dt hi hz,Sem.run_pure,hcells]
      simp[h1,iD]
    ·cases hr
   ·cases hr
  ·cases hr
 ·cases hr
theorem ta{t:TypeId}{cs:List Value}{cs':List Value}{off:Nat}{v:Value}(hc:cU ρ cs cs')(hp:EX P t cs off=some v):
 ∃v',(part t ⟨cs'⟩ off).run P w= .ok v' w/\VR ρ v v':=by
 unfold EX at hp
 split at hp
 ·rename_i d hd
  split at hp
  ·rename_i hag
   split at hp
   ·rename_i i hi
    cases hp
    refine⟨.agg (Array.extract ⟨cs'⟩ off (off+i.size)),by simp[part,mz hd,hag,aR hi],?_⟩
    have e: ∀l:List Value,(Array.extract ⟨l⟩ off (off+i.size))=⟨(l.drop off).take i.size⟩:=fun l=>by
     apply Array.ext'
     simp[List.extract]
    rw[e,e]
    refine .agg _ _ (cU.zE (by simp[hc.length]) fun j u hj=>?_)
    have hjs:j<i.size:=by
     rcases Nat.lt_or_ge j i.size with h'|h'
     ·exact h'
     ·rw[List.getElem?_take_eq_none h'] at hj;cases hj
    rw[List.getElem?_take_of_lt hjs,List.getElem?_drop] at hj ⊢
    exact hc.get hj
   ·cases hp
  ·rename_i hag
   rw[gi] at hp
   obtain⟨v',h1,h2⟩:=hc.get hp
   refine⟨v',?_,h2⟩
   simp[part,mz hd,hag,h1]
 ·cases hp
theorem J5{t:TypeId}{x x':Value}{f:Nat}{r:bZ}(hh:aM ρ h.heap.get w)(hx:VR ρ x x')(hr:Ay P h t x f=some r): ∃v,r= .val v h/\aJ P ρ h w (Instr.field t x' f) v h:=by
 unfold Ay at hr
 split at hr
 ·rename_i fields cs hu
  split at hr
  ·rename_i fd hfd
   split at hr
   ·rename_i v hv
    cases hr
    cases hx with
    |sc _ hs=>simp[simple] at hs
    |agg a a' hc=>
     obtain⟨v',h1,h2⟩:=ta (P:=P) (w:=w) hc hv
     have hfd':fields[f]? =some fd:=by rw[←hfd,uu,gi,Array.getElem?_toList]
     exact⟨v,rfl,aJ.pure hh (by simp[Instr.field,ab hu,hfd',asAgg,h1]) h2⟩
   ·cases hr
  ·cases hr
 ·cases hr
theorem zX{t:TypeId}{x x':Value}{f:Nat}{r:bZ}(hh:aM ρ h.heap.get w)(hx:VR ρ x x')(hr:mS P h t x f=some r): ∃v,r= .val v h/\aJ P ρ h w (Instr.fieldAt t x' f) v h:=by
 unfold mS at hr
 split at hr
 ·rename_i fields a hu
  split at hr
  ·rename_i fd hfd hsp
   split at hr
   ·rename_i i hi
    split at hr
    ·cases hr
    ·rename_i m hm
     cases hr
     cases hx with
     |sc _ hs=>simp[simple] at hs
     |ptr b o L hL=>
      have hfd':fields[f]? =some fd:=by rw[←hfd,uu,gi,Array.getElem?_toList]
      refine⟨_,rfl,aJ.pure hh (v':= .pointer (some ⟨L.φ,L.δ+o+fd.offset,none⟩)) ?_ ?_⟩
      ·simp[Instr.fieldAt,ab hu,hfd',Instr.sureAddr,fieldPlace,aR hi,hm,ew]
      ·have:=VR.ptr (ρ:=ρ) b (o+fd.offset) L hL
       rw[Nat.add_assoc];exact this
   ·cases hr
  ·cases hr
 ·cases hr
theorem DU{x x':Value}{i:Nat}{r:bZ}(hh:aM ρ h.heap.get w)(hx:VR ρ x x')(hr:rJ h x i=some r): ∃v,r= .val v h/\aJ P ρ h w (Instr.extract x' i) v h:=by
 unfold rJ at hr
 split at hr
 ·rename_i vs
  split at hr
  ·rename_i v hv
   cases hr
   rw[gi] at hv
   cases hx with
   |sc _ hs=>simp[simple] at hs
   |tuple a a' hc=>
    obtain⟨v',h1,h2⟩:=hc.get hv
    exact⟨v,rfl,aJ.pure hh (by simp[Instr.extract,h1]) h2⟩
  ·cases hr
 ·cases hr
theorem zS{t:TypeId}{x x' i i':Value}{r:bZ}(hh:aM ρ h.heap.get w)(hx:VR ρ x x')(hi:VR ρ i i')(hr:iM P h t x i=some r): ∃v,r= .val v h/\aJ P ρ h w (Instr.indexAt t x' i') v h:=by
 unfold iM at hr
 split at hr
 ·rename_i n e a k j hu
  split at hr
  ·rename_i ei hei hsp hlt
   cases hr
   cases hi with
   |sc _ _=>
    cases hx with
    |sc _ hs=>simp[simple] at hs
    |ptr b o L hL=>
     have hlt':j<n:=by simpa[Nat.blt_eq] using hlt
     refine⟨_,rfl,aJ.pure hh (v':= .pointer (some ⟨L.φ,L.δ+o+j*ei.size,none⟩)) ?_ ?_⟩
     ·simp[Instr.indexAt,asIntOf,ab hu,Instr.sureAddr,aR hei,ew,hlt']
     ·have:=VR.ptr (ρ:=ρ) b (o+j*ei.size) L hL
      rw[Nat.add_assoc];exact this
  ·cases hr
 ·rename_i e a n c k j hu
  split at hr
  ·rename_i ei hei hsp hlt
   cases hr
   cases hi with
   |sc _ _=>
    cases hx with
    |sc _ hs=>exact absurd hsp (eh hs).1
    |es _ _ hs=>exact absurd hsp hs
    |sl b o m c L hL=>
     have hlt':j<n:=by simpa[Nat.blt_eq] using hlt
     refine⟨_,rfl,aJ.pure hh (v':= .pointer (some ⟨L.φ,L.δ+o+j*ei.size,none⟩)) ?_ ?_⟩
     ·simp[Instr.indexAt,asIntOf,ab hu,aR hei,ew,hlt']
     ·have:=VR.ptr (ρ:=ρ) b (o+j*ei.size) L hL
      rw[Nat.add_assoc];exact this
  ·cases hr
 ·cases hr
theorem xo(s:ByteArray)(i:Nat):s[i]? =s.data.toList[i]? :=by
 rw[Array.getElem?_toList]
 simp only[getElem?_def]
 rfl
theorem JT{t:TypeId}{x x' i i':Value}{r:bZ}(hh:aM ρ h.heap.get w)(hx:VR ρ x x')(hi:VR ρ i i')(hr:Ax P h t x i=some r): ∃v,r= .val v h/\aJ P ρ h w (Instr.index t x' i') v h:=by
 unfold Ax at hr
 split at hr
 ·rename_i n e cs k j hu
  split at hr
  ·rename_i ei hei hlt
   split at hr
   ·rename_i v hv
    cases hr
    cases hi with
    |sc _ _=>
     cases hx with
     |sc _ hs=>simp[simple] at hs
     |agg a a' hc=>
      obtain⟨v',h1,h2⟩:=ta (P:=P) (w:=w) hc hv
      have hlt':j<n:=by simpa[Nat.blt_eq] using hlt
      exact⟨v,rfl,aJ.pure hh (by simp[Instr.index,asIntOf,ab hu,aR hei,hlt',h1]) h2⟩
   ·cases hr
  ·cases hr
 ·rename_i s k j hu
  split at hr
  ·rename_i b hb
   cases hr
   cases hi with
   |sc _ _=>
    cases hx with
    |sc _ hs=>
     rw[gi] at hb
     refine⟨_,rfl,aJ.pure hh (v':= .int .u8 b.toNat) ?_ (.sc _ rfl)⟩
     have hb':s[j]? =some b:=by rw[xo];exact hb
     simp[Instr.index,asIntOf,ab hu,hb']
  ·cases hr
 ·cases hr
end
section
variable{P:Program}{ρ:aX}{w:World}{h:Hs}
theorem Ag{v:Value}{hi i:Nat}(hb:Ah v hi=some i):(∃k,v= .int k (i:Int))/\i<=hi:=by
 unfold Ah at hb
 split at hb
 ·split at hb
  ·rename_i h;cases hb;exact⟨⟨_,rfl⟩,Nat.le_of_ble_eq_true h⟩
  ·cases hb
 ·cases hb
theorem VR.int{k:IntKind}{i:Int}{x:Value}(hv:VR ρ (.int k i) x):x= .int k i:=by cases hv;rfl
theorem eW{tm:Tm}{n:Nat}{a:Act}(ht:TR ρ tm n a.tmps){o:Operand}{d hi i:Nat}(hb:bR tm (some o) d hi=some i):(∃k,a.eval o= .int k (i:Int))/\i<=hi:=by
 simp only[bR] at hb
 split at hb
 ·rename_i v hv
  obtain⟨⟨k,rfl⟩,hle⟩:=Ag hb
  exact⟨⟨k,(aL ht hv).int⟩,hle⟩
 ·cases hb
theorem jh{tm:Tm}{d hi i:Nat}(hb:bR tm none d hi=some i):i=d/\d<=hi:=by
 simp only[bR] at hb
 split at hb
 ·rename_i h;cases hb;exact⟨rfl,Nat.le_of_ble_eq_true h⟩
 ·cases hb
theorem mf{tm:Tm}{n:Nat}{a:Act}(ht:TR ρ tm n a.tmps){o:Option Operand}{d hi i:Nat}(hb:bR tm o d hi=some i):i<=hi:=by
 cases o with
 |none=>obtain⟨rfl,h⟩:=jh hb;exact h
 |some o=>exact(eW ht hb).2
theorem run_sliceBound{k:IntKind}{i y:Nat}(c:BoundsCode)(hle:i<=y):(Instr.sliceBound (.int k (i:Int)) y c).run P w= .ok i w:=by
 simp[Instr.sliceBound,asIntOf]
 omega
theorem mA{tm:Tm}{n:Nat}{a:Act}(ht:TR ρ tm n a.tmps){lo hi:Option Operand}{len top cap l hh:Nat}(b:Bool)(h1:bR tm hi len top=some hh)(h2:bR tm lo 0 hh=some l)(hle:top<=cap):
 (Instr.sliceBounds b len cap (lo.map a.eval) (hi.map a.eval) none).run P w= .ok (l,hh,cap) w:=by
 cases hi with
 |none=>
  obtain⟨rfl,_⟩:=jh h1
  cases lo with
  |none=>obtain⟨rfl,_⟩:=jh h2;simp[Instr.sliceBounds]
  |some lo=>
   obtain⟨⟨k,hk⟩,hl⟩:=eW ht h2
   simp[Instr.sliceBounds,hk,run_sliceBound _ hl]
 |some hi=>
  obtain⟨⟨k,hk⟩,hl⟩:=eW ht h1
  cases lo with
  |none=>obtain⟨rfl,_⟩:=jh h2;simp[Instr.sliceBounds,hk,run_sliceBound _ (Nat.le_trans hl hle)]
  |some lo=>
   obtain⟨⟨k',hk'⟩,hl'⟩:=eW ht h2
   simp[Instr.sliceBounds,hk,hk',run_sliceBound _ (Nat.le_trans hl hle),run_sliceBound _ hl']
theorem nA{tm:Tm}{n:Nat}{a:Act}(ht:TR ρ tm n a.tmps){lo:Option Operand}{hi mx:Operand}{len top cap l hh m d d':Nat}(b:Bool)(h0:bR tm (some mx) d top=some m)(h1:bR tm (some hi) d' m=some hh)(h2:bR tm lo 0 hh=some l)
 (hle:top<=cap):(Instr.sliceBounds b len cap (lo.map a.eval) (some (a.eval hi)) (some (a.eval mx))).run P w= .ok (l,hh,m) w:=by
 obtain⟨⟨k0,hk0⟩,hl0⟩:=eW ht h0
 obtain⟨⟨k,hk⟩,hl⟩:=eW ht h1
 cases lo with
 |none=>obtain⟨rfl,_⟩:=jh h2;simp[Instr.sliceBounds,hk0,hk,run_sliceBound _ (Nat.le_trans hl0 hle),run_sliceBound _ hl]
 |some lo=>
  obtain⟨⟨k',hk'⟩,hl'⟩:=eW ht h2
  simp[Instr.sliceBounds,hk0,hk,hk',run_sliceBound _ (Nat.le_trans hl0 hle),run_sliceBound _ hl,run_sliceBound _ hl']
theorem aM.ext{H:HF}{b:Nat}(L:Loc)(hh:aM ρ H w)(hb:ρ b=none):aM (ρ.set b L) H w/\Step ρ H w (ρ.set b L) H w b (b+1):=by
 have hle:=aX.iC (ρ:=ρ) L hb
 have hsame: ∀i o Li,H i=some o->(ρ.set b L) i=some Li->ρ i=some Li:=by
  intro i o Li hi hLi
  obtain⟨M,x,hM,_,_⟩:=hh.obj _ _ hi
  have:=hle _ _ hM
  rw[hLi] at this;cases this;exact hM
 refine⟨⟨fun i o hi=>?_,fun i j oi oj Li Lj hi hj hij hoj hLi hLj=>hh.inj i j oi oj Li Lj hi hj hij hoj (hsame _ _ _ hi hLi) (hsame _ _ _ hj hLj)⟩,
  ⟨rfl,rfl,rfl,Nat.le_refl _,fun _ _ _=>rfl,fun i o Li hi ho hLi=> .inl ⟨i,o,Li,hi,ho,hsame _ _ _ hi hLi,rfl⟩,fun i o Li hi hLi=> .inl ⟨i,o,Li,hi,hsame _ _ _ hi hLi,rfl⟩,hle,fun i hi=>aX.gE _ (by omega)⟩⟩
 obtain⟨M,x,hM,hx,hR⟩:=hh.obj _ _ hi
 exact⟨M,x,hle _ _ hM,hx,hR.mono hle⟩
theorem aM.move{H H':HF}{b nb:Nat}{o o':aa}{L L':Loc}{x':Obj}{w':World}(hh:aM ρ H w)(hb:H b=some o)(ho:o.owned=true)(hL:ρ b=some L)(hn:ρ nb=none)(hφ:L'.φ=L.φ)
 (hw:og w w' L.φ x') (hR:OR (ρ.set nb L') L' o' x') (hH: ∀i,H' i=if i=nb then some o' else if i=b then none else H i):
 aM (ρ.set nb L') H' w'/\Step ρ H w (ρ.set nb L') H' w' nb (nb+1):=by
 have hle:=aX.iC (ρ:=ρ) L' hn
 have hsame: ∀i o Li,H i=some o->(ρ.set nb L') i=some Li->ρ i=some Li:=by
  intro i o Li hi hLi
  obtain⟨M,x,hM,_,_⟩:=hh.obj _ _ hi
  have:=hle _ _ hM
  rw[hLi] at this;cases this;exact hM
 refine⟨⟨fun i oi hi=>?_,fun i j oi oj Li Lj hi hj hij hoj hLi hLj=>?_⟩,⟨hw.os,hw.tape,hw.output,by rw[hw.size];exact Nat.le_refl _,fun r _ hno=>hw.other r fun he=>hno b o L hb ho hL he.symm,?_,?_,hle,fun i hi=>aX.gE _ (by omega)⟩⟩
 ·rw[hH] at hi
  split at hi
  ·rename_i he;subst he;cases hi;exact⟨L',x',aX.cJ _ _ _,by rw[hφ];exact hw.at_,hR⟩
  ·split at hi
   ·cases hi
   ·rename_i hne
    obtain⟨M,x,hM,hx,hRx⟩:=hh.obj _ _ hi
    exact⟨M,x,hle _ _ hM,by rw[hw.other _ (hh.inj i b oi o M L hi hb hne ho hM hL)];exact hx,hRx.mono hle⟩
 ·rw[hH] at hi hj
  split at hi
  ·rename_i he;subst he;cases hi
   rw[if_neg (fun h=>hij h.symm)] at hj
   split at hj
   ·cases hj
   ·rename_i hne
    rw[aX.cJ] at hLi;cases hLi
    rw[hφ]
    exact fun he=>hh.inj j b oj o Lj L hj hb hne ho (hsame _ _ _ hj hLj) hL he.symm
  ·rename_i hni
   split at hi
   ·cases hi
   ·rename_i hne
    split at hj
    ·rename_i he;subst he;cases hj
     rw[aX.cJ] at hLj;cases hLj
     rw[hφ]
     exact hh.inj i b oi o Li L hi hb hne ho (hsame _ _ _ hi hLi) hL
    ·split at hj
     ·cases hj
     ·exact hh.inj i j oi oj Li Lj hi hj hij hoj (hsame _ _ _ hi hLi) (hsame _ _ _ hj hLj)
 ·intro i oi Li hi ho' hLi
  rw[hH] at hi
  split at hi
  ·rename_i he;subst he;rw[aX.cJ] at hLi;cases hLi;exact .inl ⟨b,o,L,hb,ho,hL,hφ.symm⟩
  ·split at hi
   ·cases hi
   ·exact .inl ⟨i,oi,Li,hi,ho',hsame _ _ _ hi hLi,rfl⟩
 ·intro i oi Li hi hLi
  rw[hH] at hi
  split at hi
  ·rename_i he;subst he;rw[aX.cJ] at hLi;cases hLi;exact .inl ⟨b,o,L,hb,hL,hφ.symm⟩
  ·split at hi
   ·cases hi
   ·exact .inl ⟨i,oi,Li,hi,hsame _ _ _ hi hLi,rfl⟩
theorem og.self{r:Nat}{x:Obj}(hx:w.heap[r]? =some x):og w w r x:=⟨rfl,rfl,rfl,rfl,fun _ _=>rfl,hx⟩
theorem A2{tm:Tm}{n:Nat}{a:Act}(ht:TR ρ tm n a.tmps){xt:TypeId}{s:ByteArray}{lo hi:Option Operand}{v:Value}(hu:P.underlying xt=some .string)(hr:qo tm s lo hi=some v)(hh:aM ρ h.heap.get w):
 aJ P ρ h w (Instr.sliceAt xt (.string s) (lo.map a.eval) (hi.map a.eval) none) v h:=by
 unfold qo at hr
 split at hr
 ·rename_i hh' h1
  split at hr
  ·rename_i l h2
   cases hr
   have:=mA (P:=P) (w:=w) ht false h1 h2 (Nat.le_refl _)
   exact aJ.pure hh (v':= .string (s.extract l hh')) (by simp[Instr.sliceAt,Instr.slice,ab hu,this]) (.sc _ rfl)
  ·cases hr
 ·cases hr
theorem fV{L:Loc}{k:aV}{x:Obj}(hR:OR ρ L (.az k) x): ∃c fr,x= .cells c k.elem fr/\CR ρ L k c k.elem fr:=by
 cases x<;>simp only[OR] at hR<;>first|exact hR.elim|skip
 rename_i c e fr
 have:=hR.elem;subst this
 exact⟨c,fr,rfl,hR⟩
theorem Dc{tm:Tm}{n:Nat}{a:Act}(ht:TR ρ tm n a.tmps){xt e:TypeId}{i:TypeInfo}{ao:Option Addr}{len cap:Nat}{v':Value}{lo hi mx:Option Operand}{r:bZ}(hu:P.underlying xt=some (.slice e))(hi':P.info? e=some i)
 (hx:VR ρ (.slice ao len cap) v') (hh:aM ρ h.heap.get w) (hf:bD ρ h.next (r.next h)) (hr:gY h tm i.size ao len cap lo hi mx=some r):
 ∃v h',r= .val v h'/\aJ P ρ h w (Instr.sliceAt xt v' (lo.map a.eval) (hi.map a.eval) (mx.map a.eval)) v h':=by
 unfold gY at hr
 split at hr
 ·
  split at hr
  ·rename_i hh' h1
   split at hr
   ·rename_i l h2
    cases hr
    cases hx with
    |sc _ _=>
     have hb:=mA (P:=P) (w:=w) ht true h1 h2 (Nat.le_refl _)
     refine⟨_,_,rfl,aJ.pure hh (v':= .slice none (hh' - l) (0 - l)) ?_ (.sc _ rfl)⟩
     simp[Instr.sliceAt,Instr.slice,ab hu,hb,aR hi']
   ·cases hr
  ·cases hr
 ·
  rename_i ad
  split at hr
  ·rename_i k hh' hsp hk h1
   split at hr
   ·rename_i l h2
    have hl1:=mf ht h1
    have hl2:=mf ht h2
    cases hx with
    |sc _ hs=>exact absurd hsp (eh hs).1
    |es _ _ hs=>exact absurd hsp hs
    |sl b o _ _ L hL=>
     have hb:=mA (P:=P) (w:=w) (cap:=cap+L.ψ) ht true h1 h2 (Nat.le_add_right _ _)
     split at hr
     ·rename_i hne
      cases hr
      have hne':cap≠l:=by intro he;subst he;simp at hne
      refine⟨_,_,rfl,aJ.pure hh (v':= .slice (some ⟨L.φ,L.δ+o+l*i.size,none⟩) (hh' - l) (cap+L.ψ - l)) ?_ ?_⟩
      ·simp[Instr.sliceAt,Instr.slice,ab hu,hb,aR hi',show¬cap+L.ψ=l by omega,ew]
      ·have:=VR.sl (ρ:=ρ) b (o+l*i.size) (hh' - l) (cap - l) L hL
       rw[show cap - l+L.ψ=cap+L.ψ - l by omega,←Nat.add_assoc] at this
       exact this
     ·rename_i heq
      have heq':cap=l:=Nat.eq_of_beq_eq_true heq
      split at hr
      ·rename_i hex
       cases hr
       obtain⟨L0,x,hL0,hx0,hR⟩:=hh.obj _ _ hk
       rw[hL] at hL0;cases hL0
       obtain⟨c,fr,rfl,hR⟩:=fV hR
       have hψ:=hR.exact hex
       refine⟨_,_,rfl,aJ.pure hh (v':= .slice (some ⟨L.φ,L.δ+o,none⟩) (hh' - l) (cap+L.ψ - l)) ?_ ?_⟩
       ·simp only[Instr.sliceAt,Instr.slice,Sem.run_bind,ab hu,Result.andThen_ok,Option.map_none,hb,aR hi',Sem.run_pure]
        rw[if_pos (by omega)]
       ·have:=VR.sl (ρ:=ρ) b o (hh' - l) (cap - l) L hL
        rw[show cap - l+L.ψ=cap+L.ψ - l by omega] at this
        exact this
      ·split at hr
       ·rename_i hown hfz hends
        cases hr
        simp only[Bool.and_eq_true] at hends
        have hn:ρ h.next=none:=hf _ (Nat.le_refl _) (Nat.lt_succ_self _)
        have hc1:=Nat.eq_of_beq_eq_true hends.1
        have hc2:=Nat.eq_of_beq_eq_true hends.2
        obtain⟨L0,x,hL0,hx0,hR⟩:=hh.obj _ _ hk
        rw[hL] at hL0;cases hL0
        obtain⟨c,fr,rfl,hR⟩:=fV hR
        have hroom:=hR.room hown
        have z1:hh' - l=0:=by omega
        have z2:cap+L.ψ - l=L.ψ:=by omega
        have hOR:OR (ρ.set h.next ⟨L.φ,if cap+L.ψ=l then L.δ+o else L.δ+o+l*i.size,L.ψ⟩) ⟨L.φ,if cap+L.ψ=l then L.δ+o else L.δ+o+l*i.size,L.ψ⟩ (.az {cells:=[],cap:=0,ko:=i.size,elem:=k.elem,exact:=false,whole:=false,bN:=0,own:=true}) (.cells c k.elem fr):=by
         refine⟨rfl,Nat.le_refl _,fun _=>?_,fun j v hj=>?_,fun h=>?_,fun h=>?_,fun _=>hR.jt hfz,fun h=>?_⟩
         ·show(if cap+L.ψ=l then L.δ+o else L.δ+o+l*i.size)+0+L.ψ*i.size<=c.size
          rw[hc2] at hroom
          have:o+cap*i.size=k.cap:=hc1
          rw[←heq']
          split
          ·omega
          ·omega
         ·simp at hj
         ·cases h
         ·cases h
         ·cases h
        obtain⟨e1,e2⟩:=aM.move (H':=((h.heap.del b).set h.next (.az {cells:=[],cap:=0,ko:=i.size,elem:=k.elem,exact:=false,whole:=false,bN:=0,own:=true})).get)
         (L':=⟨L.φ,if cap+L.ψ=l then L.δ+o else L.δ+o+l*i.size,L.ψ⟩) hh hk hown hL hn rfl (og.self hx0) hOR (fun j=>by rw[T.aH,T.fC])
        refine⟨_,_,rfl,_, .slice (some ⟨L.φ,if cap+L.ψ=l then L.δ+o else L.δ+o+l*i.size,none⟩) 0 L.ψ,w,?_,?_,e1,e2⟩
        ·simp only[Instr.sliceAt,Instr.slice,Sem.run_bind,ab hu,Result.andThen_ok,Option.map_none,hb,aR hi',Sem.run_pure,z1,z2]
         by_cases hz:cap+L.ψ=l
         ·rw[if_pos hz,if_pos hz]
         ·rw[if_neg hz,if_neg hz];simp[ew]
        ·have:=VR.sl (ρ:=ρ.set h.next (⟨L.φ,if cap+L.ψ=l then L.δ+o else L.δ+o+l*i.size,L.ψ⟩:Loc)) h.next 0 0 0 _ (aX.cJ _ _ _)
         simpa using this
       ·cases hr
        have hn:ρ h.next=none:=hf _ (Nat.le_refl _) (Nat.lt_succ_self _)
        obtain⟨e1,e2⟩:=aM.ext (⟨L.φ,if cap+L.ψ=l then L.δ+o else L.δ+o+l*i.size,L.ψ⟩:Loc) hh hn
        refine⟨_,_,rfl,_, .slice (some ⟨L.φ,if cap+L.ψ=l then L.δ+o else L.δ+o+l*i.size,none⟩) 0 L.ψ,w,?_,?_,e1,e2⟩
        ·have z1:hh' - l=0:=by omega
         have z2:cap+L.ψ - l=L.ψ:=by omega
         simp only[Instr.sliceAt,Instr.slice,Sem.run_bind,ab hu,Result.andThen_ok,Option.map_none,hb,aR hi',Sem.run_pure,z1,z2]
         by_cases hz:cap+L.ψ=l
         ·rw[if_pos hz,if_pos hz]
         ·rw[if_neg hz,if_neg hz];simp[ew]
        ·have:=VR.sl (ρ:=ρ.set h.next (⟨L.φ,if cap+L.ψ=l then L.δ+o else L.δ+o+l*i.size,L.ψ⟩:Loc)) h.next 0 0 0 _ (aX.cJ _ _ _)
         simpa using this
   ·cases hr
  ·cases hr
 ·
  rename_i ad mo
  split at hr
  ·rename_i m h0
   split at hr
   ·rename_i hh' hio h1
    split at hr
    ·rename_i l h2
     have hl0:=mf ht h0
     have hl1:=mf ht h1
     have hl2:=mf ht h2
     split at hr
     ·rename_i hml
      cases hr
      have hml':m=l:=Nat.eq_of_beq_eq_true hml
      have z1:hh' - l=0:=by omega
      have z2:m - l=0:=by omega
      have go: ∀(a':Addr)(c':Nat),cap<=c'->v'= .slice (some a') len c'-> ∃v h',bZ.val DX h= .val v h'/\aJ P ρ h w (Instr.sliceAt xt v' (lo.map a.eval) ((some hio).map a.eval) ((some mo).map a.eval)) v h':=by
       intro a' c' hc hv
       subst hv
       have hb:=nA (P:=P) (w:=w) (len:=len) (cap:=c') ht true h0 h1 h2 hc
       refine⟨_,_,rfl,aJ.pure hh (v':= .slice (some (if m=l then a' else a'.add (l*i.size))) 0 0) ?_ (.es _ _ (by simp))⟩
       simp only[Instr.sliceAt,Instr.slice,Sem.run_bind,ab hu,Result.andThen_ok,Option.map_some,hb,aR hi',Sem.run_pure,z1,z2]
       by_cases hz:m=l
       ·rw[if_pos hz];congr 3;simp[hz]
       ·exact absurd hml' hz
      cases hx with
      |sc _ hs=>exact go _ _ (Nat.le_refl _) rfl
      |es _ _ hs=>exact go _ _ (Nat.le_refl _) rfl
      |sl b o _ _ L hL=>exact go _ _ (Nat.le_add_right _ _) rfl
     ·split at hr
      ·rename_i k hsp hk
       split at hr
       ·rename_i hhm hown
        split at hr
        ·rename_i cs hcs
         cases hr
         have hhm':hh'=m:=Nat.eq_of_beq_eq_true hhm
         subst hhm'
         cases hx with
         |sc _ hs=>exact absurd hsp (eh hs).1
         |es _ _ hs=>exact absurd hsp hs
         |sl b o _ _ L hL=>
          have hb:=nA (P:=P) (w:=w) (len:=len) (cap:=cap+L.ψ) ht true h0 h1 h2 (Nat.le_add_right _ _)
          have hn:ρ h.next=none:=hf _ (Nat.le_refl _) (Nat.lt_succ_self _)
          obtain⟨L0,x,hL0,hx0,hR⟩:=hh.obj _ _ hk
          rw[hL] at hL0;cases hL0
          obtain⟨c,fr,rfl,hR⟩:=fV hR
          obtain⟨cs',c1,c2,c3⟩:=hR.uy hx0 hcs
          obtain⟨δ',hδ⟩: ∃δ',δ'=if hh'=l then L.δ+o else L.δ+(o+l*i.size):=⟨_,rfl⟩
          have hlen:=(gx hcs).1
          have hget: ∀j,j<(hh' - l)*i.size->cs[j]? =k.cells[o+l*i.size+j]? :=fun j hj=>by
           rw[(gx hcs).2 j hj,mM,List.getElem?_drop]
          have hOR:OR (ρ.set h.next ⟨L.φ,δ',0⟩) ⟨L.φ,δ',0⟩ (.az {k with cells:=cs,cap:=(hh' - l)*i.size,ko:=i.size,exact:=true,whole:=false,own:=zF cs}) (.cells c k.elem fr):=by
           refine⟨rfl,by show cs.length<=_;rw[hlen];exact Nat.le_refl _,fun ho=>?_,fun j v hj=>?_,fun _=>rfl,(fun h=>by cases h),hR.jt,hR.RE⟩
           ·show δ'+(hh' - l)*i.size+0*i.size<=c.size
            cases hc0:cs with
            |nil=>have ho':zF cs=true:=ho;rw[hc0] at ho';cases ho'
            |cons c0 cr=>
             have hpos:0<(hh' - l)*i.size:=by rw[←hlen,hc0];simp
             have hne:hh'≠l:=by rintro rfl;simp at hpos
             have h1:=hget ((hh' - l)*i.size - 1) (by omega)
             have h2:cs[(hh' - l)*i.size - 1]? ≠none:=by simp;omega
             rw[h1] at h2
             have h3:o+l*i.size+((hh' - l)*i.size - 1)<k.cells.length:=by simpa using h2
             have h4:=hR.len
             have h5:=hR.room hown
             rw[hδ,if_neg hne]
             omega
           ·have hj':cs[j]? =some v:=hj
            have hjl:j<(hh' - l)*i.size:=by
             rw[←hlen]
             rcases Nat.lt_or_ge j cs.length with h'|h'
             ·exact h'
             ·simp[List.getElem?_eq_none h'] at hj'
            have hne:hh'≠l:=by rintro rfl;simp at hjl
            rw[hget j hjl] at hj'
            obtain⟨u,hu1,hu2⟩:=hR.cell _ _ hj'
            refine⟨u,?_,hu2.mono (aX.iC _ hn)⟩
            show c[δ'+j]? =some u
            rw[hδ,if_neg hne,show L.δ+(o+l*i.size)+j=L.δ+(o+l*i.size+j) by omega]
            exact hu1
          obtain⟨e1,e2⟩:=aM.move (H':=((h.heap.del b).set h.next (.az {k with cells:=cs,cap:=(hh' - l)*i.size,ko:=i.size,exact:=true,whole:=false,own:=zF cs})).get)
           (L':=⟨L.φ,δ',0⟩) hh hk hown hL hn rfl (og.self hx0) hOR (fun j=>by rw[T.aH,T.fC])
          refine⟨_,_,rfl,_, .slice (some ⟨L.φ,δ',none⟩) (hh' - l) (hh' - l),w,?_,?_,e1,e2⟩
          ·simp only[Instr.sliceAt,Instr.slice,Sem.run_bind,ab hu,Result.andThen_ok,Option.map_some,hb,aR hi',Sem.run_pure]
           congr 3
           rw[hδ]
           split
           ·rfl
           ·simp[ew,Nat.add_assoc]
          ·have:=VR.sl (ρ:=ρ.set h.next ⟨L.φ,δ',0⟩) h.next 0 (hh' - l) (hh' - l) _ (aX.cJ _ _ _)
           simpa using this
        ·cases hr
       ·cases hr
      ·cases hr
    ·cases hr
   ·cases hr
  ·cases hr
 ·rename_i mo
  split at hr
  ·rename_i m hio h0
   split at hr
   ·rename_i hh' h1
    split at hr
    ·rename_i l h2
     cases hr
     cases hx with
     |sc _ _=>
      have hb:=nA (P:=P) (w:=w) (len:=len) (cap:=0) ht true h0 h1 h2 (Nat.le_refl _)
      refine⟨_,_,rfl,aJ.pure hh (v':= .slice none (hh' - l) (m - l)) ?_ (.sc _ rfl)⟩
      simp only[Instr.sliceAt,Instr.slice,Sem.run_bind,ab hu,Result.andThen_ok,Option.map_some,hb,aR hi',Sem.run_pure]
      split<;>rfl
    ·cases hr
   ·cases hr
  ·cases hr
theorem Ix{tm:Tm}{n:Nat}{a:Act}(ht:TR ρ tm n a.tmps){xt:TypeId}{x x':Value}{lo hi mx:Option Operand}{r:bZ}(hx:VR ρ x x')(hh:aM ρ h.heap.get w)(hf:bD ρ h.next (r.next h))
 (hr:mP P tm h xt x lo hi mx=some r): ∃v h',r= .val v h'/\aJ P ρ h w (Instr.sliceAt xt x' (lo.map a.eval) (hi.map a.eval) (mx.map a.eval)) v h':=by
 unfold mP at hr
 split at hr
 ·rename_i s hu
  split at hr
  ·split at hr
   ·rename_i v hv
    cases hr
    cases hx with
    |sc _ _=>exact⟨v,h,rfl,A2 ht hu hv hh⟩
   ·cases hr
  ·cases hr
 ·rename_i e ao len cap hu
  split at hr
  ·rename_i i hi'
   exact Dc ht hu hi' hx hh hf hr
  ·cases hr
 ·rename_i m e ad hu
  split at hr
  ·rename_i i k hi' hsp hk
   split at hr
   ·rename_i hh' hex h1
    split at hr
    ·rename_i l h2
     cases hx with
     |sc _ hs=>simp[simple] at hs
     |ptr b o L hL=>
      have hb:=mA (P:=P) (w:=w) ht false h1 h2 (Nat.le_refl _)
      obtain⟨L0,x,hL0,hx0,hR⟩:=hh.obj _ _ hk
      rw[hL] at hL0;cases hL0
      obtain⟨c,fr,rfl,hR⟩:=fV hR
      have hψ:=hR.exact hex
      split at hr
      ·rename_i heq
       have heq':m=l:=Nat.eq_of_beq_eq_true heq
       cases hr
       refine⟨_,_,rfl,aJ.pure hh (v':= .slice (some ⟨L.φ,L.δ+o,none⟩) (hh' - l) (m - l+L.ψ)) ?_ (.sl b o _ _ L hL)⟩
       simp only[Instr.sliceAt,Sem.run_bind,ab hu,Result.andThen_ok,Option.map_none,hb,aR hi',Sem.run_pure,Instr.sureAddr]
       rw[if_pos heq',hψ];rfl
      ·rename_i hne
       have hne':m≠l:=by intro he;subst he;simp at hne
       cases hr
       refine⟨_,_,rfl,aJ.pure hh (v':= .slice (some ⟨L.φ,L.δ+(o+l*i.size),none⟩) (hh' - l) (m - l+L.ψ)) ?_ (.sl b _ _ _ L hL)⟩
       simp only[Instr.sliceAt,Sem.run_bind,ab hu,Result.andThen_ok,Option.map_none,hb,aR hi',Sem.run_pure,Instr.sureAddr]
       rw[if_neg hne',hψ,ew,Nat.add_assoc];rfl
    ·cases hr
   ·cases hr
  ·cases hr
 ·cases hr
end
section
variable{P:Program}{ρ:aX}{w:World}{h:Hs}
theorem yL: ∀l:List UInt8,pY l=l.map fun b=>Value.int .u8 b.toNat
 |[]=>rfl
 |b::l=>by simp[pY,yL l]
theorem Eb(l:List UInt8):cU ρ (pY l) (pY l):=by
 induction l with
 |nil=>exact .nil
 |cons b l ih=>exact .cons _ _ _ _ (.sc _ rfl) ih
theorem qW{size n:Nat}{x x':Value}{cs:List Value}(hh:aM ρ h.heap.get w)(hx:VR ρ x x')(hc:eD h size n x=some cs):
 ∃cs',(∀w1:World,w1.heap=w.heap->(Builtin.firstCells size n x').run P w1= .ok ⟨cs'⟩ w1)/\cU ρ cs cs':=by
 cases hx with
 |sc _ hs=>
  cases x<;>simp only[eD] at hc<;>try (cases hc;done)
  ·rename_i s
   split at hc
   ·rename_i l hl
    cases hc
    obtain⟨h1,h2⟩:=gx hl
    refine⟨pY l,fun w1 _=>?_,Eb l⟩
    simp only[Builtin.firstCells,Sem.run_pure]
    congr 1
    rw[yL]
    apply Array.ext'
    rw[Array.toList_map]
    congr 1
    have e:(s.extract 0 n).data.toList=s.data.toList.take n:=by
     rw[ByteArray.data_extract]
     simp[List.extract]
    rw[e]
    apply List.ext_getElem?
    intro j
    by_cases hj:j<n
    ·rw[List.getElem?_take_of_lt hj,h2 j hj]
    ·rw[List.getElem?_take_eq_none (by omega),List.getElem?_eq_none (by omega)]
   ·cases hc
  ·rename_i a _ _
   cases a with
   |none=>simp only[Option.some.injEq] at hc;subst hc;exact⟨[],fun w1 _=>by simp[Builtin.firstCells], .nil⟩
   |some a=>
    simp only at hc
    split at hc
    ·cases hc;exact⟨[],fun w1 _=>by simp[Builtin.firstCells,loadCells,loadCellsFrom], .nil⟩
    ·split at hc
     ·rename_i hsp _;exact absurd hsp (eh hs).1
     ·cases hc
 |sl b o m c L hL=>
  simp only[eD] at hc
  split at hc
  ·cases hc;exact⟨[],fun w1 _=>by simp[Builtin.firstCells,loadCells,loadCellsFrom], .nil⟩
  ·split at hc
   ·rename_i n' k hsp hk
    obtain⟨L0,x,hL0,hx0,hR⟩:=hh.obj _ _ hk
    rw[hL] at hL0;cases hL0
    obtain⟨c',fr,rfl,hR⟩:=fV hR
    obtain⟨cs',h1,h2,h3⟩:=hR.uy hx0 hc
    refine⟨cs',fun w1 hw1=>?_,h2⟩
    have hl:=run_loadCells_list (P:=P) w1 ⟨L.φ,L.δ+o,none⟩ cs' (fun j v hj=>by
     rw[ew]
     have:=h3 j v hj
     simp only[World.cell?] at this ⊢
     rw[hw1];exact this)
    rw[h1] at hl
    simp only[Builtin.firstCells];exact hl
   ·cases hc
 |es a a' hs=>
  simp only[eD] at hc
  split at hc
  ·cases hc;exact⟨[],fun w1 _=>by simp[Builtin.firstCells,loadCells,loadCellsFrom], .nil⟩
  ·split at hc
   ·rename_i hsp _;exact absurd hsp hs
   ·cases hc
 |ptr=>simp[eD] at hc
 |map=>simp[eD] at hc
 |fn=>simp[eD] at hc
 |yield=>simp[eD] at hc
 |agg=>simp[eD] at hc
 |tuple=>simp[eD] at hc
theorem vU{x x':Value}{n:Nat}(hx:VR ρ x x')(hc:o6 x=some n):(Builtin.lenOf x').run P w= .ok n w:=by
 cases hx with
 |sc _ hs=>cases x<;>simp only[o6] at hc<;>first|(cases hc;done)|(cases hc;simp[Builtin.lenOf])
 |sl b o m c L hL=>simp only[o6,Option.some.injEq] at hc;subst hc;simp[Builtin.lenOf]
 |es a a' hs=>simp only[o6,Option.some.injEq] at hc;subst hc;simp[Builtin.lenOf]
 |ptr=>simp[o6] at hc
 |map=>simp[o6] at hc
 |fn=>simp[o6] at hc
 |yield=>simp[o6] at hc
 |agg=>simp[o6] at hc
 |tuple=>simp[o6] at hc
end
section
variable{P:Program}{ρ:aX}{w:World}{h:Hs}
theorem zj{e:TypeId}{i:TypeInfo}{n:Nat}(hi:P.info? e=some i)(hr:u9 i n=true): ∃z,Room P e i n z:=by
 unfold u9 at hr
 split at hr
 ·rename_i z hz
  simp only[Bool.and_eq_true] at hr
  obtain⟨⟨⟨⟨h1,h2⟩,h3⟩,h4⟩,h5⟩:=hr
  refine⟨z,hi,hz,?_,Nat.le_of_ble_eq_true h2,Nat.le_of_ble_eq_true h3,?_,Nat.le_of_ble_eq_true h5⟩
  ·rw[←Array.length_toList,fS];exact Nat.eq_of_beq_eq_true h1
  ·simpa[Nat.blt_eq] using h4
 ·cases hr
theorem aM.heap{H:HF}{w1:World}(hh:aM ρ H w)(he:w1.heap=w.heap):aM ρ H w1:=hh.world he
theorem Step.oz{ρ':aX}{H H':HF}{w1 w':World}{lo hi:Nat}(hs:Step ρ H w1 ρ' H' w' lo hi)(h1:w1.heap=w.heap)(h2:w1.os=w.os)(h3:w1.tape=w.tape)(h4:w1.output=w.output):Step ρ H w ρ' H' w' lo hi:=
 ⟨hs.os.trans h2,hs.tape.trans h3,hs.output.trans h4,by rw[←h1];exact hs.size,fun r hr hno=>by rw[←h1] at hr ⊢;exact hs.same r hr hno,fun b o L a c d=>by rw[←h1];exact hs.own b o L a c d,
   fun b o L a c=>by rw[←h1];exact hs.any b o L a c,hs.ext,hs.ve⟩
theorem Step.Z2{ρ':aX}{H0 H H':HF}{w':World}{lo hi:Nat}(hs:Step ρ H w ρ' H' w' lo hi)(hsub: ∀b o,H b=some o->H0 b=some o):Step ρ H0 w ρ' H' w' lo hi:=
 {hs with
  same:=fun r hr hno=>hs.same r hr fun b o L a c d=>hno b o L (hsub _ _ a) c d
  own:=fun b o L a c d=>(hs.own b o L a c d).imp (fun⟨i,oi,Li,x⟩=>⟨i,oi,Li,hsub _ _ x.1,x.2⟩) id
  any:=fun b o L a c=>(hs.any b o L a c).imp (fun⟨i,oi,Li,x⟩=>⟨i,oi,Li,hsub _ _ x.1,x.2⟩) id}
theorem zi{ρ':aX}{b ψ e:Nat}{cs:List Value}{cs':List Value}{i:TypeInfo}{z:Value}{n:Nat}(hv:cU ρ' cs cs')(hlen:cs.length=n*i.size)(hz:z.cells.size=i.size):
 OR ρ' ⟨b,0,ψ⟩ (.az {cells:=cs,cap:=n*i.size,ko:=i.size,elem:=e,exact:=false,whole:=false,bN:=0,own:=true}) (.cells ((⟨cs'⟩:Array Value)++Builtin.zeroCells z.cells ψ) e):=by
 refine FJ hv (by omega) (fun _=>?_) (fun j hj=>?_) (fun h=>by cases h) (fun h=>by cases h) (fun _=>rfl) (fun h=>by cases h)
 ·simp only[Array.size_append,uK,hz,List.size_toArray,hv.length]
  rw[hlen]
  simp
 ·simp only[Nat.zero_add]
  rw[Array.getElem?_append_left (by simp[hv.length,hj])]
  simp
theorem uC(a b:List Value)(c:Array Value):(⟨a⟩:Array Value)++((⟨b⟩:Array Value)++c)=(⟨a++b⟩:Array Value)++c:=by apply Array.ext';simp
theorem Hj{ats:List TypeId}{s s' x x':Value}{ty:TypeId}{r:bZ}(hs:VR ρ s s')(hx:VR ρ x x')(hh:aM ρ h.heap.get w)(hf:bD ρ h.next (r.next h))(hr:fX P h ats s x=some r):
 ∃v h',r= .val v h'/\aJ P ρ h w (Builtin.append_ ⟨ats⟩ ty #[s',x']) v h':=by
 unfold fX at hr
 split at hr
 ·rename_i st xt
  split at hr
  ·rename_i e xd hu hxu
   split at hr
   ·cases hr
   ·rename_i xd _ _ i hnot hi
    have hxd:su xd=true:=by cases xd<;>first|rfl|exact(hnot _ rfl).elim
    split at hr
    ·rename_i n base len cap hn
     have hlen:=vU (P:=P) (w:=w) hx hn
     split at hr
     ·rename_i new pR
      obtain⟨new',hnew',hnR⟩:=qW (P:=P) hh hx pR
      have hrn:=hnew' w rfl
      split at hr
      ·
       rename_i hle
       have hle':=Nat.le_of_ble_eq_true hle
       split at hr
       ·split at hr
        ·cases hr
         cases hs with
         |sc _ _=>exact⟨_,_,rfl,aJ.pure hh (fm hu hxu hxd hi hlen hrn hle' rfl) (.sc _ rfl)⟩
        ·cases hr
       ·rename_i a
        split at hr
        ·cases hr
         cases hnR
         cases hs with
         |sc _ h=>exact((eh h).1 (by assumption)).elim
         |es _ _ h=>exact(h (by assumption)).elim
         |sl b o _ _ L hL=>exact⟨_,_,rfl,aJ.pure hh (fm hu hxu hxd hi hlen hrn (by omega) (by simp[storeCells])) (.sl _ _ _ _ _ hL)⟩
        ·split at hr
         ·rename_i hsp h' hw
          cases hr
          obtain⟨L,w',hL,hrun,hh',hst⟩:=iN (P:=P) hh hw hnR
          cases hs with
          |sc _ h=>exact((eh h).1 (by assumption)).elim
          |es _ _ h=>exact(h (by assumption)).elim
          |sl b o _ _ L' hL'=>
           rw[hL] at hL';cases hL'
           refine⟨_,_,rfl,ρ,_,w',fm hu hxu hxd hi hlen hrn (by omega) ?_, .sl _ _ _ _ _ hL,hh',hst _ _⟩
           show(storeCells ((⟨L.φ,L.δ+o,none⟩:Addr).add (len*i.size)) new').run P w=_
           rw[ew,Nat.add_assoc];exact hrun
         ·cases hr
        ·rename_i hsp
         cases hr
         cases hnR
         cases hs with
         |sc _ h=>
          obtain⟨_,rfl,rfl⟩:=eh h
          obtain rfl:n=0:=by omega
          exact⟨_,_,rfl,aJ.pure hh (fm hu hxu hxd hi hlen hrn (by omega) (by simp[storeCells])) (.es _ _ (by simp))⟩
         |es _ a' h=>
          obtain rfl:n=0:=by omega
          exact⟨_,_,rfl,aJ.pure hh (fm hu hxu hxd hi hlen hrn (by omega) (by simp[storeCells])) (.es _ _ (by simp))⟩
         |sl b o _ _ L hL=>cases hsp
        ·cases hr
      ·
       rename_i hle
       have hlt:cap<len+n:=by
        rcases Nat.lt_or_ge cap (len+n) with h'|h'
        ·exact h'
        ·rw[Nat.ble_eq_true_of_le h'] at hle;cases hle
       split at hr
       ·rename_i hroom
        simp only[Bool.and_eq_true] at hroom
        obtain⟨hroom,hnl⟩:=hroom
        have hlen':new.length=n*i.size:=Nat.eq_of_beq_eq_true hnl
        have hn': ∀v h',r= .val v h'->h.next<h'.next->ρ h.next=none:=fun v h' he hlt=>hf _ (Nat.le_refl _) (by rw[he];exact hlt)
        obtain⟨z,hroom⟩:=zj hi hroom
        split at hr
        ·
         split at hr
         ·cases hr
          have hn':=hn' _ _ rfl (Nat.lt_succ_self _)
          cases hs with
          |sc _ _=>
           obtain⟨ψ,hrun⟩:=gZ (ty:=ty) (base:=none) hu hxu hxd hroom hlen hnew' hlt (old':=[]) (fun w1 _=>by simp[Builtin.firstCells])
           rw[uC,List.nil_append] at hrun
           obtain⟨e1,e2⟩:=aM.new (w:=w.drew) (H':=(cL h (.az {cells:=new,cap:=n*i.size,ko:=i.size,elem:=e,exact:=false,whole:=false,bN:=0,own:=true})).heap.get)
            (δ:=0) (ψ:=ψ) (hh.heap (w1:=w.drew) rfl) hn' (zi (z:=z) (hnR.mono (aX.iC _ hn')) hlen' hroom.size) (fun j=>T.aH _ _ _ _)
           refine⟨_,_,rfl,_,_,_,hrun,?_,?_,e2.oz (w:=w) rfl rfl rfl rfl⟩
           ·have:=VR.xO ρ h.next ⟨w.heap.size,0,ψ⟩ n n rfl
            simpa using this
           ·simpa using e1
         ·cases hr
        ·
         rename_i a
         split at hr
         ·rename_i hsp
          cases hr
          have hn':=hn' _ _ rfl (Nat.lt_succ_self _)
          have go: ∀a':Addr,len=0->cap=0->s'= .slice (some a') 0 0-> ∃v h',bZ.val (.slice (some ⟨h.next,0,none⟩) n n) (cL h (.az {cells:=new,cap:=n*i.size,ko:=i.size,elem:=e,exact:=false,whole:=false,bN:=0,own:=true}))= .val v h'/\aJ P ρ h w (Builtin.append_ ⟨[st,xt]⟩ ty #[s',x']) v h':=by
           intro a' e1 e2 e3
           subst e1 e2 e3
           obtain⟨ψ,hrun⟩:=gZ (ty:=ty) (base:=some a') hu hxu hxd hroom hlen hnew' hlt (old':=[]) (fun w1 _=>by simp[Builtin.firstCells,loadCells,loadCellsFrom])
           rw[uC,List.nil_append] at hrun
           simp only[Nat.zero_add] at hrun
           obtain⟨e1,e2⟩:=aM.new (w:=w.drew) (H':=(cL h (.az {cells:=new,cap:=n*i.size,ko:=i.size,elem:=e,exact:=false,whole:=false,bN:=0,own:=true})).heap.get)
            (δ:=0) (ψ:=ψ) (hh.heap (w1:=w.drew) rfl) hn' (zi (z:=z) (hnR.mono (aX.iC _ hn')) hlen' hroom.size) (fun j=>T.aH _ _ _ _)
           refine⟨_,_,rfl,_,_,_,hrun,?_,?_,e2.oz (w:=w) rfl rfl rfl rfl⟩
           ·have:=VR.xO ρ h.next ⟨w.heap.size,0,ψ⟩ n n rfl
            simpa using this
           ·simpa using e1
          cases hs with
          |sc _ h=>
           obtain⟨_,rfl,rfl⟩:=eh h
           exact go _ rfl rfl rfl
          |es _ a' h=>exact go _ rfl rfl rfl
          |sl b o _ _ L hL=>cases hsp
         ·rename_i k hsp hk
          split at hr
          ·rename_i gK hold
           cases hs with
           |sc _ h=>exact((eh h).1 (by assumption)).elim
           |es _ _ h=>exact(h (by assumption)).elim
           |sl b o _ _ L hL=>
            obtain⟨L0,x0,hL0,hx0,hR⟩:=hh.obj _ _ hk
            rw[hL] at hL0;cases hL0
            obtain⟨c,fr,rfl,hR⟩:=fV hR
            obtain⟨old',c1,c2,c3⟩:=hR.uy hx0 hold
            have hrold: ∀cap' (w1:World),w1.heap=w.heap->(Builtin.firstCells i.size len (.slice (some ⟨L.φ,L.δ+o,none⟩) len cap')).run P w1= .ok ⟨old'⟩ w1:=fun cap' w1 hw1=>by
             have hl:=run_loadCells_list (P:=P) w1 ⟨L.φ,L.δ+o,none⟩ old' (fun j v hj=>by
              rw[ew]
              have:=c3 j v hj
              simp only[World.cell?] at this ⊢
              rw[hw1];exact this)
             rw[c1] at hl
             simp only[Builtin.firstCells];exact hl
            have holen:=(gx hold).1
            have hcat:(gK++new).length=(len+n)*i.size:=by rw[List.length_append,holen,hlen',Nat.add_mul]
            split at hr
            ·
             rename_i hex
             cases hr
             have hn':=hn' _ _ rfl (Nat.lt_succ_self _)
             have hψ:=hR.exact hex
             obtain⟨ψ,hrun⟩:=gZ (ty:=ty) (cap:=cap+L.ψ) hu hxu hxd hroom hlen hnew' (by omega) (hrold _)
             rw[uC] at hrun
             obtain⟨e1,e2⟩:=aM.new (w:=w.drew) (H':=(cL h (.az {cells:=gK++new,cap:=(len+n)*i.size,ko:=i.size,elem:=e,exact:=false,whole:=false,bN:=0,own:=true})).heap.get)
              (δ:=0) (ψ:=ψ) (hh.heap (w1:=w.drew) rfl) hn' (zi (z:=z) ((c2.append hnR).mono (aX.iC _ hn')) hcat hroom.size) (fun j=>T.aH _ _ _ _)
             refine⟨_,_,rfl,_,_,_,hrun,?_,?_,e2.oz (w:=w) rfl rfl rfl rfl⟩
             ·have:=VR.xO ρ h.next ⟨w.heap.size,0,ψ⟩ (len+n) (len+n) rfl
              simpa using this
             ·simpa[Array.append_assoc] using e1
            ·split at hr
             ·rename_i hown hfrz hcapk hesz
              simp only[Bool.and_eq_true] at hesz
              obtain⟨⟨hesz,hkel⟩,hac⟩:=hesz
              cases hr
              have hn':=hn' _ _ rfl (Nat.lt_succ_self _)
              have hcapk':o+cap*i.size=k.cap:=Nat.eq_of_beq_eq_true hcapk
              have hesz':=Nat.eq_of_beq_eq_true hesz
              by_cases hin:len+n<=cap+L.ψ
              ·
               have hroomk:=hR.room hown
               have hfr:=hR.jt hfrz
               subst hfr
               have hmul:(len+n)*i.size<=(cap+L.ψ)*i.size:=Nat.mul_le_mul_right _ hin
               rw[Nat.add_mul,Nat.add_mul] at hmul
               rw[hesz'] at hroomk
               have hnl':=hnR.length
               obtain⟨w',c',hr1,hu1,hs1,hc1⟩:=C9 P L.φ k.elem (0,0) new' (L.δ+o+len*i.size) 0 c w hx0 (by omega) (fun p _ _=>by simp) (hnR.cB hac)
               have hwr:cU ρ (gK++new) (old'++new'):=c2.append hnR
               have hOR:OR (ρ.set h.next ⟨L.φ,L.δ+o,cap+L.ψ - (len+n)⟩) ⟨L.φ,L.δ+o,cap+L.ψ - (len+n)⟩ (.az {cells:=gK++new,cap:=(len+n)*i.size,ko:=i.size,elem:=e,exact:=false,whole:=false,bN:=0,own:=true}) (.cells c' k.elem (0,0)):=by
                refine⟨?_,by show(gK++new).length<=_;rw[hcat];exact Nat.le_refl _,fun _=>?_,fun j v hj=>?_,(fun h=>by cases h),(fun h=>by cases h),fun _=>rfl,(fun h=>by cases h)⟩
                ·show k.elem=e
                 exact Nat.eq_of_beq_eq_true hkel
                ·show L.δ+o+(len+n)*i.size+(cap+L.ψ - (len+n))*i.size<=c'.size
                 rw[hs1,Nat.sub_mul,Nat.add_mul,Nat.add_mul]
                 omega
                ·have hj':(gK++new)[j]? =some v:=hj
                 show∃v',c'[L.δ+o+j]? =some v'/\_
                 rw[hc1]
                 by_cases hjo:j<len*i.size
                 ·rw[List.getElem?_append_left (by omega)] at hj'
                  rw[if_neg (by omega)]
                  rw[(gx hold).2 j hjo,mM,List.getElem?_drop] at hj'
                  obtain⟨u,hu1,hu2⟩:=hR.cell _ _ hj'
                  exact⟨u,by rw[←Nat.add_assoc] at hu1;exact hu1,hu2.mono (aX.iC _ hn')⟩
                 ·rw[List.getElem?_append_right (by omega)] at hj'
                  obtain⟨u,hu1,hu2⟩:=hnR.get hj'
                  have hjn:j - gK.length<new.length:=by
                   rcases Nat.lt_or_ge (j - gK.length) new.length with h'|h'
                   ·exact h'
                   ·simp[List.getElem?_eq_none h'] at hj'
                  rw[if_pos (by omega)]
                  exact⟨u,by rw[show L.δ+o+j - (L.δ+o+len*i.size+0)=j - gK.length by omega];exact hu1,hu2.mono (aX.iC _ hn')⟩
               obtain⟨e1,e2⟩:=aM.move (H':=((h.heap.del b).set h.next (.az {cells:=gK++new,cap:=(len+n)*i.size,ko:=i.size,elem:=e,exact:=false,whole:=false,bN:=0,own:=true})).get)
                (L':=⟨L.φ,L.δ+o,cap+L.ψ - (len+n)⟩) hh hk hown hL hn' rfl hu1 hOR (fun j=>by rw[T.aH,T.fC])
               refine⟨_,_,rfl,_, .slice (some ⟨L.φ,L.δ+o,none⟩) (len+n) (cap+L.ψ),w',fm hu hxu hxd hi hlen hrn hin ?_,?_,e1,e2⟩
               ·show(storeCells ((⟨L.φ,L.δ+o,none⟩:Addr).add (len*i.size)) new').run P w=_
                rw[ew];exact hr1
               ·have:=VR.sl (ρ:=ρ.set h.next ⟨L.φ,L.δ+o,cap+L.ψ - (len+n)⟩) h.next 0 (len+n) (len+n) _ (aX.cJ _ _ _)
                rw[show len+n+(⟨L.φ,L.δ+o,cap+L.ψ - (len+n)⟩:Loc).ψ=cap+L.ψ by show len+n+(cap+L.ψ - (len+n))=cap+L.ψ;omega] at this
                simpa using this
              ·
               obtain⟨ψ,hrun⟩:=gZ (ty:=ty) (cap:=cap+L.ψ) hu hxu hxd hroom hlen hnew' (by omega) (hrold _)
               rw[uC] at hrun
               have hdel:aM ρ (h.heap.del b).get w.drew:=(hh.heap (w1:=w.drew) rfl).sub fun j o' hj=>by rw[T.fC] at hj;split at hj<;>first|cases hj|exact hj
               obtain⟨e1,e2⟩:=aM.new (w:=w.drew) (H':=((h.heap.del b).set h.next (.az {cells:=gK++new,cap:=(len+n)*i.size,ko:=i.size,elem:=e,exact:=false,whole:=false,bN:=0,own:=true})).get)
                (δ:=0) (ψ:=ψ) hdel hn' (zi (z:=z) ((c2.append hnR).mono (aX.iC _ hn')) hcat hroom.size) (fun j=>T.aH _ _ _ _)
               refine⟨_,_,rfl,_,_,_,hrun,?_,?_,(e2.Z2 (H0:=h.heap.get) fun j o' hj=>by rw[T.fC] at hj;split at hj<;>first|cases hj|exact hj).oz (w:=w) rfl rfl rfl rfl⟩
               ·have:=VR.xO ρ h.next ⟨w.heap.size,0,ψ⟩ (len+n) (len+n) rfl
                simpa using this
               ·simpa[Array.append_assoc] using e1
             ·cases hr
          ·cases hr
         ·cases hr
       ·cases hr
     ·cases hr
    ·cases hr
   ·cases hr
  ·cases hr
 ·cases hr
end
section
variable{P:Program}{ρ:aX}{w:World}{h:Hs}
theorem kP{s:Sem Value}{v:Value}(hv:vn P s=some v):(∀w,s.run P w= .ok v w)/\aC v=true:=by
 unfold vn at hv
 split at hv
 ·rename_i u hu
  split at hv
  ·rename_i hp;cases hv;exact⟨fK hu,hp⟩
  ·cases hv
 ·cases hv
theorem Iq{op:UnOp}{x x':Value}{r:bZ}(hh:aM ρ h.heap.get w)(hx:VR ρ x x')(hr:Ap P h op x=some r): ∃v,r= .val v h/\aJ P ρ h w (Op.unary op x') v h:=by
 unfold Ap at hr
 split at hr
 ·rename_i hp
  split at hr
  ·rename_i v hv
   cases hr
   have:=hx.plain hp;subst this
   obtain⟨h1,h2⟩:=kP hv
   exact⟨v,rfl,aJ.pure hh (h1 w) (VR.aQ h2)⟩
  ·cases hr
 ·cases hr
theorem vF{a:Addr}{c:Array Value}{e:TypeId}{fr:Nat × Nat}(hx:w.heap[a.block]? =some (.cells c e fr)):(noView a).run P w= .ok () w:=by
 have:w.shape? a.block=some (e,c.size):=by simp[World.shape?,hx]
 simp[noView,viewAt,this]
theorem ph{a:Addr}{c:Array Value}{e:TypeId}(hx:w.heap[a.block]? =some (.cells c e (0,0))):(stringish a).run P w= .ok false w:=by
 have h1:w.shape? a.block=some (e,c.size):=by simp[World.shape?,hx]
 have h2:w.frozen? a=false:=by simp[World.frozen?,hx]
 have h3:w.frozen? {block:=a.block,off:=c.size}=false:=by simp[World.frozen?,hx]
 simp[stringish,h1,h2,h3]
theorem A6{a b:Addr}{c d:Array Value}{e f:TypeId}(hne:a.block≠b.block)(hx:w.heap[a.block]? =some (.cells c e (0,0)))(hy:w.heap[b.block]? =some (.cells d f (0,0))):(sameAddr a b).run P w= .ok false w:=by
 have h2:w.frozen? a=false:=by simp[World.frozen?,hx]
 have hb:(a.block==b.block)=false:=by simpa using hne
 have h3:w.shape? b.block=some (f,d.size):=by simp[World.shape?,hy]
 simp[sameAddr,hb,h2,vF hx,vF hy,mayBeOne,ph hx,ph hy,h3]
theorem df(t:TypeId)(x y:Value):Op.equal t x y=Op.equalIn (9999+1) t x y:=rfl
theorem tv{d:TypeDesc}{xt:TypeId}{x x' y y':Value}{b:Bool}(hh:aM ρ h.heap.get w)(hu:P.underlying xt=some d)(hx:VR ρ x x')(hy:VR ρ y y')(hr:Fx P h d x y=some b):
 (Op.equal xt x' y').run P w= .ok b w/\(∀op ox oy,(eqGuard op xt ox oy x' y').run P w= .ok () w)/\
   binOp .eql xt x' y'=(do pure (.bool (←Op.equal xt x' y')))/\binOp .neq xt x' y'=(do pure (.bool (!(←Op.equal xt x' y')))):=by
 have guard: ∀(a c:Value) op ox oy,(∀a',a≠ .agg a')->(a≠ .nilIface)->(eqGuard op xt ox oy a c).run P w= .ok () w:=by
  intro a c op ox oy h1 h2
  unfold eqGuard
  cases op<;>first|rfl|(cases a<;>first|rfl|exact(h1 _ rfl).elim|exact(h2 rfl).elim)
 unfold Fx at hr
 split at hr
 ·rename_i e b0
  cases hr
  cases hx with
  |sc _ _=>
   have: ∃b',y'= .pointer b'/\b'.isNone=b0.isNone:=by
    cases hy with
    |sc _ _=>exact⟨_,rfl,rfl⟩
    |ptr=>exact⟨_,rfl,rfl⟩
   obtain⟨b',rfl,hb⟩:=this
   exact⟨by rw[df,Op.equalIn];simp[ab hu,hb],fun op ox oy=>guard _ _ _ _ _ (by simp) (by simp),rfl,rfl⟩
 ·cases hr
  cases hx with
  |sc _ hs=>simp[simple] at hs
  |ptr b o L hL=>
   cases hy with
   |sc _ _=>exact⟨by rw[df,Op.equalIn];simp[ab hu],fun op ox oy=>guard _ _ _ _ _ (by simp) (by simp),rfl,rfl⟩
 ·rename_i e a c
  split at hr
  ·rename_i i hi hs1 hs2
   split at hr
   ·cases hr
   ·rename_i m hm
    cases hx with
    |sc _ hs=>simp[simple] at hs
    |ptr bx ox Lx hLx=>
     cases hy with
     |sc _ hs=>simp[simple] at hs
     |ptr by_ oy Ly hLy=>
      refine⟨?_,fun op ox oy=>guard _ _ _ _ _ (by simp) (by simp),rfl,rfl⟩
      have hsz:i.size≠0:=by omega
      split at hr
      ·rename_i hbe
       cases hr
       have hbe':bx=by_:=Nat.eq_of_beq_eq_true hbe
       subst hbe'
       rw[hLx] at hLy;cases hLy
       have key:(sameAddr ⟨Lx.φ,Lx.δ+ox,none⟩ ⟨Lx.φ,Lx.δ+oy,none⟩).run P w= .ok (Nat.beq ox oy) w:=by
        simp only[sameAddr,beq_self_eq_true,if_true,Sem.run_pure]
        congr 1
        rw[Bool.eq_iff_iff]
        simp
       rw[df,Op.equalIn]
       simp[ab hu,aR hi,hsz,key]
      ·rename_i k l hbe hk hl
       split at hr
       ·rename_i ho hf1 hf2
        cases hr
        obtain⟨L1,x1,hL1,hx1,hR1⟩:=hh.obj _ _ hk
        obtain⟨L2,x2,hL2,hx2,hR2⟩:=hh.obj _ _ hl
        rw[hLx] at hL1;cases hL1
        rw[hLy] at hL2;cases hL2
        obtain⟨c1,fr1,rfl,hR1⟩:=fV hR1
        obtain⟨c2,fr2,rfl,hR2⟩:=fV hR2
        have e1:=hR1.jt hf1
        have e2:=hR2.jt hf2
        subst e1 e2
        have hne:bx≠by_:=by rintro rfl;simp at hbe
        have hφ:=hh.inj bx by_ _ _ Lx Ly hk hl hne ho hLx hLy
        have key:=A6 (P:=P) (a:=⟨Lx.φ,Lx.δ+ox,none⟩) (b:=⟨Ly.φ,Ly.δ+oy,none⟩) hφ hx1 hx2
        rw[df,Op.equalIn]
        simp[ab hu,aR hi,hsz,key]
       ·cases hr
      ·cases hr
  ·cases hr
 ·rename_i e _ _ b0 _ _
  cases hr
  cases hx with
  |sc _ _=>
   have: ∃b' n m,y'= .slice b' n m/\b'.isNone=b0.isNone:=by
    cases hy with
    |sc _ _=>exact⟨_,_,_,rfl,rfl⟩
    |es _ _ _=>exact⟨_,_,_,rfl,rfl⟩
    |sl=>exact⟨_,_,_,rfl,rfl⟩
   obtain⟨b',n,m,rfl,hb⟩:=this
   exact⟨by rw[df,Op.equalIn];simp[ab hu,hb],fun op ox oy=>guard _ _ _ _ _ (by simp) (by simp),rfl,rfl⟩
 ·cases hr
  cases hx with
  |sc _ hs=>
   cases hy with
   |sc _ _=>exact⟨by rw[df,Op.equalIn];simp[ab hu],fun op ox oy=>guard _ _ _ _ _ (by simp) (by simp),rfl,rfl⟩
  |es _ _ hs=>
   cases hy with
   |sc _ _=>exact⟨by rw[df,Op.equalIn];simp[ab hu],fun op ox oy=>guard _ _ _ _ _ (by simp) (by simp),rfl,rfl⟩
  |sl b o n c L hL=>
   cases hy with
   |sc _ _=>exact⟨by rw[df,Op.equalIn];simp[ab hu],fun op ox oy=>guard _ _ _ _ _ (by simp) (by simp),rfl,rfl⟩
 ·rename_i e _ b0
  cases hr
  cases hx with
  |sc _ _=>
   have: ∃b',y'= .map b'/\b'.isNone=b0.isNone:=by
    cases hy with
    |sc _ _=>exact⟨_,rfl,rfl⟩
    |map=>exact⟨_,rfl,rfl⟩
   obtain⟨b',rfl,hb⟩:=this
   exact⟨by rw[df,Op.equalIn];simp[ab hu,hb],fun op ox oy=>guard _ _ _ _ _ (by simp) (by simp),rfl,rfl⟩
 ·cases hr
  cases hx with
  |sc _ hs=>simp[simple] at hs
  |map b L hL=>
   cases hy with
   |sc _ _=>exact⟨by rw[df,Op.equalIn];simp[ab hu],fun op ox oy=>guard _ _ _ _ _ (by simp) (by simp),rfl,rfl⟩
 ·cases hr
  have: ∃f a c,x'= .func f a c:=by cases hx<;>first|exact⟨_,_,_,rfl⟩|(rename_i hs;simp[simple] at hs)
  obtain⟨f,a,c,rfl⟩:=this
  cases hy with
  |sc _ _=>exact⟨by rw[df,Op.equalIn];simp[ab hu],fun op ox oy=>guard _ _ _ _ _ (by simp) (by simp),rfl,rfl⟩
 ·cases hr
  have: ∃f a c,y'= .func f a c:=by cases hy<;>first|exact⟨_,_,_,rfl⟩|(rename_i hs;simp[simple] at hs)
  obtain⟨f,a,c,rfl⟩:=this
  cases hx with
  |sc _ _=>exact⟨by rw[df,Op.equalIn];simp[ab hu],fun op ox oy=>guard _ _ _ _ _ (by simp) (by simp),rfl,rfl⟩
 ·cases hr
theorem K7{op:BinOp}{xt:TypeId}{ox oy:Operand}{x x' y y' v:Value}(hh:aM ρ h.heap.get w)(hx:VR ρ x x')(hy:VR ρ y y')(hr:Az P h op xt ox oy x y=some v):
 aJ P ρ h w (do eqGuard op xt ox oy x' y';binOp op xt x' y') v h:=by
 unfold Az at hr
 split at hr
 ·rename_i h1 h2
  have e1:=hx.plain h1
  have e2:=hy.plain h2
  subst e1 e2
  obtain⟨h3,h4⟩:=kP hr
  exact aJ.pure hh (h3 w) (VR.aQ h4)
 ·split at hr
  ·rename_i d hu
   split at hr
   ·split at hr
    ·rename_i b hb
     cases hr
     obtain⟨e1,e2,e3,e4⟩:=tv hh hu hx hy hb
     exact aJ.pure hh (v':= .bool b) (by simp[e2,e3,e1]) (.sc _ rfl)
    ·cases hr
   ·split at hr
    ·rename_i b hb
     cases hr
     obtain⟨e1,e2,e3,e4⟩:=tv hh hu hx hy hb
     exact aJ.pure hh (v':= .bool (!b)) (by simp[e2,e4,e1]) (.sc _ rfl)
    ·cases hr
   ·cases hr
  ·cases hr
theorem Bp{x x':Value}{r:bZ}(hx:VR ρ x x')(hr:oT h x=some r): ∃v,r= .val v h/\VR ρ v x'/\((∃a,x'= .pointer (some a))\/(∃f a b,x'= .func (.func f) a b)\/(∃f a b,x'= .func (.yield f) a b)):=by
 unfold oT at hr
 split at hr
 ·cases hr
  refine⟨_,rfl,hx,?_⟩
  cases hx with
  |sc _ hs=>simp[simple] at hs
  |ptr=>exact .inl ⟨_,rfl⟩
 ·cases hr
  refine⟨_,rfl,hx,?_⟩
  cases hx with
  |sc _ hs=>simp[simple] at hs
  |fn=>exact .inr (.inl ⟨_,_,_,rfl⟩)
 ·cases hr
  refine⟨_,rfl,hx,?_⟩
  cases hx with
  |sc _ hs=>simp[simple] at hs
  |yield=>exact .inr (.inr ⟨_,_,_,rfl⟩)
 ·cases hr
theorem zI{t:TypeId}{l l' c c':Value}{r:bZ}(hh:aM ρ h.heap.get w)(hl:VR ρ l l')(hc:VR ρ c c')(hf:bD ρ h.next (r.next h))(hr:iL P h t l c=some r): ∃v h',r= .val v h'/\aJ P ρ h w (Instr.makeSlice t l' c') v h':=by
 unfold iL at hr
 split at hr
 ·rename_i e k1 ln k2 cn hu
  cases hl
  cases hc
  split at hr
  ·rename_i i hi hle hcm
   split at hr
   ·rename_i z hz hby
    split at hr
    ·rename_i hpz hac hsz
     cases hr
     have hle':=Nat.le_of_ble_eq_true hle
     have hcm':=Nat.le_of_ble_eq_true hcm
     have hby':=Nat.le_of_ble_eq_true hby
     have hsz':=Nat.eq_of_beq_eq_true hsz
     have hzs:z.cells.size=i.size:=by rw[←Array.length_toList,fS,hsz']
     have hrep:cU ρ (rep cn (aZ z)) (rep cn (aZ z)):=by
      have: ∀k,cU ρ (rep k (aZ z)) (rep k (aZ z)):=by
       intro k
       induction k with
       |zero=>exact .nil
       |succ k ih=>
        refine cU.append ?_ ih
        have:=(VR.aQ hpz (ρ:=ρ)).cells
        rw[fS] at this
        exact this
      exact this cn
     refine⟨_,_,rfl,aJ.ia (v':= .slice (some ⟨w.heap.size,0,none⟩) ln cn) hh hf hrep ?_ (VR.xO _ _ _ _ _ rfl)⟩
     have w1:IntKind.i64.wrap (ln:Int)=ln:=IntWalk.i64_in _ (by omega)
     have w2:IntKind.i64.wrap (cn:Int)=cn:=IntWalk.i64_in _ (by omega)
     have hmul:i.bytes*cn<=1099511627776:=Nat.le_trans (Nat.mul_le_mul hby' hcm') (by omega)
     have c1: ¬((i.bytes:Int)*(cn:Int)>2 ^ 48):=by
      have h1:((i.bytes*cn:Nat):Int)<=((1099511627776:Nat):Int):=Int.ofNat_le.2 hmul
      have h2:((i.bytes*cn:Nat):Int)=(i.bytes:Int)*(cn:Int):=Int.natCast_mul _ _
      rw[h2] at h1
      omega
     have c2: ¬((ln:Int)>(cn:Int)):=by omega
     have c3: ¬((cn:Int)<0):=by omega
     have c4: ¬((ln:Int)<0):=by omega
     have v1:(Value.int k1 (Int.ofNat ln))=Value.int k1 (ln:Int):=rfl
     have v2:(Value.int k2 (Int.ofNat cn))=Value.int k2 (cn:Int):=rfl
     have ha: ∀k (n:Nat),(asInt (.int k (n:Int))).run P w= .ok (n:Int) w:=fun k n=>rfl
     have hcond:((decide ((cn:Int)<0)||decide ((i.bytes:Int)*(cn:Int)>2 ^ 48))||decide ((ln:Int)<0)||decide ((ln:Int)>(cn:Int)))=false:=by
      rw[decide_eq_false c1,decide_eq_false c2,decide_eq_false c3,decide_eq_false c4];rfl
     rw[v1,v2]
     simp only[Instr.makeSlice,Sem.run_bind,ab hu,Result.andThen_ok,ha,lj hi,w1,w2,hcond,Bool.false_eq_true,if_false,run_askRoom,aR hi,Int.toNat_natCast]
     by_cases h0:cn*i.size=0
     ·have hnil:rep cn (aZ z)=[]:=by
       rw[←List.length_eq_zero_iff,oD,hsz'];exact h0
      have hr0: ∀f:Nat->Value,Array.map f (Array.range 0)= #[]:=fun f=>by simp[Array.range]
      simp[h0,hr0,hnil,iD]
     ·have hcells:((Array.range (cn*i.size)).map (z.cells[· % z.cells.size]!))=(rep cn (aZ z)).toArray:=by
       rw[uJ cn z i.size hzs (by
        rcases Nat.eq_zero_or_pos i.size with h|h
        ·rw[h] at h0;simp at h0
        ·left;omega),fS]
      simp only[if_neg h0,Sem.run_bind,dt hi hz,Result.andThen_ok,Sem.run_pure,hcells,iD]
    ·cases hr
   ·cases hr
  ·cases hr
 ·cases hr
end
section
variable{P:Program}{ρ:aX}{w:World}{h:Hs}
theorem FA{ats:List TypeId}{d d' s s':Value}{ty:TypeId}{r:bZ}(hd:VR ρ d d')(hs:VR ρ s s')(hh:aM ρ h.heap.get w)(hr:cw P h .copy ats [d,s]=some r):
 ∃v h',r= .val v h'/\aJ P ρ h w (Builtin.copy_ ⟨ats⟩ ty #[d',s']) v h':=by
 simp only[cw] at hr
 split at hr
 ·rename_i t _
  split at hr
  ·rename_i e hu
   split at hr
   ·rename_i i base dl dc sl hi hsl
    have hlen:=vU (P:=P) (w:=w) hs hsl
    split at hr
    ·rename_i cs hcs
     obtain⟨cs',hrun,hR⟩:=qW (P:=P) hh hs hcs
     have hrun:=hrun w rfl
     split at hr
     ·cases hr
      cases hd with
      |sc _ _=>exact⟨_,_,rfl,aJ.pure hh (v':=goInt (Nat.min sl dl)) (by simp[Builtin.copy_,ab hu,hlen,aR hi,hrun]) (.sc _ rfl)⟩
     ·cases hr
      cases hR
      cases hd with
      |sc _ hs=>exact⟨_,_,rfl,aJ.pure hh (v':=goInt (Nat.min sl dl)) (by simp[Builtin.copy_,ab hu,hlen,aR hi,hrun,storeCells]) (.sc _ rfl)⟩
      |es _ _ hs=>exact⟨_,_,rfl,aJ.pure hh (v':=goInt (Nat.min sl 0)) (by have hz:Nat.min sl 0=0:=Nat.min_zero sl;rw[hz] at hrun ⊢;simp[Builtin.copy_,ab hu,hlen,aR hi,hrun,storeCells]) (.sc _ rfl)⟩
      |sl b o _ _ L hL=>exact⟨_,_,rfl,aJ.pure hh (v':=goInt (Nat.min sl dl)) (by simp[Builtin.copy_,ab hu,hlen,aR hi,hrun,storeCells]) (.sc _ rfl)⟩
     ·rename_i a _ _
      split at hr
      ·rename_i h1 hsp hw
       cases hr
       obtain⟨L,w',hL,hst,hh',hstep⟩:=iN (P:=P) hh hw hR
       cases hd with
       |sc _ hs=>exact((eh hs).1 (by assumption)).elim
       |es _ _ hs=>exact(hs (by assumption)).elim
       |sl b o _ _ L' hL'=>
        rw[hL] at hL';cases hL'
        exact⟨_,_,rfl,ρ,goInt (Nat.min sl dl),w',by simp[Builtin.copy_,ab hu,hlen,aR hi,hrun,hst], .sc _ rfl,hh',hstep _ _⟩
      ·cases hr
    ·cases hr
   ·cases hr
  ·cases hr
 ·cases hr
theorem JL{ats:List TypeId}{x x':Value}{ty:TypeId}{r:bZ}(hx:VR ρ x x')(hh:aM ρ h.heap.get w)(hr:cw P h .len ats [x]=some r):
 ∃v h',r= .val v h'/\aJ P ρ h w (Builtin.len_ ⟨ats⟩ ty #[x']) v h':=by
 simp only[cw] at hr
 split at hr
 ·rename_i t _
  split at hr
  ·rename_i s hu
   cases hr
   cases hx
   exact⟨_,_,rfl,aJ.pure hh (v':=goInt s.size) (by simp[Builtin.len_,ab hu]) (.sc _ rfl)⟩
  ·rename_i n e hu
   cases hr
   exact⟨_,_,rfl,aJ.pure hh (v':=goInt n) (by simp[Builtin.len_,ab hu]) (.sc _ rfl)⟩
  ·rename_i e a n c hu
   cases hr
   refine⟨_,_,rfl,aJ.pure hh (v':=goInt n) ?_ (.sc _ rfl)⟩
   cases hx<;>simp[Builtin.len_,ab hu]
  ·rename_i k e hu
   cases hr
   cases hx
   exact⟨_,_,rfl,aJ.pure hh (v':=goInt 0) (by simp[Builtin.len_,ab hu]) (.sc _ rfl)⟩
  ·rename_i k e b hu
   split at hr
   ·rename_i es ck hb
    cases hr
    cases hx with
    |sc _ hs=>simp[simple] at hs
    |map _ L hL=>
     obtain⟨L0,x,hL0,hx0,hR⟩:=hh.obj _ _ hb
     rw[hL] at hL0;cases hL0
     cases x<;>simp only[OR] at hR<;>first|exact hR.elim|skip
     rename_i es' ck'
     have hlen:es'.size=es.length:=by
      rw[←Array.length_toList]
      have: ∀{l l':List MapEntry},iA ρ l l'->l'.length=l.length:=by
       intro l l' h
       induction h with
       |nil=>rfl
       |cons _ _ _ _ _ _ ih=>simp[ih]
      exact this hR.1
     refine⟨_,_,rfl,aJ.pure hh (v':=goInt es.length) ?_ (.sc _ rfl)⟩
     simp[Builtin.len_,ab hu,getObj,Sem.run,hx0,hlen]
   ·cases hr
  ·cases hr
 ·cases hr
theorem Kt{ats:List TypeId}{x x':Value}{ty:TypeId}{r:bZ}(hx:VR ρ x x')(hh:aM ρ h.heap.get w)(hr:cw P h .cap ats [x]=some r):
 ∃v h',r= .val v h'/\aJ P ρ h w (Builtin.cap_ ⟨ats⟩ ty #[x']) v h':=by
 simp only[cw] at hr
 split at hr
 ·rename_i t _
  split at hr
  ·rename_i e n c hu
   cases hr
   cases hx
   exact⟨_,_,rfl,aJ.pure hh (v':=goInt c) (by simp[Builtin.cap_,ab hu]) (.sc _ rfl)⟩
  ·rename_i e a n c hu
   split at hr
   ·rename_i k hk
    split at hr
    ·rename_i hex
     cases hr
     cases hx with
     |sc _ hs=>exact⟨_,_,rfl,aJ.pure hh (v':=goInt c) (by simp[Builtin.cap_,ab hu]) (.sc _ rfl)⟩
     |es _ _ hs=>exact⟨_,_,rfl,aJ.pure hh (v':=goInt 0) (by simp[Builtin.cap_,ab hu]) (.sc _ rfl)⟩
     |sl b o _ _ L hL=>
      obtain⟨L0,x,hL0,hx0,hR⟩:=hh.obj _ _ hk
      rw[hL] at hL0;cases hL0
      obtain⟨c',fr,rfl,hR⟩:=fV hR
      have hψ:=hR.exact hex
      exact⟨_,_,rfl,aJ.pure hh (v':=goInt c) (by simp[Builtin.cap_,ab hu,hψ]) (.sc _ rfl)⟩
    ·cases hr
   ·cases hr
  ·cases hr
 ·cases hr
theorem y7(z:Value)(n:Nat):(Builtin.zeroCells z.cells n).toList=rep n (aZ z):=by
 rw[←fS]
 rcases Nat.eq_zero_or_pos z.cells.size with h|h
 ·have h1:z.cells.toList=[]:=by rw[←List.length_eq_zero_iff,Array.length_toList];exact h
  have h2: ∀k,rep k ([]:List Value)=[]:=fun k=>by
   induction k with
   |zero=>rfl
   |succ k ih=>simp[rep,ih]
  simp[Builtin.zeroCells,h,h1,h2]
 ·have:=uJ n z z.cells.size rfl (.inl (by omega))
  simp only[Builtin.zeroCells,this]
theorem Gh{z:Value}(hz:aC z=true)(n:Nat):cU ρ (rep n (aZ z)) (rep n (aZ z)):=by
 induction n with
 |zero=>exact .nil
 |succ k ih=>
  refine cU.append ?_ ih
  have:=(VR.aQ hz (ρ:=ρ)).cells
  rw[fS] at this
  exact this
theorem wq{ats:List TypeId}{x x':Value}{ty:TypeId}{r:bZ}(hx:VR ρ x x')(hh:aM ρ h.heap.get w)(hr:cw P h .clear ats [x]=some r):
 ∃v h',r= .val v h'/\aJ P ρ h w (Builtin.clear_ ⟨ats⟩ ty #[x']) v h':=by
 simp only[cw] at hr
 split at hr
 ·rename_i t _
  split at hr
  ·rename_i e a n c hu
   split at hr
   ·rename_i i hi hsp
    split at hr
    ·rename_i z hz hz'
     split at hr
     ·cases hr
      cases hx with
      |sc _ hs=>exact((eh hs).1 (by assumption)).elim
      |es _ _ hs=>exact(hs (by assumption)).elim
      |sl b o _ _ L hL=>
       exact⟨_,_,rfl,aJ.pure hh (v':= .tuple #[]) (by simp[Builtin.clear_,ab hu]) (.tuple [] [] .nil)⟩
     ·rename_i n' hn'
      split at hr
      ·rename_i h1 hw
       cases hr
       obtain⟨L,w',hL,hst,hh',hstep⟩:=iN (P:=P) hh hw (Gh (by simpa[hz] using hz') n)
       cases hx with
       |sc _ hs=>exact((eh hs).1 (by assumption)).elim
       |es _ _ hs=>exact(hs (by assumption)).elim
       |sl b o _ _ L' hL'=>
        rw[hL] at hL';cases hL'
        refine⟨_,_,rfl,ρ, .tuple #[],w',?_, .tuple [] [] .nil,hh',hstep _ _⟩
        cases n with
        |zero=>exact(hn' rfl).elim
        |succ n=>simp[Builtin.clear_,ab hu,dt hi hz,y7,hst]
      ·cases hr
    ·cases hr
   ·cases hr
  ·cases hr
 ·cases hr
theorem xP{b:Builtin}{l l':List Value}{ats:Array TypeId}{ty:TypeId}{r:bZ}(hl:cU ρ l l')(hh:aM ρ h.heap.get w)(hb:(b= .min/\cw P h .min ats.toList l=some r)\/(b= .max/\cw P h .max ats.toList l=some r)):
 ∃v h',r= .val v h'/\aJ P ρ h w (if b matches .min then Builtin.min_ ats ty ⟨l'⟩ else Builtin.max_ ats ty ⟨l'⟩) v h':=by
 rcases hb with ⟨rfl,hr⟩|⟨rfl,hr⟩
 ·simp only[cw] at hr
  split at hr
  ·rename_i hp
   have:=hl.plain hp;subst this
   split at hr
   ·rename_i v hv
    cases hr
    obtain⟨h1,h2⟩:=kP hv
    exact⟨v,h,rfl,aJ.pure hh (h1 w) (VR.aQ h2)⟩
   ·cases hr
  ·cases hr
 ·simp only[cw] at hr
  split at hr
  ·rename_i hp
   have:=hl.plain hp;subst this
   split at hr
   ·rename_i v hv
    cases hr
    obtain⟨h1,h2⟩:=kP hv
    exact⟨v,h,rfl,aJ.pure hh (h1 w) (VR.aQ h2)⟩
   ·cases hr
  ·cases hr
end
section
variable{P:Program}{ρ:aX}{w:World}{h:Hs}
theorem aJ.same{s:Sem Value}{v:Value}(hh:aM ρ h.heap.get w)(hs:s.run P w= .ok v w)(hv:simple v=true):aJ P ρ h w s v h:=aJ.pure hh hs (.sc _ hv)
theorem QI{a:Addr}{c:Array Value}{e:TypeId}{fr:Nat × Nat}(hx:w.heap[a.block]? =some (.cells c e fr)):(Conv.seenAt a).run P w= .ok a w:=by
 have:w.shape? a.block=some (e,c.size):=by simp[World.shape?,hx]
 simp[Conv.seenAt,viewAt,this]
theorem Pv{b:Nat}{c:Array Value}{e:TypeId}{fr:Nat × Nat}(hx:w.heap[b]? =some (.cells c e fr)):(cellsIn b).run P w= .ok (some c.size) w:=by
 have:w.shape? b=some (e,c.size):=by simp[World.shape?,hx]
 simp[cellsIn,this]
theorem D2{s d:TypeId}{x x':Value}{r:bZ}(hx:VR ρ x x')(hh:aM ρ h.heap.get w)(hf:bD ρ h.next (r.next h))(hr:ob P h s d x=some r):
 ∃v h',r= .val v h'/\aJ P ρ h w (convert s d x') v h':=by
 unfold ob at hr
 split at hr
 ·rename_i sd dd hs hd
  split at hr
  ·cases hr
   cases hx
   exact⟨_,_,rfl,aJ.same hh (by cases sd<;>simp[convert,ab hs,ab hd,Conv.intToInt]) rfl⟩
  ·cases hr
   cases hx
   exact⟨_,_,rfl,aJ.same hh (by cases sd<;>simp[convert,ab hs,ab hd]) rfl⟩
  ·cases hr
 ·cases hr
theorem GY{f:FuncId}{fn:Func}{args args':List Value}{r:bZ}(hf':P.funcs[f]? =some fn)(hb:fn.body=none)(ha:cU ρ args args')(hh:aM ρ h.heap.get w)(hf:bD ρ h.next (r.next h))(hr:rK P h fn args=some r):
 fF P ρ h w (callFunc f ⟨args'⟩) r:=by
 unfold rK at hr;cases hr
end
section
variable{P:Program}{ρ:aX}{w:World}{h:Hs}
theorem iA.length: ∀{l l':List MapEntry},iA ρ l l'->l'.length=l.length
 |_,_, .nil=>rfl
 |_,_, .cons _ _ _ _ _ k=>by simp[iA.length k]
theorem iA.get: ∀{l l':List MapEntry},iA ρ l l'-> ∀{i:Nat} {e:MapEntry},l[i]? =some e-> ∃e',l'[i]? =some e'/\ER ρ e e'
 |_,_, .nil,i,e,h=>by simp at h
 |_,_, .cons a a' l l' h k,0,e,he=>by simp at he;subst he;exact⟨a',rfl,h⟩
 |_,_, .cons a a' l l' h k,i+1,e,he=>by simp at he;simpa using iA.get k he
theorem iA.append: ∀{a a' b b':List MapEntry},iA ρ a a'->iA ρ b b'->iA ρ (a++b) (a'++b')
 |_,_,_,_, .nil,k=>k
 |_,_,_,_, .cons v v' l l' h r,k=> .cons v v' _ _ h (iA.append r k)
theorem qu{kt:TypeId}{d:TypeDesc}{x y:Value}{b b':Bool}(hu:P.underlying kt=some d)(h1:Instr.sameNow d x y=some b)(h2:prun P (Op.equal kt x y)=some b'):b'=b:=by
 have hr:=fK h2 default
 rw[df,Op.equalIn] at hr
 simp only[Sem.run_bind,ab hu,Result.andThen_ok] at hr
 unfold Instr.sameNow at h1
 split at h1
 ·split at h1
  ·rename_i he
   cases h1
   simp[he] at hr
   exact hr.symm
  ·cases h1
 ·cases h1
  simp at hr
  exact hr.symm
 ·cases h1
  simp at hr
  exact hr.symm
 ·cases h1
def Et(ρ:aX):Option (Nat × Value)->Option (Nat × Value)->Prop
 |none,r'=>r'=none
 |some (j,v),r'=> ∃v',r'=some (j,v')/\VR ρ v v'
theorem tk{kt:TypeId}{k:Value}(hk:aC k=true): ∀{es es':List MapEntry} {i:Nat} {r:Option (Nat × Value)},iA ρ es es'->aE P kt k es i=some r->
 ∃r',(∀w,(Instr.findAsking kt k es' i).run P w= .ok r' w)/\(∀d r'',P.underlying kt=some d->Instr.findNow d k es' i=some r''->r''=r')/\
  Et ρ r r'
 |_,_,i,r, .nil,hf=>by
  simp only[aE,Option.some.injEq] at hf
  subst hf
  exact⟨none,fun w=>by simp[Instr.findAsking],fun d r'' _ hn=>by simp only[Instr.findNow,Option.some.injEq] at hn;exact hn.symm,rfl⟩
 |_,_,i,r, .cons e e' l l' he hl,hf=>by
  simp only[aE] at hf
  split at hf
  ·rename_i hp
   have hkey:=he.1.plain hp
   split at hf
   ·rename_i hq
    cases hf
    refine⟨some (i,e'.val),fun w=>?_,fun d r'' hu hn=>?_,e'.val,rfl,he.2.1⟩
    ·have:=fK hq w
     simp only[Instr.findAsking,Sem.run_bind,hkey,this,Result.andThen_ok,if_true,Sem.run_pure]
    ·simp only[Instr.findNow,hkey] at hn
     split at hn
     ·cases hn;rfl
     ·rename_i hs
      have:=qu hu hs hq
      cases this
     ·cases hn
   ·rename_i hq
    obtain⟨r',h1,h2,h3⟩:=tk hk hl hf
    refine⟨r',fun w=>?_,fun d r'' hu hn=>?_,h3⟩
    ·have:=fK hq w
     simp only[Instr.findAsking,Sem.run_bind,hkey,this,Result.andThen_ok,Bool.false_eq_true,if_false,h1 w]
    ·simp only[Instr.findNow,hkey] at hn
     split at hn
     ·rename_i hs
      have:=qu hu hs hq
      cases this
     ·exact h2 d r'' hu hn
     ·cases hn
   ·cases hf
  ·cases hf
theorem eR{kt:TypeId}{k:Value}(hk:aC k=true){es es':List MapEntry}{r:Option (Nat × Value)}(hE:iA ρ es es')(hf:aE P kt k es 0=some r){d:TypeDesc}(hu:P.underlying kt=some d):
 ∃r',(∀w,(Instr.findKey kt k es').run P w= .ok r' w)/\Et ρ r r':=by
 obtain⟨r',h1,h2,h3⟩:=tk hk hE hf
 refine⟨r',fun w=>?_,h3⟩
 simp only[Instr.findKey,Sem.run_bind,ab hu,Result.andThen_ok]
 split
 ·rename_i r'' hn
  rw[h2 d r'' hu hn];rfl
 ·exact h1 w
theorem kv{kt:TypeId}{k k':Value}(hk:VR ρ k k')(ha:sL P kt k=true):k'=k/\aC k=true/\ ∀b w,(Instr.checkKey b 10000 kt k).run P w= .ok () w:=by
 unfold sL at ha
 split at ha
 ·rename_i hp
  split at ha
  ·rename_i h1 h2
   exact⟨hk.plain hp,hp,fun b w=>by cases b;exact fK h1 w;exact fK h2 w⟩
  ·cases ha
 ·cases ha
theorem eT{b:Nat}{L:Loc}{es:List MapEntry}{ck:Nat}(hh:aM ρ h.heap.get w)(hb:h.heap.get b=some (.map es ck))(hL:ρ b=some L):
 ∃es':Array MapEntry,w.heap[L.φ]? =some (.map es' ck)/\(getObj L.φ).run P w= .ok (.map es' ck) w/\iA ρ es es'.toList:=by
 obtain⟨L0,x,hL0,hx0,hR⟩:=hh.obj _ _ hb
 rw[hL] at hL0;cases hL0
 cases x<;>simp only[OR] at hR<;>first|exact hR.elim|skip
 rename_i es' ck'
 obtain⟨h1,rfl⟩:=hR
 exact⟨es',hx0,by simp[getObj,Sem.run,hx0],h1⟩
theorem pC{r:Nat}{x o:Obj}(hx:w.heap[r]? =some x)(hc: ∀c e f,x≠ .cells c e f): ∃w',(setObj r o).run P w= .ok () w'/\og w w' r o:=by
 refine⟨{w with heap:=w.heap.setIfInBounds r o},?_,⟨rfl,rfl,rfl,by simp,fun k hk=>?_,?_⟩⟩
 ·simp only[setObj,Sem.run,hx]
 ·show(w.heap.setIfInBounds r o)[k]? =_
  rw[Array.getElem?_setIfInBounds_ne (by omega)]
 ·show(w.heap.setIfInBounds r o)[r]? =_
  have:=(Array.getElem?_eq_some_iff.1 hx).1
  simp[this]
theorem mR{kt:TypeId}{k:Value}(h: ∀b w,(Instr.checkKey b 10000 kt k).run P w= .ok () w): ∃d,P.underlying kt=some d:=by
 cases hu:P.underlying kt with
 |some d=>exact⟨d,rfl⟩
 |none=>
  have:=h true default
  rw[show(10000:Nat)=9999+1 from rfl,Instr.checkKey] at this
  simp[underlying,hu] at this
theorem GI{t:TypeId}{m m' k k':Value}{ok:Bool}{r:bZ}(hh:aM ρ h.heap.get w)(hm:VR ρ m m')(hk:VR ρ k k')(hr:oV P h t m k ok=some r): ∃v,r= .val v h/\aJ P ρ h w (Instr.lookup t m' k' ok) v h:=by
 unfold oV at hr
 split at hr
 ·rename_i kt e hu
  split at hr
  ·rename_i es hak hes
   obtain⟨rfl,hp,hck⟩:=kv hk hak
   obtain⟨kd,hkd⟩:=mR hck
   have key: ∀r',(∃es':Array MapEntry,iA ρ es es'.toList/\(∀w,(Instr.findKey kt k' es'.toList).run P w= .ok r' w))->Et ρ (none:Option (Nat × Value)) r'\/True:=fun _ _=> .inr trivial
   have hold: ∃es':Array MapEntry,iA ρ es es'.toList/\ ∀r':Option (Nat × Value),(∀w,(Instr.findKey kt k' es'.toList).run P w= .ok r' w)-> ∀v',(match r' with
    |some (_,v)=>v'=(if ok then .tuple #[v, .bool true] else v)
    |none=> ∃z,(zeroValue e).run P w= .ok z w/\v'=(if ok then .tuple #[z, .bool false] else z))->(Instr.lookup t m' k' ok).run P w= .ok v' w:=by
    unfold Ei at hes
    split at hes
    ·cases hes
     cases hm
     refine⟨#[], .nil,fun r' hf v' hv=>?_⟩
     cases r' with
     |none=>
      obtain⟨z,hz,rfl⟩:=hv
      simp only[Instr.lookup,Sem.run_bind,ab hu,Result.andThen_ok,Sem.run_pure,hck,hf,hz]
     |some x=>
      obtain⟨j,v⟩:=x
      simp only at hv
      subst hv
      simp only[Instr.lookup,Sem.run_bind,ab hu,Result.andThen_ok,Sem.run_pure,hck,hf]
    ·split at hes
     ·rename_i b es ck hb
      cases hes
      cases hm with
      |sc _ hs=>simp[simple] at hs
      |map _ L hL=>
       obtain⟨es',h1,h2,h3⟩:=eT (P:=P) hh hb hL
       refine⟨es',h3,fun r' hf v' hv=>?_⟩
       cases r' with
       |none=>
        obtain⟨z,hz,rfl⟩:=hv
        simp only[Instr.lookup,Sem.run_bind,ab hu,Result.andThen_ok,Sem.run_pure,h2,hck,hf,hz]
       |some x=>
        obtain⟨j,v⟩:=x
        simp only at hv
        subst hv
        simp only[Instr.lookup,Sem.run_bind,ab hu,Result.andThen_ok,Sem.run_pure,h2,hck,hf]
     ·cases hes
    ·cases hes
   obtain⟨es',hE,hold⟩:=hold
   split at hr
   ·rename_i j v hf
    cases hr
    obtain⟨r',h1,v',rfl,hv⟩:=eR hp hE hf hkd
    refine⟨_,rfl,aJ.pure hh (hold _ h1 _ rfl) ?_⟩
    cases ok
    ·exact hv
    ·exact .tuple _ _ (.cons _ _ _ _ hv (.one (.sc _ rfl)))
   ·rename_i hf
    obtain⟨r',h1,h2⟩:=eR hp hE hf hkd
    have h2:r'=none:=h2
    subst h2
    split at hr
    ·rename_i i hi
     split at hr
     ·rename_i z hz
      split at hr
      ·rename_i hpz
       cases hr
       refine⟨_,rfl,aJ.pure hh (hold _ h1 _ ⟨z,dt hi hz,rfl⟩) ?_⟩
       cases ok
       ·exact VR.aQ hpz
       ·exact .tuple _ _ (.cons _ _ _ _ (VR.aQ hpz) (.one (.sc _ rfl)))
      ·cases hr
     ·cases hr
    ·cases hr
   ·cases hr
  ·cases hr
 ·cases hr
theorem sY{k x x':Value}(hk:aC k=true)(hx:VR ρ x x'): ∀{es es':List MapEntry} {i:Nat},iA ρ es es'->iA ρ (dr i k x es) (es'.modify i fun e=>{e with key:=k,val:=x'})
 |_,_,i, .nil=>by cases i<;>simpa[dr] using iA.nil
 |_,_,0, .cons e e' l l' he hl=>by simpa[dr] using iA.cons _ _ _ _ (show ER ρ {e with key:=k,val:=x} {e' with key:=k,val:=x'} from⟨VR.aQ hk,hx,he.2.2⟩) hl
 |_,_,i+1, .cons e e' l l' he hl=>by simpa[dr] using iA.cons _ _ _ _ he (sY hk hx hl)
theorem uU{k:Value}(hk:aC k=true): ∀{es es':List MapEntry} {i:Nat},iA ρ es es'->iA ρ (Gc i k es) (es'.modify i fun e=>{e with key:=k})
 |_,_,i, .nil=>by cases i<;>simpa[Gc] using iA.nil
 |_,_,0, .cons e e' l l' he hl=>by simpa[Gc] using iA.cons _ _ _ _ (show ER ρ {e with key:=k} {e' with key:=k} from⟨VR.aQ hk,he.2.1,he.2.2⟩) hl
 |_,_,i+1, .cons e e' l l' he hl=>by simpa[Gc] using iA.cons _ _ _ _ he (uU hk hl)
theorem qt{x x':Value}(hx:VR ρ x x'): ∀{es es':List MapEntry} {i:Nat},iA ρ es es'->iA ρ (se i x es) (es'.modify i fun e=>{e with val:=x'})
 |_,_,i, .nil=>by cases i<;>simpa[se] using iA.nil
 |_,_,0, .cons e e' l l' he hl=>by simpa[se] using iA.cons _ _ _ _ (show ER ρ {e with val:=x} {e' with val:=x'} from⟨he.1,hx,he.2.2⟩) hl
 |_,_,i+1, .cons e e' l l' he hl=>by simpa[se] using iA.cons _ _ _ _ he (qt hx hl)
theorem rf: ∀{es es':List MapEntry} {i:Nat},iA ρ es es'->iA ρ (sE i es) (es'.eraseIdx i)
 |_,_,i, .nil=>by cases i<;>simpa[sE] using iA.nil
 |_,_,0, .cons e e' l l' he hl=>by simpa[sE] using hl
 |_,_,i+1, .cons e e' l l' he hl=>by simpa[sE] using iA.cons _ _ _ _ he (rf hl)
theorem jQ{b:Nat}{L:Loc}{es es2:List MapEntry}{ck ck2:Nat}{es2':Array MapEntry}(hh:aM ρ h.heap.get w)(hb:h.heap.get b=some (.map es ck))(hL:ρ b=some L)(hE:iA ρ es2 es2'.toList):
 ∃w',(setObj L.φ (.map es2' ck2)).run P w= .ok () w'/\aM ρ (h.heap.set b (.map es2 ck2)).get w'/\ ∀lo hi,Step ρ h.heap.get w ρ (h.heap.set b (.map es2 ck2)).get w' lo hi:=by
 obtain⟨es',h1,_,_⟩:=eT (P:=P) hh hb hL
 obtain⟨w',hr,hu⟩:=pC (P:=P) (o:= .map es2' ck2) h1 (fun _ _ _ h=>by cases h)
 exact⟨w',hr,hh.pg hb rfl hL hu (show OR ρ L (.map es2 ck2) (.map es2' ck2) from⟨hE,rfl⟩) (fun j=>T.aH _ _ _ _),fun lo hi=>Step.pg hb rfl hL hu (fun j=>T.aH _ _ _ _) lo hi⟩
theorem B3{k:Value}{es:List MapEntry}{arr:Array MapEntry}{e:MapEntry}{j:Nat}(hs:(aC e.key && Instr.sameBits 10000 e.key k)=true)(hE:iA ρ es arr.toList)(he:es[j]? =some e):
 (Instr.keyThatStays (((arr[j]?).map (·.key)).getD k) k).run P w= .ok k w:=by
 obtain⟨e',he',hER⟩:=hE.get he
 rw[Array.getElem?_toList] at he'
 simp only[Bool.and_eq_true] at hs
 have:=hER.1.plain hs.1
 simp only[he',Option.map_some,Option.getD_some,this,Instr.keyThatStays,hs.2,if_true,Sem.run_pure]
theorem qM{t:TypeId}{m m' k k' x x':Value}{r:bZ}(hh:aM ρ h.heap.get w)(hm:VR ρ m m')(hk:VR ρ k k')(hx:VR ρ x x')(hr:iK P h t m k x=some r): ∃h',r= .skip h'/\sV P ρ h w (Instr.mapUpdate t m' k' x') h':=by
 unfold iK at hr
 split at hr
 ·rename_i kt e b hu
  split at hr
  ·rename_i es ck hak hb
   obtain⟨rfl,hp,hck⟩:=kv hk hak
   obtain⟨kd,hkd⟩:=mR hck
   cases hm with
   |sc _ hs=>simp[simple] at hs
   |map _ L hL=>
    obtain⟨es',h1,h2,hE⟩:=eT (P:=P) hh hb hL
    split at hr
    ·rename_i j v hf
     obtain⟨r',h3,v',rfl,hv⟩:=eR hp hE hf hkd
     split at hr
     ·rename_i e0 he0
      split at hr
      ·rename_i hsb
       cases hr
       rw[gi] at he0
       have hkeep:=B3 (P:=P) (w:=w) (k:=k') hsb hE he0
       obtain⟨w',h4,h5,h6⟩:=jQ (P:=P) (ck2:=ck) (es2':=es'.modify j fun e=>{e with key:=k',val:=x'}) hh hb hL (by
        rw[Array.toList_modify];exact sY hp hx hE)
       refine⟨_,rfl,ρ,w',?_,h5,h6 _ _⟩
       simp only[Instr.mapUpdate,Sem.run_bind,ab hu,Result.andThen_ok,h2,hck,h3,hkeep,h4]
      ·cases hr
     ·cases hr
    ·rename_i hf
     cases hr
     obtain⟨r',h3,h3'⟩:=eR hp hE hf hkd
     have h3':r'=none:=h3'
     subst h3'
     obtain⟨w',h4,h5,h6⟩:=jQ (P:=P) (ck2:=ck+1) (es2':=es'.push {key:=k',val:=x',born:=ck}) hh hb hL (by
      rw[Array.toList_push];exact hE.append (iA.cons {key:=k',val:=x,born:=ck} _ _ _ ⟨VR.aQ hp,hx,rfl⟩ .nil))
     refine⟨_,rfl,ρ,w',?_,h5,h6 _ _⟩
     simp only[Instr.mapUpdate,Sem.run_bind,ab hu,Result.andThen_ok,h2,hck,h3,h4]
    ·cases hr
  ·cases hr
 ·cases hr
theorem Bz{t:TypeId}{m m' k k':Value}{r:bZ}(hh:aM ρ h.heap.get w)(hm:VR ρ m m')(hk:VR ρ k k')(hr:oU P h t m k=some r): ∃v h',r= .val v h'/\h'.next=h.next/\aJ P ρ h w (Instr.mapEntry t m' k') v h':=by
 unfold oU at hr
 split at hr
 ·rename_i kt e b hu
  split at hr
  ·rename_i es ck hak hb
   obtain⟨rfl,hp,hck⟩:=kv hk hak
   obtain⟨kd,hkd⟩:=mR hck
   cases hm with
   |sc _ hs=>simp[simple] at hs
   |map _ L hL=>
    obtain⟨es',h1,h2,hE⟩:=eT (P:=P) hh hb hL
    split at hr
    ·rename_i j v hf
     obtain⟨r',h3,v',rfl,hv⟩:=eR hp hE hf hkd
     split at hr
     ·rename_i e0 he0
      split at hr
      ·rename_i hsb
       cases hr
       rw[gi] at he0
       have hkeep:=B3 (P:=P) (w:=w) (k:=k') hsb hE he0
       obtain⟨e0',he0',hER⟩:=hE.get he0
       obtain⟨w',h4,h5,h6⟩:=jQ (P:=P) (ck2:=ck) (es2':=es'.modify j fun e=>{e with key:=k'}) hh hb hL (by
        rw[Array.toList_modify];exact uU hp hE)
       refine⟨_,_,rfl,rfl,ρ, .tuple #[v',goInt e0.born],w',?_, .tuple _ _ (.cons _ _ _ _ hv (.one (.sc _ rfl))),h5,h6 _ _⟩
       have hborn:((es'[j]?).map (fun x=>(x.born:Int))).getD 0=(e0.born:Int):=by
        rw[Array.getElem?_toList] at he0'
        simp[he0',hER.2.2]
       simp only[Instr.mapEntry,Sem.run_bind,ab hu,Result.andThen_ok,h2,hck,h3,hkeep,h4,hborn,Sem.run_pure]
      ·cases hr
     ·cases hr
    ·rename_i hf
     obtain⟨r',h3,h3'⟩:=eR hp hE hf hkd
     have h3':r'=none:=h3'
     subst h3'
     split at hr
     ·rename_i i hi
      split at hr
      ·rename_i z hz
       split at hr
       ·rename_i hpz
        cases hr
        obtain⟨w',h4,h5,h6⟩:=jQ (P:=P) (ck2:=ck+1) (es2':=es'.push {key:=k',val:=z,born:=ck}) hh hb hL (by
         rw[Array.toList_push];exact hE.append (iA.cons {key:=k',val:=z,born:=ck} _ _ _ ⟨VR.aQ hp,VR.aQ hpz,rfl⟩ .nil))
        refine⟨_,_,rfl,rfl,ρ, .tuple #[z,goInt ck],w',?_, .tuple _ _ (.cons _ _ _ _ (VR.aQ hpz) (.one (.sc _ rfl))),h5,h6 _ _⟩
        simp only[Instr.mapEntry,Sem.run_bind,ab hu,Result.andThen_ok,h2,hck,h3,dt hi hz,h4,Sem.run_pure]
       ·cases hr
      ·cases hr
     ·cases hr
    ·cases hr
  ·cases hr
 ·cases hr
theorem rG{s:Int}: ∀{es es':List MapEntry} {i j:Nat},iA ρ es es'->wA s es i=some j->i<=j/\es'.findIdx? (fun e=>(e.born:Int)==s)=some (j - i)
 |_,_,i,j, .nil,hb=>by simp[wA] at hb
 |_,_,i,j, .cons e e' l l' he hl,hb=>by
  simp only[wA] at hb
  split at hb
  ·rename_i hd
   cases hb
   have:((e'.born:Int)==s)=true:=by rw[he.2.2];simpa using hd
   simp[List.findIdx?_cons,this]
  ·rename_i hd
   obtain⟨h1,h2⟩:=rG hl hb
   have:((e'.born:Int)==s)=false:=by rw[he.2.2];simpa using hd
   refine⟨by omega,?_⟩
   rw[List.findIdx?_cons,this]
   simp only[Bool.false_eq_true,if_false,h2,Option.map_some]
   congr 1
   omega
theorem xm{t:TypeId}{m m' s s' x x':Value}{r:bZ}(hh:aM ρ h.heap.get w)(hm:VR ρ m m')(hs:VR ρ s s')(hx:VR ρ x x')(hr:kX h m s x=some r): ∃h',r= .skip h'/\h'.next=h.next/\sV P ρ h w (Instr.entryStore t m' s' x') h':=by
 unfold kX at hr
 split at hr
 ·rename_i b k s
  split at hr
  ·rename_i es ck hb
   split at hr
   ·rename_i i hi
    cases hr
    cases hs
    cases hm with
    |sc _ hs=>simp[simple] at hs
    |map _ L hL=>
     obtain⟨es',h1,h2,hE⟩:=eT (P:=P) hh hb hL
     obtain⟨_,hfi⟩:=rG hE hi
     obtain⟨w',h4,h5,h6⟩:=jQ (P:=P) (ck2:=ck) (es2':=es'.modify i fun e=>{e with val:=x'}) hh hb hL (by
      rw[Array.toList_modify];exact qt hx hE)
     refine⟨_,rfl,rfl,ρ,w',?_,h5,h6 _ _⟩
     have hfi':es'.findIdx? (fun e=>(e.born:Int)==s)=some i:=by
      obtain⟨l⟩:=es'
      simpa using hfi
     have has:(asInt (.int k s)).run P w= .ok s w:=rfl
     simp only[Instr.entryStore,Sem.run_bind,h2,Result.andThen_ok,has,hfi',h4]
   ·cases hr
  ·cases hr
 ·cases hr
theorem IT{t:TypeId}{x x':Value}{r:bZ}(hh:aM ρ h.heap.get w)(hf:bD ρ h.next (r.next h))(hx:VR ρ x x')(hr:As P h t x=some r): ∃v h',r= .val v h'/\aJ P ρ h w (Instr.range t x') v h':=by
 unfold As at hr
 split at hr
 ·rename_i s hu
  cases hr
  cases hx
  exact⟨_,_,rfl,aJ.new (x:= .stringIter s 0) (δ:=0) (ψ:=0) hh hf (by simp[Instr.range,ab hu]) ⟨rfl,rfl,rfl⟩ (VR.vG _ _ _ rfl)⟩
 ·rename_i k e hu
  cases hr
  cases hx
  exact⟨_,_,rfl,aJ.new (x:= .mapIter none 0 #[] 0) (δ:=0) (ψ:=0) hh hf (by simp[Instr.range,ab hu]) ⟨rfl,rfl,rfl,rfl,rfl⟩ (VR.vG _ _ _ rfl)⟩
 ·rename_i k e b hu
  split at hr
  ·rename_i es ck hb
   cases hr
   cases hx with
   |sc _ hs=>simp[simple] at hs
   |map _ L hL=>
    obtain⟨es',h1,h2,hE⟩:=eT (P:=P) hh hb hL
    have hn:ρ h.next=none:=hf _ (Nat.le_refl _) (Nat.lt_succ_self _)
    exact⟨_,_,rfl,aJ.new (x:= .mapIter (some L.φ) ck #[] ck) (δ:=0) (ψ:=0) hh hf (by simp[Instr.range,ab hu,h2]) ⟨⟨L,aX.iC _ hn _ _ hL,rfl⟩,rfl,rfl,rfl,rfl⟩ (VR.vG _ _ _ rfl)⟩
  ·cases hr
 ·cases hr
theorem jU{n:Nat}: ∀{l:List Nat},lT n l=true↔n∈l
 |[]=>by simp[lT]
 |m::l=>by
  simp only[lT]
  split
  ·rename_i h;have:=Nat.eq_of_beq_eq_true h;simp[this]
  ·rename_i h
   have:n≠m:=by rintro rfl;simp at h
   rw[jU];simp[this]
theorem tg{seen:List Nat}{seen':Array Nat}(hs:seen'.toList=seen.reverse): ∀{es es':List MapEntry},iA ρ es es'->iA ρ (yp seen es) (es'.filter fun e=> !seen'.contains e.born)
 |_,_, .nil=>by simpa[yp] using iA.nil
 |_,_, .cons e e' l l' he hl=>by
  have ih:=tg hs hl
  have hc:seen'.contains e'.born=lT e.born seen:=by
   rw[Bool.eq_iff_iff,jU,Array.contains_iff_mem,←Array.mem_toList_iff,hs,List.mem_reverse,he.2.2]
  simp only[yp]
  split
  ·rename_i h
   rw[List.filter_cons,if_neg (by rw[hc,h];decide)];exact ih
  ·rename_i h
   rw[List.filter_cons,if_pos (by rw[hc,h];rfl)];exact .cons _ _ _ _ he ih
end
section
variable{P:Program}{ρ:aX}{w:World}{h:Hs}
theorem iZ{b:Nat}{L:Loc}{o:aa}(hh:aM ρ h.heap.get w)(hb:h.heap.get b=some o)(hL:ρ b=some L)(hn: ∀k,o≠ .az k):
 ∃x,w.heap[L.φ]? =some x/\OR ρ L o x/\(getObj L.φ).run P w= .ok x w:=by
 obtain⟨L0,x,hL0,hx0,hR⟩:=hh.obj _ _ hb
 rw[hL] at hL0;cases hL0
 refine⟨x,hx0,hR,?_⟩
 cases o<;>cases x<;>simp only[OR] at hR<;>first|exact hR.elim|exact(hn _ rfl).elim|simp only[getObj,Sem.run,hx0]
theorem my{b:Nat}{L:Loc}{o o2:aa}{x x2:Obj}(hh:aM ρ h.heap.get w)(hb:h.heap.get b=some o)(ho:o.owned=true)(hL:ρ b=some L)(hx:w.heap[L.φ]? =some x)(hc: ∀c e f,x≠ .cells c e f)(hR:OR ρ L o2 x2):
 ∃w',(setObj L.φ x2).run P w= .ok () w'/\aM ρ (h.heap.set b o2).get w'/\ ∀lo hi,Step ρ h.heap.get w ρ (h.heap.set b o2).get w' lo hi:=by
 obtain⟨w',hr,hu⟩:=pC (P:=P) (o:=x2) hx hc
 exact⟨w',hr,hh.pg hb ho hL hu hR (fun j=>T.aH _ _ _ _),fun lo hi=>Step.pg hb ho hL hu (fun j=>T.aH _ _ _ _) lo hi⟩
theorem VR.QZ{b:Nat}{x:Value}(hx:VR ρ (.pointer (some ⟨b,0,none⟩)) x): ∃L,ρ b=some L/\x= .pointer (some ⟨L.φ,L.δ+0,none⟩):=by
 cases hx with
 |sc _ hs=>simp[AV.simple] at hs
 |ptr _ _ L hL=>exact⟨L,hL,rfl⟩
theorem M4{t:TypeId}{x x':Value}{st:Bool}{r:bZ}(hh:aM ρ h.heap.get w)(hx:VR ρ x x')(hr:FT h x st=some r): ∃v h',r= .val v h'/\h'.next=h.next/\aJ P ρ h w (Instr.next x' st t) v h':=by
 unfold FT at hr
 split at hr
 ·rename_i b
  obtain⟨L,hL,rfl⟩:=hx.QZ
  split at hr
  ·
   rename_i s pos hb
   obtain⟨y,hy,hR,hg⟩:=iZ (P:=P) hh hb hL (fun k h=>by cases h)
   cases y<;>simp only[OR] at hR<;>first|exact hR.elim|skip
   obtain⟨rfl,rfl,hδ⟩:=hR
   rename_i s pos
   rw[hδ]
   split at hr
   ·rename_i hlt
    have hlt':pos<s.size:=by simpa[Nat.blt_eq] using hlt
    split at hr
    rename_i c wd hdec
    cases hr
    obtain⟨w',h1,h2,h3⟩:=my (P:=P) (o2:= .qp s (pos+wd)) (x2:= .stringIter s (pos+wd)) hh hb rfl hL hy (fun _ _ _ h=>by cases h) ⟨rfl,rfl,hδ⟩
    refine⟨_,_,rfl,rfl,ρ, .tuple #[.bool true,goInt pos, .int .i32 c],w',?_, .tuple _ _ (.cons _ _ _ _ (.sc _ rfl) (.cons _ _ _ _ (.sc _ rfl) (.one (.sc _ rfl)))),h2,h3 _ _⟩
    simp only[Instr.next,Nat.add_zero,Sem.run_bind,hg,Result.andThen_ok,if_pos hlt',hdec,h1,Sem.run_pure]
   ·rename_i hlt
    have hlt': ¬pos<s.size:=fun hc=>by rw[show pos.blt s.size=true by rw[Nat.blt_eq];exact hc] at hlt;cases hlt
    cases hr
    refine⟨_,_,rfl,rfl,aJ.pure hh (v':= .tuple #[.bool false]) ?_ (.tuple _ _ (.one (.sc _ rfl)))⟩
    simp only[Instr.next,Nat.add_zero,Sem.run_bind,hg,Result.andThen_ok,if_neg hlt',Sem.run_pure]
  ·
   rename_i since seen last hb
   obtain⟨y,hy,hR,hg⟩:=iZ (P:=P) hh hb hL (fun k h=>by cases h)
   cases y<;>simp only[OR] at hR<;>first|exact hR.elim|skip
   obtain⟨rfl,rfl,hs,rfl,hδ⟩:=hR
   cases hr
   rw[hδ]
   refine⟨_,_,rfl,rfl,aJ.pure hh (v':= .tuple #[.bool false]) ?_ (.tuple _ _ (.one (.sc _ rfl)))⟩
   simp only[Instr.next,Nat.add_zero,Sem.run_bind,hg,Result.andThen_ok,Sem.run_pure]
  ·
   rename_i m since seen last hb
   obtain⟨y,hy,hR,hg⟩:=iZ (P:=P) hh hb hL (fun k h=>by cases h)
   cases y<;>simp only[OR] at hR<;>first|exact hR.elim|skip
   rename_i m' since' seen' last'
   obtain⟨⟨Lm,hLm,rfl⟩,rfl,hs,rfl,hδ⟩:=hR
   rw[hδ]
   split at hr
   ·rename_i es ck hm
    obtain⟨es',h1,h2,hE⟩:=eT (P:=P) hh hm hLm
    have hleft:=tg hs hE
    have hfil:(es'.filter fun e=> !seen'.contains e.born).toList=es'.toList.filter fun e=> !seen'.contains e.born:=by simp
    split at hr
    ·
     rename_i hl
     rw[hl] at hleft
     have hnil:(es'.filter fun e=> !seen'.contains e.born)= #[]:=by
      apply Array.ext'
      rw[hfil]
      generalize (es'.toList.filter fun e=> !seen'.contains e.born)=l at hleft
      cases hleft;rfl
     have hgo:r= .val (.tuple #[.bool false]) h/\(!seen'.isEmpty && !es'.isEmpty && es'.all fun x=>decide (x.born>=last'))=false:=by
      split at hr
      ·cases hr
       have:seen'= #[]:=by apply Array.ext';rw[hs];rfl
       exact⟨rfl,by simp[this]⟩
      ·split at hr
       ·rename_i e l hlt
        cases hr
        cases hE':es'.toList with
        |nil=>rw[hE'] at hE;cases hE
        |cons e' l'=>
         rw[hE'] at hE
         cases hE with
         |cons _ _ _ _ he _=>
          have hb1:e'.born<last':=by rw[he.2.2];rw[Nat.blt_eq] at hlt;exact hlt
          have hall:(es'.all fun x=>decide (x.born>=last'))=false:=by
           rw[←Array.all_toList,hE',List.all_cons]
           simp;omega
          exact⟨rfl,by rw[hall];simp⟩
       ·cases hr
      ·cases hr
       have:es'= #[]:=by apply Array.ext';cases hE':es'.toList with|nil=>rfl|cons _ _=>(rw[hE'] at hE;cases hE)
       exact⟨rfl,by simp[this]⟩
     obtain⟨rfl,hg2⟩:=hgo
     refine⟨_,_,rfl,rfl,aJ.pure hh (v':= .tuple #[.bool false]) ?_ (.tuple _ _ (.one (.sc _ rfl)))⟩
     simp only[Instr.next,Nat.add_zero,Sem.run_bind,hg,Result.andThen_ok,h2,hg2,Bool.false_eq_true,if_false,hnil]
     simp[choose,Sem.run,Question.forced]
    ·
     rename_i e hl
     rw[hl] at hleft
     split at hr
     ·rename_i hlt
      cases hr
      have hone: ∃e',(es'.filter fun e=> !seen'.contains e.born)= #[e']/\ER ρ e e':=by
       have: ∃e',(es'.filter fun e=> !seen'.contains e.born).toList=[e']/\ER ρ e e':=by
        rw[hfil]
        generalize (es'.toList.filter fun e=> !seen'.contains e.born)=l at hleft
        cases hleft with
        |cons _ e' _ l he hl=>cases hl;exact⟨e',rfl,he⟩
       obtain⟨e',h3,h4⟩:=this
       exact⟨e',Array.ext' (by rw[h3]),h4⟩
      obtain⟨e',ho,he⟩:=hone
      have hseen:seen'= #[]:=by apply Array.ext';rw[hs];rfl
      subst hseen
      have hb1:e'.born<since':=by rw[he.2.2];rw[Nat.blt_eq] at hlt;exact hlt
      obtain⟨w',h4,h5,h6⟩:=my (P:=P) (o2:= .dK (some m) since' [e.born] ck) (x2:= .mapIter (some Lm.φ) since' #[e'.born] ck) hh hb rfl hL hy (fun _ _ _ h=>by cases h) ⟨⟨Lm,hLm,rfl⟩,rfl,by simp[he.2.2],rfl,hδ⟩
      refine⟨_,_,rfl,rfl,ρ, .tuple #[.bool true,e'.key,e'.val],w',?_, .tuple _ _ (.cons _ _ _ _ (.sc _ rfl) (.cons _ _ _ _ he.1 (.one he.2.1))),h5,h6 _ _⟩
      have hf1:(#[e']:Array MapEntry).filter (fun x=>decide (x.born<since'))= #[e']:=by simp[hb1]
      have hf2:(#[e']:Array MapEntry).filter (fun x=>decide (x.born>=since'))= #[]:=by simp;omega
      simp only[Instr.next,Nat.add_zero,Sem.run_bind,hg,Result.andThen_ok,h2,Array.isEmpty_empty,Bool.not_true,Bool.false_and,Bool.false_eq_true,if_false,ho,hf1,hf2]
      simp[choose,Sem.run,Question.forced,h4]
     ·cases hr
    ·cases hr
   ·cases hr
  ·cases hr
 ·cases hr
theorem nV{st:Nat}: ∀{es es':List MapEntry} {e:MapEntry},iA ρ es es'->fM st es=some e-> ∃e',es'.find? (·.born==st)=some e'/\ER ρ e e'
 |_,_,e, .nil,hb=>by simp[fM] at hb
 |_,_,e, .cons a a' l l' ha hl,hb=>by
  simp only[fM] at hb
  split at hb
  ·rename_i hd
   cases hb
   have:(a'.born==st)=true:=by rw[ha.2.2,Nat.eq_of_beq_eq_true hd];simp
   exact⟨a',by rw[List.find?_cons,this],ha⟩
  ·rename_i hd
   obtain⟨e',h1,h2⟩:=nV hl hb
   have:(a'.born==st)=false:=by rw[ha.2.2];have:=Nat.ne_of_beq_eq_false hd;simpa using this
   exact⟨e',by rw[List.find?_cons,this];exact h1,h2⟩
theorem Kh{x x':Value}{r:bZ}(hh:aM ρ h.heap.get w)(hx:VR ρ x x')(hr:wI h x=some r): ∃v,r= .val v h/\aJ P ρ h w (Instr.entry x') v h:=by
 unfold wI at hr
 split at hr
 ·rename_i b
  obtain⟨L,hL,rfl⟩:=hx.QZ
  split at hr
  ·rename_i m since st seen stepped hb
   obtain⟨y,hy,hR,hg⟩:=iZ (P:=P) hh hb hL (fun k h=>by cases h)
   cases y<;>simp only[OR] at hR<;>first|exact hR.elim|skip
   rename_i m' since' seen' last'
   obtain⟨⟨Lm,hLm,rfl⟩,rfl,hs,rfl,hδ⟩:=hR
   rw[hδ]
   split at hr
   ·rename_i es ck hm
    obtain⟨es',h1,h2,hE⟩:=eT (P:=P) hh hm hLm
    split at hr
    ·rename_i e hck hfb
     cases hr
     obtain⟨e',h3,h4⟩:=nV hE hfb
     have hck':=Nat.eq_of_beq_eq_true hck
     have hback:seen'.back? =some st:=by
      have:seen'.toList.getLast? =some st:=by rw[hs];simp
      simpa using this
     have hfind:es'.find? (·.born==st)=some e':=by
      obtain⟨l⟩:=es'
      simpa using h3
     refine⟨_,rfl,aJ.pure hh (v':= .tuple #[e'.key,e'.val]) ?_ (.tuple _ _ (.cons _ _ _ _ h4.1 (.one h4.2.1)))⟩
     have hne:(ck !=last')=false:=by simp[hck']
     simp only[Instr.entry,Nat.add_zero,Sem.run_bind,hg,Result.andThen_ok,hback,h2,hne,Bool.false_eq_true,if_false,hfind,Sem.run_pure]
    ·cases hr
   ·cases hr
  ·cases hr
 ·cases hr
theorem G4{ats:List TypeId}{m m' k k':Value}{ty:TypeId}{r:bZ}(hm:VR ρ m m')(hk:VR ρ k k')(hh:aM ρ h.heap.get w)(hr:cw P h .delete ats [m,k]=some r):
 ∃v h',r= .val v h'/\h'.next=h.next/\aJ P ρ h w (Builtin.delete_ ⟨ats⟩ ty #[m',k']) v h':=by
 simp only[cw] at hr
 split at hr
 ·rename_i t _
  split at hr
  ·rename_i kt e hu
   split at hr
   ·rename_i hak
    cases hr
    obtain⟨rfl,hp,hck⟩:=kv hk hak
    cases hm
    refine⟨_,_,rfl,rfl,aJ.pure hh (v':= .tuple #[]) ?_ (.tuple _ _ .nil)⟩
    simp[Builtin.delete_,ab hu,hck]
   ·cases hr
  ·rename_i kt e b hu0
   have hu:=hu0
   split at hr
   ·rename_i es ck hak hb
    obtain⟨rfl,hp,hck⟩:=kv hk hak
    obtain⟨kd,hkd⟩:=mR hck
    cases hm with
    |sc _ hs=>simp[simple] at hs
    |map _ L hL=>
     obtain⟨es',h1,h2,hE⟩:=eT (P:=P) hh hb hL
     split at hr
     ·rename_i j v hf
      cases hr
      obtain⟨r',h3,v',rfl,hv⟩:=eR hp hE hf hkd
      obtain⟨w',h4,h5,h6⟩:=jQ (P:=P) (ck2:=ck) (es2':=es'.eraseIdxIfInBounds j) hh hb hL (by
       rw[Array.toList_eraseIdxIfInBounds];exact rf hE)
      refine⟨_,_,rfl,rfl,ρ, .tuple #[],w',?_, .tuple _ _ .nil,h5,h6 _ _⟩
      simp[Builtin.delete_,ab hu,h2,hck,h3,h4]
     ·rename_i hf
      cases hr
      obtain⟨r',h3,h3'⟩:=eR hp hE hf hkd
      have h3':r'=none:=h3'
      subst h3'
      obtain⟨w',h4,hu⟩:=pC (P:=P) (o:= .map es' ck) h1 (fun _ _ _ h=>by cases h)
      have hsame: ∀j,h.heap.get j=if j=b then some (aa.map es ck) else h.heap.get j:=fun j=>by
       split
       ·rename_i he;subst he;exact hb
       ·rfl
      have hup:=hh.pg (H':=h.heap.get) hb rfl hL hu (show OR ρ L (.map es ck) (.map es' ck) from⟨hE,rfl⟩) hsame
      have hst:=fun lo hi=>Step.pg (lo:=lo) (hi:=hi) (H':=h.heap.get) hb (o:= .map es ck) (o':= .map es ck) rfl hL hu hsame
      refine⟨_,_,rfl,rfl,ρ, .tuple #[],w',?_, .tuple _ _ .nil,hup,hst _ _⟩
      simp[Builtin.delete_,ab hu0,h2,hck,h3,h4]
     ·cases hr
   ·cases hr
  ·cases hr
 ·cases hr
end
section
variable{P:Program}{ρ:aX}{w:World}{h:Hs}
theorem fF.HO{s:Sem Value}{r:bZ}(hv: ∃v h',r= .val v h'/\aJ P ρ h w s v h'):fF P ρ h w (do pure (.value (←s))) r:=by
 obtain⟨v,h',rfl,hv⟩:=hv
 exact fF.vB hv
theorem fF.sr{s:Sem Value}{r:bZ}(hv: ∃v,r= .val v h/\aJ P ρ h w s v h):fF P ρ h w (do pure (.value (←s))) r:=by
 obtain⟨v,rfl,hv⟩:=hv
 exact fF.vB hv
theorem fF.I6{s:Sem Value}{r:bZ}(hv: ∃v h',r= .val v h'/\h'.next=h.next/\aJ P ρ h w s v h'):fF P ρ h w (do pure (.value (←s))) r:=by
 obtain⟨v,h',rfl,_,hv⟩:=hv
 exact fF.vB hv
theorem fF.ofU{s:Sem Unit}{r:bZ}(hv: ∃h',r= .skip h'/\sV P ρ h w s h'):fF P ρ h w (do s;pure .skip) r:=by
 obtain⟨h',rfl,hv⟩:=hv
 exact fF.I7 hv
theorem fF.US{s:Sem Unit}{r:bZ}(hv: ∃h',r= .skip h'/\h'.next=h.next/\sV P ρ h w s h'):fF P ρ h w (do s;pure .skip) r:=by
 obtain⟨h',rfl,_,hv⟩:=hv
 exact fF.I7 hv
theorem Ec{b:Builtin}{ats:List TypeId}{l l':List Value}{ty:TypeId}{consts:Array Bool}{r:bZ}(hl:cU ρ l l')(hh:aM ρ h.heap.get w)(hf:bD ρ h.next (r.next h))(hr:cw P h b ats l=some r):
 fF P ρ h w (builtin b ⟨ats⟩ ty consts ⟨l'⟩) r:=by
 cases b with
 |min=>exact .HO (xP (ats:=⟨ats⟩) (ty:=ty) hl hh (.inl ⟨rfl,hr⟩))
 |max=>exact .HO (xP (ats:=⟨ats⟩) (ty:=ty) hl hh (.inr ⟨rfl,hr⟩))
 |_=>
  cases hl with
  |nil=>simp[cw] at hr
  |cons x x' t t' hx ht=>
   cases ht with
   |nil=>
    first
     |(simp only[cw,reduceCtorEq] at hr;done)
     |exact .HO (JL hx hh hr)
     |exact .HO (Kt hx hh hr)
     |exact .HO (wq hx hh hr)
     |exact .sr (JL hx hh hr)
     |exact .sr (Kt hx hh hr)
     |exact .sr (wq hx hh hr)
     |exact .I6 (wq hx hh hr)
   |cons y y' u u' hy hu=>
    cases hu with
    |nil=>
     first
      |(simp only[cw,reduceCtorEq] at hr;done)
      |exact .HO (Hj hx hy hh hf hr)
      |exact .HO (FA hx hy hh hr)
      |exact .I6 (FA hx hy hh hr)
      |exact .I6 (G4 hx hy hh hr)
    |cons _ _ _ _ _ _=>simp[cw] at hr
theorem uw{tm:Tm}{n:Nat}{a:Act}(ht:TR ρ tm n a.tmps){xs:Array Operand}{vs:List Value}(hv:AJ tm xs.toList=some vs): ∃vs',xs.map a.eval=⟨vs'⟩/\cU ρ vs vs':=by
 refine⟨(xs.map a.eval).toList,rfl,?_⟩
 rw[Array.toList_map]
 exact yA ht hv
theorem Ol{tm:Tm}{n:Nat}{a:Act}(ht:TR ρ tm n a.tmps){c:Call}{ty:TypeId}{r:bZ}(hh:aM ρ h.heap.get w)(hf:bD ρ h.next (r.next h))(hr:oc P tm h c=some r):
 fF P ρ h w (do let d←resolve a.eval c ty;invoke d.target d.args) r:=by
 unfold oc at hr
 split at hr
 ·rename_i args hargs
  obtain⟨args',hargs',hR⟩:=uw ht hargs
  split at hr
  ·rename_i b hcal
   have hb:=fun consts=>Ec (ty:=ty) (consts:=consts) hR hh hf hr
   simp only[resolve,hcal,hargs',pure_bind,invoke]
   exact hb _
  ·rename_i f hcal
   split at hr
   ·rename_i f0 first captured hev
    have hfv:=aL ht hev
    cases hfv':a.eval f with
    |func g fi ca=>
     rw[hfv'] at hfv
     cases hfv with
     |sc _ hs=>simp[AV.simple] at hs
     |fn _ _ fi' _ ca' h1 h2=>
      have hall:=(h1.append hR).append h2
      have hres:(do let d←resolve a.eval c ty;invoke d.target d.args)=callFunc f0 ⟨(fi'++args')++ca'⟩:=by
       simp[resolve,hcal,hfv',Deferred.ofValue,invoke,hargs']
      rw[hres]
      split at hr
      ·rename_i fn hfn
       split at hr
       ·rename_i body hbody
        split at hr
        ·cases hr
        ·rename_i hname
         cases hr
         have hname': ¬fn.name= "runtime.NumGoroutine" :=by simpa using hname
         refine⟨_,?_,hall⟩
         simp[callFunc,hfn,hname',hbody]
       ·rename_i hbody
        exact GY hfn hbody hall hh hf hr
      ·cases hr
    |_=>rw[hfv'] at hfv;cases hfv
   ·rename_i l first cap hev
    cases hr
    have hfv:=aL ht hev
    generalize hfv':a.eval f=fv at hfv
    cases hfv with
    |sc _ hs=>simp[AV.simple] at hs
    |yield _ L _ fi' hL h1=>
     refine⟨L,_,hL,?_,h1.append hR⟩
     simp[resolve,hcal,hfv',Deferred.ofValue,invoke,hargs']
   ·cases hr
  ·cases hr
 ·cases hr
theorem Kk{tm:Tm}{n:Nat}{a:Act}(ht:TR ρ tm n a.tmps){c:Call}{ty:TypeId}{r:bZ}(hr:sM tm c=some r):
 fF P ρ h w (do pure (.defer (←resolve a.eval c ty))) r:=by
 unfold sM at hr
 split at hr
 ·rename_i args hargs
  obtain⟨args',hargs',hR⟩:=uw ht hargs
  split at hr
  ·rename_i f hcal
   split at hr
   ·rename_i f0 first captured hev
    cases hr
    have hfv:=aL ht hev
    generalize hfv':a.eval f=fv at hfv
    cases hfv with
    |sc _ hs=>simp[AV.simple] at hs
    |fn _ _ fi' _ ca' h1 h2=>
     refine⟨_,?_,_,_,rfl,h1.append hR,h2⟩
     simp[resolve,hcal,hfv',Deferred.ofValue,hargs']
   ·cases hr
  ·cases hr
 ·cases hr
theorem cT{f:Value->Option bZ}{a:Option Value}{r:bZ}(hr:iG f a=some r): ∃v,a=some v/\f v=some r:=by
 unfold iG at hr
 split at hr
 ·exact⟨_,rfl,hr⟩
 ·cases hr
theorem iF{f:Value->Value->Option bZ}{a b:Option Value}{r:bZ}(hr:kE f a b=some r): ∃v u,a=some v/\b=some u/\f v u=some r:=by
 unfold kE at hr
 split at hr
 ·exact⟨_,_,rfl,rfl,hr⟩
 ·cases hr
theorem sq{f:Value->Value->Value->Option bZ}{a b c:Option Value}{r:bZ}(hr:Dq f a b c=some r): ∃v u x,a=some v/\b=some u/\c=some x/\f v u x=some r:=by
 unfold Dq at hr
 split at hr
 ·exact⟨_,_,_,rfl,rfl,rfl,hr⟩
 ·cases hr
theorem jV{tm:Tm}{n:Nat}{a:Act}(ht:TR ρ tm n a.tmps){o:Oper}{r:bZ}(hh:aM ρ h.heap.get w)(hf:bD ρ h.next (r.next h))(hr:ep P tm h o=some r):
 fF P ρ h w (execOp a.eval o) r:=by
 unfold ep at hr
 unfold execOp
 cases ho:o.op with
 |move x=>
  rw[ho] at hr
  obtain⟨v,h1,h2⟩:=cT hr
  cases h2
  exact⟨ρ,_,w,rfl,aL ht h1,hh,Step.refl _ _ _ _ _⟩
 |assign x=>
  rw[ho] at hr
  obtain⟨v,h1,h2⟩:=cT hr
  cases h2
  exact⟨ρ,_,w,rfl,aL ht h1,hh,Step.refl _ _ _ _ _⟩
 |pick c x y=>
  rw[ho] at hr
  dsimp only at hr ⊢
  split at hr
  ·rename_i hc
   have hcv:=aL ht hc
   generalize hce:a.eval c=cv at hcv
   cases hcv
   obtain⟨v,h1,h2⟩:=cT hr
   cases h2
   exact⟨ρ,_,w,by simp[asBool],aL ht h1,hh,Step.refl _ _ _ _ _⟩
  ·rename_i hc
   have hcv:=aL ht hc
   generalize hce:a.eval c=cv at hcv
   cases hcv
   obtain⟨v,h1,h2⟩:=cT hr
   cases h2
   exact⟨ρ,_,w,by simp[asBool],aL ht h1,hh,Step.refl _ _ _ _ _⟩
  ·cases hr
 |alloc e=>
  rw[ho] at hr
  dsimp only at hr
  split at hr
  ·rename_i i hi
   split at hr
   ·rename_i z hz
    split at hr
    ·rename_i hp
     cases hr
     exact .vB (Lf hh hf hi hz hp)
    ·cases hr
   ·cases hr
  ·cases hr
 |box e x=>
  rw[ho] at hr
  obtain⟨v,h1,h2⟩:=cT hr
  cases h2
  exact .vB (Sy hh hf (aL ht h1))
 |build t parts=>rw[ho] at hr;exact .sr (K1 ht hh hr)
 |buildSlice t len parts=>rw[ho] at hr;exact .HO (xp ht hh hf hr)
 |load t x=>
  rw[ho] at hr
  obtain⟨v,h1,h2⟩:=cT hr
  exact .sr (NO hh (aL ht h1) h2)
 |store t x y=>
  rw[ho] at hr
  obtain⟨v,u,h1,h2,h3⟩:=iF hr
  exact .US (Is hh (aL ht h1) (aL ht h2) h3)
 |nilCheck x=>
  rw[ho] at hr
  obtain⟨v,h1,h2⟩:=cT hr
  obtain⟨u,rfl,h4,h5⟩:=Bp (aL ht h1) h2
  refine⟨ρ,a.eval x,w,?_,h4,hh,Step.refl _ _ _ _ _⟩
  rcases h5 with ⟨b,h5⟩|⟨f,b,c,h5⟩|⟨f,b,c,h5⟩<;>simp[h5]
 |binOp op xt x y yt=>
  rw[ho] at hr
  obtain⟨v,u,h1,h2,h3⟩:=iF hr
  split at h3
  ·rename_i v hv
   cases h3
   exact .vB (K7 hh (aL ht h1) (aL ht h2) hv)
  ·cases h3
 |unOp op xt x=>
  rw[ho] at hr
  obtain⟨v,h1,h2⟩:=cT hr
  exact .sr (Iq hh (aL ht h1) h2)
 |convert s d x=>
  rw[ho] at hr
  obtain⟨v,h1,h2⟩:=cT hr
  exact .HO (D2 (aL ht h1) hh hf h2)
 |makeFunc fn first captured=>
  rw[ho] at hr
  dsimp only at hr
  split at hr
  ·split at hr
   ·rename_i f c h1 h2
    cases hr
    obtain⟨f',e1,r1⟩:=uw ht h1
    obtain⟨c',e2,r2⟩:=uw ht h2
    exact⟨ρ, .func (.func _) ⟨f'⟩ ⟨c'⟩,w,by simp[Instr.makeFunc,e1,e2], .fn _ _ _ _ _ r1 r2,hh,Step.refl _ _ _ _ _⟩
   ·cases hr
  ·cases hr
 |makeMap t r=>
  rw[ho] at hr
  dsimp only at hr
  split at hr
  ·cases hr
   refine .vB (aJ.new (δ:=0) (ψ:=0) (x:= .map #[] 0) (v':= .map (some w.heap.size)) hh hf ?_ ⟨.nil,rfl⟩ (.map _ _ (aX.cJ _ _ _)))
   simp[Instr.makeMap]
  ·cases hr
 |makeSlice t l c=>
  rw[ho] at hr
  obtain⟨v,u,h1,h2,h3⟩:=iF hr
  exact .HO (zI hh (aL ht h1) (aL ht h2) hf h3)
 |slice t x lo hi mx=>
  rw[ho] at hr
  obtain⟨v,h1,h2⟩:=cT hr
  exact .HO (Ix ht (aL ht h1) hh hf h2)
 |fieldAddr s x f=>
  rw[ho] at hr
  obtain⟨v,h1,h2⟩:=cT hr
  exact .sr (zX hh (aL ht h1) h2)
 |field t x f=>
  rw[ho] at hr
  obtain⟨v,h1,h2⟩:=cT hr
  exact .sr (J5 hh (aL ht h1) h2)
 |indexAddr t x i=>
  rw[ho] at hr
  obtain⟨v,u,h1,h2,h3⟩:=iF hr
  exact .sr (zS hh (aL ht h1) (aL ht h2) h3)
 |index t x i=>
  rw[ho] at hr
  obtain⟨v,u,h1,h2,h3⟩:=iF hr
  exact .sr (JT hh (aL ht h1) (aL ht h2) h3)
 |lookup t m k ok=>
  rw[ho] at hr
  obtain⟨v,u,h1,h2,h3⟩:=iF hr
  exact .sr (GI hh (aL ht h1) (aL ht h2) h3)
 |mapUpdate t m k x=>
  rw[ho] at hr
  obtain⟨v,u,y,h1,h2,h3,h4⟩:=sq hr
  exact .ofU (qM hh (aL ht h1) (aL ht h2) (aL ht h3) h4)
 |insert t m k x=>
  rw[ho] at hr
  obtain⟨v,u,y,h1,h2,h3,h4⟩:=sq hr
  exact .ofU (qM hh (aL ht h1) (aL ht h2) (aL ht h3) h4)
 |mapEntry t m k=>
  rw[ho] at hr
  obtain⟨v,u,h1,h2,h3⟩:=iF hr
  exact .I6 (Bz hh (aL ht h1) (aL ht h2) h3)
 |entryStore t m s x=>
  rw[ho] at hr
  obtain⟨v,u,y,h1,h2,h3,h4⟩:=sq hr
  exact .US (xm hh (aL ht h1) (aL ht h2) (aL ht h3) h4)
 |range t x=>
  rw[ho] at hr
  obtain⟨v,h1,h2⟩:=cT hr
  exact .HO (IT hh hf (aL ht h1) h2)
 |next it s=>
  rw[ho] at hr
  obtain⟨v,h1,h2⟩:=cT hr
  exact .I6 (M4 hh (aL ht h1) h2)
 |entry it=>
  rw[ho] at hr
  obtain⟨v,h1,h2⟩:=cT hr
  exact .sr (Kh hh (aL ht h1) h2)
 |extract t i=>
  rw[ho] at hr
  obtain⟨v,h1,h2⟩:=cT hr
  exact .sr (DU hh (aL ht h1) h2)
 |call c=>rw[ho] at hr;exact Ol ht hh hf hr
 |defer c=>rw[ho] at hr;exact Kk ht hr
 |_=>rw[ho] at hr;cases hr
end
structure Mod(h h':Hs):Prop where
 next:h.next<=h'.next
 log: ∃l,h'.log=l++h.log/\(∀b,b∈l->h.heap.get b≠none\/(h.next<=b/\b<h'.next))/\ ∀b,(b<h.next\/h'.next<=b)->b ∉ l->h'.heap.get b=h.heap.get b
theorem Mod.refl(h:Hs):Mod h h:=⟨Nat.le_refl _,[],rfl,fun _ hb=>(by cases hb),fun _ _ _=>rfl⟩
theorem Mod.trans{a b c:Hs}(h:Mod a b)(k:Mod b c):Mod a c:=by
 obtain⟨l,h1,h3,h2⟩:=h.log
 obtain⟨m,k1,k3,k2⟩:=k.log
 have hn:=h.next
 have kn:=k.next
 refine⟨Nat.le_trans h.next k.next,m++l,by rw[k1,h1,List.append_assoc],fun x hx=>?_,fun x hx hm=>?_⟩
 ·have first:x∈l->a.heap.get x≠none\/(a.next<=x/\x<c.next):=fun hl=>by
   rcases h3 x hl with q|q
   ·exact .inl q
   ·exact .inr (by omega)
  rcases List.mem_append.1 hx with hm|hl
  ·rcases k3 x hm with q|q
   ·by_cases hl:x∈l
    ·exact first hl
    ·by_cases hr:a.next<=x/\x<b.next
     ·exact .inr (by omega)
     ·exact .inl (by rw[←h2 x (by omega) hl];exact q)
   ·exact .inr (by omega)
  ·exact first hl
 ·rw[List.mem_append,not_or] at hm
  rw[k2 x (by omega) hm.1,h2 x (by omega) hm.2]
theorem Mod.new(h:Hs)(o:aa):Mod h (cL h o):=
 ⟨Nat.le_succ _,[],rfl,fun _ hb=>(by cases hb),fun b hb _=>by
   simp only[cL,T.aH] at hb ⊢
   rw[if_neg (by omega)]⟩
theorem Mod.set(h:Hs)(b:Nat)(o:aa){o0:aa}(hb:h.heap.get b=some o0):Mod h {h with heap:=h.heap.set b o,log:=b::h.log}:=
 ⟨Nat.le_refl _,[b],rfl,fun i hi=>by rw[List.mem_singleton.1 hi,hb];exact .inl (by simp),fun i _ hi=>by
   simp only[T.aH]
   rw[if_neg (by simpa using hi)]⟩
theorem Mod.UD(h:Hs)(b:Nat)(o:aa){o0:aa}(hb:h.heap.get b=some o0):Mod h {heap:=(h.heap.del b).set h.next o,next:=h.next+1,log:=b::h.log}:=
 ⟨Nat.le_succ _,[b],rfl,fun i hi=>by rw[List.mem_singleton.1 hi,hb];exact .inl (by simp),fun i hb hi=>by
   simp only[T.aH,T.fC] at hb ⊢
   rw[if_neg (by omega),if_neg (by simpa using hi)]⟩
theorem Mod.skip(h:Hs):Mod h {h with next:=h.next+1}:=⟨Nat.le_succ _,[],rfl,fun _ hb=>(by cases hb),fun _ _ _=>rfl⟩
theorem Mod.write{h h':Hs}{b off:Nat}{vs:List Value}(hr:dF h b off vs=some h'):Mod h h':=by
 unfold dF at hr
 repeat' (split at hr)
 all_goals first|(cases hr;exact Mod.set _ _ _ (by assumption))|cases hr
def bZ.hs(h:Hs):bZ->Hs
 | .val _ h'| .skip h'=>h'
 |_=>h
section
variable{P:Program}{h:Hs}{r:bZ}
theorem CA{ats:List TypeId}{s x:Value}(hr:fX P h ats s x=some r):Mod h (r.hs h):=by
 unfold fX at hr
 repeat' (split at hr)
 all_goals first
  |(cases hr;exact Mod.refl _)
  |(cases hr;exact Mod.new _ _)
  |(cases hr;exact Mod.UD _ _ _ (by assumption))
  |(cases hr;exact Mod.write (by assumption))
  |cases hr
theorem Aw{b:Builtin}{ats:List TypeId}{l:List Value}(hr:cw P h b ats l=some r):Mod h (r.hs h):=by
 unfold cw at hr
 split at hr
 ·exact CA hr
 all_goals
  repeat' (split at hr)
  all_goals first
   |(cases hr;exact Mod.refl _)
   |(cases hr;exact Mod.set _ _ _ (by assumption))
   |(cases hr;exact Mod.write (by assumption))
   |cases hr
theorem Av{s d:TypeId}{x:Value}(hr:ob P h s d x=some r):Mod h (r.hs h):=by
 unfold ob at hr
 repeat' (split at hr)
 all_goals first
  |(cases hr;exact Mod.refl _)
  |(cases hr;exact Mod.new _ _)
  |cases hr
theorem Cz{fn:Func}{args:List Value}(hr:rK P h fn args=some r):Mod h (r.hs h):=by
 unfold rK at hr
 repeat' (split at hr)
 all_goals first
  |(cases hr;exact Mod.refl _)
  |(cases hr;exact Mod.new _ _)
  |cases hr
theorem Hm{tm:Tm}{c:Call}(hr:oc P tm h c=some r):Mod h (r.hs h):=by
 unfold oc at hr
 repeat' (split at hr)
 all_goals first
  |exact Aw hr
  |exact Cz hr
  |(cases hr;exact Mod.refl _)
  |cases hr
theorem Au{tm:Tm}{size:Nat}{a:Option Addr}{len cap:Nat}{lo hi mx:Option Operand}(hr:gY h tm size a len cap lo hi mx=some r):Mod h (r.hs h):=by
 unfold gY at hr
 repeat' (split at hr)
 all_goals first
  |(cases hr;exact Mod.refl _)
  |(cases hr;exact Mod.skip _)
  |(cases hr;exact Mod.UD _ _ _ (by assumption))
  |cases hr
theorem Eh{tm:Tm}{xt:TypeId}{x:Value}{lo hi mx:Option Operand}(hr:mP P tm h xt x lo hi mx=some r):Mod h (r.hs h):=by
 unfold mP at hr
 repeat' (split at hr)
 all_goals first
  |exact Au hr
  |(cases hr;exact Mod.refl _)
  |cases hr
theorem kW{tm:Tm}{o:Oper}(hr:ep P tm h o=some r):Mod h (r.hs h):=by
 unfold ep at hr
 split at hr
 all_goals first
  |exact Hm hr
  |(unfold iG at hr;split at hr;· exact Eh hr
    ·cases hr)
  |(unfold iG at hr;split at hr;· exact Av hr
    ·cases hr)
  |skip
 all_goals
  (try unfold iG at hr)
  (try unfold kE at hr)
  (try unfold Dq at hr)
  (try unfold wJ at hr)
  (try unfold jm at hr)
  (try unfold wG at hr)
  (try unfold qa at hr)
  (try unfold oT at hr)
  (try unfold Ap at hr)
  (try unfold iL at hr)
  (try unfold mS at hr)
  (try unfold Ay at hr)
  (try unfold iM at hr)
  (try unfold Ax at hr)
  (try unfold oV at hr)
  (try unfold iK at hr)
  (try unfold oU at hr)
  (try unfold kX at hr)
  (try unfold As at hr)
  (try unfold FT at hr)
  (try unfold wI at hr)
  (try unfold rJ at hr)
  (try unfold sM at hr)
  repeat' (first|split at hr|(dsimp only at hr;split at hr))
  all_goals first
   |(cases hr;exact Mod.refl _)
   |(cases hr;exact Mod.new _ _)
   |(cases hr;exact Mod.set _ _ _ (by assumption))
   |(cases hr;exact Mod.write (by assumption))
   |cases hr
end
end Go.AV
namespace Go
def Code.ue(F:Fence)(n:Nat)(P:Program)(b:Code)(Q:Exit->Act->World->Prop):Nat->Code->Act->World->Prop
 |0,_,_,_=>False
 |m+1,cur,a,w=>cur.wpIn F n P (fun e a' w'=>match e with
   | .goto l=>(match findLabel b l with
     |some rest=>Code.ue F n P b Q m rest a' w'
     |none=>Q (.goto l) a' w')
   |e=>Q e a' w') a w
theorem gW{F:Fence}{n:Nat}{P:Program}{c:Code}{Q:Exit->Act->World->Prop}{a:Act}{w:World}(m:Nat)(h:Code.ue F n P c Q m c a w):
 (Code.scope c).wpIn F n P Q a w:=by
 intro b k cs hro hb hr
 have s1: ∀{a w},step P (lone (b.atR a (.code (.scope c)::k)) cs w)= .next (lone (b.atR a (.code c:: .inScope c::k)) cs w):=step_lone_go (by simp[stepG,stepG.exec,Frame.atR])
 have s2: ∀{a w},step P (lone (b.atR a (.inScope c::k)) cs w)= .next (lone (b.atR a k) cs w):=step_lone_go (by simp[stepG,stepG.exec,Frame.atR])
 have key: ∀m cur a w,Code.ue F n P c Q m cur a w->
  ∃e a' w',Q e a' w'/\ArrivesIn (Machine.fenced P F) P (lone (b.atR a (.code cur:: .inScope c::k)) cs w) b k cs e a' w':=by
  intro m
  induction m with
  |zero=>intro cur a w h;exact h.elim
  |succ m ih=>
   intro cur a w h
   obtain⟨e,a₁,w₁,hq,harr⟩:=h b (.inScope c::k) cs hro hb hr
   cases e with
   |normal=>exact⟨.normal,a₁,w₁,hq,StepsIn.trans harr (.one (fenced_calm hb hr rfl) s2)⟩
   |exit id=>
    have hx:exitTo id (.inScope c::k)=exitTo id k:=by simp[exitTo]
    exact⟨.exit id,a₁,w₁,hq,fun k' hk=>harr.1 k' (by rw[hx];exact hk),fun hr' hk=>harr.2 hr' (by rw[hx];exact hk)⟩
   |goto l=>
    cases hf:findLabel c l with
    |some rest=>
     simp only[hf] at hq
     have hg:gotoIn l (.inScope c::k)=some (.code rest:: .inScope c::k):=by simp[gotoIn,hf]
     obtain⟨e₂,a₂,w₂,hq₂,harr₂⟩:=ih _ _ _ hq
     exact⟨e₂,a₂,w₂,hq₂, .of_steps (harr.1 _ hg) harr₂⟩
    |none=>
     simp only[hf] at hq
     have hg:gotoIn l (.inScope c::k)=gotoIn l k:=by simp[gotoIn,hf]
     exact⟨.goto l,a₁,w₁,hq,fun k' hk=>harr.1 k' (by rw[hg];exact hk),fun hr' hk=>harr.2 hr' (by rw[hg];exact hk)⟩
   |ret=>exact⟨_,a₁,w₁,hq,harr⟩
   |panic ch=>exact⟨_,a₁,w₁,hq,harr⟩
   |outgrown=>exact⟨_,a₁,w₁,hq,harr⟩
 obtain⟨e,a',w',hq,harr⟩:=key m c a w h
 exact⟨e,a',w',hq, .of_steps (.one (fenced_calm hb hr rfl) s1) harr⟩
end Go
namespace Go.AV
inductive C6 (ρ:aX):List pf->List Deferred->Prop where
 |nil:C6 ρ [] []
 |cons (d:pf) (d':Deferred) (l:List pf) (l':List Deferred) (h:DR ρ d d') (k:C6 ρ l l'):C6 ρ (d::l) (d'::l')
theorem DR.mono{ρ ρ':aX}(hl:ρ.le ρ'){d:pf}{d':Deferred}(h:DR ρ d d'):DR ρ' d d':=by
 cases d with
 |call f args captured=>obtain⟨a,c,h1,h2,h3⟩:=h;exact⟨a,c,h1,h2.mono hl,h3.mono hl⟩
 |mark r=>obtain⟨L,h1,h2⟩:=h;exact⟨L,hl _ _ h1,h2⟩
theorem C6.mono{ρ ρ':aX}(hl:ρ.le ρ'): ∀{l:List pf} {l':List Deferred},C6 ρ l l'->C6 ρ' l l'
 |_,_, .nil=> .nil
 |_,_, .cons _ _ _ _ h k=> .cons _ _ _ _ (h.mono hl) (k.mono hl)
structure eZ(ρ:aX)(fr:Fr)(a:Act):Prop where
 tr:TR ρ fr.tm fr.n a.tmps
 ds:C6 ρ fr.gm a.defers
theorem eZ.mono{ρ ρ':aX}(hl:ρ.le ρ'){fr:Fr}{a:Act}(h:eZ ρ fr a):eZ ρ' fr a:=⟨h.tr.mono hl,h.ds.mono hl⟩
theorem sn(tm:Tm)(d:Nat)(v:Value)(t:Nat):rd (tm.set d v) t=if t=d then v else rd tm t:=by
 unfold rd
 rw[T.aH]
 by_cases ht:t=d
 ·rw[if_pos ht,if_pos ht]
 ·rw[if_neg ht,if_neg ht]
theorem TR.put{ρ:aX}{tm:Tm}{n:Nat}{tmps:Array Value}(h:TR ρ tm n tmps){d:Nat}(hd:d<n){v v':Value}(hv:VR ρ v v'):TR ρ (tm.set d v) n (tmps.setIfInBounds d v'):=by
 refine⟨by rw[Array.size_setIfInBounds];exact h.1,fun t=>?_⟩
 rw[sn]
 by_cases ht:t=d
 ·subst ht
  rw[if_pos rfl]
  have:(tmps.setIfInBounds t v').getD t undef=v':=by simp[Array.getD,h.1,hd]
  rw[this];exact .inr hv
 ·rw[if_neg ht]
  have:(tmps.setIfInBounds d v').getD t undef=tmps.getD t undef:=by
   simp only[Array.getD_eq_getD_getElem?]
   rw[Array.getElem?_setIfInBounds_ne (by omega)]
  rw[this];exact h.2 t
theorem Fr.lx{ρ:aX}{fr fr':Fr}{a:Act}(h:eZ ρ fr a){d:Option Tmp}{v v':Value}(hv:VR ρ v v')(hp:fr.put d v=some fr'):eZ ρ fr' (a.put d v'):=by
 unfold Fr.put at hp
 split at hp
 ·split at hp
  ·rename_i d hd
   cases hp
   exact⟨h.tr.put (by rw[Nat.blt_eq] at hd;exact hd) hv,h.ds⟩
  ·cases hp
 ·cases hp
  exact h
theorem ss{α:Type}: ∀(l:List α)(i:Nat),nth l i=l[i]?
 |[],i=>by simp[nth]
 |a::l,0=>rfl
 |a::l,i+1=>by simp[nth,ss l i]
theorem jW{ρ:aX}{ops:Array Oper}{tm:Tm}{n:Nat}{a:Act}(h:TR ρ tm n a.tmps){o:Oper}{b:Bool}(hw:gn ops tm o=some b):
 Region.wanted o (yielded ops a.tmps)=b:=by
 unfold gn at hw
 unfold Region.wanted
 split at hw
 ·rename_i hg
  cases hw
  simp[hg]
 ·rename_i j want hg
  simp only[hg]
  have hn:nth ops.toList j=ops[j]? :=by rw[ss];simp
  rw[hn] at hw
  unfold yielded
  split at hw
  ·rename_i d hd
   have hd':(ops[j]?).bind (·.dst)=some d:=hd
   rw[hd']
   have hv:=h.2 d
   simp only[Option.bind_some]
   split at hw
   ·rename_i b' hb
    cases hw
    rw[hb] at hv
    replace hv:=hv.vr (fun e=>by cases e)
    generalize hx:a.tmps.getD d undef=x at hv
    cases hv
    have hsome:a.tmps[d]? =some (.bool b'):=by
     rw[Array.getD_eq_getD_getElem?] at hx
     cases he:a.tmps[d]? with
     |none=>rw[he] at hx;simp[undef] at hx
     |some y=>rw[he] at hx;simp at hx;rw[hx]
    rw[hsome]
    cases b'<;>cases want<;>rfl
   ·rename_i b' hb
    cases hw
    rw[hb] at hv
    replace hv:=hv.vr (fun e=>by cases e)
    generalize hx:a.tmps.getD d undef=x at hv
    have hx': ∃l,x= .tuple l:=by
     cases hv with
     |sc _ hs=>simp[AV.simple] at hs
     |tuple _ l _=>exact⟨_,rfl⟩
    obtain⟨l,rfl⟩:=hx'
    rw[Array.getD_eq_getD_getElem?] at hx
    cases he:a.tmps[d]? with
    |none=>simp
    |some y=>rw[he] at hx;simp at hx;subst hx;simp
   ·cases hw
  ·rename_i hd
   cases hw
   have hd':(ops[j]?).bind (·.dst)=none:=hd
   rw[hd']
   simp
def gw:af->Exit
 | .normal=> .normal
 | .exit i=> .exit i
 | .goto l=> .goto l
 | .ret=> .ret
def w7(ρ:aX)(h:Hs)(w:World)(fr':Fr)(h':Hs)(a':Act)(w':World):Prop:=
 ∃ρ',eZ ρ' fr' a'/\aM ρ' h'.heap.get w'/\Step ρ h.heap.get w ρ' h'.heap.get w' h.next h'.next
def oq(ρ:aX)(h:Hs)(w:World)(e:af)(fr':Fr)(h':Hs)(e':Exit)(a':Act)(w':World):Prop:=
 e'=gw e/\w7 ρ h w fr' h' a' w'
def Pb(ρ:aX)(h:Hs)(w:World)(v:Value)(h':Hs)(e:Ending)(w':World):Prop:=
 ∃ρ' v',e= .returned v'/\VR ρ' v v'/\aM ρ' h'.heap.get w'/\Step ρ h.heap.get w ρ' h'.heap.get w' h.next h'.next
def dJ(P:Program)(call:cN):Prop:= ∀f args h v h',call f args h=some (v,h')->Mod h h'/\
 ∀ρ w args' n,cU ρ args args'->aM ρ h.heap.get w->bD ρ h.next h'.next->CallsIn Fence.wide n P f ⟨args'⟩ w (Pb ρ h w v h')
def im(P:Program)(round:cN):Prop:= ∀l args h v h',round l args h=some (v,h')->Mod h h'/\
 ∀ρ w args' n L,ρ l=some L->cU ρ args args'->aM ρ h.heap.get w->bD ρ h.next h'.next->
  ∃f tmps assign body,(Instr.yield L.φ ⟨args'⟩).run P w= .ok (.round L.φ f tmps assign body) w/\RoundIn Fence.wide n P L.φ f tmps assign body w (Pb ρ h w v h')
def cC(ρ:aX):Option Nat->Fence->Prop
 |none,F=>F=Fence.wide
 |some l,F=> ∃L,ρ l=some L/\F=Fence.wide.inRound L.φ
theorem cC.mono{ρ ρ':aX}(hl:ρ.le ρ'){r:Option Nat}{F:Fence}(h:cC ρ r F):cC ρ' r F:=by
 cases r with
 |none=>exact h
 |some l=>obtain⟨L,a,b⟩:=h;exact⟨L,hl _ _ a,b⟩
theorem cC.fn{ρ:aX}{r:Option Nat}{F:Fence}(h:cC ρ r F)(f:FuncId):F.fn f:=by
 cases r with
 |none=>cases h;trivial
 |some l=>obtain⟨L,a,rfl⟩:=h;trivial
theorem cC.depth{ρ:aX}{r:Option Nat}{F:Fence}(h:cC ρ r F):F.depth=none:=by
 cases r with
 |none=>cases h;rfl
 |some l=>obtain⟨L,a,rfl⟩:=h;rfl
theorem cC.calls{ρ:aX}{r:Option Nat}{F:Fence}(h:cC ρ r F){n:Nat}{P:Program}{f:FuncId}{args:Array Value}{w:World}{R:Ending->World->Prop}(hc:CallsIn Fence.wide n P f args w R):CallsIn F n P f args w R:=by
 cases r with
 |none=>cases h;exact hc
 |some l=>obtain⟨L,a,rfl⟩:=h;exact hc
theorem cC.round{ρ:aX}{r:Option Nat}{F:Fence}(h:cC ρ r F){n:Nat}{P:Program}{l:Nat}{f:FuncId}{tmps:Array Value}{assign body:Code}{w:World}{R:Ending->World->Prop}(hc:RoundIn Fence.wide n P l f tmps assign body w R):RoundIn F n P l f tmps assign body w R:=by
 cases r with
 |none=>cases h;exact hc
 |some l=>obtain⟨L,a,rfl⟩:=h;exact hc
def wU(P:Program)(ex:xy):Prop:= ∀rdd c fr h e fr' h',ex rdd c fr h=some (e,fr',h')->Mod h h'/\
 ∀ρ w a n F,cC ρ rdd F->eZ ρ fr a->aM ρ h.heap.get w->bD ρ h.next h'.next->c.wpIn F n P (oq ρ h w e fr' h') a w
theorem bD.sub{ρ:aX}{a b c d:Nat}(h:bD ρ a b)(h1:a<=c)(h2:d<=b):bD ρ c d:=fun x hx hy=>h x (by omega) (by omega)
theorem Step.fresh{ρ ρ':aX}{H H':HF}{w w':World}{lo mid hi:Nat}(h:Step ρ H w ρ' H' w' lo mid)(hf:bD ρ lo hi)(hm:lo<=mid):bD ρ' mid hi:=
 fun b hb hc=>by rw[h.ve b (.inr hb)];exact hf b (by omega) hc
theorem w7.trans{ρ ρ1:aX}{h h1 h2:Hs}{w w1 w2:World}{fr2:Fr}{a2:Act}(hs:Step ρ h.heap.get w ρ1 h1.heap.get w1 h.next h1.next)(h01:h.next<=h1.next)(h12:h1.next<=h2.next)
 (k:w7 ρ1 h1 w1 fr2 h2 a2 w2):w7 ρ h w fr2 h2 a2 w2:=by
 obtain⟨ρ',a,b,c⟩:=k
 exact⟨ρ',a,b,hs.trans c h01 h12⟩
section
variable{P:Program}
theorem Hk{tm:Tm}{h:Hs}{o:Oper}{r:bZ}(hr:ep P tm h o=some r){c:Call}(hc:o.op= .defer c): ∃d,r= .gm d:=by
 unfold ep at hr
 rw[hc] at hr
 dsimp only at hr
 unfold sM at hr
 repeat' (split at hr)
 all_goals first|(cases hr;exact⟨_,rfl⟩)|cases hr
theorem nz{tm:Tm}{h:Hs}{o:Oper}{r:bZ}(hr:ep P tm h o=some r)(hd: ∀d,r≠ .gm d)(ro:Option Nat)(e:Operand->Value):o.semAt ro e=execOp e o:=
 Oper.semAt_eq ro e o fun _ hc=>let ⟨d,h⟩:=Hk hr hc;hd d h
theorem Dr{F:Fence}{ρ:aX}{h:Hs}{w:World}{fr fr1:Fr}{a:Act}{o:Oper}{v:Value}{h1:Hs}(hF: ∀f,F.fn f)(hfr:eZ ρ fr a)(hh:aM ρ h.heap.get w)(hf:bD ρ h.next h1.next)
 (hr:ep P fr.tm h o=some (.val v h1)) (hp:fr.put o.dst v=some fr1) {n:Nat} {K:Act->World->Prop} {Q:Exit->Act->World->Prop} (hK: ∀a' w',w7 ρ h w fr1 h1 a' w'->K a' w'):o.wpIn F n P a w K Q:=by
 obtain⟨ρ',v',w',e1,e2,e3,e4⟩:=jV (r:= .val v h1) hfr.tr hh hf hr
 refine⟨fun f _=>hF f,?_⟩
 rw[nz hr (fun _ h=>by cases h),e1]
 exact hK _ _ ⟨ρ',Fr.lx (hfr.mono e4.ext) e2 hp,e3,e4⟩
theorem zB{F:Fence}{ρ:aX}{h:Hs}{w:World}{fr fr1:Fr}{a:Act}{o:Oper}{h1:Hs}(hF: ∀f,F.fn f)(hfr:eZ ρ fr a)(hh:aM ρ h.heap.get w)(hf:bD ρ h.next h1.next)
 (hr:ep P fr.tm h o=some (.skip h1)) (hp:fr.put o.dst undef=some fr1) {n:Nat} {K:Act->World->Prop} {Q:Exit->Act->World->Prop} (hK: ∀a' w',w7 ρ h w fr1 h1 a' w'->K a' w'):o.wpIn F n P a w K Q:=by
 obtain⟨ρ',w',e1,e3,e4⟩:=jV (r:= .skip h1) hfr.tr hh hf hr
 refine⟨fun f _=>hF f,?_⟩
 rw[nz hr (fun _ h=>by cases h),e1]
 exact hK _ _ ⟨ρ',Fr.lx (hfr.mono e4.ext) .undef hp,e3,e4⟩
theorem E5{call:cN}(hc:dJ P call){F:Fence}{rdd:Option Nat}{ρ:aX}{h:Hs}{w:World}{fr fr1:Fr}{a:Act}{o:Oper}{v:Value}{f:Nat}{args:List Value}{h1:Hs}(hF:cC ρ rdd F)(hfr:eZ ρ fr a)
 (hh:aM ρ h.heap.get w) (hf:bD ρ h.next h1.next) {g:Hs} (hg:aM ρ g.heap.get w)
 (hr:ep P fr.tm g o=some (.call f args)) (hcall:call f args h=some (v,h1)) (hp:fr.put o.dst v=some fr1) {n:Nat} {K:Act->World->Prop} {Q:Exit->Act->World->Prop} (hK: ∀a' w',w7 ρ h w fr1 h1 a' w'->K a' w'):o.wpIn F n P a w K Q:=by
 obtain⟨args',e1,e2⟩:=jV hfr.tr hg (fun b h1 h2=>absurd h2 (by simp only[bZ.next];omega)) hr
 refine⟨fun f _=>hF.fn f,?_⟩
 rw[nz hr (fun _ h=>by cases h),e1]
 refine⟨fun hd=>absurd hd (by rw[hF.depth];simp),?_⟩
 refine CallsIn.mono (hF.calls ((hc _ _ _ _ _ hcall).2 ρ w args' (n - 1) e2 hh hf)) fun e w' hgot=>?_
 obtain⟨ρ',v',rfl,g1,g2,g3⟩:=hgot
 exact hK _ _ ⟨ρ',Fr.lx (hfr.mono g3.ext) g1 hp,g2,g3⟩
theorem Bl{round:cN}(hc:im P round){F:Fence}{rdd:Option Nat}{ρ:aX}{h:Hs}{w:World}{fr fr1:Fr}{a:Act}{o:Oper}{v:Value}{f:Nat}{args:List Value}{h1:Hs}(hF:cC ρ rdd F)(hfr:eZ ρ fr a)
 (hh:aM ρ h.heap.get w) (hf:bD ρ h.next h1.next) {g:Hs} (hg:aM ρ g.heap.get w)
 (hr:ep P fr.tm g o=some (.round f args)) (hcall:round f args h=some (v,h1)) (hp:fr.put o.dst v=some fr1) {n:Nat} {K:Act->World->Prop} {Q:Exit->Act->World->Prop} (hK: ∀a' w',w7 ρ h w fr1 h1 a' w'->K a' w'):o.wpIn F n P a w K Q:=by
 obtain⟨L,args',hL,e1,e2⟩:=jV hfr.tr hg (fun b h1 h2=>absurd h2 (by simp only[bZ.next];omega)) hr
 obtain⟨f,tmps,assign,body,y1,y2⟩:=(hc _ _ _ _ _ hcall).2 ρ w args' (n - 1) L hL e2 hh hf
 refine⟨fun f _=>hF.fn f,?_⟩
 rw[nz hr (fun _ h=>by cases h),e1,y1]
 refine⟨fun hd=>absurd hd (by rw[hF.depth];simp),?_⟩
 refine RoundIn.mono (hF.round y2) fun e w' hgot=>?_
 obtain⟨ρ',v',rfl,g1,g2,g3⟩:=hgot
 exact hK _ _ ⟨ρ',Fr.lx (hfr.mono g3.ext) g1 hp,g2,g3⟩
theorem Q3{F:Fence}{ρ:aX}{h:Hs}{w:World}{fr fr1:Fr}{a:Act}{o:Oper}{d:pf}(hF: ∀f,F.fn f)(hF0:F.round=none)(hfr:eZ ρ fr a)(hh:aM ρ h.heap.get w)
 (hr:ep P fr.tm h o=some (.gm d)) (hp:({fr with gm:=d::fr.gm}:Fr).put o.dst undef=some fr1) {n:Nat} {K:Act->World->Prop} {Q:Exit->Act->World->Prop} (hK: ∀a' w',w7 ρ h w fr1 h a' w'->K a' w'):o.wpIn F n P a w K Q:=by
 obtain⟨d',e1,e2⟩:=jV hfr.tr hh (fun b h1 h2=>absurd h2 (by simp only[bZ.next];omega)) hr
 refine⟨fun f _=>hF f,?_⟩
 rw[hF0,Oper.semAt_none,e1]
 exact hK _ _ ⟨ρ,Fr.lx (fr:={fr with gm:=d::fr.gm}) (a:={a with defers:=d'::a.defers}) ⟨hfr.tr, .cons _ _ _ _ e2 hfr.ds⟩ .undef hp,hh,Step.refl _ _ _ _ _⟩
theorem E2{call round:cN}(hc:dJ P call)(hr:im P round){rdd:Option Nat}{ops:Array Oper}: ∀(l:List Oper)(fr:Fr)(h:Hs)(fr':Fr)(h':Hs),vA P call round rdd ops l fr h=some (fr',h')->Mod h h'/\
 ∀(ρ:aX)(w:World)(a:Act)(n:Nat)(F:Fence),cC ρ rdd F->eZ ρ fr a->aM ρ h.heap.get w->bD ρ h.next h'.next-> ∀Q:Exit->Act->World->Prop,(∀a' w',w7 ρ h w fr' h' a' w'->Q .normal a' w')->wpListIn F n P ops Q l a w
 |[],fr,h,fr',h',he=>by
  simp only[vA,Option.some.injEq,Prod.mk.injEq] at he
  obtain⟨rfl,rfl⟩:=he
  exact⟨Mod.refl _,fun ρ w a n F hF hfr hh hf Q hQ=>hQ _ _ ⟨ρ,hfr,hh,Step.refl _ _ _ _ _⟩⟩
 |o::l,fr,h,fr',h',he=>by
  have go: ∀(fr1:Fr)(h1:Hs),Mod h h1->vA P call round rdd ops l fr1 h1=some (fr',h')->
   Mod h h'/\h1.next<=h'.next/\ ∀(ρ:aX)(w:World)(n:Nat)(F:Fence),cC ρ rdd F->bD ρ h.next h'.next-> ∀Q:Exit->Act->World->Prop,(∀a' w',w7 ρ h w fr' h' a' w'->Q .normal a' w')->
    ∀a' w',w7 ρ h w fr1 h1 a' w'->wpListIn F n P ops Q l a' w':=by
   intro fr1 h1 hm ho
   obtain⟨m1,k1⟩:=E2 hc hr l fr1 h1 fr' h' ho
   refine⟨hm.trans m1,m1.next,fun ρ w n F hF hf Q hQ a' w' haft=>?_⟩
   obtain⟨ρ',x1,x2,x3⟩:=haft
   exact k1 ρ' w' a' n F (hF.mono x3.ext) x1 x2 (x3.fresh hf hm.next) Q fun a2 w2 k=>hQ _ _ (w7.trans x3 hm.next m1.next k)
  simp only[vA] at he
  split at he
  ·cases he
  ·rename_i hw
   split at he
   ·rename_i fr1 hp
    obtain⟨g1,g2,g3⟩:=go fr1 h (Mod.refl _) he
    refine⟨g1,fun ρ w a n F hF hfr hh hf Q hQ=>?_⟩
    simp only[wpListIn,jW hfr.tr hw,Bool.false_eq_true,if_false]
    exact⟨fun f _=>hF.fn f,g3 ρ w n F hF hf Q hQ _ _ ⟨ρ,Fr.lx hfr .undef hp,hh,Step.refl _ _ _ _ _⟩⟩
   ·cases he
  ·rename_i hw
   have wl: ∀{ρ:aX} {a:Act} {w:World} {n:Nat} {F:Fence} {Q:Exit->Act->World->Prop},eZ ρ fr a->o.wpIn F n P a w (wpListIn F n P ops Q l) Q->wpListIn F n P ops Q (o::l) a w:=by
    intro ρ a w n F Q hfr hwp
    simp only[wpListIn,jW hfr.tr hw,if_true]
    exact hwp
   split at he
   ·cases he
   ·rename_i v h1 ha
    split at he
    ·rename_i fr1 hp
     have hm:=kW ha
     obtain⟨g1,g2,g3⟩:=go fr1 h1 hm he
     exact⟨g1,fun ρ w a n F hF hfr hh hf Q hQ=>wl hfr (Dr hF.fn hfr hh (hf.sub (Nat.le_refl _) g2) ha hp (g3 ρ w n F hF hf Q hQ))⟩
    ·cases he
   ·rename_i h1 ha
    split at he
    ·rename_i fr1 hp
     have hm:=kW ha
     obtain⟨g1,g2,g3⟩:=go fr1 h1 hm he
     exact⟨g1,fun ρ w a n F hF hfr hh hf Q hQ=>wl hfr (zB hF.fn hfr hh (hf.sub (Nat.le_refl _) g2) ha hp (g3 ρ w n F hF hf Q hQ))⟩
    ·cases he
   ·rename_i f args ha
    split at he
    ·rename_i v h1 hcall
     split at he
     ·rename_i fr1 hp
      obtain⟨g1,g2,g3⟩:=go fr1 h1 (hc _ _ _ _ _ hcall).1 he
      exact⟨g1,fun ρ w a n F hF hfr hh hf Q hQ=>wl hfr (E5 hc hF hfr hh (hf.sub (Nat.le_refl _) g2) hh ha hcall hp (g3 ρ w n F hF hf Q hQ))⟩
     ·cases he
    ·cases he
   ·rename_i f args ha
    split at he
    ·rename_i v h1 hcall
     split at he
     ·rename_i fr1 hp
      obtain⟨g1,g2,g3⟩:=go fr1 h1 (hr _ _ _ _ _ hcall).1 he
      exact⟨g1,fun ρ w a n F hF hfr hh hf Q hQ=>wl hfr (Bl hr hF hfr hh (hf.sub (Nat.le_refl _) g2) hh ha hcall hp (g3 ρ w n F hF hf Q hQ))⟩
     ·cases he
    ·cases he
   ·rename_i d ha
    split at he
    ·split at he
     ·rename_i fr1 hp
      obtain⟨g1,g2,g3⟩:=go fr1 h (Mod.refl _) he
      exact⟨g1,fun ρ w a n F hF hfr hh hf Q hQ=>wl hfr (Q3 hF.fn (by cases hF;rfl) hfr hh ha hp (g3 ρ w n F hF hf Q hQ))⟩
     ·cases he
    ·cases he
end
section
variable{P:Program}
def gg(P:Program):Prop:= ∀(call round:cN),dJ P call->im P round-> ∀(rdd:Option Nat)(ops:Array Oper)(ms:List Nat)(fr:Fr)(h:Hs)(fr':Fr)(h':Hs),
 vp ops=some ms->jf P call round ops ops.toList 0 ms [] fr h=some (fr',h')->Mod h h'/\
  ∀(ρ:aX)(w:World)(a:Act)(n:Nat)(F:Fence),cC ρ rdd F->eZ ρ fr a->aM ρ h.heap.get w->bD ρ h.next h'.next-> ∀(Q:Exit->Act->World->Prop)(id:Nat),
   (∀a' w',w7 ρ h w fr' h' a' w'->Q .normal a' w')->(Code.region id ops true).wpIn F n P Q a w
theorem BX{ex:xy}(hex:wU P ex): ∀(m:Nat)(b:Code)(rdd:Option Nat)(fr:Fr)(h:Hs)(e:af)(fr':Fr)(h':Hs),yg ex m b rdd fr h=some (e,fr',h')->Mod h h'/\
 ∀(ρ:aX)(w:World)(a:Act)(n:Nat)(F:Fence),cC ρ rdd F->eZ ρ fr a->aM ρ h.heap.get w->bD ρ h.next h'.next-> ∀Q:Exit->Act->World->Prop,
  (∀e' a' w',oq ρ h w e fr' h' e' a' w'->Q e' a' w')->Code.roundsIn F n P b Q m a w
 |0,b,rdd,fr,h,e,fr',h',he=>by simp[yg] at he
 |m+1,b,rdd,fr,h,e,fr',h',he=>by
  simp only[yg] at he
  split at he
  ·rename_i fr1 h1 hb
   obtain⟨m1,k1⟩:=hex _ _ _ _ _ _ _ hb
   obtain⟨m2,k2⟩:=BX hex m b rdd fr1 h1 e fr' h' he
   refine⟨m1.trans m2,fun ρ w a n F hF hfr hh hf Q hQ=>?_⟩
   rw[roundsIn_succ]
   refine wpIn_mono (k1 ρ w a n F hF hfr hh (hf.sub (Nat.le_refl _) m2.next)) fun e' a' w' hp=>?_
   obtain⟨rfl,ρ1,x1,x2,x3⟩:=hp
   exact k2 ρ1 w' a' n F (hF.mono x3.ext) x1 x2 (x3.fresh hf m1.next) Q fun e2 a2 w2 ⟨y1,y2⟩=>hQ _ _ _ ⟨y1,w7.trans x3 m1.next m2.next y2⟩
  ·rename_i hne
   obtain⟨m1,k1⟩:=hex _ _ _ _ _ _ _ he
   refine⟨m1,fun ρ w a n F hF hfr hh hf Q hQ=>?_⟩
   rw[roundsIn_succ]
   refine wpIn_mono (k1 ρ w a n F hF hfr hh hf) fun e' a' w' hp=>?_
   have hp':=hp
   obtain⟨rfl,-⟩:=hp'
   cases e with
   |normal=>exact(hne _ _ he).elim
   |exit i=>exact hQ _ _ _ hp
   |goto l=>exact hQ _ _ _ hp
   |ret=>exact hQ _ _ _ hp
theorem xD{ex:xy}(hex:wU P ex): ∀(m:Nat)(b cur:Code)(rdd:Option Nat)(fr:Fr)(h:Hs)(e:af)(fr':Fr)(h':Hs),sg ex m b cur rdd fr h=some (e,fr',h')->Mod h h'/\
 ∀(ρ:aX)(w:World)(a:Act)(n:Nat)(F:Fence),cC ρ rdd F->eZ ρ fr a->aM ρ h.heap.get w->bD ρ h.next h'.next-> ∀Q:Exit->Act->World->Prop,
  (∀e' a' w',oq ρ h w e fr' h' e' a' w'->Q e' a' w')->Code.ue F n P b Q m cur a w
 |0,b,cur,rdd,fr,h,e,fr',h',he=>by simp[sg] at he
 |m+1,b,cur,rdd,fr,h,e,fr',h',he=>by
  simp only[sg] at he
  split at he
  ·rename_i l fr1 h1 hb
   obtain⟨m1,k1⟩:=hex _ _ _ _ _ _ _ hb
   split at he
   ·rename_i rest hl
    obtain⟨m2,k2⟩:=xD hex m b rest rdd fr1 h1 e fr' h' he
    refine⟨m1.trans m2,fun ρ w a n F hF hfr hh hf Q hQ=>?_⟩
    refine wpIn_mono (k1 ρ w a n F hF hfr hh (hf.sub (Nat.le_refl _) m2.next)) fun e' a' w' hp=>?_
    obtain⟨rfl,ρ1,x1,x2,x3⟩:=hp
    simp only[gw,hl]
    exact k2 ρ1 w' a' n F (hF.mono x3.ext) x1 x2 (x3.fresh hf m1.next) Q fun e2 a2 w2 ⟨y1,y2⟩=>hQ _ _ _ ⟨y1,w7.trans x3 m1.next m2.next y2⟩
   ·rename_i hl
    cases he
    refine⟨m1,fun ρ w a n F hF hfr hh hf Q hQ=>?_⟩
    refine wpIn_mono (k1 ρ w a n F hF hfr hh hf) fun e' a' w' hp=>?_
    have hp':=hp
    obtain⟨rfl,-⟩:=hp'
    simp only[gw,hl]
    exact hQ _ _ _ hp
  ·rename_i hne
   obtain⟨m1,k1⟩:=hex _ _ _ _ _ _ _ he
   refine⟨m1,fun ρ w a n F hF hfr hh hf Q hQ=>?_⟩
   refine wpIn_mono (k1 ρ w a n F hF hfr hh hf) fun e' a' w' hp=>?_
   have hp':=hp
   obtain⟨rfl,-⟩:=hp'
   cases e with
   |normal=>exact hQ _ _ _ hp
   |exit i=>exact hQ _ _ _ hp
   |goto l=>exact(hne _ _ _ he).elim
   |ret=>exact hQ _ _ _ hp
theorem iY{ρ:aX}{w:World}{h:Hs}{b:Nat}{L:Loc}{r:LO}(hh:aM ρ h.heap.get w)(hb:h.heap.get b=some (.loop r))(hL:ρ b=some L):
 ∃r':Loop,w.heap[L.φ]? =some (.loop r')/\(∀{α:Type} (k:Loop->Sem α),(Instr.getLoop L.φ>>=k).run P w=(k r').run P w)/\
  r'.state=r.st/\r'.pending=r.pending/\TR ρ r.tm r.n r'.tmps/\r'.params.toList=r.params/\r'.assign=r.assign/\r'.body=r.body/\ ∃L,ρ r.defers=some L/\r'.defers=L.φ:=by
 obtain⟨L0,x,hL0,hx0,hR⟩:=hh.obj _ _ hb
 rw[hL] at hL0;cases hL0
 cases x<;>simp only[OR] at hR<;>first|exact hR.elim|skip
 rename_i r'
 refine⟨r',hx0,fun k=>?_,hR⟩
 simp[Instr.getLoop,getObj,Sem.run,hx0]
theorem pD{ρ:aX}{w:World}{h:Hs}{b:Nat}{L:Loc}{r r2:LO}{r' r2':Loop}(hh:aM ρ h.heap.get w)(hb:h.heap.get b=some (.loop r))(hL:ρ b=some L)(hx:w.heap[L.φ]? =some (.loop r'))(hR:OR ρ L (.loop r2) (.loop r2')):
 ∃w',(setObj L.φ (.loop r2')).run P w= .ok () w'/\aM ρ (h.heap.set b (.loop r2)).get w'/\ ∀lo hi,Step ρ h.heap.get w ρ (h.heap.set b (.loop r2)).get w' lo hi:=
 my (o:= .loop r) hh hb rfl hL hx (fun _ _ _ h=>by cases h) hR
theorem A3{ρ:aX}{n:Nat}: ∀{ps:List Tmp} {vs vs':List Value} {tm tm':Tm} {tmps:Array Value},cU ρ vs vs'->TR ρ tm n tmps->uS ps vs n tm=some tm'->
 ps.length=vs.length/\TR ρ tm' n ((ps.zip vs').foldl (fun t (p,v)=>t.setIfInBounds p v) tmps)
 |[],[],_,tm,tm',tmps, .nil,ht,he=>by simp[uS] at he;subst he;exact⟨rfl,ht⟩
 |p::ps,v::vs,_,tm,tm',tmps, .cons _ v' _ vs' hv hl,ht,he=>by
  simp only[uS] at he
  split at he
  ·rename_i hp
   obtain⟨h1,h2⟩:=A3 hl (ht.put (by rw[Nat.blt_eq] at hp;exact hp) hv) he
   exact⟨by simp[h1],h2⟩
  ·cases he
 |[],_::_,_,_,_,_,_,_,he=>by simp[uS] at he
 |_::_,[],_,_,_,_,_,_,he=>by simp[uS] at he
theorem Ge{ex:xy}(hex:wU P ex):im P (Df ex):=by
 intro l args h v h' he
 unfold Df at he
 split at he
 ·rename_i r hb
  split at he
  ·rename_i tm htm
   split at he
   ·rename_i fr1 h1 hasg
    obtain⟨m1,k1⟩:=hex _ _ _ _ _ _ _ hasg
    split at he
    ·rename_i r1 hb1
     split at he
     ·rename_i hready
      split at he
      ·rename_i e fr3 h3 hbody
       obtain⟨m2,k2⟩:=hex _ _ _ _ _ _ _ hbody
       split at he
       ·rename_i r3 hb3
        cases he
        have mm1:=m1.trans (Mod.set h1 l (.loop {r1 with st:= .busy}) hb1)
        have mm2:=mm1.trans m2
        have mm3:=mm2.trans (Mod.set h3 l (.loop {r3 with st:=(match gy e with|none=> .ready|some _=> .done),pending:=gy e}) hb3)
        have n2:h1.next<=h3.next:=m2.next
        refine⟨mm3,fun ρ w args' n L hL hargs hh hf=>?_⟩
        obtain⟨r',hx,hget,q1,q2,q3,q4,q5,q6,q7⟩:=iY (P:=P) hh hb hL
        obtain⟨hlen,htr⟩:=A3 hargs q3 htm
        have hlen':args'.length=r'.params.size:=by rw[hargs.length,←hlen,←q4];simp
        refine⟨r'.fn,(r'.params.zip ⟨args'⟩).foldl (fun t (p,v)=>t.setIfInBounds p v) r'.tmps,r'.assign,r'.body,?_,?_⟩
        ·simp only[Instr.yield]
         rw[hget]
         simp[hlen']
        ·refine roundIn_of_wpIn trivial ?_
         have htr':TR ρ tm r.n ((r'.params.zip ⟨args'⟩).foldl (fun t (p,v)=>t.setIfInBounds p v) r'.tmps):=by
          rw[←Array.foldl_toList,Array.toList_zip,q4];exact htr
         have hF:cC ρ (some l) (Fence.wide.inRound L.φ):=⟨L,hL,rfl⟩
         rw[q5]
         refine wpIn_mono (k1 ρ w _ n _ hF ⟨htr', .nil⟩ hh (hf.sub (Nat.le_refl _) n2)) fun e1 a1 w1 hp=>?_
         obtain⟨rfl,ρ1,x1,x2,x3⟩:=hp
         have hL1:=x3.ext _ _ hL
         obtain⟨r1',hx1,hget1,p1,p2,p3,p4,p5,p6,p7⟩:=iY (P:=P) x2 hb1 hL1
         obtain⟨w2,hs2,hh2,hst2⟩:=pD (P:=P) (r2:={r1 with st:= .busy}) (r2':={r1' with state:= .busy}) x2 hb1 hL1 hx1 ⟨rfl,p2,p3,p4,p5,p6,p7⟩
         have hs12:=x3.trans (hst2 h1.next h1.next) m1.next (Nat.le_refl _)
         refine⟨w2,?_,?_⟩
         ·unfold Instr.beginRound
          rw[hget1]
          simp only[Sem.run_bind,hs2,Result.andThen_ok,p1,hready,Sem.run_pure]
         ·rw[q6]
          refine wpIn_mono (k2 ρ1 w2 a1 n _ (hF.mono x3.ext) x1 hh2 (hs12.fresh (hf.sub (Nat.le_refl _) (Nat.le_refl _)) m1.next)) fun e2 a2 w3 hp=>?_
          obtain⟨rfl,ρ3,y1,y2,y3⟩:=hp
          have hL3:=y3.ext _ _ hL1
          obtain⟨r3',hx3,hget3,s1,s2,s3,s4,s5,s6,s7⟩:=iY (P:=P) y2 hb3 hL3
          have fin: ∀(j:Option Code),j=gy e-> ∃w4,(Instr.endRound L.φ j).run P w3= .ok (.bool (gy e).isNone) w4/\Pb ρ h w (.bool (gy e).isNone) {h3 with heap:=h3.heap.set l (.loop {r3 with st:=(match gy e with|none=> .ready|some _=> .done),pending:=gy e}),log:=l::h3.log} (.returned (.bool (gy e).isNone)) w4:=by
           intro j hj
           subst hj
           obtain⟨w4,hs4,hh4,hst4⟩:=pD (P:=P) (r2:={r3 with st:=(match gy e with|none=> .ready|some _=> .done),pending:=gy e}) (r2':={r3' with state:=if (gy e).isNone then .ready else .done,pending:=gy e}) y2 hb3 hL3 hx3 ⟨by cases e<;>rfl,rfl,s3,s4,s5,s6,s7⟩
           refine⟨w4,?_,ρ3,_,rfl, .sc _ rfl,hh4,?_⟩
           ·unfold Instr.endRound
            rw[hget3]
            simp only[Sem.run_bind,hs4,Result.andThen_ok,Sem.run_pure]
           ·exact(hs12.trans y3 m1.next n2).trans (hst4 h3.next h3.next) (Nat.le_trans m1.next n2) (Nat.le_refl _)
          cases e with
          |normal=>obtain⟨w4,z1,z2⟩:=fin none rfl;exact⟨_,w4,z1,z2⟩
          |exit i=>obtain⟨w4,z1,z2⟩:=fin (some (.exit i)) rfl;exact⟨_,w4,z1,z2⟩
          |goto t=>obtain⟨w4,z1,z2⟩:=fin (some (.goto t)) rfl;exact⟨_,w4,z1,z2⟩
          |ret=>obtain⟨w4,z1,z2⟩:=fin (some .ret) rfl;exact⟨_,w4,z1,z2⟩
       ·cases he
      ·cases he
     ·cases he
    ·cases he
   ·cases he
  ·cases he
 ·cases he
theorem xC: ∀(l:List Value)(i:Nat)(t:Tm)(j:Nat),rd (lh l i t) j=if i<=j/\j<i+l.length then l.getD (j - i) undef else rd t j
 |[],i,t,j=>by simp only[lh,List.length_nil];rw[if_neg (by omega)]
 |v::l,i,t,j=>by
  simp only[lh,xC l,sn,List.length_cons]
  by_cases h1:i+1<=j/\j<i+1+l.length
  ·rw[if_pos h1,if_pos (by omega)]
   obtain⟨k,hk⟩: ∃k,j - i=k+1:=⟨j - i - 1,by omega⟩
   rw[hk,show j - (i+1)=k by omega]
   simp
  ·rw[if_neg h1]
   by_cases h2:j=i
   ·subst h2;rw[if_pos rfl,if_pos (by omega)];simp
   ·rw[if_neg h2,if_neg (by omega)]
theorem cU.getD{ρ:aX}: ∀{l l':List Value},cU ρ l l'-> ∀(i:Nat),VR ρ (l.getD i undef) (l'.getD i undef)
 |_,_, .nil,i=>by simpa using VR.undef
 |_,_, .cons v v' l l' h k,0=>by simpa using h
 |_,_, .cons v v' l l' h k,i+1=>by simpa using cU.getD k i
theorem MU(j:Nat):rd (.leaf:Tm) j=undef:=by unfold rd;rw[T.dP]
theorem re{ρ:aX}{args args':List Value}(h:cU ρ args args')(m:Nat):
 TR ρ (lh args 0 .leaf) (args.length+(m - args.length)) ((⟨args'⟩:Array Value)++Array.replicate (m - (⟨args'⟩:Array Value).size) undef):=by
 have hl:=h.length
 refine⟨by simp[hl],fun t=>?_⟩
 rw[xC,MU]
 by_cases ht:t<args.length
 ·rw[if_pos (by omega)]
  have:((⟨args'⟩:Array Value)++Array.replicate (m - (⟨args'⟩:Array Value).size) undef).getD t undef=args'.getD t undef:=by
   rw[Array.getD_eq_getD_getElem?,Array.getElem?_append_left (by simpa[hl] using ht)]
   simp
  rw[this];exact .inr (by simpa using h.getD t)
 ·rw[if_neg (by omega)]
  have:((⟨args'⟩:Array Value)++Array.replicate (m - (⟨args'⟩:Array Value).size) undef).getD t undef=undef:=by
   rw[Array.getD_eq_getD_getElem?,Array.getElem?_append_right (by simpa[hl] using ht)]
   rw[Array.getElem?_replicate]
   split<;>rfl
  rw[this];exact .inr .undef
def zl(tmps:Array Value):ResultVar->Sem Value
 | .tmp t=>pure (tmps.getD t undef)
 | .cell a t=>do loadVar t (←asAddr (tmps.getD a undef))
theorem mC(fn:Func)(tmps:Array Value):results fn tmps=(do
 let vs←fn.results.mapM (zl tmps)
 pure (if h:vs.size=1 then vs[0] else .tuple vs)):=rfl
theorem gI{ρ:aX}{w:World}{h:Hs}{tm:Tm}{n:Nat}{tmps:Array Value}(ht:TR ρ tm n tmps)(hh:aM ρ h.heap.get w): ∀{l:List ResultVar} {vs:List Value},ej P tm h l=some vs->
 ∃vs',cU ρ vs vs'/\(l.mapM (zl tmps)).run P w= .ok vs' w
 |[],vs,he=>by simp[ej] at he;subst he;exact⟨[], .nil,rfl⟩
 | .tmp t::l,vs,he=>by
   simp only[ej] at he
   split at he
   ·rename_i vs1 h1
    split at he
    ·rename_i v hv
     obtain⟨rfl,hj⟩:=td hv
     cases he
     obtain⟨vs',h2,h3⟩:=gI ht hh h1
     exact⟨_, .cons _ _ _ _ ((ht.2 t).vr hj) h2,by simp[List.mapM_cons,zl,h3]⟩
    ·cases he
   ·cases he
 | .cell a t::l,vs,he=>by
   simp only[ej] at he
   split at he
   ·rename_i b off ha
    split at he
    ·rename_i v vs1 hv h1
     cases he
     obtain⟨vs',h2,h3⟩:=gI ht hh h1
     obtain⟨L,v',hL,hrun,hvR⟩:=pn (P:=P) hh hv
     have hav:=(ht.2 a).vr (fun e=>by rw[ha] at e;cases e)
     rw[ha] at hav
     generalize hx:tmps.getD a undef=x at hav
     cases hav with
     |sc _ hs=>simp[AV.simple] at hs
     |ptr b o L' hL'=>
      rw[hL] at hL';cases hL'
      exact⟨_, .cons _ _ _ _ hvR h2,by simp[List.mapM_cons,zl,h3,hx,asAddr,hrun]⟩
    ·cases he
   ·cases he
theorem zD{ρ:aX}{vs vs':List Value}(h:cU ρ vs vs'):VR ρ (xg vs) (if h:(⟨vs'⟩:Array Value).size=1 then (⟨vs'⟩:Array Value)[0] else .tuple ⟨vs'⟩):=by
 cases h with
 |nil=>exact .tuple _ _ .nil
 |cons v v' l l' hv hl=>
  cases hl with
  |nil=>simpa[xg] using hv
  |cons u u' m m' hu hm=>
   have: ¬(⟨v'::u'::m'⟩:Array Value).size=1:=by simp
   rw[dif_neg this]
   exact .tuple _ _ (.cons _ _ _ _ hv (.cons _ _ _ _ hu hm))
theorem yF{ex:xy}(hex:wU P ex){f:Nat}{args:List Value}{h h':Hs}(he:D1 P ex f args h=some h'):Mod h h'/\
 ∃fn body,P.funcs[f]? =some fn/\fn.body=some body/\fn.name≠ "runtime.NumGoroutine" /\
 ∀ρ w args' n u,cU ρ args args'->aM ρ h.heap.get w->bD ρ h.next h'.next->
  CallsDIn Fence.wide n P f ⟨args'⟩ u w fun e u' w'=>u'=u/\ ∃v ρ',e= .returned v/\aM ρ' h'.heap.get w'/\Step ρ h.heap.get w ρ' h'.heap.get w' h.next h'.next:=by
 unfold D1 at he
 split at he
 ·rename_i fn hfn
  split at he
  ·rename_i body hbody hname
   have hname': ¬fn.name= "runtime.NumGoroutine" :=by simpa using hname
   have main: ∀(e:af)(fr1:Fr)(h1:Hs),(e= .normal\/e= .ret)->ex none body {tm:=lh args 0 .leaf,n:=args.length+(fn.ntmps - args.length),gm:=[]} h=some (e,fr1,h1)->
    (match fr1.gm,ej P fr1.tm h1 fn.results.toList with
      |[],some _=>some h1
      |_,_=>none)=some h'->Mod h h'/\
      ∃fn body,P.funcs[f]? =some fn/\fn.body=some body/\fn.name≠ "runtime.NumGoroutine" /\
      ∀ρ w args' n u,cU ρ args args'->aM ρ h.heap.get w->bD ρ h.next h'.next->
       CallsDIn Fence.wide n P f ⟨args'⟩ u w fun e u' w'=>u'=u/\ ∃v ρ',e= .returned v/\aM ρ' h'.heap.get w'/\Step ρ h.heap.get w ρ' h'.heap.get w' h.next h'.next:=by
    intro e fr1 h1 hen hb he
    obtain⟨m1,k1⟩:=hex _ _ _ _ _ _ _ hb
    split at he
    ·rename_i vs hd hvs
     cases he
     refine⟨m1,fn,body,hfn,hbody,hname',fun ρ w args' n u hargs hh hf=>?_⟩
     refine callsDIn_of_wp hfn hbody trivial ?_
     refine wpIn_mono (k1 ρ w _ n Fence.wide rfl ⟨re hargs fn.ntmps, .nil⟩ hh hf) fun e' a' w' hp=>?_
     obtain⟨rfl,ρ1,x1,x2,x3⟩:=hp
     have hds:a'.defers=[]:=by
      have:=x1.ds
      rw[hd] at this
      generalize a'.defers=x at this
      cases this
      rfl
     obtain⟨vs',y1,y2⟩:=gI (P:=P) x1.tr x2 hvs
     have leave:a'.defers=[]/\ ∃v,(results fn a'.tmps).run P w'= .ok v w'/\ ∃v0 ρ',Ending.returned v= .returned v0/\aM ρ' h'.heap.get w'/\Step ρ h.heap.get w ρ' h'.heap.get w' h.next h'.next:=by
      obtain⟨v1,hv1⟩: ∃v,(results fn a'.tmps).run P w'= .ok v w':=by
       refine⟨if h:(⟨vs'⟩:Array Value).size=1 then (⟨vs'⟩:Array Value)[0] else .tuple ⟨vs'⟩,?_⟩
       rw[mC,Array.mapM_eq_mapM_toList]
       simp[y2]
      exact⟨hds,v1,hv1,v1,ρ1,rfl,x2,x3⟩
     rcases hen with rfl|rfl
     ·exact leave
     ·exact leave
    ·cases he
   split at he
   ·rename_i fr1 h1 hb
    exact main _ _ _ (.inl rfl) hb he
   ·rename_i fr1 h1 hb
    exact main _ _ _ (.inr rfl) hb he
   ·cases he
  ·cases he
 ·cases he
theorem nY{ex:xy}(hex:wU P ex): ∀{ds:List pf} {h h':Hs},tT P ex ds h=some h'->Mod h h'
 |[],h,h',he=>by simp[tT] at he;subst he;exact Mod.refl _
 | .call f args captured::ds,h,h',he=>by
   simp only[tT] at he
   split at he
   ·rename_i h1 hb;exact(yF hex hb).1.trans (nY hex he)
   ·cases he
 | .mark r::ds,h,h',he=>by
   simp only[tT] at he
   split at he
   ·rename_i hb;exact(Mod.set h r (.gm false) hb).trans (nY hex he)
   ·cases he
theorem rC{ex:xy}(hex:wU P ex){n:Nat}{fn:Func}{tmps:Array Value}{R:Ending->World->Prop}: ∀{ds:List pf} {h h':Hs} {ρ:aX} {w:World} {ds':List Deferred},tT P ex ds h=some h'->C6 ρ ds ds'->aM ρ h.heap.get w->bD ρ h.next h'.next->
 (∀ρ' w',aM ρ' h'.heap.get w'->Step ρ h.heap.get w ρ' h'.heap.get w' h.next h'.next-> ∃v,(results fn tmps).run P w'= .ok v w'/\R (.returned v) w')->LeavesInM Fence.wide n P fn tmps R ds' .returning w
 |[],h,h',ρ,w,_,he, .nil,hh,hf,hR=>by
  simp[tT] at he;subst he
  exact hR ρ w hh (Step.refl _ _ _ _ _)
 | .call f args captured::ds,h,h',ρ,w,_,he, .cons _ d' _ ds' hd hds,hh,hf,hR=>by
   simp only[tT] at he
   split at he
   ·rename_i h1 hb
    obtain⟨m1,fn1,body,q1,q2,q3,q4⟩:=yF hex hb
    have m2:=nY hex he
    obtain⟨args',cap',rfl,z1,z2⟩:=hd
    refine⟨by simp, .inr ⟨fun hd=>by simp[Fence.wide] at hd, .func f,⟨cap'⟩,f,⟨args'++cap'⟩,rfl,?_,fun _ _=>trivial,?_⟩⟩
    ·simp[invoke,callFunc,q1,q2,q3]
    ·refine(q4 ρ w (args'++cap') (n - 1) .returning (z1.append z2) hh (hf.sub (Nat.le_refl _) m2.next)).mono fun e u' w' hp=>?_
     obtain⟨rfl,v,ρ1,rfl,x2,x3⟩:=hp
     show LeavesInM Fence.wide n P fn tmps R ds' .returning w'
     exact rC hex he (hds.mono x3.ext) x2 (x3.fresh hf m1.next) fun ρ' w2 y1 y2=>hR ρ' w2 y1 (x3.trans y2 m1.next m2.next)
   ·cases he
 | .mark r::ds,h,h',ρ,w,_,he, .cons _ d' _ ds' hd hds,hh,hf,hR=>by
   simp only[tT] at he
   split at he
   ·rename_i hb
    obtain⟨L,hL,rfl⟩:=hd
    obtain⟨L0,x,hL0,hx0,hO⟩:=hh.obj _ _ hb
    rw[hL] at hL0;cases hL0
    cases x<;>simp only[OR] at hO<;>first|exact hO.elim|skip
    subst hO
    obtain⟨w1,hs1,hh1,hst1⟩:=my (P:=P) (o:= .gm true) (o2:= .gm false) (x2:= .deferred none) hh hb rfl hL hx0 (fun _ _ _ h=>by cases h) rfl
    have m2:=nY hex he
    refine⟨by simp, .inl ⟨L.φ,w1,rfl,?_,rC hex he hds hh1 hf fun ρ' w' q1 q2=>hR ρ' w' q1 ?_⟩⟩
    ·simp[Instr.takeDeferred,getObj,Sem.run,hx0,hs1]
    ·exact(hst1 h.next h.next).trans q2 (Nat.le_refl _) m2.next
   ·cases he
theorem wv{ex:xy}{call:cN}(hex:wU P ex):dJ P (yI P ex call):=by
 intro f args h v h' he
 unfold yI at he
 split at he
 ·rename_i fn hfn
  split at he
  ·rename_i body hbody
   have main: ∀(e:af)(fr1:Fr)(h1:Hs),(e= .normal\/e= .ret)->ex none body {tm:=lh args 0 .leaf,n:=args.length+(fn.ntmps - args.length),gm:=[]} h=some (e,fr1,h1)->
    (match tT P ex fr1.gm h1 with
      |some h=>match ej P fr1.tm h fn.results.toList with
       |some vs=>some (xg vs,h)
       |none=>none
      |none=>none)=some (v,h')->Mod h h'/\
      ∀ρ w args' n,cU ρ args args'->aM ρ h.heap.get w->bD ρ h.next h'.next->CallsIn Fence.wide n P f ⟨args'⟩ w (Pb ρ h w v h'):=by
    intro e fr1 h1 hen hb he
    obtain⟨m1,k1⟩:=hex _ _ _ _ _ _ _ hb
    split at he
    ·rename_i h2 hd
     split at he
     ·rename_i vs hvs
      cases he
      have m2:=nY hex hd
      refine⟨m1.trans m2,fun ρ w args' n hargs hh hf=>?_⟩
      refine callsIn_of_wp_marks hfn hbody trivial ?_
      refine wpIn_mono (k1 ρ w _ n Fence.wide rfl ⟨re hargs fn.ntmps, .nil⟩ hh (hf.sub (Nat.le_refl _) m2.next)) fun e' a' w' hp=>?_
      obtain⟨rfl,ρ1,x1,x2,x3⟩:=hp
      have leave:LeavesInM Fence.wide n P fn a'.tmps (Pb ρ h w (xg vs) h') a'.defers .returning w':=by
       refine rC hex hd x1.ds x2 (x3.fresh hf m1.next) fun ρ2 w2 q1 q2=>?_
       obtain⟨vs',y1,y2⟩:=gI (P:=P) (x1.tr.mono q2.ext) q1 hvs
       refine⟨_,?_,ρ2,_,rfl,zD y1,q1,x3.trans q2 m1.next m2.next⟩
       rw[mC,Array.mapM_eq_mapM_toList]
       simp[y2]
      rcases hen with rfl|rfl
      ·exact leave
      ·exact leave
     ·cases he
    ·cases he
   split at he
   ·rename_i fr1 h1 hb
    exact main _ _ _ (.inl rfl) hb he
   ·rename_i fr1 h1 hb
    exact main _ _ _ (.inr rfl) hb he
   ·cases he
  ·cases he
 ·cases he
end
section
variable{P:Program}
theorem C6.append{ρ:aX}: ∀{a b:List pf} {a' b':List Deferred},C6 ρ a a'->C6 ρ b b'->C6 ρ (a++b) (a'++b')
 |_,_,_,_, .nil,k=>k
 |_,_,_,_, .cons d d' l l' h r,k=> .cons d d' _ _ h (C6.append r k)
theorem xG{call:cN}(hc:dJ P call){rdd:Option Nat}{fr:Fr}{g:Nat}{first cap:List Value}{dk:Nat}{mark:List pf}{ps:Array Tmp}{asg b:Code}{h0 h:Hs}{e:af}{fr':Fr}{h':Hs}{f:Operand}
 (hev:ev fr.tm f=some (.func (.func g) ⟨first⟩ ⟨cap⟩))
 (he:yG.Di P call fr g first cap dk mark ps asg b h=some (e,fr',h'))
 (hm0:Mod h0 h)
 (hent: ∀ρ w a F,cC ρ rdd F->eZ ρ fr a->aM ρ h0.heap.get w->bD ρ h0.next h'.next->h.next<=h'.next-> ∀fn,∃ρ1 w1 D ds',aM ρ1 h.heap.get w1/\Step ρ h0.heap.get w ρ1 h.heap.get w1 h0.next h.next/\(∃L,ρ1 dk=some L/\D=L.φ)/\C6 ρ1 mark ds'/\
   (Instr.enterLoop fn a.tmps ps asg b F.round).run P w= .ok (w1.heap.size,ds') (w1.alloc (.loop {state:= .ready,pending:=none,fn:=fn,tmps:=a.tmps,params:=ps,assign:=asg,body:=b,defers:=D}))):
 Mod h0 h'/\ ∀(ρ:aX)(w:World)(a:Act)(n:Nat)(F:Fence),cC ρ rdd F->eZ ρ fr a->aM ρ h0.heap.get w->bD ρ h0.next h'.next->(Code.rangeFunc f ps asg b).wpIn F n P (oq ρ h0 w e fr' h') a w:=by
 unfold yG.Di at he
 split at he
 ·rename_i fn hfn
  split at he
  ·rename_i body hbody hname
   split at he
   ·rename_i v h1 hcall
    split at he
    ·rename_i r hb1
     split at he
     ·cases he
     ·rename_i hst
      obtain⟨mc,kc⟩:=hc _ _ _ _ _ hcall
      have mall:=(hm0.trans (Mod.new h _)).trans mc
      have mset:=mall.trans (Mod.set h1 h.next (.loop {r with st:= .exhausted}) hb1)
      have fin: ∀(jmp:Option Code)(c:Exit),r.pending=jmp->c=gw e->fr'={fr with gm:=mark++fr.gm}->h'={h1 with heap:=h1.heap.set h.next (.loop {r with st:= .exhausted}),log:=h.next::h1.log}->
       (∀F n (Q:Exit->Act->World->Prop) a w,Q c a w->(match jmp with|none=>Q .normal a w|some c=>c.wpIn F n P Q a w))->
       Mod h0 h'/\ ∀(ρ:aX)(w:World)(a:Act)(n:Nat)(F:Fence),cC ρ rdd F->eZ ρ fr a->aM ρ h0.heap.get w->bD ρ h0.next h'.next->(Code.rangeFunc f ps asg b).wpIn F n P (oq ρ h0 w e fr' h') a w:=by
       intro jmp c hj hce hfr' hh' hjump
       subst hh' hfr' hce
       refine⟨mset,fun ρ w a n F hF hfr hh hf=>wpIn_rangeFunc fun fnid _=>?_⟩
       have hfr0:=hfr
       obtain⟨ρ1,w1,D,ds',q1,q2,⟨LD,hLD,rfl⟩,q4,q5⟩:=hent ρ w a F hF hfr hh hf (Nat.le_trans (Nat.le_succ _) mc.next) fnid
       have hn1:h.next+1<=h1.next:=mc.next
       have hfresh1:bD ρ1 h.next h1.next:=q2.fresh (hi:=h1.next) hf hm0.next
       have pR:ρ1 h.next=none:=hfresh1 _ (Nat.le_refl _) (by omega)
       have hle1:ρ1.le (ρ1.set h.next ⟨w1.heap.size,0,0⟩):=aX.iC _ pR
       have hfr1:=(hfr.mono q2.ext).mono hle1
       obtain⟨y1,y2⟩:=aM.new (δ:=0) (ψ:=0) (o:= .loop {st:= .ready,pending:=none,tm:=fr.tm,n:=fr.n,params:=ps.toList,assign:=asg,body:=b,defers:=dk}) (H':=(cL h (.loop {st:= .ready,pending:=none,tm:=fr.tm,n:=fr.n,params:=ps.toList,assign:=asg,body:=b,defers:=dk})).heap.get)
        (x:= .loop {state:= .ready,pending:=none,fn:=fnid,tmps:=a.tmps,params:=ps,assign:=asg,body:=b,defers:=LD.φ}) q1 pR
        ⟨rfl,rfl,hfr1.tr,rfl,rfl,rfl,LD,hle1 _ _ hLD,rfl⟩ (fun i=>T.aH _ _ _ _)
       have hfv:=aL hfr1.tr hev
       generalize hfe:a.eval f=fv at hfv
       cases hfv with
       |sc _ hs=>simp[AV.simple] at hs
       |fn _ _ first' _ cap' z1 z2=>
        have hname': ¬fn.name= "runtime.NumGoroutine" :=by simpa using hname
        generalize hW:w1.alloc (.loop {state:= .ready,pending:=none,fn:=fnid,tmps:=a.tmps,params:=ps,assign:=asg,body:=b,defers:=LD.φ})=W at q5 y1 y2
        refine⟨w1.heap.size,ds',W,{target:= .fn (.func g) ⟨cap'⟩,args:=(⟨first'⟩:Array Value)++ #[.func (.yield w1.heap.size) #[] #[]]},W,g,⟨(first'++[.func (.yield w1.heap.size) #[] #[]])++cap'⟩,W,q5,?_,fun f' _=>hF.fn f',?_,fun hd=>absurd hd (by rw[hF.depth];simp),?_⟩
        ·have hcst:a.eval (.const (.func (.yield w1.heap.size) #[] #[]))= .func (.yield w1.heap.size) #[] #[]:=rfl
         simp[resolve,Deferred.ofValue,hfe,hcst]
        ·simp[invoke,callFunc,hfn,hname',hbody]
        ·have hargs:cU (ρ1.set h.next ⟨w1.heap.size,0,0⟩) ((first++[.func (.yield h.next) #[] #[]])++cap) ((first'++[.func (.yield w1.heap.size) #[] #[]])++cap'):=
          (z1.append (.one (.yield _ ⟨w1.heap.size,0,0⟩ _ _ (aX.cJ _ _ _) .nil))).append z2
         refine CallsIn.mono (hF.calls (kc _ _ _ (n - 1) hargs y1 (y2.fresh hfresh1 (Nat.le_succ _)))) fun e2 w2 hgot=>?_
         obtain⟨ρ2,v',rfl,p1,p2,p3⟩:=hgot
         have hL2:=p3.ext _ _ (aX.cJ ρ1 h.next ⟨w1.heap.size,0,0⟩)
         obtain⟨r',hx,hget,s1,s2,s3,s4,s5,s6,s7⟩:=iY (P:=P) p2 hb1 hL2
         obtain⟨w3,hs3,hh3,hst3⟩:=pD (P:=P) (r2:={r with st:= .exhausted}) (r2':={r' with state:= .exhausted}) p2 hb1 hL2 hx ⟨rfl,s2,s3,s4,s5,s6,s7⟩
         refine⟨jmp,w3,?_,?_⟩
         ·unfold Instr.endLoop
          rw[hget]
          have hnb:(r'.state== .busy)=false:=by
           rw[s1]
           cases hs:r.st<;>first|rfl|exact(hst hs).elim
          simp only[hnb,Bool.false_eq_true,if_false,Sem.run_bind,hs3,Result.andThen_ok,Sem.run_pure]
          rw[s2,hj]
         ·have hP:oq ρ h0 w e {fr with gm:=mark++fr.gm} {h1 with heap:=h1.heap.set h.next (.loop {r with st:= .exhausted}),log:=h.next::h1.log} (gw e) {a with defers:=ds'++a.defers} w3:=by
           refine⟨rfl,ρ2,⟨(hfr1.mono p3.ext).tr,?_⟩,hh3,?_⟩
           ·exact((C6.mono (hle1.trans p3.ext) q4).append (hfr1.mono p3.ext).ds)
           ·exact(((q2.trans y2 hm0.next (Nat.le_succ _)).trans p3 (Nat.le_succ_of_le hm0.next) mc.next).trans (hst3 h1.next h1.next) (Nat.le_trans (Nat.le_succ_of_le hm0.next) mc.next) (Nat.le_refl _))
          have hJ:=hjump F n _ _ _ hP
          cases jmp with
          |none=>exact hJ
          |some c=>exact hJ
      split at he
      ·rename_i hp
       cases he
       exact fin none .normal hp rfl rfl rfl fun _ _ _ _ _ q=>q
      ·rename_i hp
       cases he
       exact fin (some .ret) .ret hp rfl rfl rfl fun _ _ _ _ _ q=>wpIn_ret q
      ·rename_i i hp
       cases he
       exact fin (some (.exit i)) (.exit i) hp rfl rfl rfl fun _ _ _ _ _ q=>wpIn_exit q
      ·rename_i i hp
       cases he
       exact fin (some (.goto i)) (.goto i) hp rfl rfl rfl fun _ _ _ _ _ q=>wpIn_goto q
      ·cases he
    ·cases he
   ·cases he
  ·cases he
 ·cases he
theorem DW{h:Hs}{ρ:aX}{w:World}{a:Act}{ps:Array Tmp}{asg b:Code}{fn:FuncId}(hh:aM ρ h.heap.get w)(hf:ρ h.next=none):
 ∃ρ1 w1 D ds',aM ρ1 (cL h (.gm true)).heap.get w1/\Step ρ h.heap.get w ρ1 (cL h (.gm true)).heap.get w1 h.next (cL h (.gm true)).next/\(∃L,ρ1 h.next=some L/\D=L.φ)/\C6 ρ1 [.mark h.next] ds'/\
  (Instr.enterLoop fn a.tmps ps asg b none).run P w= .ok (w1.heap.size,ds') (w1.alloc (.loop {state:= .ready,pending:=none,fn:=fn,tmps:=a.tmps,params:=ps,assign:=asg,body:=b,defers:=D})):=by
 obtain⟨y1,y2⟩:=aM.new (δ:=0) (ψ:=0) (o:= .gm true) (x:= .deferred (some [])) (H':=(cL h (.gm true)).heap.get) hh hf rfl (fun i=>T.aH _ _ _ _)
 refine⟨_,_,w.heap.size,[{target:= .collected w.heap.size,args:= #[]}],y1,y2,⟨_,aX.cJ _ _ _,rfl⟩, .cons _ _ _ _ ⟨_,aX.cJ _ _ _,rfl⟩ .nil,?_⟩
 simp[Instr.enterLoop]
theorem pH(hD:gg P){call round:cN}(hc:dJ P call)(hr:im P round){rdd:Option Nat}{ops:Array Oper}{draw:Bool}{fr fr':Fr}{h h':Hs}(he:qD P call round rdd ops draw fr h=some (fr',h'))(id:Nat):Mod h h'/\
 ∀(ρ:aX)(w:World)(a:Act)(n:Nat)(F:Fence),cC ρ rdd F->eZ ρ fr a->aM ρ h.heap.get w->bD ρ h.next h'.next->(Code.region id ops draw).wpIn F n P (oq ρ h w .normal fr' h') a w:=by
 unfold qD at he
 split at he
 ·obtain⟨m,k⟩:=E2 hc hr _ _ _ _ _ he
  exact⟨m,fun ρ w a n F hF hfr hh hf=>wpIn_region_list (k ρ w a n F hF hfr hh hf _ fun a' w' q=>⟨rfl,q⟩)⟩
 ·split at he
  ·rename_i ms hms
   obtain⟨m,k⟩:=hD call round hc hr rdd ops ms fr h fr' h' hms he
   exact⟨m,fun ρ w a n F hF hfr hh hf=>k ρ w a n F hF hfr hh hf _ id fun a' w' q=>⟨rfl,q⟩⟩
  ·cases he
theorem oq.exit{ρ:aX}{h:Hs}{w:World}{e:af}{fr':Fr}{h':Hs}{e':Exit}{a':Act}{w':World}(hp:oq ρ h w e fr' h' e' a' w'):e'=gw e:=hp.1
theorem Kn(hD:gg P){ex:xy}{call:cN}(hex:wU P ex)(hc:dJ P call): ∀rdd c fr h e fr' h',yG P ex call rdd c fr h=some (e,fr',h')->Mod h h'/\
 ∀ρ w a n F,cC ρ rdd F->eZ ρ fr a->aM ρ h.heap.get w->bD ρ h.next h'.next->c.wpIn F n P (oq ρ h w e fr' h') a w:=by
 intro rdd c fr h e fr' h' he
 have stay: ∀{ρ:aX} {w:World} {a:Act} (x:af),eZ ρ fr a->aM ρ h.heap.get w->oq ρ h w x fr h (gw x) a w:=fun x h1 h2=>⟨rfl,_,h1,h2,Step.refl _ _ _ _ _⟩
 unfold yG at he
 split at he
 ·cases he;exact⟨Mod.refl _,fun ρ w a n F hF hfr hh hf=>wpIn_skip (stay .normal hfr hh)⟩
 ·cases he;exact⟨Mod.refl _,fun ρ w a n F hF hfr hh hf=>wpIn_label (stay .normal hfr hh)⟩
 ·
  split at he
  ·rename_i fr1 h1 h2
   obtain⟨m1,k1⟩:=hex _ _ _ _ _ _ _ h2
   obtain⟨m2,k2⟩:=hex _ _ _ _ _ _ _ he
   refine⟨m1.trans m2,fun ρ w a n F hF hfr hh hf=>wpIn_seq ?_⟩
   refine wpIn_mono (k1 ρ w a n F hF hfr hh (hf.sub (Nat.le_refl _) m2.next)) fun e1 a1 w1 hp=>?_
   obtain⟨rfl,ρ1,x1,x2,x3⟩:=hp
   refine wpIn_mono (k2 ρ1 w1 a1 n F (hF.mono x3.ext) x1 x2 (x3.fresh hf m1.next)) fun e2 a2 w2 hp=>?_
   exact⟨hp.1,w7.trans x3 m1.next m2.next hp.2⟩
  ·rename_i hne
   obtain⟨m1,k1⟩:=hex _ _ _ _ _ _ _ he
   refine⟨m1,fun ρ w a n F hF hfr hh hf=>wpIn_seq ?_⟩
   refine wpIn_mono (k1 ρ w a n F hF hfr hh hf) fun e1 a1 w1 hp=>?_
   have:=hp.1;subst this
   cases e with
   |normal=>exact(hne _ _ he).elim
   |exit i=>exact hp
   |goto l=>exact hp
   |ret=>exact hp
 ·
  split at he
  ·rename_i hev
   obtain⟨m1,k1⟩:=hex _ _ _ _ _ _ _ he
   refine⟨m1,fun ρ w a n F hF hfr hh hf=>?_⟩
   have hv:=aL hfr.tr hev
   generalize hx:a.eval _=x at hv
   cases hv
   exact wpIn_cond_true hx (k1 ρ w a n F hF hfr hh hf)
  ·rename_i hev
   obtain⟨m1,k1⟩:=hex _ _ _ _ _ _ _ he
   refine⟨m1,fun ρ w a n F hF hfr hh hf=>?_⟩
   have hv:=aL hfr.tr hev
   generalize hx:a.eval _=x at hv
   cases hv
   exact wpIn_cond_false hx (k1 ρ w a n F hF hfr hh hf)
  ·cases he
 ·
  rename_i id b
  split at he
  ·rename_i i fr1 h1 hb
   obtain⟨m1,k1⟩:=hex _ _ _ _ _ _ _ hb
   split at he
   ·rename_i hi
    have hi':=Nat.eq_of_beq_eq_true hi
    cases he
    refine⟨m1,fun ρ w a n F hF hfr hh hf=>wpIn_block ?_⟩
    refine wpIn_mono (k1 ρ w a n F hF hfr hh hf) fun e1 a1 w1 hp=>?_
    obtain⟨rfl,hp⟩:=hp
    simp only[gw,Exit.inBlock,hi',if_true]
    exact⟨rfl,hp⟩
   ·rename_i hi
    have hi': ¬i=id:=Nat.ne_of_beq_eq_false hi
    cases he
    refine⟨m1,fun ρ w a n F hF hfr hh hf=>wpIn_block ?_⟩
    refine wpIn_mono (k1 ρ w a n F hF hfr hh hf) fun e1 a1 w1 hp=>?_
    obtain⟨rfl,hp⟩:=hp
    simp only[gw,Exit.inBlock,hi',if_false]
    exact⟨rfl,hp⟩
  ·rename_i hne
   obtain⟨m1,k1⟩:=hex _ _ _ _ _ _ _ he
   refine⟨m1,fun ρ w a n F hF hfr hh hf=>wpIn_block ?_⟩
   refine wpIn_mono (k1 ρ w a n F hF hfr hh hf) fun e1 a1 w1 hp=>?_
   have:=hp.1;subst this
   cases e with
   |normal=>exact hp
   |exit i=>exact(hne _ _ _ he).elim
   |goto l=>exact hp
   |ret=>exact hp
 ·cases he;exact⟨Mod.refl _,fun ρ w a n F hF hfr hh hf=>wpIn_exit (stay (.exit _) hfr hh)⟩
 ·cases he;exact⟨Mod.refl _,fun ρ w a n F hF hfr hh hf=>wpIn_goto (stay (.goto _) hfr hh)⟩
 ·cases he;exact⟨Mod.refl _,fun ρ w a n F hF hfr hh hf=>wpIn_ret (stay .ret hfr hh)⟩
 ·
  split at he
  ·rename_i fr1 h1 hreg
   cases he
   exact pH hD hc (Ge hex) hreg _
  ·cases he
 ·
  split at he
  ·rename_i g first cap hev
   cases rdd with
   |none=>
    dsimp only at he
    exact xG (rdd:=none) hc hev he (Mod.new h _) fun ρ w a F hF hfr hh hf hlt fn=>by
     cases hF
     exact DW hh (hf _ (Nat.le_refl _) hlt)
   |some l=>
    dsimp only at he
    split at he
    ·rename_i dk mark hx heq
     split at heq
     ·rename_i r hb
      cases heq
      exact xG (rdd:=some l) hc hev he (Mod.refl h) fun ρ w a F hF hfr hh hf hlt fn=>by
       obtain⟨L,hL,rfl⟩:=hF
       obtain⟨r',hx,hget,s1,s2,s3,s4,s5,s6,LD,hLD,s7⟩:=iY (P:=P) hh hb hL
       refine⟨ρ,w,_,[],hh,Step.refl _ _ _ _ _,⟨LD,hLD,s7⟩, .nil,?_⟩
       simp only[Instr.enterLoop,Fence.inRound_round]
       rw[hget]
       simp
     ·cases heq
    ·cases he
  ·cases he
 ·cases he
def Bn:aX:=fun _=>none
end
def cO:Nat:=510
def Ex(P:Program)(rdd:Option Nat)(c:Code)(fr:Fr)(h:Hs)(e:af)(fr':Fr)(h':Hs):Prop:=h.next<=h'.next/\
 ∀ρ w a n F,cC ρ rdd F->eZ ρ fr a->aM ρ h.heap.get w->bD ρ h.next h'.next->c.wpIn F n P (oq ρ h w e fr' h') a w
section
variable{P:Program}{rdd:Option Nat}
theorem Ex.skip(fr:Fr)(h:Hs):Ex P rdd .skip fr h .normal fr h:=⟨Nat.le_refl _,fun ρ w a n F _ h1 h2 _=>wpIn_skip ⟨rfl,_,h1,h2,Step.refl _ _ _ _ _⟩⟩
theorem Ex.label(l:Nat)(fr:Fr)(h:Hs):Ex P rdd (.label l) fr h .normal fr h:=⟨Nat.le_refl _,fun ρ w a n F _ h1 h2 _=>wpIn_label ⟨rfl,_,h1,h2,Step.refl _ _ _ _ _⟩⟩
theorem Ex.exit(i:Nat)(fr:Fr)(h:Hs):Ex P rdd (.exit i) fr h (.exit i) fr h:=⟨Nat.le_refl _,fun ρ w a n F _ h1 h2 _=>wpIn_exit ⟨rfl,_,h1,h2,Step.refl _ _ _ _ _⟩⟩
theorem Ex.goto(i:Nat)(fr:Fr)(h:Hs):Ex P rdd (.goto i) fr h (.goto i) fr h:=⟨Nat.le_refl _,fun ρ w a n F _ h1 h2 _=>wpIn_goto ⟨rfl,_,h1,h2,Step.refl _ _ _ _ _⟩⟩
theorem Ex.ret(fr:Fr)(h:Hs):Ex P rdd .ret fr h .ret fr h:=⟨Nat.le_refl _,fun ρ w a n F _ h1 h2 _=>wpIn_ret ⟨rfl,_,h1,h2,Step.refl _ _ _ _ _⟩⟩
theorem Ex.seq{c d:Code}{fr fr1 fr2:Fr}{h h1 h2:Hs}{e:af}(k1:Ex P rdd c fr h .normal fr1 h1)(k2:Ex P rdd d fr1 h1 e fr2 h2):Ex P rdd (.seq c d) fr h e fr2 h2:=by
 obtain⟨m1,k1⟩:=k1
 obtain⟨m2,k2⟩:=k2
 refine⟨Nat.le_trans m1 m2,fun ρ w a n F hF hfr hh hf=>wpIn_seq ?_⟩
 refine wpIn_mono (k1 ρ w a n F hF hfr hh (hf.sub (Nat.le_refl _) m2)) fun e1 a1 w1 hp=>?_
 obtain⟨rfl,ρ1,x1,x2,x3⟩:=hp
 refine wpIn_mono (k2 ρ1 w1 a1 n F (hF.mono x3.ext) x1 x2 (x3.fresh hf m1)) fun e2 a2 w2 hp=>?_
 exact⟨hp.1,w7.trans x3 m1 m2 hp.2⟩
theorem Ex.cond{c:Operand}{a b:Code}{x:Bool}{fr fr1:Fr}{h h1:Hs}{e:af}(hev:ev fr.tm c=some (.bool x))(k:Ex P rdd (if x then a else b) fr h e fr1 h1):Ex P rdd (.cond c a b) fr h e fr1 h1:=by
 obtain⟨m1,k1⟩:=k
 refine⟨m1,fun ρ w a n F hF hfr hh hf=>?_⟩
 have hv:=aL hfr.tr hev
 generalize hx:a.eval _=y at hv
 cases hv
 cases x with
 |true=>exact wpIn_cond_true hx (k1 ρ w a n F hF hfr hh hf)
 |false=>exact wpIn_cond_false hx (k1 ρ w a n F hF hfr hh hf)
def Bk(id:Nat):af->af
 | .exit i=>match Nat.beq i id with|true=> .normal|false=> .exit i
 |e=>e
theorem Ex.block{id:Nat}{b:Code}{fr fr1:Fr}{h h1:Hs}{e:af}(k:Ex P rdd b fr h e fr1 h1):Ex P rdd (.block id b) fr h (Bk id e) fr1 h1:=by
 obtain⟨m1,k1⟩:=k
 refine⟨m1,fun ρ w a n F hF hfr hh hf=>wpIn_block ?_⟩
 refine wpIn_mono (k1 ρ w a n F hF hfr hh hf) fun e1 a1 w1 hp=>?_
 obtain⟨rfl,hp⟩:=hp
 cases e with
 |normal=>exact⟨rfl,hp⟩
 |goto l=>exact⟨rfl,hp⟩
 |ret=>exact⟨rfl,hp⟩
 |exit i=>
  simp only[Bk]
  cases hb:Nat.beq i id with
  |true=>
   have hi':=Nat.eq_of_beq_eq_true hb
   simp only[gw,Exit.inBlock,hi',if_true]
   exact⟨rfl,hp⟩
  |false=>
   have hi': ¬i=id:=Nat.ne_of_beq_eq_false hb
   simp only[gw,Exit.inBlock,hi',if_false]
   exact⟨rfl,hp⟩
theorem Ex.region(hD:gg P){call round:cN}(hc:dJ P call)(hr:im P round){id:Nat}{ops:Array Oper}{draw:Bool}{fr fr':Fr}{h h':Hs}(he:qD P call round rdd ops draw fr h=some (fr',h')):Ex P rdd (.region id ops draw) fr h .normal fr' h':=
 ⟨(pH hD hc hr he id).1.next,(pH hD hc hr he id).2⟩
mutual
def aP(σ:Nat->Option Nat):Value->Option Value
 | .pointer (some ⟨b,o,none⟩)=>match σ b with|some c=>some (.pointer (some ⟨c,o,none⟩))|none=>none
 | .slice (some ⟨b,o,none⟩) n k=>match σ b with|some c=>some (.slice (some ⟨c,o,none⟩) n k)|none=>none
 | .slice (some ⟨b,o,some s⟩) 0 0=>some (.slice (some ⟨b,o,some s⟩) 0 0)
 | .map (some b)=>match σ b with|some c=>some (.map (some c))|none=>none
 | .agg ⟨l⟩=>match aS σ l with|some m=>some (.agg ⟨m⟩)|none=>none
 | .tuple ⟨l⟩=>match aS σ l with|some m=>some (.tuple ⟨m⟩)|none=>none
 | .func (.func f) ⟨a⟩ ⟨c⟩=>match aS σ a with
   |some a'=>match aS σ c with
    |some c'=>some (.func (.func f) ⟨a'⟩ ⟨c'⟩)
    |none=>none
   |none=>none
 | .bool x=>some (.bool x)
 | .int k x=>some (.int k x)
 | .string s=>some (.string s)
 | .float a b=>some (.float a b)
 | .pointer none=>some (.pointer none)
 | .slice none n k=>some (.slice none n k)
 | .map none=>some (.map none)
 | .nilFunc=>some .nilFunc
 | .nilIface=>some .nilIface
 |_=>none
def aS(σ:Nat->Option Nat):List Value->Option (List Value)
 |[]=>some []
 |v::l=>match aP σ v with
  |some u=>match aS σ l with
   |some m=>some (u::m)
   |none=>none
  |none=>none
end
def g9(σ:Nat->Option Nat):List MapEntry->Option (List MapEntry)
 |[]=>some []
 |e::l=>match aP σ e.key,aP σ e.val with
  |some k,some v=>match g9 σ l with
   |some m=>some ({key:=k,val:=v,born:=e.born}::m)
   |none=>none
  |_,_=>none
def aD(σ:Nat->Option Nat):aa->Option aa
 | .az k=>match aS σ k.cells with|some cs=>some (.az {k with cells:=cs})|none=>none
 | .map es c=>match g9 σ es with|some es'=>some (.map es' c)|none=>none
 | .qp s p=>some (.qp s p)
 | .dK none since seen st=>some (.dK none since seen st)
 | .dK (some m) since seen st=>match σ m with|some c=>some (.dK (some c) since seen st)|none=>none
 |_=>none
def dY(σ:Nat->Option Nat)(ρ:aX):aX:=fun b=>match σ b with|some c=>ρ c|none=>none
mutual
theorem kM{σ:Nat->Option Nat}{ρ:aX}: ∀{v u v':Value},aP σ v=some u->VR ρ u v'->VR (dY σ ρ) v v'
 | .pointer (some ⟨b,o,none⟩),u,v',h,k=>by
   simp only[aP] at h
   split at h
   ·rename_i c hc
    cases h
    cases k with
    |sc _ hs=>simp[AV.simple] at hs
    |ptr _ _ L hL=>exact .ptr b o L (by unfold dY;rw[hc];exact hL)
   ·cases h
 | .slice (some ⟨b,o,none⟩) n q,u,v',h,k=>by
   simp only[aP] at h
   split at h
   ·rename_i c hc
    cases h
    cases k with
    |sc _ hs=>simp[AV.simple] at hs
    |es _ _ hs=>exact(hs rfl).elim
    |sl _ _ _ _ L hL=>exact .sl b o n q L (by unfold dY;rw[hc];exact hL)
   ·cases h
 | .map (some b),u,v',h,k=>by
   simp only[aP] at h
   split at h
   ·rename_i c hc
    cases h
    cases k with
    |sc _ hs=>simp[AV.simple] at hs
    |map _ L hL=>exact .map b L (by unfold dY;rw[hc];exact hL)
   ·cases h
 | .agg ⟨l⟩,u,v',h,k=>by
   simp only[aP] at h
   split at h
   ·rename_i m hm
    cases h
    cases k with
    |sc _ hs=>simp[AV.simple] at hs
    |agg _ a' ha=>exact .agg _ _ (mD hm ha)
   ·cases h
 | .tuple ⟨l⟩,u,v',h,k=>by
   simp only[aP] at h
   split at h
   ·rename_i m hm
    cases h
    cases k with
    |sc _ hs=>simp[AV.simple] at hs
    |tuple _ a' ha=>exact .tuple _ _ (mD hm ha)
   ·cases h
 | .func (.func f) ⟨a⟩ ⟨c⟩,u,v',h,k=>by
   simp only[aP] at h
   split at h
   ·rename_i a1 ha1
    split at h
    ·rename_i c1 hc1
     cases h
     cases k with
     |sc _ hs=>simp[AV.simple] at hs
     |fn _ _ a' _ c' p q=>exact .fn f _ _ _ _ (mD ha1 p) (mD hc1 q)
    ·cases h
   ·cases h
 | .bool x,u,v',h,k=>by simp only[aP,Option.some.injEq] at h;subst h;cases k;exact .sc _ rfl
 | .int q x,u,v',h,k=>by simp only[aP,Option.some.injEq] at h;subst h;cases k;exact .sc _ rfl
 | .string s,u,v',h,k=>by simp only[aP,Option.some.injEq] at h;subst h;cases k;exact .sc _ rfl
 | .float a b,u,v',h,k=>by simp only[aP,Option.some.injEq] at h;subst h;cases k;exact .sc _ rfl
 | .pointer none,u,v',h,k=>by simp only[aP,Option.some.injEq] at h;subst h;cases k;exact .sc _ rfl
 | .slice none _ _,u,v',h,k=>by simp only[aP,Option.some.injEq] at h;subst h;cases k;exact .sc _ rfl
 | .map none,u,v',h,k=>by simp only[aP,Option.some.injEq] at h;subst h;cases k;exact .sc _ rfl
 | .nilFunc,u,v',h,k=>by simp only[aP,Option.some.injEq] at h;subst h;cases k;exact .sc _ rfl
 | .nilIface,u,v',h,k=>by simp only[aP,Option.some.injEq] at h;subst h;cases k;exact .sc _ rfl
 | .pointer (some ⟨_,_,some _⟩),u,v',h,k=>by simp[aP] at h
 | .slice (some ⟨_,_,some _⟩) 0 0,u,v',h,k=>by
   simp only[aP,Option.some.injEq] at h;subst h
   cases k with
   |sc _ _=>exact .sc _ rfl
   |es _ _ hs=>exact .es _ _ hs
 | .slice (some ⟨_,_,some _⟩) (_+1) _,u,v',h,k=>by simp[aP] at h
 | .slice (some ⟨_,_,some _⟩) 0 (_+1),u,v',h,k=>by simp[aP] at h
 | .complex _ _ _,u,v',h,k=>by simp[aP] at h
 | .chan _,u,v',h,k=>by simp[aP] at h
 | .iface _ _,u,v',h,k=>by simp[aP] at h
 | .func (.method _) _ _,u,v',h,k| .func (.methodOf _ _) _ _,u,v',h,k| .func (.via _ _ _ _) _ _,u,v',h,k| .func (.yield _) _ _,u,v',h,k=>by simp[aP] at h
theorem mD{σ:Nat->Option Nat}{ρ:aX}: ∀{l m l':List Value},aS σ l=some m->cU ρ m l'->cU (dY σ ρ) l l'
 |[],m,l',h,k=>by simp only[aS,Option.some.injEq] at h;subst h;cases k;exact .nil
 |v::l,m,l',h,k=>by
  simp only[aS] at h
  split at h
  ·rename_i u hu
   split at h
   ·rename_i m1 hm
    cases h
    cases k with
    |cons _ v1 _ l1 p q=>exact .cons _ _ _ _ (kM hu p) (mD hm q)
   ·cases h
  ·cases h
end
theorem Bc{σ:Nat->Option Nat}: ∀{l m:List Value},aS σ l=some m->m.length=l.length/\ ∀(i:Nat)(v:Value),l[i]? =some v-> ∃u,m[i]? =some u/\aP σ v=some u
 |[],m,h=>by simp only[aS,Option.some.injEq] at h;subst h;exact⟨rfl,fun i v hv=>by simp at hv⟩
 |a::l,m,h=>by
  simp only[aS] at h
  split at h
  ·rename_i u hu
   split at h
   ·rename_i m1 hm
    cases h
    obtain⟨k1,k2⟩:=Bc hm
    refine⟨by simp[k1],fun i v hv=>?_⟩
    cases i with
    |zero=>simp at hv;subst hv;exact⟨u,rfl,hu⟩
    |succ i=>simpa using k2 i v (by simpa using hv)
   ·cases h
  ·cases h
theorem EO{σ:Nat->Option Nat}{ρ:aX}: ∀{l m l':List MapEntry},g9 σ l=some m->iA ρ m l'->iA (dY σ ρ) l l'
 |[],m,l',h,k=>by simp only[g9,Option.some.injEq] at h;subst h;cases k;exact .nil
 |e::l,m,l',h,k=>by
  simp only[g9] at h
  split at h
  ·rename_i kk vv hk hv
   split at h
   ·rename_i m1 hm
    cases h
    cases k with
    |cons _ e1 _ l1 p q=>exact .cons _ _ _ _ ⟨kM hk p.1,kM hv p.2.1,p.2.2⟩ (EO hm q)
   ·cases h
  ·cases h
theorem oG{σ:Nat->Option Nat}{ρ:aX}{L:Loc}{o o1:aa}{x:Obj}(h:aD σ o=some o1)(k:OR ρ L o1 x):OR (dY σ ρ) L o x:=by
 cases o with
 |az b=>
  simp only[aD] at h
  split at h
  ·rename_i cs hcs
   cases h
   cases x<;>simp only[OR] at k ⊢ <;>first|exact k.elim|skip
   obtain⟨r1,r2⟩:=Bc hcs
   obtain⟨k1,k2,k3,k4,k5,k6,k7,k8⟩:=k
   refine⟨k1,by rw[←r1];exact k2,k3,fun i v hv=>?_,k5,k6,k7,k8⟩
   obtain⟨u,hu,hru⟩:=r2 i v hv
   obtain⟨v',q1,q2⟩:=k4 i u hu
   exact⟨v',q1,kM hru q2⟩
  ·cases h
 |map es c=>
  simp only[aD] at h
  split at h
  ·rename_i es' hes
   cases h
   cases x<;>simp only[OR] at k ⊢ <;>first|exact k.elim|skip
   exact⟨EO hes k.1,k.2⟩
  ·cases h
 |qp s p=>
  simp only[aD,Option.some.injEq] at h
  subst h
  cases x<;>simp only[OR] at k ⊢ <;>first|exact k.elim|exact k
 |dK m since seen st=>
  cases m with
  |none=>
   simp only[aD,Option.some.injEq] at h
   subst h
   cases x<;>simp only[OR] at k ⊢ <;>first|exact k.elim|exact k
  |some m=>
   simp only[aD] at h
   split at h
   ·rename_i c hc
    cases h
    cases x<;>simp only[OR] at k ⊢ <;>first|exact k.elim|skip
    obtain⟨⟨L0,k1,k2⟩,k3⟩:=k
    exact⟨⟨L0,by unfold dY;rw[hc];exact k1,k2⟩,k3⟩
   ·cases h
 |loop _=>simp[aD] at h
 |gm _=>simp[aD] at h
theorem eS{σ:Nat->Option Nat}{o o1:aa}(h:aD σ o=some o1):o1.owned=o.owned:=by
 cases o with
 |az b=>
  simp only[aD] at h
  split at h
  ·cases h;rfl
  ·cases h
 |map es c=>
  simp only[aD] at h
  split at h
  ·cases h;rfl
  ·cases h
 |qp s p=>simp only[aD,Option.some.injEq] at h;subst h;rfl
 |dK m _ _ _=>
  cases m with
  |none=>simp only[aD,Option.some.injEq] at h;subst h;rfl
  |some m=>
   simp only[aD] at h
   split at h
   ·cases h;rfl
   ·cases h
 |loop _=>simp[aD] at h
 |gm _=>simp[aD] at h
structure LG(base:Nat)(fr1:Fr)(h1:Hs)(fr2:Fr)(h2:Hs)(σ:Nat->Option Nat):Prop where
 n:fr2.n=fr1.n
 d1:fr1.gm=[]
 d2:fr2.gm=[]
 tm: ∀t,rd fr2.tm t=tP\/aP σ (rd fr2.tm t)=some (rd fr1.tm t)\/(rd fr2.tm t=undef/\fr1.n<=t)
 hp: ∀b o,h2.heap.get b=some o-> ∃c o1,σ b=some c/\h1.heap.get c=some o1/\aD σ o=some o1
 inj: ∀b b' c,σ b=some c->σ b'=some c->b=b'
 fz: ∀b,cO<=b->σ b=some b
 lo: ∀b c,b<cO->σ b=some c->base<=b/\b<h2.next
 nx:base<=h2.next/\h2.next<=cO
 UT:h1.next<=cO
structure jC(ρ:aX)(H:HF)(w:World)(ρ':aX)(H':HF)(w':World):Prop where
 os:w'.os=w.os
 tape:w'.tape=w.tape
 output:w'.output=w.output
 size:w.heap.size<=w'.heap.size
 same: ∀r,r<w.heap.size->(∀b o L,H b=some o->o.owned=true->ρ b=some L->L.φ≠r)->w'.heap[r]? =w.heap[r]?
 own: ∀b o L,H' b=some o->o.owned=true->ρ' b=some L->(∃i oi Li,H i=some oi/\oi.owned=true/\ρ i=some Li/\Li.φ=L.φ)\/w.heap.size<=L.φ
 any: ∀b o L,H' b=some o->ρ' b=some L->(∃i oi Li,H i=some oi/\ρ i=some Li/\Li.φ=L.φ)\/w.heap.size<=L.φ
theorem Step.core{ρ ρ':aX}{H H':HF}{w w':World}{lo hi:Nat}(h:Step ρ H w ρ' H' w' lo hi):jC ρ H w ρ' H' w':=⟨h.os,h.tape,h.output,h.size,h.same,h.own,h.any⟩
theorem jC.refl(ρ:aX)(H:HF)(w:World):jC ρ H w ρ H w:=(Step.refl ρ H w 0 0).core
theorem jC.trans{ρ ρ1 ρ2:aX}{H H1 H2:HF}{w w1 w2:World}(h:jC ρ H w ρ1 H1 w1)(k:jC ρ1 H1 w1 ρ2 H2 w2):jC ρ H w ρ2 H2 w2:=by
 refine⟨k.os.trans h.os,k.tape.trans h.tape,k.output.trans h.output,Nat.le_trans h.size k.size,?_,?_,?_⟩
 ·intro r hr hno
  rw[k.same r (Nat.lt_of_lt_of_le hr h.size) ?_,h.same r hr hno]
  intro i o L hi ho hL he
  rcases h.own i o L hi ho hL with ⟨j,oj,Lj,hj,hoj,hLj,hej⟩|hge
  ·exact hno j oj Lj hj hoj hLj (hej.trans he)
  ·omega
 ·intro i o L hi ho hL
  rcases k.own i o L hi ho hL with ⟨j,oj,Lj,hj,hoj,hLj,hej⟩|hge
  ·rcases h.own j oj Lj hj hoj hLj with ⟨m,om,Lm,hm,Ft,hLm,hem⟩|hge
   ·exact .inl ⟨m,om,Lm,hm,Ft,hLm,hem.trans hej⟩
   ·exact .inr (hej ▸ hge)
  ·exact .inr (Nat.le_trans h.size hge)
 ·intro i o L hi hL
  rcases k.any i o L hi hL with ⟨j,oj,Lj,hj,hLj,hej⟩|hge
  ·rcases h.any j oj Lj hj hLj with ⟨m,om,Lm,hm,hLm,hem⟩|hge
   ·exact .inl ⟨m,om,Lm,hm,hLm,hem.trans hej⟩
   ·exact .inr (hej ▸ hge)
  ·exact .inr (Nat.le_trans h.size hge)
def Told(base:Nat)(ρ0:aX)(H0:HF)(w0:World)(fr:Fr)(h:Hs)(a:Act)(w:World):Prop:=
 ∃ρ,eZ ρ fr a/\aM ρ h.heap.get w/\jC ρ0 H0 w0 ρ h.heap.get w/\(∀b,cO<=b->ρ b=ρ0 b)/\(∀b L,b<cO->ρ b=some L->base<=b/\b<h.next)/\h.next<=cO
theorem xA{base:Nat}{ρ0:aX}{H0:HF}{w0:World}{fr1 fr2:Fr}{h1 h2:Hs}{σ:Nat->Option Nat}(hw:LG base fr1 h1 fr2 h2 σ){ρ1:aX}{a:Act}{w:World}
 (x1:eZ ρ1 fr1 a) (x2:aM ρ1 h1.heap.get w) (x3:jC ρ0 H0 w0 ρ1 h1.heap.get w) (x4: ∀b,cO<=b->ρ1 b=ρ0 b):Told base ρ0 H0 w0 fr2 h2 a w:=by
 refine⟨dY σ ρ1,⟨⟨by rw[hw.n];exact x1.tr.1,fun t=>?_⟩,?_⟩,⟨fun b o hb=>?_,fun i j oi oj Li Lj hi hj hij ho hLi hLj=>?_⟩,x3.trans ?_,fun b hb=>?_,fun b L hb hL=>?_,hw.nx.2⟩
 ·rcases hw.tm t with h|h|⟨h,hn⟩
  ·exact .inl h
  ·rcases x1.tr.2 t with k|k
   ·rw[k] at h
    exfalso
    generalize rd fr2.tm t=v at h
    unfold tP at h
    cases v with
    |chan _=>simp[aP] at h
    |pointer p=>
     rcases p with _|⟨b,o,s⟩
     ·simp[aP] at h
     ·cases s<;>simp only[aP] at h<;>first|cases h|(split at h<;>cases h)
    |slice p n c=>
     rcases p with _|⟨b,o,s⟩
     ·simp[aP] at h
     ·cases s<;>cases n<;>cases c<;>first|(simp only[aP] at h;cases h;done)|(simp only[aP] at h;split at h<;>cases h;done)|(simp[aP] at h;done)
    |map p=>
     cases p<;>simp only[aP] at h<;>first|cases h|(split at h<;>cases h)
    |agg l=>obtain⟨l⟩:=l;simp only[aP] at h;split at h<;>cases h
    |tuple l=>obtain⟨l⟩:=l;simp only[aP] at h;split at h<;>cases h
    |func f x y=>
     obtain⟨x⟩:=x;obtain⟨y⟩:=y
     cases f<;>simp only[aP] at h<;>first|cases h|(split at h<;>first|cases h|(split at h<;>cases h))
    |_=>simp[aP] at h
   ·exact .inr (kM h k)
  ·rw[h]
   have:a.tmps.getD t undef=undef:=by
    rw[Array.getD_eq_getD_getElem?,Array.getElem?_eq_none (by rw[x1.tr.1];exact hn)];rfl
   rw[this]
   exact .inr .undef
 ·have:=x1.ds
  rw[hw.d1] at this
  rw[hw.d2]
  generalize a.defers=ds at this ⊢
  cases this
  exact .nil
 ·obtain⟨c,o1,hc,hb1,ho⟩:=hw.hp b o hb
  obtain⟨L,x,hL,hx,hR⟩:=x2.obj c o1 hb1
  exact⟨L,x,by unfold dY;rw[hc];exact hL,hx,oG ho hR⟩
 ·obtain⟨ci,o1,hci,hi1,hoi⟩:=hw.hp i oi hi
  obtain⟨cj,o2,hcj,hj1,hoj⟩:=hw.hp j oj hj
  unfold dY at hLi hLj
  rw[hci] at hLi
  rw[hcj] at hLj
  exact x2.inj ci cj o1 o2 Li Lj hi1 hj1 (fun e=>hij (hw.inj i j ci hci (by rw[e];exact hcj))) (by rw[eS hoj];exact ho) hLi hLj
 ·refine⟨rfl,rfl,rfl,Nat.le_refl _,fun _ _ _=>rfl,fun b o L hb ho hL=>?_,fun b o L hb hL=>?_⟩
  ·obtain⟨c,o1,hc,hb1,ho1⟩:=hw.hp b o hb
   unfold dY at hL
   rw[hc] at hL
   exact .inl ⟨c,o1,L,hb1,by rw[eS ho1];exact ho,hL,rfl⟩
  ·obtain⟨c,o1,hc,hb1,ho1⟩:=hw.hp b o hb
   unfold dY at hL
   rw[hc] at hL
   exact .inl ⟨c,o1,L,hb1,hL,rfl⟩
 ·unfold dY
  rw[hw.fz b hb]
  exact x4 b hb
 ·unfold dY at hL
  split at hL
  ·rename_i c hc
   exact hw.lo b c hb hc
  ·cases hL
theorem F8{base:Nat}{ρ0:aX}{h0:Hs}{w0:World}{fr:Fr}{h:Hs}{a:Act}{w:World}(hb:base=h0.next)(hf:bD ρ0 h0.next h.next)(ht:Told base ρ0 h0.heap.get w0 fr h a w):w7 ρ0 h0 w0 fr h a w:=by
 obtain⟨ρ,x1,x2,x3,x4,x5,x6⟩:=ht
 have hle:ρ.le (fun b=>if base<=b/\b<h.next then ρ b else ρ0 b):=by
  intro b L hL
  by_cases hbl:b<cO
  ·simp only[if_pos (x5 b L hbl hL)];exact hL
  ·have hn: ¬(base<=b/\b<h.next):=by omega
   simp only[if_neg hn]
   rw[←x4 b (by omega)];exact hL
 refine⟨_,x1.mono hle,⟨fun b o hbo=>?_,fun i j oi oj Li Lj hi hj hij ho hLi hLj=>?_⟩,⟨x3.os,x3.tape,x3.output,x3.size,x3.same,fun b o L hbo ho hL=>?_,fun b o L hbo hL=>?_,fun b L hL=>?_,fun b hb'=>?_⟩⟩
 ·obtain⟨L,x,hL,hx,hR⟩:=x2.obj b o hbo
  exact⟨L,x,hle _ _ hL,hx,hR.mono hle⟩
 ·obtain⟨Mi,_,hMi,_,_⟩:=x2.obj i oi hi
  obtain⟨Mj,_,hMj,_,_⟩:=x2.obj j oj hj
  have e1:=(hle _ _ hMi).symm.trans hLi
  have e2:=(hle _ _ hMj).symm.trans hLj
  cases e1
  cases e2
  exact x2.inj i j oi oj Li Lj hi hj hij ho hMi hMj
 ·obtain⟨M,_,hM,_,_⟩:=x2.obj b o hbo
  have e1:=(hle _ _ hM).symm.trans hL
  cases e1
  exact x3.own b o L hbo ho hM
 ·obtain⟨M,_,hM,_,_⟩:=x2.obj b o hbo
  have e1:=(hle _ _ hM).symm.trans hL
  cases e1
  exact x3.any b o L hbo hM
 ·have hn: ¬(base<=b/\b<h.next):=fun hc=>by
   have:=hf b (by omega) hc.2
   rw[this] at hL;cases hL
  simp only[if_neg hn];exact hL
 ·have hn: ¬(base<=b/\b<h.next):=by omega
  simp only[if_neg hn]
end
def gX(t:T aa):T aa:=t.rt.rt.rt.rt.rt.rt.rt.rt
def qA(z:T aa):T aa:= .node .leaf none (.node .leaf none (.node .leaf none (.node .leaf none (.node .leaf none (.node .leaf none (.node .leaf none (.node .leaf none z)))))))
theorem nT(t:T aa)(b:Nat):t.get (2*b+2)=t.rt.get b:=by
 rw[show 2*b+2=(2*b+1)+1 by omega,T.gl,if_neg (by omega),show(2*b+1) / 2=b by omega]
theorem fB(t:T aa)(b:Nat):t.get (256*b+510)=(gX t).get b:=by
 unfold gX
 have e1:256*b+510=2*(128*b+254)+2:=by omega
 have e2:128*b+254=2*(64*b+126)+2:=by omega
 have e3:64*b+126=2*(32*b+62)+2:=by omega
 have e4:32*b+62=2*(16*b+30)+2:=by omega
 have e5:16*b+30=2*(8*b+14)+2:=by omega
 have e6:8*b+14=2*(4*b+6)+2:=by omega
 have e7:4*b+6=2*(2*b+2)+2:=by omega
 rw[e1,nT,e2,nT,e3,nT,e4,nT,e5,nT,e6,nT,e7,nT,nT]
def cP:List Prop->Prop
 |[]=>True
 |p::l=>p/\cP l
theorem cP.append: ∀{a b:List Prop},cP (a++b)->cP a/\cP b
 |[],_,h=>⟨trivial,h⟩
 |_::_,_,h=>⟨⟨h.1,(cP.append h.2).1⟩,(cP.append h.2).2⟩
def rQ{α:Type}:List (Nat × α)->Nat->Option α
 |[],_=>none
 |(i,a)::l,n=>match Nat.beq i n with|true=>some a|false=>rQ l n
def Mz:List (Nat × Value)->Tm->Tm
 |[],t=>t
 |(i,v)::l,t=>(Mz l t).set i v
def bt:List (Nat × aa)->T aa->T aa
 |[],t=>t
 |(i,v)::l,t=>(bt l t).set i v
def full:Nat->Tm
 |0=> .leaf
 |d+1=> .node (full d) (some tP) (full d)
def nJ(n:Nat)(live:List (Nat × Value)):Fr:={tm:=Mz live (full 10),n:=n,gm:=[]}
def eC(z:T aa)(aU:List (Nat × aa))(nx:Nat):Hs:={heap:=bt aU (qA z),next:=nx,log:=[]}
def sig(σ:List (Nat × Nat))(b:Nat):Option Nat:=match Nat.ble cO b with
 |true=>some b
 |false=>rQ σ b
theorem dx{α:Type}: ∀{l:List (Nat × α)} {n:Nat} {a:α},rQ l n=some a->(n,a)∈l
 |(i,x)::l,n,a,h=>by
  simp only[rQ] at h
  split at h
  ·rename_i hb;cases h;rw[Nat.eq_of_beq_eq_true hb];exact List.mem_cons_self ..
  ·exact List.mem_cons_of_mem _ (dx h)
theorem ET: ∀(l:List (Nat × Value)) (t:Tm) (n:Nat),rd (Mz l t) n=match rQ l n with|some v=>v|none=>rd t n
 |[],t,n=>rfl
 |(i,v)::l,t,n=>by
  simp only[Mz,rQ]
  have hrs: ∀(tm:Tm)(d:Nat)(v:Value)(t:Nat),rd (tm.set d v) t=if t=d then v else rd tm t:=sn
  rw[hrs]
  by_cases h:n=i
  ·subst h
   rw[if_pos rfl]
   have:Nat.beq n n=true:=by simp
   rw[this]
  ·rw[if_neg h]
   have:Nat.beq i n=false:=by
    cases hb:Nat.beq i n with
    |false=>rfl
    |true=>exact absurd (Nat.eq_of_beq_eq_true hb).symm h
   rw[this]
   exact ET l t n
theorem nS: ∀(l:List (Nat × aa)) (t:T aa) (n:Nat),(bt l t).get n=match rQ l n with|some v=>some v|none=>t.get n
 |[],t,n=>rfl
 |(i,v)::l,t,n=>by
  simp only[bt,rQ]
  rw[T.aH]
  by_cases h:n=i
  ·subst h
   rw[if_pos rfl]
   have:Nat.beq n n=true:=by simp
   rw[this]
  ·rw[if_neg h]
   have:Nat.beq i n=false:=by
    cases hb:Nat.beq i n with
    |false=>rfl
    |true=>exact absurd (Nat.eq_of_beq_eq_true hb).symm h
   rw[this]
   exact nS l t n
theorem B9: ∀(d i:Nat),i+1<2 ^ d->(full d).get i=some tP
 |0,i,h=>by simp at h
 |d+1,0,_=>rfl
 |d+1,i+1,h=>by
  have h2:i / 2+1<2 ^ d:=by rw[Nat.pow_succ] at h;omega
  rw[T.gl]
  unfold full
  simp only[T.lt,T.rt]
  split<;>exact B9 d (i / 2) h2
theorem iX{z:T aa}{b:Nat}{o:aa}(h:(T.node .leaf none z).get b=some o): ∃m,b=2*m+2/\z.get m=some o:=by
 cases b with
 |zero=>simp[T.get] at h
 |succ b=>
  rw[T.gl] at h
  split at h
  ·simp[T.lt,T.dP] at h
  ·exact⟨b / 2,by omega,h⟩
theorem fp{z:T aa}{b:Nat}{o:aa}(h:(qA z).get b=some o): ∃k,b=256*k+510/\z.get k=some o:=by
 unfold qA at h
 obtain⟨m1,e1,h⟩:=iX h
 obtain⟨m2,e2,h⟩:=iX h
 obtain⟨m3,e3,h⟩:=iX h
 obtain⟨m4,e4,h⟩:=iX h
 obtain⟨m5,e5,h⟩:=iX h
 obtain⟨m6,e6,h⟩:=iX h
 obtain⟨m7,e7,h⟩:=iX h
 obtain⟨m8,e8,h⟩:=iX h
 exact⟨m8,by omega,h⟩
def N7(σ:List (Nat × Nat))(h:Hs):List (Nat × aa)->List Prop
 |[]=>[]
 |(b,o)::l=>(match rQ σ b with
  |some c=>match h.heap.get c with
   |some o1=>aD (sig σ) o=some o1
   |none=>False
  |none=>False)::N7 σ h l
def zW(a b:Nat):List (Nat × Nat)->Bool
 |[]=>true
 |(c,d)::l=> !(Nat.beq a c) && !(Nat.beq b d) && zW a b l
def n9:List (Nat × Nat)->Bool
 |[]=>true
 |(a,b)::l=>Nat.blt b cO && zW a b l && n9 l
theorem Ch{σ:List (Nat × Nat)}{h:Hs}: ∀{l:List (Nat × aa)},cP (N7 σ h l)-> ∀b o,(b,o)∈l-> ∃c o1,rQ σ b=some c/\h.heap.get c=some o1/\aD (sig σ) o=some o1
 |(t0,v0)::l,hp,t,v,hm=>by
  rcases List.mem_cons.1 hm with e|e
  ·cases e
   have:=hp.1
   split at this
   ·rename_i c hc
    split at this
    ·rename_i o1 ho;exact⟨c,o1,hc,ho,this⟩
    ·exact this.elim
   ·exact this.elim
  ·exact Ch hp.2 t v e
theorem pT{a b:Nat}: ∀{l:List (Nat × Nat)},zW a b l=true-> ∀c d,(c,d)∈l->a≠c/\b≠d
 |(a0,b0)::l,h,c,d,hm=>by
  simp only[zW,Bool.and_eq_true,Bool.not_eq_true'] at h
  rcases List.mem_cons.1 hm with e|e
  ·cases e;exact⟨Nat.ne_of_beq_eq_false h.1.1,Nat.ne_of_beq_eq_false h.1.2⟩
  ·exact pT h.2 c d e
theorem mQ: ∀{l:List (Nat × Nat)},n9 l=true->(∀a b,(a,b)∈l->b<cO)/\ ∀a b a' b',(a,b)∈l->(a',b')∈l->b=b'->a=a'
 |[],_=>⟨fun _ _ h=>(by cases h),fun _ _ _ _ h=>(by cases h)⟩
 |(a0,b0)::l,h=>by
  simp only[n9,Bool.and_eq_true] at h
  obtain⟨⟨h1,h2⟩,h3⟩:=h
  obtain⟨k1,k2⟩:=mQ h3
  rw[Nat.blt_eq] at h1
  refine⟨fun a b hm=>?_,fun a b a' b' hm hm' he=>?_⟩
  ·rcases List.mem_cons.1 hm with e|e
   ·cases e;exact h1
   ·exact k1 a b e
  ·rcases List.mem_cons.1 hm with e|e
   ·cases e
    rcases List.mem_cons.1 hm' with e'|e'
    ·cases e';rfl
    ·exact((pT h2 _ _ e').2 he).elim
   ·rcases List.mem_cons.1 hm' with e'|e'
    ·cases e';exact((pT h2 _ _ e).2 he.symm).elim
    ·exact k2 a b a' b' e e' he
structure W5 where
 base:Nat
 n:Nat
 σ:List (Nat × Nat)
 live:List (Nat × Value)
 aU:List (Nat × aa)
 nx:Nat
 e:af
 vR:List (Nat × Value)
 uI:List (Nat × aa)
 ff:Nat
inductive An where
 |auto
 |bool (b:Bool)
 |val (v:Value)
 |idx (i:Nat)
 |ld (b:Nat) (k:aV) (v:Value)
 |pP (v:Value)
 |fnd (b:Nat) (es:List MapEntry) (ck:Nat) (r:Option (Nat × Value))
 |fno (r:Option (Nat × Value))
 |cl (v:Value)
 |co (ids:List Nat) (v:Value)
 |lp (t:W5)
inductive Ask where
 |bool (v:Value)
 |op (tm:Tm) (h:Hs) (o:Oper)
 |call (f:Nat) (args:List Value) (h:Hs)
 |loop (c:Code) (fr:Fr) (h:Hs)
inductive Y (α:Type) where
 |ok (a:α) (l:List An) (ps:List Prop)
 |Dw (q:Ask)
 |no (why:Nat)
def Qo(P:Program)(z:T aa)(objs:List (Nat × aa))(f:Nat)(args:List Value)(v:Value):Prop:=aC v=true/\
 ∀(ρ:aX)(W:World)(args':List Value),(∀k o,z.get k=some o-> ∃L x,ρ (256*k+510)=some L/\W.heap[L.φ]? =some x/\OR ρ L o x)->(∀b o,(b,o)∈objs-> ∃L x,ρ b=some L/\W.heap[L.φ]? =some x/\OR ρ L o x)->cU ρ args args'->
  Calls P f ⟨args'⟩ W fun e w'=>e= .returned v/\RowKit.Below W.heap.size W w'
def vE(h:Hs):List Nat->Option (List (Nat × aa))
 |[]=>some []
 |b::l=>match h.heap.get b with
  |some o=>match vE h l with
   |some r=>some ((b,o)::r)
   |none=>none
  |none=>none
section
variable(P:Program)
def ai(k:aV)(t:TypeId)(off:Nat):Option Value:=
 match P.underlying t with
 |some d=>match lz d with
  |true=>match P.info? t with
   |some i=>match takeN i.size (je off k.cells) with
    |some cs=>some (.agg ⟨cs⟩)
    |none=>none
   |none=>none
  |false=>nth k.cells off
 |none=>none
theorem pJ{h:Hs}{b:Nat}{k:aV}(hb:h.heap.get b=some (.az k))(t:TypeId)(off:Nat):oH P h t b off=ai P k t off:=by
 unfold oH ai
 rw[hb]
 try rfl
def asks:Op->Bool
 | .pick _ _ _| .load _ _| .store _ _ _| .binOp _ _ _ _ _| .slice _ _ _ _ _| .indexAddr _ _ _| .index _ _ _| .lookup _ _ _ _| .mapUpdate _ _ _ _| .makeSlice _ _ _=>true
 | .call {callee:= .builtin .append, ..}=>true
 | .call {callee:= .builtin .min, ..}=>true
 | .call {callee:= .builtin .max, ..}=>true
 |_=>false
def IZ(tm:Tm)(h:Hs)(c a b:Operand)(x:Bool)(l:List An)(ps:List Prop):Y bZ:=match ev tm c with
 |some (.bool y)=>match (match x with|true=>ev tm a|false=>ev tm b) with
  |some v=> .ok (.val v h) l ((y=x)::ps)
  |none=> .no 3
 |_=> .no 4
def RA(tm:Tm)(h:Hs)(t:TypeId)(x ix:Operand)(i:Nat)(l:List An)(ps:List Prop):Y bZ:=match P.underlying t,ev tm x,ev tm ix with
 |some (.slice e),some (.slice (some a) n _),some (.int _ z)=>match P.info? e,a.spot with
  |some ei,none=> .ok (.val (.pointer (some ⟨a.block,a.off+i*ei.size,none⟩)) h) l ((z=(i:Int))::(i<n)::ps)
  |_,_=> .no 5
 |some (.array n e),some (.pointer (some a)),some (.int _ z)=>match P.info? e,a.spot with
  |some ei,none=> .ok (.val (.pointer (some ⟨a.block,a.off+i*ei.size,none⟩)) h) l ((z=(i:Int))::(i<n)::ps)
  |_,_=> .no 6
 |_,_,_=> .no 7
def Xe(tm:Tm)(h:Hs)(t:TypeId)(x:Operand)(b:Nat)(k:aV)(v:Value)(l:List An)(ps:List Prop):Y bZ:=match ev tm x with
 |some (.pointer (some ⟨az,off,none⟩))=> .ok (.val v h) l ((az=256*b+510)::((gX h.heap).get b=some (.az k))::(ai P k t off=some v)::ps)
 |_=> .no 8
def Rw(tm:Tm)(h:Hs)(t:TypeId)(x:Operand)(v:Value)(l:List An)(ps:List Prop):Y bZ:=match ev tm x with
 |some (.pointer (some ⟨az,off,none⟩))=>match h.heap.get az with
  |some (.az k)=> .ok (.val v h) l ((ai P k t off=some v)::ps)
  |_=> .no 9
 |_=> .no 10
def oM(t e:TypeId)(ok:Bool)(r:Option (Nat × Value))(h:Hs):Option bZ:=match r with
 |some (_,v)=>some (.val (match ok with|true=> .tuple #[v, .bool true]|false=>v) h)
 |none=>match P.info? e with
  |some i=>match i.zero with
   |some z=>match aC z with
    |true=>some (.val (match ok with|true=> .tuple #[z, .bool false]|false=>z) h)
    |false=>none
   |none=>none
  |none=>none
def RH(tm:Tm)(h:Hs)(t:TypeId)(m x:Operand)(ok:Bool)(b:Nat)(es:List MapEntry)(ck:Nat)(r:Option (Nat × Value))(l:List An)(ps:List Prop):Y bZ:=match P.underlying t,ev tm m,ev tm x with
 |some (.map kt e),some (.map (some az)),some k=>match sL P kt k,oM P t e ok r h with
  |true,some res=> .ok res l ((az=256*b+510)::((gX h.heap).get b=some (.map es ck))::(aE P kt k es 0=some r)::ps)
  |_,_=> .no 11
 |_,_,_=> .no 12
def RG(tm:Tm)(h:Hs)(t:TypeId)(m x:Operand)(ok:Bool)(r:Option (Nat × Value))(l:List An)(ps:List Prop):Y bZ:=match P.underlying t,ev tm m,ev tm x with
 |some (.map kt e),some (.map (some az)),some k=>match h.heap.get az,sL P kt k,oM P t e ok r h with
  |some (.map es _),true,some res=> .ok res l ((aE P kt k es 0=some r)::ps)
  |_,_,_=> .no 13
 |_,_,_=> .no 14
def QY(tm:Tm)(h:Hs)(t:TypeId)(m x v:Operand)(l:List An)(ps:List Prop):Y bZ:=match P.underlying t,ev tm m,ev tm x,ev tm v with
 |some (.map kt _),some (.map (some r)),some k,some u=>match sL P kt k,h.heap.get r with
  |true,some (.map es c)=> .ok (.skip {h with heap:=h.heap.set r (.map (es++[{key:=k,val:=u,born:=c}]) (c+1)),log:=r::h.log}) l ((aE P kt k es 0=some none)::ps)
  |_,_=> .no 15
 |_,_,_,_=> .no 16
def UQ(tm:Tm)(h:Hs)(o:Oper)(l:List An)(ps:List Prop):Y bZ:=match asks o.op with
 |false=>match ep P tm h o with|some r=> .ok r l ps|none=> .no 17
 |true=>match l with
  |[]=> .Dw (.op tm h o)
  | .auto::l=>match ep P tm h o with|some r=> .ok r l ps|none=> .no 18
  | .val v::l=>match ep P tm h o with|some (.val u h')=> .ok (.val v h') l ((u=v)::ps)|_=> .no 19
  | .bool x::l=>match o.op with| .pick c a b=>IZ tm h c a b x l ps|_=> .no 20
  | .idx i::l=>match o.op with| .indexAddr t x ix=>RA P tm h t x ix i l ps|_=> .no 21
  | .ld b k v::l=>match o.op with| .load t x=>Xe P tm h t x b k v l ps|_=> .no 22
  | .pP v::l=>match o.op with| .load t x=>Rw P tm h t x v l ps|_=> .no 23
  | .fnd b es ck r::l=>match o.op with| .lookup t m x ok=>RH P tm h t m x ok b es ck r l ps|_=> .no 24
  | .fno r::l=>match o.op,r with
    | .lookup t m x ok,r=>RG P tm h t m x ok r l ps
    | .mapUpdate t m x v,none=>QY P tm h t m x v l ps
    |_,_=> .no 25
  |_=> .no 26
variable(g:Nat->List Value->Option Value)(z:T aa)
def FD(f:Nat)(args:List Value)(h:Hs)(l:List An)(ps:List Prop):Y Value:=match l with
 |[]=> .Dw (.call f args h)
 | .auto::l=>match g f args with|some v=> .ok v l ((gX h.heap=z)::ps)|none=> .no 27
 | .cl v::l=> .ok v l ((gX h.heap=z)::(g f args=some v)::ps)
 |_=> .no 28
def Kw(f:Nat)(args:List Value)(h:Hs)(l:List An)(ps:List Prop):Y Value:=match l with
 | .co ids v::l=>match vE h ids with
   |some objs=> .ok v l ((gX h.heap=z)::Qo P z objs f args v::ps)
   |none=> .no 53
 |l=>FD g z f args h l ps
def lL(h:Hs)(ts:List Nat):Hs:={heap:=eB h ts,next:=h.next,log:=[]}
def Iv(mask i:Nat)(bw:List Rec)(tm:Tm)(h:Hs)(o:Oper)(l:List An)(ps:List Prop):Y (Value × Hs × Rec):=
 match asks o.op with
 |false=>match dM P mask i bw tm h o with|some r=> .ok r l ps|none=> .no 35
 |true=>match l with
  |[]=> .Dw (.op tm h o)
  | .auto::l=>match dM P mask i bw tm h o with|some r=> .ok r l ps|none=> .no 34
  | .ld b k v::l=>match o.op with
    | .load t x=>match Xe P tm h t x b k v l ps,dM.fin mask i bw h (bA tm h o) v (lL h (bA tm h o)) with
      | .ok _ l ps,some r=> .ok r l ps
      |_,_=> .no 36
    |_=> .no 37
  |a::l=>match UQ P tm (lL h (bA tm h o)) o (a::l) ps with
   | .ok (.val v h') l ps=>match dM.fin mask i bw h (bA tm h o) v h' with|some r=> .ok r l ps|none=> .no 38
   | .ok (.skip h') l ps=>match dM.fin mask i bw h (bA tm h o) undef h' with|some r=> .ok r l ps|none=> .no 39
   | .Dw q=> .Dw q
   | .no n=> .no n
   |_=> .no 40
end
end Go.AV
