/-
  A part of the proof: lemmas of my own.
-/
import Derived.Test.YtglogmeapcdmeaaGreatDoorProg
import Derived.WalkKit
import Derived.Below
import Derived.Laws.IdiomStrings
import Derived.Lib.Hide
import Derived.Laws.AppendOwn
import Derived.LoopTactic
import Derived.ScopeJumps
import GoSem.Dispatch
import Derived.Laws.World
import Derived.Laws.Sem
import Derived.Laws.Append
import GoSem.Machine.Return
import Derived.RangeFuncLeaves
import Derived.OrdersIn
import Derived.Laws.Cells
import Derived.IntWalk
import Derived.KernelRfl
import Derived.RangeFuncCalls
import Derived.TacticsIn
import Derived.LoopNIn
set_option linter.unusedVariables false
set_option linter.unusedSimpArgs false
namespace Go.Proofs.Nw
open Go Go.Proofs Go.RowKit
set_option maxRecDepth 1000000
def digit(m:Nat):UInt8:=UInt8.ofNat (48+m % 10)
def ft:Nat->Nat->List UInt8->List UInt8
 |0,_,l=>l
 |i+1,m,l=>if 0<m / 10 then ft i (m / 10) (digit m::l) else digit m::l
theorem heap_alloc(w:World)(o:Obj):(w.alloc o).heap[w.heap.size]? =some o:=by show(w.heap.push o)[w.heap.size]? =some o;exact Array.getElem?_push_size
theorem ZR(k:Nat)(h:k<18446744073709551616):k<2 ^ 64:=by simpa using h
theorem WD(k:Nat)(h:k<100000000000000000000):k<10 ^ (19+1):=by simpa using h
theorem p19(k:Nat)(h:k<10000000000000000000):k<10 ^ 19:=by simpa using h
theorem qR: ∀(i m:Nat)(l:List UInt8),(ft i m l).length<=i+l.length
 |0,m,l=>by simp[ft]
 |i+1,m,l=>by
  unfold ft
  split
  ·have:=qR i (m / 10) (digit m::l);simp at this;omega
  ·simp;omega
theorem FN(m:Nat):(48+(m:Int) % 10)=((digit m).toNat:Int):=by
 unfold digit
 have:(48+m % 10)<256:=by omega
 simp[UInt8.toNat_ofNat',Nat.mod_eq_of_lt this]
theorem N1(w:World)(m:Nat):(convert 57 9 (Value.slice (some ⟨w.heap.size,0,none⟩) 1 1)).run Tryz.prog (w.alloc (Obj.cells #[Value.int .u8 (48+(m:Int) % 10)] 5))=
 .ok (.string ⟨[digit m].toArray⟩) (w.alloc (Obj.cells #[Value.int .u8 (48+(m:Int) % 10)] 5)):=by
 refine run_convert_bytes_back (P:=Tryz.prog) _ 57 9 5 ⟨w.heap.size,0,none⟩ 1 [digit m] (by kernel_rfl) (by kernel_rfl) (by kernel_rfl) ?_
 intro j hj
 have:j=0:=by simpa using hj
 subst this
 show(match (w.alloc (Obj.cells #[Value.int .u8 (48+(m:Int) % 10)] 5)).heap[w.heap.size+0]? with|some (Obj.cells c _ _)=>c[0]? |_=>none)=_
 rw[Nat.add_zero,heap_alloc]
 simp[FN]
theorem Qj(w:World)(m:Nat):(convert 57 9 (Value.slice (some ⟨w.heap.size,0,none⟩) 1 1)).run Tryz.prog (w.alloc (Obj.cells #[Value.int .u8 (48+(m:Int) / 10 % 10)] 5))=
 .ok (.string ⟨[digit (m / 10)].toArray⟩) (w.alloc (Obj.cells #[Value.int .u8 (48+(m:Int) / 10 % 10)] 5)):=by
 have:=N1 w (m / 10)
 simpa using this
theorem Bg(n:Nat)(w:World)(hn:n<=9223372036854775807):
 Calls Tryz.prog 34 #[.int .i64 n] w fun e w'=>e= .returned (.string ⟨(ft 20 n []).toArray⟩)/\Below w.heap.size w w':=by
 have h0:(0:Int)<=(n:Int):=Int.natCast_nonneg _
 have h1:(n:Int)<=9223372036854775807:=by omega
 have hc:=N1
 have hc':=Qj
 go_enter Tryz.func34,Tryz.ntmps34
 go_wp2
 go_loopw [0,3] (fun x s wr=> ∃(k m:Nat)(l:List UInt8),k<20/\m<10 ^ (k+1)/\m<=9223372036854775807/\l.length+(k+1)=20/\x= .int .i64 m/\s= .string ⟨(digit m::l).toArray⟩/\ft (k+1) m l=ft 20 n []/\Below w.heap.size w wr) (fun x _ _=>(intOf x).toNat)
 case atStart=>exact⟨19,n,[],by omega,by have:=WD n (by omega);simpa using this,hn,rfl,rfl,rfl,rfl,(Below.refl _ _).alloc (Nat.le_refl _) _⟩
 case round=>
  obtain⟨k,m,l,hk,hm,hmm,hl,rfl,rfl,hg,hb⟩:=hrel
  have m0:(0:Int)<=(m:Int):=Int.natCast_nonneg _
  have m1:(m:Int)<=9223372036854775807:=by omega
  have q0:(0:Int)<=(m:Int) / 10:=by omega
  have q1:(m:Int) / 10<=9223372036854775807:=by omega
  have hs: ¬(9223372036854775807<1+(l.length+1)):=by omega
  have HG:=Lib.hid hg
  have HL:=Lib.hid hl
  clear hg hl
  by_cases hlt:10<=m
  ·have hlt':(10:Int)<=(m:Int):=by omega
   go_wp2
   have hm':0<m / 10:=by omega
   obtain⟨j,rfl⟩: ∃j,k=j+1:=⟨k - 1,by
    have:k≠0:=fun h=>by subst h;simp at hm;omega
    omega⟩
   refine⟨⟨j,m / 10,digit m::l,by omega,by rw[Nat.pow_succ] at hm;omega,by omega,by have:=HL.out;simp;omega,by simp,?_,?_,hb.trans (((Below.refl _ _).alloc (Nat.le_refl _) _).mono hb.size)⟩,by simp[intOf];omega⟩
   ·congr 1
   ·rw[←HG.out]
    conv=>rhs;rw[ft,if_pos hm']
  ·have hlt': ¬(10:Int)<=(m:Int):=by omega
   go_wp2
   go_ret
   refine⟨?_,hb⟩
   rw[←HG.out,ft,if_neg (by omega)]
   rfl
def dec(n:Int):List UInt8:=(if n<0 then [45] else [])++ft 20 n.natAbs []
def aB(n:Int):ByteArray:=⟨(dec n).toArray⟩
theorem eU(n:Int)(w:World)(hlo: -9223372036854775808<=n)(hhi:n<=9223372036854775807):
 Calls Tryz.prog 18 #[.int .i64 n] w fun e w'=>e= .returned (.string (aB n))/\Below w.heap.size w w':=by
 by_cases hz:n= -9223372036854775808
 ·subst hz
  go_enter Tryz.func18,Tryz.ntmps18
  go_wp2
  go_ret
  exact⟨by rfl,Below.refl _ _⟩
 ·have hz':(n== -9223372036854775808)=false:=by simpa using hz
  by_cases hn:n<0
  ·obtain⟨m,rfl⟩: ∃m:Nat,n= -(m:Int):=⟨n.natAbs,by omega⟩
   have hm:0<m:=by omega
   have hdec:dec (-(m:Int))=[45]++ft 20 m []:=by simp[dec,hm]
   have HD:=Lib.hid hdec
   clear hdec
   have hs: ¬(9223372036854775807<1+(ft 20 m []).length):=by
    have:=qR 20 m []
    simp at this
    omega
   go_enter Tryz.func18,Tryz.ntmps18
   go_wp2_with (go_at_call 34;refine(Bg m _ (by omega)).mono ?_;rintro e w' ⟨rfl,hb⟩)
   go_ret
   refine⟨?_,hb⟩
   simp only[aB,HD.out]
   rfl
  ·obtain⟨m,rfl⟩: ∃m:Nat,n=(m:Int):=⟨n.toNat,by omega⟩
   have hdec:dec (m:Int)=ft 20 m []:=by simp[dec]
   have HD:=Lib.hid hdec
   clear hdec
   go_enter Tryz.func18,Tryz.ntmps18
   go_wp2_with (go_at_call 34;refine(Bg m _ (by omega)).mono ?_;rintro e w' ⟨rfl,hb⟩)
   go_ret
   refine⟨?_,hb⟩
   simp only[aB,HD.out]
   rfl
def Jf(w0:World)(n:Int)(goal:List UInt8)(a:Act)(w:World):Prop:=
 ∃(k:Nat)(m:Nat)(c:Array Value)(l:List UInt8)(u6 u7 u8 u9 u10 u11 u12 u13 u14 u15 u16 u17 u18 u19 u20 u21 u22 u23:Value),k<20/\m<10 ^ (k+1)/\m<2 ^ 64/\(n<0->0<m/\m<10 ^ k)/\c.size=20/\
  l.length+(k+1)=20/\(∀j (hj:j<l.length),c[k+1+j]? =some (Value.int .u8 l[j].toNat))/\ft (k+1) m l=goal/\
  w.heap[w0.heap.size]? =some (.cells c 89 (0,0))/\Below w0.heap.size w0 w/\w.heap.size=w0.heap.size+1/\
  a={tmps:= #[.int .i64 n,undef, .string {data:= #[]}, .pointer (some ⟨w0.heap.size,0,none⟩), .int .i64 (k+1:Nat), .int .u64 m,
   u6,u7,u8,u9,u10,u11,u12,u13,u14,u15,u16,u17,u18,u19,u20,u21,u22,u23,undef,undef,undef,undef,undef,undef,undef,undef,undef],defers:=[]}
theorem kh{w':World}{b k:Nat}{c:Array Value}{l:List UInt8}{d:UInt8}(h11:w'.heap[b]? =some (.cells c 89 (0,0)))(h6:c.size=20)(h7:l.length+(k+1)=20)
 (h8: ∀j (hj:j<l.length),c[k+1+j]? =some (Value.int .u8 l[j].toNat)):
 (w'.setCell ⟨b,k,none⟩ (.int .u8 d.toNat)).heap[b]? =some (.cells (c.setIfInBounds k (.int .u8 d.toNat)) 89 (0,0))/\
   ∀j (hj:j<(d::l).length),(c.setIfInBounds k (.int .u8 d.toNat))[k+j]? =some (Value.int .u8 (d::l)[j].toNat):=by
 have hb:b<w'.heap.size:=(Array.getElem?_eq_some_iff.1 h11).1
 refine⟨by simp[World.setCell,Array.getElem?_modify,h11],fun j hj=>?_⟩
 cases j with
 |zero=>simp[show k<c.size by omega]
 |succ j=>
  rw[Array.getElem?_setIfInBounds_ne (by omega)]
  have:=h8 j (by simpa using hj)
  rw[show k+(j+1)=k+1+j by omega,this]
  rfl
theorem sn{P:Program}{c rest:Code}{Q:Exit->Act->World->Prop}{a:Act}{w:World}(l:Nat)(J:Act->World->Prop)(μ:Act->World->Nat)(hf:findLabel c l=some (.seq .skip rest))
 (first:(∀a w,J a w->rest.wp P (Exit.jump l J Q) a w)->c.wp P (Exit.jump l J Q) a w)
 (pass: ∀a w,J a w->rest.wp P (Exit.jump l (fun a' w'=>J a' w'/\μ a' w'<μ a w) Q) a w):(Code.scope c).wp P Q a w:=by
 refine wp_scope_jumps l J μ hf (first fun a w hJ=>?_) (fun a w hJ=>?_)
 ·refine wp_mono (pass a w hJ) ?_
  intro e a' w' h
  cases e<;>first|exact h|exact⟨h.1,h.2.1⟩
 ·refine wp_seq (wp_skip ?_)
  exact pass a w hJ
theorem Sn(n:Int)(w:World)(hlo: -9223372036854775808<=n)(hhi:n<=9223372036854775807):
 Calls Tryz.prog 15 #[.int .i64 n] w fun e w'=>e= .returned (.string ⟨((if n<0 then [45] else [])++ft 20 n.natAbs []).toArray⟩)/\Below w.heap.size w w':=by
 go_enter Tryz.func15,Tryz.ntmps15
 go_wp2
 refine sn 0 (Jf w n (ft 20 n.natAbs [])) (fun a' _=>(match a'.tmps.getD 4 undef with| .int _ q=>q.toNat|_=>0)) rfl ?_ ?_
 ·intro hrest
  by_cases hn:n<0
  ·have hu:IntKind.u64.wrap (-IntKind.u64.wrap n)=(n.natAbs:Int):=by
    simp[IntKind.wrap,IntKind.bits,IntKind.signed];omega
   have HU:=Lib.hid hu
   clear hu
   go_wp2
   go_step3
   simp only[Exit.then]
   rename_i hK
   rw[HU.out]
   refine hK _ _ (hrest _ _ ⟨19,n.natAbs,(List.replicate 20 (Value.int .u8 0)).toArray,[],_,_,_,_,_,_,_,_,_,_,_,_,_,_,_,_,_,_,by omega,WD _ (by omega),ZR _ (by omega),fun _=>⟨by omega,p19 _ (by omega)⟩,rfl,rfl,fun j hj=>by simp at hj,rfl,?_,(Below.refl _ _).alloc (Nat.le_refl _) _,by simp,rfl⟩)
   exact(heap_alloc _ _)
  ·obtain⟨m,rfl⟩: ∃m:Nat,n=m:=⟨n.toNat,by omega⟩
   go_wp2
   go_step3
   simp only[Exit.then]
   rename_i hK
   refine hK _ _ (hrest _ _ ⟨19,m,(List.replicate 20 (Value.int .u8 0)).toArray,[],_,_,_,_,_,_,_,_,_,_,_,_,_,_,_,_,_,_,by omega,WD _ (by omega),ZR _ (by omega),fun h=>absurd h (by omega),rfl,rfl,fun j hj=>by simp at hj,rfl,?_,(Below.refl _ _).alloc (Nat.le_refl _) _,by simp,rfl⟩)
   exact(heap_alloc _ _)
 ·rintro a' w' ⟨k,m,c,l,u6,u7,u8,u9,u10,u11,u12,u13,u14,u15,u16,u17,u18,u19,u20,u21,u22,u23,h2,h3,h4,h5,h6,h7,h8,h10,h11,h12,h13,rfl⟩
  have e1:((k+1:Nat):Int) - 1=(k:Int):=by omega
  have hcell: ∃x,w'.cell? ⟨w.heap.size,k,none⟩=some x:=by
   have:k<c.size:=by omega
   exact⟨c[k],by simp[World.cell?,h11,this]⟩
  obtain⟨x,hcell⟩:=hcell
  have hfz:w'.frozen? ⟨w.heap.size,k,none⟩=false:=by simp[World.frozen?,h11]
  by_cases hm:0<(m:Int) / 10
  ·go_wp2
   go_step3
   have hd:(48+(m:Int) % 10)=((digit m).toNat:Int):=by
    unfold digit
    have:(48+m % 10)<256:=by omega
    simp[UInt8.toNat_ofNat',Nat.mod_eq_of_lt this]
   have hm':0<m / 10:=by omega
   obtain⟨j,rfl⟩: ∃j,k=j+1:=⟨k - 1,by
    have:k≠0:=fun h=>by subst h;omega
    omega⟩
   rw[hd]
   obtain⟨g1,g2⟩:=kh (d:=digit m) h11 h6 h7 h8
   refine⟨rfl,⟨j,m / 10,_,digit m::l,_,_,_,_,_,_,_,_,_,_,_,_,_,_,_,_,_,_,by omega,?_,by omega,?_,by simp[h6],by simp;omega,g2,?_,g1,h12.setCell (by simp) _,by simp[World.setCell,h13],rfl⟩,?_⟩
   ·rw[Nat.pow_succ] at h3;omega
   ·intro hn
    obtain⟨q1,q2⟩:=h5 hn
    rw[Nat.pow_succ] at q2
    exact⟨hm',by omega⟩
   ·rw[←h10]
    conv=>rhs;rw[ft,if_pos hm']
   ·simp only[Array.getD_eq_getD_getElem?]
    simp;omega
  ·by_cases hn:n<0
   ·obtain⟨j,rfl⟩: ∃j,k=j+1:=⟨k - 1,by
     obtain⟨q1,q2⟩:=h5 hn
     have:k≠0:=fun h=>by subst h;omega
     omega⟩
    have e2:((j+1:Nat):Int) - 1=(j:Int):=by omega
    have hd:(48+(m:Int) % 10)=((digit m).toNat:Int):=by
     unfold digit
     have:(48+m % 10)<256:=by omega
     simp[UInt8.toNat_ofNat',Nat.mod_eq_of_lt this]
    obtain⟨g1,g2⟩:=kh (d:=digit m) h11 h6 h7 h8
    obtain⟨f1,f2⟩:=kh (k:=j) (d:=45) g1 (by simp[h6]) (by simp;omega) g2
    have hfz2:(w'.setCell ⟨w.heap.size,j+1,none⟩ (.int .u8 (digit m).toNat)).frozen? ⟨w.heap.size,j,none⟩=false:=by simp[World.frozen?,g1]
    have hcell2: ∃y,(w'.setCell ⟨w.heap.size,j+1,none⟩ (.int .u8 (digit m).toNat)).cell? ⟨w.heap.size,j,none⟩=some y:=by
     have:j<(c.setIfInBounds (j+1) (.int .u8 (digit m).toNat)).size:=by simp[h6];omega
     exact⟨_,by simp only[World.cell?,g1];exact Array.getElem?_eq_getElem this⟩
    obtain⟨y,hcell2⟩:=hcell2
    have hk0:(0:Int)<=j:=by omega
    have hk1:(j:Int)<=20:=by omega
    have h45:(((45:UInt8).toNat:Nat):Int)=45:=rfl
    rw[h45] at f1 f2
    have hW: ∀i (hi:i<(45::digit m::l).length),((w'.setCell ⟨w.heap.size,j+1,none⟩ (.int .u8 (digit m).toNat)).setCell ⟨w.heap.size,j,none⟩ (.int .u8 45)).cell? ⟨w.heap.size,j+i,none⟩=some (.int .u8 ((45::digit m::l)[i].toNat:Int)):=by
     intro i hi
     simp only[World.cell?,f1]
     exact f2 i hi
    have hconv:=run_convert_bytes_back (P:=Tryz.prog) ((w'.setCell ⟨w.heap.size,j+1,none⟩ (.int .u8 (digit m).toNat)).setCell ⟨w.heap.size,j,none⟩ (.int .u8 45)) 57 9 5 ⟨w.heap.size,j,none⟩ (20 - j) (45::digit m::l) (by kernel_rfl) (by kernel_rfl) (by kernel_rfl) (fun i hj=>by have h:=hW i hj;by_cases h0:i=0<;>simp[Addr.add,h0] at h ⊢ <;>exact h)
    have hlen:(45::digit m::l).length=20 - j:=by simp;omega
    rw[hlen] at hconv
    go_wp2
    simp only[Exit.jump]
    go_ret
    have hm': ¬0<m / 10:=by omega
    rw[ft,if_neg hm'] at h10
    refine⟨?_,(h12.setCell (by simp) _).setCell (by simp) _⟩
    rw[if_pos hn,←h10]
    rfl
   ·have hk0:(0:Int)<=k:=by omega
    have hk1:(k:Int)<=20:=by omega
    have hd:(48+(m:Int) % 10)=((digit m).toNat:Int):=by
     unfold digit
     have:(48+m % 10)<256:=by omega
     simp[UInt8.toNat_ofNat',Nat.mod_eq_of_lt this]
    have hW: ∀j (hj:j<(digit m::l).length),(w'.setCell ⟨w.heap.size,k,none⟩ (.int .u8 (48+(m:Int) % 10))).cell? ⟨w.heap.size,k+j,none⟩=some (.int .u8 ((digit m::l)[j].toNat:Int)):=by
     obtain⟨g1,g2⟩:=kh (d:=digit m) h11 h6 h7 h8
     intro j hj
     rw[hd]
     simp only[World.cell?,g1]
     exact g2 j hj
    have hconv:=run_convert_bytes_back (P:=Tryz.prog) (w'.setCell ⟨w.heap.size,k,none⟩ (.int .u8 (48+(m:Int) % 10))) 57 9 5 ⟨w.heap.size,k,none⟩ (20 - k) (digit m::l) (by kernel_rfl) (by kernel_rfl) (by kernel_rfl) (fun j hj=>by have h:=hW j hj;by_cases h0:j=0<;>simp[Addr.add,h0] at h ⊢ <;>exact h)
    have hlen:(digit m::l).length=20 - k:=by simp;omega
    rw[hlen,hd] at hconv
    go_wp2
    simp only[Exit.jump]
    go_ret
    have hm': ¬0<m / 10:=by omega
    rw[ft,if_neg hm'] at h10
    refine⟨?_,h12.setCell (by simp) _⟩
    rw[if_neg (show¬n<0 by omega),List.nil_append,←h10]
    rfl
theorem A6(n:Int)(w:World)(hlo: -9223372036854775808<=n)(hhi:n<=9223372036854775807):
 Calls Tryz.prog 15 #[.int .i64 n] w fun e w'=>e= .returned (.string (aB n))/\Below w.heap.size w w':=Sn n w hlo hhi
end Go.Proofs.Nw
namespace Go.AV
theorem ru{P:Program}{w:World}{t:TypeId}{d:TypeDesc}(h:P.underlying t=some d):(underlying t).run P w= .ok d w:=by
 simp[underlying,h]
theorem rt{P:Program}{w:World}{t:TypeId}{i:TypeInfo}(h:P.info? t=some i):(typeInfo t).run P w= .ok i w:=by
 simp[typeInfo,h]
theorem rs{P:Program}{w:World}{t:TypeId}{i:TypeInfo}(h:P.info? t=some i):(sizeOf t).run P w= .ok i.size w:=by
 simp[sizeOf,rt h]
theorem rz{P:Program}{w:World}{t:TypeId}{i:TypeInfo}{z:Value}(h:P.info? t=some i)(hz:i.zero=some z):(zeroValue t).run P w= .ok z w:=by
 simp[zeroValue,rt h,hz]
theorem rn{P:Program}{w:World}(elem:TypeId)(c:Array Value):(newRow elem c).run P w= .ok ⟨w.heap.size,0,none⟩ (w.alloc (.cells c elem)):=by
 simp[newRow]
section
variable{P:Program}{w:World}
def qN:TypeDesc->Bool
 | .int _=>false
 |_=>true
structure Room(P:Program)(e:TypeId)(i:TypeInfo)(n:Nat)(z:Value):Prop where
 info:P.info? e=some i
 zero:i.zero=some z
 size:z.cells.size=i.size
 bytes:n*i.bytes<=1099511627776
 len:n<=1099511627776
 pos:0<i.bytes
 small:i.bytes<=1048576
theorem td(z:Array Value)(n:Nat):(Builtin.zeroCells z n).size=n*z.size:=by simp[Builtin.zeroCells]
set_option maxHeartbeats 2000000 in
theorem eZ{st xt e ty:TypeId}{i:TypeInfo}{xd:TypeDesc}{base:Option Addr}{len cap n:Nat}{x':Value}{new':List Value}{w':World}(hu:P.underlying st=some (.slice e))(hxu:P.underlying xt=some xd)(hxd:qN xd=true)
 (hi:P.info? e=some i) (hn:(Builtin.lenOf x').run P w= .ok n w) (oV:(Builtin.firstCells i.size n x').run P w= .ok ⟨new'⟩ w) (hle:len+n<=cap)
 (hst:match base with|none=>w'=w|some a=>(storeCells (a.add (len*i.size)) new').run P w= .ok () w'):
 (Builtin.append_ #[st,xt] ty #[.slice base len cap,x']).run P w= .ok (.slice base (len+n) cap) w':=by
 cases base with
 |none=>
  subst hst
  cases xd<;>first
   |(simp[qN] at hxd;done)
   |simp[Builtin.append_,ru hu,ru hxu,rs hi,hn,hle,oV]
 |some a=>
  cases xd<;>first
   |(simp[qN] at hxd;done)
   |simp[Builtin.append_,ru hu,ru hxu,rs hi,hn,hle,oV,hst]
set_option maxHeartbeats 2000000 in
theorem gT{st xt e ty:TypeId}{i:TypeInfo}{xd:TypeDesc}{base:Option Addr}{len cap n:Nat}{x' z:Value}{new' old':List Value}(hu:P.underlying st=some (.slice e))(hxu:P.underlying xt=some xd)(hxd:qN xd=true)
 (hroom:Room P e i (len+n) z) (hn:(Builtin.lenOf x').run P w= .ok n w) (oV: ∀w1:World,w1.heap=w.heap->(Builtin.firstCells i.size n x').run P w1= .ok ⟨new'⟩ w1) (hlt:cap<len+n)
 (hold: ∀w1:World,w1.heap=w.heap->(Builtin.firstCells i.size len (.slice base len cap)).run P w1= .ok ⟨old'⟩ w1):
 ∃ψ,(Builtin.append_ #[st,xt] ty #[.slice base len cap,x']).run P w= .ok (.slice (some ⟨w.heap.size,0,none⟩) (len+n) (len+n+ψ)) (w.drew.alloc (.cells ((⟨old'⟩:Array Value)++((⟨new'⟩:Array Value)++Builtin.zeroCells z.cells ψ)) e)):=by
 have hi:=hroom.info
 have hbz:i.bytes≠0:=by have:=hroom.pos;omega
 have hfit: ¬Builtin.nextslicecap (len+n) cap*i.bytes>2 ^ 48:=by
  have:=growslice_fits (bytes:=i.bytes) hlt (by have:=hroom.bytes;omega)
  omega
 refine⟨w.tape w.drawn (.appendCap (len+n) cap e) % (2 ^ 63 - (len+n)),?_⟩
 have hnle: ¬len+n<=cap:=by omega
 have hold':=hold w.drew rfl
 have hnew':=oV w.drew rfl
 have hcut':(Question.appendCap (len+n) cap e).cut (w.tape w.drawn (.appendCap (len+n) cap e))=len+n+w.tape w.drawn (.appendCap (len+n) cap e) % (2 ^ 63 - (len+n)):=rfl
 generalize w.tape w.drawn (.appendCap (len+n) cap e) % (2 ^ 63 - (len+n))=ψ at*
 cases xd<;>first
  |(simp[qN] at hxd;done)
  |(simp[Builtin.append_,ru hu,ru hxu,rs hi,rt hi,hn,hnle,hbz,hfit,Question.forced,hold',hnew',rz hi hroom.zero,rn,hcut'];done)
end
inductive T (α:Type) where
 |leaf
 |node (l:T α) (v:Option α) (r:T α)
def T.get{α:Type}:T α->Nat->Option α
 | .leaf,_=>none
 | .node _ v _,0=>v
 | .node l _ r,n+1=>match n % 2 with
   |0=>l.get (n / 2)
   |_=>r.get (n / 2)
def T.put{α:Type}:Nat->T α->Nat->Option α->T α
 |0,t,_,_=>t
 |_+1, .leaf,0,x=> .node .leaf x .leaf
 |_+1, .node l _ r,0,x=> .node l x r
 |f+1, .leaf,n+1,x=>match n % 2 with
  |0=> .node (T.put f .leaf (n / 2) x) none .leaf
  |_=> .node .leaf none (T.put f .leaf (n / 2) x)
 |f+1, .node l v r,n+1,x=>match n % 2 with
  |0=> .node (T.put f l (n / 2) x) v r
  |_=> .node l v (T.put f r (n / 2) x)
def T.set{α:Type}(t:T α)(n:Nat)(x:α):T α:=T.put (n+1) t n (some x)
def T.del{α:Type}(t:T α)(n:Nat):T α:=T.put (n+1) t n none
theorem T.dY{α:Type}(m:Nat):(T.leaf:T α).get m=none:=by cases m<;>rfl
def T.lt{α:Type}:T α->T α| .leaf=> .leaf| .node l _ _=>l
def T.rt{α:Type}:T α->T α| .leaf=> .leaf| .node _ _ r=>r
def T.vl{α:Type}:T α->Option α| .leaf=>none| .node _ v _=>v
theorem T.gg{α:Type}(t:T α)(n:Nat):t.get (n+1)=if n % 2=0 then t.lt.get (n / 2) else t.rt.get (n / 2):=by
 cases t with
 |leaf=>simp[T.lt,T.rt,T.get]
 |node l v r=>
  simp only[T.get,T.lt,T.rt]
  split
  ·rename_i h;rw[if_pos h]
  ·rename_i h;rw[if_neg h]
theorem T.AZ{α:Type}(t:T α):t.get 0=t.vl:=by cases t<;>rfl
theorem T.pG{α:Type}(f n:Nat)(t:T α)(x:Option α):T.put (f+1) t (n+1) x=
 if n % 2=0 then .node (T.put f t.lt (n / 2) x) t.vl t.rt else .node t.lt t.vl (T.put f t.rt (n / 2) x):=by
 cases t<;>(simp only[T.put,T.lt,T.rt,T.vl];split<;>(rename_i h;first|rw[if_pos h]|rw[if_neg h]))
theorem T.tV{α:Type}(f:Nat)(t:T α)(x:Option α):T.put (f+1) t 0 x= .node t.lt x t.rt:=by cases t<;>rfl
theorem T.D8{α:Type}(x:Option α): ∀(f n:Nat)(t:T α)(m:Nat),n<f->(T.put f t n x).get m=if m=n then x else t.get m:=by
 intro f
 induction f with
 |zero=>intro n t m h;omega
 |succ f ih=>
  intro n t m h
  cases n with
  |zero=>
   rw[T.tV]
   cases m with
   |zero=>simp[T.get]
   |succ m=>rw[T.gg,T.gg];simp[T.lt,T.rt]
  |succ k=>
   have hk:k / 2<f:=by omega
   rw[T.pG]
   cases m with
   |zero=>rw[T.AZ,T.AZ];split<;>simp[T.vl]
   |succ m=>
    rw[T.gg,T.gg]
    by_cases hk2:k % 2=0
    ·rw[if_pos hk2]
     by_cases hm2:m % 2=0
     ·rw[if_pos hm2,if_pos hm2]
      simp only[T.lt]
      rw[ih _ _ _ hk]
      by_cases he:m=k
      ·subst he;simp
      ·rw[if_neg (by omega),if_neg (by omega)]
     ·rw[if_neg hm2,if_neg hm2,if_neg (by omega)];rfl
    ·rw[if_neg hk2]
     by_cases hm2:m % 2=0
     ·rw[if_pos hm2,if_pos hm2,if_neg (by omega)];rfl
     ·rw[if_neg hm2,if_neg hm2]
      simp only[T.rt]
      rw[ih _ _ _ hk]
      by_cases he:m=k
      ·subst he;simp
      ·rw[if_neg (by omega),if_neg (by omega)]
theorem T.aP{α:Type}(t:T α)(n m:Nat)(x:α):(t.set n x).get m=if m=n then some x else t.get m:=T.D8 _ _ _ _ _ (Nat.lt_succ_self n)
theorem T.fP{α:Type}(t:T α)(n m:Nat):(t.del n).get m=if m=n then none else t.get m:=T.D8 _ _ _ _ _ (Nat.lt_succ_self n)
structure ba where
 cells:List Value
 cap:Nat
 jU:Nat
 elem:TypeId
 exact:Bool
 whole:Bool
 bQ:Nat
 own:Bool
inductive nZ where
 |call (f:FuncId) (args captured:List Value)
 |mark (r:Nat)
abbrev Tm:=T Value
structure Ks where
 st:LoopState
 pending:Option Code
 tm:Tm
 n:Nat
 params:List Tmp
 assign:Code
 body:Code
 defers:Nat
inductive aa where
 |aw (b:ba)
 |map (es:List MapEntry) (clock:Nat)
 |pq (s:ByteArray) (pos:Nat)
 |dC (m:Option Nat) (since:Nat) (seen:List Nat) (stepped:Nat)
 |loop (l:Ks)
 |gh (opened:Bool)
structure Hs where
 heap:T aa
 next:Nat
 log:List Nat
def simple:Value->Bool
 | .bool _| .int _ _| .string _| .pointer none| .slice none _ _| .map none| .nilFunc| .nilIface| .float _ _=>true
 | .slice (some ⟨_,_,some _⟩) 0 0=>true
 |_=>false
def rd(tm:Tm)(t:Nat):Value:=match tm.get t with|some v=>v|none=>undef
def sx:Value:= .chan none
def yg:Value->Option Value
 | .chan _=>none
 |v=>some v
def ev(tm:Tm):Operand->Option Value
 | .tmp t=>yg (rd tm t)
 | .const v=>match simple v with|true=>some v|false=>none
 | .global _=>none
 | .func f=>some (.func (.func f) #[] #[])
def xp(tm:Tm):List Operand->Option (List Value)
 |[]=>some []
 |x::l=>match ev tm x with
  |some v=>match xp tm l with
   |some vs=>some (v::vs)
   |none=>none
  |none=>none
def jk(tm:Tm):List (Nat × Operand)->Option (List (Nat × Value))
 |[]=>some []
 |(i,x)::l=>match ev tm x with
  |some v=>match jk tm l with
   |some vs=>some ((i,v)::vs)
   |none=>none
  |none=>none
def prun{α:Type}(P:Program):Sem α->Option α
 | .pure a=>some a
 | .program k=>prun P (k P)
 | .mark _ k=>prun P k
 |_=>none
mutual
def au:Value->Bool
 | .bool _| .int _ _| .string _| .float _ _| .nilFunc| .nilIface| .pointer none| .slice none _ _| .map none=>true
 | .agg ⟨cs⟩=>bE cs
 | .tuple ⟨cs⟩=>bE cs
 |_=>false
def bE:List Value->Bool
 |[]=>true
 |v::l=>match au v with|true=>bE l|false=>false
end
def aV:Value->List Value
 | .agg cs=>cs.toList
 |v=>[v]
def uF:Value->Bool
 | .agg _| .tuple _=>false
 |_=>true
def cE:List Value->Bool
 |[]=>true
 |v::l=>match uF v with|true=>cE l|false=>false
def takeN{α:Type}:Nat->List α->Option (List α)
 |0,_=>some []
 |_+1,[]=>none
 |n+1,a::l=>match takeN n l with|some r=>some (a::r)|none=>none
def gI{α:Type}:Nat->List α->List α
 |0,l=>l
 |_+1,[]=>[]
 |n+1,_::l=>gI n l
def nth{α:Type}:List α->Nat->Option α
 |[],_=>none
 |a::_,0=>some a
 |_::l,n+1=>nth l n
def overwrite:List Value->Nat->List Value->Option (List Value)
 |cs,0,[]=>some cs
 |[],0,vs=>some vs
 |_::cs,0,v::vs=>match overwrite cs 0 vs with|some r=>some (v::r)|none=>none
 |c::cs,n+1,vs=>match overwrite cs n vs with|some r=>some (c::r)|none=>none
 |[],_+1,_=>none
def lL:TypeDesc->Bool
 | .struct _| .array _ _=>true
 |_=>false
def nD(P:Program)(h:Hs)(t:TypeId)(b off:Nat):Option Value:=
 match h.heap.get b with
 |some (.aw k)=>
  match P.underlying t with
  |some d=>match lL d with
   |true=>match P.info? t with
    |some i=>match takeN i.size (gI off k.cells) with
     |some cs=>some (.agg ⟨cs⟩)
     |none=>none
    |none=>none
   |false=>nth k.cells off
  |none=>none
 |_=>none
def dz(h:Hs)(b off:Nat)(vs:List Value):Option Hs:=
 match h.heap.get b with
 |some (.aw k)=>
  match k.own,k.bQ with
  |true,0|true,1=>
   match cE vs,overwrite k.cells off vs with
   |true,some cs=>match Nat.ble cs.length k.cap with
    |true=>some {h with heap:=h.heap.set b (.aw {k with cells:=cs}),log:=b::h.log}
    |false=>none
   |_,_=>none
  |_,_=>none
 |_=>none
def bV(h:Hs)(o:aa):Hs:={heap:=h.heap.set h.next o,next:=h.next+1,log:=h.log}
def gX(h:Hs)(elem jU:Nat)(cells:List Value):Hs:=
 bV h (.aw {cells,cap:=cells.length,jU,elem,exact:=true,whole:=true,bQ:=0,own:=true})
def ptrTo(id:Nat):Value:= .pointer (some ⟨id,0,none⟩)
inductive bR where
 |val (v:Value) (h:Hs)
 |skip (h:Hs)
 |call (f:FuncId) (args:List Value)
 |round (l:Nat) (args:List Value)
 |gh (d:nZ)
def kP(P:Program)(s:Sem Value):Option Value:=match prun P s with
 |some v=>match au v with
  |true=>some v
  |false=>none
 |none=>none
def Eb(P:Program)(h:Hs)(d:TypeDesc)(x y:Value):Option Bool:=match d,x,y with
 | .pointer _, .pointer none, .pointer b=>some b.isNone
 | .pointer _, .pointer (some _), .pointer none=>some false
 | .pointer e, .pointer (some a), .pointer (some b)=>match P.info? e,a.spot,b.spot with
   |some i,none,none=>match i.size with
    |0=>none
    |_+1=>
     match Nat.beq a.block b.block,h.heap.get a.block,h.heap.get b.block with
     |true,_,_=>some (Nat.beq a.off b.off)
     |false,some (.aw k),some (.aw l)=>match l.own,k.bQ,l.bQ with
      |true,0,0=>some false
      |_,_,_=>none
     |_,_,_=>none
   |_,_,_=>none
 | .slice _, .slice none _ _, .slice b _ _=>some b.isNone
 | .slice _, .slice (some _) _ _, .slice none _ _=>some false
 | .map _ _, .map none, .map b=>some b.isNone
 | .map _ _, .map (some _), .map none=>some false
 | .func _ _ _, .func .., .nilFunc=>some false
 | .func _ _ _, .nilFunc, .func .. =>some false
 |_,_,_=>none
def yV(P:Program)(h:Hs)(op:BinOp)(xt:TypeId)(ox oy:Operand)(x y:Value):Option Value:=
 match au x,au y with
 |true,true=>kP P (do eqGuard op xt ox oy x y;binOp op xt x y)
 |_,_=>match P.underlying xt with
  |some d=>match op with
   | .eql=>match Eb P h d x y with|some b=>some (.bool b)|none=>none
   | .neq=>match Eb P h d x y with|some b=>some (.bool (!b))|none=>none
   |_=>none
  |none=>none
def yf:List Value->Bool
 |[]=>false
 |_::_=>true
def yH(v:Value)(hi:Nat):Option Nat:=match v with
 | .int _ (.ofNat i)=>match Nat.ble i hi with|true=>some i|false=>none
 |_=>none
def bM(tm:Tm)(o:Option Operand)(dflt hi:Nat):Option Nat:=match o with
 |none=>match Nat.ble dflt hi with
  |true=>some dflt
  |false=>none
 |some o=>match ev tm o with
  |some v=>yH v hi
  |none=>none
def po(tm:Tm)(s:ByteArray)(lo hi:Option Operand):Option Value:=
 match bM tm hi s.size s.size with
 |some h=>match bM tm lo 0 h with
  |some l=>some (.string (s.extract l h))
  |none=>none
 |none=>none
def CU:Value:= .slice (some ⟨0,0,some 0⟩) 0 0
def gR(h:Hs)(tm:Tm)(size:Nat)(a:Option Addr)(len cap:Nat)(lo hi mx:Option Operand):Option bR:=
 match a,mx with
 |none,none=>
  match cap,bM tm hi len cap with
  |0,some hh=>match bM tm lo 0 hh with
   |some l=>some (.val (.slice none (hh - l) (cap - l)) h)
   |none=>none
  |_,_=>none
 |some ad,none=>
  match ad.spot,h.heap.get ad.block,bM tm hi len cap with
  |none,some (.aw k),some hh=>match bM tm lo 0 hh with
   |some l=>match Nat.beq cap l with
    |false=>some (.val (.slice (some ⟨ad.block,ad.off+l*size,none⟩) (hh - l) (cap - l)) h)
    |true=>match k.exact with
     |true=>some (.val (.slice (some ad) (hh - l) (cap - l)) h)
     |false=>match k.own,k.bQ,(Nat.beq (ad.off+cap*size) k.cap && Nat.beq k.jU size) && Nat.beq size 1 with
      |true,0,true=>some (.val (.slice (some ⟨h.next,0,none⟩) 0 0)
       {heap:=(h.heap.del ad.block).set h.next (.aw {cells:=[],cap:=0,jU:=size,elem:=k.elem,exact:=false,whole:=false,bQ:=0,own:=true}),next:=h.next+1,log:=ad.block::h.log})
      |_,_,_=>some (.val (.slice (some ⟨h.next,0,none⟩) 0 0) {h with next:=h.next+1})
   |none=>none
  |_,_,_=>none
 |some ad,some mo=>
  match bM tm (some mo) 0 cap with
  |some m=>match bM tm hi len m,hi with
   |some hh,some _=>match bM tm lo 0 hh with
    |some l=>match Nat.beq m l with
     |true=>some (.val CU h)
     |false=>match ad.spot,h.heap.get ad.block with
      |none,some (.aw k)=>match Nat.beq hh m,k.own with
       |true,true=>match takeN ((hh - l)*size) (gI (ad.off+l*size) k.cells) with
        |some cs=>
         some (.val (.slice (some ⟨h.next,0,none⟩) (hh - l) (hh - l))
          {heap:=(h.heap.del ad.block).set h.next (.aw {k with cells:=cs,cap:=(hh - l)*size,jU:=size,exact:=true,whole:=false,own:=yf cs}),next:=h.next+1,log:=ad.block::h.log})
        |none=>none
       |_,_=>none
      |_,_=>none
    |none=>none
   |_,_=>none
  |none=>none
 |none,some mo=>
  match cap,bM tm (some mo) 0 cap,hi with
  |0,some m,some ho=>match bM tm (some ho) 0 m with
   |some hh=>match bM tm lo 0 hh with
    |some l=>some (.val (.slice none (hh - l) (m - l)) h)
    |none=>none
   |none=>none
  |_,_,_=>none
def lU(P:Program)(tm:Tm)(h:Hs)(xt:TypeId)(x:Value)(lo hi mx:Option Operand):Option bR:=
 match P.underlying xt,x with
 |some .string, .string s=>match mx with
  |none=>match po tm s lo hi with|some v=>some (.val v h)|none=>none
  |some _=>none
 |some (.slice e), .slice a len cap=>match P.info? e with
  |some i=>gR h tm i.size a len cap lo hi mx
  |none=>none
 |some (.array n e), .pointer (some ad)=>match P.info? e,mx,ad.spot,h.heap.get ad.block with
  |some i,none,none,some (.aw k)=>match k.exact,bM tm hi n n with
   |true,some hh=>match bM tm lo 0 hh with
    |some l=>match Nat.beq n l with
     |true=>some (.val (.slice (some ad) (hh - l) (n - l)) h)
     |false=>some (.val (.slice (some ⟨ad.block,ad.off+l*i.size,none⟩) (hh - l) (n - l)) h)
    |none=>none
   |_,_=>none
  |_,_,_,_=>none
 |_,_=>none
def lR:List UInt8->List Value
 |[]=>[]
 |b::l=> .int .u8 b.toNat::lR l
def cJ:List Value->Option (List UInt8)
 |[]=>some []
 | .int .u8 (.ofNat n)::l=>match cJ l with|some r=>some (UInt8.ofNat n::r)|none=>none
 |_::_=>none
def fo(h:Hs)(size n:Nat):Value->Option (List Value)
 | .slice none _ _=>some []
 | .slice (some a) _ _=>match n with
   |0=>some []
   |_+1=>match a.spot,h.heap.get a.block with
    |none,some (.aw k)=>takeN (n*size) (gI a.off k.cells)
    |_,_=>none
 | .string s=>match takeN n s.data.toList with
   |some l=>some (lR l)
   |none=>none
 |_=>none
def nT:Value->Option Nat
 | .slice _ n _=>some n
 | .string s=>some s.size
 |_=>none
def jA:Nat:=1099511627776
def tM(i:TypeInfo)(n:Nat):Bool:=match i.zero with
 |some z=>Nat.beq (aV z).length i.size && Nat.ble (n*i.bytes) jA && Nat.ble n jA && Nat.blt 0 i.bytes && Nat.ble i.bytes 1048576
 |none=>false
def fR(P:Program)(h:Hs)(ats:List TypeId)(s x:Value):Option bR:=
 match ats with
 |[st,xt]=>
  match P.underlying st,P.underlying xt with
  |some (.slice e),some xd=>match xd,P.info? e with
   | .int _,_=>none
   |_,some i=>match nT x,s with
    |some n, .slice base len cap=>
     match fo h i.size n x with
     |some new=>
      match Nat.ble (len+n) cap with
      |true=>match base with
       |none=>match new with|[]=>some (.val (.slice none (len+n) cap) h)|_=>none
       |some a=>match a.spot,new with
        |none,[]=>some (.val (.slice (some a) (len+n) cap) h)
        |none,_=>match dz h a.block (a.off+len*i.size) new with
         |some h=>some (.val (.slice (some a) (len+n) cap) h)
         |none=>none
        |some _,[]=>some (.val CU h)
        |_,_=>none
      |false=>match tM i (len+n) && Nat.beq new.length (n*i.size) with
       |true=>match base with
        |none=>match len,cap with
         |0,0=>some (.val (.slice (some ⟨h.next,0,none⟩) n n)
          (bV h (.aw {cells:=new,cap:=n*i.size,jU:=i.size,elem:=e,exact:=false,whole:=false,bQ:=0,own:=true})))
         |_,_=>none
        |some a=>match a.spot,h.heap.get a.block with
         |some _,_=>some (.val (.slice (some ⟨h.next,0,none⟩) n n)
          (bV h (.aw {cells:=new,cap:=n*i.size,jU:=i.size,elem:=e,exact:=false,whole:=false,bQ:=0,own:=true})))
         |none,some (.aw k)=>match takeN (len*i.size) (gI a.off k.cells) with
          |some iL=>match k.exact with
           |true=>some (.val (.slice (some ⟨h.next,0,none⟩) (len+n) (len+n))
            (bV h (.aw {cells:=iL++new,cap:=(len+n)*i.size,jU:=i.size,elem:=e,exact:=false,whole:=false,bQ:=0,own:=true})))
           |false=>match k.own,k.bQ,Nat.beq (a.off+cap*i.size) k.cap,Nat.beq k.jU i.size && Nat.beq k.elem e && cE new with
            |true,0,true,true=>some (.val (.slice (some ⟨h.next,0,none⟩) (len+n) (len+n))
             {heap:=(h.heap.del a.block).set h.next (.aw {cells:=iL++new,cap:=(len+n)*i.size,jU:=i.size,elem:=e,exact:=false,whole:=false,bQ:=0,own:=true}),next:=h.next+1,log:=a.block::h.log})
            |_,_,_,_=>none
          |none=>none
         |_,_=>none
       |false=>none
     |none=>none
    |_,_=>none
   |_,_=>none
  |_,_=>none
 |_=>none
def aC(P:Program)(kt:TypeId)(k:Value):List MapEntry->Nat->Option (Option (Nat × Value))
 |[],_=>some none
 |e::es,i=>match au e.key with
  |true=>match prun P (Op.equal kt k e.key) with
   |some true=>some (some (i,e.val))
   |some false=>aC P kt k es (i+1)
   |none=>none
  |false=>none
def ql(P:Program)(kt:TypeId)(k:Value):Bool:=
 match au k with
 |true=>match prun P (Instr.checkKey false 10000 kt k),prun P (Instr.checkKey true 10000 kt k) with
  |some (),some ()=>true
  |_,_=>false
 |false=>false
def qC:Nat->Value->List MapEntry->List MapEntry
 |_,_,[]=>[]
 |0,x,a::l=>{a with val:=x}::l
 |n+1,x,a::l=>a::qC n x l
def cY:Nat->Value->Value->List MapEntry->List MapEntry
 |_,_,_,[]=>[]
 |0,k,x,a::l=>{a with key:=k,val:=x}::l
 |n+1,k,x,a::l=>a::cY n k x l
def EM:Nat->Value->List MapEntry->List MapEntry
 |_,_,[]=>[]
 |0,k,a::l=>{a with key:=k}::l
 |n+1,k,a::l=>a::EM n k l
def oZ:Nat->List MapEntry->List MapEntry
 |_,[]=>[]
 |0,_::l=>l
 |n+1,a::l=>a::oZ n l
def rep{α:Type}:Nat->List α->List α
 |0,_=>[]
 |n+1,l=>l++rep n l
def br(P:Program)(h:Hs)(b:Builtin)(ats:List TypeId)(args:List Value):Option bR:=
 match b,args with
 | .append,[s,x]=>fR P h ats s x
 | .len,[x]=>match ats with
   |t::_=>match P.underlying t,x with
    |some .string, .string s=>some (.val (goInt s.size) h)
    |some (.array n _),_=>some (.val (goInt n) h)
    |some (.slice _), .slice _ n _=>some (.val (goInt n) h)
    |some (.map _ _), .map none=>some (.val (goInt 0) h)
    |some (.map _ _), .map (some r)=>match h.heap.get r with
     |some (.map es _)=>some (.val (goInt es.length) h)
     |_=>none
    |_,_=>none
   |[]=>none
 | .cap,[x]=>match ats with
   |t::_=>match P.underlying t,x with
    |some (.slice _), .slice none _ n=>some (.val (goInt n) h)
    |some (.slice _), .slice (some a) _ n=>match h.heap.get a.block with
     |some (.aw k)=>match k.exact with|true=>some (.val (goInt n) h)|false=>none
     |_=>none
    |_,_=>none
   |[]=>none
 | .copy,[d,s]=>match ats with
   |t::_=>match P.underlying t with
    |some (.slice e)=>match P.info? e,d,nT s with
     |some i, .slice base dl _,some sl=>match fo h i.size (Nat.min sl dl) s with
      |some cs=>match base,cs with
       |none,_=>some (.val (goInt (Nat.min sl dl)) h)
       |some _,[]=>some (.val (goInt (Nat.min sl dl)) h)
       |some a,_=>match a.spot,dz h a.block a.off cs with
        |none,some h=>some (.val (goInt (Nat.min sl dl)) h)
        |_,_=>none
      |none=>none
     |_,_,_=>none
    |_=>none
   |[]=>none
 | .delete,[m,k]=>match ats with
   |t::_=>match P.underlying t,m with
    |some (.map kt _), .map none=>match ql P kt k with|true=>some (.val (.tuple #[]) h)|false=>none
    |some (.map kt _), .map (some r)=>match ql P kt k,h.heap.get r with
     |true,some (.map es c)=>match aC P kt k es 0 with
      |some (some (i,_))=>some (.val (.tuple #[]) {h with heap:=h.heap.set r (.map (oZ i es) c),log:=r::h.log})
      |some none=>some (.val (.tuple #[]) h)
      |none=>none
     |_,_=>none
    |_,_=>none
   |[]=>none
 | .clear,[x]=>match ats with
   |t::_=>match P.underlying t,x with
    |some (.slice e), .slice (some a) n _=>match P.info? e,a.spot with
     |some i,none=>match i.zero,(i.zero.map au).getD false with
      |some z,true=>match n with
       |0=>some (.val (.tuple #[]) h)
       |_=>match dz h a.block a.off (rep n (aV z)) with
        |some h=>some (.val (.tuple #[]) h)
        |none=>none
      |_,_=>none
     |_,_=>none
    |_,_=>none
   |[]=>none
 | .min,l=>match bE l with
   |true=>match kP P (Builtin.min_ #[] 0 ⟨l⟩) with|some v=>some (.val v h)|none=>none
   |false=>none
 | .max,l=>match bE l with
   |true=>match kP P (Builtin.max_ #[] 0 ⟨l⟩) with|some v=>some (.val v h)|none=>none
   |false=>none
 | .unsafeString,[p,n]=>match ats with
   |t::_=>match p,n with
    | .pointer none, .int _ (.ofNat 0)=>some (.val (.string .empty) h)
    | .pointer (some a), .int _ (.ofNat n)=>match n,a.spot,h.heap.get a.block,P.underlying t with
      |_+1,none,some (.aw k),some (.pointer et)=>match takeN n (gI a.off k.cells),P.underlying et,Nat.beq k.elem et,P.info? et with
       |some cs,some (.int .u8),true,some i=>match cJ cs,Nat.beq i.size 1,Nat.ble n jA,k.own with
        |some bs,true,true,true=>some (.val (.string ⟨⟨bs⟩⟩) {h with heap:=h.heap.set a.block (.aw {k with bQ:=2}),log:=a.block::h.log})
        |_,_,_,_=>none
       |_,_,_,_=>none
      |_,_,_,_=>none
    |_,_=>none
   |[]=>none
 | .unsafeSliceData,[x]=>match x with
   | .slice none _ _=>some (.val (.pointer none) h)
   | .slice (some a) _ (_+1)=>some (.val (.pointer (some a)) h)
   |_=>none
 |_,_=>none
def nh(P:Program)(h:Hs)(src dst:TypeId)(x:Value):Option bR:=
 match P.underlying src,P.underlying dst with
 |some s,some d=>match s,d,x with
  |_, .int k, .int _ n=>some (.val (.int k (k.wrap n)) h)
  |_, .string, .int _ n=>some (.val (.string (Utf8.encode n)) h)
  |_, .string, .string t=>some (.val (.string t) h)
  | .string, .slice e, .string t=>match P.underlying e with
    |some (.int .u8)=>some (.val (.slice (some ⟨h.next,0,none⟩) t.size t.size)
     (bV h (.aw {cells:=lR t.data.toList,cap:=t.size,jU:=1,elem:=e,exact:=false,whole:=false,bQ:=1,own:=true})))
    |_=>none
  | .slice e, .string,x=>match P.underlying e with
    |some (.int .u8)=>match x with
     | .slice none _ _=>some (.val (.string .empty) h)
     | .slice (some a) n _=>match a.spot,h.heap.get a.block with
       |none,some (.aw k)=>match takeN n (gI a.off k.cells) with
        |some cs=>match cJ cs with
         |some bs=>some (.val (.string ⟨⟨bs⟩⟩) h)
         |none=>none
        |none=>none
       |_,_=>none
     |_=>none
    |_=>none
  | .pointer _, .unsafePointer, .pointer none=>some (.val (.pointer none) h)
  | .pointer t, .unsafePointer, .pointer (some a)=>match a.spot,h.heap.get a.block,P.info? t with
    |none,some (.aw k),some i=>match i.size,Nat.ble k.cap a.off,k.own with
     |_+1,false,true=>some (.val (.pointer (some a)) h)
     |_,_,_=>none
    |_,_,_=>none
  | .unsafePointer, .pointer _, .pointer none=>some (.val (.pointer none) h)
  | .unsafePointer, .pointer u, .pointer (some a)=>match a.spot,h.heap.get a.block,P.info? u with
    |none,some (.aw k),some i=>match i.size,k.whole with
     |_+1,true=>match liesAt P P.depth k.elem (k.cap / P.cellsOf k.elem) a.off u 1 with
      |true=>some (.val (.pointer (some a)) h)
      |false=>none
     |_,_=>none
    |_,_,_=>none
  |_,_,_=>none
 |_,_=>none
def mW(fn:Func):Nat:=
 if fn.origin= "" then
  if fn.name= "internal/abi.NoEscape" then 1
  else if fn.name= "internal/bytealg.MakeNoZero" then 2
  else if fn.name= "internal/bytealg.IndexByteString" then 3
  else if fn.name= "internal/bytealg.CountString" then 4
  else 0
 else 0
def qn(P:Program)(h:Hs)(fn:Func)(args:List Value):Option bR:=
 match mW fn,args with
 |1,[x]=>some (.val x h)
 |2,[.int .i64 (.ofNat n)]=>match fn.resultTypes.toList with
  |t::_=>match P.underlying t,Nat.ble n jA with
   |some (.slice e),true=>some (.val (.slice (some ⟨h.next,0,none⟩) n n)
    (bV h (.aw {cells:=[],cap:=n,jU:=1,elem:=e,exact:=false,whole:=false,bQ:=0,own:=true})))
   |_,_=>none
  |[]=>none
 |3,[x,y]=>match au x,au y with
  |true,true=>match kP P (Extern.BytealgIndexByte.indexByte #[x,y]) with
   |some v=>some (.val v h)
   |none=>none
  |_,_=>none
 |4,[x,y]=>match au x,au y with
  |true,true=>match kP P (Extern.BytealgCount.count #[x,y]) with
   |some v=>some (.val v h)
   |none=>none
  |_,_=>none
 |_,_=>none
def sR(fields:Array Field)(i:Nat):Option Field:=nth fields.toList i
def DK(P:Program)(t:TypeId)(cs:List Value)(off:Nat):Option Value:=
 match P.underlying t with
 |some d=>match lL d with
  |true=>match P.info? t with
   |some i=>some (.agg (Array.mk cs|>.extract off (off+i.size)))
   |none=>none
  |false=>nth cs off
 |none=>none
def pH(P:Program):List Field->Option (List (Nat × Nat))
 |[]=>some []
 |f::l=>match P.info? f.type with
  |some i=>match pH P l with
   |some r=>some ((f.offset,i.size)::r)
   |none=>none
  |none=>none
def uL(place:Nat->Option (Nat × Nat))(cells:List Value):List (Nat × Value)->Option (List Value)
 |[]=>some cells
 |(i,v)::rest=>match place i with
  |some (off,size)=>match Nat.beq (aV v).length size,Nat.ble (off+(aV v).length) cells.length,overwrite cells off (aV v) with
   |true,true,some cs=>uL place cs rest
   |_,_,_=>none
  |none=>none
def vk(P:Program)(tm:Tm)(h:Hs)(t:TypeId)(parts:List (Nat × Operand)):Option bR:=
 match jk tm parts,P.info? t,P.underlying t with
 |some ps,some ti,some d=>match ti.zero,d with
  |some z, .struct fields=>match au z,pH P fields.toList with
   |true,some pl=>match uL (nth pl) (aV z) ps with
    |some cs=>some (.val (.agg ⟨cs⟩) h)
    |none=>none
   |_,_=>none
  |some z, .array _ e=>match au z,P.info? e with
   |true,some ei=>match uL (fun i=>some (i*ei.size,ei.size)) (aV z) ps with
    |some cs=>some (.val (.agg ⟨cs⟩) h)
    |none=>none
   |_,_=>none
  |_,_=>none
 |_,_,_=>none
def yU(P:Program)(h:Hs)(t:TypeId)(x:Value)(f:Nat):Option bR:=
 match P.underlying t,x with
 |some (.struct fields), .agg ⟨cs⟩=>match sR fields f with
  |some f=>match DK P f.type cs f.offset with
   |some v=>some (.val v h)
   |none=>none
  |none=>none
 |_,_=>none
def Dd(h:Hs):Value->Option (List MapEntry)
 | .map none=>some []
 | .map (some r)=>match h.heap.get r with
   |some (.map es _)=>some es
   |_=>none
 |_=>none
def nP(P:Program)(h:Hs)(t:TypeId)(m k:Value)(ok:Bool):Option bR:=
 match P.underlying t with
 |some (.map kt e)=>match ql P kt k,Dd h m with
  |true,some es=>match aC P kt k es 0 with
   |some (some (_,v))=>some (.val (match ok with|true=> .tuple #[v, .bool true]|false=>v) h)
   |some none=>match P.info? e with
    |some i=>match i.zero with
     |some z=>match au z with
      |true=>some (.val (match ok with|true=> .tuple #[z, .bool false]|false=>z) h)
      |false=>none
     |none=>none
    |none=>none
   |none=>none
  |_,_=>none
 |_=>none
def iA(P:Program)(h:Hs)(t:TypeId)(m k x:Value):Option bR:=
 match P.underlying t,m with
 |some (.map kt _), .map (some r)=>match ql P kt k,h.heap.get r with
  |true,some (.map es c)=>match aC P kt k es 0 with
   |some (some (i,_))=>match nth es i with
    |some e=>match au e.key && Instr.sameBits 10000 e.key k with
     |true=>some (.skip {h with heap:=h.heap.set r (.map (cY i k x es) c),log:=r::h.log})
     |false=>none
    |none=>none
   |some none=>some (.skip {h with heap:=h.heap.set r (.map (es++[{key:=k,val:=x,born:=c}]) (c+1)),log:=r::h.log})
   |none=>none
  |_,_=>none
 |_,_=>none
def nO(P:Program)(h:Hs)(t:TypeId)(m k:Value):Option bR:=
 match P.underlying t,m with
 |some (.map kt el), .map (some r)=>match ql P kt k,h.heap.get r with
  |true,some (.map es c)=>match aC P kt k es 0 with
   |some (some (i,v))=>match nth es i with
    |some e=>match au e.key && Instr.sameBits 10000 e.key k with
     |true=>some (.val (.tuple #[v,goInt e.born]) {h with heap:=h.heap.set r (.map (EM i k es) c),log:=r::h.log})
     |false=>none
    |none=>none
   |some none=>match P.info? el with
    |some i=>match i.zero with
     |some z=>match au z with
      |true=>some (.val (.tuple #[z,goInt c]) {h with heap:=h.heap.set r (.map (es++[{key:=k,val:=z,born:=c}]) (c+1)),log:=r::h.log})
      |false=>none
     |none=>none
    |none=>none
   |none=>none
  |_,_=>none
 |_,_=>none
def u4(s:Int):List MapEntry->Nat->Option Nat
 |[],_=>none
 |e::es,i=>match decide ((e.born:Int)=s) with
  |true=>some i
  |false=>u4 s es (i+1)
def ko(h:Hs)(m s x:Value):Option bR:=
 match m,s with
 | .map (some r), .int _ s=>match h.heap.get r with
   |some (.map es c)=>match u4 s es 0 with
    |some i=>some (.skip {h with heap:=h.heap.set r (.map (qC i x es) c),log:=r::h.log})
    |none=>none
   |_=>none
 |_,_=>none
def kQ(n:Nat):List Nat->Bool
 |[]=>false
 |m::l=>match Nat.beq m n with|true=>true|false=>kQ n l
def xa(seen:List Nat):List MapEntry->List MapEntry
 |[]=>[]
 |e::es=>match kQ e.born seen with
  |true=>xa seen es
  |false=>e::xa seen es
def Eu(h:Hs)(it:Value)(isString:Bool):Option bR:=
 match it with
 | .pointer (some ⟨b,0,none⟩)=>match h.heap.get b,isString with
   |some (.pq s pos),true=>match Nat.blt pos s.size with
    |true=>match Utf8.decode s pos with
     |(c,w)=>some (.val (.tuple #[.bool true,goInt pos, .int .i32 c]) {h with heap:=h.heap.set b (.pq s (pos+w)),log:=b::h.log})
    |false=>some (.val (.tuple #[.bool false]) h)
   |some (.dC none _ _ _),false=>some (.val (.tuple #[.bool false]) h)
   |some (.dC (some m) since seen last),false=>match h.heap.get m with
    |some (.map es c)=>match xa seen es with
     |[]=>match seen,es with
      |[],_=>some (.val (.tuple #[.bool false]) h)
      |_,e::_=>match Nat.blt e.born last with
       |true=>some (.val (.tuple #[.bool false]) h)
       |false=>none
      |_,[]=>some (.val (.tuple #[.bool false]) h)
     |[e]=>match Nat.blt e.born since,seen with
      |true,[]=>some (.val (.tuple #[.bool true,e.key,e.val]) {h with heap:=h.heap.set b (.dC (some m) since (e.born::seen) c),log:=b::h.log})
      |_,_=>none
     |_=>none
    |_=>none
   |_,_=>none
 |_=>none
def fH(st:Nat):List MapEntry->Option MapEntry
 |[]=>none
 |e::es=>match Nat.beq e.born st with
  |true=>some e
  |false=>fH st es
def vi(h:Hs)(it:Value):Option bR:=
 match it with
 | .pointer (some ⟨b,0,none⟩)=>match h.heap.get b with
   |some (.dC (some m) _ (st::_) stepped)=>match h.heap.get m with
    |some (.map es c)=>match Nat.beq c stepped,fH st es with
     |true,some e=>some (.val (.tuple #[e.key,e.val]) h)
     |_,_=>none
    |_=>none
   |_=>none
 |_=>none
def yP(P:Program)(h:Hs)(t:TypeId)(x:Value):Option bR:=
 match P.underlying t,x with
 |some .string, .string s=>some (.val (ptrTo h.next) (bV h (.pq s 0)))
 |some (.map _ _), .map none=>some (.val (ptrTo h.next) (bV h (.dC none 0 [] 0)))
 |some (.map _ _), .map (some m)=>match h.heap.get m with
  |some (.map _ c)=>some (.val (ptrTo h.next) (bV h (.dC (some m) c [] c)))
  |_=>none
 |_,_=>none
def kq(P:Program)(tm:Tm)(h:Hs)(c:Call):Option bR:=
 match xp tm c.args.toList with
 |some args=>match c.callee with
  | .builtin b=>br P h b c.argTypes.toList args
  | .value f=>match ev tm f with
    |some (.func (.func f) ⟨first⟩ ⟨captured⟩)=>match P.funcs[f]? with
     |some fn=>match fn.body with
      |some _=>match decide (fn.name= "runtime.NumGoroutine") with
       |true=>none
       |false=>some (.call f ((first++args)++captured))
      |none=>qn P h fn ((first++args)++captured)
     |none=>none
    |some (.func (.yield l) ⟨first⟩ _)=>some (.round l (first++args))
    |_=>none
  | .invoke _ _=>none
 |none=>none
def qX(tm:Tm)(c:Call):Option bR:=
 match xp tm c.args.toList with
 |some args=>match c.callee with
  | .value f=>match ev tm f with
    |some (.func (.func f) ⟨first⟩ ⟨captured⟩)=>some (.gh (.call f (first++args) captured))
    |_=>none
  |_=>none
 |none=>none
def iB(P:Program)(h:Hs)(t:TypeId)(l c:Value):Option bR:=
 match P.underlying t,l,c with
 |some (.slice e), .int _ (.ofNat l), .int _ (.ofNat c)=>match P.info? e,Nat.ble l c,Nat.ble c 1048576 with
  |some i,true,true=>match i.zero,Nat.ble i.bytes 1048576 with
   |some z,true=>match au z,cE (aV z),Nat.beq (aV z).length i.size with
    |true,true,true=>some (.val (.slice (some ⟨h.next,0,none⟩) l c) (gX h e i.size (rep c (aV z))))
    |_,_,_=>none
   |_,_=>none
  |_,_,_=>none
 |_,_,_=>none
def iX(P:Program)(tm:Tm)(h:Hs)(t:TypeId)(len:Nat)(parts:List (Nat × Operand)):Option bR:=
 match P.underlying t,jk tm parts with
 |some (.slice e),some ps=>match P.info? e with
  |some i=>match i.zero with
   |some z=>match au z,Nat.beq (aV z).length i.size,Nat.ble (len*i.size) 16777216,uL (fun j=>some (j*i.size,i.size)) (rep len (aV z)) ps with
    |true,true,true,some cs=>some (.val (.slice (some ⟨h.next,0,none⟩) len len) (gX h e i.size cs))
    |_,_,_,_=>none
   |none=>none
  |none=>none
 |_,_=>none
def iC(P:Program)(h:Hs)(t:TypeId)(x i:Value):Option bR:=
 match P.underlying t,x,i with
 |some (.array n e), .pointer (some a), .int _ (.ofNat i)=>match P.info? e,a.spot,Nat.blt i n with
  |some ei,none,true=>some (.val (.pointer (some ⟨a.block,a.off+i*ei.size,none⟩)) h)
  |_,_,_=>none
 |some (.slice e), .slice (some a) n _, .int _ (.ofNat i)=>match P.info? e,a.spot,Nat.blt i n with
  |some ei,none,true=>some (.val (.pointer (some ⟨a.block,a.off+i*ei.size,none⟩)) h)
  |_,_,_=>none
 |_,_,_=>none
def yT(P:Program)(h:Hs)(t:TypeId)(x i:Value):Option bR:=
 match P.underlying t,x,i with
 |some (.array n e), .agg ⟨cs⟩, .int _ (.ofNat i)=>match P.info? e,Nat.blt i n with
  |some ei,true=>match DK P e cs (i*ei.size) with
   |some v=>some (.val v h)
   |none=>none
  |_,_=>none
 |some .string, .string s, .int _ (.ofNat i)=>match nth s.data.toList i with
  |some b=>some (.val (.int .u8 b.toNat) h)
  |none=>none
 |_,_,_=>none
def lX(P:Program)(h:Hs)(s:TypeId)(x:Value)(f:Nat):Option bR:=
 match P.underlying s,x with
 |some (.struct fields), .pointer (some a)=>match sR fields f,a.spot with
  |some f,none=>match P.info? f.type with
   |some i=>match i.size with
    |0=>none
    |_+1=>some (.val (.pointer (some ⟨a.block,a.off+f.offset,none⟩)) h)
   |none=>none
  |_,_=>none
 |_,_=>none
def jX(f:Value->Value->Option bR)(a b:Option Value):Option bR:=match a,b with
 |some a,some b=>f a b
 |_,_=>none
def iu(f:Value->Option bR)(a:Option Value):Option bR:=match a with
 |some a=>f a
 |none=>none
def Cs(f:Value->Value->Value->Option bR)(a b c:Option Value):Option bR:=match a,b,c with
 |some a,some b,some c=>f a b c
 |_,_,_=>none
def vg(P:Program)(h:Hs)(t:TypeId)(a:Value):Option bR:=match a with
 | .pointer (some ⟨b,off,none⟩)=>match nD P h t b off with
   |some v=>some (.val v h)
   |none=>none
 |_=>none
def o9(P:Program)(h:Hs)(t:TypeId)(a v:Value):Option bR:=match a with
 | .pointer (some ⟨b,off,none⟩)=>match P.info? t with
   |some i=>match Nat.beq (aV v).length i.size,aV v,dz h b off (aV v) with
    |true,_::_,some h=>some (.skip h)
    |_,_,_=>none
   |none=>none
 |_=>none
def nN(h:Hs)(v:Value):Option bR:=match v with
 | .pointer (some a)=>some (.val (.pointer (some a)) h)
 | .func (.func f) a b=>some (.val (.func (.func f) a b) h)
 | .func (.yield f) a b=>some (.val (.func (.yield f) a b) h)
 |_=>none
def qm(h:Hs)(v:Value)(i:Nat):Option bR:=match v with
 | .tuple ⟨vs⟩=>match nth vs i with
   |some v=>some (.val v h)
   |none=>none
 |_=>none
def yM(P:Program)(h:Hs)(op:UnOp)(v:Value):Option bR:=match au v with
 |true=>match kP P (Op.unary op v) with
  |some v=>some (.val v h)
  |none=>none
 |false=>none
def dN(P:Program)(tm:Tm)(h:Hs)(o:Oper):Option bR:=
 match o.op with
 | .move x| .assign x=>iu (fun v=>some (.val v h)) (ev tm x)
 | .pick c a b=>match ev tm c with
   |some (.bool true)=>iu (fun v=>some (.val v h)) (ev tm a)
   |some (.bool false)=>iu (fun v=>some (.val v h)) (ev tm b)
   |_=>none
 | .alloc e=>match P.info? e with
   |some i=>match i.zero with
    |some z=>match au z with
     |true=>some (.val (ptrTo h.next) (gX h e 1 (aV z)))
     |false=>none
    |none=>none
   |none=>none
 | .box e x=>iu (fun v=>some (.val (ptrTo h.next) (gX h e 1 (aV v)))) (ev tm x)
 | .build t parts=>vk P tm h t parts.toList
 | .buildSlice t len parts=>iX P tm h t len parts.toList
 | .load t a=>iu (vg P h t) (ev tm a)
 | .store t a x=>jX (o9 P h t) (ev tm a) (ev tm x)
 | .nilCheck x=>iu (nN h) (ev tm x)
 | .binOp op xt x y _=>jX (fun a b=>match yV P h op xt x y a b with|some v=>some (.val v h)|none=>none) (ev tm x) (ev tm y)
 | .unOp op _ x=>iu (yM P h op) (ev tm x)
 | .convert s d x=>iu (nh P h s d) (ev tm x)
 | .makeFunc fn first captured=>match fn with
   | .func _=>match xp tm first.toList,xp tm captured.toList with
     |some f,some c=>some (.val (.func fn ⟨f⟩ ⟨c⟩) h)
     |_,_=>none
   |_=>none
 | .makeMap _ r=>match r with
   |none=>some (.val (.map (some h.next)) (bV h (.map [] 0)))
   |some _=>none
 | .makeSlice t l c=>jX (iB P h t) (ev tm l) (ev tm c)
 | .slice t x lo hi mx=>iu (fun v=>lU P tm h t v lo hi mx) (ev tm x)
 | .fieldAddr s x f=>iu (fun v=>lX P h s v f) (ev tm x)
 | .field t x f=>iu (fun v=>yU P h t v f) (ev tm x)
 | .indexAddr t x i=>jX (iC P h t) (ev tm x) (ev tm i)
 | .index t x i=>jX (yT P h t) (ev tm x) (ev tm i)
 | .lookup t m k ok=>jX (fun m k=>nP P h t m k ok) (ev tm m) (ev tm k)
 | .mapUpdate t m k x| .insert t m k x=>Cs (iA P h t) (ev tm m) (ev tm k) (ev tm x)
 | .mapEntry t m k=>jX (nO P h t) (ev tm m) (ev tm k)
 | .entryStore _ m s x=>Cs (ko h) (ev tm m) (ev tm s) (ev tm x)
 | .range t x=>iu (yP P h t) (ev tm x)
 | .next it isString=>iu (fun v=>Eu h v isString) (ev tm it)
 | .entry it=>iu (vi h) (ev tm it)
 | .extract t i=>iu (fun v=>qm h v i) (ev tm t)
 | .call c=>kq P tm h c
 | .defer c=>qX tm c
 |_=>none
inductive af where|normal|exit (id:Nat)|goto (l:Nat)|ret
structure Fr where
 tm:Tm
 n:Nat
 gh:List nZ
abbrev Out:=Option (af × Fr × Hs)
def Fr.put(fr:Fr)(d:Option Tmp)(v:Value):Option Fr:=match d with
 |some d=>match Nat.blt d fr.n with
  |true=>some {fr with tm:=fr.tm.set d v}
  |false=>none
 |none=>some fr
def gk(ops:Array Oper)(tm:Tm)(o:Oper):Option Bool:=match o.guard with
 |none=>some true
 |some (j,w)=>match (nth ops.toList j).bind (·.dst) with
  |some d=>match rd tm d with
   | .bool b=>some (b==w)
   | .tuple _=>some false
   |_=>none
  |none=>some false
def kx:List Value->Nat->Tm->Tm
 |[],_,t=>t
 |v::l,i,t=>kx l (i+1) (t.set i v)
def tB:List Tmp->List Value->Nat->Tm->Option Tm
 |[],[],_,t=>some t
 |p::ps,v::vs,n,t=>match Nat.blt p n with
  |true=>tB ps vs n (t.set p v)
  |false=>none
 |_,_,_,_=>none
def dV(P:Program)(tm:Tm)(h:Hs):List ResultVar->Option (List Value)
 |[]=>some []
 | .tmp t::l=>match dV P tm h l with
   |some vs=>match yg (rd tm t) with
    |some v=>some (v::vs)
    |none=>none
   |none=>none
 | .cell a t::l=>match rd tm a with
   | .pointer (some ⟨b,off,none⟩)=>match nD P h t b off,dV P tm h l with
     |some v,some vs=>some (v::vs)
     |_,_=>none
   |_=>none
def vL:List Value->Value
 |[v]=>v
 |l=> .tuple ⟨l⟩
abbrev cM:=Nat->List Value->Hs->Option (Value × Hs)
abbrev vF:=Option Nat->Code->Fr->Hs->Out
def CY(P:Program)(ex:vF)(f:Nat)(args:List Value)(h:Hs):Option Hs:=
 match P.funcs[f]? with
 |some fn=>match fn.body,decide (fn.name= "runtime.NumGoroutine") with
  |some body,false=>
   match ex none body {tm:=kx args 0 .leaf,n:=args.length+(fn.ntmps - args.length),gh:=[]} h with
   |some (.normal,fr,h)|some (.ret,fr,h)=>
    match fr.gh,dV P fr.tm h fn.results.toList with
    |[],some _=>some h
    |_,_=>none
   |_=>none
  |_,_=>none
 |none=>none
def sB(P:Program)(ex:vF):List nZ->Hs->Option Hs
 |[],h=>some h
 | .call f args captured::ds,h=>match CY P ex f (args++captured) h with
   |some h=>sB P ex ds h
   |none=>none
 | .mark r::ds,h=>match h.heap.get r with
   |some (.gh true)=>sB P ex ds {h with heap:=h.heap.set r (.gh false),log:=r::h.log}
   |_=>none
def Bo(P:Program)(ex:vF)(call:cM)(f:Nat)(args:List Value)(h:Hs):Option (Value × Hs):=
 match P.funcs[f]? with
 |some fn=>match fn.body with
  |some body=>
   match ex none body {tm:=kx args 0 .leaf,n:=args.length+(fn.ntmps - args.length),gh:=[]} h with
   |some (.normal,fr,h)|some (.ret,fr,h)=>
    match sB P ex fr.gh h with
    |some h=>match dV P fr.tm h fn.results.toList with
     |some vs=>some (vL vs,h)
     |none=>none
    |none=>none
   |_=>none
  |none=>none
 |none=>none
def gw:af->Option Code
 | .normal=>none
 | .ret=>some .ret
 | .exit i=>some (.exit i)
 | .goto i=>some (.goto i)
def Cj(ex:vF)(l:Nat)(args:List Value)(h:Hs):Option (Value × Hs):=
 match h.heap.get l with
 |some (.loop r)=>match tB r.params args r.n r.tm with
  |some tm=>match ex (some l) r.assign {tm:=tm,n:=r.n,gh:=[]} h with
   |some (.normal,fr,h)=>match h.heap.get l with
    |some (.loop r1)=>match r1.st with
     | .ready=>match ex (some l) r.body fr {h with heap:=h.heap.set l (.loop {r1 with st:= .busy}),log:=l::h.log} with
       |some (e,_,h)=>match h.heap.get l with
        |some (.loop r)=>some (.bool (gw e).isNone,{h with heap:=h.heap.set l (.loop {r with st:=(match gw e with|none=> .ready|some _=> .done),pending:=gw e}),log:=l::h.log})
        |_=>none
       |none=>none
     |_=>none
    |_=>none
   |_=>none
  |none=>none
 |_=>none
def uf(P:Program)(call round:cM)(rdd:Option Nat)(ops:Array Oper):List Oper->Fr->Hs->Option (Fr × Hs)
 |[],fr,h=>some (fr,h)
 |o::l,fr,h=>
  match gk ops fr.tm o with
  |none=>none
  |some false=>match fr.put o.dst undef with
   |some fr=>uf P call round rdd ops l fr h
   |none=>none
  |some true=>match dN P fr.tm h o with
   |none=>none
   |some (.val v h)=>match fr.put o.dst v with
    |some fr=>uf P call round rdd ops l fr h
    |none=>none
   |some (.skip h)=>match fr.put o.dst undef with
    |some fr=>uf P call round rdd ops l fr h
    |none=>none
   |some (.call f args)=>match call f args h with
    |some (v,h)=>match fr.put o.dst v with
     |some fr=>uf P call round rdd ops l fr h
     |none=>none
    |none=>none
   |some (.round f args)=>match round f args h with
    |some (v,h)=>match fr.put o.dst v with
     |some fr=>uf P call round rdd ops l fr h
     |none=>none
    |none=>none
   |some (.gh d)=>match rdd with
    |none=>match ({fr with gh:=d::fr.gh}:Fr).put o.dst undef with
     |some fr=>uf P call round rdd ops l fr h
     |none=>none
    |some _=>none
def fq(ops:Array Oper)(o:Oper):List Tmp:=
 (o.op.operands.toList.filterMap fun| .tmp t=>some t|_=>none)++o.dst.toList++
 (match o.guard with
  |some (g,_)=>((nth ops.toList g).bind (·.dst)).toList
  |none=>[])
def qO(acc:List Nat)(i:Nat):List Edge->Option Nat
 |[]=>some 0
 |e::es=>match Region.binds .any e with
  |true=>match Nat.blt e.on i,nth acc (i - 1 - e.on),qO acc i es with
   |true,some m,some r=>some (2 ^ e.on|||m|||r)
   |_,_,_=>none
  |false=>qO acc i es
def I4{α:Type}(n:Nat)(k:Nat->α):α:=match n with|0=>k 0|m+1=>k (m+1)
def Aq:List Oper->Nat->List Nat->Option (List Nat)
 |[],_,acc=>some acc
 |o::l,i,acc=>match qO acc i o.after.toList with
  |some m=>I4 m fun m=>Aq l (i+1) (m::acc)
  |none=>none
def xR(ops:Array Oper)(ms:List Nat):List Oper->Nat->List (Nat × Oper)->Bool
 |[],_,_=>true
 |o::l,i,prev=>match nth ms i with
  |some m=>match prev.all fun(j,p)=>m.testBit j||
   ((match p.dst with|some d=> !kQ d (fq ops o)|none=>true) && (match o.dst with|some d=> !kQ d (fq ops p)|none=>true)) with
   |true=>xR ops ms l (i+1) ((i,o)::prev)
   |false=>false
  |none=>false
def tY(ops:Array Oper):Option (List Nat):=
 match Aq ops.toList 0 [] with
 |some ms=>match xR ops ms.reverse ops.toList 0 [] with
  |true=>some ms.reverse
  |false=>none
 |none=>none
structure Rec where
 i:Nat
 all:Bool
 reads:List Nat
 writes:List Nat
 lo:Nat
 hi:Nat
def uI:Value->List Nat
 | .pointer (some a)=>[a.block]
 | .slice (some a) _ _=>[a.block]
 | .map (some r)=>[r]
 |_=>[]
def jc(tm:Tm)(x:Operand):List Nat:=match ev tm x with
 |some v=>uI v
 |none=>[]
def uG(tm:Tm):List Operand->List Nat
 |[]=>[]
 |x::l=>jc tm x++uG tm l
def nG(h:Hs):List Nat->List Nat
 |[]=>[]
 |b::l=>match h.heap.get b with
  |some (.dC (some m) _ _ _)=>b::m::nG h l
  |_=>b::nG h l
def bt(tm:Tm)(h:Hs)(o:Oper):List Nat:=
 match o.op with
 | .load _ a=>jc tm a
 | .store _ a _=>jc tm a
 | .binOp _ _ x y _=>uG tm [x,y]
 | .convert _ _ x=>jc tm x
 | .slice _ x _ _ _=>jc tm x
 | .lookup _ m _ _=>jc tm m
 | .mapUpdate _ m _ _| .insert _ m _ _=>jc tm m
 | .mapEntry _ m _=>jc tm m
 | .entryStore _ m _ _=>jc tm m
 | .range _ x=>jc tm x
 | .next it _=>nG h (jc tm it)
 | .entry it=>nG h (jc tm it)
 | .call c=>uG tm c.args.toList
 |_=>[]
def ey(h:Hs):List Nat->T aa
 |[]=> .leaf
 |b::l=>match h.heap.get b with
  |some o=>(ey h l).set b o
  |none=>ey h l
def gY(t s:T aa):List Nat->T aa
 |[]=>t
 |b::l=>match s.get b with
  |some o=>(gY t s l).set b o
  |none=>(gY t s l).del b
def range'(lo:Nat):Nat->List Nat
 |0=>[]
 |n+1=>lo::range' (lo+1) n
def CX:List Nat->List Nat->Bool
 |[],_=>true
 |a::l,m=>match kQ a m with
  |true=>false
  |false=>CX l m
def isNil:List Nat->Bool
 |[]=>true
 |_=>false
def Db(mask:Nat)(new r:Rec):Bool:=
 match mask.testBit r.i with
 |true=>true
 |false=>
  (match new.all with|true=>isNil r.writes|false=>CX r.writes new.reads) &&
  (match r.all with|true=>isNil new.writes|false=>CX new.writes r.reads) &&
  new.reads.all (fun b=>Nat.blt b r.lo||Nat.ble r.hi b)
def fy(mask:Nat)(new:Rec):List Rec->Bool
 |[]=>true
 |r::l=>match Db mask new r with
  |true=>fy mask new l
  |false=>false
def hidden(mask:Nat):List Rec->List Nat
 |[]=>[]
 |r::l=>match mask.testBit r.i with
  |true=>hidden mask l
  |false=>range' r.lo (r.hi - r.lo)++hidden mask l
def lQ(t:T aa):List Nat->T aa
 |[]=>t
 |b::l=>(lQ t l).del b
def dG(P:Program)(mask i:Nat)(bg:List Rec)(tm:Tm)(h:Hs)(o:Oper):Option (Value × Hs × Rec):=
 let ts:=bt tm h o
 match dN P tm {heap:=ey h ts,next:=h.next,log:=[]} o with
 |some (.val v h')=>fin ts v h'
 |some (.skip h')=>fin ts undef h'
 |_=>none
where
 fin (ts:List Nat) (v:Value) (h':Hs):Option (Value × Hs × Rec):=
  let r:Rec:={i,all:=false,reads:=ts++h'.log,writes:=h'.log,lo:=h.next,hi:=h'.next}
  match fy mask r bg with
  |true=>some (v,{heap:=gY h.heap h'.heap (h'.log++range' h.next (h'.next - h.next)),next:=h'.next,log:=h'.log++h.log},r)
  |false=>none
def xE(call:cM)(mask i:Nat)(bg:List Rec)(f:Nat)(args:List Value)(h:Hs):Option (Value × Hs × Rec):=
 let hid:=hidden mask bg
 match call f args {heap:=lQ h.heap hid,next:=h.next,log:=[]} with
 |some (v,h')=>
  let r:Rec:={i,all:=true,reads:=[],writes:=h'.log,lo:=h.next,hi:=h'.next}
  match fy mask r bg,CX h'.log hid with
  |true,true=>some (v,{heap:=gY h'.heap h.heap hid,next:=h'.next,log:=h'.log++h.log},r)
  |_,_=>none
 |none=>none
def nI:Option bR->Option (Bool × Nat × List Value)
 |some (.call f args)=>some (true,f,args)
 |some (.round f args)=>some (false,f,args)
 |_=>none
def AW(o:Oper):Bool:=match o.op with
 | .call {callee:= .builtin _, ..}=>false
 | .call _=>true
 |_=>false
def iS(P:Program)(call round:cM)(ops:Array Oper):List Oper->Nat->List Nat->List Rec->Fr->Hs->Option (Fr × Hs)
 |[],_,_,_,fr,h=>some (fr,h)
 |o::l,i,m::ms,bg,fr,h=>
  match gk ops fr.tm o with
  |none=>none
  |some false=>match fr.put o.dst undef with
   |some fr=>iS P call round ops l (i+1) ms bg fr h
   |none=>none
  |some true=>
   match (match AW o with
    |true=>match nI (dN P fr.tm {heap:= .leaf,next:=0,log:=[]} o) with
     |some (true,f,args)=>xE call m i bg f args h
     |some (false,f,args)=>xE round m i bg f args h
     |none=>dG P m i bg fr.tm h o
    |false=>dG P m i bg fr.tm h o) with
   |some (v,h,r)=>match fr.put o.dst v with
    |some fr=>iS P call round ops l (i+1) ms (r::bg) fr h
    |none=>none
   |none=>none
 |_::_,_,[],_,_,_=>none
def pF(P:Program)(call round:cM)(rdd:Option Nat)(ops:Array Oper)(draw:Bool)(fr:Fr)(h:Hs):Option (Fr × Hs):=
 match draw with
 |false=>uf P call round rdd ops ops.toList fr h
 |true=>match tY ops with
  |some ms=>iS P call round ops ops.toList 0 ms [] fr h
  |none=>none
def xy(P:Program)(ex:vF)(call:cM)(rdd:Option Nat)(c:Code)(fr:Fr)(h:Hs):Out:=
 match c with
 | .skip| .label _=>some (.normal,fr,h)
 | .seq a b=>match ex rdd a fr h with
   |some (.normal,fr,h)=>ex rdd b fr h
   |r=>r
 | .cond c a b=>match ev fr.tm c with
   |some (.bool true)=>ex rdd a fr h
   |some (.bool false)=>ex rdd b fr h
   |_=>none
 | .block id b=>match ex rdd b fr h with
   |some (.exit i,fr,h)=>match Nat.beq i id with
    |true=>some (.normal,fr,h)
    |false=>some (.exit i,fr,h)
   |r=>r
 | .exit id=>some (.exit id,fr,h)
 | .goto l=>some (.goto l,fr,h)
 | .ret=>some (.ret,fr,h)
 | .region _ ops draw=>match pF P call (Cj ex) rdd ops draw fr h with
   |some (fr,h)=>some (.normal,fr,h)
   |none=>none
 | .rangeFunc f ps asg b=>
   match ev fr.tm f with
   |some (.func (.func g) ⟨first⟩ ⟨cap⟩)=>
    match (match rdd with
     |some l=>match h.heap.get l with
      |some (.loop r)=>some (r.defers,([]:List nZ),h)
      |_=>none
     |none=>some (h.next,[.mark h.next],bV h (.gh true))) with
    |some (dk,mark,h)=>Cn fr g first cap dk mark ps asg b h
    |none=>none
   |_=>none
 |_=>none
where
 Cn (fr:Fr) (g:Nat) (first cap:List Value) (dk:Nat) (mark:List nZ) (ps:Array Tmp) (asg b:Code) (h:Hs):Out:=
  match P.funcs[g]? with
  |some fn=>match fn.body,decide (fn.name= "runtime.NumGoroutine") with
   |some _,false=>
    match call g ((first++[.func (.yield h.next) #[] #[]])++cap) (bV h (.loop {st:= .ready,pending:=none,tm:=fr.tm,n:=fr.n,params:=ps.toList,assign:=asg,body:=b,defers:=dk})) with
    |some (_,h')=>
     match h'.heap.get h.next with
     |some (.loop r)=>match r.st with
      | .busy=>none
      |_=>
       match r.pending with
       |none=>some (.normal,{fr with gh:=mark++fr.gh},{h' with heap:=h'.heap.set h.next (.loop {r with st:= .exhausted}),log:=h.next::h'.log})
       |some .ret=>some (.ret,{fr with gh:=mark++fr.gh},{h' with heap:=h'.heap.set h.next (.loop {r with st:= .exhausted}),log:=h.next::h'.log})
       |some (.exit i)=>some (.exit i,{fr with gh:=mark++fr.gh},{h' with heap:=h'.heap.set h.next (.loop {r with st:= .exhausted}),log:=h.next::h'.log})
       |some (.goto i)=>some (.goto i,{fr with gh:=mark++fr.gh},{h' with heap:=h'.heap.set h.next (.loop {r with st:= .exhausted}),log:=h.next::h'.log})
       |_=>none
     |_=>none
    |none=>none
   |_,_=>none
  |none=>none
def qE(ex:vF):Nat->Code->Code->Option Nat->Fr->Hs->Out
 |0,_,_,_,_,_=>none
 |n+1,b,cur,rdd,fr,h=>match ex rdd cur fr h with
  |some (.goto l,fr,h)=>match findLabel b l with
   |some rest=>qE ex n b rest rdd fr h
   |none=>some (.goto l,fr,h)
  |r=>r
def wW(ex:vF):Nat->Code->Option Nat->Fr->Hs->Out
 |0,_,_,_,_=>none
 |n+1,b,rdd,fr,h=>match ex rdd b fr h with
  |some (.normal,fr,h)=>wW ex n b rdd fr h
  |r=>r
def xD(P:Program)(ex:vF):Nat->cM
 |0,_,_,_=>none
 |n+1,f,args,h=>Bo P ex (xD P ex n) f args h
def exec(P:Program):Nat->vF
 |0,_,_,_,_=>none
 |n+1,rdd, .scope b,fr,h=>qE (exec P n) n b b rdd fr h
 |n+1,rdd, .loop b,fr,h=>wW (exec P n) n b rdd fr h
 |n+1,rdd,c,fr,h=>xy P (exec P n) (xD P (exec P n) n) rdd c fr h
def Pg(P:Program)(fuel:Nat):cM:=xD P (exec P fuel) fuel
def Pp:Option (Value × Hs)->Option Bool
 |some (.bool b,_)=>some b
 |_=>none
structure Loc where
 φ:Nat
 δ:Nat
 ψ:Nat
abbrev Ren:=Nat->Option Loc
def Ren.le(ρ ρ':Ren):Prop:= ∀b L,ρ b=some L->ρ' b=some L
theorem Ren.le.refl(ρ:Ren):ρ.le ρ:=fun _ _ h=>h
theorem Ren.le.trans{a b c:Ren}(h:a.le b)(k:b.le c):a.le c:=fun i L hi=>k i L (h i L hi)
mutual
inductive VR (ρ:Ren):Value->Value->Prop where
 |sc (v:Value) (h:simple v=true):VR ρ v v
 |ptr (b o:Nat) (L:Loc) (h:ρ b=some L):VR ρ (.pointer (some ⟨b,o,none⟩)) (.pointer (some ⟨L.φ,L.δ+o,none⟩))
 |sl (b o n c:Nat) (L:Loc) (h:ρ b=some L):VR ρ (.slice (some ⟨b,o,none⟩) n c) (.slice (some ⟨L.φ,L.δ+o,none⟩) n (c+L.ψ))
 |es (a a':Addr) (h:a.spot≠none):VR ρ (.slice (some a) 0 0) (.slice (some a') 0 0)
 |map (b:Nat) (L:Loc) (h:ρ b=some L):VR ρ (.map (some b)) (.map (some L.φ))
 |fn (f:FuncId) (a a' c c':List Value) (h:cT ρ a a') (k:cT ρ c c'):VR ρ (.func (.func f) ⟨a⟩ ⟨c⟩) (.func (.func f) ⟨a'⟩ ⟨c'⟩)
 |yield (l:Nat) (L:Loc) (a a':List Value) (h:ρ l=some L) (k:cT ρ a a'):VR ρ (.func (.yield l) ⟨a⟩ #[]) (.func (.yield L.φ) ⟨a'⟩ #[])
 |agg (a a':List Value) (h:cT ρ a a'):VR ρ (.agg ⟨a⟩) (.agg ⟨a'⟩)
 |tuple (a a':List Value) (h:cT ρ a a'):VR ρ (.tuple ⟨a⟩) (.tuple ⟨a'⟩)
inductive cT (ρ:Ren):List Value->List Value->Prop where
 |nil:cT ρ [] []
 |cons (v v':Value) (l l':List Value) (h:VR ρ v v') (k:cT ρ l l'):cT ρ (v::l) (v'::l')
end
mutual
theorem VR.mono{ρ ρ':Ren}(hl:ρ.le ρ'): ∀{v v':Value},VR ρ v v'->VR ρ' v v'
 |_,_, .sc v h=> .sc v h
 |_,_, .ptr b o L h=> .ptr b o L (hl _ _ h)
 |_,_, .sl b o n c L h=> .sl b o n c L (hl _ _ h)
 |_,_, .es a a' h=> .es a a' h
 |_,_, .map b L h=> .map b L (hl _ _ h)
 |_,_, .fn f a a' c c' h k=> .fn f a a' c c' (cT.mono hl h) (cT.mono hl k)
 |_,_, .yield l L a a' h k=> .yield l L a a' (hl _ _ h) (cT.mono hl k)
 |_,_, .agg a a' h=> .agg a a' (cT.mono hl h)
 |_,_, .tuple a a' h=> .tuple a a' (cT.mono hl h)
theorem cT.mono{ρ ρ':Ren}(hl:ρ.le ρ'): ∀{l l':List Value},cT ρ l l'->cT ρ' l l'
 |_,_, .nil=> .nil
 |_,_, .cons v v' l l' h k=> .cons v v' l l' (VR.mono hl h) (cT.mono hl k)
end
theorem cT.length{ρ:Ren}: ∀{l l':List Value},cT ρ l l'->l'.length=l.length
 |_,_, .nil=>rfl
 |_,_, .cons _ _ _ _ _ k=>by simp[cT.length k]
theorem cT.append{ρ:Ren}: ∀{a a' b b':List Value},cT ρ a a'->cT ρ b b'->cT ρ (a++b) (a'++b')
 |_,_,_,_, .nil,k=>k
 |_,_,_,_, .cons v v' l l' h r,k=> .cons v v' _ _ h (cT.append r k)
theorem cT.get{ρ:Ren}: ∀{l l':List Value},cT ρ l l'-> ∀{i:Nat} {v:Value},l[i]? =some v-> ∃v',l'[i]? =some v'/\VR ρ v v'
 |_,_, .nil,i,v,h=>by simp at h
 |_,_, .cons v v' l l' h k,0,u,hu=>by simp at hu;subst hu;exact⟨v',rfl,h⟩
 |_,_, .cons v v' l l' h k,i+1,u,hu=>by simp at hu;simpa using cT.get k hu
theorem cT.ye{ρ:Ren}: ∀{l l':List Value},l'.length=l.length->(∀(i:Nat)(v:Value),l[i]? =some v-> ∃v',l'[i]? =some v'/\VR ρ v v')->cT ρ l l'
 |[],[],_,_=> .nil
 |[],_::_,h,_=>by simp at h
 |_::_,[],h,_=>by simp at h
 |a::l,b::l',h,k=>by
  obtain⟨v',h1,h2⟩:=k 0 a rfl
  simp at h1;subst h1
  exact .cons a b l l' h2 (cT.ye (by simpa using h) fun i v hi=>by simpa using k (i+1) v (by simpa using hi))
theorem cT.one{ρ:Ren}{v v':Value}(h:VR ρ v v'):cT ρ [v] [v']:= .cons _ _ _ _ h .nil
theorem VR.undef{ρ:Ren}:VR ρ Go.undef Go.undef:= .tuple [] [] .nil
mutual
theorem VR.plain{ρ:Ren}: ∀{v v':Value},VR ρ v v'->au v=true->v'=v
 |_,_, .sc v h,_=>rfl
 |_,_, .ptr b o L h,hp=>by simp[au] at hp
 |_,_, .sl b o n c L h,hp=>by simp[au] at hp
 |_,_, .es a a' h,hp=>by simp[au] at hp
 |_,_, .map b L h,hp=>by simp[au] at hp
 |_,_, .fn f a a' c c' h k,hp=>by simp[au] at hp
 |_,_, .yield l L a a' h k,hp=>by simp[au] at hp
 |_,_, .agg a a' h,hp=>by simp only[au] at hp;rw[cT.plain h hp]
 |_,_, .tuple a a' h,hp=>by simp only[au] at hp;rw[cT.plain h hp]
theorem cT.plain{ρ:Ren}: ∀{l l':List Value},cT ρ l l'->bE l=true->l'=l
 |_,_, .nil,_=>rfl
 |_,_, .cons v v' l l' h k,hp=>by
  simp only[bE] at hp
  cases hv:au v with
  |false=>simp[hv] at hp
  |true=>rw[hv] at hp;rw[VR.plain h hv,cT.plain k hp]
end
mutual
theorem VR.aZ{ρ:Ren}: ∀{v:Value},au v=true->VR ρ v v
 | .bool _,_=> .sc _ rfl
 | .int _ _,_=> .sc _ rfl
 | .string _,_=> .sc _ rfl
 | .float _ _,_=> .sc _ rfl
 | .nilFunc,_=> .sc _ rfl
 | .nilIface,_=> .sc _ rfl
 | .pointer none,_=> .sc _ rfl
 | .slice none _ _,_=> .sc _ rfl
 | .map none,_=> .sc _ rfl
 | .agg ⟨l⟩,h=> .agg l l (cT.aZ (by simpa[au] using h))
 | .tuple ⟨l⟩,h=> .tuple l l (cT.aZ (by simpa[au] using h))
 | .pointer (some _),h=>by simp[au] at h
 | .slice (some _) _ _,h=>by simp[au] at h
 | .map (some _),h=>by simp[au] at h
 | .complex _ _ _,h=>by simp[au] at h
 | .chan _,h=>by simp[au] at h
 | .func _ _ _,h=>by simp[au] at h
 | .iface _ _,h=>by simp[au] at h
theorem cT.aZ{ρ:Ren}: ∀{l:List Value},bE l=true->cT ρ l l
 |[],_=> .nil
 |v::l,h=>by
  simp only[bE] at h
  cases hv:au v with
  |false=>simp[hv] at h
  |true=>rw[hv] at h;exact .cons v v l l (VR.aZ hv) (cT.aZ h)
end
theorem dE{a:Addr}{n c:Nat}(h:AV.simple (.slice (some a) n c)=true):a.spot≠none/\n=0/\c=0:=by
 obtain⟨b,o,s⟩:=a
 cases s with
 |none=>simp[AV.simple] at h
 |some s=>
  cases n with
  |succ n=>simp[AV.simple] at h
  |zero=>
   cases c with
   |succ c=>simp[AV.simple] at h
   |zero=>exact⟨by simp,rfl,rfl⟩
theorem VR.simple{ρ:Ren}{v:Value}(h:AV.simple v=true):VR ρ v v:= .sc v h
theorem VR.cells{ρ:Ren}{v v':Value}(h:VR ρ v v'):cT ρ (aV v) v'.cells.toList:=by
 cases h with
 |agg a a' h=>exact h
 |sc v h=>cases v<;>first|(simp[AV.simple] at h;done)|exact .one (.sc _ h)
 |_=>exact .one (by constructor<;>assumption)
theorem VR.uF{ρ:Ren}{v v':Value}(h:VR ρ v v'):v'.oneCell'=AV.uF v:=by
 cases h with
 |sc v h=>cases v<;>rfl
 |_=>rfl
theorem cT.cE{ρ:Ren}: ∀{l l':List Value},cT ρ l l'->AV.cE l=true-> ∀v∈l',v.oneCell'=true
 |_,_, .nil,_,v,hv=>by simp at hv
 |_,_, .cons v v' l l' h k,hp,u,hu=>by
  simp only[AV.cE] at hp
  cases hv:AV.uF v with
  |false=>simp[hv] at hp
  |true=>
   rw[hv] at hp
   rcases List.mem_cons.1 hu with rfl|hu
   ·rw[h.uF,hv]
   ·exact cT.cE k hp u hu
def ER(ρ:Ren)(e e':MapEntry):Prop:=VR ρ e.key e'.key/\VR ρ e.val e'.val/\e'.born=e.born
inductive ij (ρ:Ren):List MapEntry->List MapEntry->Prop where
 |nil:ij ρ [] []
 |cons (e e':MapEntry) (l l':List MapEntry) (h:ER ρ e e') (k:ij ρ l l'):ij ρ (e::l) (e'::l')
theorem ij.mono{ρ ρ':Ren}(hl:ρ.le ρ'): ∀{l l':List MapEntry},ij ρ l l'->ij ρ' l l'
 |_,_, .nil=> .nil
 |_,_, .cons e e' l l' h k=> .cons e e' l l' ⟨h.1.mono hl,h.2.1.mono hl,h.2.2⟩ (k.mono hl)
def VJ(ρ:Ren)(v v':Value):Prop:=v=sx\/VR ρ v v'
theorem VJ.mono{ρ ρ':Ren}(hl:ρ.le ρ'){v v':Value}(h:VJ ρ v v'):VJ ρ' v v':=h.imp id (VR.mono hl)
theorem VJ.vr{ρ:Ren}{v v':Value}(h:VJ ρ v v')(hv:v≠sx):VR ρ v v':=h.resolve_left hv
theorem rH{v u:Value}(h:yg v=some u):u=v/\v≠sx:=by
 unfold yg at h
 split at h
 ·cases h
 ·rename_i hne
  cases h
  exact⟨rfl,fun e=>hne none e⟩
def TR(ρ:Ren)(tm:Tm)(n:Nat)(tmps:Array Value):Prop:=tmps.size=n/\ ∀t,VJ ρ (rd tm t) (tmps.getD t undef)
theorem TR.mono{ρ ρ':Ren}(hl:ρ.le ρ'){tm:Tm}{n:Nat}{tmps:Array Value}(h:TR ρ tm n tmps):TR ρ' tm n tmps:=⟨h.1,fun t=>(h.2 t).mono hl⟩
structure yY(ρ:Ren)(L:Loc)(k:ba)(c:Array Value)(elem:TypeId)(fr:Nat × Nat):Prop where
 elem:elem=k.elem
 len:k.cells.length<=k.cap
 room:k.own=true->L.δ+k.cap+L.ψ*k.jU<=c.size
 cell: ∀i v,k.cells[i]? =some v-> ∃v',c[L.δ+i]? =some v'/\VR ρ v v'
 exact:k.exact=true->L.ψ=0
 whole:k.whole=true->L.δ=0/\c.size=k.cap
 kC:k.bQ=0->fr=(0,0)
 PY:k.bQ=1->fr.2<=fr.1\/c.size<=fr.1
def OR(ρ:Ren)(L:Loc):aa->Obj->Prop
 | .aw k, .cells c e fr=>yY ρ L k c e fr
 | .map es ck, .map es' ck'=>ij ρ es es'.toList/\ck'=ck
 | .pq s p, .stringIter s' p'=>s'=s/\p'=p/\L.δ=0
 | .dC m since seen last, .mapIter m' since' seen' last'=>(match m with|none=>m'=none|some b=> ∃L,ρ b=some L/\m'=some L.φ)/\since'=since/\seen'.toList=seen.reverse/\last'=last/\L.δ=0
 | .loop l, .loop l'=>l'.state=l.st/\l'.pending=l.pending/\TR ρ l.tm l.n l'.tmps/\l'.params.toList=l.params/\l'.assign=l.assign/\l'.body=l.body/\ ∃L,ρ l.defers=some L/\l'.defers=L.φ
 | .gh b, .deferred ds=>ds=if b then some [] else none
 |_,_=>False
theorem yY.mono{ρ ρ':Ren}(hl:ρ.le ρ'){L:Loc}{k:ba}{c:Array Value}{e:TypeId}{fr:Nat × Nat}(h:yY ρ L k c e fr):yY ρ' L k c e fr:=
 {h with cell:=fun i v hi=>let ⟨v',a,b⟩:=h.cell i v hi;⟨v',a,b.mono hl⟩}
theorem OR.mono{ρ ρ':Ren}(hl:ρ.le ρ'){L:Loc}{o:aa}{x:Obj}(h:OR ρ L o x):OR ρ' L o x:=by
 cases o<;>cases x<;>simp only[OR] at h ⊢ <;>first|exact h.elim|skip
 ·exact yY.mono hl h
 ·exact⟨h.1.mono hl,h.2⟩
 ·exact h
 ·refine⟨?_,h.2⟩
  have h1:=h.1
  split at h1
  ·exact h1
  ·obtain⟨L,a,b⟩:=h1;exact⟨L,hl _ _ a,b⟩
 ·obtain⟨a,b,c,d,e,f,L,g,i⟩:=h;exact⟨a,b,c.mono hl,d,e,f,L,hl _ _ g,i⟩
 ·exact h
def aa.owned:aa->Bool
 | .aw k=>k.own
 |_=>true
abbrev HF:=Nat->Option aa
structure aJ(ρ:Ren)(H:HF)(w:World):Prop where
 obj: ∀b o,H b=some o-> ∃L x,ρ b=some L/\w.heap[L.φ]? =some x/\OR ρ L o x
 inj: ∀i j oi oj Li Lj,H i=some oi->H j=some oj->i≠j->oj.owned=true->ρ i=some Li->ρ j=some Lj->Li.φ≠Lj.φ
theorem aJ.sub{ρ:Ren}{H H':HF}{w:World}(h:aJ ρ H w)(hs: ∀b o,H' b=some o->H b=some o):aJ ρ H' w:=
 ⟨fun b o hb=>h.obj b o (hs b o hb),fun i j oi oj Li Lj hi hj=>h.inj i j oi oj Li Lj (hs _ _ hi) (hs _ _ hj)⟩
structure Step(ρ:Ren)(H:HF)(w:World)(ρ':Ren)(H':HF)(w':World)(lo hi:Nat):Prop where
 os:w'.os=w.os
 tape:w'.tape=w.tape
 output:w'.output=w.output
 size:w.heap.size<=w'.heap.size
 same: ∀r,r<w.heap.size->(∀b o L,H b=some o->o.owned=true->ρ b=some L->L.φ≠r)->w'.heap[r]? =w.heap[r]?
 own: ∀b o L,H' b=some o->o.owned=true->ρ' b=some L->(∃i oi Li,H i=some oi/\oi.owned=true/\ρ i=some Li/\Li.φ=L.φ)\/w.heap.size<=L.φ
 any: ∀b o L,H' b=some o->ρ' b=some L->(∃i oi Li,H i=some oi/\ρ i=some Li/\Li.φ=L.φ)\/w.heap.size<=L.φ
 ext:ρ.le ρ'
 vB: ∀b,b<lo\/hi<=b->ρ' b=ρ b
theorem Step.refl(ρ:Ren)(H:HF)(w:World)(lo hi:Nat):Step ρ H w ρ H w lo hi:=
 ⟨rfl,rfl,rfl,Nat.le_refl _,fun _ _ _=>rfl,fun b o L h ho hL=> .inl ⟨b,o,L,h,ho,hL,rfl⟩,fun b o L h hL=> .inl ⟨b,o,L,h,hL,rfl⟩,Ren.le.refl _,fun _ _=>rfl⟩
theorem Step.trans{ρ ρ1 ρ2:Ren}{H H1 H2:HF}{w w1 w2:World}{a b c:Nat}(h:Step ρ H w ρ1 H1 w1 a b)(k:Step ρ1 H1 w1 ρ2 H2 w2 b c)(hab:a<=b)(hbc:b<=c):Step ρ H w ρ2 H2 w2 a c:=by
 refine⟨k.os.trans h.os,k.tape.trans h.tape,k.output.trans h.output,Nat.le_trans h.size k.size,?_,?_,?_,h.ext.trans k.ext,?_⟩
 ·intro r hr hno
  rw[k.same r (Nat.lt_of_lt_of_le hr h.size) ?_,h.same r hr hno]
  intro i o L hi ho hL he
  rcases h.own i o L hi ho hL with ⟨j,oj,Lj,hj,hoj,hLj,hej⟩|hge
  ·exact hno j oj Lj hj hoj hLj (hej.trans he)
  ·omega
 ·intro i o L hi ho hL
  rcases k.own i o L hi ho hL with ⟨j,oj,Lj,hj,hoj,hLj,hej⟩|hge
  ·rcases h.own j oj Lj hj hoj hLj with ⟨m,om,Lm,hm,hom,hLm,hem⟩|hge
   ·exact .inl ⟨m,om,Lm,hm,hom,hLm,hem.trans hej⟩
   ·exact .inr (hej ▸ hge)
  ·exact .inr (Nat.le_trans h.size hge)
 ·intro i o L hi hL
  rcases k.any i o L hi hL with ⟨j,oj,Lj,hj,hLj,hej⟩|hge
  ·rcases h.any j oj Lj hj hLj with ⟨m,om,Lm,hm,hLm,hem⟩|hge
   ·exact .inl ⟨m,om,Lm,hm,hLm,hem.trans hej⟩
   ·exact .inr (hej ▸ hge)
  ·exact .inr (Nat.le_trans h.size hge)
 ·intro i hi
  rw[k.vB i (by omega),h.vB i (by omega)]
structure kY(w w':World)(r:Nat)(x:Obj):Prop where
 os:w'.os=w.os
 tape:w'.tape=w.tape
 output:w'.output=w.output
 size:w'.heap.size=w.heap.size
 other: ∀k,k≠r->w'.heap[k]? =w.heap[k]?
 at_:w'.heap[r]? =some x
theorem kY.trans{a b c:World}{r:Nat}{x y:Obj}(h:kY a b r x)(k:kY b c r y):kY a c r y:=
 ⟨k.os.trans h.os,k.tape.trans h.tape,k.output.trans h.output,k.size.trans h.size,fun i hi=>(k.other i hi).trans (h.other i hi),k.at_⟩
theorem kY.setCell{w:World}{b p:Nat}{c:Array Value}{e:TypeId}{fr:Nat × Nat}(v:Value)(h:w.heap[b]? =some (.cells c e fr)):
 kY w (w.setCell ⟨b,p,none⟩ v) b (.cells (c.setIfInBounds p v) e fr):=by
 refine⟨rfl,rfl,rfl,by simp,fun k hk=>?_,?_⟩
 ·simp only[World.setCell,Array.getElem?_modify]
  rw[if_neg (by omega)]
 ·simp[World.setCell,Array.getElem?_modify,h]
theorem dx(b o n:Nat):(⟨b,o,none⟩:Addr).add n=⟨b,o+n,none⟩:=by unfold Addr.add;split<;>simp_all
theorem Ce(P:Program)(b:Nat)(e:TypeId)(fr:Nat × Nat): ∀(vs:List Value)(o i:Nat)(c:Array Value)(w:World),w.heap[b]? =some (.cells c e fr)->
 o+i+vs.length<=c.size->(∀p,o+i<=p->p<o+i+vs.length-> ¬(fr.1<=p/\p<fr.2))->(∀v∈vs,v.oneCell'=true)->
 ∃w' c',(storeCells ⟨b,o,none⟩ vs i).run P w= .ok () w'/\kY w w' b (.cells c' e fr)/\c'.size=c.size/\
  ∀p,c'[p]? =if o+i<=p/\p<o+i+vs.length then vs[p - (o+i)]? else c[p]?
 |[],o,i,c,w,h,_,_,_=>⟨w,c,rfl,⟨rfl,rfl,rfl,rfl,fun _ _=>rfl,h⟩,rfl,fun p=>by rw[if_neg (by simp)]⟩
 |v::vs,o,i,c,w,h,hl,hf,h1=>by
  have hi:o+i<c.size:=by simp at hl;omega
  have hcell:w.cell? ⟨b,o+i,none⟩=some c[o+i]:=by simp[World.cell?,h,hi]
  have hfro:w.frozen? ⟨b,o+i,none⟩=false:=by
   have:=hf (o+i) (Nat.le_refl _) (by simp)
   simp only[World.frozen?,h]
   simp only[Bool.and_eq_false_imp,decide_eq_true_eq,decide_eq_false_iff_not]
   intro h1 h2;exact this ⟨h1,h2⟩
  have hst:(store ((⟨b,o,none⟩:Addr).add i) v).run P w= .ok () (w.setCell ⟨b,o+i,none⟩ v):=by
   rw[dx,run_store P w _ v _ (h1 v (by simp)),hcell]
   simp[hfro]
  have hu:=kY.setCell (p:=o+i) v h
  obtain⟨w',c',hr,hu',hs,hc⟩:=Ce P b e fr vs o (i+1) (c.setIfInBounds (o+i) v) _ hu.at_ (by simp at hl ⊢;omega)
   (fun p h1 h2=>hf p (by omega) (by simp;omega)) (fun x hx=>h1 x (by simp[hx]))
  refine⟨w',c',?_,hu.trans hu',by simpa using hs,fun p=>?_⟩
  ·simp only[storeCells,Sem.run_bind,hst,Result.andThen_ok,hr]
  ·rw[hc p]
   by_cases hp:p=o+i
   ·subst hp
    rw[if_neg (by omega),if_pos (by simp)]
    simp[hi]
   ·by_cases hq:o+(i+1)<=p/\p<o+(i+1)+vs.length
    ·rw[if_pos hq,if_pos (by simp;omega)]
     rw[show p - (o+i)=(p - (o+(i+1)))+1 by omega]
     simp
    ·rw[if_neg hq,if_neg (by simp;omega)]
     rw[Array.getElem?_setIfInBounds_ne (by omega)]
theorem gu{α:Type}: ∀{n:Nat} {l r:List α},takeN n l=some r->r.length=n/\ ∀j,j<n->r[j]? =l[j]?
 |0,l,r,h=>by simp[takeN] at h;subst h;simp
 |n+1,[],r,h=>by simp[takeN] at h
 |n+1,a::l,r,h=>by
  simp only[takeN] at h
  split at h
  ·rename_i r' hr
   cases h
   obtain⟨h1,h2⟩:=gu hr
   refine⟨by simp[h1],fun j hj=>?_⟩
   cases j with
   |zero=>rfl
   |succ j=>simpa using h2 j (by omega)
  ·cases h
theorem lP{α:Type}: ∀(n:Nat)(l:List α),gI n l=l.drop n
 |0,l=>rfl
 |n+1,[]=>rfl
 |n+1,a::l=>by simp[gI,lP n l]
theorem gb{α:Type}: ∀(l:List α)(n:Nat),nth l n=l[n]?
 |[],n=>by simp[nth]
 |a::l,0=>rfl
 |a::l,n+1=>by simp[nth,gb l n]
theorem gW: ∀{cs vs r:List Value} {n:Nat},overwrite cs n vs=some r->
 n<=cs.length/\r.length=max cs.length (n+vs.length)/\ ∀p,r[p]? =if n<=p/\p<n+vs.length then vs[p - n]? else cs[p]?
 |[],vs,r,0,h=>by
  have:r=vs:=by cases vs<;>(simp[overwrite] at h;first|exact h|exact h.symm)
  subst this
  refine⟨Nat.zero_le _,by simp,fun p=>?_⟩
  by_cases hp:0<=p/\p<0+r.length
  ·rw[if_pos hp];rfl
  ·rw[if_neg hp];simp;omega
 |[],vs,r,n+1,h=>by cases vs<;>simp[overwrite] at h
 |c::cs,[],r,0,h=>by
  simp[overwrite] at h;subst h
  refine⟨Nat.zero_le _,by simp,fun p=>by rw[if_neg (by simp)]⟩
 |c::cs,v::vs,r,0,h=>by
  simp only[overwrite] at h
  split at h
  ·rename_i r' hr
   cases h
   obtain⟨h1,h2,h3⟩:=gW hr
   refine⟨by simp,by simp[h2],fun p=>?_⟩
   cases p with
   |zero=>simp
   |succ p=>simpa using h3 p
  ·cases h
 |c::cs,vs,r,n+1,h=>by
  have h': ∃r',overwrite cs n vs=some r'/\c::r'=r:=by
   cases vs<;>(simp only[overwrite] at h;split at h<;>first|(rename_i r' hr;cases h;exact⟨r',hr,rfl⟩)|cases h)
  ·obtain⟨r',hr,rfl⟩:=h'
   obtain⟨h1,h2,h3⟩:=gW hr
   refine⟨by simp;omega,by simp[h2];omega,fun p=>?_⟩
   cases p with
   |zero=>simp
   |succ p=>
    simp only[List.getElem?_cons_succ,h3 p]
    by_cases hq:n<=p/\p<n+vs.length
    ·rw[if_pos hq,if_pos (by omega),show p+1 - (n+1)=p - n by omega]
    ·rw[if_neg hq,if_neg (by omega)]
section
variable{P:Program}{ρ:Ren}{w:World}
theorem yY.bh{L:Loc}{k:ba}{c:Array Value}{e:TypeId}{fr:Nat × Nat}(h:yY ρ L k c e fr)(hw:w.heap[L.φ]? =some (.cells c e fr)){n off:Nat}{cs:List Value}
 (ht:takeN n (gI off k.cells)=some cs): ∃cs',cs'.length=n/\cT ρ cs cs'/\ ∀j v,cs'[j]? =some v->w.cell? ⟨L.φ,L.δ+off+j,none⟩=some v:=by
 obtain⟨h1,h2⟩:=gu ht
 rw[lP] at h2
 have hsz:min n (c.size - (L.δ+off))=n:=by
  cases n with
  |zero=>simp
  |succ n=>
   have h3:=h2 n (by omega)
   have h4:cs[n]? ≠none:=by simp;omega
   rw[h3,List.getElem?_drop] at h4
   obtain⟨v,hv⟩:=Option.ne_none_iff_exists'.1 h4
   obtain⟨v',hv',_⟩:=h.cell _ _ hv
   have:=(Array.getElem?_eq_some_iff.1 hv').1
   omega
 refine⟨(c.toList.drop (L.δ+off)).take n,?_,?_,?_⟩
 ·simp only[List.length_take,List.length_drop,Array.length_toList]
  exact hsz
 ·refine cT.ye ?_ fun i v hi=>?_
  ·simp only[List.length_take,List.length_drop,Array.length_toList,h1]
   exact hsz
  ·have hin:i<n:=by
    have:i<cs.length:=by
     rcases Nat.lt_or_ge i cs.length with h'|h'
     ·exact h'
     ·simp[List.getElem?_eq_none h'] at hi
    omega
   rw[h2 i hin,List.getElem?_drop] at hi
   obtain⟨v',hv',hR⟩:=h.cell _ _ hi
   refine⟨v',?_,hR⟩
   rw[List.getElem?_take_of_lt hin,List.getElem?_drop,Array.getElem?_toList,Nat.add_assoc]
   exact hv'
 ·intro j v hj
  have hjn:j<n:=by
   rcases Nat.lt_or_ge j n with h'|h'
   ·exact h'
   ·rw[List.getElem?_take_eq_none h'] at hj;cases hj
  rw[List.getElem?_take_of_lt hjn,List.getElem?_drop,Array.getElem?_toList] at hj
  simpa[World.cell?,hw] using hj
theorem ab{t:TypeId}{d:TypeDesc}(h:P.underlying t=some d):(underlying t).run P w= .ok d w:=by
 simp[underlying,h]
theorem ky{t:TypeId}{i:TypeInfo}(h:P.info? t=some i):(typeInfo t).run P w= .ok i w:=by
 simp[typeInfo,h]
theorem aO{t:TypeId}{i:TypeInfo}(h:P.info? t=some i):(sizeOf t).run P w= .ok i.size w:=by
 simp[sizeOf,ky h]
theorem lA{t:TypeId}{d:TypeDesc}(h:P.underlying t=some d):(isAgg t).run P w= .ok (lL d) w:=by
 simp only[isAgg,Sem.run_bind,ab h,Result.andThen_ok]
 cases d<;>rfl
theorem cZ{t:TypeId}{i:TypeInfo}{z:Value}(h:P.info? t=some i)(hz:i.zero=some z):(zeroValue t).run P w= .ok z w:=by
 simp[zeroValue,ky h,hz]
theorem oe{h:Hs}{t:TypeId}{b off:Nat}{v:Value}(hh:aJ ρ h.heap.get w)(hr:nD P h t b off=some v):
 ∃L v',ρ b=some L/\(loadVar t ⟨L.φ,L.δ+off,none⟩).run P w= .ok v' w/\VR ρ v v':=by
 unfold nD at hr
 split at hr
 ·rename_i k hk
  obtain⟨L,x,hL,hx,hR⟩:=hh.obj _ _ hk
  cases x<;>simp only[OR] at hR<;>first|exact hR.elim|skip
  rename_i c e fr
  split at hr
  ·rename_i d hd
   split at hr
   ·rename_i hag
    split at hr
    ·rename_i i hi
     split at hr
     ·rename_i cs hcs
      cases hr
      obtain⟨cs',h1,h2,h3⟩:=hR.bh hx hcs
      refine⟨L, .agg ⟨cs'⟩,hL,?_, .agg _ _ h2⟩
      have hl:=run_loadCells_list (P:=P) w ⟨L.φ,L.δ+off,none⟩ cs' (fun j v hj=>by rw[dx];exact h3 j v hj)
      simp only[loadVar,Sem.run_bind,lA hd,Result.andThen_ok,hag,if_true,aO hi]
      rw[h1] at hl
      simp[hl]
     ·cases hr
    ·cases hr
   ·rename_i hag
    rw[gb] at hr
    obtain⟨v',hv',hvR⟩:=hR.cell _ _ hr
    refine⟨L,v',hL,?_,hvR⟩
    have hc:w.cell? ⟨L.φ,L.δ+off,none⟩=some v':=by simpa[World.cell?,hx] using hv'
    simp only[loadVar,Sem.run_bind,lA hd,Result.andThen_ok,hag,Bool.false_eq_true,if_false,run_load,hc]
  ·cases hr
 ·cases hr
theorem aJ.n9{H H':HF}{b:Nat}{o o':aa}{L:Loc}{x:Obj}{w':World}(hh:aJ ρ H w)(hb:H b=some o)(ho:o.owned=true)(hL:ρ b=some L)
 (hw:kY w w' L.φ x) (hR:OR ρ L o' x) (hH: ∀i,H' i=if i=b then some o' else H i):aJ ρ H' w':=by
 refine⟨fun i oi hi=>?_,fun i j oi oj Li Lj hi hj hij hoj hLi hLj=>?_⟩
 ·rw[hH] at hi
  split at hi
  ·rename_i he;subst he;cases hi;exact⟨L,x,hL,hw.at_,hR⟩
  ·rename_i he
   obtain⟨Li,xi,hLi,hxi,hRi⟩:=hh.obj _ _ hi
   exact⟨Li,xi,hLi,by rw[hw.other _ (hh.inj i b oi o Li L hi hb he ho hLi hL)];exact hxi,hRi⟩
 ·have hi': ∃oi',H i=some oi':=by
   rw[hH] at hi;split at hi
   ·rename_i he;subst he;exact⟨_,hb⟩
   ·exact⟨_,hi⟩
  have hj': ∃oj',H j=some oj'/\oj'.owned=true:=by
   rw[hH] at hj;split at hj
   ·rename_i he;subst he;exact⟨_,hb,ho⟩
   ·exact⟨_,hj,hoj⟩
  obtain⟨oi',hi'⟩:=hi'
  obtain⟨oj',hj',hoj'⟩:=hj'
  exact hh.inj i j oi' oj' Li Lj hi' hj' hij hoj' hLi hLj
theorem Step.n9{H H':HF}{b:Nat}{o o':aa}{L:Loc}{x:Obj}{w':World}(hb:H b=some o)(ho:o.owned=true)(hL:ρ b=some L)
 (hw:kY w w' L.φ x) (hH: ∀i,H' i=if i=b then some o' else H i) (lo hi:Nat):Step ρ H w ρ H' w' lo hi:=by
 refine⟨hw.os,hw.tape,hw.output,by rw[hw.size];exact Nat.le_refl _,fun r _ hno=>hw.other r fun he=>hno b o L hb ho hL he.symm,?_,?_,Ren.le.refl _,fun _ _=>rfl⟩
 ·intro i oi Li hi ho' hLi
  rw[hH] at hi
  split at hi
  ·rename_i he;subst he;exact .inl ⟨_,o,Li,hb,ho,hLi,rfl⟩
  ·exact .inl ⟨i,oi,Li,hi,ho',hLi,rfl⟩
 ·intro i oi Li hi hLi
  rw[hH] at hi
  split at hi
  ·rename_i he;subst he;exact .inl ⟨_,o,Li,hb,hLi,rfl⟩
  ·exact .inl ⟨i,oi,Li,hi,hLi,rfl⟩
theorem iE{h h':Hs}{b off:Nat}{vs vs':List Value}(hh:aJ ρ h.heap.get w)(hw:dz h b off vs=some h')(hv:cT ρ vs vs'):
 ∃L w',ρ b=some L/\(storeCells ⟨L.φ,L.δ+off,none⟩ vs').run P w= .ok () w'/\aJ ρ h'.heap.get w'/\ ∀lo hi,Step ρ h.heap.get w ρ h'.heap.get w' lo hi:=by
 unfold dz at hw
 split at hw
 ·rename_i k hk
  have key:k.own=true->(k.bQ=0\/k.bQ=1)-> ∀cs,cE vs=true->overwrite k.cells off vs=some cs->cs.length<=k.cap->
   ∃L w',ρ b=some L/\(storeCells ⟨L.φ,L.δ+off,none⟩ vs').run P w= .ok () w'/\aJ ρ ((h.heap.set b (.aw {k with cells:=cs})).get) w'/\
    ∀lo hi,Step ρ h.heap.get w ρ ((h.heap.set b (.aw {k with cells:=cs})).get) w' lo hi:=by
   intro hown hfrz cs hac how hcap
   obtain⟨L,x,hL,hx,hR⟩:=hh.obj _ _ hk
   cases x<;>simp only[OR] at hR<;>first|exact hR.elim|skip
   rename_i c e fr
   obtain⟨ho1,ho2,ho3⟩:=gW how
   have hlen:vs'.length=vs.length:=hv.length
   have hroom:=hR.room hown
   obtain⟨w',c',hr,hu,hs,hc⟩:=Ce P L.φ e fr vs' (L.δ+off) 0 c w hx (by omega)
    (fun p h1 h2=>by
      rcases hfrz with hf|hf
      ·have:=hR.kC hf;subst this;simp
      ·rcases hR.PY hf with h3|h3<;>omega) (hv.cE hac)
   have hR':OR ρ L (.aw {k with cells:=cs}) (.cells c' e fr):=by
    refine⟨hR.elem,hcap,fun _=>by show L.δ+k.cap+L.ψ*k.jU<=c'.size;omega,fun i v hi=>?_,hR.exact,fun hwh=>?_,hR.kC,fun hf=>?_⟩
    ·rw[hc]
     have hi':cs[i]? =some v:=hi
     rw[ho3] at hi'
     by_cases hq:off<=i/\i<off+vs.length
     ·rw[if_pos hq] at hi'
      rw[if_pos (by omega)]
      obtain⟨v',hv',hvR⟩:=hv.get hi'
      exact⟨v',by rw[show L.δ+i - (L.δ+off+0)=i - off by omega];exact hv',hvR⟩
     ·rw[if_neg hq] at hi'
      rw[if_neg (by omega)]
      exact hR.cell i v hi'
    ·obtain⟨h1,h2⟩:=hR.whole hwh;exact⟨h1,by rw[hs];exact h2⟩
    ·rw[hs];exact hR.PY hf
   exact⟨L,w',hL,hr,hh.n9 hk hown hL hu hR' (fun i=>T.aP _ _ _ _),fun lo hi=>Step.n9 hk hown hL hu (fun i=>T.aP _ _ _ _) lo hi⟩
  have fin:k.own=true->(k.bQ=0\/k.bQ=1)->(match cE vs,overwrite k.cells off vs with
   |true,some cs=>match Nat.ble cs.length k.cap with
    |true=>some {h with heap:=h.heap.set b (.aw {k with cells:=cs}),log:=b::h.log}
    |false=>none
   |_,_=>none)=some h'-> ∃L w',ρ b=some L/\(storeCells ⟨L.φ,L.δ+off,none⟩ vs').run P w= .ok () w'/\aJ ρ h'.heap.get w'/\ ∀lo hi,Step ρ h.heap.get w ρ h'.heap.get w' lo hi:=by
   intro h1 h2 hm
   split at hm
   ·rename_i cs hac how
    split at hm
    ·rename_i hle
     cases hm
     exact key h1 h2 cs hac how (Nat.le_of_ble_eq_true hle)
    ·cases hm
   ·cases hm
  split at hw
  ·rename_i ho hf;exact fin ho (.inl hf) hw
  ·rename_i ho hf;exact fin ho (.inr hf) hw
  ·cases hw
 ·cases hw
theorem aJ.world{H:HF}{w':World}(hh:aJ ρ H w)(he:w'.heap=w.heap):aJ ρ H w':=
 ⟨fun b o hb=>let ⟨L,x,h1,h2,h3⟩:=hh.obj b o hb;⟨L,x,h1,by rw[he];exact h2,h3⟩,hh.inj⟩
theorem Step.world{H:HF}{w':World}(h1:w'.heap=w.heap)(h2:w'.os=w.os)(h3:w'.tape=w.tape)(h4:w'.output=w.output)(lo hi:Nat):Step ρ H w ρ H w' lo hi:=
 ⟨h2,h3,h4,by rw[h1];exact Nat.le_refl _,fun _ _ _=>by rw[h1],fun b o L h ho hL=> .inl ⟨b,o,L,h,ho,hL,rfl⟩,fun b o L h hL=> .inl ⟨b,o,L,h,hL,rfl⟩,Ren.le.refl _,fun _ _=>rfl⟩
def Ren.set(ρ:Ren)(b:Nat)(L:Loc):Ren:=fun i=>if i=b then some L else ρ i
theorem Ren.cB(ρ:Ren)(b:Nat)(L:Loc):(ρ.set b L) b=some L:=by simp[Ren.set]
theorem Ren.il{b:Nat}(L:Loc)(h:ρ b=none):ρ.le (ρ.set b L):=fun i M hi=>by
 unfold Ren.set;rw[if_neg (fun he=>by subst he;rw[h] at hi;cases hi)];exact hi
theorem Ren.gz{b i:Nat}(L:Loc)(h:i≠b):(ρ.set b L) i=ρ i:=by simp[Ren.set,h]
theorem aJ.new{H H':HF}{b:Nat}{o:aa}{x:Obj}{δ ψ:Nat}(hh:aJ ρ H w)(hb:ρ b=none)
 (hR:OR (ρ.set b ⟨w.heap.size,δ,ψ⟩) ⟨w.heap.size,δ,ψ⟩ o x) (hH: ∀i,H' i=if i=b then some o else H i):
 aJ (ρ.set b ⟨w.heap.size,δ,ψ⟩) H' (w.alloc x)/\Step ρ H w (ρ.set b ⟨w.heap.size,δ,ψ⟩) H' (w.alloc x) b (b+1):=by
 have hle:=Ren.il (ρ:=ρ) ⟨w.heap.size,δ,ψ⟩ hb
 have hlt: ∀i oi Li,H i=some oi->ρ i=some Li->Li.φ<w.heap.size:=by
  intro i oi Li hi hLi
  obtain⟨L,y,hL,hy,_⟩:=hh.obj _ _ hi
  rw[hLi] at hL;cases hL
  exact(Array.getElem?_eq_some_iff.1 hy).1
 have hold: ∀k,k<w.heap.size->(w.alloc x).heap[k]? =w.heap[k]? :=fun k hk=>by
  show(w.heap.push x)[k]? =_
  rw[Array.getElem?_push,if_neg (by omega)]
 have hnb: ∀i oi,H i=some oi->i≠b:=fun i oi hi he=>by
  obtain⟨L,y,hL,_,_⟩:=hh.obj _ _ hi
  subst he;rw[hb] at hL;cases hL
 refine⟨⟨fun i oi hi=>?_,fun i j oi oj Li Lj hi hj hij hoj hLi hLj=>?_⟩,⟨rfl,rfl,rfl,by simp,fun r hr _=>hold r hr,?_,?_,hle,?_⟩⟩
 ·rw[hH] at hi
  split at hi
  ·rename_i he;subst he;cases hi
   exact⟨_,x,Ren.cB _ _ _,by show(w.heap.push x)[w.heap.size]? =some x;simp,hR⟩
  ·obtain⟨L,y,hL,hy,hRy⟩:=hh.obj _ _ hi
   exact⟨L,y,hle _ _ hL,by rw[hold _ (hlt i oi L hi hL)];exact hy,hRy.mono hle⟩
 ·rw[hH] at hi hj
  split at hi
  ·rename_i he;subst he;cases hi
   rw[Ren.cB] at hLi;cases hLi
   rw[if_neg (fun h=>hij h.symm)] at hj
   rw[Ren.gz _ (fun h=>hij h.symm)] at hLj
   have:=hlt j oj Lj hj hLj
   show w.heap.size≠Lj.φ
   omega
  ·rename_i hne
   rw[Ren.gz _ hne] at hLi
   split at hj
   ·rename_i he;subst he;cases hj
    rw[Ren.cB] at hLj;cases hLj
    have:=hlt i oi Li hi hLi
    show Li.φ≠w.heap.size
    omega
   ·rename_i hne2
    rw[Ren.gz _ hne2] at hLj
    exact hh.inj i j oi oj Li Lj hi hj hij hoj hLi hLj
 ·intro i oi Li hi ho hLi
  rw[hH] at hi
  split at hi
  ·rename_i he;subst he;rw[Ren.cB] at hLi;cases hLi;exact .inr (Nat.le_refl _)
  ·rename_i hne
   rw[Ren.gz _ hne] at hLi
   exact .inl ⟨i,oi,Li,hi,ho,hLi,rfl⟩
 ·intro i oi Li hi hLi
  rw[hH] at hi
  split at hi
  ·rename_i he;subst he;rw[Ren.cB] at hLi;cases hLi;exact .inr (Nat.le_refl _)
  ·rename_i hne
   rw[Ren.gz _ hne] at hLi
   exact .inl ⟨i,oi,Li,hi,hLi,rfl⟩
 ·intro i hi
  exact Ren.gz _ (by omega)
end
section
variable{P:Program}{ρ:Ren}{w:World}{h:Hs}
theorem fF{α:Type}: ∀{s:Sem α} {a:α},prun P s=some a-> ∀w,s.run P w= .ok a w
 | .pure a,_,h,w=>by simp[prun] at h;subst h;rfl
 | .program k,a,h,w=>by simp only[prun] at h;simp only[Sem.run];exact fF h w
 | .mark m k,a,h,w=>by simp only[prun] at h;simp only[Sem.run];exact fF h w
 | .load _ _ _,_,h,_=>by simp[prun] at h
 | .store _ _ _ _,_,h,_=>by simp[prun] at h
 | .new _ _,_,h,_=>by simp[prun] at h
 | .shape _ _,_,h,_=>by simp[prun] at h
 | .freeze _ _ _,_,h,_=>by simp[prun] at h
 | .frozen _ _,_,h,_=>by simp[prun] at h
 | .getObj _ _,_,h,_=>by simp[prun] at h
 | .setObj _ _ _,_,h,_=>by simp[prun] at h
 | .choose _ _,_,h,_=>by simp[prun] at h
 | .sys _ _,_,h,_=>by simp[prun] at h
 | .halt _,_,h,_=>by simp[prun] at h
theorem aL{tm:Tm}{n:Nat}{a:Act}(ht:TR ρ tm n a.tmps){x:Operand}{v:Value}(hx:ev tm x=some v):VR ρ v (a.eval x):=by
 cases x with
 |tmp t=>
  simp only[ev] at hx
  obtain⟨rfl,hj⟩:=rH hx
  exact(ht.2 t).vr hj
 |const c=>
  simp only[ev] at hx
  split at hx
  ·rename_i hs;cases hx;exact .sc _ hs
  ·cases hx
 |global g=>simp[ev] at hx
 |func f=>simp only[ev,Option.some.injEq] at hx;subst hx;exact .fn f [] [] [] [] .nil .nil
theorem xo{tm:Tm}{n:Nat}{a:Act}(ht:TR ρ tm n a.tmps): ∀{l:List Operand} {vs:List Value},xp tm l=some vs->cT ρ vs (l.map a.eval)
 |[],vs,h=>by simp[xp] at h;subst h;exact .nil
 |x::l,vs,h=>by
  simp only[xp] at h
  split at h
  ·rename_i v hv
   split at h
   ·rename_i vs' hvs
    cases h
    exact .cons _ _ _ _ (aL ht hv) (xo ht hvs)
   ·cases h
  ·cases h
inductive Uw (ρ:Ren):List (Nat × Value)->List (Nat × Value)->Prop where
 |nil:Uw ρ [] []
 |cons (i:Nat) (v v':Value) (l l':List (Nat × Value)) (h:VR ρ v v') (k:Uw ρ l l'):Uw ρ ((i,v)::l) ((i,v')::l')
theorem kD{tm:Tm}{n:Nat}{a:Act}(ht:TR ρ tm n a.tmps): ∀{l:List (Nat × Operand)} {vs:List (Nat × Value)},jk tm l=some vs->Uw ρ vs (l.map fun x=>(x.1,a.eval x.2))
 |[],vs,h=>by simp[jk] at h;subst h;exact .nil
 |(i,x)::l,vs,h=>by
  simp only[jk] at h
  split at h
  ·rename_i v hv
   split at h
   ·rename_i vs' hvs
    cases h
    exact .cons _ _ _ _ _ (aL ht hv) (kD ht hvs)
   ·cases h
  ·cases h
def bA(ρ:Ren)(lo hi:Nat):Prop:= ∀b,lo<=b->b<hi->ρ b=none
def aD(P:Program)(ρ:Ren)(h:Hs)(w:World)(s:Sem Value)(v:Value)(h':Hs):Prop:=
 ∃ρ' v' w',s.run P w= .ok v' w'/\VR ρ' v v'/\aJ ρ' h'.heap.get w'/\Step ρ h.heap.get w ρ' h'.heap.get w' h.next h'.next
def re(P:Program)(ρ:Ren)(h:Hs)(w:World)(s:Sem Unit)(h':Hs):Prop:=
 ∃ρ' w',s.run P w= .ok () w'/\aJ ρ' h'.heap.get w'/\Step ρ h.heap.get w ρ' h'.heap.get w' h.next h'.next
def DR(ρ:Ren):nZ->Deferred->Prop
 | .call f args captured,d=> ∃args' captured',d={target:= .fn (.func f) ⟨captured'⟩,args:=⟨args'⟩}/\cT ρ args args'/\cT ρ captured captured'
 | .mark r,d=> ∃L,ρ r=some L/\d={target:= .collected L.φ,args:= #[]}
def dP(P:Program)(ρ:Ren)(h:Hs)(w:World)(s:Sem Next):bR->Prop
 | .val v h'=> ∃ρ' v' w',s.run P w= .ok (.value v') w'/\VR ρ' v v'/\aJ ρ' h'.heap.get w'/\Step ρ h.heap.get w ρ' h'.heap.get w' h.next h'.next
 | .skip h'=> ∃ρ' w',s.run P w= .ok .skip w'/\aJ ρ' h'.heap.get w'/\Step ρ h.heap.get w ρ' h'.heap.get w' h.next h'.next
 | .call f args=> ∃args',s.run P w= .ok (.enter f ⟨args'⟩) w/\cT ρ args args'
 | .round l args=> ∃L args',ρ l=some L/\s.run P w=(Instr.yield L.φ ⟨args'⟩).run P w/\cT ρ args args'
 | .gh d=> ∃d',s.run P w= .ok (.defer d') w/\DR ρ d d'
def bR.next(h:Hs):bR->Nat
 | .val _ h'| .skip h'=>h'.next
 |_=>h.next
theorem dP.ug{s:Sem Value}{v:Value}{h':Hs}(hv:aD P ρ h w s v h'):dP P ρ h w (do pure (.value (←s))) (.val v h'):=by
 obtain⟨ρ',v',w',h1,h2,h3,h4⟩:=hv
 exact⟨ρ',v',w',by simp[h1],h2,h3,h4⟩
theorem dP.HH{s:Sem Unit}{h':Hs}(hv:re P ρ h w s h'):dP P ρ h w (do s;pure .skip) (.skip h'):=by
 obtain⟨ρ',w',h1,h3,h4⟩:=hv
 exact⟨ρ',w',by simp[h1],h3,h4⟩
theorem aD.pure{s:Sem Value}{v v':Value}(hh:aJ ρ h.heap.get w)(hs:s.run P w= .ok v' w)(hv:VR ρ v v'):aD P ρ h w s v h:=
 ⟨ρ,v',w,hs,hv,hh,Step.refl _ _ _ _ _⟩
theorem aD.new{s:Sem Value}{v v':Value}{o:aa}{x:Obj}{δ ψ:Nat}(hh:aJ ρ h.heap.get w)(hf:bA ρ h.next (h.next+1))(hs:s.run P w= .ok v' (w.alloc x))
 (hR:OR (ρ.set h.next ⟨w.heap.size,δ,ψ⟩) ⟨w.heap.size,δ,ψ⟩ o x) (hv:VR (ρ.set h.next ⟨w.heap.size,δ,ψ⟩) v v'):aD P ρ h w s v (bV h o):=by
 have hn:ρ h.next=none:=hf _ (Nat.le_refl _) (Nat.lt_succ_self _)
 obtain⟨h1,h2⟩:=aJ.new (H':=(bV h o).heap.get) hh hn hR (fun i=>T.aP _ _ _ _)
 exact⟨_,v',_,hs,hv,h1,h2⟩
theorem sU{L:Loc}{vs vs':List Value}{c:Array Value}{cap jU elem:Nat}{exact whole:Bool}{fr:Nat × Nat}{bQ:Nat}{own:Bool}(hv:cT ρ vs vs')
 (hlen:vs.length<=cap) (hroom:own=true->L.δ+cap+L.ψ*jU<=c.size) (hc: ∀i,i<vs.length->c[L.δ+i]? =vs'[i]?) (hex:exact=true->L.ψ=0) (hwh:whole=true->L.δ=0/\c.size=cap)
 (h0:bQ=0->fr=(0,0)) (h1:bQ=1->fr.2<=fr.1\/c.size<=fr.1):
 OR ρ L (.aw {cells:=vs,cap,jU,elem,exact,whole,bQ,own}) (.cells c elem fr):=
 ⟨rfl,hlen,hroom,fun i v hi=>by
   have hi':vs[i]? =some v:=hi
   obtain⟨v',hv',hR⟩:=hv.get hi'
   have hlt:i<vs.length:=by
    rcases Nat.lt_or_ge i vs.length with h'|h'
    ·exact h'
    ·simp[List.getElem?_eq_none h'] at hi'
   exact⟨v',by rw[hc i hlt];exact hv',hR⟩,hex,hwh,h0,h1⟩
theorem gv(elem:TypeId)(c:Array Value):(newRow elem c).run P w= .ok ⟨w.heap.size,0,none⟩ (w.alloc (.cells c elem)):=by
 simp[newRow]
theorem aD.gX{s:Sem Value}{v v':Value}{elem jU:Nat}{vs vs':List Value}(hh:aJ ρ h.heap.get w)(hf:bA ρ h.next (h.next+1))(hv:cT ρ vs vs')
 (hs:s.run P w= .ok v' (w.alloc (.cells ⟨vs'⟩ elem))) (hr:VR (ρ.set h.next ⟨w.heap.size,0,0⟩) v v'):aD P ρ h w s v (gX h elem jU vs):=by
 have hn:ρ h.next=none:=hf _ (Nat.le_refl _) (Nat.lt_succ_self _)
 refine aD.new (δ:=0) (ψ:=0) hh hf hs (sU (hv.mono (Ren.il _ hn)) (Nat.le_refl _) ?_ ?_ (fun _=>rfl) (fun _=>⟨rfl,?_⟩) (fun _=>rfl) (fun h=>by cases h)) hr
 ·intro _;simp[hv.length]
 ·intro i _;simp
 ·simp[hv.length]
theorem VR.um(ρ:Ren)(b:Nat)(L:Loc)(h:L.δ=0):VR (ρ.set b L) (ptrTo b) (.pointer (some ⟨L.φ,0,none⟩)):=by
 have:=VR.ptr (ρ:=ρ.set b L) b 0 L (Ren.cB _ _ _)
 simpa[h,ptrTo] using this
theorem VR.rI(ρ:Ren)(b:Nat)(L:Loc)(n c:Nat)(h:L.δ=0):VR (ρ.set b L) (.slice (some ⟨b,0,none⟩) n c) (.slice (some ⟨L.φ,0,none⟩) n (c+L.ψ)):=by
 have:=VR.sl (ρ:=ρ.set b L) b 0 n c L (Ren.cB _ _ _)
 simpa[h] using this
theorem J6{e:TypeId}{i:TypeInfo}{z:Value}(hh:aJ ρ h.heap.get w)(hf:bA ρ h.next (h.next+1))(hi:P.info? e=some i)(hz:i.zero=some z)(hp:au z=true):
 aD P ρ h w (Instr.alloc e true (.tuple #[])) (ptrTo h.next) (gX h e 1 (aV z)):=by
 refine aD.gX (v':= .pointer (some ⟨w.heap.size,0,none⟩)) hh hf (VR.aZ hp).cells ?_ (VR.um _ _ _ rfl)
 simp[Instr.alloc,cZ hi hz,newVar,gv]
theorem QA{e:TypeId}{v v':Value}(hh:aJ ρ h.heap.get w)(hf:bA ρ h.next (h.next+1))(hv:VR ρ v v'):
 aD P ρ h w (Instr.box e v') (ptrTo h.next) (gX h e 1 (aV v)):=by
 refine aD.gX (v':= .pointer (some ⟨w.heap.size,0,none⟩)) hh hf hv.cells ?_ (VR.um _ _ _ rfl)
 simp[Instr.box,newVar,gv]
theorem Mr{t:TypeId}{a a':Value}{r:bR}(hh:aJ ρ h.heap.get w)(ha:VR ρ a a')(hr:vg P h t a=some r): ∃v,r= .val v h/\aD P ρ h w (Instr.loadAt t a') v h:=by
 unfold vg at hr
 split at hr
 ·split at hr
  ·rename_i b off v hv
   cases hr
   obtain⟨L,v',hL,hrun,hvR⟩:=oe hh hv
   cases ha with
   |sc _ hs=>simp[simple] at hs
   |ptr b o L' hL'=>
    rw[hL] at hL';cases hL'
    exact⟨v,rfl,aD.pure hh (by simp[Instr.loadAt,Instr.sureAddr,hrun]) hvR⟩
  ·cases hr
 ·cases hr
theorem G1{t:TypeId}{a a' v v':Value}{r:bR}(hh:aJ ρ h.heap.get w)(ha:VR ρ a a')(hv:VR ρ v v')(hr:o9 P h t a v=some r):
 ∃h',r= .skip h'/\h'.next=h.next/\re P ρ h w (Instr.storeAt t a' v') h':=by
 unfold o9 at hr
 split at hr
 ·rename_i b off
  split at hr
  ·rename_i i hi
   split at hr
   ·rename_i c cs h' h1 h2 h3
    cases hr
    rw[h2] at h3 h1
    have hc:=hv.cells
    rw[h2] at hc
    obtain⟨L,w',hL,hrun,hh',hst⟩:=iE (P:=P) hh h3 hc
    have hnx:h'.next=h.next:=by
     unfold dz at h3
     repeat' (split at h3)
     all_goals first|(cases h3;rfl)|cases h3
    cases ha with
    |sc _ hs=>simp[simple] at hs
    |ptr b o L' hL'=>
     rw[hL] at hL';cases hL'
     have hlen:=hc.length
     have hsz:v'.cells.size=i.size:=by
      rw[←Array.length_toList,hlen,Nat.eq_of_beq_eq_true h1]
     exact⟨h',rfl,hnx,ρ,w',by simp[Instr.storeAt,Instr.sureAddr,storeVar,aO hi,hsz,hrun],hh',hst _ _⟩
   ·cases hr
  ·cases hr
 ·cases hr
end
section
variable{P:Program}{ρ:Ren}{w:World}{h:Hs}
theorem xm(off:Nat): ∀(l:List Value)(k:Nat)(a:Array Value),off+k+l.length<=a.size->
 ((l.zipIdx k).foldl (fun cs (x:Value × Nat)=>cs.setIfInBounds (off+x.2) x.1) a).size=a.size/\
 ∀p,((l.zipIdx k).foldl (fun cs (x:Value × Nat)=>cs.setIfInBounds (off+x.2) x.1) a)[p]? =if off+k<=p/\p<off+k+l.length then l[p - (off+k)]? else a[p]?
 |[],k,a,_=>⟨rfl,fun p=>by rw[if_neg (by simp)];rfl⟩
 |v::l,k,a,hl=>by
  simp only[List.zipIdx_cons,List.foldl_cons]
  have hi:off+k<a.size:=by simp at hl;omega
  obtain⟨h1,h2⟩:=xm off l (k+1) (a.setIfInBounds (off+k) v) (by simp at hl ⊢;omega)
  refine⟨by rw[h1];simp,fun p=>?_⟩
  rw[h2 p]
  by_cases hp:p=off+k
  ·subst hp
   rw[if_neg (by omega),if_pos (by simp)]
   simp[hi]
  ·by_cases hq:off+(k+1)<=p/\p<off+(k+1)+l.length
   ·rw[if_pos hq,if_pos (by simp;omega),show p - (off+k)=(p - (off+(k+1)))+1 by omega]
    simp
   ·rw[if_neg hq,if_neg (by simp;omega),Array.getElem?_setIfInBounds_ne (by omega)]
theorem lN{place:Nat->Option (Nat × Nat)}: ∀{ps ps':List (Nat × Value)} {cells cs:List Value} {cells':Array Value},Uw ρ ps ps'->cT ρ cells cells'.toList->
 uL place cells ps=some cs-> ∃cs':Array Value,Instr.fill place cells' ps'=some cs'/\cT ρ cs cs'.toList
 |_,_,cells,cs,cells', .nil,hc,hf=>by
  simp only[uL,Option.some.injEq] at hf
  subst hf
  exact⟨cells',rfl,hc⟩
 |_,_,cells,cs,cells', .cons i v v' l l' hv hl,hc,hf=>by
  simp only[uL] at hf
  cases hp:place i with
  |none=>simp[hp] at hf
  |some x=>
   obtain⟨off,size⟩:=x
   simp only[hp] at hf
   split at hf
   ·rename_i cs1 h1 h2 h3
    have hvc:=hv.cells
    have hlen:v'.cells.size=(aV v).length:=by rw[←Array.length_toList];exact hvc.length
    have hclen:cells'.size=cells.length:=by rw[←Array.length_toList];exact hc.length
    have e1:=Nat.eq_of_beq_eq_true h1
    have e2:=Nat.le_of_ble_eq_true h2
    obtain⟨o1,o2,o3⟩:=gW h3
    have hfold:=xm off v'.cells.toList 0 cells' (by simp[hlen,hclen];omega)
    have hnext:cT ρ cs1 (v'.cells.zipIdx.foldl (fun cs (x:Value × Nat)=>cs.setIfInBounds (off+x.2) x.1) cells').toList:=by
     rw[←Array.foldl_toList,Array.toList_zipIdx]
     refine cT.ye ?_ fun p u hu=>?_
     ·rw[Array.length_toList,hfold.1,hclen,o2];omega
     ·rw[Array.getElem?_toList,hfold.2 p]
      rw[o3 p] at hu
      by_cases hq:off<=p/\p<off+(aV v).length
      ·rw[if_pos hq] at hu
       rw[if_pos (by rw[Array.length_toList,hlen];omega)]
       simpa using hvc.get hu
      ·rw[if_neg hq] at hu
       rw[if_neg (by rw[Array.length_toList,hlen];omega)]
       simpa using hc.get hu
    obtain⟨cs',hcs',hR⟩:=lN hl hnext hf
    refine⟨cs',?_,hR⟩
    simp only[Instr.fill,hp]
    rw[if_neg (by simp[hlen,hclen,e1];omega)]
    exact hcs'
   ·cases hf
theorem rC: ∀{fs:List Field} {pl:List (Nat × Nat)},pH P fs=some pl->(fs.mapM fun f=>Prod.mk f.offset<$>sizeOf f.type).run P w= .ok pl w
 |[],pl,hp=>by simp only[pH,Option.some.injEq] at hp;subst hp;simp
 |f::fs,pl,hp=>by
  simp only[pH] at hp
  split at hp
  ·rename_i i hi
   split at hp
   ·rename_i r hr
    cases hp
    simp[List.mapM_cons,aO hi,rC hr]
   ·cases hp
  ·cases hp
theorem JZ{tm:Tm}{n:Nat}{a:Act}(ht:TR ρ tm n a.tmps){t:TypeId}{parts:Array (Nat × Operand)}{r:bR}(hh:aJ ρ h.heap.get w)(hr:vk P tm h t parts.toList=some r):
 ∃v,r= .val v h/\aD P ρ h w (Instr.build t (parts.map fun(i,x)=>(i,a.eval x))) v h:=by
 unfold vk at hr
 split at hr
 ·rename_i ps ti d hps hti hd
  have hpr:=kD ht hps
  split at hr
  ·rename_i z fields hz
   split at hr
   ·rename_i pl hpz hpl
    split at hr
    ·rename_i cs hcs
     cases hr
     obtain⟨cs',h1,h2⟩:=lN hpr (VR.aZ hpz (ρ:=ρ)).cells hcs
     have hpe:nth pl=fun i=>pl[i]? :=funext fun i=>by rw[gb]
     rw[hpe] at h1
     refine⟨_,rfl,aD.pure hh ?_ (.agg cs cs'.toList h2)⟩
     simp[Instr.build,cZ hti hz,ab hd,Array.mapM_eq_mapM_toList,rC hpl,h1]
    ·cases hr
   ·cases hr
  ·rename_i z ln e hz
   split at hr
   ·rename_i ei hpz hei
    split at hr
    ·rename_i cs hcs
     cases hr
     obtain⟨cs',h1,h2⟩:=lN hpr (VR.aZ hpz (ρ:=ρ)).cells hcs
     refine⟨_,rfl,aD.pure hh ?_ (.agg cs cs'.toList h2)⟩
     simp[Instr.build,cZ hti hz,ab hd,aO hei,h1]
    ·cases hr
   ·cases hr
  ·cases hr
 ·cases hr
theorem sL{α:Type}: ∀(n:Nat)(l:List α),(rep n l).length=n*l.length
 |0,l=>by simp[rep]
 |n+1,l=>by simp[rep,sL n l,Nat.add_mul];omega
theorem DA: ∀(n:Nat)(l:List Value)(i:Nat),i<n*l.length->(rep n l)[i]? =l[i % l.length]?
 |0,l,i,h=>by simp at h
 |n+1,l,i,h=>by
  simp only[rep]
  by_cases hi:i<l.length
  ·rw[List.getElem?_append_left hi,Nat.mod_eq_of_lt hi]
  ·rw[List.getElem?_append_right (by omega),DA n l (i - l.length) (by rw[Nat.add_mul] at h;omega)]
   rw[Nat.mod_eq_sub_mod (a:=i) (by omega)]
theorem s9(n:Nat)(z:Value)(s:Nat)(hs:z.cells.size=s)(hs0:s≠0\/n=0):
 ((Array.range (n*s)).map (z.cells[· % z.cells.size]!))=(rep n z.cells.toList).toArray:=by
 apply Array.ext'
 apply List.ext_getElem?
 intro i
 rw[Array.getElem?_toList]
 by_cases hi:i<n*s
 ·have hz:0<s:=by rcases hs0 with h|h<;>(try subst h)<;>omega
  have hlt:i % s<s:=Nat.mod_lt _ hz
  have e1:(rep n z.cells.toList)[i]? =z.cells.toList[i % z.cells.toList.length]? :=DA n _ i (by rw[Array.length_toList,hs];exact hi)
  simp only[Array.getElem?_map,Array.getElem?_range,hi,if_true,Option.map_some,e1,Array.length_toList,hs]
  rw[Array.getElem?_toList,Array.getElem?_eq_getElem (by omega)]
  rw[getElem!_pos _ _ (by omega)]
 ·rw[Array.getElem?_eq_none (by simp;omega),List.getElem?_eq_none (by simp[sL,hs];omega)]
theorem fL{v:Value}:v.cells.toList=aV v:=by cases v<;>rfl
theorem vU{tm:Tm}{n:Nat}{a:Act}(ht:TR ρ tm n a.tmps){t:TypeId}{len:Nat}{parts:Array (Nat × Operand)}{r:bR}(hh:aJ ρ h.heap.get w)(hf:bA ρ h.next (r.next h))
 (hr:iX P tm h t len parts.toList=some r): ∃v h',r= .val v h'/\aD P ρ h w (Instr.buildSlice t len (parts.map fun(i,x)=>(i,a.eval x))) v h':=by
 unfold iX at hr
 split at hr
 ·rename_i e ps hu hps
  have hpr:=kD ht hps
  split at hr
  ·rename_i i hi
   split at hr
   ·rename_i z hz
    split at hr
    ·rename_i cs hpz hsz hle hcs
     cases hr
     have hle':=Nat.le_of_ble_eq_true hle
     have hsz':=Nat.eq_of_beq_eq_true hsz
     have hzs:z.cells.size=i.size:=by rw[←Array.length_toList,fL,hsz']
     have hrep:cT ρ (rep len (aV z)) (rep len (aV z)).toArray.toList:=by
      have: ∀k,cT ρ (rep k (aV z)) (rep k (aV z)):=by
       intro k
       induction k with
       |zero=>exact .nil
       |succ k ih=>
        refine cT.append ?_ ih
        have:=(VR.aZ hpz (ρ:=ρ)).cells
        rw[fL] at this
        exact this
      simpa using this len
     obtain⟨cs',h1,h2⟩:=lN hpr hrep hcs
     refine⟨_,_,rfl,aD.gX (v':= .slice (some ⟨w.heap.size,0,none⟩) len len) hh hf h2 ?_ (VR.rI _ _ _ _ _ rfl)⟩
     have hbig: ¬len*i.size>2 ^ 24:=by omega
     by_cases h0:len*i.size=0
     ·have hnil:rep len (aV z)=[]:=by
       rw[←List.length_eq_zero_iff,sL,hsz'];exact h0
      rw[hnil] at h1
      have hr0: ∀f:Nat->Value,Array.map f (Array.range 0)= #[]:=fun f=>by simp[Array.range]
      simp[hr0,Instr.buildSlice,ab hu,aO hi,h0,h1,gv]
     ·have hcells:((Array.range (len*i.size)).map (z.cells[· % z.cells.size]!))=(rep len (aV z)).toArray:=by
       rw[s9 len z i.size hzs (by
        rcases Nat.eq_zero_or_pos i.size with h|h
        ·rw[h] at h0;simp at h0
        ·left;omega),fL]
      simp only[Instr.buildSlice,Sem.run_bind,ab hu,Result.andThen_ok,aO hi,if_neg hbig,if_neg h0,cZ hi hz,Sem.run_pure,hcells]
      simp[h1,gv]
    ·cases hr
   ·cases hr
  ·cases hr
 ·cases hr
theorem rG{t:TypeId}{cs:List Value}{cs':List Value}{off:Nat}{v:Value}(hc:cT ρ cs cs')(hp:DK P t cs off=some v):
 ∃v',(part t ⟨cs'⟩ off).run P w= .ok v' w/\VR ρ v v':=by
 unfold DK at hp
 split at hp
 ·rename_i d hd
  split at hp
  ·rename_i hag
   split at hp
   ·rename_i i hi
    cases hp
    refine⟨.agg (Array.extract ⟨cs'⟩ off (off+i.size)),by simp[part,lA hd,hag,aO hi],?_⟩
    have e: ∀l:List Value,(Array.extract ⟨l⟩ off (off+i.size))=⟨(l.drop off).take i.size⟩:=fun l=>by
     apply Array.ext'
     simp[List.extract]
    rw[e,e]
    refine .agg _ _ (cT.ye (by simp[hc.length]) fun j u hj=>?_)
    have hjs:j<i.size:=by
     rcases Nat.lt_or_ge j i.size with h'|h'
     ·exact h'
     ·rw[List.getElem?_take_eq_none h'] at hj;cases hj
    rw[List.getElem?_take_of_lt hjs,List.getElem?_drop] at hj ⊢
    exact hc.get hj
   ·cases hp
  ·rename_i hag
   rw[gb] at hp
   obtain⟨v',h1,h2⟩:=hc.get hp
   refine⟨v',?_,h2⟩
   simp[part,lA hd,hag,h1]
 ·cases hp
theorem I5{t:TypeId}{x x':Value}{f:Nat}{r:bR}(hh:aJ ρ h.heap.get w)(hx:VR ρ x x')(hr:yU P h t x f=some r): ∃v,r= .val v h/\aD P ρ h w (Instr.field t x' f) v h:=by
 unfold yU at hr
 split at hr
 ·rename_i fields cs hu
  split at hr
  ·rename_i fd hfd
   split at hr
   ·rename_i v hv
    cases hr
    cases hx with
    |sc _ hs=>simp[simple] at hs
    |agg a a' hc=>
     obtain⟨v',h1,h2⟩:=rG (P:=P) (w:=w) hc hv
     have hfd':fields[f]? =some fd:=by rw[←hfd,sR,gb,Array.getElem?_toList]
     exact⟨v,rfl,aD.pure hh (by simp[Instr.field,ab hu,hfd',asAgg,h1]) h2⟩
   ·cases hr
  ·cases hr
 ·cases hr
theorem yz{t:TypeId}{x x':Value}{f:Nat}{r:bR}(hh:aJ ρ h.heap.get w)(hx:VR ρ x x')(hr:lX P h t x f=some r): ∃v,r= .val v h/\aD P ρ h w (Instr.fieldAt t x' f) v h:=by
 unfold lX at hr
 split at hr
 ·rename_i fields a hu
  split at hr
  ·rename_i fd hfd hsp
   split at hr
   ·rename_i i hi
    split at hr
    ·cases hr
    ·rename_i m hm
     cases hr
     cases hx with
     |sc _ hs=>simp[simple] at hs
     |ptr b o L hL=>
      have hfd':fields[f]? =some fd:=by rw[←hfd,sR,gb,Array.getElem?_toList]
      refine⟨_,rfl,aD.pure hh (v':= .pointer (some ⟨L.φ,L.δ+o+fd.offset,none⟩)) ?_ ?_⟩
      ·simp[Instr.fieldAt,ab hu,hfd',Instr.sureAddr,fieldPlace,aO hi,hm,dx]
      ·have:=VR.ptr (ρ:=ρ) b (o+fd.offset) L hL
       rw[Nat.add_assoc];exact this
   ·cases hr
  ·cases hr
 ·cases hr
theorem CR{x x':Value}{i:Nat}{r:bR}(hh:aJ ρ h.heap.get w)(hx:VR ρ x x')(hr:qm h x i=some r): ∃v,r= .val v h/\aD P ρ h w (Instr.extract x' i) v h:=by
 unfold qm at hr
 split at hr
 ·rename_i vs
  split at hr
  ·rename_i v hv
   cases hr
   rw[gb] at hv
   cases hx with
   |sc _ hs=>simp[simple] at hs
   |tuple a a' hc=>
    obtain⟨v',h1,h2⟩:=hc.get hv
    exact⟨v,rfl,aD.pure hh (by simp[Instr.extract,h1]) h2⟩
  ·cases hr
 ·cases hr
theorem yu{t:TypeId}{x x' i i':Value}{r:bR}(hh:aJ ρ h.heap.get w)(hx:VR ρ x x')(hi:VR ρ i i')(hr:iC P h t x i=some r): ∃v,r= .val v h/\aD P ρ h w (Instr.indexAt t x' i') v h:=by
 unfold iC at hr
 split at hr
 ·rename_i n e a k j hu
  split at hr
  ·rename_i ei hei hsp hlt
   cases hr
   cases hi with
   |sc _ _=>
    cases hx with
    |sc _ hs=>simp[simple] at hs
    |ptr b o L hL=>
     have hlt':j<n:=by simpa[Nat.blt_eq] using hlt
     refine⟨_,rfl,aD.pure hh (v':= .pointer (some ⟨L.φ,L.δ+o+j*ei.size,none⟩)) ?_ ?_⟩
     ·simp[Instr.indexAt,asIntOf,ab hu,Instr.sureAddr,aO hei,dx,hlt']
     ·have:=VR.ptr (ρ:=ρ) b (o+j*ei.size) L hL
      rw[Nat.add_assoc];exact this
  ·cases hr
 ·rename_i e a n c k j hu
  split at hr
  ·rename_i ei hei hsp hlt
   cases hr
   cases hi with
   |sc _ _=>
    cases hx with
    |sc _ hs=>exact absurd hsp (dE hs).1
    |es _ _ hs=>exact absurd hsp hs
    |sl b o m c L hL=>
     have hlt':j<n:=by simpa[Nat.blt_eq] using hlt
     refine⟨_,rfl,aD.pure hh (v':= .pointer (some ⟨L.φ,L.δ+o+j*ei.size,none⟩)) ?_ ?_⟩
     ·simp[Instr.indexAt,asIntOf,ab hu,aO hei,dx,hlt']
     ·have:=VR.ptr (ρ:=ρ) b (o+j*ei.size) L hL
      rw[Nat.add_assoc];exact this
  ·cases hr
 ·cases hr
theorem vT(s:ByteArray)(i:Nat):s[i]? =s.data.toList[i]? :=by
 rw[Array.getElem?_toList]
 simp only[getElem?_def]
 rfl
theorem IS{t:TypeId}{x x' i i':Value}{r:bR}(hh:aJ ρ h.heap.get w)(hx:VR ρ x x')(hi:VR ρ i i')(hr:yT P h t x i=some r): ∃v,r= .val v h/\aD P ρ h w (Instr.index t x' i') v h:=by
 unfold yT at hr
 split at hr
 ·rename_i n e cs k j hu
  split at hr
  ·rename_i ei hei hlt
   split at hr
   ·rename_i v hv
    cases hr
    cases hi with
    |sc _ _=>
     cases hx with
     |sc _ hs=>simp[simple] at hs
     |agg a a' hc=>
      obtain⟨v',h1,h2⟩:=rG (P:=P) (w:=w) hc hv
      have hlt':j<n:=by simpa[Nat.blt_eq] using hlt
      exact⟨v,rfl,aD.pure hh (by simp[Instr.index,asIntOf,ab hu,aO hei,hlt',h1]) h2⟩
   ·cases hr
  ·cases hr
 ·rename_i s k j hu
  split at hr
  ·rename_i b hb
   cases hr
   cases hi with
   |sc _ _=>
    cases hx with
    |sc _ hs=>
     rw[gb] at hb
     refine⟨_,rfl,aD.pure hh (v':= .int .u8 b.toNat) ?_ (.sc _ rfl)⟩
     have hb':s[j]? =some b:=by rw[vT];exact hb
     simp[Instr.index,asIntOf,ab hu,hb']
  ·cases hr
 ·cases hr
end
section
variable{P:Program}{ρ:Ren}{w:World}{h:Hs}
theorem yG{v:Value}{hi i:Nat}(hb:yH v hi=some i):(∃k,v= .int k (i:Int))/\i<=hi:=by
 unfold yH at hb
 split at hb
 ·split at hb
  ·rename_i h;cases hb;exact⟨⟨_,rfl⟩,Nat.le_of_ble_eq_true h⟩
  ·cases hb
 ·cases hb
theorem VR.int{k:IntKind}{i:Int}{x:Value}(hv:VR ρ (.int k i) x):x= .int k i:=by cases hv;rfl
theorem eQ{tm:Tm}{n:Nat}{a:Act}(ht:TR ρ tm n a.tmps){o:Operand}{d hi i:Nat}(hb:bM tm (some o) d hi=some i):(∃k,a.eval o= .int k (i:Int))/\i<=hi:=by
 simp only[bM] at hb
 split at hb
 ·rename_i v hv
  obtain⟨⟨k,rfl⟩,hle⟩:=yG hb
  exact⟨⟨k,(aL ht hv).int⟩,hle⟩
 ·cases hb
theorem iU{tm:Tm}{d hi i:Nat}(hb:bM tm none d hi=some i):i=d/\d<=hi:=by
 simp only[bM] at hb
 split at hb
 ·rename_i h;cases hb;exact⟨rfl,Nat.le_of_ble_eq_true h⟩
 ·cases hb
theorem kX{tm:Tm}{n:Nat}{a:Act}(ht:TR ρ tm n a.tmps){o:Option Operand}{d hi i:Nat}(hb:bM tm o d hi=some i):i<=hi:=by
 cases o with
 |none=>obtain⟨rfl,h⟩:=iU hb;exact h
 |some o=>exact(eQ ht hb).2
theorem run_sliceBound{k:IntKind}{i y:Nat}(c:BoundsCode)(hle:i<=y):(Instr.sliceBound (.int k (i:Int)) y c).run P w= .ok i w:=by
 simp[Instr.sliceBound,asIntOf]
 omega
theorem lB{tm:Tm}{n:Nat}{a:Act}(ht:TR ρ tm n a.tmps){lo hi:Option Operand}{len top cap l hh:Nat}(b:Bool)(h1:bM tm hi len top=some hh)(h2:bM tm lo 0 hh=some l)(hle:top<=cap):
 (Instr.sliceBounds b len cap (lo.map a.eval) (hi.map a.eval) none).run P w= .ok (l,hh,cap) w:=by
 cases hi with
 |none=>
  obtain⟨rfl,_⟩:=iU h1
  cases lo with
  |none=>obtain⟨rfl,_⟩:=iU h2;simp[Instr.sliceBounds]
  |some lo=>
   obtain⟨⟨k,hk⟩,hl⟩:=eQ ht h2
   simp[Instr.sliceBounds,hk,run_sliceBound _ hl]
 |some hi=>
  obtain⟨⟨k,hk⟩,hl⟩:=eQ ht h1
  cases lo with
  |none=>obtain⟨rfl,_⟩:=iU h2;simp[Instr.sliceBounds,hk,run_sliceBound _ (Nat.le_trans hl hle)]
  |some lo=>
   obtain⟨⟨k',hk'⟩,hl'⟩:=eQ ht h2
   simp[Instr.sliceBounds,hk,hk',run_sliceBound _ (Nat.le_trans hl hle),run_sliceBound _ hl']
theorem mC{tm:Tm}{n:Nat}{a:Act}(ht:TR ρ tm n a.tmps){lo:Option Operand}{hi mx:Operand}{len top cap l hh m d d':Nat}(b:Bool)(h0:bM tm (some mx) d top=some m)(h1:bM tm (some hi) d' m=some hh)(h2:bM tm lo 0 hh=some l)
 (hle:top<=cap):(Instr.sliceBounds b len cap (lo.map a.eval) (some (a.eval hi)) (some (a.eval mx))).run P w= .ok (l,hh,m) w:=by
 obtain⟨⟨k0,hk0⟩,hl0⟩:=eQ ht h0
 obtain⟨⟨k,hk⟩,hl⟩:=eQ ht h1
 cases lo with
 |none=>obtain⟨rfl,_⟩:=iU h2;simp[Instr.sliceBounds,hk0,hk,run_sliceBound _ (Nat.le_trans hl0 hle),run_sliceBound _ hl]
 |some lo=>
  obtain⟨⟨k',hk'⟩,hl'⟩:=eQ ht h2
  simp[Instr.sliceBounds,hk0,hk,hk',run_sliceBound _ (Nat.le_trans hl0 hle),run_sliceBound _ hl,run_sliceBound _ hl']
theorem aJ.ext{H:HF}{b:Nat}(L:Loc)(hh:aJ ρ H w)(hb:ρ b=none):aJ (ρ.set b L) H w/\Step ρ H w (ρ.set b L) H w b (b+1):=by
 have hle:=Ren.il (ρ:=ρ) L hb
 have hsame: ∀i o Li,H i=some o->(ρ.set b L) i=some Li->ρ i=some Li:=by
  intro i o Li hi hLi
  obtain⟨M,x,hM,_,_⟩:=hh.obj _ _ hi
  have:=hle _ _ hM
  rw[hLi] at this;cases this;exact hM
 refine⟨⟨fun i o hi=>?_,fun i j oi oj Li Lj hi hj hij hoj hLi hLj=>hh.inj i j oi oj Li Lj hi hj hij hoj (hsame _ _ _ hi hLi) (hsame _ _ _ hj hLj)⟩,
  ⟨rfl,rfl,rfl,Nat.le_refl _,fun _ _ _=>rfl,fun i o Li hi ho hLi=> .inl ⟨i,o,Li,hi,ho,hsame _ _ _ hi hLi,rfl⟩,fun i o Li hi hLi=> .inl ⟨i,o,Li,hi,hsame _ _ _ hi hLi,rfl⟩,hle,fun i hi=>Ren.gz _ (by omega)⟩⟩
 obtain⟨M,x,hM,hx,hR⟩:=hh.obj _ _ hi
 exact⟨M,x,hle _ _ hM,hx,hR.mono hle⟩
theorem aJ.move{H H':HF}{b nb:Nat}{o o':aa}{L L':Loc}{x':Obj}{w':World}(hh:aJ ρ H w)(hb:H b=some o)(ho:o.owned=true)(hL:ρ b=some L)(hn:ρ nb=none)(hφ:L'.φ=L.φ)
 (hw:kY w w' L.φ x') (hR:OR (ρ.set nb L') L' o' x') (hH: ∀i,H' i=if i=nb then some o' else if i=b then none else H i):
 aJ (ρ.set nb L') H' w'/\Step ρ H w (ρ.set nb L') H' w' nb (nb+1):=by
 have hle:=Ren.il (ρ:=ρ) L' hn
 have hsame: ∀i o Li,H i=some o->(ρ.set nb L') i=some Li->ρ i=some Li:=by
  intro i o Li hi hLi
  obtain⟨M,x,hM,_,_⟩:=hh.obj _ _ hi
  have:=hle _ _ hM
  rw[hLi] at this;cases this;exact hM
 refine⟨⟨fun i oi hi=>?_,fun i j oi oj Li Lj hi hj hij hoj hLi hLj=>?_⟩,⟨hw.os,hw.tape,hw.output,by rw[hw.size];exact Nat.le_refl _,fun r _ hno=>hw.other r fun he=>hno b o L hb ho hL he.symm,?_,?_,hle,fun i hi=>Ren.gz _ (by omega)⟩⟩
 ·rw[hH] at hi
  split at hi
  ·rename_i he;subst he;cases hi;exact⟨L',x',Ren.cB _ _ _,by rw[hφ];exact hw.at_,hR⟩
  ·split at hi
   ·cases hi
   ·rename_i hne
    obtain⟨M,x,hM,hx,hRx⟩:=hh.obj _ _ hi
    exact⟨M,x,hle _ _ hM,by rw[hw.other _ (hh.inj i b oi o M L hi hb hne ho hM hL)];exact hx,hRx.mono hle⟩
 ·rw[hH] at hi hj
  split at hi
  ·rename_i he;subst he;cases hi
   rw[if_neg (fun h=>hij h.symm)] at hj
   split at hj
   ·cases hj
   ·rename_i hne
    rw[Ren.cB] at hLi;cases hLi
    rw[hφ]
    exact fun he=>hh.inj j b oj o Lj L hj hb hne ho (hsame _ _ _ hj hLj) hL he.symm
  ·rename_i hni
   split at hi
   ·cases hi
   ·rename_i hne
    split at hj
    ·rename_i he;subst he;cases hj
     rw[Ren.cB] at hLj;cases hLj
     rw[hφ]
     exact hh.inj i b oi o Li L hi hb hne ho (hsame _ _ _ hi hLi) hL
    ·split at hj
     ·cases hj
     ·exact hh.inj i j oi oj Li Lj hi hj hij hoj (hsame _ _ _ hi hLi) (hsame _ _ _ hj hLj)
 ·intro i oi Li hi ho' hLi
  rw[hH] at hi
  split at hi
  ·rename_i he;subst he;rw[Ren.cB] at hLi;cases hLi;exact .inl ⟨b,o,L,hb,ho,hL,hφ.symm⟩
  ·split at hi
   ·cases hi
   ·exact .inl ⟨i,oi,Li,hi,ho',hsame _ _ _ hi hLi,rfl⟩
 ·intro i oi Li hi hLi
  rw[hH] at hi
  split at hi
  ·rename_i he;subst he;rw[Ren.cB] at hLi;cases hLi;exact .inl ⟨b,o,L,hb,hL,hφ.symm⟩
  ·split at hi
   ·cases hi
   ·exact .inl ⟨i,oi,Li,hi,hsame _ _ _ hi hLi,rfl⟩
theorem kY.self{r:Nat}{x:Obj}(hx:w.heap[r]? =some x):kY w w r x:=⟨rfl,rfl,rfl,rfl,fun _ _=>rfl,hx⟩
theorem zF{tm:Tm}{n:Nat}{a:Act}(ht:TR ρ tm n a.tmps){xt:TypeId}{s:ByteArray}{lo hi:Option Operand}{v:Value}(hu:P.underlying xt=some .string)(hr:po tm s lo hi=some v)(hh:aJ ρ h.heap.get w):
 aD P ρ h w (Instr.sliceAt xt (.string s) (lo.map a.eval) (hi.map a.eval) none) v h:=by
 unfold po at hr
 split at hr
 ·rename_i hh' h1
  split at hr
  ·rename_i l h2
   cases hr
   have:=lB (P:=P) (w:=w) ht false h1 h2 (Nat.le_refl _)
   exact aD.pure hh (v':= .string (s.extract l hh')) (by simp[Instr.sliceAt,Instr.slice,ab hu,this]) (.sc _ rfl)
  ·cases hr
 ·cases hr
theorem dF{L:Loc}{k:ba}{x:Obj}(hR:OR ρ L (.aw k) x): ∃c fr,x= .cells c k.elem fr/\yY ρ L k c k.elem fr:=by
 cases x<;>simp only[OR] at hR<;>first|exact hR.elim|skip
 rename_i c e fr
 have:=hR.elem;subst this
 exact⟨c,fr,rfl,hR⟩
theorem Cg{tm:Tm}{n:Nat}{a:Act}(ht:TR ρ tm n a.tmps){xt e:TypeId}{i:TypeInfo}{ao:Option Addr}{len cap:Nat}{v':Value}{lo hi mx:Option Operand}{r:bR}(hu:P.underlying xt=some (.slice e))(hi':P.info? e=some i)
 (hx:VR ρ (.slice ao len cap) v') (hh:aJ ρ h.heap.get w) (hf:bA ρ h.next (r.next h)) (hr:gR h tm i.size ao len cap lo hi mx=some r):
 ∃v h',r= .val v h'/\aD P ρ h w (Instr.sliceAt xt v' (lo.map a.eval) (hi.map a.eval) (mx.map a.eval)) v h':=by
 unfold gR at hr
 split at hr
 ·
  split at hr
  ·rename_i hh' h1
   split at hr
   ·rename_i l h2
    cases hr
    cases hx with
    |sc _ _=>
     have hb:=lB (P:=P) (w:=w) ht true h1 h2 (Nat.le_refl _)
     refine⟨_,_,rfl,aD.pure hh (v':= .slice none (hh' - l) (0 - l)) ?_ (.sc _ rfl)⟩
     simp[Instr.sliceAt,Instr.slice,ab hu,hb,aO hi']
   ·cases hr
  ·cases hr
 ·
  rename_i ad
  split at hr
  ·rename_i k hh' hsp hk h1
   split at hr
   ·rename_i l h2
    have hl1:=kX ht h1
    have hl2:=kX ht h2
    cases hx with
    |sc _ hs=>exact absurd hsp (dE hs).1
    |es _ _ hs=>exact absurd hsp hs
    |sl b o _ _ L hL=>
     have hb:=lB (P:=P) (w:=w) (cap:=cap+L.ψ) ht true h1 h2 (Nat.le_add_right _ _)
     split at hr
     ·rename_i hne
      cases hr
      have hne':cap≠l:=by intro he;subst he;simp at hne
      refine⟨_,_,rfl,aD.pure hh (v':= .slice (some ⟨L.φ,L.δ+o+l*i.size,none⟩) (hh' - l) (cap+L.ψ - l)) ?_ ?_⟩
      ·simp[Instr.sliceAt,Instr.slice,ab hu,hb,aO hi',show¬cap+L.ψ=l by omega,dx]
      ·have:=VR.sl (ρ:=ρ) b (o+l*i.size) (hh' - l) (cap - l) L hL
       rw[show cap - l+L.ψ=cap+L.ψ - l by omega,←Nat.add_assoc] at this
       exact this
     ·rename_i heq
      have heq':cap=l:=Nat.eq_of_beq_eq_true heq
      split at hr
      ·rename_i hex
       cases hr
       obtain⟨L0,x,hL0,hx0,hR⟩:=hh.obj _ _ hk
       rw[hL] at hL0;cases hL0
       obtain⟨c,fr,rfl,hR⟩:=dF hR
       have hψ:=hR.exact hex
       refine⟨_,_,rfl,aD.pure hh (v':= .slice (some ⟨L.φ,L.δ+o,none⟩) (hh' - l) (cap+L.ψ - l)) ?_ ?_⟩
       ·simp only[Instr.sliceAt,Instr.slice,Sem.run_bind,ab hu,Result.andThen_ok,Option.map_none,hb,aO hi',Sem.run_pure]
        rw[if_pos (by omega)]
       ·have:=VR.sl (ρ:=ρ) b o (hh' - l) (cap - l) L hL
        rw[show cap - l+L.ψ=cap+L.ψ - l by omega] at this
        exact this
      ·split at hr
       ·rename_i hown hfz hends
        cases hr
        simp only[Bool.and_eq_true] at hends
        have hn:ρ h.next=none:=hf _ (Nat.le_refl _) (Nat.lt_succ_self _)
        have hc1:=Nat.eq_of_beq_eq_true hends.1.1
        have hc2:=Nat.eq_of_beq_eq_true hends.1.2
        obtain⟨L0,x,hL0,hx0,hR⟩:=hh.obj _ _ hk
        rw[hL] at hL0;cases hL0
        obtain⟨c,fr,rfl,hR⟩:=dF hR
        have hroom:=hR.room hown
        have z1:hh' - l=0:=by omega
        have z2:cap+L.ψ - l=L.ψ:=by omega
        have hOR:OR (ρ.set h.next ⟨L.φ,if cap+L.ψ=l then L.δ+o else L.δ+o+l*i.size,L.ψ⟩) ⟨L.φ,if cap+L.ψ=l then L.δ+o else L.δ+o+l*i.size,L.ψ⟩ (.aw {cells:=[],cap:=0,jU:=i.size,elem:=k.elem,exact:=false,whole:=false,bQ:=0,own:=true}) (.cells c k.elem fr):=by
         refine⟨rfl,Nat.le_refl _,fun _=>?_,fun j v hj=>?_,fun h=>?_,fun h=>?_,fun _=>hR.kC hfz,fun h=>?_⟩
         ·show(if cap+L.ψ=l then L.δ+o else L.δ+o+l*i.size)+0+L.ψ*i.size<=c.size
          rw[hc2] at hroom
          have:o+cap*i.size=k.cap:=hc1
          rw[←heq']
          split
          ·omega
          ·omega
         ·simp at hj
         ·cases h
         ·cases h
         ·cases h
        obtain⟨e1,e2⟩:=aJ.move (H':=((h.heap.del b).set h.next (.aw {cells:=[],cap:=0,jU:=i.size,elem:=k.elem,exact:=false,whole:=false,bQ:=0,own:=true})).get)
         (L':=⟨L.φ,if cap+L.ψ=l then L.δ+o else L.δ+o+l*i.size,L.ψ⟩) hh hk hown hL hn rfl (kY.self hx0) hOR (fun j=>by rw[T.aP,T.fP])
        refine⟨_,_,rfl,_, .slice (some ⟨L.φ,if cap+L.ψ=l then L.δ+o else L.δ+o+l*i.size,none⟩) 0 L.ψ,w,?_,?_,e1,e2⟩
        ·simp only[Instr.sliceAt,Instr.slice,Sem.run_bind,ab hu,Result.andThen_ok,Option.map_none,hb,aO hi',Sem.run_pure,z1,z2]
         by_cases hz:cap+L.ψ=l
         ·rw[if_pos hz,if_pos hz]
         ·rw[if_neg hz,if_neg hz];simp[dx]
        ·have:=VR.sl (ρ:=ρ.set h.next (⟨L.φ,if cap+L.ψ=l then L.δ+o else L.δ+o+l*i.size,L.ψ⟩:Loc)) h.next 0 0 0 _ (Ren.cB _ _ _)
         simpa using this
       ·cases hr
        have hn:ρ h.next=none:=hf _ (Nat.le_refl _) (Nat.lt_succ_self _)
        obtain⟨e1,e2⟩:=aJ.ext (⟨L.φ,if cap+L.ψ=l then L.δ+o else L.δ+o+l*i.size,L.ψ⟩:Loc) hh hn
        refine⟨_,_,rfl,_, .slice (some ⟨L.φ,if cap+L.ψ=l then L.δ+o else L.δ+o+l*i.size,none⟩) 0 L.ψ,w,?_,?_,e1,e2⟩
        ·have z1:hh' - l=0:=by omega
         have z2:cap+L.ψ - l=L.ψ:=by omega
         simp only[Instr.sliceAt,Instr.slice,Sem.run_bind,ab hu,Result.andThen_ok,Option.map_none,hb,aO hi',Sem.run_pure,z1,z2]
         by_cases hz:cap+L.ψ=l
         ·rw[if_pos hz,if_pos hz]
         ·rw[if_neg hz,if_neg hz];simp[dx]
        ·have:=VR.sl (ρ:=ρ.set h.next (⟨L.φ,if cap+L.ψ=l then L.δ+o else L.δ+o+l*i.size,L.ψ⟩:Loc)) h.next 0 0 0 _ (Ren.cB _ _ _)
         simpa using this
   ·cases hr
  ·cases hr
 ·
  rename_i ad mo
  split at hr
  ·rename_i m h0
   split at hr
   ·rename_i hh' hio h1
    split at hr
    ·rename_i l h2
     have hl0:=kX ht h0
     have hl1:=kX ht h1
     have hl2:=kX ht h2
     split at hr
     ·rename_i hml
      cases hr
      have hml':m=l:=Nat.eq_of_beq_eq_true hml
      have z1:hh' - l=0:=by omega
      have z2:m - l=0:=by omega
      have go: ∀(a':Addr)(c':Nat),cap<=c'->v'= .slice (some a') len c'-> ∃v h',bR.val CU h= .val v h'/\aD P ρ h w (Instr.sliceAt xt v' (lo.map a.eval) ((some hio).map a.eval) ((some mo).map a.eval)) v h':=by
       intro a' c' hc hv
       subst hv
       have hb:=mC (P:=P) (w:=w) (len:=len) (cap:=c') ht true h0 h1 h2 hc
       refine⟨_,_,rfl,aD.pure hh (v':= .slice (some (if m=l then a' else a'.add (l*i.size))) 0 0) ?_ (.es _ _ (by simp))⟩
       simp only[Instr.sliceAt,Instr.slice,Sem.run_bind,ab hu,Result.andThen_ok,Option.map_some,hb,aO hi',Sem.run_pure,z1,z2]
       by_cases hz:m=l
       ·rw[if_pos hz];congr 3;simp[hz]
       ·exact absurd hml' hz
      cases hx with
      |sc _ hs=>exact go _ _ (Nat.le_refl _) rfl
      |es _ _ hs=>exact go _ _ (Nat.le_refl _) rfl
      |sl b o _ _ L hL=>exact go _ _ (Nat.le_add_right _ _) rfl
     ·split at hr
      ·rename_i k hsp hk
       split at hr
       ·rename_i hhm hown
        split at hr
        ·rename_i cs hcs
         cases hr
         have hhm':hh'=m:=Nat.eq_of_beq_eq_true hhm
         subst hhm'
         cases hx with
         |sc _ hs=>exact absurd hsp (dE hs).1
         |es _ _ hs=>exact absurd hsp hs
         |sl b o _ _ L hL=>
          have hb:=mC (P:=P) (w:=w) (len:=len) (cap:=cap+L.ψ) ht true h0 h1 h2 (Nat.le_add_right _ _)
          have hn:ρ h.next=none:=hf _ (Nat.le_refl _) (Nat.lt_succ_self _)
          obtain⟨L0,x,hL0,hx0,hR⟩:=hh.obj _ _ hk
          rw[hL] at hL0;cases hL0
          obtain⟨c,fr,rfl,hR⟩:=dF hR
          obtain⟨cs',c1,c2,c3⟩:=hR.bh hx0 hcs
          obtain⟨δ',hδ⟩: ∃δ',δ'=if hh'=l then L.δ+o else L.δ+(o+l*i.size):=⟨_,rfl⟩
          have hlen:=(gu hcs).1
          have hget: ∀j,j<(hh' - l)*i.size->cs[j]? =k.cells[o+l*i.size+j]? :=fun j hj=>by
           rw[(gu hcs).2 j hj,lP,List.getElem?_drop]
          have hOR:OR (ρ.set h.next ⟨L.φ,δ',0⟩) ⟨L.φ,δ',0⟩ (.aw {k with cells:=cs,cap:=(hh' - l)*i.size,jU:=i.size,exact:=true,whole:=false,own:=yf cs}) (.cells c k.elem fr):=by
           refine⟨rfl,by show cs.length<=_;rw[hlen];exact Nat.le_refl _,fun ho=>?_,fun j v hj=>?_,fun _=>rfl,(fun h=>by cases h),hR.kC,hR.PY⟩
           ·show δ'+(hh' - l)*i.size+0*i.size<=c.size
            cases hc0:cs with
            |nil=>have ho':yf cs=true:=ho;rw[hc0] at ho';cases ho'
            |cons c0 cr=>
             have hpos:0<(hh' - l)*i.size:=by rw[←hlen,hc0];simp
             have hne:hh'≠l:=by rintro rfl;simp at hpos
             have h1:=hget ((hh' - l)*i.size - 1) (by omega)
             have h2:cs[(hh' - l)*i.size - 1]? ≠none:=by simp;omega
             rw[h1] at h2
             have h3:o+l*i.size+((hh' - l)*i.size - 1)<k.cells.length:=by simpa using h2
             have h4:=hR.len
             have h5:=hR.room hown
             rw[hδ,if_neg hne]
             omega
           ·have hj':cs[j]? =some v:=hj
            have hjl:j<(hh' - l)*i.size:=by
             rw[←hlen]
             rcases Nat.lt_or_ge j cs.length with h'|h'
             ·exact h'
             ·simp[List.getElem?_eq_none h'] at hj'
            have hne:hh'≠l:=by rintro rfl;simp at hjl
            rw[hget j hjl] at hj'
            obtain⟨u,hu1,hu2⟩:=hR.cell _ _ hj'
            refine⟨u,?_,hu2.mono (Ren.il _ hn)⟩
            show c[δ'+j]? =some u
            rw[hδ,if_neg hne,show L.δ+(o+l*i.size)+j=L.δ+(o+l*i.size+j) by omega]
            exact hu1
          obtain⟨e1,e2⟩:=aJ.move (H':=((h.heap.del b).set h.next (.aw {k with cells:=cs,cap:=(hh' - l)*i.size,jU:=i.size,exact:=true,whole:=false,own:=yf cs})).get)
           (L':=⟨L.φ,δ',0⟩) hh hk hown hL hn rfl (kY.self hx0) hOR (fun j=>by rw[T.aP,T.fP])
          refine⟨_,_,rfl,_, .slice (some ⟨L.φ,δ',none⟩) (hh' - l) (hh' - l),w,?_,?_,e1,e2⟩
          ·simp only[Instr.sliceAt,Instr.slice,Sem.run_bind,ab hu,Result.andThen_ok,Option.map_some,hb,aO hi',Sem.run_pure]
           congr 3
           rw[hδ]
           split
           ·rfl
           ·simp[dx,Nat.add_assoc]
          ·have:=VR.sl (ρ:=ρ.set h.next ⟨L.φ,δ',0⟩) h.next 0 (hh' - l) (hh' - l) _ (Ren.cB _ _ _)
           simpa using this
        ·cases hr
       ·cases hr
      ·cases hr
    ·cases hr
   ·cases hr
  ·cases hr
 ·rename_i mo
  split at hr
  ·rename_i m hio h0
   split at hr
   ·rename_i hh' h1
    split at hr
    ·rename_i l h2
     cases hr
     cases hx with
     |sc _ _=>
      have hb:=mC (P:=P) (w:=w) (len:=len) (cap:=0) ht true h0 h1 h2 (Nat.le_refl _)
      refine⟨_,_,rfl,aD.pure hh (v':= .slice none (hh' - l) (m - l)) ?_ (.sc _ rfl)⟩
      simp only[Instr.sliceAt,Instr.slice,Sem.run_bind,ab hu,Result.andThen_ok,Option.map_some,hb,aO hi',Sem.run_pure]
      split<;>rfl
    ·cases hr
   ·cases hr
  ·cases hr
theorem G7{tm:Tm}{n:Nat}{a:Act}(ht:TR ρ tm n a.tmps){xt:TypeId}{x x':Value}{lo hi mx:Option Operand}{r:bR}(hx:VR ρ x x')(hh:aJ ρ h.heap.get w)(hf:bA ρ h.next (r.next h))
 (hr:lU P tm h xt x lo hi mx=some r): ∃v h',r= .val v h'/\aD P ρ h w (Instr.sliceAt xt x' (lo.map a.eval) (hi.map a.eval) (mx.map a.eval)) v h':=by
 unfold lU at hr
 split at hr
 ·rename_i s hu
  split at hr
  ·split at hr
   ·rename_i v hv
    cases hr
    cases hx with
    |sc _ _=>exact⟨v,h,rfl,zF ht hu hv hh⟩
   ·cases hr
  ·cases hr
 ·rename_i e ao len cap hu
  split at hr
  ·rename_i i hi'
   exact Cg ht hu hi' hx hh hf hr
  ·cases hr
 ·rename_i m e ad hu
  split at hr
  ·rename_i i k hi' hsp hk
   split at hr
   ·rename_i hh' hex h1
    split at hr
    ·rename_i l h2
     cases hx with
     |sc _ hs=>simp[simple] at hs
     |ptr b o L hL=>
      have hb:=lB (P:=P) (w:=w) ht false h1 h2 (Nat.le_refl _)
      obtain⟨L0,x,hL0,hx0,hR⟩:=hh.obj _ _ hk
      rw[hL] at hL0;cases hL0
      obtain⟨c,fr,rfl,hR⟩:=dF hR
      have hψ:=hR.exact hex
      split at hr
      ·rename_i heq
       have heq':m=l:=Nat.eq_of_beq_eq_true heq
       cases hr
       refine⟨_,_,rfl,aD.pure hh (v':= .slice (some ⟨L.φ,L.δ+o,none⟩) (hh' - l) (m - l+L.ψ)) ?_ (.sl b o _ _ L hL)⟩
       simp only[Instr.sliceAt,Sem.run_bind,ab hu,Result.andThen_ok,Option.map_none,hb,aO hi',Sem.run_pure,Instr.sureAddr]
       rw[if_pos heq',hψ];rfl
      ·rename_i hne
       have hne':m≠l:=by intro he;subst he;simp at hne
       cases hr
       refine⟨_,_,rfl,aD.pure hh (v':= .slice (some ⟨L.φ,L.δ+(o+l*i.size),none⟩) (hh' - l) (m - l+L.ψ)) ?_ (.sl b _ _ _ L hL)⟩
       simp only[Instr.sliceAt,Sem.run_bind,ab hu,Result.andThen_ok,Option.map_none,hb,aO hi',Sem.run_pure,Instr.sureAddr]
       rw[if_neg hne',hψ,dx,Nat.add_assoc];rfl
    ·cases hr
   ·cases hr
  ·cases hr
 ·cases hr
end
section
variable{P:Program}{ρ:Ren}{w:World}{h:Hs}
theorem kW: ∀l:List UInt8,lR l=l.map fun b=>Value.int .u8 b.toNat
 |[]=>rfl
 |b::l=>by simp[lR,kW l]
theorem uZ(l:List UInt8):cT ρ (lR l) (lR l):=by
 induction l with
 |nil=>exact .nil
 |cons b l ih=>exact .cons _ _ _ _ (.sc _ rfl) ih
theorem pW{size n:Nat}{x x':Value}{cs:List Value}(hh:aJ ρ h.heap.get w)(hx:VR ρ x x')(hc:fo h size n x=some cs):
 ∃cs',(∀w1:World,w1.heap=w.heap->(Builtin.firstCells size n x').run P w1= .ok ⟨cs'⟩ w1)/\cT ρ cs cs':=by
 cases hx with
 |sc _ hs=>
  cases x<;>simp only[fo] at hc<;>try (cases hc;done)
  ·rename_i s
   split at hc
   ·rename_i l hl
    cases hc
    obtain⟨h1,h2⟩:=gu hl
    refine⟨lR l,fun w1 _=>?_,uZ l⟩
    simp only[Builtin.firstCells,Sem.run_pure]
    congr 1
    rw[kW]
    apply Array.ext'
    rw[Array.toList_map]
    congr 1
    have e:(s.extract 0 n).data.toList=s.data.toList.take n:=by
     rw[ByteArray.data_extract]
     simp[List.extract]
    rw[e]
    apply List.ext_getElem?
    intro j
    by_cases hj:j<n
    ·rw[List.getElem?_take_of_lt hj,h2 j hj]
    ·rw[List.getElem?_take_eq_none (by omega),List.getElem?_eq_none (by omega)]
   ·cases hc
  ·rename_i a _ _
   cases a with
   |none=>simp only[Option.some.injEq] at hc;subst hc;exact⟨[],fun w1 _=>by simp[Builtin.firstCells], .nil⟩
   |some a=>
    simp only at hc
    split at hc
    ·cases hc;exact⟨[],fun w1 _=>by simp[Builtin.firstCells,loadCells,loadCellsFrom], .nil⟩
    ·split at hc
     ·rename_i hsp _;exact absurd hsp (dE hs).1
     ·cases hc
 |sl b o m c L hL=>
  simp only[fo] at hc
  split at hc
  ·cases hc;exact⟨[],fun w1 _=>by simp[Builtin.firstCells,loadCells,loadCellsFrom], .nil⟩
  ·split at hc
   ·rename_i n' k hsp hk
    obtain⟨L0,x,hL0,hx0,hR⟩:=hh.obj _ _ hk
    rw[hL] at hL0;cases hL0
    obtain⟨c',fr,rfl,hR⟩:=dF hR
    obtain⟨cs',h1,h2,h3⟩:=hR.bh hx0 hc
    refine⟨cs',fun w1 hw1=>?_,h2⟩
    have hl:=run_loadCells_list (P:=P) w1 ⟨L.φ,L.δ+o,none⟩ cs' (fun j v hj=>by
     rw[dx]
     have:=h3 j v hj
     simp only[World.cell?] at this ⊢
     rw[hw1];exact this)
    rw[h1] at hl
    simp only[Builtin.firstCells];exact hl
   ·cases hc
 |es a a' hs=>
  simp only[fo] at hc
  split at hc
  ·cases hc;exact⟨[],fun w1 _=>by simp[Builtin.firstCells,loadCells,loadCellsFrom], .nil⟩
  ·split at hc
   ·rename_i hsp _;exact absurd hsp hs
   ·cases hc
 |ptr=>simp[fo] at hc
 |map=>simp[fo] at hc
 |fn=>simp[fo] at hc
 |yield=>simp[fo] at hc
 |agg=>simp[fo] at hc
 |tuple=>simp[fo] at hc
theorem uC{x x':Value}{n:Nat}(hx:VR ρ x x')(hc:nT x=some n):(Builtin.lenOf x').run P w= .ok n w:=by
 cases hx with
 |sc _ hs=>cases x<;>simp only[nT] at hc<;>first|(cases hc;done)|(cases hc;simp[Builtin.lenOf])
 |sl b o m c L hL=>simp only[nT,Option.some.injEq] at hc;subst hc;simp[Builtin.lenOf]
 |es a a' hs=>simp only[nT,Option.some.injEq] at hc;subst hc;simp[Builtin.lenOf]
 |ptr=>simp[nT] at hc
 |map=>simp[nT] at hc
 |fn=>simp[nT] at hc
 |yield=>simp[nT] at hc
 |agg=>simp[nT] at hc
 |tuple=>simp[nT] at hc
end
section
variable{P:Program}{ρ:Ren}{w:World}{h:Hs}
theorem xW{e:TypeId}{i:TypeInfo}{n:Nat}(hi:P.info? e=some i)(hr:tM i n=true): ∃z,Room P e i n z:=by
 unfold tM at hr
 split at hr
 ·rename_i z hz
  simp only[Bool.and_eq_true] at hr
  obtain⟨⟨⟨⟨h1,h2⟩,h3⟩,h4⟩,h5⟩:=hr
  refine⟨z,hi,hz,?_,Nat.le_of_ble_eq_true h2,Nat.le_of_ble_eq_true h3,?_,Nat.le_of_ble_eq_true h5⟩
  ·rw[←Array.length_toList,fL];exact Nat.eq_of_beq_eq_true h1
  ·simpa[Nat.blt_eq] using h4
 ·cases hr
theorem aJ.heap{H:HF}{w1:World}(hh:aJ ρ H w)(he:w1.heap=w.heap):aJ ρ H w1:=hh.world he
theorem Step.jr{ρ':Ren}{H H':HF}{w1 w':World}{lo hi:Nat}(hs:Step ρ H w1 ρ' H' w' lo hi)(h1:w1.heap=w.heap)(h2:w1.os=w.os)(h3:w1.tape=w.tape)(h4:w1.output=w.output):Step ρ H w ρ' H' w' lo hi:=
 ⟨hs.os.trans h2,hs.tape.trans h3,hs.output.trans h4,by rw[←h1];exact hs.size,fun r hr hno=>by rw[←h1] at hr ⊢;exact hs.same r hr hno,fun b o L a c d=>by rw[←h1];exact hs.own b o L a c d,
   fun b o L a c=>by rw[←h1];exact hs.any b o L a c,hs.ext,hs.vB⟩
theorem Step.We{ρ':Ren}{H0 H H':HF}{w':World}{lo hi:Nat}(hs:Step ρ H w ρ' H' w' lo hi)(hsub: ∀b o,H b=some o->H0 b=some o):Step ρ H0 w ρ' H' w' lo hi:=
 {hs with
  same:=fun r hr hno=>hs.same r hr fun b o L a c d=>hno b o L (hsub _ _ a) c d
  own:=fun b o L a c d=>(hs.own b o L a c d).imp (fun⟨i,oi,Li,x⟩=>⟨i,oi,Li,hsub _ _ x.1,x.2⟩) id
  any:=fun b o L a c=>(hs.any b o L a c).imp (fun⟨i,oi,Li,x⟩=>⟨i,oi,Li,hsub _ _ x.1,x.2⟩) id}
theorem xV{ρ':Ren}{b ψ e:Nat}{cs:List Value}{cs':List Value}{i:TypeInfo}{z:Value}{n:Nat}(hv:cT ρ' cs cs')(hlen:cs.length=n*i.size)(hz:z.cells.size=i.size):
 OR ρ' ⟨b,0,ψ⟩ (.aw {cells:=cs,cap:=n*i.size,jU:=i.size,elem:=e,exact:=false,whole:=false,bQ:=0,own:=true}) (.cells ((⟨cs'⟩:Array Value)++Builtin.zeroCells z.cells ψ) e):=by
 refine sU hv (by omega) (fun _=>?_) (fun j hj=>?_) (fun h=>by cases h) (fun h=>by cases h) (fun _=>rfl) (fun h=>by cases h)
 ·simp only[Array.size_append,td,hz,List.size_toArray,hv.length]
  rw[hlen]
  simp
 ·simp only[Nat.zero_add]
  rw[Array.getElem?_append_left (by simp[hv.length,hj])]
  simp
theorem sV(a b:List Value)(c:Array Value):(⟨a⟩:Array Value)++((⟨b⟩:Array Value)++c)=(⟨a++b⟩:Array Value)++c:=by apply Array.ext';simp
theorem F8{ats:List TypeId}{s s' x x':Value}{ty:TypeId}{r:bR}(hs:VR ρ s s')(hx:VR ρ x x')(hh:aJ ρ h.heap.get w)(hf:bA ρ h.next (r.next h))(hr:fR P h ats s x=some r):
 ∃v h',r= .val v h'/\aD P ρ h w (Builtin.append_ ⟨ats⟩ ty #[s',x']) v h':=by
 unfold fR at hr
 split at hr
 ·rename_i st xt
  split at hr
  ·rename_i e xd hu hxu
   split at hr
   ·cases hr
   ·rename_i xd _ _ i hnot hi
    have hxd:qN xd=true:=by cases xd<;>first|rfl|exact(hnot _ rfl).elim
    split at hr
    ·rename_i n base len cap hn
     have hlen:=uC (P:=P) (w:=w) hx hn
     split at hr
     ·rename_i new oV
      obtain⟨new',hnew',hnR⟩:=pW (P:=P) hh hx oV
      have hrn:=hnew' w rfl
      split at hr
      ·
       rename_i hle
       have hle':=Nat.le_of_ble_eq_true hle
       split at hr
       ·split at hr
        ·cases hr
         cases hs with
         |sc _ _=>exact⟨_,_,rfl,aD.pure hh (eZ hu hxu hxd hi hlen hrn hle' rfl) (.sc _ rfl)⟩
        ·cases hr
       ·rename_i a
        split at hr
        ·cases hr
         cases hnR
         cases hs with
         |sc _ h=>exact((dE h).1 (by assumption)).elim
         |es _ _ h=>exact(h (by assumption)).elim
         |sl b o _ _ L hL=>exact⟨_,_,rfl,aD.pure hh (eZ hu hxu hxd hi hlen hrn (by omega) (by simp[storeCells])) (.sl _ _ _ _ _ hL)⟩
        ·split at hr
         ·rename_i hsp h' hw
          cases hr
          obtain⟨L,w',hL,hrun,hh',hst⟩:=iE (P:=P) hh hw hnR
          cases hs with
          |sc _ h=>exact((dE h).1 (by assumption)).elim
          |es _ _ h=>exact(h (by assumption)).elim
          |sl b o _ _ L' hL'=>
           rw[hL] at hL';cases hL'
           refine⟨_,_,rfl,ρ,_,w',eZ hu hxu hxd hi hlen hrn (by omega) ?_, .sl _ _ _ _ _ hL,hh',hst _ _⟩
           show(storeCells ((⟨L.φ,L.δ+o,none⟩:Addr).add (len*i.size)) new').run P w=_
           rw[dx,Nat.add_assoc];exact hrun
         ·cases hr
        ·rename_i hsp
         cases hr
         cases hnR
         cases hs with
         |sc _ h=>
          obtain⟨_,rfl,rfl⟩:=dE h
          obtain rfl:n=0:=by omega
          exact⟨_,_,rfl,aD.pure hh (eZ hu hxu hxd hi hlen hrn (by omega) (by simp[storeCells])) (.es _ _ (by simp))⟩
         |es _ a' h=>
          obtain rfl:n=0:=by omega
          exact⟨_,_,rfl,aD.pure hh (eZ hu hxu hxd hi hlen hrn (by omega) (by simp[storeCells])) (.es _ _ (by simp))⟩
         |sl b o _ _ L hL=>cases hsp
        ·cases hr
      ·
       rename_i hle
       have hlt:cap<len+n:=by
        rcases Nat.lt_or_ge cap (len+n) with h'|h'
        ·exact h'
        ·rw[Nat.ble_eq_true_of_le h'] at hle;cases hle
       split at hr
       ·rename_i hroom
        simp only[Bool.and_eq_true] at hroom
        obtain⟨hroom,hnl⟩:=hroom
        have hlen':new.length=n*i.size:=Nat.eq_of_beq_eq_true hnl
        have hn': ∀v h',r= .val v h'->h.next<h'.next->ρ h.next=none:=fun v h' he hlt=>hf _ (Nat.le_refl _) (by rw[he];exact hlt)
        obtain⟨z,hroom⟩:=xW hi hroom
        split at hr
        ·
         split at hr
         ·cases hr
          have hn':=hn' _ _ rfl (Nat.lt_succ_self _)
          cases hs with
          |sc _ _=>
           obtain⟨ψ,hrun⟩:=gT (ty:=ty) (base:=none) hu hxu hxd hroom hlen hnew' hlt (old':=[]) (fun w1 _=>by simp[Builtin.firstCells])
           rw[sV,List.nil_append] at hrun
           obtain⟨e1,e2⟩:=aJ.new (w:=w.drew) (H':=(bV h (.aw {cells:=new,cap:=n*i.size,jU:=i.size,elem:=e,exact:=false,whole:=false,bQ:=0,own:=true})).heap.get)
            (δ:=0) (ψ:=ψ) (hh.heap (w1:=w.drew) rfl) hn' (xV (z:=z) (hnR.mono (Ren.il _ hn')) hlen' hroom.size) (fun j=>T.aP _ _ _ _)
           refine⟨_,_,rfl,_,_,_,hrun,?_,?_,e2.jr (w:=w) rfl rfl rfl rfl⟩
           ·have:=VR.rI ρ h.next ⟨w.heap.size,0,ψ⟩ n n rfl
            simpa using this
           ·simpa using e1
         ·cases hr
        ·
         rename_i a
         split at hr
         ·rename_i hsp
          cases hr
          have hn':=hn' _ _ rfl (Nat.lt_succ_self _)
          have go: ∀a':Addr,len=0->cap=0->s'= .slice (some a') 0 0-> ∃v h',bR.val (.slice (some ⟨h.next,0,none⟩) n n) (bV h (.aw {cells:=new,cap:=n*i.size,jU:=i.size,elem:=e,exact:=false,whole:=false,bQ:=0,own:=true}))= .val v h'/\aD P ρ h w (Builtin.append_ ⟨[st,xt]⟩ ty #[s',x']) v h':=by
           intro a' e1 e2 e3
           subst e1 e2 e3
           obtain⟨ψ,hrun⟩:=gT (ty:=ty) (base:=some a') hu hxu hxd hroom hlen hnew' hlt (old':=[]) (fun w1 _=>by simp[Builtin.firstCells,loadCells,loadCellsFrom])
           rw[sV,List.nil_append] at hrun
           simp only[Nat.zero_add] at hrun
           obtain⟨e1,e2⟩:=aJ.new (w:=w.drew) (H':=(bV h (.aw {cells:=new,cap:=n*i.size,jU:=i.size,elem:=e,exact:=false,whole:=false,bQ:=0,own:=true})).heap.get)
            (δ:=0) (ψ:=ψ) (hh.heap (w1:=w.drew) rfl) hn' (xV (z:=z) (hnR.mono (Ren.il _ hn')) hlen' hroom.size) (fun j=>T.aP _ _ _ _)
           refine⟨_,_,rfl,_,_,_,hrun,?_,?_,e2.jr (w:=w) rfl rfl rfl rfl⟩
           ·have:=VR.rI ρ h.next ⟨w.heap.size,0,ψ⟩ n n rfl
            simpa using this
           ·simpa using e1
          cases hs with
          |sc _ h=>
           obtain⟨_,rfl,rfl⟩:=dE h
           exact go _ rfl rfl rfl
          |es _ a' h=>exact go _ rfl rfl rfl
          |sl b o _ _ L hL=>cases hsp
         ·rename_i k hsp hk
          split at hr
          ·rename_i iL hold
           cases hs with
           |sc _ h=>exact((dE h).1 (by assumption)).elim
           |es _ _ h=>exact(h (by assumption)).elim
           |sl b o _ _ L hL=>
            obtain⟨L0,x0,hL0,hx0,hR⟩:=hh.obj _ _ hk
            rw[hL] at hL0;cases hL0
            obtain⟨c,fr,rfl,hR⟩:=dF hR
            obtain⟨old',c1,c2,c3⟩:=hR.bh hx0 hold
            have hrold: ∀cap' (w1:World),w1.heap=w.heap->(Builtin.firstCells i.size len (.slice (some ⟨L.φ,L.δ+o,none⟩) len cap')).run P w1= .ok ⟨old'⟩ w1:=fun cap' w1 hw1=>by
             have hl:=run_loadCells_list (P:=P) w1 ⟨L.φ,L.δ+o,none⟩ old' (fun j v hj=>by
              rw[dx]
              have:=c3 j v hj
              simp only[World.cell?] at this ⊢
              rw[hw1];exact this)
             rw[c1] at hl
             simp only[Builtin.firstCells];exact hl
            have holen:=(gu hold).1
            have hcat:(iL++new).length=(len+n)*i.size:=by rw[List.length_append,holen,hlen',Nat.add_mul]
            split at hr
            ·
             rename_i hex
             cases hr
             have hn':=hn' _ _ rfl (Nat.lt_succ_self _)
             have hψ:=hR.exact hex
             obtain⟨ψ,hrun⟩:=gT (ty:=ty) (cap:=cap+L.ψ) hu hxu hxd hroom hlen hnew' (by omega) (hrold _)
             rw[sV] at hrun
             obtain⟨e1,e2⟩:=aJ.new (w:=w.drew) (H':=(bV h (.aw {cells:=iL++new,cap:=(len+n)*i.size,jU:=i.size,elem:=e,exact:=false,whole:=false,bQ:=0,own:=true})).heap.get)
              (δ:=0) (ψ:=ψ) (hh.heap (w1:=w.drew) rfl) hn' (xV (z:=z) ((c2.append hnR).mono (Ren.il _ hn')) hcat hroom.size) (fun j=>T.aP _ _ _ _)
             refine⟨_,_,rfl,_,_,_,hrun,?_,?_,e2.jr (w:=w) rfl rfl rfl rfl⟩
             ·have:=VR.rI ρ h.next ⟨w.heap.size,0,ψ⟩ (len+n) (len+n) rfl
              simpa using this
             ·simpa[Array.append_assoc] using e1
            ·split at hr
             ·rename_i hown hfrz hcapk hesz
              simp only[Bool.and_eq_true] at hesz
              obtain⟨⟨hesz,hkel⟩,hac⟩:=hesz
              cases hr
              have hn':=hn' _ _ rfl (Nat.lt_succ_self _)
              have hcapk':o+cap*i.size=k.cap:=Nat.eq_of_beq_eq_true hcapk
              have hesz':=Nat.eq_of_beq_eq_true hesz
              by_cases hin:len+n<=cap+L.ψ
              ·
               have hroomk:=hR.room hown
               have hfr:=hR.kC hfrz
               subst hfr
               have hmul:(len+n)*i.size<=(cap+L.ψ)*i.size:=Nat.mul_le_mul_right _ hin
               rw[Nat.add_mul,Nat.add_mul] at hmul
               rw[hesz'] at hroomk
               have hnl':=hnR.length
               obtain⟨w',c',hr1,hu1,hs1,hc1⟩:=Ce P L.φ k.elem (0,0) new' (L.δ+o+len*i.size) 0 c w hx0 (by omega) (fun p _ _=>by simp) (hnR.cE hac)
               have hwr:cT ρ (iL++new) (old'++new'):=c2.append hnR
               have hOR:OR (ρ.set h.next ⟨L.φ,L.δ+o,cap+L.ψ - (len+n)⟩) ⟨L.φ,L.δ+o,cap+L.ψ - (len+n)⟩ (.aw {cells:=iL++new,cap:=(len+n)*i.size,jU:=i.size,elem:=e,exact:=false,whole:=false,bQ:=0,own:=true}) (.cells c' k.elem (0,0)):=by
                refine⟨?_,by show(iL++new).length<=_;rw[hcat];exact Nat.le_refl _,fun _=>?_,fun j v hj=>?_,(fun h=>by cases h),(fun h=>by cases h),fun _=>rfl,(fun h=>by cases h)⟩
                ·show k.elem=e
                 exact Nat.eq_of_beq_eq_true hkel
                ·show L.δ+o+(len+n)*i.size+(cap+L.ψ - (len+n))*i.size<=c'.size
                 rw[hs1,Nat.sub_mul,Nat.add_mul,Nat.add_mul]
                 omega
                ·have hj':(iL++new)[j]? =some v:=hj
                 show∃v',c'[L.δ+o+j]? =some v'/\_
                 rw[hc1]
                 by_cases hjo:j<len*i.size
                 ·rw[List.getElem?_append_left (by omega)] at hj'
                  rw[if_neg (by omega)]
                  rw[(gu hold).2 j hjo,lP,List.getElem?_drop] at hj'
                  obtain⟨u,hu1,hu2⟩:=hR.cell _ _ hj'
                  exact⟨u,by rw[←Nat.add_assoc] at hu1;exact hu1,hu2.mono (Ren.il _ hn')⟩
                 ·rw[List.getElem?_append_right (by omega)] at hj'
                  obtain⟨u,hu1,hu2⟩:=hnR.get hj'
                  have hjn:j - iL.length<new.length:=by
                   rcases Nat.lt_or_ge (j - iL.length) new.length with h'|h'
                   ·exact h'
                   ·simp[List.getElem?_eq_none h'] at hj'
                  rw[if_pos (by omega)]
                  exact⟨u,by rw[show L.δ+o+j - (L.δ+o+len*i.size+0)=j - iL.length by omega];exact hu1,hu2.mono (Ren.il _ hn')⟩
               obtain⟨e1,e2⟩:=aJ.move (H':=((h.heap.del b).set h.next (.aw {cells:=iL++new,cap:=(len+n)*i.size,jU:=i.size,elem:=e,exact:=false,whole:=false,bQ:=0,own:=true})).get)
                (L':=⟨L.φ,L.δ+o,cap+L.ψ - (len+n)⟩) hh hk hown hL hn' rfl hu1 hOR (fun j=>by rw[T.aP,T.fP])
               refine⟨_,_,rfl,_, .slice (some ⟨L.φ,L.δ+o,none⟩) (len+n) (cap+L.ψ),w',eZ hu hxu hxd hi hlen hrn hin ?_,?_,e1,e2⟩
               ·show(storeCells ((⟨L.φ,L.δ+o,none⟩:Addr).add (len*i.size)) new').run P w=_
                rw[dx];exact hr1
               ·have:=VR.sl (ρ:=ρ.set h.next ⟨L.φ,L.δ+o,cap+L.ψ - (len+n)⟩) h.next 0 (len+n) (len+n) _ (Ren.cB _ _ _)
                rw[show len+n+(⟨L.φ,L.δ+o,cap+L.ψ - (len+n)⟩:Loc).ψ=cap+L.ψ by show len+n+(cap+L.ψ - (len+n))=cap+L.ψ;omega] at this
                simpa using this
              ·
               obtain⟨ψ,hrun⟩:=gT (ty:=ty) (cap:=cap+L.ψ) hu hxu hxd hroom hlen hnew' (by omega) (hrold _)
               rw[sV] at hrun
               have hdel:aJ ρ (h.heap.del b).get w.drew:=(hh.heap (w1:=w.drew) rfl).sub fun j o' hj=>by rw[T.fP] at hj;split at hj<;>first|cases hj|exact hj
               obtain⟨e1,e2⟩:=aJ.new (w:=w.drew) (H':=((h.heap.del b).set h.next (.aw {cells:=iL++new,cap:=(len+n)*i.size,jU:=i.size,elem:=e,exact:=false,whole:=false,bQ:=0,own:=true})).get)
                (δ:=0) (ψ:=ψ) hdel hn' (xV (z:=z) ((c2.append hnR).mono (Ren.il _ hn')) hcat hroom.size) (fun j=>T.aP _ _ _ _)
               refine⟨_,_,rfl,_,_,_,hrun,?_,?_,(e2.We (H0:=h.heap.get) fun j o' hj=>by rw[T.fP] at hj;split at hj<;>first|cases hj|exact hj).jr (w:=w) rfl rfl rfl rfl⟩
               ·have:=VR.rI ρ h.next ⟨w.heap.size,0,ψ⟩ (len+n) (len+n) rfl
                simpa using this
               ·simpa[Array.append_assoc] using e1
             ·cases hr
          ·cases hr
         ·cases hr
       ·cases hr
     ·cases hr
    ·cases hr
   ·cases hr
  ·cases hr
 ·cases hr
end
section
variable{P:Program}{ρ:Ren}{w:World}{h:Hs}
theorem gG{s:Sem Value}{v:Value}(hv:kP P s=some v):(∀w,s.run P w= .ok v w)/\au v=true:=by
 unfold kP at hv
 split at hv
 ·rename_i u hu
  split at hv
  ·rename_i hp;cases hv;exact⟨fF hu,hp⟩
  ·cases hv
 ·cases hv
theorem GZ{op:UnOp}{x x':Value}{r:bR}(hh:aJ ρ h.heap.get w)(hx:VR ρ x x')(hr:yM P h op x=some r): ∃v,r= .val v h/\aD P ρ h w (Op.unary op x') v h:=by
 unfold yM at hr
 split at hr
 ·rename_i hp
  split at hr
  ·rename_i v hv
   cases hr
   have:=hx.plain hp;subst this
   obtain⟨h1,h2⟩:=gG hv
   exact⟨v,rfl,aD.pure hh (h1 w) (VR.aZ h2)⟩
  ·cases hr
 ·cases hr
theorem uj{a:Addr}{c:Array Value}{e:TypeId}{fr:Nat × Nat}(hx:w.heap[a.block]? =some (.cells c e fr)):(noView a).run P w= .ok () w:=by
 have:w.shape? a.block=some (e,c.size):=by simp[World.shape?,hx]
 simp[noView,viewAt,this]
theorem ob{a:Addr}{c:Array Value}{e:TypeId}(hx:w.heap[a.block]? =some (.cells c e (0,0))):(stringish a).run P w= .ok false w:=by
 have h1:w.shape? a.block=some (e,c.size):=by simp[World.shape?,hx]
 have h2:w.frozen? a=false:=by simp[World.frozen?,hx]
 have h3:w.frozen? {block:=a.block,off:=c.size}=false:=by simp[World.frozen?,hx]
 simp[stringish,h1,h2,h3]
theorem zL{a b:Addr}{c d:Array Value}{e f:TypeId}(hne:a.block≠b.block)(hx:w.heap[a.block]? =some (.cells c e (0,0)))(hy:w.heap[b.block]? =some (.cells d f (0,0))):(sameAddr a b).run P w= .ok false w:=by
 have h2:w.frozen? a=false:=by simp[World.frozen?,hx]
 have hb:(a.block==b.block)=false:=by simpa using hne
 have h3:w.shape? b.block=some (f,d.size):=by simp[World.shape?,hy]
 simp[sameAddr,hb,h2,uj hx,uj hy,mayBeOne,ob hx,ob hy,h3]
theorem cV(t:TypeId)(x y:Value):Op.equal t x y=Op.equalIn (9999+1) t x y:=rfl
theorem rQ{d:TypeDesc}{xt:TypeId}{x x' y y':Value}{b:Bool}(hh:aJ ρ h.heap.get w)(hu:P.underlying xt=some d)(hx:VR ρ x x')(hy:VR ρ y y')(hr:Eb P h d x y=some b):
 (Op.equal xt x' y').run P w= .ok b w/\(∀op ox oy,(eqGuard op xt ox oy x' y').run P w= .ok () w)/\
   binOp .eql xt x' y'=(do pure (.bool (←Op.equal xt x' y')))/\binOp .neq xt x' y'=(do pure (.bool (!(←Op.equal xt x' y')))):=by
 have guard: ∀(a c:Value) op ox oy,(∀a',a≠ .agg a')->(a≠ .nilIface)->(eqGuard op xt ox oy a c).run P w= .ok () w:=by
  intro a c op ox oy h1 h2
  unfold eqGuard
  cases op<;>first|rfl|(cases a<;>first|rfl|exact(h1 _ rfl).elim|exact(h2 rfl).elim)
 unfold Eb at hr
 split at hr
 ·rename_i e b0
  cases hr
  cases hx with
  |sc _ _=>
   have: ∃b',y'= .pointer b'/\b'.isNone=b0.isNone:=by
    cases hy with
    |sc _ _=>exact⟨_,rfl,rfl⟩
    |ptr=>exact⟨_,rfl,rfl⟩
   obtain⟨b',rfl,hb⟩:=this
   exact⟨by rw[cV,Op.equalIn];simp[ab hu,hb],fun op ox oy=>guard _ _ _ _ _ (by simp) (by simp),rfl,rfl⟩
 ·cases hr
  cases hx with
  |sc _ hs=>simp[simple] at hs
  |ptr b o L hL=>
   cases hy with
   |sc _ _=>exact⟨by rw[cV,Op.equalIn];simp[ab hu],fun op ox oy=>guard _ _ _ _ _ (by simp) (by simp),rfl,rfl⟩
 ·rename_i e a c
  split at hr
  ·rename_i i hi hs1 hs2
   split at hr
   ·cases hr
   ·rename_i m hm
    cases hx with
    |sc _ hs=>simp[simple] at hs
    |ptr bx ox Lx hLx=>
     cases hy with
     |sc _ hs=>simp[simple] at hs
     |ptr by_ oy Ly hLy=>
      refine⟨?_,fun op ox oy=>guard _ _ _ _ _ (by simp) (by simp),rfl,rfl⟩
      have hsz:i.size≠0:=by omega
      split at hr
      ·rename_i hbe
       cases hr
       have hbe':bx=by_:=Nat.eq_of_beq_eq_true hbe
       subst hbe'
       rw[hLx] at hLy;cases hLy
       have key:(sameAddr ⟨Lx.φ,Lx.δ+ox,none⟩ ⟨Lx.φ,Lx.δ+oy,none⟩).run P w= .ok (Nat.beq ox oy) w:=by
        simp only[sameAddr,beq_self_eq_true,if_true,Sem.run_pure]
        congr 1
        rw[Bool.eq_iff_iff]
        simp
       rw[cV,Op.equalIn]
       simp[ab hu,aO hi,hsz,key]
      ·rename_i k l hbe hk hl
       split at hr
       ·rename_i ho hf1 hf2
        cases hr
        obtain⟨L1,x1,hL1,hx1,hR1⟩:=hh.obj _ _ hk
        obtain⟨L2,x2,hL2,hx2,hR2⟩:=hh.obj _ _ hl
        rw[hLx] at hL1;cases hL1
        rw[hLy] at hL2;cases hL2
        obtain⟨c1,fr1,rfl,hR1⟩:=dF hR1
        obtain⟨c2,fr2,rfl,hR2⟩:=dF hR2
        have e1:=hR1.kC hf1
        have e2:=hR2.kC hf2
        subst e1 e2
        have hne:bx≠by_:=by rintro rfl;simp at hbe
        have hφ:=hh.inj bx by_ _ _ Lx Ly hk hl hne ho hLx hLy
        have key:=zL (P:=P) (a:=⟨Lx.φ,Lx.δ+ox,none⟩) (b:=⟨Ly.φ,Ly.δ+oy,none⟩) hφ hx1 hx2
        rw[cV,Op.equalIn]
        simp[ab hu,aO hi,hsz,key]
       ·cases hr
      ·cases hr
  ·cases hr
 ·rename_i e _ _ b0 _ _
  cases hr
  cases hx with
  |sc _ _=>
   have: ∃b' n m,y'= .slice b' n m/\b'.isNone=b0.isNone:=by
    cases hy with
    |sc _ _=>exact⟨_,_,_,rfl,rfl⟩
    |es _ _ _=>exact⟨_,_,_,rfl,rfl⟩
    |sl=>exact⟨_,_,_,rfl,rfl⟩
   obtain⟨b',n,m,rfl,hb⟩:=this
   exact⟨by rw[cV,Op.equalIn];simp[ab hu,hb],fun op ox oy=>guard _ _ _ _ _ (by simp) (by simp),rfl,rfl⟩
 ·cases hr
  cases hx with
  |sc _ hs=>
   cases hy with
   |sc _ _=>exact⟨by rw[cV,Op.equalIn];simp[ab hu],fun op ox oy=>guard _ _ _ _ _ (by simp) (by simp),rfl,rfl⟩
  |es _ _ hs=>
   cases hy with
   |sc _ _=>exact⟨by rw[cV,Op.equalIn];simp[ab hu],fun op ox oy=>guard _ _ _ _ _ (by simp) (by simp),rfl,rfl⟩
  |sl b o n c L hL=>
   cases hy with
   |sc _ _=>exact⟨by rw[cV,Op.equalIn];simp[ab hu],fun op ox oy=>guard _ _ _ _ _ (by simp) (by simp),rfl,rfl⟩
 ·rename_i e _ b0
  cases hr
  cases hx with
  |sc _ _=>
   have: ∃b',y'= .map b'/\b'.isNone=b0.isNone:=by
    cases hy with
    |sc _ _=>exact⟨_,rfl,rfl⟩
    |map=>exact⟨_,rfl,rfl⟩
   obtain⟨b',rfl,hb⟩:=this
   exact⟨by rw[cV,Op.equalIn];simp[ab hu,hb],fun op ox oy=>guard _ _ _ _ _ (by simp) (by simp),rfl,rfl⟩
 ·cases hr
  cases hx with
  |sc _ hs=>simp[simple] at hs
  |map b L hL=>
   cases hy with
   |sc _ _=>exact⟨by rw[cV,Op.equalIn];simp[ab hu],fun op ox oy=>guard _ _ _ _ _ (by simp) (by simp),rfl,rfl⟩
 ·cases hr
  have: ∃f a c,x'= .func f a c:=by cases hx<;>first|exact⟨_,_,_,rfl⟩|(rename_i hs;simp[simple] at hs)
  obtain⟨f,a,c,rfl⟩:=this
  cases hy with
  |sc _ _=>exact⟨by rw[cV,Op.equalIn];simp[ab hu],fun op ox oy=>guard _ _ _ _ _ (by simp) (by simp),rfl,rfl⟩
 ·cases hr
  have: ∃f a c,y'= .func f a c:=by cases hy<;>first|exact⟨_,_,_,rfl⟩|(rename_i hs;simp[simple] at hs)
  obtain⟨f,a,c,rfl⟩:=this
  cases hx with
  |sc _ _=>exact⟨by rw[cV,Op.equalIn];simp[ab hu],fun op ox oy=>guard _ _ _ _ _ (by simp) (by simp),rfl,rfl⟩
 ·cases hr
theorem J1{op:BinOp}{xt:TypeId}{ox oy:Operand}{x x' y y' v:Value}(hh:aJ ρ h.heap.get w)(hx:VR ρ x x')(hy:VR ρ y y')(hr:yV P h op xt ox oy x y=some v):
 aD P ρ h w (do eqGuard op xt ox oy x' y';binOp op xt x' y') v h:=by
 unfold yV at hr
 split at hr
 ·rename_i h1 h2
  have e1:=hx.plain h1
  have e2:=hy.plain h2
  subst e1 e2
  obtain⟨h3,h4⟩:=gG hr
  exact aD.pure hh (h3 w) (VR.aZ h4)
 ·split at hr
  ·rename_i d hu
   split at hr
   ·split at hr
    ·rename_i b hb
     cases hr
     obtain⟨e1,e2,e3,e4⟩:=rQ hh hu hx hy hb
     exact aD.pure hh (v':= .bool b) (by simp[e2,e3,e1]) (.sc _ rfl)
    ·cases hr
   ·split at hr
    ·rename_i b hb
     cases hr
     obtain⟨e1,e2,e3,e4⟩:=rQ hh hu hx hy hb
     exact aD.pure hh (v':= .bool (!b)) (by simp[e2,e4,e1]) (.sc _ rfl)
    ·cases hr
   ·cases hr
  ·cases hr
theorem Ah{x x':Value}{r:bR}(hx:VR ρ x x')(hr:nN h x=some r): ∃v,r= .val v h/\VR ρ v x'/\((∃a,x'= .pointer (some a))\/(∃f a b,x'= .func (.func f) a b)\/(∃f a b,x'= .func (.yield f) a b)):=by
 unfold nN at hr
 split at hr
 ·cases hr
  refine⟨_,rfl,hx,?_⟩
  cases hx with
  |sc _ hs=>simp[simple] at hs
  |ptr=>exact .inl ⟨_,rfl⟩
 ·cases hr
  refine⟨_,rfl,hx,?_⟩
  cases hx with
  |sc _ hs=>simp[simple] at hs
  |fn=>exact .inr (.inl ⟨_,_,_,rfl⟩)
 ·cases hr
  refine⟨_,rfl,hx,?_⟩
  cases hx with
  |sc _ hs=>simp[simple] at hs
  |yield=>exact .inr (.inr ⟨_,_,_,rfl⟩)
 ·cases hr
theorem yh{t:TypeId}{l l' c c':Value}{r:bR}(hh:aJ ρ h.heap.get w)(hl:VR ρ l l')(hc:VR ρ c c')(hf:bA ρ h.next (r.next h))(hr:iB P h t l c=some r): ∃v h',r= .val v h'/\aD P ρ h w (Instr.makeSlice t l' c') v h':=by
 unfold iB at hr
 split at hr
 ·rename_i e k1 ln k2 cn hu
  cases hl
  cases hc
  split at hr
  ·rename_i i hi hle hcm
   split at hr
   ·rename_i z hz hby
    split at hr
    ·rename_i hpz hac hsz
     cases hr
     have hle':=Nat.le_of_ble_eq_true hle
     have hcm':=Nat.le_of_ble_eq_true hcm
     have hby':=Nat.le_of_ble_eq_true hby
     have hsz':=Nat.eq_of_beq_eq_true hsz
     have hzs:z.cells.size=i.size:=by rw[←Array.length_toList,fL,hsz']
     have hrep:cT ρ (rep cn (aV z)) (rep cn (aV z)):=by
      have: ∀k,cT ρ (rep k (aV z)) (rep k (aV z)):=by
       intro k
       induction k with
       |zero=>exact .nil
       |succ k ih=>
        refine cT.append ?_ ih
        have:=(VR.aZ hpz (ρ:=ρ)).cells
        rw[fL] at this
        exact this
      exact this cn
     refine⟨_,_,rfl,aD.gX (v':= .slice (some ⟨w.heap.size,0,none⟩) ln cn) hh hf hrep ?_ (VR.rI _ _ _ _ _ rfl)⟩
     have w1:IntKind.i64.wrap (ln:Int)=ln:=IntWalk.i64_in _ (by omega)
     have w2:IntKind.i64.wrap (cn:Int)=cn:=IntWalk.i64_in _ (by omega)
     have hmul:i.bytes*cn<=1099511627776:=Nat.le_trans (Nat.mul_le_mul hby' hcm') (by omega)
     have c1: ¬((i.bytes:Int)*(cn:Int)>2 ^ 48):=by
      have h1:((i.bytes*cn:Nat):Int)<=((1099511627776:Nat):Int):=Int.ofNat_le.2 hmul
      have h2:((i.bytes*cn:Nat):Int)=(i.bytes:Int)*(cn:Int):=Int.natCast_mul _ _
      rw[h2] at h1
      omega
     have c2: ¬((ln:Int)>(cn:Int)):=by omega
     have c3: ¬((cn:Int)<0):=by omega
     have c4: ¬((ln:Int)<0):=by omega
     have v1:(Value.int k1 (Int.ofNat ln))=Value.int k1 (ln:Int):=rfl
     have v2:(Value.int k2 (Int.ofNat cn))=Value.int k2 (cn:Int):=rfl
     have ha: ∀k (n:Nat),(asInt (.int k (n:Int))).run P w= .ok (n:Int) w:=fun k n=>rfl
     have hcond:((decide ((cn:Int)<0)||decide ((i.bytes:Int)*(cn:Int)>2 ^ 48))||decide ((ln:Int)<0)||decide ((ln:Int)>(cn:Int)))=false:=by
      rw[decide_eq_false c1,decide_eq_false c2,decide_eq_false c3,decide_eq_false c4];rfl
     rw[v1,v2]
     simp only[Instr.makeSlice,Sem.run_bind,ab hu,Result.andThen_ok,ha,ky hi,w1,w2,hcond,Bool.false_eq_true,if_false,run_askRoom,aO hi,Int.toNat_natCast]
     by_cases h0:cn*i.size=0
     ·have hnil:rep cn (aV z)=[]:=by
       rw[←List.length_eq_zero_iff,sL,hsz'];exact h0
      have hr0: ∀f:Nat->Value,Array.map f (Array.range 0)= #[]:=fun f=>by simp[Array.range]
      simp[h0,hr0,hnil,gv]
     ·have hcells:((Array.range (cn*i.size)).map (z.cells[· % z.cells.size]!))=(rep cn (aV z)).toArray:=by
       rw[s9 cn z i.size hzs (by
        rcases Nat.eq_zero_or_pos i.size with h|h
        ·rw[h] at h0;simp at h0
        ·left;omega),fL]
      simp only[if_neg h0,Sem.run_bind,cZ hi hz,Result.andThen_ok,Sem.run_pure,hcells,gv]
    ·cases hr
   ·cases hr
  ·cases hr
 ·cases hr
end
theorem uk:Extern.allNextRows.lookup "internal/abi.NoEscape" =none:=by kernel_rfl
theorem HY:Extern.allNextRows.lookup "internal/bytealg.MakeNoZero" =none:=by kernel_rfl
theorem SN:Extern.allNextRows.lookup "internal/bytealg.IndexByteString" =none:=by kernel_rfl
theorem SM:Extern.allNextRows.lookup "internal/bytealg.CountString" =none:=by kernel_rfl
theorem SO:Extern.allNextRows.lookup "" =none:=by kernel_rfl
theorem Xq:Extern.allGenericRows.lookup "internal/abi.NoEscape" =none:=by kernel_rfl
theorem Xp:Extern.allGenericRows.lookup "internal/bytealg.MakeNoZero" =none:=by kernel_rfl
theorem Xo:Extern.allGenericRows.lookup "internal/bytealg.IndexByteString" =none:=by kernel_rfl
theorem Xn:Extern.allGenericRows.lookup "internal/bytealg.CountString" =none:=by kernel_rfl
theorem Wd:Extern.allTypedRows.lookup "internal/abi.NoEscape" =none:=by kernel_rfl
theorem Wc:Extern.allTypedRows.lookup "internal/bytealg.MakeNoZero" =some Extern.BytealgMakeNoZero.makeNoZero:=by kernel_rfl
theorem Wb:Extern.allTypedRows.lookup "internal/bytealg.IndexByteString" =none:=by kernel_rfl
theorem Wa:Extern.allTypedRows.lookup "internal/bytealg.CountString" =none:=by kernel_rfl
theorem Wt:Extern.allRows.lookup "internal/abi.NoEscape" =some Extern.AbiNoEscape.same:=by kernel_rfl
theorem Ws:Extern.allRows.lookup "internal/bytealg.IndexByteString" =some Extern.BytealgIndexByte.indexByte:=by kernel_rfl
theorem Wr:Extern.allRows.lookup "internal/bytealg.CountString" =some Extern.BytealgCount.count:=by kernel_rfl
section
variable{P:Program}{ρ:Ren}{w:World}{h:Hs}
theorem Ef{ats:List TypeId}{d d' s s':Value}{ty:TypeId}{r:bR}(hd:VR ρ d d')(hs:VR ρ s s')(hh:aJ ρ h.heap.get w)(hr:br P h .copy ats [d,s]=some r):
 ∃v h',r= .val v h'/\aD P ρ h w (Builtin.copy_ ⟨ats⟩ ty #[d',s']) v h':=by
 simp only[br] at hr
 split at hr
 ·rename_i t _
  split at hr
  ·rename_i e hu
   split at hr
   ·rename_i i base dl dc sl hi hsl
    have hlen:=uC (P:=P) (w:=w) hs hsl
    split at hr
    ·rename_i cs hcs
     obtain⟨cs',hrun,hR⟩:=pW (P:=P) hh hs hcs
     have hrun:=hrun w rfl
     split at hr
     ·cases hr
      cases hd with
      |sc _ _=>exact⟨_,_,rfl,aD.pure hh (v':=goInt (Nat.min sl dl)) (by simp[Builtin.copy_,ab hu,hlen,aO hi,hrun]) (.sc _ rfl)⟩
     ·cases hr
      cases hR
      cases hd with
      |sc _ hs=>exact⟨_,_,rfl,aD.pure hh (v':=goInt (Nat.min sl dl)) (by simp[Builtin.copy_,ab hu,hlen,aO hi,hrun,storeCells]) (.sc _ rfl)⟩
      |es _ _ hs=>exact⟨_,_,rfl,aD.pure hh (v':=goInt (Nat.min sl 0)) (by have hz:Nat.min sl 0=0:=Nat.min_zero sl;rw[hz] at hrun ⊢;simp[Builtin.copy_,ab hu,hlen,aO hi,hrun,storeCells]) (.sc _ rfl)⟩
      |sl b o _ _ L hL=>exact⟨_,_,rfl,aD.pure hh (v':=goInt (Nat.min sl dl)) (by simp[Builtin.copy_,ab hu,hlen,aO hi,hrun,storeCells]) (.sc _ rfl)⟩
     ·rename_i a _ _
      split at hr
      ·rename_i h1 hsp hw
       cases hr
       obtain⟨L,w',hL,hst,hh',hstep⟩:=iE (P:=P) hh hw hR
       cases hd with
       |sc _ hs=>exact((dE hs).1 (by assumption)).elim
       |es _ _ hs=>exact(hs (by assumption)).elim
       |sl b o _ _ L' hL'=>
        rw[hL] at hL';cases hL'
        exact⟨_,_,rfl,ρ,goInt (Nat.min sl dl),w',by simp[Builtin.copy_,ab hu,hlen,aO hi,hrun,hst], .sc _ rfl,hh',hstep _ _⟩
      ·cases hr
    ·cases hr
   ·cases hr
  ·cases hr
 ·cases hr
theorem IE{ats:List TypeId}{x x':Value}{ty:TypeId}{r:bR}(hx:VR ρ x x')(hh:aJ ρ h.heap.get w)(hr:br P h .len ats [x]=some r):
 ∃v h',r= .val v h'/\aD P ρ h w (Builtin.len_ ⟨ats⟩ ty #[x']) v h':=by
 simp only[br] at hr
 split at hr
 ·rename_i t _
  split at hr
  ·rename_i s hu
   cases hr
   cases hx
   exact⟨_,_,rfl,aD.pure hh (v':=goInt s.size) (by simp[Builtin.len_,ab hu]) (.sc _ rfl)⟩
  ·rename_i n e hu
   cases hr
   exact⟨_,_,rfl,aD.pure hh (v':=goInt n) (by simp[Builtin.len_,ab hu]) (.sc _ rfl)⟩
  ·rename_i e a n c hu
   cases hr
   refine⟨_,_,rfl,aD.pure hh (v':=goInt n) ?_ (.sc _ rfl)⟩
   cases hx<;>simp[Builtin.len_,ab hu]
  ·rename_i k e hu
   cases hr
   cases hx
   exact⟨_,_,rfl,aD.pure hh (v':=goInt 0) (by simp[Builtin.len_,ab hu]) (.sc _ rfl)⟩
  ·rename_i k e b hu
   split at hr
   ·rename_i es ck hb
    cases hr
    cases hx with
    |sc _ hs=>simp[simple] at hs
    |map _ L hL=>
     obtain⟨L0,x,hL0,hx0,hR⟩:=hh.obj _ _ hb
     rw[hL] at hL0;cases hL0
     cases x<;>simp only[OR] at hR<;>first|exact hR.elim|skip
     rename_i es' ck'
     have hlen:es'.size=es.length:=by
      rw[←Array.length_toList]
      have: ∀{l l':List MapEntry},ij ρ l l'->l'.length=l.length:=by
       intro l l' h
       induction h with
       |nil=>rfl
       |cons _ _ _ _ _ _ ih=>simp[ih]
      exact this hR.1
     refine⟨_,_,rfl,aD.pure hh (v':=goInt es.length) ?_ (.sc _ rfl)⟩
     simp[Builtin.len_,ab hu,getObj,Sem.run,hx0,hlen]
   ·cases hr
  ·cases hr
 ·cases hr
theorem Jt{ats:List TypeId}{x x':Value}{ty:TypeId}{r:bR}(hx:VR ρ x x')(hh:aJ ρ h.heap.get w)(hr:br P h .cap ats [x]=some r):
 ∃v h',r= .val v h'/\aD P ρ h w (Builtin.cap_ ⟨ats⟩ ty #[x']) v h':=by
 simp only[br] at hr
 split at hr
 ·rename_i t _
  split at hr
  ·rename_i e n c hu
   cases hr
   cases hx
   exact⟨_,_,rfl,aD.pure hh (v':=goInt c) (by simp[Builtin.cap_,ab hu]) (.sc _ rfl)⟩
  ·rename_i e a n c hu
   split at hr
   ·rename_i k hk
    split at hr
    ·rename_i hex
     cases hr
     cases hx with
     |sc _ hs=>exact⟨_,_,rfl,aD.pure hh (v':=goInt c) (by simp[Builtin.cap_,ab hu]) (.sc _ rfl)⟩
     |es _ _ hs=>exact⟨_,_,rfl,aD.pure hh (v':=goInt 0) (by simp[Builtin.cap_,ab hu]) (.sc _ rfl)⟩
     |sl b o _ _ L hL=>
      obtain⟨L0,x,hL0,hx0,hR⟩:=hh.obj _ _ hk
      rw[hL] at hL0;cases hL0
      obtain⟨c',fr,rfl,hR⟩:=dF hR
      have hψ:=hR.exact hex
      exact⟨_,_,rfl,aD.pure hh (v':=goInt c) (by simp[Builtin.cap_,ab hu,hψ]) (.sc _ rfl)⟩
    ·cases hr
   ·cases hr
  ·cases hr
 ·cases hr
theorem xP(z:Value)(n:Nat):(Builtin.zeroCells z.cells n).toList=rep n (aV z):=by
 rw[←fL]
 rcases Nat.eq_zero_or_pos z.cells.size with h|h
 ·have h1:z.cells.toList=[]:=by rw[←List.length_eq_zero_iff,Array.length_toList];exact h
  have h2: ∀k,rep k ([]:List Value)=[]:=fun k=>by
   induction k with
   |zero=>rfl
   |succ k ih=>simp[rep,ih]
  simp[Builtin.zeroCells,h,h1,h2]
 ·have:=s9 n z z.cells.size rfl (.inl (by omega))
  simp only[Builtin.zeroCells,this]
theorem EU{z:Value}(hz:au z=true)(n:Nat):cT ρ (rep n (aV z)) (rep n (aV z)):=by
 induction n with
 |zero=>exact .nil
 |succ k ih=>
  refine cT.append ?_ ih
  have:=(VR.aZ hz (ρ:=ρ)).cells
  rw[fL] at this
  exact this
theorem uU{ats:List TypeId}{x x':Value}{ty:TypeId}{r:bR}(hx:VR ρ x x')(hh:aJ ρ h.heap.get w)(hr:br P h .clear ats [x]=some r):
 ∃v h',r= .val v h'/\aD P ρ h w (Builtin.clear_ ⟨ats⟩ ty #[x']) v h':=by
 simp only[br] at hr
 split at hr
 ·rename_i t _
  split at hr
  ·rename_i e a n c hu
   split at hr
   ·rename_i i hi hsp
    split at hr
    ·rename_i z hz hz'
     split at hr
     ·cases hr
      cases hx with
      |sc _ hs=>exact((dE hs).1 (by assumption)).elim
      |es _ _ hs=>exact(hs (by assumption)).elim
      |sl b o _ _ L hL=>
       exact⟨_,_,rfl,aD.pure hh (v':= .tuple #[]) (by simp[Builtin.clear_,ab hu]) (.tuple [] [] .nil)⟩
     ·rename_i n' hn'
      split at hr
      ·rename_i h1 hw
       cases hr
       obtain⟨L,w',hL,hst,hh',hstep⟩:=iE (P:=P) hh hw (EU (by simpa[hz] using hz') n)
       cases hx with
       |sc _ hs=>exact((dE hs).1 (by assumption)).elim
       |es _ _ hs=>exact(hs (by assumption)).elim
       |sl b o _ _ L' hL'=>
        rw[hL] at hL';cases hL'
        refine⟨_,_,rfl,ρ, .tuple #[],w',?_, .tuple [] [] .nil,hh',hstep _ _⟩
        cases n with
        |zero=>exact(hn' rfl).elim
        |succ n=>simp[Builtin.clear_,ab hu,cZ hi hz,xP,hst]
      ·cases hr
    ·cases hr
   ·cases hr
  ·cases hr
 ·cases hr
theorem wG{b:Builtin}{l l':List Value}{ats:Array TypeId}{ty:TypeId}{r:bR}(hl:cT ρ l l')(hh:aJ ρ h.heap.get w)(hb:(b= .min/\br P h .min ats.toList l=some r)\/(b= .max/\br P h .max ats.toList l=some r)):
 ∃v h',r= .val v h'/\aD P ρ h w (if b matches .min then Builtin.min_ ats ty ⟨l'⟩ else Builtin.max_ ats ty ⟨l'⟩) v h':=by
 rcases hb with ⟨rfl,hr⟩|⟨rfl,hr⟩
 ·simp only[br] at hr
  split at hr
  ·rename_i hp
   have:=hl.plain hp;subst this
   split at hr
   ·rename_i v hv
    cases hr
    obtain⟨h1,h2⟩:=gG hv
    exact⟨v,h,rfl,aD.pure hh (h1 w) (VR.aZ h2)⟩
   ·cases hr
  ·cases hr
 ·simp only[br] at hr
  split at hr
  ·rename_i hp
   have:=hl.plain hp;subst this
   split at hr
   ·rename_i v hv
    cases hr
    obtain⟨h1,h2⟩:=gG hv
    exact⟨v,h,rfl,aD.pure hh (h1 w) (VR.aZ h2)⟩
   ·cases hr
  ·cases hr
theorem GY{ats:List TypeId}{x x':Value}{ty:TypeId}{r:bR}(hx:VR ρ x x')(hh:aJ ρ h.heap.get w)(hr:br P h .unsafeSliceData ats [x]=some r):
 ∃v h',r= .val v h'/\aD P ρ h w (Builtin.unsafeSliceData_ ⟨ats⟩ ty #[x']) v h':=by
 simp only[br] at hr
 split at hr
 ·cases hr
  cases hx
  exact⟨_,_,rfl,aD.pure hh (v':= .pointer none) rfl (.sc _ rfl)⟩
 ·rename_i a n c
  cases hr
  cases hx with
  |sc _ hs=>simp[simple] at hs
  |sl b o _ _ L hL=>
   refine⟨_,_,rfl,aD.pure hh (v':= .pointer (some ⟨L.φ,L.δ+o,none⟩)) ?_ (.ptr b o L hL)⟩
   have:c+1+L.ψ≠0:=by omega
   change Sem.run P (if c+1+L.ψ≠0 then pure (Value.pointer (some ⟨L.φ,L.δ+o,none⟩)) else _) w=_
   rw[if_pos this]
   rfl
 ·cases hr
theorem ph: ∀{cs:List Value} {bs:List UInt8},cJ cs=some bs-> ∃ns:List Nat,cs=ns.map (fun(n:Nat)=>Value.int .u8 (n:Int))/\bs=ns.map UInt8.ofNat
 |[],bs,hb=>by simp only[cJ,Option.some.injEq] at hb;subst hb;exact⟨[],rfl,rfl⟩
 | .int .u8 (.ofNat n)::l,bs,hb=>by
   simp only[cJ] at hb
   split at hb
   ·rename_i r hr
    cases hb
    obtain⟨ns,h1,h2⟩:=ph hr
    exact⟨n::ns,by simp[h1],by simp[h2]⟩
   ·cases hb
 | .int .u8 (.negSucc n)::l,bs,hb=>by simp[cJ] at hb
 | .int .i8 _::l,bs,hb=>by simp[cJ] at hb
 | .int .i16 _::l,bs,hb=>by simp[cJ] at hb
 | .int .i32 _::l,bs,hb=>by simp[cJ] at hb
 | .int .i64 _::l,bs,hb=>by simp[cJ] at hb
 | .int .u16 _::l,bs,hb=>by simp[cJ] at hb
 | .int .u32 _::l,bs,hb=>by simp[cJ] at hb
 | .int .u64 _::l,bs,hb=>by simp[cJ] at hb
 | .bool _::l,bs,hb=>by simp[cJ] at hb
 | .float _ _::l,bs,hb=>by simp[cJ] at hb
 | .complex _ _ _::l,bs,hb=>by simp[cJ] at hb
 | .string _::l,bs,hb=>by simp[cJ] at hb
 | .pointer _::l,bs,hb=>by simp[cJ] at hb
 | .slice _ _ _::l,bs,hb=>by simp[cJ] at hb
 | .map _::l,bs,hb=>by simp[cJ] at hb
 | .chan _::l,bs,hb=>by simp[cJ] at hb
 | .func _ _ _::l,bs,hb=>by simp[cJ] at hb
 | .nilFunc::l,bs,hb=>by simp[cJ] at hb
 | .iface _ _::l,bs,hb=>by simp[cJ] at hb
 | .nilIface::l,bs,hb=>by simp[cJ] at hb
 | .agg _::l,bs,hb=>by simp[cJ] at hb
 | .tuple _::l,bs,hb=>by simp[cJ] at hb
theorem CN(ns:List Nat):bE (ns.map fun(n:Nat)=>Value.int .u8 (n:Int))=true:=by
 induction ns with
 |nil=>rfl
 |cons n ns ih=>simpa[bE,au] using ih
theorem El{L:Loc}{k:ba}{c:Array Value}{e:TypeId}{fr:Nat × Nat}{n off:Nat}{cs:List Value}{bs:List UInt8}(hR:yY ρ L k c e fr)(hx:w.heap[L.φ]? =some (.cells c e fr))(ht:takeN n (gI off k.cells)=some cs)(hb:cJ cs=some bs):
 ∃ns:List Nat,ns.length=n/\bs=ns.map UInt8.ofNat/\ ∀j (v:Value),(ns.map fun(n:Nat)=>Value.int .u8 (n:Int))[j]? =some v->w.cell? ⟨L.φ,L.δ+off+j,none⟩=some v:=by
 obtain⟨cs',h1,h2,h3⟩:=hR.bh hx ht
 obtain⟨ns,rfl,rfl⟩:=ph hb
 have:=h2.plain (CN ns)
 subst this
 exact⟨ns,by simpa using h1,rfl,h3⟩
theorem oh(b:Nat): ∀(ns:List Nat)(o:Nat)(acc:ByteArray),(∀j (v:Value),(ns.map fun(n:Nat)=>Value.int .u8 (n:Int))[j]? =some v->w.cell? ⟨b,o+j,none⟩=some v)->
 (loadBytes ⟨b,o,none⟩ acc ns.length).run P w= .ok ⟨acc.data++(ns.map UInt8.ofNat).toArray⟩ w
 |[],o,acc,_=>by simp[loadBytes]
 |n::ns,o,acc,hc=>by
  have h0:w.cell? ⟨b,o,none⟩=some (.int .u8 (n:Int)):=hc 0 _ rfl
  have ih:=oh b ns (o+1) (acc.push (n:Int).toNat.toUInt8) (fun j v hj=>by
   have:=hc (j+1) v (by simpa using hj)
   rwa [show o+(j+1)=o+1+j by omega] at this)
  simp only[List.length_cons,loadBytes,Sem.run_bind,run_load,h0,Result.andThen_ok,dx,ih]
  simp[ByteArray.push]
theorem EO{f:TypeId->Bool}{d e count off n:Nat}(hc:P.cellsOf e=1)(hf:f e=true)(hle:off+n<=count):rowAt P f (d+1) e count off n=true:=by
 unfold rowAt
 rw[hc]
 simp[hf,hle,Nat.mod_one]
theorem CG{e u:TypeId}{count off n:Nat}(hc:P.cellsOf e=1)(he:e=u)(hle:off+n<=count):liesAt P P.depth e count off u n=true:=by
 subst he
 obtain⟨d,hd⟩: ∃d,P.depth=d+1:=⟨P.depth - 1,by unfold Program.depth;omega⟩
 have hs:sameLayout P P.depth e e=true:=by rw[hd];unfold sameLayout;simp
 have h1:rowAt P (sameLayout P P.depth · e) P.depth e count off n=true:=by
  have:=EO (P:=P) (f:=(sameLayout P P.depth · e)) (d:=d) hc hs hle
  rw[←hd] at this
  exact this
 have hl: ∀k,liesAt P (k+1) e count off e n=(rowAt P (sameLayout P P.depth · e) P.depth e count off n||match P.underlying e with
  |some (.array m u')=>liesAt P k e count off u' (n*m)
  |_=>false):=fun k=>rfl
 have h2:=hl d
 rw[h1,Bool.true_or] at h2
 rw[←hd] at h2
 exact h2
theorem kY.freeze{b n o:Nat}{c:Array Value}{e:TypeId}{fr:Nat × Nat}(hn:n≠0)(h:w.heap[b]? =some (.cells c e fr)): ∃fr',kY w (w.freeze ⟨b,o,none⟩ n) b (.cells c e fr'):=by
 obtain⟨lo,hi⟩:=fr
 refine⟨if lo==hi then (o,o+n) else (min lo o,max hi (o+n)),?_⟩
 have he:w.freeze ⟨b,o,none⟩ n={w with heap:=w.heap.modify b fun
  | .cells c elem (lo,hi)=> .cells c elem (if lo==hi then (o,o+n) else (min lo o,max hi (o+n)))
  |o=>o}:=by
  unfold World.freeze
  rw[if_neg hn]
  rfl
 rw[he]
 refine⟨rfl,rfl,rfl,by simp,fun k hk=>?_,?_⟩
 ·simp only[Array.getElem?_modify]
  rw[if_neg (by omega)]
 ·simp[Array.getElem?_modify,h]
theorem xv(l:List UInt8):ByteArray.empty.data++l.toArray=⟨l⟩:=by apply Array.ext';simp
theorem OZ(t:TypeId)(rest:List TypeId)(ty:TypeId)(a:Addr)(k:IntKind)(m:Int):Builtin.unsafeString_ ⟨t::rest⟩ ty #[.pointer (some a), .int k m]=
 (do
   let n←asInt (.int k m)
   if n<0 then runtimePanic (.error "unsafe.String: len out of range")
   if n>IntKind.i64.max then unsupported (.unsafePointer "String: a length above the largest int")
   if n=0 then pure (.string .empty)
   else if←variablesAt a (←elemOf t) n.toNat then do
    let s←loadBytes a .empty n.toNat
    freeze a n.toNat
    pure (.string s)
   else unsupported (.unsafePointer "String: not so many bytes at ptr")):=rfl
theorem NK{ats:List TypeId}{p p' m m':Value}{ty:TypeId}{r:bR}(hp:VR ρ p p')(hm:VR ρ m m')(hh:aJ ρ h.heap.get w)(hr:br P h .unsafeString ats [p,m]=some r):
 ∃v h',r= .val v h'/\aD P ρ h w (Builtin.unsafeString_ ⟨ats⟩ ty #[p',m']) v h':=by
 simp only[br] at hr
 split at hr
 ·rename_i t rest
  split at hr
  ·rename_i k
   cases hr
   cases hp
   cases hm
   exact⟨_,_,rfl,aD.pure hh (v':= .string .empty) rfl (.sc _ rfl)⟩
  ·rename_i a k n
   split at hr
   ·rename_i n kb et hsp hk hu
    split at hr
    ·rename_i cs i hcs he hkel hi
     split at hr
     ·rename_i bs hbs hsz hle hown
      cases hr
      cases hm
      cases hp with
      |sc _ hs=>simp[simple] at hs
      |ptr b o L hL=>
       obtain⟨L0,x,hL0,hx0,hR⟩:=hh.obj _ _ hk
       rw[hL] at hL0;cases hL0
       obtain⟨c,fr,rfl,hR⟩:=dF hR
       obtain⟨ns,h1,rfl,h3⟩:=El hR hx0 hcs hbs
       have hkel':kb.elem=et:=Nat.eq_of_beq_eq_true hkel
       have hsz':=Nat.eq_of_beq_eq_true hsz
       have hle':n+1<=1099511627776:=Nat.le_of_ble_eq_true hle
       have hlast:L.δ+o+(n+1)<=c.size:=by
        have hn:(ns.map fun(n:Nat)=>Value.int .u8 (n:Int))[n]? ≠none:=by simp;omega
        obtain⟨v,hv⟩:=Option.ne_none_iff_exists'.1 hn
        have:=h3 n v hv
        simp[World.cell?,hx0] at this
        have:=(Array.getElem?_eq_some_iff.1 this).1
        omega
       have hcells:P.cellsOf et=1:=by unfold Program.cellsOf;rw[hi];exact hsz'
       have hvars:(variablesAt ⟨L.φ,L.δ+o,none⟩ et (n+1)).run P w= .ok true w:=by
        have hsh:w.shape? L.φ=some (kb.elem,c.size):=by simp[World.shape?,hx0]
        simp only[variablesAt,Sem.run_bind,run_program,Result.andThen_ok,run_shape,hsh,Sem.run_pure]
        rw[hkel',hcells,Nat.div_one,CG hcells rfl hlast]
       have hload:=oh (P:=P) (w:=w) L.φ ns (L.δ+o) .empty h3
       rw[h1] at hload
       obtain⟨fr',hu'⟩:=kY.freeze (o:=L.δ+o) (show n+1≠0 by omega) hx0
       have hOR:OR ρ L (.aw {kb with bQ:=2}) (.cells c kb.elem fr'):=
        ⟨rfl,hR.len,hR.room,hR.cell,hR.exact,hR.whole,(fun h=>by cases h),(fun h=>by cases h)⟩
       refine⟨_,_,rfl,ρ, .string ⟨⟨ns.map UInt8.ofNat⟩⟩,w.freeze ⟨L.φ,L.δ+o,none⟩ (n+1),?_, .sc _ rfl,hh.n9 hk hown hL hu' hOR (fun j=>T.aP _ _ _ _),Step.n9 hk hown hL hu' (fun j=>T.aP _ _ _ _) _ _⟩
       have helem:(elemOf t).run P w= .ok et w:=by simp[elemOf,ab hu]
       have hmax: ¬((n+1:Nat):Int)>IntKind.i64.max:=by
        have:IntKind.i64.max=9223372036854775807:=by decide
        rw[this];omega
       have hneg: ¬((n+1:Nat):Int)<0:=by omega
       rw[show(Int.ofNat (n+1))=((n+1:Nat):Int) from rfl,OZ]
       have hasint:(asInt (.int k ((n+1:Nat):Int))).run P w= .ok ((n+1:Nat):Int) w:=rfl
       have hz: ¬((n+1:Nat):Int)=0:=by omega
       simp only[Sem.run_bind,hasint,Result.andThen_ok,if_neg hneg,if_neg hmax,if_neg hz,Int.toNat_natCast,helem,hvars,if_true,hload,run_freeze,Sem.run_pure,xv]
     ·cases hr
    ·cases hr
   ·cases hr
  ·cases hr
 ·cases hr
end
section
variable{P:Program}{ρ:Ren}{w:World}{h:Hs}
theorem aD.same{s:Sem Value}{v:Value}(hh:aJ ρ h.heap.get w)(hs:s.run P w= .ok v w)(hv:simple v=true):aD P ρ h w s v h:=aD.pure hh hs (.sc _ hv)
theorem tD{a:Addr}{c:Array Value}{e:TypeId}{fr:Nat × Nat}(hx:w.heap[a.block]? =some (.cells c e fr)):(Conv.seenAt a).run P w= .ok a w:=by
 have:w.shape? a.block=some (e,c.size):=by simp[World.shape?,hx]
 simp[Conv.seenAt,viewAt,this]
theorem Bm{b:Nat}{c:Array Value}{e:TypeId}{fr:Nat × Nat}(hx:w.heap[b]? =some (.cells c e fr)):(cellsIn b).run P w= .ok (some c.size) w:=by
 have:w.shape? b=some (e,c.size):=by simp[World.shape?,hx]
 simp[cellsIn,this]
theorem CZ{s d:TypeId}{x x':Value}{r:bR}(hx:VR ρ x x')(hh:aJ ρ h.heap.get w)(hf:bA ρ h.next (r.next h))(hr:nh P h s d x=some r):
 ∃v h',r= .val v h'/\aD P ρ h w (convert s d x') v h':=by
 unfold nh at hr
 split at hr
 ·rename_i sd dd hs hd
  split at hr
  ·cases hr
   cases hx
   exact⟨_,_,rfl,aD.same hh (by cases sd<;>simp[convert,ab hs,ab hd,Conv.intToInt]) rfl⟩
  ·cases hr
   cases hx
   exact⟨_,_,rfl,aD.same hh (by cases sd<;>simp[convert,ab hs,ab hd,Conv.intToString]) rfl⟩
  ·cases hr
   cases hx
   exact⟨_,_,rfl,aD.same hh (by cases sd<;>simp[convert,ab hs,ab hd]) rfl⟩
  ·rename_i e t
   split at hr
   ·rename_i he
    cases hr
    cases hx
    have hn:ρ h.next=none:=hf _ (Nat.le_refl _) (Nat.lt_succ_self _)
    obtain⟨ψ,hψ⟩: ∃ψ,grownCap w t.size 0 e=t.size+ψ:=⟨_,rfl⟩
    have hrun:(convert s d (.string t)).run P w= .ok (.slice (some ⟨w.heap.size,0,none⟩) t.size (grownCap w t.size 0 e))
     (w.drew.alloc (.cells (bytesRow t (grownCap w t.size 0 e)) e ((bytesRow t (grownCap w t.size 0 e)).size,(bytesRow t (grownCap w t.size 0 e)).size+1))):=
     run_bytes_of_string w s d e t hs hd he
    have hsz:t.data.size=t.size:=rfl
    have hbs:(bytesRow t (t.size+ψ)).size=t.size+ψ:=by simp[bytesRow,hsz]
    obtain⟨e1,e2⟩:=aJ.new (w:=w.drew) (H':=(bV h (.aw {cells:=lR t.data.toList,cap:=t.size,jU:=1,elem:=e,exact:=false,whole:=false,bQ:=1,own:=true})).heap.get)
     (x:= .cells (bytesRow t (t.size+ψ)) e (t.size+ψ,t.size+ψ+1)) (δ:=0) (ψ:=ψ) (hh.heap (w1:=w.drew) rfl) hn
     (sU (uZ _) (by simp[kW,hsz]) (fun _=>by simp[hbs]) (fun j hj=>by
       rw[kW] at hj
       simp at hj
       simp only[Nat.zero_add]
       rw[bytesRow,Array.getElem?_append_left (by simpa using hj),kW]
       simp) (fun h=>by cases h) (fun h=>by cases h) (fun h=>by cases h) (fun _=> .inr (by simp[hbs])))
     (fun j=>T.aP _ _ _ _)
    rw[hψ,hbs] at hrun
    refine⟨_,_,rfl,_,_,_,hrun,?_,?_,e2.jr (w:=w) rfl rfl rfl rfl⟩
    ·have:=VR.rI ρ h.next ⟨w.heap.size,0,ψ⟩ t.size t.size rfl
     simpa using this
    ·simpa using e1
   ·cases hr
  ·rename_i e
   split at hr
   ·rename_i he
    split at hr
    ·cases hr
     cases hx
     refine⟨_,_,rfl,aD.pure hh (v':= .string .empty) ?_ (.sc _ rfl)⟩
     simp[convert,ab hs,ab hd,ab he,Conv.bytesToString]
    ·rename_i a n c _
     split at hr
     ·rename_i k hsp hk
      split at hr
      ·rename_i cs hcs
       split at hr
       ·rename_i bs hbs
        cases hr
        cases hx with
        |sc _ hs=>exact((dE hs).1 (by assumption)).elim
        |es _ _ hs=>exact(hs (by assumption)).elim
        |sl b o _ _ L hL=>
         obtain⟨L0,x,hL0,hx0,hR⟩:=hh.obj _ _ hk
         rw[hL] at hL0;cases hL0
         obtain⟨c',fr,rfl,hR⟩:=dF hR
         obtain⟨ns,h1,rfl,h3⟩:=El hR hx0 hcs hbs
         refine⟨_,_,rfl,aD.pure hh (v':= .string ⟨⟨ns.map UInt8.ofNat⟩⟩) ?_ (.sc _ rfl)⟩
         have hl:=run_loadCells_list (P:=P) w ⟨L.φ,L.δ+o,none⟩ (ns.map fun(n:Nat)=>Value.int .u8 (n:Int)) (fun j v hj=>by rw[dx];exact h3 j v hj)
         rw[List.length_map,h1] at hl
         have hb:=run_bytesToString (P:=P) w ⟨L.φ,L.δ+o,none⟩ n (c+L.ψ) (ns.map fun(n:Nat)=>(n:Int)) (by rw[hl];simp)
         have hfold: ∀(ns:List Nat)(s:ByteArray),(ns.map fun(n:Nat)=>(n:Int)).foldl (fun r n=>r.push (UInt8.ofNat n.toNat)) s=⟨s.data++(ns.map UInt8.ofNat).toArray⟩:=by
          intro ns
          induction ns with
          |nil=>intro s;simp
          |cons n ns ih=>intro s;simp only[List.map_cons,List.foldl_cons];rw[ih];simp[ByteArray.push]
         rw[hfold,xv] at hb
         simp only[convert,Sem.run_bind,ab hs,ab hd,ab he,Result.andThen_ok,hb]
       ·cases hr
      ·cases hr
     ·cases hr
    ·cases hr
   ·cases hr
  ·cases hr
   cases hx
   exact⟨_,_,rfl,aD.same hh (by simp[convert,ab hs,ab hd,Conv.unsafePointer]) rfl⟩
  ·rename_i t a
   split at hr
   ·rename_i k i hsp hk hi
    split at hr
    ·rename_i m hm hle hown
     cases hr
     cases hx with
     |sc _ hs=>simp[simple] at hs
     |ptr b o L hL=>
      obtain⟨L0,x,hL0,hx0,hR⟩:=hh.obj _ _ hk
      rw[hL] at hL0;cases hL0
      obtain⟨c,fr,rfl,hR⟩:=dF hR
      have hroom:=hR.room hown
      have hlt:o<k.cap:=by
       rcases Nat.lt_or_ge o k.cap with h'|h'
       ·exact h'
       ·rw[Nat.ble_eq_true_of_le h'] at hle;cases hle
      refine⟨_,_,rfl,aD.pure hh (v':= .pointer (some ⟨L.φ,L.δ+o,none⟩)) ?_ (.ptr b o L hL)⟩
      have h1:=tD (P:=P) (a:=⟨L.φ,L.δ+o,none⟩) hx0
      have h2:=Bm (P:=P) hx0
      have h3: ¬(c.size<=L.δ+o):=by omega
      simp[convert,ab hs,ab hd,Conv.unsafePointer,h1,h2,aO hi,hm,h3]
    ·cases hr
   ·cases hr
  ·cases hr
   cases hx
   exact⟨_,_,rfl,aD.same hh (by simp[convert,ab hs,ab hd,Conv.unsafePointer]) rfl⟩
  ·rename_i u a
   split at hr
   ·rename_i k i hsp hk hi
    split at hr
    ·rename_i m hm hwh
     split at hr
     ·rename_i hlies
      cases hr
      cases hx with
      |sc _ hs=>simp[simple] at hs
      |ptr b o L hL=>
       obtain⟨L0,x,hL0,hx0,hR⟩:=hh.obj _ _ hk
       rw[hL] at hL0;cases hL0
       obtain⟨c,fr,rfl,hR⟩:=dF hR
       obtain⟨hδ,hcs⟩:=hR.whole hwh
       refine⟨_,_,rfl,aD.pure hh (v':= .pointer (some ⟨L.φ,L.δ+o,none⟩)) ?_ (.ptr b o L hL)⟩
       have h1:=tD (P:=P) (a:=⟨L.φ,L.δ+o,none⟩) hx0
       have h2:(variablesAt ⟨L.φ,L.δ+o,none⟩ u 1).run P w= .ok true w:=by
        have hsh:w.shape? L.φ=some (k.elem,c.size):=by simp[World.shape?,hx0]
        simp only[variablesAt,Sem.run_bind,run_program,Result.andThen_ok,run_shape,hsh,Sem.run_pure,hcs,hδ,Nat.zero_add]
        rw[hlies]
       simp[convert,ab hs,ab hd,Conv.unsafePointer,h1,h2,aO hi,hm]
     ·cases hr
    ·cases hr
   ·cases hr
  ·cases hr
 ·cases hr
theorem sQ{fn:Func}{e:Array Value->Sem Value}{n:String}(ho:fn.origin= "")(hn:fn.name=n)(h1:Extern.allNextRows.lookup n=none)(h2:Extern.allGenericRows.lookup n=none)
 (h3:(Extern.allTypedRows.lookup n).map (· fn.params fn.resultTypes)=none/\Extern.allRows.lookup n=some e\/(Extern.allTypedRows.lookup n).map (· fn.params fn.resultTypes)=some e):Extern.findNext fn=none/\Extern.find fn=some e:=by
 constructor
 ·unfold Extern.findNext
  simp only[hn,ho,h1,SO]
  rfl
 ·unfold Extern.find
  simp only[hn,h2]
  rcases h3 with ⟨h3,h4⟩|h3
  ·rw[h3,h4];rfl
  ·rw[h3];rfl
theorem qF{f:FuncId}{fn:Func}{e:Array Value->Sem Value}(hf:P.funcs[f]? =some fn)(hb:fn.body=none)(hname:fn.name≠ "runtime.NumGoroutine")(h1:Extern.findNext fn=none)(h2:Extern.find fn=some e)(args:Array Value):
 (callFunc f args).run P w=((e args).run P w).andThen fun v w'=> .ok (.value v) w':=by
 simp[callFunc,hf,hname,hb,h1,h2,mark,Sem.run]
theorem dP.ext{f:FuncId}{fn:Func}{e:Array Value->Sem Value}{args:Array Value}{v:Value}{h':Hs}(hf:P.funcs[f]? =some fn)(hb:fn.body=none)(hname:fn.name≠ "runtime.NumGoroutine")(h1:Extern.findNext fn=none)(h2:Extern.find fn=some e)
 (hv:aD P ρ h w (e args) v h'):dP P ρ h w (callFunc f args) (.val v h'):=by
 obtain⟨ρ',v',w',a,b,c,d⟩:=hv
 exact⟨ρ',v',w',by rw[qF hf hb hname h1 h2,a];rfl,b,c,d⟩
theorem rU: ∀(n t:Nat)(acc:Array Value),(Extern.BytealgMakeNoZero.digits n t acc).size=acc.size+n
 |0,_,acc=>rfl
 |n+1,t,acc=>by simp[Extern.BytealgMakeNoZero.digits,rU n];omega
theorem LI(ps rs:Array TypeId)(n:Nat):Extern.BytealgMakeNoZero.makeNoZero ps rs #[.int .i64 (Int.ofNat n)]=(do
 let some t:=rs[0]? |stuck "bytealg.MakeNoZero: no result type"
 let .slice elem←underlying t|stuck "bytealg.MakeNoZero: slice type expected"
 if (n:Int)<0||(n:Int)>2 ^ 48 then runtimePanic (.error "makeslice: len out of range")
 let cap←choose (.appendCap (n:Int).toNat 0 elem)
 askRoom cap
 let bytes←choose (.extern "internal/bytealg.MakeNoZero.bytes" 0)
 let a←newRow elem (Extern.BytealgMakeNoZero.digits cap bytes #[])
 pure (.slice (some a) (n:Int).toNat cap)):=rfl
theorem FG{f:FuncId}{fn:Func}{args args':List Value}{r:bR}(hf':P.funcs[f]? =some fn)(hb:fn.body=none)(ha:cT ρ args args')(hh:aJ ρ h.heap.get w)(hf:bA ρ h.next (r.next h))(hr:qn P h fn args=some r):
 dP P ρ h w (callFunc f ⟨args'⟩) r:=by
 unfold qn at hr
 split at hr
 ·rename_i x hno
  cases hr
  obtain⟨ho,hn⟩:fn.origin= "" /\fn.name= "internal/abi.NoEscape" :=by
   unfold mW at hno
   repeat' (split at hno)
   all_goals first|exact⟨by assumption,by assumption⟩|(exact absurd hno (by decide))
  obtain⟨h1,h2⟩:=sQ ho hn uk Xq (.inl ⟨by rw[Wd];rfl,Wt⟩)
  cases ha with
  |cons _ x' _ _ hx hr=>
   cases hr
   exact dP.ext hf' hb (by rw[hn];decide) h1 h2 (aD.pure hh (v':=x') rfl hx)
 ·rename_i n hno
  obtain⟨ho,hn⟩:fn.origin= "" /\fn.name= "internal/bytealg.MakeNoZero" :=by
   unfold mW at hno
   repeat' (split at hno)
   all_goals first|exact⟨by assumption,by assumption⟩|(exact absurd hno (by decide))
  obtain⟨h1,h2⟩:=sQ ho hn HY Xp (.inr (by rw[Wc];rfl))
  split at hr
  ·rename_i t rest hres
   split at hr
   ·rename_i e hu hle
    cases hr
    cases ha with
    |cons _ x' _ _ hx hr=>
     cases hr
     cases hx
     have hn':ρ h.next=none:=hf _ (Nat.le_refl _) (Nat.lt_succ_self _)
     have hle':n<=1099511627776:=Nat.le_of_ble_eq_true hle
     refine dP.ext hf' hb (by rw[hn];decide) h1 h2 ?_
     have ht:fn.resultTypes[0]? =some t:=by rw[←Array.getElem?_toList,hres];rfl
     obtain⟨ψ,bytes,hrun⟩: ∃ψ bytes,(Extern.BytealgMakeNoZero.makeNoZero fn.params fn.resultTypes #[.int .i64 (Int.ofNat n)]).run P w=
      .ok (.slice (some ⟨w.heap.size,0,none⟩) n (n+ψ)) (w.drew.drew.alloc (.cells (Extern.BytealgMakeNoZero.digits (n+ψ) bytes #[]) e)):=by
      refine⟨w.tape w.drawn (.appendCap n 0 e) % (2 ^ 63 - n),(Question.extern "internal/bytealg.MakeNoZero.bytes" 0).cut (w.drew.tape w.drew.drawn (.extern "internal/bytealg.MakeNoZero.bytes" 0)),?_⟩
      rw[LI]
      have c1: ¬((n:Int)<0):=by omega
      have c2: ¬((n:Int)>2 ^ 48):=by omega
      have c3:(decide ((n:Int)<0)||decide ((n:Int)>2 ^ 48))=false:=by rw[decide_eq_false c1,decide_eq_false c2];rfl
      have hcut:(Question.appendCap n 0 e).cut (w.tape w.drawn (.appendCap n 0 e))=n+w.tape w.drawn (.appendCap n 0 e) % (2 ^ 63 - n):=rfl
      simp only[ht,Sem.run_bind,ab hu,Result.andThen_ok,c3,Bool.false_eq_true,if_false,run_choose,Question.forced,Int.toNat_natCast,World.drew_eq,hcut,run_askRoom,gv,Sem.run_pure]
      rfl
     obtain⟨e1,e2⟩:=aJ.new (w:=w.drew.drew) (H':=(bV h (.aw {cells:=[],cap:=n,jU:=1,elem:=e,exact:=false,whole:=false,bQ:=0,own:=true})).heap.get)
      (x:= .cells (Extern.BytealgMakeNoZero.digits (n+ψ) bytes #[]) e) (δ:=0) (ψ:=ψ) (hh.heap (w1:=w.drew.drew) rfl) hn'
      (sU .nil (by simp) (fun _=>by simp[rU]) (fun j hj=>by simp at hj) (fun h=>by cases h) (fun h=>by cases h) (fun _=>rfl) (fun h=>by cases h)) (fun j=>T.aP _ _ _ _)
     refine⟨_,_,_,hrun,?_,?_,e2.jr (w:=w) rfl rfl rfl rfl⟩
     ·have:=VR.rI ρ h.next ⟨w.heap.size,0,ψ⟩ n n rfl
      simpa using this
     ·simpa using e1
   ·cases hr
  ·cases hr
 ·rename_i x y hno
  obtain⟨ho,hn⟩:fn.origin= "" /\fn.name= "internal/bytealg.IndexByteString" :=by
   unfold mW at hno
   repeat' (split at hno)
   all_goals first|exact⟨by assumption,by assumption⟩|(exact absurd hno (by decide))
  obtain⟨h1,h2⟩:=sQ ho hn SN Xo (.inl ⟨by rw[Wb];rfl,Ws⟩)
  split at hr
  ·rename_i p1 p2
   split at hr
   ·rename_i v hv
    cases hr
    obtain⟨h3,h4⟩:=gG hv
    cases ha with
    |cons _ x' _ _ hx hr=>
     cases hr with
     |cons _ y' _ _ hy hr=>
      cases hr
      have e1:=hx.plain p1
      have e2:=hy.plain p2
      subst e1 e2
      exact dP.ext hf' hb (by rw[hn];decide) h1 h2 (aD.pure hh (h3 w) (VR.aZ h4))
   ·cases hr
  ·cases hr
 ·rename_i x y hno
  obtain⟨ho,hn⟩:fn.origin= "" /\fn.name= "internal/bytealg.CountString" :=by
   unfold mW at hno
   repeat' (split at hno)
   all_goals first|exact⟨by assumption,by assumption⟩|(exact absurd hno (by decide))
  obtain⟨h1,h2⟩:=sQ ho hn SM Xn (.inl ⟨by rw[Wa];rfl,Wr⟩)
  split at hr
  ·rename_i p1 p2
   split at hr
   ·rename_i v hv
    cases hr
    obtain⟨h3,h4⟩:=gG hv
    cases ha with
    |cons _ x' _ _ hx hr=>
     cases hr with
     |cons _ y' _ _ hy hr=>
      cases hr
      have e1:=hx.plain p1
      have e2:=hy.plain p2
      subst e1 e2
      exact dP.ext hf' hb (by rw[hn];decide) h1 h2 (aD.pure hh (h3 w) (VR.aZ h4))
   ·cases hr
  ·cases hr
 ·cases hr
end
section
variable{P:Program}{ρ:Ren}{w:World}{h:Hs}
theorem ij.length: ∀{l l':List MapEntry},ij ρ l l'->l'.length=l.length
 |_,_, .nil=>rfl
 |_,_, .cons _ _ _ _ _ k=>by simp[ij.length k]
theorem ij.get: ∀{l l':List MapEntry},ij ρ l l'-> ∀{i:Nat} {e:MapEntry},l[i]? =some e-> ∃e',l'[i]? =some e'/\ER ρ e e'
 |_,_, .nil,i,e,h=>by simp at h
 |_,_, .cons a a' l l' h k,0,e,he=>by simp at he;subst he;exact⟨a',rfl,h⟩
 |_,_, .cons a a' l l' h k,i+1,e,he=>by simp at he;simpa using ij.get k he
theorem ij.append: ∀{a a' b b':List MapEntry},ij ρ a a'->ij ρ b b'->ij ρ (a++b) (a'++b')
 |_,_,_,_, .nil,k=>k
 |_,_,_,_, .cons v v' l l' h r,k=> .cons v v' _ _ h (ij.append r k)
theorem px{kt:TypeId}{d:TypeDesc}{x y:Value}{b b':Bool}(hu:P.underlying kt=some d)(h1:Instr.sameNow d x y=some b)(h2:prun P (Op.equal kt x y)=some b'):b'=b:=by
 have hr:=fF h2 default
 rw[cV,Op.equalIn] at hr
 simp only[Sem.run_bind,ab hu,Result.andThen_ok] at hr
 unfold Instr.sameNow at h1
 split at h1
 ·split at h1
  ·rename_i he
   cases h1
   simp[he] at hr
   exact hr.symm
  ·cases h1
 ·cases h1
  simp at hr
  exact hr.symm
 ·cases h1
  simp at hr
  exact hr.symm
 ·cases h1
def Dn(ρ:Ren):Option (Nat × Value)->Option (Nat × Value)->Prop
 |none,r'=>r'=none
 |some (j,v),r'=> ∃v',r'=some (j,v')/\VR ρ v v'
theorem rN{kt:TypeId}{k:Value}(hk:au k=true): ∀{es es':List MapEntry} {i:Nat} {r:Option (Nat × Value)},ij ρ es es'->aC P kt k es i=some r->
 ∃r',(∀w,(Instr.findAsking kt k es' i).run P w= .ok r' w)/\(∀d r'',P.underlying kt=some d->Instr.findNow d k es' i=some r''->r''=r')/\
  Dn ρ r r'
 |_,_,i,r, .nil,hf=>by
  simp only[aC,Option.some.injEq] at hf
  subst hf
  exact⟨none,fun w=>by simp[Instr.findAsking],fun d r'' _ hn=>by simp only[Instr.findNow,Option.some.injEq] at hn;exact hn.symm,rfl⟩
 |_,_,i,r, .cons e e' l l' he hl,hf=>by
  simp only[aC] at hf
  split at hf
  ·rename_i hp
   have hkey:=he.1.plain hp
   split at hf
   ·rename_i hq
    cases hf
    refine⟨some (i,e'.val),fun w=>?_,fun d r'' hu hn=>?_,e'.val,rfl,he.2.1⟩
    ·have:=fF hq w
     simp only[Instr.findAsking,Sem.run_bind,hkey,this,Result.andThen_ok,if_true,Sem.run_pure]
    ·simp only[Instr.findNow,hkey] at hn
     split at hn
     ·cases hn;rfl
     ·rename_i hs
      have:=px hu hs hq
      cases this
     ·cases hn
   ·rename_i hq
    obtain⟨r',h1,h2,h3⟩:=rN hk hl hf
    refine⟨r',fun w=>?_,fun d r'' hu hn=>?_,h3⟩
    ·have:=fF hq w
     simp only[Instr.findAsking,Sem.run_bind,hkey,this,Result.andThen_ok,Bool.false_eq_true,if_false,h1 w]
    ·simp only[Instr.findNow,hkey] at hn
     split at hn
     ·rename_i hs
      have:=px hu hs hq
      cases this
     ·exact h2 d r'' hu hn
     ·cases hn
   ·cases hf
  ·cases hf
theorem eH{kt:TypeId}{k:Value}(hk:au k=true){es es':List MapEntry}{r:Option (Nat × Value)}(hE:ij ρ es es')(hf:aC P kt k es 0=some r){d:TypeDesc}(hu:P.underlying kt=some d):
 ∃r',(∀w,(Instr.findKey kt k es').run P w= .ok r' w)/\Dn ρ r r':=by
 obtain⟨r',h1,h2,h3⟩:=rN hk hE hf
 refine⟨r',fun w=>?_,h3⟩
 simp only[Instr.findKey,Sem.run_bind,ab hu,Result.andThen_ok]
 split
 ·rename_i r'' hn
  rw[h2 d r'' hu hn];rfl
 ·exact h1 w
theorem jS{kt:TypeId}{k k':Value}(hk:VR ρ k k')(ha:ql P kt k=true):k'=k/\au k=true/\ ∀b w,(Instr.checkKey b 10000 kt k).run P w= .ok () w:=by
 unfold ql at ha
 split at ha
 ·rename_i hp
  split at ha
  ·rename_i h1 h2
   exact⟨hk.plain hp,hp,fun b w=>by cases b;exact fF h1 w;exact fF h2 w⟩
  ·cases ha
 ·cases ha
theorem eN{b:Nat}{L:Loc}{es:List MapEntry}{ck:Nat}(hh:aJ ρ h.heap.get w)(hb:h.heap.get b=some (.map es ck))(hL:ρ b=some L):
 ∃es':Array MapEntry,w.heap[L.φ]? =some (.map es' ck)/\(getObj L.φ).run P w= .ok (.map es' ck) w/\ij ρ es es'.toList:=by
 obtain⟨L0,x,hL0,hx0,hR⟩:=hh.obj _ _ hb
 rw[hL] at hL0;cases hL0
 cases x<;>simp only[OR] at hR<;>first|exact hR.elim|skip
 rename_i es' ck'
 obtain⟨h1,rfl⟩:=hR
 exact⟨es',hx0,by simp[getObj,Sem.run,hx0],h1⟩
theorem oE{r:Nat}{x o:Obj}(hx:w.heap[r]? =some x)(hc: ∀c e f,x≠ .cells c e f): ∃w',(setObj r o).run P w= .ok () w'/\kY w w' r o:=by
 refine⟨{w with heap:=w.heap.setIfInBounds r o},?_,⟨rfl,rfl,rfl,by simp,fun k hk=>?_,?_⟩⟩
 ·simp only[setObj,Sem.run,hx]
 ·show(w.heap.setIfInBounds r o)[k]? =_
  rw[Array.getElem?_setIfInBounds_ne (by omega)]
 ·show(w.heap.setIfInBounds r o)[r]? =_
  have:=(Array.getElem?_eq_some_iff.1 hx).1
  simp[this]
theorem lW{kt:TypeId}{k:Value}(h: ∀b w,(Instr.checkKey b 10000 kt k).run P w= .ok () w): ∃d,P.underlying kt=some d:=by
 cases hu:P.underlying kt with
 |some d=>exact⟨d,rfl⟩
 |none=>
  have:=h true default
  rw[show(10000:Nat)=9999+1 from rfl,Instr.checkKey] at this
  simp[underlying,hu] at this
theorem Fp{t:TypeId}{m m' k k':Value}{ok:Bool}{r:bR}(hh:aJ ρ h.heap.get w)(hm:VR ρ m m')(hk:VR ρ k k')(hr:nP P h t m k ok=some r): ∃v,r= .val v h/\aD P ρ h w (Instr.lookup t m' k' ok) v h:=by
 unfold nP at hr
 split at hr
 ·rename_i kt e hu
  split at hr
  ·rename_i es hak hes
   obtain⟨rfl,hp,hck⟩:=jS hk hak
   obtain⟨kd,hkd⟩:=lW hck
   have key: ∀r',(∃es':Array MapEntry,ij ρ es es'.toList/\(∀w,(Instr.findKey kt k' es'.toList).run P w= .ok r' w))->Dn ρ (none:Option (Nat × Value)) r'\/True:=fun _ _=> .inr trivial
   have hold: ∃es':Array MapEntry,ij ρ es es'.toList/\ ∀r':Option (Nat × Value),(∀w,(Instr.findKey kt k' es'.toList).run P w= .ok r' w)-> ∀v',(match r' with
    |some (_,v)=>v'=(if ok then .tuple #[v, .bool true] else v)
    |none=> ∃z,(zeroValue e).run P w= .ok z w/\v'=(if ok then .tuple #[z, .bool false] else z))->(Instr.lookup t m' k' ok).run P w= .ok v' w:=by
    unfold Dd at hes
    split at hes
    ·cases hes
     cases hm
     refine⟨#[], .nil,fun r' hf v' hv=>?_⟩
     cases r' with
     |none=>
      obtain⟨z,hz,rfl⟩:=hv
      simp only[Instr.lookup,Sem.run_bind,ab hu,Result.andThen_ok,Sem.run_pure,hck,hf,hz]
     |some x=>
      obtain⟨j,v⟩:=x
      simp only at hv
      subst hv
      simp only[Instr.lookup,Sem.run_bind,ab hu,Result.andThen_ok,Sem.run_pure,hck,hf]
    ·split at hes
     ·rename_i b es ck hb
      cases hes
      cases hm with
      |sc _ hs=>simp[simple] at hs
      |map _ L hL=>
       obtain⟨es',h1,h2,h3⟩:=eN (P:=P) hh hb hL
       refine⟨es',h3,fun r' hf v' hv=>?_⟩
       cases r' with
       |none=>
        obtain⟨z,hz,rfl⟩:=hv
        simp only[Instr.lookup,Sem.run_bind,ab hu,Result.andThen_ok,Sem.run_pure,h2,hck,hf,hz]
       |some x=>
        obtain⟨j,v⟩:=x
        simp only at hv
        subst hv
        simp only[Instr.lookup,Sem.run_bind,ab hu,Result.andThen_ok,Sem.run_pure,h2,hck,hf]
     ·cases hes
    ·cases hes
   obtain⟨es',hE,hold⟩:=hold
   split at hr
   ·rename_i j v hf
    cases hr
    obtain⟨r',h1,v',rfl,hv⟩:=eH hp hE hf hkd
    refine⟨_,rfl,aD.pure hh (hold _ h1 _ rfl) ?_⟩
    cases ok
    ·exact hv
    ·exact .tuple _ _ (.cons _ _ _ _ hv (.one (.sc _ rfl)))
   ·rename_i hf
    obtain⟨r',h1,h2⟩:=eH hp hE hf hkd
    have h2:r'=none:=h2
    subst h2
    split at hr
    ·rename_i i hi
     split at hr
     ·rename_i z hz
      split at hr
      ·rename_i hpz
       cases hr
       refine⟨_,rfl,aD.pure hh (hold _ h1 _ ⟨z,cZ hi hz,rfl⟩) ?_⟩
       cases ok
       ·exact VR.aZ hpz
       ·exact .tuple _ _ (.cons _ _ _ _ (VR.aZ hpz) (.one (.sc _ rfl)))
      ·cases hr
     ·cases hr
    ·cases hr
   ·cases hr
  ·cases hr
 ·cases hr
theorem rp{k x x':Value}(hk:au k=true)(hx:VR ρ x x'): ∀{es es':List MapEntry} {i:Nat},ij ρ es es'->ij ρ (cY i k x es) (es'.modify i fun e=>{e with key:=k,val:=x'})
 |_,_,i, .nil=>by cases i<;>simpa[cY] using ij.nil
 |_,_,0, .cons e e' l l' he hl=>by simpa[cY] using ij.cons _ _ _ _ (show ER ρ {e with key:=k,val:=x} {e' with key:=k,val:=x'} from⟨VR.aZ hk,hx,he.2.2⟩) hl
 |_,_,i+1, .cons e e' l l' he hl=>by simpa[cY] using ij.cons _ _ _ _ he (rp hk hx hl)
theorem tC{k:Value}(hk:au k=true): ∀{es es':List MapEntry} {i:Nat},ij ρ es es'->ij ρ (EM i k es) (es'.modify i fun e=>{e with key:=k})
 |_,_,i, .nil=>by cases i<;>simpa[EM] using ij.nil
 |_,_,0, .cons e e' l l' he hl=>by simpa[EM] using ij.cons _ _ _ _ (show ER ρ {e with key:=k} {e' with key:=k} from⟨VR.aZ hk,he.2.1,he.2.2⟩) hl
 |_,_,i+1, .cons e e' l l' he hl=>by simpa[EM] using ij.cons _ _ _ _ he (tC hk hl)
theorem pw{x x':Value}(hx:VR ρ x x'): ∀{es es':List MapEntry} {i:Nat},ij ρ es es'->ij ρ (qC i x es) (es'.modify i fun e=>{e with val:=x'})
 |_,_,i, .nil=>by cases i<;>simpa[qC] using ij.nil
 |_,_,0, .cons e e' l l' he hl=>by simpa[qC] using ij.cons _ _ _ _ (show ER ρ {e with val:=x} {e' with val:=x'} from⟨he.1,hx,he.2.2⟩) hl
 |_,_,i+1, .cons e e' l l' he hl=>by simpa[qC] using ij.cons _ _ _ _ he (pw hx hl)
theorem p9: ∀{es es':List MapEntry} {i:Nat},ij ρ es es'->ij ρ (oZ i es) (es'.eraseIdx i)
 |_,_,i, .nil=>by cases i<;>simpa[oZ] using ij.nil
 |_,_,0, .cons e e' l l' he hl=>by simpa[oZ] using hl
 |_,_,i+1, .cons e e' l l' he hl=>by simpa[oZ] using ij.cons _ _ _ _ he (p9 hl)
theorem jt{b:Nat}{L:Loc}{es es2:List MapEntry}{ck ck2:Nat}{es2':Array MapEntry}(hh:aJ ρ h.heap.get w)(hb:h.heap.get b=some (.map es ck))(hL:ρ b=some L)(hE:ij ρ es2 es2'.toList):
 ∃w',(setObj L.φ (.map es2' ck2)).run P w= .ok () w'/\aJ ρ (h.heap.set b (.map es2 ck2)).get w'/\ ∀lo hi,Step ρ h.heap.get w ρ (h.heap.set b (.map es2 ck2)).get w' lo hi:=by
 obtain⟨es',h1,_,_⟩:=eN (P:=P) hh hb hL
 obtain⟨w',hr,hu⟩:=oE (P:=P) (o:= .map es2' ck2) h1 (fun _ _ _ h=>by cases h)
 exact⟨w',hr,hh.n9 hb rfl hL hu (show OR ρ L (.map es2 ck2) (.map es2' ck2) from⟨hE,rfl⟩) (fun j=>T.aP _ _ _ _),fun lo hi=>Step.n9 hb rfl hL hu (fun j=>T.aP _ _ _ _) lo hi⟩
theorem AQ{k:Value}{es:List MapEntry}{arr:Array MapEntry}{e:MapEntry}{j:Nat}(hs:(au e.key && Instr.sameBits 10000 e.key k)=true)(hE:ij ρ es arr.toList)(he:es[j]? =some e):
 (Instr.keyThatStays (((arr[j]?).map (·.key)).getD k) k).run P w= .ok k w:=by
 obtain⟨e',he',hER⟩:=hE.get he
 rw[Array.getElem?_toList] at he'
 simp only[Bool.and_eq_true] at hs
 have:=hER.1.plain hs.1
 simp only[he',Option.map_some,Option.getD_some,this,Instr.keyThatStays,hs.2,if_true,Sem.run_pure]
theorem pO{t:TypeId}{m m' k k' x x':Value}{r:bR}(hh:aJ ρ h.heap.get w)(hm:VR ρ m m')(hk:VR ρ k k')(hx:VR ρ x x')(hr:iA P h t m k x=some r): ∃h',r= .skip h'/\re P ρ h w (Instr.mapUpdate t m' k' x') h':=by
 unfold iA at hr
 split at hr
 ·rename_i kt e b hu
  split at hr
  ·rename_i es ck hak hb
   obtain⟨rfl,hp,hck⟩:=jS hk hak
   obtain⟨kd,hkd⟩:=lW hck
   cases hm with
   |sc _ hs=>simp[simple] at hs
   |map _ L hL=>
    obtain⟨es',h1,h2,hE⟩:=eN (P:=P) hh hb hL
    split at hr
    ·rename_i j v hf
     obtain⟨r',h3,v',rfl,hv⟩:=eH hp hE hf hkd
     split at hr
     ·rename_i e0 he0
      split at hr
      ·rename_i hsb
       cases hr
       rw[gb] at he0
       have hkeep:=AQ (P:=P) (w:=w) (k:=k') hsb hE he0
       obtain⟨w',h4,h5,h6⟩:=jt (P:=P) (ck2:=ck) (es2':=es'.modify j fun e=>{e with key:=k',val:=x'}) hh hb hL (by
        rw[Array.toList_modify];exact rp hp hx hE)
       refine⟨_,rfl,ρ,w',?_,h5,h6 _ _⟩
       simp only[Instr.mapUpdate,Sem.run_bind,ab hu,Result.andThen_ok,h2,hck,h3,hkeep,h4]
      ·cases hr
     ·cases hr
    ·rename_i hf
     cases hr
     obtain⟨r',h3,h3'⟩:=eH hp hE hf hkd
     have h3':r'=none:=h3'
     subst h3'
     obtain⟨w',h4,h5,h6⟩:=jt (P:=P) (ck2:=ck+1) (es2':=es'.push {key:=k',val:=x',born:=ck}) hh hb hL (by
      rw[Array.toList_push];exact hE.append (ij.cons {key:=k',val:=x,born:=ck} _ _ _ ⟨VR.aZ hp,hx,rfl⟩ .nil))
     refine⟨_,rfl,ρ,w',?_,h5,h6 _ _⟩
     simp only[Instr.mapUpdate,Sem.run_bind,ab hu,Result.andThen_ok,h2,hck,h3,h4]
    ·cases hr
  ·cases hr
 ·cases hr
theorem As{t:TypeId}{m m' k k':Value}{r:bR}(hh:aJ ρ h.heap.get w)(hm:VR ρ m m')(hk:VR ρ k k')(hr:nO P h t m k=some r): ∃v h',r= .val v h'/\h'.next=h.next/\aD P ρ h w (Instr.mapEntry t m' k') v h':=by
 unfold nO at hr
 split at hr
 ·rename_i kt e b hu
  split at hr
  ·rename_i es ck hak hb
   obtain⟨rfl,hp,hck⟩:=jS hk hak
   obtain⟨kd,hkd⟩:=lW hck
   cases hm with
   |sc _ hs=>simp[simple] at hs
   |map _ L hL=>
    obtain⟨es',h1,h2,hE⟩:=eN (P:=P) hh hb hL
    split at hr
    ·rename_i j v hf
     obtain⟨r',h3,v',rfl,hv⟩:=eH hp hE hf hkd
     split at hr
     ·rename_i e0 he0
      split at hr
      ·rename_i hsb
       cases hr
       rw[gb] at he0
       have hkeep:=AQ (P:=P) (w:=w) (k:=k') hsb hE he0
       obtain⟨e0',he0',hER⟩:=hE.get he0
       obtain⟨w',h4,h5,h6⟩:=jt (P:=P) (ck2:=ck) (es2':=es'.modify j fun e=>{e with key:=k'}) hh hb hL (by
        rw[Array.toList_modify];exact tC hp hE)
       refine⟨_,_,rfl,rfl,ρ, .tuple #[v',goInt e0.born],w',?_, .tuple _ _ (.cons _ _ _ _ hv (.one (.sc _ rfl))),h5,h6 _ _⟩
       have hborn:((es'[j]?).map (fun x=>(x.born:Int))).getD 0=(e0.born:Int):=by
        rw[Array.getElem?_toList] at he0'
        simp[he0',hER.2.2]
       simp only[Instr.mapEntry,Sem.run_bind,ab hu,Result.andThen_ok,h2,hck,h3,hkeep,h4,hborn,Sem.run_pure]
      ·cases hr
     ·cases hr
    ·rename_i hf
     obtain⟨r',h3,h3'⟩:=eH hp hE hf hkd
     have h3':r'=none:=h3'
     subst h3'
     split at hr
     ·rename_i i hi
      split at hr
      ·rename_i z hz
       split at hr
       ·rename_i hpz
        cases hr
        obtain⟨w',h4,h5,h6⟩:=jt (P:=P) (ck2:=ck+1) (es2':=es'.push {key:=k',val:=z,born:=ck}) hh hb hL (by
         rw[Array.toList_push];exact hE.append (ij.cons {key:=k',val:=z,born:=ck} _ _ _ ⟨VR.aZ hp,VR.aZ hpz,rfl⟩ .nil))
        refine⟨_,_,rfl,rfl,ρ, .tuple #[z,goInt ck],w',?_, .tuple _ _ (.cons _ _ _ _ (VR.aZ hpz) (.one (.sc _ rfl))),h5,h6 _ _⟩
        simp only[Instr.mapEntry,Sem.run_bind,ab hu,Result.andThen_ok,h2,hck,h3,cZ hi hz,h4,Sem.run_pure]
       ·cases hr
      ·cases hr
     ·cases hr
    ·cases hr
  ·cases hr
 ·cases hr
theorem qi{s:Int}: ∀{es es':List MapEntry} {i j:Nat},ij ρ es es'->u4 s es i=some j->i<=j/\es'.findIdx? (fun e=>(e.born:Int)==s)=some (j - i)
 |_,_,i,j, .nil,hb=>by simp[u4] at hb
 |_,_,i,j, .cons e e' l l' he hl,hb=>by
  simp only[u4] at hb
  split at hb
  ·rename_i hd
   cases hb
   have:((e'.born:Int)==s)=true:=by rw[he.2.2];simpa using hd
   simp[List.findIdx?_cons,this]
  ·rename_i hd
   obtain⟨h1,h2⟩:=qi hl hb
   have:((e'.born:Int)==s)=false:=by rw[he.2.2];simpa using hd
   refine⟨by omega,?_⟩
   rw[List.findIdx?_cons,this]
   simp only[Bool.false_eq_true,if_false,h2,Option.map_some]
   congr 1
   omega
theorem vR{t:TypeId}{m m' s s' x x':Value}{r:bR}(hh:aJ ρ h.heap.get w)(hm:VR ρ m m')(hs:VR ρ s s')(hx:VR ρ x x')(hr:ko h m s x=some r): ∃h',r= .skip h'/\h'.next=h.next/\re P ρ h w (Instr.entryStore t m' s' x') h':=by
 unfold ko at hr
 split at hr
 ·rename_i b k s
  split at hr
  ·rename_i es ck hb
   split at hr
   ·rename_i i hi
    cases hr
    cases hs
    cases hm with
    |sc _ hs=>simp[simple] at hs
    |map _ L hL=>
     obtain⟨es',h1,h2,hE⟩:=eN (P:=P) hh hb hL
     obtain⟨_,hfi⟩:=qi hE hi
     obtain⟨w',h4,h5,h6⟩:=jt (P:=P) (ck2:=ck) (es2':=es'.modify i fun e=>{e with val:=x'}) hh hb hL (by
      rw[Array.toList_modify];exact pw hx hE)
     refine⟨_,rfl,rfl,ρ,w',?_,h5,h6 _ _⟩
     have hfi':es'.findIdx? (fun e=>(e.born:Int)==s)=some i:=by
      obtain⟨l⟩:=es'
      simpa using hfi
     have has:(asInt (.int k s)).run P w= .ok s w:=rfl
     simp only[Instr.entryStore,Sem.run_bind,h2,Result.andThen_ok,has,hfi',h4]
   ·cases hr
  ·cases hr
 ·cases hr
theorem Hn{t:TypeId}{x x':Value}{r:bR}(hh:aJ ρ h.heap.get w)(hf:bA ρ h.next (r.next h))(hx:VR ρ x x')(hr:yP P h t x=some r): ∃v h',r= .val v h'/\aD P ρ h w (Instr.range t x') v h':=by
 unfold yP at hr
 split at hr
 ·rename_i s hu
  cases hr
  cases hx
  exact⟨_,_,rfl,aD.new (x:= .stringIter s 0) (δ:=0) (ψ:=0) hh hf (by simp[Instr.range,ab hu]) ⟨rfl,rfl,rfl⟩ (VR.um _ _ _ rfl)⟩
 ·rename_i k e hu
  cases hr
  cases hx
  exact⟨_,_,rfl,aD.new (x:= .mapIter none 0 #[] 0) (δ:=0) (ψ:=0) hh hf (by simp[Instr.range,ab hu]) ⟨rfl,rfl,rfl,rfl,rfl⟩ (VR.um _ _ _ rfl)⟩
 ·rename_i k e b hu
  split at hr
  ·rename_i es ck hb
   cases hr
   cases hx with
   |sc _ hs=>simp[simple] at hs
   |map _ L hL=>
    obtain⟨es',h1,h2,hE⟩:=eN (P:=P) hh hb hL
    have hn:ρ h.next=none:=hf _ (Nat.le_refl _) (Nat.lt_succ_self _)
    exact⟨_,_,rfl,aD.new (x:= .mapIter (some L.φ) ck #[] ck) (δ:=0) (ψ:=0) hh hf (by simp[Instr.range,ab hu,h2]) ⟨⟨L,Ren.il _ hn _ _ hL,rfl⟩,rfl,rfl,rfl,rfl⟩ (VR.um _ _ _ rfl)⟩
  ·cases hr
 ·cases hr
theorem jy{n:Nat}: ∀{l:List Nat},kQ n l=true↔n∈l
 |[]=>by simp[kQ]
 |m::l=>by
  simp only[kQ]
  split
  ·rename_i h;have:=Nat.eq_of_beq_eq_true h;simp[this]
  ·rename_i h
   have:n≠m:=by rintro rfl;simp at h
   rw[jy];simp[this]
theorem rK{seen:List Nat}{seen':Array Nat}(hs:seen'.toList=seen.reverse): ∀{es es':List MapEntry},ij ρ es es'->ij ρ (xa seen es) (es'.filter fun e=> !seen'.contains e.born)
 |_,_, .nil=>by simpa[xa] using ij.nil
 |_,_, .cons e e' l l' he hl=>by
  have ih:=rK hs hl
  have hc:seen'.contains e'.born=kQ e.born seen:=by
   rw[Bool.eq_iff_iff,jy,Array.contains_iff_mem,←Array.mem_toList_iff,hs,List.mem_reverse,he.2.2]
  simp only[xa]
  split
  ·rename_i h
   rw[List.filter_cons,if_neg (by rw[hc,h];decide)];exact ih
  ·rename_i h
   rw[List.filter_cons,if_pos (by rw[hc,h];rfl)];exact .cons _ _ _ _ he ih
end
section
variable{P:Program}{ρ:Ren}{w:World}{h:Hs}
theorem iQ{b:Nat}{L:Loc}{o:aa}(hh:aJ ρ h.heap.get w)(hb:h.heap.get b=some o)(hL:ρ b=some L)(hn: ∀k,o≠ .aw k):
 ∃x,w.heap[L.φ]? =some x/\OR ρ L o x/\(getObj L.φ).run P w= .ok x w:=by
 obtain⟨L0,x,hL0,hx0,hR⟩:=hh.obj _ _ hb
 rw[hL] at hL0;cases hL0
 refine⟨x,hx0,hR,?_⟩
 cases o<;>cases x<;>simp only[OR] at hR<;>first|exact hR.elim|exact(hn _ rfl).elim|simp only[getObj,Sem.run,hx0]
theorem lz{b:Nat}{L:Loc}{o o2:aa}{x x2:Obj}(hh:aJ ρ h.heap.get w)(hb:h.heap.get b=some o)(ho:o.owned=true)(hL:ρ b=some L)(hx:w.heap[L.φ]? =some x)(hc: ∀c e f,x≠ .cells c e f)(hR:OR ρ L o2 x2):
 ∃w',(setObj L.φ x2).run P w= .ok () w'/\aJ ρ (h.heap.set b o2).get w'/\ ∀lo hi,Step ρ h.heap.get w ρ (h.heap.set b o2).get w' lo hi:=by
 obtain⟨w',hr,hu⟩:=oE (P:=P) (o:=x2) hx hc
 exact⟨w',hr,hh.n9 hb ho hL hu hR (fun j=>T.aP _ _ _ _),fun lo hi=>Step.n9 hb ho hL hu (fun j=>T.aP _ _ _ _) lo hi⟩
theorem VR.Pm{b:Nat}{x:Value}(hx:VR ρ (.pointer (some ⟨b,0,none⟩)) x): ∃L,ρ b=some L/\x= .pointer (some ⟨L.φ,L.δ+0,none⟩):=by
 cases hx with
 |sc _ hs=>simp[AV.simple] at hs
 |ptr _ _ L hL=>exact⟨L,hL,rfl⟩
theorem LC{t:TypeId}{x x':Value}{st:Bool}{r:bR}(hh:aJ ρ h.heap.get w)(hx:VR ρ x x')(hr:Eu h x st=some r): ∃v h',r= .val v h'/\h'.next=h.next/\aD P ρ h w (Instr.next x' st t) v h':=by
 unfold Eu at hr
 split at hr
 ·rename_i b
  obtain⟨L,hL,rfl⟩:=hx.Pm
  split at hr
  ·
   rename_i s pos hb
   obtain⟨y,hy,hR,hg⟩:=iQ (P:=P) hh hb hL (fun k h=>by cases h)
   cases y<;>simp only[OR] at hR<;>first|exact hR.elim|skip
   obtain⟨rfl,rfl,hδ⟩:=hR
   rename_i s pos
   rw[hδ]
   split at hr
   ·rename_i hlt
    have hlt':pos<s.size:=by simpa[Nat.blt_eq] using hlt
    split at hr
    rename_i c wd hdec
    cases hr
    obtain⟨w',h1,h2,h3⟩:=lz (P:=P) (o2:= .pq s (pos+wd)) (x2:= .stringIter s (pos+wd)) hh hb rfl hL hy (fun _ _ _ h=>by cases h) ⟨rfl,rfl,hδ⟩
    refine⟨_,_,rfl,rfl,ρ, .tuple #[.bool true,goInt pos, .int .i32 c],w',?_, .tuple _ _ (.cons _ _ _ _ (.sc _ rfl) (.cons _ _ _ _ (.sc _ rfl) (.one (.sc _ rfl)))),h2,h3 _ _⟩
    simp only[Instr.next,Nat.add_zero,Sem.run_bind,hg,Result.andThen_ok,if_pos hlt',hdec,h1,Sem.run_pure]
   ·rename_i hlt
    have hlt': ¬pos<s.size:=fun hc=>by rw[show pos.blt s.size=true by rw[Nat.blt_eq];exact hc] at hlt;cases hlt
    cases hr
    refine⟨_,_,rfl,rfl,aD.pure hh (v':= .tuple #[.bool false]) ?_ (.tuple _ _ (.one (.sc _ rfl)))⟩
    simp only[Instr.next,Nat.add_zero,Sem.run_bind,hg,Result.andThen_ok,if_neg hlt',Sem.run_pure]
  ·
   rename_i since seen last hb
   obtain⟨y,hy,hR,hg⟩:=iQ (P:=P) hh hb hL (fun k h=>by cases h)
   cases y<;>simp only[OR] at hR<;>first|exact hR.elim|skip
   obtain⟨rfl,rfl,hs,rfl,hδ⟩:=hR
   cases hr
   rw[hδ]
   refine⟨_,_,rfl,rfl,aD.pure hh (v':= .tuple #[.bool false]) ?_ (.tuple _ _ (.one (.sc _ rfl)))⟩
   simp only[Instr.next,Nat.add_zero,Sem.run_bind,hg,Result.andThen_ok,Sem.run_pure]
  ·
   rename_i m since seen last hb
   obtain⟨y,hy,hR,hg⟩:=iQ (P:=P) hh hb hL (fun k h=>by cases h)
   cases y<;>simp only[OR] at hR<;>first|exact hR.elim|skip
   rename_i m' since' seen' last'
   obtain⟨⟨Lm,hLm,rfl⟩,rfl,hs,rfl,hδ⟩:=hR
   rw[hδ]
   split at hr
   ·rename_i es ck hm
    obtain⟨es',h1,h2,hE⟩:=eN (P:=P) hh hm hLm
    have hleft:=rK hs hE
    have hfil:(es'.filter fun e=> !seen'.contains e.born).toList=es'.toList.filter fun e=> !seen'.contains e.born:=by simp
    split at hr
    ·
     rename_i hl
     rw[hl] at hleft
     have hnil:(es'.filter fun e=> !seen'.contains e.born)= #[]:=by
      apply Array.ext'
      rw[hfil]
      generalize (es'.toList.filter fun e=> !seen'.contains e.born)=l at hleft
      cases hleft;rfl
     have hgo:r= .val (.tuple #[.bool false]) h/\(!seen'.isEmpty && !es'.isEmpty && es'.all fun x=>decide (x.born>=last'))=false:=by
      split at hr
      ·cases hr
       have:seen'= #[]:=by apply Array.ext';rw[hs];rfl
       exact⟨rfl,by simp[this]⟩
      ·split at hr
       ·rename_i e l hlt
        cases hr
        cases hE':es'.toList with
        |nil=>rw[hE'] at hE;cases hE
        |cons e' l'=>
         rw[hE'] at hE
         cases hE with
         |cons _ _ _ _ he _=>
          have hb1:e'.born<last':=by rw[he.2.2];rw[Nat.blt_eq] at hlt;exact hlt
          have hall:(es'.all fun x=>decide (x.born>=last'))=false:=by
           rw[←Array.all_toList,hE',List.all_cons]
           simp;omega
          exact⟨rfl,by rw[hall];simp⟩
       ·cases hr
      ·cases hr
       have:es'= #[]:=by apply Array.ext';cases hE':es'.toList with|nil=>rfl|cons _ _=>(rw[hE'] at hE;cases hE)
       exact⟨rfl,by simp[this]⟩
     obtain⟨rfl,hg2⟩:=hgo
     refine⟨_,_,rfl,rfl,aD.pure hh (v':= .tuple #[.bool false]) ?_ (.tuple _ _ (.one (.sc _ rfl)))⟩
     simp only[Instr.next,Nat.add_zero,Sem.run_bind,hg,Result.andThen_ok,h2,hg2,Bool.false_eq_true,if_false,hnil]
     simp[choose,Sem.run,Question.forced]
    ·
     rename_i e hl
     rw[hl] at hleft
     split at hr
     ·rename_i hlt
      cases hr
      have hone: ∃e',(es'.filter fun e=> !seen'.contains e.born)= #[e']/\ER ρ e e':=by
       have: ∃e',(es'.filter fun e=> !seen'.contains e.born).toList=[e']/\ER ρ e e':=by
        rw[hfil]
        generalize (es'.toList.filter fun e=> !seen'.contains e.born)=l at hleft
        cases hleft with
        |cons _ e' _ l he hl=>cases hl;exact⟨e',rfl,he⟩
       obtain⟨e',h3,h4⟩:=this
       exact⟨e',Array.ext' (by rw[h3]),h4⟩
      obtain⟨e',ho,he⟩:=hone
      have hseen:seen'= #[]:=by apply Array.ext';rw[hs];rfl
      subst hseen
      have hb1:e'.born<since':=by rw[he.2.2];rw[Nat.blt_eq] at hlt;exact hlt
      obtain⟨w',h4,h5,h6⟩:=lz (P:=P) (o2:= .dC (some m) since' [e.born] ck) (x2:= .mapIter (some Lm.φ) since' #[e'.born] ck) hh hb rfl hL hy (fun _ _ _ h=>by cases h) ⟨⟨Lm,hLm,rfl⟩,rfl,by simp[he.2.2],rfl,hδ⟩
      refine⟨_,_,rfl,rfl,ρ, .tuple #[.bool true,e'.key,e'.val],w',?_, .tuple _ _ (.cons _ _ _ _ (.sc _ rfl) (.cons _ _ _ _ he.1 (.one he.2.1))),h5,h6 _ _⟩
      have hf1:(#[e']:Array MapEntry).filter (fun x=>decide (x.born<since'))= #[e']:=by simp[hb1]
      have hf2:(#[e']:Array MapEntry).filter (fun x=>decide (x.born>=since'))= #[]:=by simp;omega
      simp only[Instr.next,Nat.add_zero,Sem.run_bind,hg,Result.andThen_ok,h2,Array.isEmpty_empty,Bool.not_true,Bool.false_and,Bool.false_eq_true,if_false,ho,hf1,hf2]
      simp[choose,Sem.run,Question.forced,h4]
     ·cases hr
    ·cases hr
   ·cases hr
  ·cases hr
 ·cases hr
theorem mV{st:Nat}: ∀{es es':List MapEntry} {e:MapEntry},ij ρ es es'->fH st es=some e-> ∃e',es'.find? (·.born==st)=some e'/\ER ρ e e'
 |_,_,e, .nil,hb=>by simp[fH] at hb
 |_,_,e, .cons a a' l l' ha hl,hb=>by
  simp only[fH] at hb
  split at hb
  ·rename_i hd
   cases hb
   have:(a'.born==st)=true:=by rw[ha.2.2,Nat.eq_of_beq_eq_true hd];simp
   exact⟨a',by rw[List.find?_cons,this],ha⟩
  ·rename_i hd
   obtain⟨e',h1,h2⟩:=mV hl hb
   have:(a'.born==st)=false:=by rw[ha.2.2];have:=Nat.ne_of_beq_eq_false hd;simpa using this
   exact⟨e',by rw[List.find?_cons,this];exact h1,h2⟩
theorem Jg{x x':Value}{r:bR}(hh:aJ ρ h.heap.get w)(hx:VR ρ x x')(hr:vi h x=some r): ∃v,r= .val v h/\aD P ρ h w (Instr.entry x') v h:=by
 unfold vi at hr
 split at hr
 ·rename_i b
  obtain⟨L,hL,rfl⟩:=hx.Pm
  split at hr
  ·rename_i m since st seen stepped hb
   obtain⟨y,hy,hR,hg⟩:=iQ (P:=P) hh hb hL (fun k h=>by cases h)
   cases y<;>simp only[OR] at hR<;>first|exact hR.elim|skip
   rename_i m' since' seen' last'
   obtain⟨⟨Lm,hLm,rfl⟩,rfl,hs,rfl,hδ⟩:=hR
   rw[hδ]
   split at hr
   ·rename_i es ck hm
    obtain⟨es',h1,h2,hE⟩:=eN (P:=P) hh hm hLm
    split at hr
    ·rename_i e hck hfb
     cases hr
     obtain⟨e',h3,h4⟩:=mV hE hfb
     have hck':=Nat.eq_of_beq_eq_true hck
     have hback:seen'.back? =some st:=by
      have:seen'.toList.getLast? =some st:=by rw[hs];simp
      simpa using this
     have hfind:es'.find? (·.born==st)=some e':=by
      obtain⟨l⟩:=es'
      simpa using h3
     refine⟨_,rfl,aD.pure hh (v':= .tuple #[e'.key,e'.val]) ?_ (.tuple _ _ (.cons _ _ _ _ h4.1 (.one h4.2.1)))⟩
     have hne:(ck !=last')=false:=by simp[hck']
     simp only[Instr.entry,Nat.add_zero,Sem.run_bind,hg,Result.andThen_ok,hback,h2,hne,Bool.false_eq_true,if_false,hfind,Sem.run_pure]
    ·cases hr
   ·cases hr
  ·cases hr
 ·cases hr
theorem FO{ats:List TypeId}{m m' k k':Value}{ty:TypeId}{r:bR}(hm:VR ρ m m')(hk:VR ρ k k')(hh:aJ ρ h.heap.get w)(hr:br P h .delete ats [m,k]=some r):
 ∃v h',r= .val v h'/\h'.next=h.next/\aD P ρ h w (Builtin.delete_ ⟨ats⟩ ty #[m',k']) v h':=by
 simp only[br] at hr
 split at hr
 ·rename_i t _
  split at hr
  ·rename_i kt e hu
   split at hr
   ·rename_i hak
    cases hr
    obtain⟨rfl,hp,hck⟩:=jS hk hak
    cases hm
    refine⟨_,_,rfl,rfl,aD.pure hh (v':= .tuple #[]) ?_ (.tuple _ _ .nil)⟩
    simp[Builtin.delete_,ab hu,hck]
   ·cases hr
  ·rename_i kt e b hu0
   have hu:=hu0
   split at hr
   ·rename_i es ck hak hb
    obtain⟨rfl,hp,hck⟩:=jS hk hak
    obtain⟨kd,hkd⟩:=lW hck
    cases hm with
    |sc _ hs=>simp[simple] at hs
    |map _ L hL=>
     obtain⟨es',h1,h2,hE⟩:=eN (P:=P) hh hb hL
     split at hr
     ·rename_i j v hf
      cases hr
      obtain⟨r',h3,v',rfl,hv⟩:=eH hp hE hf hkd
      obtain⟨w',h4,h5,h6⟩:=jt (P:=P) (ck2:=ck) (es2':=es'.eraseIdxIfInBounds j) hh hb hL (by
       rw[Array.toList_eraseIdxIfInBounds];exact p9 hE)
      refine⟨_,_,rfl,rfl,ρ, .tuple #[],w',?_, .tuple _ _ .nil,h5,h6 _ _⟩
      simp[Builtin.delete_,ab hu,h2,hck,h3,h4]
     ·rename_i hf
      cases hr
      obtain⟨r',h3,h3'⟩:=eH hp hE hf hkd
      have h3':r'=none:=h3'
      subst h3'
      obtain⟨w',h4,hu⟩:=oE (P:=P) (o:= .map es' ck) h1 (fun _ _ _ h=>by cases h)
      have hsame: ∀j,h.heap.get j=if j=b then some (aa.map es ck) else h.heap.get j:=fun j=>by
       split
       ·rename_i he;subst he;exact hb
       ·rfl
      have hup:=hh.n9 (H':=h.heap.get) hb rfl hL hu (show OR ρ L (.map es ck) (.map es' ck) from⟨hE,rfl⟩) hsame
      have hst:=fun lo hi=>Step.n9 (lo:=lo) (hi:=hi) (H':=h.heap.get) hb (o:= .map es ck) (o':= .map es ck) rfl hL hu hsame
      refine⟨_,_,rfl,rfl,ρ, .tuple #[],w',?_, .tuple _ _ .nil,hup,hst _ _⟩
      simp[Builtin.delete_,ab hu0,h2,hck,h3,h4]
     ·cases hr
   ·cases hr
  ·cases hr
 ·cases hr
end
section
variable{P:Program}{ρ:Ren}{w:World}{h:Hs}
theorem dP.DT{s:Sem Value}{r:bR}(hv: ∃v h',r= .val v h'/\aD P ρ h w s v h'):dP P ρ h w (do pure (.value (←s))) r:=by
 obtain⟨v,h',rfl,hv⟩:=hv
 exact dP.ug hv
theorem dP.pJ{s:Sem Value}{r:bR}(hv: ∃v,r= .val v h/\aD P ρ h w s v h):dP P ρ h w (do pure (.value (←s))) r:=by
 obtain⟨v,rfl,hv⟩:=hv
 exact dP.ug hv
theorem dP.E0{s:Sem Value}{r:bR}(hv: ∃v h',r= .val v h'/\h'.next=h.next/\aD P ρ h w s v h'):dP P ρ h w (do pure (.value (←s))) r:=by
 obtain⟨v,h',rfl,_,hv⟩:=hv
 exact dP.ug hv
theorem dP.ZS{s:Sem Unit}{r:bR}(hv: ∃h',r= .skip h'/\re P ρ h w s h'):dP P ρ h w (do s;pure .skip) r:=by
 obtain⟨h',rfl,hv⟩:=hv
 exact dP.HH hv
theorem dP.SF{s:Sem Unit}{r:bR}(hv: ∃h',r= .skip h'/\h'.next=h.next/\re P ρ h w s h'):dP P ρ h w (do s;pure .skip) r:=by
 obtain⟨h',rfl,_,hv⟩:=hv
 exact dP.HH hv
theorem C7{b:Builtin}{ats:List TypeId}{l l':List Value}{ty:TypeId}{consts:Array Bool}{r:bR}(hl:cT ρ l l')(hh:aJ ρ h.heap.get w)(hf:bA ρ h.next (r.next h))(hr:br P h b ats l=some r):
 dP P ρ h w (builtin b ⟨ats⟩ ty consts ⟨l'⟩) r:=by
 cases b with
 |min=>exact .DT (wG (ats:=⟨ats⟩) (ty:=ty) hl hh (.inl ⟨rfl,hr⟩))
 |max=>exact .DT (wG (ats:=⟨ats⟩) (ty:=ty) hl hh (.inr ⟨rfl,hr⟩))
 |_=>
  cases hl with
  |nil=>simp[br] at hr
  |cons x x' t t' hx ht=>
   cases ht with
   |nil=>
    first
     |(simp only[br,reduceCtorEq] at hr;done)
     |exact .DT (IE hx hh hr)
     |exact .DT (Jt hx hh hr)
     |exact .DT (uU hx hh hr)
     |exact .DT (GY hx hh hr)
     |exact .pJ (IE hx hh hr)
     |exact .pJ (Jt hx hh hr)
     |exact .pJ (uU hx hh hr)
     |exact .pJ (GY hx hh hr)
     |exact .E0 (uU hx hh hr)
   |cons y y' u u' hy hu=>
    cases hu with
    |nil=>
     first
      |(simp only[br,reduceCtorEq] at hr;done)
      |exact .DT (F8 hx hy hh hf hr)
      |exact .DT (Ef hx hy hh hr)
      |exact .E0 (Ef hx hy hh hr)
      |exact .E0 (FO hx hy hh hr)
      |exact .DT (NK hx hy hh hr)
      |exact .E0 (NK hx hy hh hr)
    |cons _ _ _ _ _ _=>simp[br] at hr
theorem sS{tm:Tm}{n:Nat}{a:Act}(ht:TR ρ tm n a.tmps){xs:Array Operand}{vs:List Value}(hv:xp tm xs.toList=some vs): ∃vs',xs.map a.eval=⟨vs'⟩/\cT ρ vs vs':=by
 refine⟨(xs.map a.eval).toList,rfl,?_⟩
 rw[Array.toList_map]
 exact xo ht hv
theorem MY{tm:Tm}{n:Nat}{a:Act}(ht:TR ρ tm n a.tmps){c:Call}{ty:TypeId}{r:bR}(hh:aJ ρ h.heap.get w)(hf:bA ρ h.next (r.next h))(hr:kq P tm h c=some r):
 dP P ρ h w (do let d←resolve a.eval c ty;invoke d.target d.args) r:=by
 unfold kq at hr
 split at hr
 ·rename_i args hargs
  obtain⟨args',hargs',hR⟩:=sS ht hargs
  split at hr
  ·rename_i b hcal
   have hb:=fun consts=>C7 (ty:=ty) (consts:=consts) hR hh hf hr
   simp only[resolve,hcal,hargs',pure_bind,invoke]
   exact hb _
  ·rename_i f hcal
   split at hr
   ·rename_i f0 first captured hev
    have hfv:=aL ht hev
    cases hfv':a.eval f with
    |func g fi ca=>
     rw[hfv'] at hfv
     cases hfv with
     |sc _ hs=>simp[AV.simple] at hs
     |fn _ _ fi' _ ca' h1 h2=>
      have hall:=(h1.append hR).append h2
      have hres:(do let d←resolve a.eval c ty;invoke d.target d.args)=callFunc f0 ⟨(fi'++args')++ca'⟩:=by
       simp[resolve,hcal,hfv',Deferred.ofValue,invoke,hargs']
      rw[hres]
      split at hr
      ·rename_i fn hfn
       split at hr
       ·rename_i body hbody
        split at hr
        ·cases hr
        ·rename_i hname
         cases hr
         have hname': ¬fn.name= "runtime.NumGoroutine" :=by simpa using hname
         refine⟨_,?_,hall⟩
         simp[callFunc,hfn,hname',hbody]
       ·rename_i hbody
        exact FG hfn hbody hall hh hf hr
      ·cases hr
    |_=>rw[hfv'] at hfv;cases hfv
   ·rename_i l first cap hev
    cases hr
    have hfv:=aL ht hev
    generalize hfv':a.eval f=fv at hfv
    cases hfv with
    |sc _ hs=>simp[AV.simple] at hs
    |yield _ L _ fi' hL h1=>
     refine⟨L,_,hL,?_,h1.append hR⟩
     simp[resolve,hcal,hfv',Deferred.ofValue,invoke,hargs']
   ·cases hr
  ·cases hr
 ·cases hr
theorem Jl{tm:Tm}{n:Nat}{a:Act}(ht:TR ρ tm n a.tmps){c:Call}{ty:TypeId}{r:bR}(hr:qX tm c=some r):
 dP P ρ h w (do pure (.defer (←resolve a.eval c ty))) r:=by
 unfold qX at hr
 split at hr
 ·rename_i args hargs
  obtain⟨args',hargs',hR⟩:=sS ht hargs
  split at hr
  ·rename_i f hcal
   split at hr
   ·rename_i f0 first captured hev
    cases hr
    have hfv:=aL ht hev
    generalize hfv':a.eval f=fv at hfv
    cases hfv with
    |sc _ hs=>simp[AV.simple] at hs
    |fn _ _ fi' _ ca' h1 h2=>
     refine⟨_,?_,_,_,rfl,h1.append hR,h2⟩
     simp[resolve,hcal,hfv',Deferred.ofValue,hargs']
   ·cases hr
  ·cases hr
 ·cases hr
theorem cO{f:Value->Option bR}{a:Option Value}{r:bR}(hr:iu f a=some r): ∃v,a=some v/\f v=some r:=by
 unfold iu at hr
 split at hr
 ·exact⟨_,rfl,hr⟩
 ·cases hr
theorem ir{f:Value->Value->Option bR}{a b:Option Value}{r:bR}(hr:jX f a b=some r): ∃v u,a=some v/\b=some u/\f v u=some r:=by
 unfold jX at hr
 split at hr
 ·exact⟨_,_,rfl,rfl,hr⟩
 ·cases hr
theorem qL{f:Value->Value->Value->Option bR}{a b c:Option Value}{r:bR}(hr:Cs f a b c=some r): ∃v u x,a=some v/\b=some u/\c=some x/\f v u x=some r:=by
 unfold Cs at hr
 split at hr
 ·exact⟨_,_,_,rfl,rfl,rfl,hr⟩
 ·cases hr
theorem jB{tm:Tm}{n:Nat}{a:Act}(ht:TR ρ tm n a.tmps){o:Oper}{r:bR}(hh:aJ ρ h.heap.get w)(hf:bA ρ h.next (r.next h))(hr:dN P tm h o=some r):
 dP P ρ h w (execOp a.eval o) r:=by
 unfold dN at hr
 unfold execOp
 cases ho:o.op with
 |move x=>
  rw[ho] at hr
  obtain⟨v,h1,h2⟩:=cO hr
  cases h2
  exact⟨ρ,_,w,rfl,aL ht h1,hh,Step.refl _ _ _ _ _⟩
 |assign x=>
  rw[ho] at hr
  obtain⟨v,h1,h2⟩:=cO hr
  cases h2
  exact⟨ρ,_,w,rfl,aL ht h1,hh,Step.refl _ _ _ _ _⟩
 |pick c x y=>
  rw[ho] at hr
  dsimp only at hr ⊢
  split at hr
  ·rename_i hc
   have hcv:=aL ht hc
   generalize hce:a.eval c=cv at hcv
   cases hcv
   obtain⟨v,h1,h2⟩:=cO hr
   cases h2
   exact⟨ρ,_,w,by simp[asBool],aL ht h1,hh,Step.refl _ _ _ _ _⟩
  ·rename_i hc
   have hcv:=aL ht hc
   generalize hce:a.eval c=cv at hcv
   cases hcv
   obtain⟨v,h1,h2⟩:=cO hr
   cases h2
   exact⟨ρ,_,w,by simp[asBool],aL ht h1,hh,Step.refl _ _ _ _ _⟩
  ·cases hr
 |alloc e=>
  rw[ho] at hr
  dsimp only at hr
  split at hr
  ·rename_i i hi
   split at hr
   ·rename_i z hz
    split at hr
    ·rename_i hp
     cases hr
     exact .ug (J6 hh hf hi hz hp)
    ·cases hr
   ·cases hr
  ·cases hr
 |box e x=>
  rw[ho] at hr
  obtain⟨v,h1,h2⟩:=cO hr
  cases h2
  exact .ug (QA hh hf (aL ht h1))
 |build t parts=>rw[ho] at hr;exact .pJ (JZ ht hh hr)
 |buildSlice t len parts=>rw[ho] at hr;exact .DT (vU ht hh hf hr)
 |load t x=>
  rw[ho] at hr
  obtain⟨v,h1,h2⟩:=cO hr
  exact .pJ (Mr hh (aL ht h1) h2)
 |store t x y=>
  rw[ho] at hr
  obtain⟨v,u,h1,h2,h3⟩:=ir hr
  exact .SF (G1 hh (aL ht h1) (aL ht h2) h3)
 |nilCheck x=>
  rw[ho] at hr
  obtain⟨v,h1,h2⟩:=cO hr
  obtain⟨u,rfl,h4,h5⟩:=Ah (aL ht h1) h2
  refine⟨ρ,a.eval x,w,?_,h4,hh,Step.refl _ _ _ _ _⟩
  rcases h5 with ⟨b,h5⟩|⟨f,b,c,h5⟩|⟨f,b,c,h5⟩<;>simp[h5]
 |binOp op xt x y yt=>
  rw[ho] at hr
  obtain⟨v,u,h1,h2,h3⟩:=ir hr
  split at h3
  ·rename_i v hv
   cases h3
   exact .ug (J1 hh (aL ht h1) (aL ht h2) hv)
  ·cases h3
 |unOp op xt x=>
  rw[ho] at hr
  obtain⟨v,h1,h2⟩:=cO hr
  exact .pJ (GZ hh (aL ht h1) h2)
 |convert s d x=>
  rw[ho] at hr
  obtain⟨v,h1,h2⟩:=cO hr
  exact .DT (CZ (aL ht h1) hh hf h2)
 |makeFunc fn first captured=>
  rw[ho] at hr
  dsimp only at hr
  split at hr
  ·split at hr
   ·rename_i f c h1 h2
    cases hr
    obtain⟨f',e1,r1⟩:=sS ht h1
    obtain⟨c',e2,r2⟩:=sS ht h2
    exact⟨ρ, .func (.func _) ⟨f'⟩ ⟨c'⟩,w,by simp[Instr.makeFunc,e1,e2], .fn _ _ _ _ _ r1 r2,hh,Step.refl _ _ _ _ _⟩
   ·cases hr
  ·cases hr
 |makeMap t r=>
  rw[ho] at hr
  dsimp only at hr
  split at hr
  ·cases hr
   refine .ug (aD.new (δ:=0) (ψ:=0) (x:= .map #[] 0) (v':= .map (some w.heap.size)) hh hf ?_ ⟨.nil,rfl⟩ (.map _ _ (Ren.cB _ _ _)))
   simp[Instr.makeMap]
  ·cases hr
 |makeSlice t l c=>
  rw[ho] at hr
  obtain⟨v,u,h1,h2,h3⟩:=ir hr
  exact .DT (yh hh (aL ht h1) (aL ht h2) hf h3)
 |slice t x lo hi mx=>
  rw[ho] at hr
  obtain⟨v,h1,h2⟩:=cO hr
  exact .DT (G7 ht (aL ht h1) hh hf h2)
 |fieldAddr s x f=>
  rw[ho] at hr
  obtain⟨v,h1,h2⟩:=cO hr
  exact .pJ (yz hh (aL ht h1) h2)
 |field t x f=>
  rw[ho] at hr
  obtain⟨v,h1,h2⟩:=cO hr
  exact .pJ (I5 hh (aL ht h1) h2)
 |indexAddr t x i=>
  rw[ho] at hr
  obtain⟨v,u,h1,h2,h3⟩:=ir hr
  exact .pJ (yu hh (aL ht h1) (aL ht h2) h3)
 |index t x i=>
  rw[ho] at hr
  obtain⟨v,u,h1,h2,h3⟩:=ir hr
  exact .pJ (IS hh (aL ht h1) (aL ht h2) h3)
 |lookup t m k ok=>
  rw[ho] at hr
  obtain⟨v,u,h1,h2,h3⟩:=ir hr
  exact .pJ (Fp hh (aL ht h1) (aL ht h2) h3)
 |mapUpdate t m k x=>
  rw[ho] at hr
  obtain⟨v,u,y,h1,h2,h3,h4⟩:=qL hr
  exact .ZS (pO hh (aL ht h1) (aL ht h2) (aL ht h3) h4)
 |insert t m k x=>
  rw[ho] at hr
  obtain⟨v,u,y,h1,h2,h3,h4⟩:=qL hr
  exact .ZS (pO hh (aL ht h1) (aL ht h2) (aL ht h3) h4)
 |mapEntry t m k=>
  rw[ho] at hr
  obtain⟨v,u,h1,h2,h3⟩:=ir hr
  exact .E0 (As hh (aL ht h1) (aL ht h2) h3)
 |entryStore t m s x=>
  rw[ho] at hr
  obtain⟨v,u,y,h1,h2,h3,h4⟩:=qL hr
  exact .SF (vR hh (aL ht h1) (aL ht h2) (aL ht h3) h4)
 |range t x=>
  rw[ho] at hr
  obtain⟨v,h1,h2⟩:=cO hr
  exact .DT (Hn hh hf (aL ht h1) h2)
 |next it s=>
  rw[ho] at hr
  obtain⟨v,h1,h2⟩:=cO hr
  exact .E0 (LC hh (aL ht h1) h2)
 |entry it=>
  rw[ho] at hr
  obtain⟨v,h1,h2⟩:=cO hr
  exact .pJ (Jg hh (aL ht h1) h2)
 |extract t i=>
  rw[ho] at hr
  obtain⟨v,h1,h2⟩:=cO hr
  exact .pJ (CR hh (aL ht h1) h2)
 |call c=>rw[ho] at hr;exact MY ht hh hf hr
 |defer c=>rw[ho] at hr;exact Jl ht hr
 |_=>rw[ho] at hr;cases hr
end
structure Mod(h h':Hs):Prop where
 next:h.next<=h'.next
 log: ∃l,h'.log=l++h.log/\(∀b,b∈l->h.heap.get b≠none\/(h.next<=b/\b<h'.next))/\ ∀b,(b<h.next\/h'.next<=b)->b ∉ l->h'.heap.get b=h.heap.get b
theorem Mod.refl(h:Hs):Mod h h:=⟨Nat.le_refl _,[],rfl,fun _ hb=>(by cases hb),fun _ _ _=>rfl⟩
theorem Mod.trans{a b c:Hs}(h:Mod a b)(k:Mod b c):Mod a c:=by
 obtain⟨l,h1,h3,h2⟩:=h.log
 obtain⟨m,k1,k3,k2⟩:=k.log
 have hn:=h.next
 have kn:=k.next
 refine⟨Nat.le_trans h.next k.next,m++l,by rw[k1,h1,List.append_assoc],fun x hx=>?_,fun x hx hm=>?_⟩
 ·have first:x∈l->a.heap.get x≠none\/(a.next<=x/\x<c.next):=fun hl=>by
   rcases h3 x hl with q|q
   ·exact .inl q
   ·exact .inr (by omega)
  rcases List.mem_append.1 hx with hm|hl
  ·rcases k3 x hm with q|q
   ·by_cases hl:x∈l
    ·exact first hl
    ·by_cases hr:a.next<=x/\x<b.next
     ·exact .inr (by omega)
     ·exact .inl (by rw[←h2 x (by omega) hl];exact q)
   ·exact .inr (by omega)
  ·exact first hl
 ·rw[List.mem_append,not_or] at hm
  rw[k2 x (by omega) hm.1,h2 x (by omega) hm.2]
theorem Mod.new(h:Hs)(o:aa):Mod h (bV h o):=
 ⟨Nat.le_succ _,[],rfl,fun _ hb=>(by cases hb),fun b hb _=>by
   simp only[bV,T.aP] at hb ⊢
   rw[if_neg (by omega)]⟩
theorem Mod.set(h:Hs)(b:Nat)(o:aa){o0:aa}(hb:h.heap.get b=some o0):Mod h {h with heap:=h.heap.set b o,log:=b::h.log}:=
 ⟨Nat.le_refl _,[b],rfl,fun i hi=>by rw[List.mem_singleton.1 hi,hb];exact .inl (by simp),fun i _ hi=>by
   simp only[T.aP]
   rw[if_neg (by simpa using hi)]⟩
theorem Mod.So(h:Hs)(b:Nat)(o:aa){o0:aa}(hb:h.heap.get b=some o0):Mod h {heap:=(h.heap.del b).set h.next o,next:=h.next+1,log:=b::h.log}:=
 ⟨Nat.le_succ _,[b],rfl,fun i hi=>by rw[List.mem_singleton.1 hi,hb];exact .inl (by simp),fun i hb hi=>by
   simp only[T.aP,T.fP] at hb ⊢
   rw[if_neg (by omega),if_neg (by simpa using hi)]⟩
theorem Mod.skip(h:Hs):Mod h {h with next:=h.next+1}:=⟨Nat.le_succ _,[],rfl,fun _ hb=>(by cases hb),fun _ _ _=>rfl⟩
theorem Mod.write{h h':Hs}{b off:Nat}{vs:List Value}(hr:dz h b off vs=some h'):Mod h h':=by
 unfold dz at hr
 repeat' (split at hr)
 all_goals first|(cases hr;exact Mod.set _ _ _ (by assumption))|cases hr
def bR.hs(h:Hs):bR->Hs
 | .val _ h'| .skip h'=>h'
 |_=>h
section
variable{P:Program}{h:Hs}{r:bR}
theorem BB{ats:List TypeId}{s x:Value}(hr:fR P h ats s x=some r):Mod h (r.hs h):=by
 unfold fR at hr
 repeat' (split at hr)
 all_goals first
  |(cases hr;exact Mod.refl _)
  |(cases hr;exact Mod.new _ _)
  |(cases hr;exact Mod.So _ _ _ (by assumption))
  |(cases hr;exact Mod.write (by assumption))
  |cases hr
theorem yS{b:Builtin}{ats:List TypeId}{l:List Value}(hr:br P h b ats l=some r):Mod h (r.hs h):=by
 unfold br at hr
 split at hr
 ·exact BB hr
 all_goals
  repeat' (split at hr)
  all_goals first
   |(cases hr;exact Mod.refl _)
   |(cases hr;exact Mod.set _ _ _ (by assumption))
   |(cases hr;exact Mod.write (by assumption))
   |cases hr
theorem yR{s d:TypeId}{x:Value}(hr:nh P h s d x=some r):Mod h (r.hs h):=by
 unfold nh at hr
 repeat' (split at hr)
 all_goals first
  |(cases hr;exact Mod.refl _)
  |(cases hr;exact Mod.new _ _)
  |cases hr
theorem BA{fn:Func}{args:List Value}(hr:qn P h fn args=some r):Mod h (r.hs h):=by
 unfold qn at hr
 repeat' (split at hr)
 all_goals first
  |(cases hr;exact Mod.refl _)
  |(cases hr;exact Mod.new _ _)
  |cases hr
theorem Gb{tm:Tm}{c:Call}(hr:kq P tm h c=some r):Mod h (r.hs h):=by
 unfold kq at hr
 repeat' (split at hr)
 all_goals first
  |exact yS hr
  |exact BA hr
  |(cases hr;exact Mod.refl _)
  |cases hr
theorem yQ{tm:Tm}{size:Nat}{a:Option Addr}{len cap:Nat}{lo hi mx:Option Operand}(hr:gR h tm size a len cap lo hi mx=some r):Mod h (r.hs h):=by
 unfold gR at hr
 repeat' (split at hr)
 all_goals first
  |(cases hr;exact Mod.refl _)
  |(cases hr;exact Mod.skip _)
  |(cases hr;exact Mod.So _ _ _ (by assumption))
  |cases hr
theorem Dc{tm:Tm}{xt:TypeId}{x:Value}{lo hi mx:Option Operand}(hr:lU P tm h xt x lo hi mx=some r):Mod h (r.hs h):=by
 unfold lU at hr
 repeat' (split at hr)
 all_goals first
  |exact yQ hr
  |(cases hr;exact Mod.refl _)
  |cases hr
theorem kj{tm:Tm}{o:Oper}(hr:dN P tm h o=some r):Mod h (r.hs h):=by
 unfold dN at hr
 split at hr
 all_goals first
  |exact Gb hr
  |(unfold iu at hr;split at hr;· exact Dc hr
    ·cases hr)
  |(unfold iu at hr;split at hr;· exact yR hr
    ·cases hr)
  |skip
 all_goals
  (try unfold iu at hr)
  (try unfold jX at hr)
  (try unfold Cs at hr)
  (try unfold vk at hr)
  (try unfold iX at hr)
  (try unfold vg at hr)
  (try unfold o9 at hr)
  (try unfold nN at hr)
  (try unfold yM at hr)
  (try unfold iB at hr)
  (try unfold lX at hr)
  (try unfold yU at hr)
  (try unfold iC at hr)
  (try unfold yT at hr)
  (try unfold nP at hr)
  (try unfold iA at hr)
  (try unfold nO at hr)
  (try unfold ko at hr)
  (try unfold yP at hr)
  (try unfold Eu at hr)
  (try unfold vi at hr)
  (try unfold qm at hr)
  (try unfold qX at hr)
  repeat' (first|split at hr|(dsimp only at hr;split at hr))
  all_goals first
   |(cases hr;exact Mod.refl _)
   |(cases hr;exact Mod.new _ _)
   |(cases hr;exact Mod.set _ _ _ (by assumption))
   |(cases hr;exact Mod.write (by assumption))
   |cases hr
end
end Go.AV
namespace Go
def Code.sK(F:Fence)(n:Nat)(P:Program)(b:Code)(Q:Exit->Act->World->Prop):Nat->Code->Act->World->Prop
 |0,_,_,_=>False
 |m+1,cur,a,w=>cur.wpIn F n P (fun e a' w'=>match e with
   | .goto l=>(match findLabel b l with
     |some rest=>Code.sK F n P b Q m rest a' w'
     |none=>Q (.goto l) a' w')
   |e=>Q e a' w') a w
theorem fp{F:Fence}{n:Nat}{P:Program}{c:Code}{Q:Exit->Act->World->Prop}{a:Act}{w:World}(m:Nat)(h:Code.sK F n P c Q m c a w):
 (Code.scope c).wpIn F n P Q a w:=by
 intro b k cs hro hb hr
 have s1: ∀{a w},step P (lone (b.atR a (.code (.scope c)::k)) cs w)= .next (lone (b.atR a (.code c:: .inScope c::k)) cs w):=step_lone_go (by simp[stepG,stepG.exec,Frame.atR])
 have s2: ∀{a w},step P (lone (b.atR a (.inScope c::k)) cs w)= .next (lone (b.atR a k) cs w):=step_lone_go (by simp[stepG,stepG.exec,Frame.atR])
 have key: ∀m cur a w,Code.sK F n P c Q m cur a w->
  ∃e a' w',Q e a' w'/\ArrivesIn (Machine.fenced P F) P (lone (b.atR a (.code cur:: .inScope c::k)) cs w) b k cs e a' w':=by
  intro m
  induction m with
  |zero=>intro cur a w h;exact h.elim
  |succ m ih=>
   intro cur a w h
   obtain⟨e,a₁,w₁,hq,harr⟩:=h b (.inScope c::k) cs hro hb hr
   cases e with
   |normal=>exact⟨.normal,a₁,w₁,hq,StepsIn.trans harr (.one (fenced_calm hb hr rfl) s2)⟩
   |exit id=>
    have hx:exitTo id (.inScope c::k)=exitTo id k:=by simp[exitTo]
    exact⟨.exit id,a₁,w₁,hq,fun k' hk=>harr.1 k' (by rw[hx];exact hk),fun hr' hk=>harr.2 hr' (by rw[hx];exact hk)⟩
   |goto l=>
    cases hf:findLabel c l with
    |some rest=>
     simp only[hf] at hq
     have hg:gotoIn l (.inScope c::k)=some (.code rest:: .inScope c::k):=by simp[gotoIn,hf]
     obtain⟨e₂,a₂,w₂,hq₂,harr₂⟩:=ih _ _ _ hq
     exact⟨e₂,a₂,w₂,hq₂, .of_steps (harr.1 _ hg) harr₂⟩
    |none=>
     simp only[hf] at hq
     have hg:gotoIn l (.inScope c::k)=gotoIn l k:=by simp[gotoIn,hf]
     exact⟨.goto l,a₁,w₁,hq,fun k' hk=>harr.1 k' (by rw[hg];exact hk),fun hr' hk=>harr.2 hr' (by rw[hg];exact hk)⟩
   |ret=>exact⟨_,a₁,w₁,hq,harr⟩
   |panic ch=>exact⟨_,a₁,w₁,hq,harr⟩
   |outgrown=>exact⟨_,a₁,w₁,hq,harr⟩
 obtain⟨e,a',w',hq,harr⟩:=key m c a w h
 exact⟨e,a',w',hq, .of_steps (.one (fenced_calm hb hr rfl) s1) harr⟩
end Go
namespace Go.AV
inductive B9 (ρ:Ren):List nZ->List Deferred->Prop where
 |nil:B9 ρ [] []
 |cons (d:nZ) (d':Deferred) (l:List nZ) (l':List Deferred) (h:DR ρ d d') (k:B9 ρ l l'):B9 ρ (d::l) (d'::l')
theorem DR.mono{ρ ρ':Ren}(hl:ρ.le ρ'){d:nZ}{d':Deferred}(h:DR ρ d d'):DR ρ' d d':=by
 cases d with
 |call f args captured=>obtain⟨a,c,h1,h2,h3⟩:=h;exact⟨a,c,h1,h2.mono hl,h3.mono hl⟩
 |mark r=>obtain⟨L,h1,h2⟩:=h;exact⟨L,hl _ _ h1,h2⟩
theorem B9.mono{ρ ρ':Ren}(hl:ρ.le ρ'): ∀{l:List nZ} {l':List Deferred},B9 ρ l l'->B9 ρ' l l'
 |_,_, .nil=> .nil
 |_,_, .cons _ _ _ _ h k=> .cons _ _ _ _ (h.mono hl) (k.mono hl)
structure eS(ρ:Ren)(fr:Fr)(a:Act):Prop where
 tr:TR ρ fr.tm fr.n a.tmps
 ds:B9 ρ fr.gh a.defers
theorem eS.mono{ρ ρ':Ren}(hl:ρ.le ρ'){fr:Fr}{a:Act}(h:eS ρ fr a):eS ρ' fr a:=⟨h.tr.mono hl,h.ds.mono hl⟩
theorem qI(tm:Tm)(d:Nat)(v:Value)(t:Nat):rd (tm.set d v) t=if t=d then v else rd tm t:=by
 unfold rd
 rw[T.aP]
 by_cases ht:t=d
 ·rw[if_pos ht,if_pos ht]
 ·rw[if_neg ht,if_neg ht]
theorem TR.put{ρ:Ren}{tm:Tm}{n:Nat}{tmps:Array Value}(h:TR ρ tm n tmps){d:Nat}(hd:d<n){v v':Value}(hv:VR ρ v v'):TR ρ (tm.set d v) n (tmps.setIfInBounds d v'):=by
 refine⟨by rw[Array.size_setIfInBounds];exact h.1,fun t=>?_⟩
 rw[qI]
 by_cases ht:t=d
 ·subst ht
  rw[if_pos rfl]
  have:(tmps.setIfInBounds t v').getD t undef=v':=by simp[Array.getD,h.1,hd]
  rw[this];exact .inr hv
 ·rw[if_neg ht]
  have:(tmps.setIfInBounds d v').getD t undef=tmps.getD t undef:=by
   simp only[Array.getD_eq_getD_getElem?]
   rw[Array.getElem?_setIfInBounds_ne (by omega)]
  rw[this];exact h.2 t
theorem Fr.kz{ρ:Ren}{fr fr':Fr}{a:Act}(h:eS ρ fr a){d:Option Tmp}{v v':Value}(hv:VR ρ v v')(hp:fr.put d v=some fr'):eS ρ fr' (a.put d v'):=by
 unfold Fr.put at hp
 split at hp
 ·split at hp
  ·rename_i d hd
   cases hp
   exact⟨h.tr.put (by rw[Nat.blt_eq] at hd;exact hd) hv,h.ds⟩
  ·cases hp
 ·cases hp
  exact h
theorem qM{α:Type}: ∀(l:List α)(i:Nat),nth l i=l[i]?
 |[],i=>by simp[nth]
 |a::l,0=>rfl
 |a::l,i+1=>by simp[nth,qM l i]
theorem jD{ρ:Ren}{ops:Array Oper}{tm:Tm}{n:Nat}{a:Act}(h:TR ρ tm n a.tmps){o:Oper}{b:Bool}(hw:gk ops tm o=some b):
 Region.wanted o (yielded ops a.tmps)=b:=by
 unfold gk at hw
 unfold Region.wanted
 split at hw
 ·rename_i hg
  cases hw
  simp[hg]
 ·rename_i j want hg
  simp only[hg]
  have hn:nth ops.toList j=ops[j]? :=by rw[qM];simp
  rw[hn] at hw
  unfold yielded
  split at hw
  ·rename_i d hd
   have hd':(ops[j]?).bind (·.dst)=some d:=hd
   rw[hd']
   have hv:=h.2 d
   simp only[Option.bind_some]
   split at hw
   ·rename_i b' hb
    cases hw
    rw[hb] at hv
    replace hv:=hv.vr (fun e=>by cases e)
    generalize hx:a.tmps.getD d undef=x at hv
    cases hv
    have hsome:a.tmps[d]? =some (.bool b'):=by
     rw[Array.getD_eq_getD_getElem?] at hx
     cases he:a.tmps[d]? with
     |none=>rw[he] at hx;simp[undef] at hx
     |some y=>rw[he] at hx;simp at hx;rw[hx]
    rw[hsome]
    cases b'<;>cases want<;>rfl
   ·rename_i b' hb
    cases hw
    rw[hb] at hv
    replace hv:=hv.vr (fun e=>by cases e)
    generalize hx:a.tmps.getD d undef=x at hv
    have hx': ∃l,x= .tuple l:=by
     cases hv with
     |sc _ hs=>simp[AV.simple] at hs
     |tuple _ l _=>exact⟨_,rfl⟩
    obtain⟨l,rfl⟩:=hx'
    rw[Array.getD_eq_getD_getElem?] at hx
    cases he:a.tmps[d]? with
    |none=>simp
    |some y=>rw[he] at hx;simp at hx;subst hx;simp
   ·cases hw
  ·rename_i hd
   cases hw
   have hd':(ops[j]?).bind (·.dst)=none:=hd
   rw[hd']
   simp
def gq:af->Exit
 | .normal=> .normal
 | .exit i=> .exit i
 | .goto l=> .goto l
 | .ret=> .ret
def vG(ρ:Ren)(h:Hs)(w:World)(fr':Fr)(h':Hs)(a':Act)(w':World):Prop:=
 ∃ρ',eS ρ' fr' a'/\aJ ρ' h'.heap.get w'/\Step ρ h.heap.get w ρ' h'.heap.get w' h.next h'.next
def nk(ρ:Ren)(h:Hs)(w:World)(e:af)(fr':Fr)(h':Hs)(e':Exit)(a':Act)(w':World):Prop:=
 e'=gq e/\vG ρ h w fr' h' a' w'
def NB(ρ:Ren)(h:Hs)(w:World)(v:Value)(h':Hs)(e:Ending)(w':World):Prop:=
 ∃ρ' v',e= .returned v'/\VR ρ' v v'/\aJ ρ' h'.heap.get w'/\Step ρ h.heap.get w ρ' h'.heap.get w' h.next h'.next
def dM(P:Program)(call:cM):Prop:= ∀f args h v h',call f args h=some (v,h')->Mod h h'/\
 ∀ρ w args' n,cT ρ args args'->aJ ρ h.heap.get w->bA ρ h.next h'.next->CallsIn Fence.wide n P f ⟨args'⟩ w (NB ρ h w v h')
def ib(P:Program)(round:cM):Prop:= ∀l args h v h',round l args h=some (v,h')->Mod h h'/\
 ∀ρ w args' n L,ρ l=some L->cT ρ args args'->aJ ρ h.heap.get w->bA ρ h.next h'.next->
  ∃f tmps assign body,(Instr.yield L.φ ⟨args'⟩).run P w= .ok (.round L.φ f tmps assign body) w/\RoundIn Fence.wide n P L.φ f tmps assign body w (NB ρ h w v h')
def cg(ρ:Ren):Option Nat->Fence->Prop
 |none,F=>F=Fence.wide
 |some l,F=> ∃L,ρ l=some L/\F=Fence.wide.inRound L.φ
theorem cg.mono{ρ ρ':Ren}(hl:ρ.le ρ'){r:Option Nat}{F:Fence}(h:cg ρ r F):cg ρ' r F:=by
 cases r with
 |none=>exact h
 |some l=>obtain⟨L,a,b⟩:=h;exact⟨L,hl _ _ a,b⟩
theorem cg.fn{ρ:Ren}{r:Option Nat}{F:Fence}(h:cg ρ r F)(f:FuncId):F.fn f:=by
 cases r with
 |none=>cases h;trivial
 |some l=>obtain⟨L,a,rfl⟩:=h;trivial
theorem cg.depth{ρ:Ren}{r:Option Nat}{F:Fence}(h:cg ρ r F):F.depth=none:=by
 cases r with
 |none=>cases h;rfl
 |some l=>obtain⟨L,a,rfl⟩:=h;rfl
theorem cg.calls{ρ:Ren}{r:Option Nat}{F:Fence}(h:cg ρ r F){n:Nat}{P:Program}{f:FuncId}{args:Array Value}{w:World}{R:Ending->World->Prop}(hc:CallsIn Fence.wide n P f args w R):CallsIn F n P f args w R:=by
 cases r with
 |none=>cases h;exact hc
 |some l=>obtain⟨L,a,rfl⟩:=h;exact hc
theorem cg.round{ρ:Ren}{r:Option Nat}{F:Fence}(h:cg ρ r F){n:Nat}{P:Program}{l:Nat}{f:FuncId}{tmps:Array Value}{assign body:Code}{w:World}{R:Ending->World->Prop}(hc:RoundIn Fence.wide n P l f tmps assign body w R):RoundIn F n P l f tmps assign body w R:=by
 cases r with
 |none=>cases h;exact hc
 |some l=>obtain⟨L,a,rfl⟩:=h;exact hc
def rf(P:Program)(ex:vF):Prop:= ∀rdd c fr h e fr' h',ex rdd c fr h=some (e,fr',h')->Mod h h'/\
 ∀ρ w a n F,cg ρ rdd F->eS ρ fr a->aJ ρ h.heap.get w->bA ρ h.next h'.next->c.wpIn F n P (nk ρ h w e fr' h') a w
theorem bA.sub{ρ:Ren}{a b c d:Nat}(h:bA ρ a b)(h1:a<=c)(h2:d<=b):bA ρ c d:=fun x hx hy=>h x (by omega) (by omega)
theorem Step.fresh{ρ ρ':Ren}{H H':HF}{w w':World}{lo mid hi:Nat}(h:Step ρ H w ρ' H' w' lo mid)(hf:bA ρ lo hi)(hm:lo<=mid):bA ρ' mid hi:=
 fun b hb hc=>by rw[h.vB b (.inr hb)];exact hf b (by omega) hc
theorem vG.trans{ρ ρ1:Ren}{h h1 h2:Hs}{w w1 w2:World}{fr2:Fr}{a2:Act}(hs:Step ρ h.heap.get w ρ1 h1.heap.get w1 h.next h1.next)(h01:h.next<=h1.next)(h12:h1.next<=h2.next)
 (k:vG ρ1 h1 w1 fr2 h2 a2 w2):vG ρ h w fr2 h2 a2 w2:=by
 obtain⟨ρ',a,b,c⟩:=k
 exact⟨ρ',a,b,hs.trans c h01 h12⟩
section
variable{P:Program}
theorem F9{tm:Tm}{h:Hs}{o:Oper}{r:bR}(hr:dN P tm h o=some r){c:Call}(hc:o.op= .defer c): ∃d,r= .gh d:=by
 unfold dN at hr
 rw[hc] at hr
 dsimp only at hr
 unfold qX at hr
 repeat' (split at hr)
 all_goals first|(cases hr;exact⟨_,rfl⟩)|cases hr
theorem mB{tm:Tm}{h:Hs}{o:Oper}{r:bR}(hr:dN P tm h o=some r)(hd: ∀d,r≠ .gh d)(ro:Option Nat)(e:Operand->Value):o.semAt ro e=execOp e o:=
 Oper.semAt_eq ro e o fun _ hc=>let ⟨d,h⟩:=F9 hr hc;hd d h
theorem Ct{F:Fence}{ρ:Ren}{h:Hs}{w:World}{fr fr1:Fr}{a:Act}{o:Oper}{v:Value}{h1:Hs}(hF: ∀f,F.fn f)(hfr:eS ρ fr a)(hh:aJ ρ h.heap.get w)(hf:bA ρ h.next h1.next)
 (hr:dN P fr.tm h o=some (.val v h1)) (hp:fr.put o.dst v=some fr1) {n:Nat} {K:Act->World->Prop} {Q:Exit->Act->World->Prop} (hK: ∀a' w',vG ρ h w fr1 h1 a' w'->K a' w'):o.wpIn F n P a w K Q:=by
 obtain⟨ρ',v',w',e1,e2,e3,e4⟩:=jB (r:= .val v h1) hfr.tr hh hf hr
 refine⟨fun f _=>hF f,?_⟩
 rw[mB hr (fun _ h=>by cases h),e1]
 exact hK _ _ ⟨ρ',Fr.kz (hfr.mono e4.ext) e2 hp,e3,e4⟩
theorem yc{F:Fence}{ρ:Ren}{h:Hs}{w:World}{fr fr1:Fr}{a:Act}{o:Oper}{h1:Hs}(hF: ∀f,F.fn f)(hfr:eS ρ fr a)(hh:aJ ρ h.heap.get w)(hf:bA ρ h.next h1.next)
 (hr:dN P fr.tm h o=some (.skip h1)) (hp:fr.put o.dst undef=some fr1) {n:Nat} {K:Act->World->Prop} {Q:Exit->Act->World->Prop} (hK: ∀a' w',vG ρ h w fr1 h1 a' w'->K a' w'):o.wpIn F n P a w K Q:=by
 obtain⟨ρ',w',e1,e3,e4⟩:=jB (r:= .skip h1) hfr.tr hh hf hr
 refine⟨fun f _=>hF f,?_⟩
 rw[mB hr (fun _ h=>by cases h),e1]
 exact hK _ _ ⟨ρ',Fr.kz (hfr.mono e4.ext) .undef hp,e3,e4⟩
theorem DQ{call:cM}(hc:dM P call){F:Fence}{rdd:Option Nat}{ρ:Ren}{h:Hs}{w:World}{fr fr1:Fr}{a:Act}{o:Oper}{v:Value}{f:Nat}{args:List Value}{h1:Hs}(hF:cg ρ rdd F)(hfr:eS ρ fr a)
 (hh:aJ ρ h.heap.get w) (hf:bA ρ h.next h1.next) {g:Hs} (hg:aJ ρ g.heap.get w)
 (hr:dN P fr.tm g o=some (.call f args)) (hcall:call f args h=some (v,h1)) (hp:fr.put o.dst v=some fr1) {n:Nat} {K:Act->World->Prop} {Q:Exit->Act->World->Prop} (hK: ∀a' w',vG ρ h w fr1 h1 a' w'->K a' w'):o.wpIn F n P a w K Q:=by
 obtain⟨args',e1,e2⟩:=jB hfr.tr hg (fun b h1 h2=>absurd h2 (by simp only[bR.next];omega)) hr
 refine⟨fun f _=>hF.fn f,?_⟩
 rw[mB hr (fun _ h=>by cases h),e1]
 refine⟨fun hd=>absurd hd (by rw[hF.depth];simp),?_⟩
 refine CallsIn.mono (hF.calls ((hc _ _ _ _ _ hcall).2 ρ w args' (n - 1) e2 hh hf)) fun e w' hgot=>?_
 obtain⟨ρ',v',rfl,g1,g2,g3⟩:=hgot
 exact hK _ _ ⟨ρ',Fr.kz (hfr.mono g3.ext) g1 hp,g2,g3⟩
theorem Ad{round:cM}(hc:ib P round){F:Fence}{rdd:Option Nat}{ρ:Ren}{h:Hs}{w:World}{fr fr1:Fr}{a:Act}{o:Oper}{v:Value}{f:Nat}{args:List Value}{h1:Hs}(hF:cg ρ rdd F)(hfr:eS ρ fr a)
 (hh:aJ ρ h.heap.get w) (hf:bA ρ h.next h1.next) {g:Hs} (hg:aJ ρ g.heap.get w)
 (hr:dN P fr.tm g o=some (.round f args)) (hcall:round f args h=some (v,h1)) (hp:fr.put o.dst v=some fr1) {n:Nat} {K:Act->World->Prop} {Q:Exit->Act->World->Prop} (hK: ∀a' w',vG ρ h w fr1 h1 a' w'->K a' w'):o.wpIn F n P a w K Q:=by
 obtain⟨L,args',hL,e1,e2⟩:=jB hfr.tr hg (fun b h1 h2=>absurd h2 (by simp only[bR.next];omega)) hr
 obtain⟨f,tmps,assign,body,y1,y2⟩:=(hc _ _ _ _ _ hcall).2 ρ w args' (n - 1) L hL e2 hh hf
 refine⟨fun f _=>hF.fn f,?_⟩
 rw[mB hr (fun _ h=>by cases h),e1,y1]
 refine⟨fun hd=>absurd hd (by rw[hF.depth];simp),?_⟩
 refine RoundIn.mono (hF.round y2) fun e w' hgot=>?_
 obtain⟨ρ',v',rfl,g1,g2,g3⟩:=hgot
 exact hK _ _ ⟨ρ',Fr.kz (hfr.mono g3.ext) g1 hp,g2,g3⟩
theorem Pq{F:Fence}{ρ:Ren}{h:Hs}{w:World}{fr fr1:Fr}{a:Act}{o:Oper}{d:nZ}(hF: ∀f,F.fn f)(hF0:F.round=none)(hfr:eS ρ fr a)(hh:aJ ρ h.heap.get w)
 (hr:dN P fr.tm h o=some (.gh d)) (hp:({fr with gh:=d::fr.gh}:Fr).put o.dst undef=some fr1) {n:Nat} {K:Act->World->Prop} {Q:Exit->Act->World->Prop} (hK: ∀a' w',vG ρ h w fr1 h a' w'->K a' w'):o.wpIn F n P a w K Q:=by
 obtain⟨d',e1,e2⟩:=jB hfr.tr hh (fun b h1 h2=>absurd h2 (by simp only[bR.next];omega)) hr
 refine⟨fun f _=>hF f,?_⟩
 rw[hF0,Oper.semAt_none,e1]
 exact hK _ _ ⟨ρ,Fr.kz (fr:={fr with gh:=d::fr.gh}) (a:={a with defers:=d'::a.defers}) ⟨hfr.tr, .cons _ _ _ _ e2 hfr.ds⟩ .undef hp,hh,Step.refl _ _ _ _ _⟩
theorem DO{call round:cM}(hc:dM P call)(hr:ib P round){rdd:Option Nat}{ops:Array Oper}: ∀(l:List Oper)(fr:Fr)(h:Hs)(fr':Fr)(h':Hs),uf P call round rdd ops l fr h=some (fr',h')->Mod h h'/\
 ∀(ρ:Ren)(w:World)(a:Act)(n:Nat)(F:Fence),cg ρ rdd F->eS ρ fr a->aJ ρ h.heap.get w->bA ρ h.next h'.next-> ∀Q:Exit->Act->World->Prop,(∀a' w',vG ρ h w fr' h' a' w'->Q .normal a' w')->wpListIn F n P ops Q l a w
 |[],fr,h,fr',h',he=>by
  simp only[uf,Option.some.injEq,Prod.mk.injEq] at he
  obtain⟨rfl,rfl⟩:=he
  exact⟨Mod.refl _,fun ρ w a n F hF hfr hh hf Q hQ=>hQ _ _ ⟨ρ,hfr,hh,Step.refl _ _ _ _ _⟩⟩
 |o::l,fr,h,fr',h',he=>by
  have go: ∀(fr1:Fr)(h1:Hs),Mod h h1->uf P call round rdd ops l fr1 h1=some (fr',h')->
   Mod h h'/\h1.next<=h'.next/\ ∀(ρ:Ren)(w:World)(n:Nat)(F:Fence),cg ρ rdd F->bA ρ h.next h'.next-> ∀Q:Exit->Act->World->Prop,(∀a' w',vG ρ h w fr' h' a' w'->Q .normal a' w')->
    ∀a' w',vG ρ h w fr1 h1 a' w'->wpListIn F n P ops Q l a' w':=by
   intro fr1 h1 hm ho
   obtain⟨m1,k1⟩:=DO hc hr l fr1 h1 fr' h' ho
   refine⟨hm.trans m1,m1.next,fun ρ w n F hF hf Q hQ a' w' haft=>?_⟩
   obtain⟨ρ',x1,x2,x3⟩:=haft
   exact k1 ρ' w' a' n F (hF.mono x3.ext) x1 x2 (x3.fresh hf hm.next) Q fun a2 w2 k=>hQ _ _ (vG.trans x3 hm.next m1.next k)
  simp only[uf] at he
  split at he
  ·cases he
  ·rename_i hw
   split at he
   ·rename_i fr1 hp
    obtain⟨g1,g2,g3⟩:=go fr1 h (Mod.refl _) he
    refine⟨g1,fun ρ w a n F hF hfr hh hf Q hQ=>?_⟩
    simp only[wpListIn,jD hfr.tr hw,Bool.false_eq_true,if_false]
    exact⟨fun f _=>hF.fn f,g3 ρ w n F hF hf Q hQ _ _ ⟨ρ,Fr.kz hfr .undef hp,hh,Step.refl _ _ _ _ _⟩⟩
   ·cases he
  ·rename_i hw
   have wl: ∀{ρ:Ren} {a:Act} {w:World} {n:Nat} {F:Fence} {Q:Exit->Act->World->Prop},eS ρ fr a->o.wpIn F n P a w (wpListIn F n P ops Q l) Q->wpListIn F n P ops Q (o::l) a w:=by
    intro ρ a w n F Q hfr hwp
    simp only[wpListIn,jD hfr.tr hw,if_true]
    exact hwp
   split at he
   ·cases he
   ·rename_i v h1 ha
    split at he
    ·rename_i fr1 hp
     have hm:=kj ha
     obtain⟨g1,g2,g3⟩:=go fr1 h1 hm he
     exact⟨g1,fun ρ w a n F hF hfr hh hf Q hQ=>wl hfr (Ct hF.fn hfr hh (hf.sub (Nat.le_refl _) g2) ha hp (g3 ρ w n F hF hf Q hQ))⟩
    ·cases he
   ·rename_i h1 ha
    split at he
    ·rename_i fr1 hp
     have hm:=kj ha
     obtain⟨g1,g2,g3⟩:=go fr1 h1 hm he
     exact⟨g1,fun ρ w a n F hF hfr hh hf Q hQ=>wl hfr (yc hF.fn hfr hh (hf.sub (Nat.le_refl _) g2) ha hp (g3 ρ w n F hF hf Q hQ))⟩
    ·cases he
   ·rename_i f args ha
    split at he
    ·rename_i v h1 hcall
     split at he
     ·rename_i fr1 hp
      obtain⟨g1,g2,g3⟩:=go fr1 h1 (hc _ _ _ _ _ hcall).1 he
      exact⟨g1,fun ρ w a n F hF hfr hh hf Q hQ=>wl hfr (DQ hc hF hfr hh (hf.sub (Nat.le_refl _) g2) hh ha hcall hp (g3 ρ w n F hF hf Q hQ))⟩
     ·cases he
    ·cases he
   ·rename_i f args ha
    split at he
    ·rename_i v h1 hcall
     split at he
     ·rename_i fr1 hp
      obtain⟨g1,g2,g3⟩:=go fr1 h1 (hr _ _ _ _ _ hcall).1 he
      exact⟨g1,fun ρ w a n F hF hfr hh hf Q hQ=>wl hfr (Ad hr hF hfr hh (hf.sub (Nat.le_refl _) g2) hh ha hcall hp (g3 ρ w n F hF hf Q hQ))⟩
     ·cases he
    ·cases he
   ·rename_i d ha
    split at he
    ·split at he
     ·rename_i fr1 hp
      obtain⟨g1,g2,g3⟩:=go fr1 h (Mod.refl _) he
      exact⟨g1,fun ρ w a n F hF hfr hh hf Q hQ=>wl hfr (Pq hF.fn (by cases hF;rfl) hfr hh ha hp (g3 ρ w n F hF hf Q hQ))⟩
     ·cases he
    ·cases he
end
section
variable{P:Program}
def iD(P:Program):Prop:= ∀(call round:cM),dM P call->ib P round-> ∀(rdd:Option Nat)(ops:Array Oper)(ms:List Nat)(fr:Fr)(h:Hs)(fr':Fr)(h':Hs),
 tY ops=some ms->iS P call round ops ops.toList 0 ms [] fr h=some (fr',h')->Mod h h'/\
  ∀(ρ:Ren)(w:World)(a:Act)(n:Nat)(F:Fence),cg ρ rdd F->eS ρ fr a->aJ ρ h.heap.get w->bA ρ h.next h'.next-> ∀(Q:Exit->Act->World->Prop)(id:Nat),
   (∀a' w',vG ρ h w fr' h' a' w'->Q .normal a' w')->(Code.region id ops true).wpIn F n P Q a w
theorem uA{ex:vF}(hex:rf P ex): ∀(m:Nat)(b:Code)(rdd:Option Nat)(fr:Fr)(h:Hs)(e:af)(fr':Fr)(h':Hs),wW ex m b rdd fr h=some (e,fr',h')->Mod h h'/\
 ∀(ρ:Ren)(w:World)(a:Act)(n:Nat)(F:Fence),cg ρ rdd F->eS ρ fr a->aJ ρ h.heap.get w->bA ρ h.next h'.next-> ∀Q:Exit->Act->World->Prop,
  (∀e' a' w',nk ρ h w e fr' h' e' a' w'->Q e' a' w')->Code.roundsIn F n P b Q m a w
 |0,b,rdd,fr,h,e,fr',h',he=>by simp[wW] at he
 |m+1,b,rdd,fr,h,e,fr',h',he=>by
  simp only[wW] at he
  split at he
  ·rename_i fr1 h1 hb
   obtain⟨m1,k1⟩:=hex _ _ _ _ _ _ _ hb
   obtain⟨m2,k2⟩:=uA hex m b rdd fr1 h1 e fr' h' he
   refine⟨m1.trans m2,fun ρ w a n F hF hfr hh hf Q hQ=>?_⟩
   rw[roundsIn_succ]
   refine wpIn_mono (k1 ρ w a n F hF hfr hh (hf.sub (Nat.le_refl _) m2.next)) fun e' a' w' hp=>?_
   obtain⟨rfl,ρ1,x1,x2,x3⟩:=hp
   exact k2 ρ1 w' a' n F (hF.mono x3.ext) x1 x2 (x3.fresh hf m1.next) Q fun e2 a2 w2 ⟨y1,y2⟩=>hQ _ _ _ ⟨y1,vG.trans x3 m1.next m2.next y2⟩
  ·rename_i hne
   obtain⟨m1,k1⟩:=hex _ _ _ _ _ _ _ he
   refine⟨m1,fun ρ w a n F hF hfr hh hf Q hQ=>?_⟩
   rw[roundsIn_succ]
   refine wpIn_mono (k1 ρ w a n F hF hfr hh hf) fun e' a' w' hp=>?_
   have hp':=hp
   obtain⟨rfl,-⟩:=hp'
   cases e with
   |normal=>exact(hne _ _ he).elim
   |exit i=>exact hQ _ _ _ hp
   |goto l=>exact hQ _ _ _ hp
   |ret=>exact hQ _ _ _ hp
theorem qD{ex:vF}(hex:rf P ex): ∀(m:Nat)(b cur:Code)(rdd:Option Nat)(fr:Fr)(h:Hs)(e:af)(fr':Fr)(h':Hs),qE ex m b cur rdd fr h=some (e,fr',h')->Mod h h'/\
 ∀(ρ:Ren)(w:World)(a:Act)(n:Nat)(F:Fence),cg ρ rdd F->eS ρ fr a->aJ ρ h.heap.get w->bA ρ h.next h'.next-> ∀Q:Exit->Act->World->Prop,
  (∀e' a' w',nk ρ h w e fr' h' e' a' w'->Q e' a' w')->Code.sK F n P b Q m cur a w
 |0,b,cur,rdd,fr,h,e,fr',h',he=>by simp[qE] at he
 |m+1,b,cur,rdd,fr,h,e,fr',h',he=>by
  simp only[qE] at he
  split at he
  ·rename_i l fr1 h1 hb
   obtain⟨m1,k1⟩:=hex _ _ _ _ _ _ _ hb
   split at he
   ·rename_i rest hl
    obtain⟨m2,k2⟩:=qD hex m b rest rdd fr1 h1 e fr' h' he
    refine⟨m1.trans m2,fun ρ w a n F hF hfr hh hf Q hQ=>?_⟩
    refine wpIn_mono (k1 ρ w a n F hF hfr hh (hf.sub (Nat.le_refl _) m2.next)) fun e' a' w' hp=>?_
    obtain⟨rfl,ρ1,x1,x2,x3⟩:=hp
    simp only[gq,hl]
    exact k2 ρ1 w' a' n F (hF.mono x3.ext) x1 x2 (x3.fresh hf m1.next) Q fun e2 a2 w2 ⟨y1,y2⟩=>hQ _ _ _ ⟨y1,vG.trans x3 m1.next m2.next y2⟩
   ·rename_i hl
    cases he
    refine⟨m1,fun ρ w a n F hF hfr hh hf Q hQ=>?_⟩
    refine wpIn_mono (k1 ρ w a n F hF hfr hh hf) fun e' a' w' hp=>?_
    have hp':=hp
    obtain⟨rfl,-⟩:=hp'
    simp only[gq,hl]
    exact hQ _ _ _ hp
  ·rename_i hne
   obtain⟨m1,k1⟩:=hex _ _ _ _ _ _ _ he
   refine⟨m1,fun ρ w a n F hF hfr hh hf Q hQ=>?_⟩
   refine wpIn_mono (k1 ρ w a n F hF hfr hh hf) fun e' a' w' hp=>?_
   have hp':=hp
   obtain⟨rfl,-⟩:=hp'
   cases e with
   |normal=>exact hQ _ _ _ hp
   |exit i=>exact hQ _ _ _ hp
   |goto l=>exact(hne _ _ _ he).elim
   |ret=>exact hQ _ _ _ hp
theorem iP{ρ:Ren}{w:World}{h:Hs}{b:Nat}{L:Loc}{r:Ks}(hh:aJ ρ h.heap.get w)(hb:h.heap.get b=some (.loop r))(hL:ρ b=some L):
 ∃r':Loop,w.heap[L.φ]? =some (.loop r')/\(∀{α:Type} (k:Loop->Sem α),(Instr.getLoop L.φ>>=k).run P w=(k r').run P w)/\
  r'.state=r.st/\r'.pending=r.pending/\TR ρ r.tm r.n r'.tmps/\r'.params.toList=r.params/\r'.assign=r.assign/\r'.body=r.body/\ ∃L,ρ r.defers=some L/\r'.defers=L.φ:=by
 obtain⟨L0,x,hL0,hx0,hR⟩:=hh.obj _ _ hb
 rw[hL] at hL0;cases hL0
 cases x<;>simp only[OR] at hR<;>first|exact hR.elim|skip
 rename_i r'
 refine⟨r',hx0,fun k=>?_,hR⟩
 simp[Instr.getLoop,getObj,Sem.run,hx0]
theorem oF{ρ:Ren}{w:World}{h:Hs}{b:Nat}{L:Loc}{r r2:Ks}{r' r2':Loop}(hh:aJ ρ h.heap.get w)(hb:h.heap.get b=some (.loop r))(hL:ρ b=some L)(hx:w.heap[L.φ]? =some (.loop r'))(hR:OR ρ L (.loop r2) (.loop r2')):
 ∃w',(setObj L.φ (.loop r2')).run P w= .ok () w'/\aJ ρ (h.heap.set b (.loop r2)).get w'/\ ∀lo hi,Step ρ h.heap.get w ρ (h.heap.set b (.loop r2)).get w' lo hi:=
 lz (o:= .loop r) hh hb rfl hL hx (fun _ _ _ h=>by cases h) hR
theorem zI{ρ:Ren}{n:Nat}: ∀{ps:List Tmp} {vs vs':List Value} {tm tm':Tm} {tmps:Array Value},cT ρ vs vs'->TR ρ tm n tmps->tB ps vs n tm=some tm'->
 ps.length=vs.length/\TR ρ tm' n ((ps.zip vs').foldl (fun t (p,v)=>t.setIfInBounds p v) tmps)
 |[],[],_,tm,tm',tmps, .nil,ht,he=>by simp[tB] at he;subst he;exact⟨rfl,ht⟩
 |p::ps,v::vs,_,tm,tm',tmps, .cons _ v' _ vs' hv hl,ht,he=>by
  simp only[tB] at he
  split at he
  ·rename_i hp
   obtain⟨h1,h2⟩:=zI hl (ht.put (by rw[Nat.blt_eq] at hp;exact hp) hv) he
   exact⟨by simp[h1],h2⟩
  ·cases he
 |[],_::_,_,_,_,_,_,_,he=>by simp[tB] at he
 |_::_,[],_,_,_,_,_,_,he=>by simp[tB] at he
theorem EP{ex:vF}(hex:rf P ex):ib P (Cj ex):=by
 intro l args h v h' he
 unfold Cj at he
 split at he
 ·rename_i r hb
  split at he
  ·rename_i tm htm
   split at he
   ·rename_i fr1 h1 hasg
    obtain⟨m1,k1⟩:=hex _ _ _ _ _ _ _ hasg
    split at he
    ·rename_i r1 hb1
     split at he
     ·rename_i hready
      split at he
      ·rename_i e fr3 h3 hbody
       obtain⟨m2,k2⟩:=hex _ _ _ _ _ _ _ hbody
       split at he
       ·rename_i r3 hb3
        cases he
        have mm1:=m1.trans (Mod.set h1 l (.loop {r1 with st:= .busy}) hb1)
        have mm2:=mm1.trans m2
        have mm3:=mm2.trans (Mod.set h3 l (.loop {r3 with st:=(match gw e with|none=> .ready|some _=> .done),pending:=gw e}) hb3)
        have n2:h1.next<=h3.next:=m2.next
        refine⟨mm3,fun ρ w args' n L hL hargs hh hf=>?_⟩
        obtain⟨r',hx,hget,q1,q2,q3,q4,q5,q6,q7⟩:=iP (P:=P) hh hb hL
        obtain⟨hlen,htr⟩:=zI hargs q3 htm
        have hlen':args'.length=r'.params.size:=by rw[hargs.length,←hlen,←q4];simp
        refine⟨r'.fn,(r'.params.zip ⟨args'⟩).foldl (fun t (p,v)=>t.setIfInBounds p v) r'.tmps,r'.assign,r'.body,?_,?_⟩
        ·simp only[Instr.yield]
         rw[hget]
         simp[hlen']
        ·refine roundIn_of_wpIn trivial ?_
         have htr':TR ρ tm r.n ((r'.params.zip ⟨args'⟩).foldl (fun t (p,v)=>t.setIfInBounds p v) r'.tmps):=by
          rw[←Array.foldl_toList,Array.toList_zip,q4];exact htr
         have hF:cg ρ (some l) (Fence.wide.inRound L.φ):=⟨L,hL,rfl⟩
         rw[q5]
         refine wpIn_mono (k1 ρ w _ n _ hF ⟨htr', .nil⟩ hh (hf.sub (Nat.le_refl _) n2)) fun e1 a1 w1 hp=>?_
         obtain⟨rfl,ρ1,x1,x2,x3⟩:=hp
         have hL1:=x3.ext _ _ hL
         obtain⟨r1',hx1,hget1,p1,p2,p3,p4,p5,p6,p7⟩:=iP (P:=P) x2 hb1 hL1
         obtain⟨w2,hs2,hh2,hst2⟩:=oF (P:=P) (r2:={r1 with st:= .busy}) (r2':={r1' with state:= .busy}) x2 hb1 hL1 hx1 ⟨rfl,p2,p3,p4,p5,p6,p7⟩
         have hs12:=x3.trans (hst2 h1.next h1.next) m1.next (Nat.le_refl _)
         refine⟨w2,?_,?_⟩
         ·unfold Instr.beginRound
          rw[hget1]
          simp only[Sem.run_bind,hs2,Result.andThen_ok,p1,hready,Sem.run_pure]
         ·rw[q6]
          refine wpIn_mono (k2 ρ1 w2 a1 n _ (hF.mono x3.ext) x1 hh2 (hs12.fresh (hf.sub (Nat.le_refl _) (Nat.le_refl _)) m1.next)) fun e2 a2 w3 hp=>?_
          obtain⟨rfl,ρ3,y1,y2,y3⟩:=hp
          have hL3:=y3.ext _ _ hL1
          obtain⟨r3',hx3,hget3,s1,s2,s3,s4,s5,s6,s7⟩:=iP (P:=P) y2 hb3 hL3
          have fin: ∀(j:Option Code),j=gw e-> ∃w4,(Instr.endRound L.φ j).run P w3= .ok (.bool (gw e).isNone) w4/\NB ρ h w (.bool (gw e).isNone) {h3 with heap:=h3.heap.set l (.loop {r3 with st:=(match gw e with|none=> .ready|some _=> .done),pending:=gw e}),log:=l::h3.log} (.returned (.bool (gw e).isNone)) w4:=by
           intro j hj
           subst hj
           obtain⟨w4,hs4,hh4,hst4⟩:=oF (P:=P) (r2:={r3 with st:=(match gw e with|none=> .ready|some _=> .done),pending:=gw e}) (r2':={r3' with state:=if (gw e).isNone then .ready else .done,pending:=gw e}) y2 hb3 hL3 hx3 ⟨by cases e<;>rfl,rfl,s3,s4,s5,s6,s7⟩
           refine⟨w4,?_,ρ3,_,rfl, .sc _ rfl,hh4,?_⟩
           ·unfold Instr.endRound
            rw[hget3]
            simp only[Sem.run_bind,hs4,Result.andThen_ok,Sem.run_pure]
           ·exact(hs12.trans y3 m1.next n2).trans (hst4 h3.next h3.next) (Nat.le_trans m1.next n2) (Nat.le_refl _)
          cases e with
          |normal=>obtain⟨w4,z1,z2⟩:=fin none rfl;exact⟨_,w4,z1,z2⟩
          |exit i=>obtain⟨w4,z1,z2⟩:=fin (some (.exit i)) rfl;exact⟨_,w4,z1,z2⟩
          |goto t=>obtain⟨w4,z1,z2⟩:=fin (some (.goto t)) rfl;exact⟨_,w4,z1,z2⟩
          |ret=>obtain⟨w4,z1,z2⟩:=fin (some .ret) rfl;exact⟨_,w4,z1,z2⟩
       ·cases he
      ·cases he
     ·cases he
    ·cases he
   ·cases he
  ·cases he
 ·cases he
theorem wg: ∀(l:List Value)(i:Nat)(t:Tm)(j:Nat),rd (kx l i t) j=if i<=j/\j<i+l.length then l.getD (j - i) undef else rd t j
 |[],i,t,j=>by simp only[kx,List.length_nil];rw[if_neg (by omega)]
 |v::l,i,t,j=>by
  simp only[kx,wg l,qI,List.length_cons]
  by_cases h1:i+1<=j/\j<i+1+l.length
  ·rw[if_pos h1,if_pos (by omega)]
   obtain⟨k,hk⟩: ∃k,j - i=k+1:=⟨j - i - 1,by omega⟩
   rw[hk,show j - (i+1)=k by omega]
   simp
  ·rw[if_neg h1]
   by_cases h2:j=i
   ·subst h2;rw[if_pos rfl,if_pos (by omega)];simp
   ·rw[if_neg h2,if_neg (by omega)]
theorem cT.getD{ρ:Ren}: ∀{l l':List Value},cT ρ l l'-> ∀(i:Nat),VR ρ (l.getD i undef) (l'.getD i undef)
 |_,_, .nil,i=>by simpa using VR.undef
 |_,_, .cons v v' l l' h k,0=>by simpa using h
 |_,_, .cons v v' l l' h k,i+1=>by simpa using cT.getD k i
theorem Lp(j:Nat):rd (.leaf:Tm) j=undef:=by unfold rd;rw[T.dY]
theorem p8{ρ:Ren}{args args':List Value}(h:cT ρ args args')(m:Nat):
 TR ρ (kx args 0 .leaf) (args.length+(m - args.length)) ((⟨args'⟩:Array Value)++Array.replicate (m - (⟨args'⟩:Array Value).size) undef):=by
 have hl:=h.length
 refine⟨by simp[hl],fun t=>?_⟩
 rw[wg,Lp]
 by_cases ht:t<args.length
 ·rw[if_pos (by omega)]
  have:((⟨args'⟩:Array Value)++Array.replicate (m - (⟨args'⟩:Array Value).size) undef).getD t undef=args'.getD t undef:=by
   rw[Array.getD_eq_getD_getElem?,Array.getElem?_append_left (by simpa[hl] using ht)]
   simp
  rw[this];exact .inr (by simpa using h.getD t)
 ·rw[if_neg (by omega)]
  have:((⟨args'⟩:Array Value)++Array.replicate (m - (⟨args'⟩:Array Value).size) undef).getD t undef=undef:=by
   rw[Array.getD_eq_getD_getElem?,Array.getElem?_append_right (by simpa[hl] using ht)]
   rw[Array.getElem?_replicate]
   split<;>rfl
  rw[this];exact .inr .undef
def xX(tmps:Array Value):ResultVar->Sem Value
 | .tmp t=>pure (tmps.getD t undef)
 | .cell a t=>do loadVar t (←asAddr (tmps.getD a undef))
theorem lD(fn:Func)(tmps:Array Value):results fn tmps=(do
 let vs←fn.results.mapM (xX tmps)
 pure (if h:vs.size=1 then vs[0] else .tuple vs)):=rfl
theorem gF{ρ:Ren}{w:World}{h:Hs}{tm:Tm}{n:Nat}{tmps:Array Value}(ht:TR ρ tm n tmps)(hh:aJ ρ h.heap.get w): ∀{l:List ResultVar} {vs:List Value},dV P tm h l=some vs->
 ∃vs',cT ρ vs vs'/\(l.mapM (xX tmps)).run P w= .ok vs' w
 |[],vs,he=>by simp[dV] at he;subst he;exact⟨[], .nil,rfl⟩
 | .tmp t::l,vs,he=>by
   simp only[dV] at he
   split at he
   ·rename_i vs1 h1
    split at he
    ·rename_i v hv
     obtain⟨rfl,hj⟩:=rH hv
     cases he
     obtain⟨vs',h2,h3⟩:=gF ht hh h1
     exact⟨_, .cons _ _ _ _ ((ht.2 t).vr hj) h2,by simp[List.mapM_cons,xX,h3]⟩
    ·cases he
   ·cases he
 | .cell a t::l,vs,he=>by
   simp only[dV] at he
   split at he
   ·rename_i b off ha
    split at he
    ·rename_i v vs1 hv h1
     cases he
     obtain⟨vs',h2,h3⟩:=gF ht hh h1
     obtain⟨L,v',hL,hrun,hvR⟩:=oe (P:=P) hh hv
     have hav:=(ht.2 a).vr (fun e=>by rw[ha] at e;cases e)
     rw[ha] at hav
     generalize hx:tmps.getD a undef=x at hav
     cases hav with
     |sc _ hs=>simp[AV.simple] at hs
     |ptr b o L' hL'=>
      rw[hL] at hL';cases hL'
      exact⟨_, .cons _ _ _ _ hvR h2,by simp[List.mapM_cons,xX,h3,hx,asAddr,hrun]⟩
    ·cases he
   ·cases he
theorem yd{ρ:Ren}{vs vs':List Value}(h:cT ρ vs vs'):VR ρ (vL vs) (if h:(⟨vs'⟩:Array Value).size=1 then (⟨vs'⟩:Array Value)[0] else .tuple ⟨vs'⟩):=by
 cases h with
 |nil=>exact .tuple _ _ .nil
 |cons v v' l l' hv hl=>
  cases hl with
  |nil=>simpa[vL] using hv
  |cons u u' m m' hu hm=>
   have: ¬(⟨v'::u'::m'⟩:Array Value).size=1:=by simp
   rw[dif_neg this]
   exact .tuple _ _ (.cons _ _ _ _ hv (.cons _ _ _ _ hu hm))
theorem xx{ex:vF}(hex:rf P ex){f:Nat}{args:List Value}{h h':Hs}(he:CY P ex f args h=some h'):Mod h h'/\
 ∃fn body,P.funcs[f]? =some fn/\fn.body=some body/\fn.name≠ "runtime.NumGoroutine" /\
 ∀ρ w args' n u,cT ρ args args'->aJ ρ h.heap.get w->bA ρ h.next h'.next->
  CallsDIn Fence.wide n P f ⟨args'⟩ u w fun e u' w'=>u'=u/\ ∃v ρ',e= .returned v/\aJ ρ' h'.heap.get w'/\Step ρ h.heap.get w ρ' h'.heap.get w' h.next h'.next:=by
 unfold CY at he
 split at he
 ·rename_i fn hfn
  split at he
  ·rename_i body hbody hname
   have hname': ¬fn.name= "runtime.NumGoroutine" :=by simpa using hname
   have main: ∀(e:af)(fr1:Fr)(h1:Hs),(e= .normal\/e= .ret)->ex none body {tm:=kx args 0 .leaf,n:=args.length+(fn.ntmps - args.length),gh:=[]} h=some (e,fr1,h1)->
    (match fr1.gh,dV P fr1.tm h1 fn.results.toList with
      |[],some _=>some h1
      |_,_=>none)=some h'->Mod h h'/\
      ∃fn body,P.funcs[f]? =some fn/\fn.body=some body/\fn.name≠ "runtime.NumGoroutine" /\
      ∀ρ w args' n u,cT ρ args args'->aJ ρ h.heap.get w->bA ρ h.next h'.next->
       CallsDIn Fence.wide n P f ⟨args'⟩ u w fun e u' w'=>u'=u/\ ∃v ρ',e= .returned v/\aJ ρ' h'.heap.get w'/\Step ρ h.heap.get w ρ' h'.heap.get w' h.next h'.next:=by
    intro e fr1 h1 hen hb he
    obtain⟨m1,k1⟩:=hex _ _ _ _ _ _ _ hb
    split at he
    ·rename_i vs hd hvs
     cases he
     refine⟨m1,fn,body,hfn,hbody,hname',fun ρ w args' n u hargs hh hf=>?_⟩
     refine callsDIn_of_wp hfn hbody trivial ?_
     refine wpIn_mono (k1 ρ w _ n Fence.wide rfl ⟨p8 hargs fn.ntmps, .nil⟩ hh hf) fun e' a' w' hp=>?_
     obtain⟨rfl,ρ1,x1,x2,x3⟩:=hp
     have hds:a'.defers=[]:=by
      have:=x1.ds
      rw[hd] at this
      generalize a'.defers=x at this
      cases this
      rfl
     obtain⟨vs',y1,y2⟩:=gF (P:=P) x1.tr x2 hvs
     have leave:a'.defers=[]/\ ∃v,(results fn a'.tmps).run P w'= .ok v w'/\ ∃v0 ρ',Ending.returned v= .returned v0/\aJ ρ' h'.heap.get w'/\Step ρ h.heap.get w ρ' h'.heap.get w' h.next h'.next:=by
      obtain⟨v1,hv1⟩: ∃v,(results fn a'.tmps).run P w'= .ok v w':=by
       refine⟨if h:(⟨vs'⟩:Array Value).size=1 then (⟨vs'⟩:Array Value)[0] else .tuple ⟨vs'⟩,?_⟩
       rw[lD,Array.mapM_eq_mapM_toList]
       simp[y2]
      exact⟨hds,v1,hv1,v1,ρ1,rfl,x2,x3⟩
     rcases hen with rfl|rfl
     ·exact leave
     ·exact leave
    ·cases he
   split at he
   ·rename_i fr1 h1 hb
    exact main _ _ _ (.inl rfl) hb he
   ·rename_i fr1 h1 hb
    exact main _ _ _ (.inr rfl) hb he
   ·cases he
  ·cases he
 ·cases he
theorem mZ{ex:vF}(hex:rf P ex): ∀{ds:List nZ} {h h':Hs},sB P ex ds h=some h'->Mod h h'
 |[],h,h',he=>by simp[sB] at he;subst he;exact Mod.refl _
 | .call f args captured::ds,h,h',he=>by
   simp only[sB] at he
   split at he
   ·rename_i h1 hb;exact(xx hex hb).1.trans (mZ hex he)
   ·cases he
 | .mark r::ds,h,h',he=>by
   simp only[sB] at he
   split at he
   ·rename_i hb;exact(Mod.set h r (.gh false) hb).trans (mZ hex he)
   ·cases he
theorem qd{ex:vF}(hex:rf P ex){n:Nat}{fn:Func}{tmps:Array Value}{R:Ending->World->Prop}: ∀{ds:List nZ} {h h':Hs} {ρ:Ren} {w:World} {ds':List Deferred},sB P ex ds h=some h'->B9 ρ ds ds'->aJ ρ h.heap.get w->bA ρ h.next h'.next->
 (∀ρ' w',aJ ρ' h'.heap.get w'->Step ρ h.heap.get w ρ' h'.heap.get w' h.next h'.next-> ∃v,(results fn tmps).run P w'= .ok v w'/\R (.returned v) w')->LeavesInM Fence.wide n P fn tmps R ds' .returning w
 |[],h,h',ρ,w,_,he, .nil,hh,hf,hR=>by
  simp[sB] at he;subst he
  exact hR ρ w hh (Step.refl _ _ _ _ _)
 | .call f args captured::ds,h,h',ρ,w,_,he, .cons _ d' _ ds' hd hds,hh,hf,hR=>by
   simp only[sB] at he
   split at he
   ·rename_i h1 hb
    obtain⟨m1,fn1,body,q1,q2,q3,q4⟩:=xx hex hb
    have m2:=mZ hex he
    obtain⟨args',cap',rfl,z1,z2⟩:=hd
    refine⟨by simp, .inr ⟨fun hd=>by simp[Fence.wide] at hd, .func f,⟨cap'⟩,f,⟨args'++cap'⟩,rfl,?_,fun _ _=>trivial,?_⟩⟩
    ·simp[invoke,callFunc,q1,q2,q3]
    ·refine(q4 ρ w (args'++cap') (n - 1) .returning (z1.append z2) hh (hf.sub (Nat.le_refl _) m2.next)).mono fun e u' w' hp=>?_
     obtain⟨rfl,v,ρ1,rfl,x2,x3⟩:=hp
     show LeavesInM Fence.wide n P fn tmps R ds' .returning w'
     exact qd hex he (hds.mono x3.ext) x2 (x3.fresh hf m1.next) fun ρ' w2 y1 y2=>hR ρ' w2 y1 (x3.trans y2 m1.next m2.next)
   ·cases he
 | .mark r::ds,h,h',ρ,w,_,he, .cons _ d' _ ds' hd hds,hh,hf,hR=>by
   simp only[sB] at he
   split at he
   ·rename_i hb
    obtain⟨L,hL,rfl⟩:=hd
    obtain⟨L0,x,hL0,hx0,hO⟩:=hh.obj _ _ hb
    rw[hL] at hL0;cases hL0
    cases x<;>simp only[OR] at hO<;>first|exact hO.elim|skip
    subst hO
    obtain⟨w1,hs1,hh1,hst1⟩:=lz (P:=P) (o:= .gh true) (o2:= .gh false) (x2:= .deferred none) hh hb rfl hL hx0 (fun _ _ _ h=>by cases h) rfl
    have m2:=mZ hex he
    refine⟨by simp, .inl ⟨L.φ,w1,rfl,?_,qd hex he hds hh1 hf fun ρ' w' q1 q2=>hR ρ' w' q1 ?_⟩⟩
    ·simp[Instr.takeDeferred,getObj,Sem.run,hx0,hs1]
    ·exact(hst1 h.next h.next).trans q2 (Nat.le_refl _) m2.next
   ·cases he
theorem uX{ex:vF}{call:cM}(hex:rf P ex):dM P (Bo P ex call):=by
 intro f args h v h' he
 unfold Bo at he
 split at he
 ·rename_i fn hfn
  split at he
  ·rename_i body hbody
   have main: ∀(e:af)(fr1:Fr)(h1:Hs),(e= .normal\/e= .ret)->ex none body {tm:=kx args 0 .leaf,n:=args.length+(fn.ntmps - args.length),gh:=[]} h=some (e,fr1,h1)->
    (match sB P ex fr1.gh h1 with
      |some h=>match dV P fr1.tm h fn.results.toList with
       |some vs=>some (vL vs,h)
       |none=>none
      |none=>none)=some (v,h')->Mod h h'/\
      ∀ρ w args' n,cT ρ args args'->aJ ρ h.heap.get w->bA ρ h.next h'.next->CallsIn Fence.wide n P f ⟨args'⟩ w (NB ρ h w v h'):=by
    intro e fr1 h1 hen hb he
    obtain⟨m1,k1⟩:=hex _ _ _ _ _ _ _ hb
    split at he
    ·rename_i h2 hd
     split at he
     ·rename_i vs hvs
      cases he
      have m2:=mZ hex hd
      refine⟨m1.trans m2,fun ρ w args' n hargs hh hf=>?_⟩
      refine callsIn_of_wp_marks hfn hbody trivial ?_
      refine wpIn_mono (k1 ρ w _ n Fence.wide rfl ⟨p8 hargs fn.ntmps, .nil⟩ hh (hf.sub (Nat.le_refl _) m2.next)) fun e' a' w' hp=>?_
      obtain⟨rfl,ρ1,x1,x2,x3⟩:=hp
      have leave:LeavesInM Fence.wide n P fn a'.tmps (NB ρ h w (vL vs) h') a'.defers .returning w':=by
       refine qd hex hd x1.ds x2 (x3.fresh hf m1.next) fun ρ2 w2 q1 q2=>?_
       obtain⟨vs',y1,y2⟩:=gF (P:=P) (x1.tr.mono q2.ext) q1 hvs
       refine⟨_,?_,ρ2,_,rfl,yd y1,q1,x3.trans q2 m1.next m2.next⟩
       rw[lD,Array.mapM_eq_mapM_toList]
       simp[y2]
      rcases hen with rfl|rfl
      ·exact leave
      ·exact leave
     ·cases he
    ·cases he
   split at he
   ·rename_i fr1 h1 hb
    exact main _ _ _ (.inl rfl) hb he
   ·rename_i fr1 h1 hb
    exact main _ _ _ (.inr rfl) hb he
   ·cases he
  ·cases he
 ·cases he
end
end Go.AV
