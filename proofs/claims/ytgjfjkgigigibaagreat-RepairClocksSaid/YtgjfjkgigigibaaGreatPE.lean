/-
  A part of the proof: lemmas of my own.
-/
import Derived.Test.YtgjfjkgigigibaaGreatPD
import Derived.Test.YtgjfjkgigigibaaGreatIA
import Derived.KernelRfl
import Derived.ChangeArms
import Derived.DataReads
import Derived.ProofKit
import Derived.ChangeMaps
set_option linter.unusedVariables false
set_option linter.unusedSimpArgs false
namespace Go.Proofs.Nw
open Go Go.AV Tryz Go.jP
set_option maxHeartbeats 1000000
set_option maxRecDepth 100000
def qf(C:List ae):Prop:= ∀(i j:Nat)(x y:ae),i<j->C[i]? =some x->C[j]? =some y->decide (sF y.fz1 y.aB y.aK x.fz1 x.aB x.aK<0)=false
abbrev Cc(C:List ae):aV:=⟨(C.map ae.row).flatten,C.length*4,4,125,false,false,0,true⟩
theorem lW{C:List ae}{i:Nat}{x:ae}(hx:C[i]? =some x):ai prog (Cc C) 125 (0+i*4)=some (.agg ⟨x.row⟩):=
 gJ (rows:=C.map ae.row) rfl (r:=x.row) (sz:=4) underlying125 rfl rfl (aO (row:=ae.row) (sz:=4) C fun _=>rfl) (by rw[List.getElem?_map,hx];rfl)
theorem Lo{z:T aa}{zn:Nat}(hz:aw z zn){f:Nat}{args:List Value}{v:Value}(hp:bJ args=true)(hv:aC v=true)(h: ∀w,Calls prog f ⟨args⟩ w fun e w'=>e= .returned v/\w'=w):A1 z zn f args [] 0 0 v []:=by
 refine⟨hz,Nat.le_refl _,by decide,fun _ _=>Le hz (fun b o h=>by cases h),fun ρ w args' n hargs hh hf hfb=>callsIn_wide.2 ?_⟩
 have e:=hargs.plain hp
 subst e
 exact(h w).mono fun e w' ⟨h1,h2⟩=>⟨(),trivial,ρ,v,h1,VR.aQ hv,by rw[h2];exact hh,by rw[h2];exact il.refl _ _ _ _ _ _ _⟩
section
variable{z:T aa}{zn kk:Nat}{C:List ae}
theorem Wg(hz:aw z zn)(hk:z.get kk=some (.az (Cc C)))(hS:qf C){a b n:Nat}(hn:n=C.length)(hab:a<b)(hb:b<C.length):
 A1 z zn 254 [tb kk n n,iv a,iv b,ip 0,jg] [(0,Mr)] 1 1 (.tuple ⟨[iv a,iv b]⟩) [(0,Mr)]:=by
 subst hn
 obtain⟨x,hx⟩: ∃x,C[a]? =some x:=⟨_,List.getElem?_eq_getElem (by omega)⟩
 obtain⟨y,hy⟩: ∃y,C[b]? =some y:=⟨_,List.getElem?_eq_getElem hb⟩
 have hc:=hS a b x y hab hx hy
 have r1:=lW hx
 have r2:=lW hy
 have hc':Value.bool (decide (sF y.fz1 y.aB y.aK x.fz1 x.aB x.aK<0))= .bool false:=by rw[hc]
 refine aK1 (nh z) (fn:=f254) hz (N:=100) ?_
 refine jo2 z zn kk C.length a b (Cc C) x y _ ?_
 (repeat' first|(with_reducible first|exact rfl|assumption|apply And.intro|exact(by omega:a<C.length))|exact(rfl:gS _ _=_)|exact q1)
theorem Wj(hz:aw z zn)(hk:z.get kk=some (.az (Cc C)))(hS:qf C){a b c n:Nat}(hn:n=C.length)(hab:a<b)(hbc:b<c)(hc:c<C.length):
 A1 z zn 246 [tb kk n n,iv a,iv b,iv c,ip 0,jg] [(0,Mr)] 1 1 (iv b) [(0,Mr)]:=by
 have h1:=Wg hz hk hS hn hab (by omega)
 have h2:=Wg hz hk hS hn hbc hc
 refine aK1 (nh z) (fn:=f246) hz (N:=100) ?_
 refine jmd z zn kk n a b c _ ?_
 (repeat' first|(with_reducible first|exact rfl|assumption|apply And.intro)|exact h1|exact h2|exact q1|intro hq)
theorem sW{x:Int}(h: -9223372036854775808<=x)(h2:x<=9223372036854775807):Value.int .i64 (IntKind.i64.wrap x)=Value.int .i64 x:=by
 have:IntKind.i64.wrap x=x:=by
  simp only[IntKind.wrap,IntKind.signed,IntKind.bits]
  simp
  omega
 rw[this]
theorem Su(hz:aw z zn)(hk:z.get kk=some (.az (Cc C)))(hS:qf C){a n:Nat}(hn:n=C.length)(hc:a+2<C.length)(hs:C.length<100000):
 A1 z zn 245 [tb kk n n,iv (a+1),ip 0,jg] [(0,Mr)] 1 1 (iv (a+1)) [(0,Mr)]:=by
 have h1:=Wj hz hk hS hn (show a<a+1 by omega) (show a+1<a+2 by omega) hc
 have e:(((a+1:Nat):Int) - 1)=(a:Int):=by omega
 have w1:Value.int .i64 (IntKind.i64.wrap (((a+1:Nat):Int) - 1))=Value.int .i64 (((a+1:Nat):Int) - 1):=sW (by omega) (by omega)
 have w2:Value.int .i64 (IntKind.i64.wrap (((a+1:Nat):Int)+1))=Value.int .i64 ((a+1+1:Nat):Int):=bH (by omega)
 refine aK1 (nh z) (fn:=f245) hz (N:=100) ?_
 refine jma z zn kk n a _ ?_
 rw[e] at w1 ⊢
 (repeat' first|(with_reducible first|exact rfl|assumption|apply And.intro)|exact h1|exact q1|intro hq)
theorem abx(hz:aw z zn)(hk:z.get kk=some (.az (Cc C)))(hS:qf C){n:Nat}(hn:n=C.length)(h8:12<n)(hs:C.length<100000):
 A1 z zn 216 [tb kk n n,I 0,iv n,jg] [] 0 1 (.tuple ⟨[iv (n / 4*2),I 1]⟩) []:=by
 have e0:((n:Int) - 0).tdiv 4=((n / 4:Nat):Int):=by rw[Int.sub_zero];rfl
 obtain⟨q,hv⟩: ∃q,n / 4=q:=⟨_,rfl⟩
 rw[hv] at e0 ⊢
 have e1:(0+(q:Int)*1)=((q:Nat):Int):=by omega
 have e2:(0+(q:Int)*2)=((q*2:Nat):Int):=by omega
 have e3:(0+(q:Int)*3)=((q*3:Nat):Int):=by omega
 have hq3:3<=q:=by omega
 have hq4:q*4<=n:=by omega
 have w0:Value.int .i64 (IntKind.i64.wrap ((n:Int) - 0))=Value.int .i64 ((n:Int) - 0):=sW (by omega) (by omega)
 have w1:Value.int .i64 (IntKind.i64.wrap (q:Int))=Value.int .i64 (q:Int):=sW (by omega) (by omega)
 have w2: ∀c:Int,0<=c->c<=3->Value.int .i64 (IntKind.i64.wrap ((q:Int)*c))=Value.int .i64 ((q:Int)*c):=fun c h1 h2=>sW (by
  have:c=0\/c=1\/c=2\/c=3:=by omega
  rcases this with rfl|rfl|rfl|rfl<;>omega) (by
  have:c=0\/c=1\/c=2\/c=3:=by omega
  rcases this with rfl|rfl|rfl|rfl<;>omega)
 have w3: ∀c:Nat,c<=3->Value.int .i64 (IntKind.i64.wrap ((q*c:Nat):Int))=Value.int .i64 ((q*c:Nat):Int):=fun c h2=>sW (by omega) (by
  have:q*c<=q*3:=Nat.mul_le_mul_left _ h2
  omega)
 have d8:Value.bool (decide ((n:Int) - 0>=8))=T1:=by rw[show decide ((n:Int) - 0>=8)=true by simp;omega]
 have m1:=Wj hz hk hS hn (show q<q*2 by omega) (show q*2<q*3 by omega) (by omega)
 obtain⟨q',rfl⟩: ∃q',q=q'+1:=⟨q - 1,by omega⟩
 have g1:=Su hz hk hS (a:=q') hn (by omega) hs
 have g2:=Su hz hk hS (a:=(q'+1)*2 - 1) hn (by omega) hs
 have g3:=Su hz hk hS (a:=(q'+1)*3 - 1) hn (by omega) hs
 rw[show(q'+1)*2 - 1+1=(q'+1)*2 by omega] at g2
 rw[show(q'+1)*3 - 1+1=(q'+1)*3 by omega] at g3
 have w31:=w3 1 (by omega)
 rw[Nat.mul_one] at w31
 refine aK1 (nh z) (fn:=f216) hz (N:=100) ?_
 refine jcp z zn kk n 0 0 0 _ ?_
 rw[e0,e1,e2,e3]
 (repeat' first|(with_reducible first|exact rfl|assumption|apply And.intro|exact w2 _ (by decide) (by decide)|exact w3 _ (by decide)|exact q1)|exact m1|exact g1|exact g2|exact g3|intro hq)
theorem NH(hz:aw z zn)(hk:z.get kk=some (.az (Cc C)))(hS:qf C){n:Nat}(hn:n=C.length)(i:Nat)(hi:0<i)(hin:i<n)(hs:C.length<100000):
 aj prog (ah (ah (ag f213) 0) 0) 0 53 (GA (tb kk n n) n i i) [] 0 z zn (Al.R (aaF z zn (tb kk n n) n i).l):=by
 subst hn
 obtain⟨j,rfl⟩: ∃j,i=j+1:=⟨i - 1,by omega⟩
 obtain⟨x,hx⟩: ∃x,C[j]? =some x:=⟨_,List.getElem?_eq_getElem (by omega)⟩
 obtain⟨y,hy⟩: ∃y,C[j+1]? =some y:=⟨_,List.getElem?_eq_getElem hin⟩
 have hc:=hS j (j+1) x y (by omega) hx hy
 have r1:=lW hx
 have r2:=lW hy
 have hc':Value.bool (decide (sF y.fz1 y.aB y.aK x.fz1 x.aB x.aK<0))= .bool false:=by rw[hc]
 have w1:Value.int .i64 (IntKind.i64.wrap (((j+1:Nat):Int) - 1))=Value.int .i64 (((j+1:Nat):Int) - 1):=sW (by omega) (by omega)
 refine ax hD (nh z) (α:=Unit) 0 53 0 (fun _=>True) (fun _=>GA (tb kk C.length C.length) C.length (j+1) (j+1)) (fun _=>[]) (fun _=>z) (fun _=>zn) (fun _=>0) _ (fun _ hI=>?_) () trivial
 refine t100 (ji1 z zn kk C.length (j+1) j (Cc C) x y (au _ _ _ _ _ _ _ _ _) ?_)
 (repeat' first|(with_reducible first|exact rfl|assumption|apply And.intro|exact(by omega:j<C.length)|exact(by omega:((j+1:Nat):Int) - 1=(j:Int)))|exact(rfl:gS _ _=_)|intro hq)
 all_goals first
  |exact bh trivial
theorem NI(hz:aw z zn)(hk:z.get kk=some (.az (Cc C)))(hS:qf C){n:Nat}(hn:n=C.length)(hs:C.length<100000):
 aj prog (ah (ag f213) 0) 0 53 (qO (tb kk n n) n 1) [] 0 z zn (Al.R (Vt z zn (tb kk n n) n).l):=by
 refine ax hD (nh z) (α:=Nat) 0 53 0 (fun i=>0<i/\i<=n+1) (fun i=>qO (tb kk n n) n i) (fun _=>[]) (fun _=>z) (fun _=>zn) (fun i=>n+1 - i) _ (fun i hI=>?_) 1 ⟨by omega,by omega⟩
 obtain⟨h1,h2⟩:=hI
 refine t100 (ji0 z zn kk n i (au _ _ _ _ _ _ _ _ _) ?_)
 by_cases hi:i<n
 ·have hL:=NH hz hk hS hn i h1 hi hs
  have d1:decide ((i:Int)<(n:Int))=true:=by simp;omega
  refine⟨fun _=>?_,nC1 d1⟩
  (repeat' first|(with_reducible first|exact rfl|assumption|apply And.intro|exact bH (by omega))|exact hL|intro hq)
  all_goals first
   |exact⟨i+1,rfl,rfl,rfl,rfl,rfl,⟨by omega,by omega⟩,by show n+1 - (i+1)<n+1 - i;omega⟩
 ·have d1:decide ((i:Int)<(n:Int))=false:=by simp;omega
  refine⟨nC1 d1,fun _=>?_⟩
  (repeat' first|(with_reducible first|exact rfl|assumption|apply And.intro))
  all_goals exact bh trivial
theorem Wm(hz:aw z zn)(hk:z.get kk=some (.az (Cc C)))(hS:qf C){n:Nat}(hn:n=C.length)(hs:C.length<100000):
 A1 z zn 213 [tb kk n n,I 0,iv n,jg] [] 0 0 (.tuple ⟨[]⟩) []:=by
 have hL:=NI hz hk hS hn hs
 refine aK1 (nh z) (fn:=f213) hz (N:=100) ?_
 refine ji z zn kk n _ ?_
 (repeat' first|(with_reducible first|exact rfl|assumption|apply And.intro|exact q1)|exact hL|intro hq)
theorem Sw(hz:aw z zn):A1 z zn 213 [an,I 0,iv 0,jg] [] 0 0 (.tuple ⟨[]⟩) []:=by
 have hL:aj prog (ah (ag f213) 0) 0 53 (qO an 0 1) [] 0 z zn (Al.R (Vt z zn an 0).l):=by
  refine ax hD (nh z) (α:=Unit) 0 53 0 (fun i=>True) (fun i=>qO an 0 1) (fun _=>[]) (fun _=>z) (fun _=>zn) (fun i=>0) _ (fun i hI=>?_) () trivial
  refine t100 (aaU z zn (au _ _ _ _ _ _ _ _ _) ?_)
  (repeat' first|(with_reducible first|exact rfl|assumption|apply And.intro))
  all_goals exact bh trivial
 refine aK1 (nh z) (fn:=f213) hz (N:=100) ?_
 refine jiz z zn _ ?_
 (repeat' first|(with_reducible first|exact rfl|assumption|apply And.intro|exact q1)|exact hL|intro hq)
theorem Ny(hz:aw z zn)(hk:z.get kk=some (.az (Cc C)))(hS:qf C){n:Nat}(hn:n=C.length)(h1n:1<=n)(hs:C.length<100000):
 aj prog (ah (ah (ag f218) 0) 0) 0 141 (ke kk n 1 0) [] 0 z zn (Al.R (Vk z zn kk n).l):=by
 subst hn
 refine ax hD (nh z) (α:=Nat) 0 141 0 (fun i=>i<C.length) (fun i=>ke kk C.length (i+1) 0) (fun _=>[]) (fun _=>z) (fun _=>zn) (fun i=>C.length - i) _ (fun i hI=>?_) 0 h1n
 obtain⟨x,hx⟩: ∃x,C[i]? =some x:=⟨_,List.getElem?_eq_getElem hI⟩
 by_cases hi:i+1<C.length
 ·obtain⟨y,hy⟩: ∃y,C[i+1]? =some y:=⟨_,List.getElem?_eq_getElem hi⟩
  have hc:=hS i (i+1) x y (by omega) hx hy
  have r1:=lW hx
  have r2:=lW hy
  have hc':Value.bool (decide (sF y.fz1 y.aB y.aK x.fz1 x.aB x.aK<0))= .bool false:=by rw[hc]
  have w1:Value.int .i64 (IntKind.i64.wrap (((i+1:Nat):Int) - 1))=Value.int .i64 (((i+1:Nat):Int) - 1):=sW (by omega) (by omega)
  have d1:decide (((i+1:Nat):Int)<(C.length:Int))=true:=by simp;omega
  refine t100 (jq1 z zn kk C.length i (Cc C) x y (au _ _ _ _ _ _ _ _ _) ⟨fun _=>?_,nC1 d1⟩)
  (repeat' first|(with_reducible first|exact rfl|assumption|apply And.intro|exact(by omega:((i+1:Nat):Int) - 1=(i:Int))|exact bH (by omega))|exact(rfl:gS _ _=_))
  all_goals first
   |exact⟨i+1,rfl,rfl,rfl,rfl,rfl,hi,by show C.length - (i+1)<C.length - i;omega⟩
 ·have d1:decide (((i+1:Nat):Int)<(C.length:Int))=false:=by simp;omega
  refine t100 (jq1 z zn kk C.length i (Cc C) x x (au _ _ _ _ _ _ _ _ _) ⟨nC1 d1,fun _=>?_⟩)
  have e:i+1=C.length:=by omega
  rw[←e]
  (repeat' first|(with_reducible first|exact rfl|assumption|apply And.intro))
  all_goals exact bh trivial
theorem Nz(hz:aw z zn)(hk:z.get kk=some (.az (Cc C)))(hS:qf C){n:Nat}(hn:n=C.length)(h1n:1<=n)(hs:C.length<100000):
 aj prog (ah (ag f218) 0) 0 141 (ke kk n 1 0) [] 0 z zn (Al.R (Vl z zn kk n).l):=by
 have hL:=Ny hz hk hS hn h1n hs
 refine ax hD (nh z) (α:=Unit) 0 141 0 (fun _=>True) (fun _=>ke kk n 1 0) (fun _=>[]) (fun _=>z) (fun _=>zn) (fun _=>0) _ (fun i hI=>?_) () trivial
 have hb:Value.bool ((n:Int)==(n:Int))=Value.bool true:=by simp
 refine t100 (jq0 z zn kk n (au _ _ _ _ _ _ _ _ _) ?_)
 (repeat' first|(with_reducible first|exact rfl|assumption|apply And.intro)|exact hL|intro hq)
 all_goals first
  |exact bh trivial
theorem St(hz:aw z zn)(hk:z.get kk=some (.az (Cc C)))(hS:qf C){n:Nat}(hn:n=C.length)(h1n:1<=n)(hs:C.length<100000):
 A1 z zn 218 [tb kk n n,I 0,iv n,jg] [] 0 0 T1 []:=by
 have hL:=Nz hz hk hS hn h1n hs
 refine aK1 (nh z) (fn:=f218) hz (N:=100) ?_
 refine jq z zn kk n _ ?_
 (repeat' first|(with_reducible first|exact rfl|assumption|apply And.intro|exact q1)|exact hL|intro hq)
theorem We(hz:aw z zn)(hk:z.get kk=some (.az (Cc C)))(hS:qf C){n:Nat}(hn:n=C.length)(hs:C.length<100000)(l:Nat)(hl:12<n->0<l):
 A1 z zn 187 [tb kk n n,I 0,iv n,iv l,jg] [] 0 0 (.tuple ⟨[]⟩) []:=by
 have hL:aj prog (ah (ag f187) 0) 0 148 (vN (tb kk n n) n l) [] 0 z zn (Al.R (Vo z zn (tb kk n n) n l).l):=by
  refine ax hD (nh z) (α:=Unit) 0 148 0 (fun _=>True) (fun _=>vN (tb kk n n) n l) (fun _=>[]) (fun _=>z) (fun _=>zn) (fun _=>0) _ (fun i hI=>?_) () trivial
  have w0:Value.int .i64 (IntKind.i64.wrap ((n:Int) - 0))=Value.int .i64 ((n:Int) - 0):=sW (by omega) (by omega)
  refine t100 (jp0 z zn kk n l (n / 4*2) (au _ _ _ _ _ _ _ _ _) ⟨w0,?_⟩)
  by_cases h12:n<=12
  ·have d1:decide ((n:Int) - 0<=12)=true:=by simp;omega
   have h1:=Wm hz hk hS hn hs
   refine⟨fun _=>?_,nC1 d1⟩
   (repeat' first|(with_reducible first|exact rfl|assumption|apply And.intro)|intro hq)
   all_goals exact bh trivial
  ·have d1:decide ((n:Int) - 0<=12)=false:=by simp;omega
   have h1:=abx hz hk hS hn (by omega) hs
   have h2:=St hz hk hS hn (by omega) hs
   have hl0:Value.bool ((l:Int)==0)=Value.bool false:=by
    have:=hl (by omega)
    rw[show((l:Int)==0)=false by simp;omega]
   refine⟨nC1 d1,fun _=>?_⟩
   (repeat' first|(with_reducible first|exact rfl|assumption|apply And.intro)|intro hq)
   all_goals exact bh trivial
 refine aK1 (nh z) (fn:=f187) hz (N:=100) ?_
 refine jp z zn n l kk _ ?_
 (repeat' first|(with_reducible first|exact rfl|assumption|apply And.intro|exact q1)|exact hL|intro hq)
theorem Ss(hz:aw z zn)(l:Nat):A1 z zn 187 [an,I 0,iv 0,iv l,jg] [] 0 0 (.tuple ⟨[]⟩) []:=by
 have hL:aj prog (ah (ag f187) 0) 0 148 (vN an 0 l) [] 0 z zn (Al.R (Vo z zn an 0 l).l):=by
  refine ax hD (nh z) (α:=Unit) 0 148 0 (fun _=>True) (fun _=>vN an 0 l) (fun _=>[]) (fun _=>z) (fun _=>zn) (fun _=>0) _ (fun i hI=>?_) () trivial
  refine t100 (aaR z zn l (au _ _ _ _ _ _ _ _ _) ?_)
  have h1:=Sw hz
  (repeat' first|(with_reducible first|exact rfl|assumption|apply And.intro)|exact h1|intro hq)
  all_goals exact bh trivial
 refine aK1 (nh z) (fn:=f187) hz (N:=100) ?_
 refine jpz z zn l _ ?_
 (repeat' first|(with_reducible first|exact rfl|assumption|apply And.intro|exact q1)|exact hL|intro hq)
theorem KZ(hz:aw z zn){n:Nat}(h:n<100000):A1 z zn 188 [.int .u64 (IntKind.u64.wrap (n:Int))] [] 0 0 (iv (Lib.bitLen n)) []:=by
 have:IntKind.u64.wrap (n:Int)=(n:Int):=by
  simp only[IntKind.wrap,IntKind.signed,IntKind.bits]
  simp
  omega
 rw[this]
 refine Lo hz rfl rfl fun w=>?_
 have:=OL (n:Int) w (by omega) (by omega)
 rw[Int.toNat_natCast] at this
 exact this
theorem Ed{n:Nat}(h:12<n):0<Lib.bitLen n:=by
 unfold Lib.bitLen Lib.bitLenAux
 rw[if_neg (by omega)];omega
theorem Sj(hz:aw z zn)(hk:z.get kk=some (.az (Cc C)))(hS:qf C){n:Nat}(hn:n=C.length)(hs:C.length<100000):
 A1 z zn 152 [tb kk n n,jg] [] 0 0 (.tuple ⟨[]⟩) []:=by
 have h1:=KZ hz (n:=n) (by omega)
 have h2:=We hz hk hS hn hs (Lib.bitLen n) Ed
 refine aK1 (nh z) (fn:=f152) hz (N:=100) ?_
 refine js z zn kk n (Lib.bitLen n) _ ?_
 (repeat' first|(with_reducible first|exact rfl|assumption|apply And.intro|exact q1)|intro hq)
theorem Oo(hz:aw z zn):A1 z zn 152 [an,jg] [] 0 0 (.tuple ⟨[]⟩) []:=by
 have h1:A1 z zn 188 [.int .u64 0] [] 0 0 (iv (Lib.bitLen 0)) []:=KZ hz (n:=0) (by omega)
 have h2:=Ss hz (Lib.bitLen 0)
 refine aK1 (nh z) (fn:=f152) hz (N:=100) ?_
 refine jsz z zn (Lib.bitLen 0) _ ?_
 (repeat' first|(with_reducible first|exact rfl|assumption|apply And.intro|exact q1)|exact h2|intro hq)
end
theorem xB{C:List ae}(hS:qf C)(hs:C.length<100000):lI C:=fun z zn s h=>by
 obtain⟨oa,k,z',zn'⟩:=s
 have hz:=h.bN
 rcases h.val with ⟨h1,h2,h3⟩|⟨h1,kk,k1,k2,h2,h3,h4⟩<;>simp only at h2 h3 hz
 ·subst h2 h3
  exact Oo hz
 ·simp only at h4
  subst h2 h3
  exact Sj hz h4 hS rfl hs
end Go.Proofs.Nw
namespace Go.Proofs.Nw
open Go Go.AV Tryz
set_option maxRecDepth 1000000
noncomputable section
noncomputable abbrev SO:Code:=ah (ag f149) 0
noncomputable abbrev PV:Code:=ah SO 0
abbrev XO:List (Nat × aa):=[(3,G0),(4,Gf)]
abbrev TS:Prop:=Rs (BQ [] 0 1 128)
abbrev TQ:Prop:=Rs (BQ [] 0 1 3)
abbrev HZ(z:T aa)(zn:Nat)(rc:List Value)(n:Nat):T aa:=gb z [(zn,4,BR rc (n*1) 1 3)]
abbrev XN(zn:Nat)(rc:List Value)(n:Nat):Prop:=KO (ay [(1,6)] [(zn,4,BR rc (n*1) 1 3)]) (BR rc (n*1) 1 3)
abbrev PU:Value:=SL 6 1 1
abbrev YHr(zn:Nat)(rc:List Value)(n:Nat):Prop:=aD (ay [(1,6)] [(zn,4,BR rc (n*1) 1 3)]) (BR [eg zn n] 1 1 128)=some (BR [SL 4 n n] 1 1 128)
abbrev XM:List (Nat × aa):=[(1,BQ [] 0 1 128)]
abbrev TO:List (Nat × Nat):=[(3,1),(4,2)]
theorem UH(z:T aa)(zn n m cp:Nat)(b:Bool)(rc:List Value)(Q:QL)(hyp:Br (decide (0<(↑n:Int))) (Y1/\aj prog PV 3 116 (mH (tb 4 m cp) n b 0 0) XO 5 z zn (alt True (aA.mk iy [(0,tb 4 m cp),(1,iv n),kD b,(7,bd 3 0 0),(8,iv 0),(9,bd 4 n n)] [(3,G0),(4,Ba rc n)] 5 z zn) Al.nil).R/\E6 116 z zn (R7 (fO m cp) (IV n) (fY b) L6 YM (SL 2 0 0) YM (TS/\TQ/\ ∀(x:Unit),True->E3 116 (Rf (HZ z zn rc n)/\zn.le (zn+1)/\aw z zn/\zn<=zn/\zn<zn+1/\XN zn rc n/\aP (ay [(1,6)] [(zn,4,BR rc (n*1) 1 3)]) (fO m cp)=some (fO m cp)/\R4 (IV n) (fY b) PU iq (YHr zn rc n/\Q aN [(0,fO m cp),eM n,kD b,(7,SL 1 1 1),(8,iq)] [(1,BR [eg zn n] 1 1 128)] 2 (HZ z zn rc n) (zn+1)))))) (E6 116 z zn (R4 (fO m cp) (IV n) (fY b) L6 (TS/\Q YO [(0,fO m cp),eM n,kD b,(7,L6)] XM 2 z zn)))):RdT prog gH cW SO 116 (qN (tb 4 m cp) n b 0) z [(1,G0)] 2 zn 1 Q:=K1t hyp ((tA 1 (Tr.lp 3 116 TO [] (mH (tb 4 m cp) n b 0 0) XO 5 z zn (Al.cons Unit Yc (fun(x:Unit)=>aA.mk iy [(0,tb 4 m cp),(1,iv n),kD b,(7,bd 3 0 0),(8,iv 0),(9,bd 4 n n)] [(3,G0),(4,Ba rc n)] 5 z zn) (fun(x:Unit)=>tA 2 (tE [(1,6)] [(zn,4,BR rc (n*1) 1 3)] [(0,fO m cp),eM n,kD b,(7,SL 1 1 1),(8,iq)] [(1,BR [eg zn n] 1 1 128)] 2 (HZ z zn rc n) (zn+1))) Al.nil))).fork (tA 1 (tE Y0 [] [(0,fO m cp),eM n,kD b,(7,L6)] XM 2 z zn)))
abbrev PS(i:Nat):Value:=SL 6 (i+1) (i+1)
abbrev YHv(zn:Nat)(rc:List Value)(n:Nat)(cs:List Value)(i:Nat):Prop:=aD (ay [(1,6)] [(zn,4,BR rc (n*1) 1 3)]) (BR (cs++[eg zn n]) ((i+1)*1) 1 128)=some (BR (cs++[SL 4 n n]) ((i+1)*1) 1 128)
abbrev XL(cs:List Value)(zn n i:Nat):List (Nat × aa):=[(1,BR (cs++[eg zn n]) ((i+1)*1) 1 128)]
theorem rs0(z:T aa)(zn n i m cp:Nat)(b:Bool)(cs rc:List Value)(Q:QL)(hyp:Br (decide ((↑i:Int)<(↑n:Int))) (Y1/\aj prog PV 3 116 (mH (tb 4 m cp) n b i 0) [(3,LW cs i),(4,Gf)] 5 z zn (alt True (aA.mk iy [(0,tb 4 m cp),(1,iv n),kD b,(7,bd 3 i i),(8,iv i),(9,bd 4 n n)] [(3,LW cs i),(4,Ba rc n)] 5 z zn) Al.nil).R/\E6 116 z zn (R7 (fO m cp) (IV n) (fY b) (cX i) (IV i) (SL 2 0 0) YM (KO (ay TO []) (BR cs (i*1) 1 128)/\TQ/\ ∀(x:Unit),True->Rs [SL 4 n n]/\Rf i/\cs.length=i*1/\Rf (i*1)/\i+1<=1048576/\ZV (IntKind.i64.wrap ((↑i:Int)+1))=IV (i+1)/\E3 116 (Rf (HZ z zn rc n)/\zn.le (zn+1)/\aw z zn/\zn<=zn/\zn<zn+1/\XN zn rc n/\aP (ay [(1,6)] [(zn,4,BR rc (n*1) 1 3)]) (fO m cp)=some (fO m cp)/\R4 (IV n) (fY b) (PS i) (IV (i+1)) (YHv zn rc n cs i/\Q aN [(0,fO m cp),eM n,kD b,(7,SL 1 (i+1) (i+1)),C4 i] (XL cs zn n i) 2 (HZ z zn rc n) (zn+1)))))) (E6 116 z zn (R4 (fO m cp) (IV n) (fY b) (cX i) (KO (ay Y0 []) (BR cs (i*1) 1 128)/\Q YO [(0,fO m cp),eM n,kD b,sP i] [(1,BR cs (i*1) 1 128)] 2 z zn)))):RdT prog gH cW SO 116 (qN (tb 4 m cp) n b i) z [(1,LW cs i)] 2 zn 1 Q:=K1t hyp ((tA 1 (Tr.lp 3 116 TO [] (mH (tb 4 m cp) n b i 0) [(3,LW cs i),(4,Gf)] 5 z zn (Al.cons Unit Yc (fun(x:Unit)=>aA.mk iy [(0,tb 4 m cp),(1,iv n),kD b,(7,bd 3 i i),(8,iv i),(9,bd 4 n n)] [(3,LW cs i),(4,Ba rc n)] 5 z zn) (fun(x:Unit)=>tX (jE.grow 1 [SL 4 n n]) (tO (dI i) (tE [(1,6)] [(zn,4,BR rc (n*1) 1 3)] [(0,fO m cp),eM n,kD b,(7,SL 1 (i+1) (i+1)),C4 i] (XL cs zn n i) 2 (HZ z zn rc n) (zn+1)))) Al.nil))).fork (tA 1 (tE Y0 [] [(0,fO m cp),eM n,kD b,sP i] [(1,BR cs (i*1) 1 128)] 2 z zn)))
abbrev PR:List (Nat × Nat):=[(3,3),(4,6)]
abbrev L5:List Value:=[I 1099511627776]
abbrev XK(bl:aV):List (Nat × aa):=[(3,ey bl),(4,BR L5 1 1 3)]
abbrev H4:Value:=SL 4 0 0
abbrev PY:List (Nat × Nat):=[(3,3),(4,4)]
abbrev XX(bl:aV):List (Nat × aa):=[(3,ey bl),(4,BQ [] 0 1 3)]
theorem Z7(z:T aa)(zn n i m cp:Nat)(b:Bool)(bl:aV)(Q:QL)(hyp:Br (decide (0<(↑n:Int))) (E6 116 z zn (R7 (fO m cp) (IV n) (fY b) (jM i) (IV i) PU iq (KO (ay PR []) (ey bl)/\Rs (BR L5 1 1 3)/\Q aN [(0,fO m cp),eM n,kD b,(7,jM i),(8,IV i),(9,SL 4 1 1),(10,iq)] (XK bl) 5 z zn))) (E6 116 z zn (R6 (fO m cp) (IV n) (fY b) (jM i) (IV i) H4 (KO (ay PY []) (ey bl)/\TQ/\Q iy [(0,fO m cp),eM n,kD b,(7,jM i),(8,IV i),(9,H4)] (XX bl) 5 z zn)))):RdT prog gH cW PV 116 (mH (tb 4 m cp) n b i 0) z [(3,ey bl),(4,Gf)] 5 zn 3 Q:=K1t hyp ((tA 3 (tE PR [] [(0,fO m cp),eM n,kD b,(7,jM i),(8,IV i),(9,SL 4 1 1),(10,iq)] (XK bl) 5 z zn)).fork (tA 1 (tE PY [] [(0,fO m cp),eM n,kD b,(7,jM i),(8,IV i),(9,H4)] (XX bl) 5 z zn)))
abbrev XW(bl:aV)(cs:List Value)(k:Nat):List (Nat × aa):=[(3,ey bl),(4,BR (cs++L5) ((k+1)*1) 1 3)]
theorem rs1(z:T aa)(zn n i k m cp:Nat)(b:Bool)(bl:aV)(cs:List Value)(Q:QL)(hyp:Br (decide ((↑k:Int)<(↑n:Int))) (Rs L5/\Rf k/\cs.length=k*1/\Rf (k*1)/\k+1<=1048576/\ZV (IntKind.i64.wrap ((↑k:Int)+1))=IV (k+1)/\E6 116 z zn (R7 (fO m cp) (IV n) (fY b) (jM i) (IV i) (PS k) (IV (k+1)) (K2 (ay PR []) (ey bl) (BR (cs++L5) ((k+1)*1) 1 3) (Q aN [(0,fO m cp),eM n,kD b,(7,jM i),(8,IV i),(9,SL 4 (k+1) (k+1)),(10,IV (k+1))] (XW bl cs k) 5 z zn)))) (E6 116 z zn (R6 (fO m cp) (IV n) (fY b) (jM i) (IV i) (SL 4 k k) (K2 (ay PY []) (ey bl) (BR cs (k*1) 1 3) (Q iy [(0,fO m cp),eM n,kD b,(7,jM i),(8,IV i),(9,SL 4 k k)] [(3,ey bl),(4,BR cs (k*1) 1 3)] 5 z zn))))):RdT prog gH cW PV 116 (mH (tb 4 m cp) n b i k) z [(3,ey bl),(4,Ba cs k)] 5 zn 3 Q:=K1t hyp ((tA 1 (tX (jE.grow 1 L5) (tO (dI k) (tE PR [] [(0,fO m cp),eM n,kD b,(7,jM i),(8,IV i),(9,SL 4 (k+1) (k+1)),(10,IV (k+1))] (XW bl cs k) 5 z zn)))).fork (tA 1 (tE PY [] [(0,fO m cp),eM n,kD b,(7,jM i),(8,IV i),(9,SL 4 k k)] [(3,ey bl),(4,BR cs (k*1) 1 3)] 5 z zn)))
theorem Pk(z:T aa)(zn n:Nat)(b:Bool)(rc:List Value)(Q:QL)(hyp:Br (decide (0<(↑n:Int))) (Y1/\aj prog PV 3 116 (mH an n b 0 0) XO 5 z zn (alt True (aA.mk iy [(0,an),(1,iv n),kD b,(7,bd 3 0 0),(8,iv 0),(9,bd 4 n n)] [(3,G0),(4,Ba rc n)] 5 z zn) Al.nil).R/\E6 116 z zn (R7 Y5 (IV n) (fY b) L6 YM (SL 2 0 0) YM (TS/\TQ/\ ∀(x:Unit),True->E3 116 (Rf (HZ z zn rc n)/\zn.le (zn+1)/\aw z zn/\zn<=zn/\zn<zn+1/\XN zn rc n/\R5 Y5 (IV n) (fY b) PU iq (YHr zn rc n/\Q aN [(0,Y5),eM n,kD b,(7,SL 1 1 1),(8,iq)] [(1,BR [eg zn n] 1 1 128)] 2 (HZ z zn rc n) (zn+1)))))) (E6 116 z zn (R4 Y5 (IV n) (fY b) L6 (TS/\Q YO [(0,Y5),eM n,kD b,(7,L6)] XM 2 z zn)))):RdT prog gH cW SO 116 (qN an n b 0) z [(1,G0)] 2 zn 1 Q:=K1t hyp ((tA 1 (Tr.lp 3 116 TO [] (mH an n b 0 0) XO 5 z zn (Al.cons Unit Yc (fun(x:Unit)=>aA.mk iy [(0,an),(1,iv n),kD b,(7,bd 3 0 0),(8,iv 0),(9,bd 4 n n)] [(3,G0),(4,Ba rc n)] 5 z zn) (fun(x:Unit)=>tA 2 (tE [(1,6)] [(zn,4,BR rc (n*1) 1 3)] [(0,Y5),eM n,kD b,(7,SL 1 1 1),(8,iq)] [(1,BR [eg zn n] 1 1 128)] 2 (HZ z zn rc n) (zn+1))) Al.nil))).fork (tA 1 (tE Y0 [] [(0,Y5),eM n,kD b,(7,L6)] XM 2 z zn)))
theorem UI(z:T aa)(zn n i:Nat)(b:Bool)(cs rc:List Value)(Q:QL)(hyp:Br (decide ((↑i:Int)<(↑n:Int))) (Y1/\aj prog PV 3 116 (mH an n b i 0) [(3,LW cs i),(4,Gf)] 5 z zn (alt True (aA.mk iy [(0,an),(1,iv n),kD b,(7,bd 3 i i),(8,iv i),(9,bd 4 n n)] [(3,LW cs i),(4,Ba rc n)] 5 z zn) Al.nil).R/\E6 116 z zn (R7 Y5 (IV n) (fY b) (cX i) (IV i) (SL 2 0 0) YM (KO (ay TO []) (BR cs (i*1) 1 128)/\TQ/\ ∀(x:Unit),True->Rs [SL 4 n n]/\Rf i/\cs.length=i*1/\Rf (i*1)/\i+1<=1048576/\ZV (IntKind.i64.wrap ((↑i:Int)+1))=IV (i+1)/\E3 116 (Rf (HZ z zn rc n)/\zn.le (zn+1)/\aw z zn/\zn<=zn/\zn<zn+1/\XN zn rc n/\R5 Y5 (IV n) (fY b) (PS i) (IV (i+1)) (YHv zn rc n cs i/\Q aN [(0,Y5),eM n,kD b,(7,SL 1 (i+1) (i+1)),C4 i] (XL cs zn n i) 2 (HZ z zn rc n) (zn+1)))))) (E6 116 z zn (R4 Y5 (IV n) (fY b) (cX i) (KO (ay Y0 []) (BR cs (i*1) 1 128)/\Q YO [(0,Y5),eM n,kD b,sP i] [(1,BR cs (i*1) 1 128)] 2 z zn)))):RdT prog gH cW SO 116 (qN an n b i) z [(1,LW cs i)] 2 zn 1 Q:=K1t hyp ((tA 1 (Tr.lp 3 116 TO [] (mH an n b i 0) [(3,LW cs i),(4,Gf)] 5 z zn (Al.cons Unit Yc (fun(x:Unit)=>aA.mk iy [(0,an),(1,iv n),kD b,(7,bd 3 i i),(8,iv i),(9,bd 4 n n)] [(3,LW cs i),(4,Ba rc n)] 5 z zn) (fun(x:Unit)=>tX (jE.grow 1 [SL 4 n n]) (tO (dI i) (tE [(1,6)] [(zn,4,BR rc (n*1) 1 3)] [(0,Y5),eM n,kD b,(7,SL 1 (i+1) (i+1)),C4 i] (XL cs zn n i) 2 (HZ z zn rc n) (zn+1)))) Al.nil))).fork (tA 1 (tE Y0 [] [(0,Y5),eM n,kD b,sP i] [(1,BR cs (i*1) 1 128)] 2 z zn)))
theorem UF(z:T aa)(zn n i:Nat)(b:Bool)(bl:aV)(Q:QL)(hyp:Br (decide (0<(↑n:Int))) (E6 116 z zn (R7 Y5 (IV n) (fY b) (jM i) (IV i) PU iq (KO (ay PR []) (ey bl)/\Rs (BR L5 1 1 3)/\Q aN [(0,Y5),eM n,kD b,(7,jM i),(8,IV i),(9,SL 4 1 1),(10,iq)] (XK bl) 5 z zn))) (E6 116 z zn (R6 Y5 (IV n) (fY b) (jM i) (IV i) H4 (KO (ay PY []) (ey bl)/\TQ/\Q iy [(0,Y5),eM n,kD b,(7,jM i),(8,IV i),(9,H4)] (XX bl) 5 z zn)))):RdT prog gH cW PV 116 (mH an n b i 0) z [(3,ey bl),(4,Gf)] 5 zn 3 Q:=K1t hyp ((tA 3 (tE PR [] [(0,Y5),eM n,kD b,(7,jM i),(8,IV i),(9,SL 4 1 1),(10,iq)] (XK bl) 5 z zn)).fork (tA 1 (tE PY [] [(0,Y5),eM n,kD b,(7,jM i),(8,IV i),(9,H4)] (XX bl) 5 z zn)))
theorem UG(z:T aa)(zn n i k:Nat)(b:Bool)(bl:aV)(cs:List Value)(Q:QL)(hyp:Br (decide ((↑k:Int)<(↑n:Int))) (Rs L5/\Rf k/\cs.length=k*1/\Rf (k*1)/\k+1<=1048576/\ZV (IntKind.i64.wrap ((↑k:Int)+1))=IV (k+1)/\E6 116 z zn (R7 Y5 (IV n) (fY b) (jM i) (IV i) (PS k) (IV (k+1)) (K2 (ay PR []) (ey bl) (BR (cs++L5) ((k+1)*1) 1 3) (Q aN [(0,Y5),eM n,kD b,(7,jM i),(8,IV i),(9,SL 4 (k+1) (k+1)),(10,IV (k+1))] (XW bl cs k) 5 z zn)))) (E6 116 z zn (R6 Y5 (IV n) (fY b) (jM i) (IV i) (SL 4 k k) (K2 (ay PY []) (ey bl) (BR cs (k*1) 1 3) (Q iy [(0,Y5),eM n,kD b,(7,jM i),(8,IV i),(9,SL 4 k k)] [(3,ey bl),(4,BR cs (k*1) 1 3)] 5 z zn))))):RdT prog gH cW PV 116 (mH an n b i k) z [(3,ey bl),(4,Ba cs k)] 5 zn 3 Q:=K1t hyp ((tA 1 (tX (jE.grow 1 L5) (tO (dI k) (tE PR [] [(0,Y5),eM n,kD b,(7,jM i),(8,IV i),(9,SL 4 (k+1) (k+1)),(10,IV (k+1))] (XW bl cs k) 5 z zn)))).fork (tA 1 (tE PY [] [(0,Y5),eM n,kD b,(7,jM i),(8,IV i),(9,SL 4 k k)] [(3,ey bl),(4,BR cs (k*1) 1 3)] 5 z zn)))
abbrev pt(bl:aV)(nf kf n:Nat):Prop:=ai prog bl 128 (0+nf*1)=some (eg kf n)
abbrev H3(z:T aa)(kf:Nat)(cs:List Value)(kd:aV):T aa:=z.set kf (aa.az (aV.mk cs kd.cap kd.ko kd.elem kd.exact kd.whole kd.bN kd.own))
abbrev Hr(bl:aV):Prop:=KO (ay Y0 []) (ey bl)
abbrev TW(m cp n:Nat)(b:Bool)(i:Nat):List (Nat × Value):=[(0,fO m cp),eM n,kD b,sP n,(11,IV (i+1))]
abbrev gR(bl:aV):Nat × aa:=(1,ey bl)
noncomputable abbrev XV:Code:=ah (ag f149) 2
theorem rs2(z:T aa)(zn m cp n i nf nt kf:Nat)(b:Bool)(bl kb kd:aV)(x:ae)(v w:Int)(cs:List Value)(Q:QL)(hyp:Br (decide ((↑i:Int)<(↑m:Int))) (cG i/\i<m/\Qg/\z.get 4=rM kb/\F5 kb i x/\Br x.sf (x.fz1=(↑nf:Int)/\nf<n/\pt bl nf kf n/\x.fz1=(↑nf:Int)/\nf<n/\pt bl nf kf n/\x.aB=(↑nt:Int)/\nt<n/\fH kf/\fR z kf kd/\px kd nt v/\x.aB=(↑nt:Int)/\nt<n/\fH kf/\fR z kf kd/\kd.own=true/\kd.bN=0/\overwrite kd.cells (0+nt*1) [ZV (if x.aK<v then x.aK else v)]=some cs/\cs.length<=kd.cap/\ZV (IntKind.i64.wrap ((↑i:Int)+1))=IV (i+1)/\E6 116 (H3 z kf cs kd) zn (R5 (fO m cp) (IV n) (fY b) (cX n) (IV (i+1)) (Hr bl/\Q aN (TW m cp n b i) [gR bl] 2 (H3 z kf cs kd) zn))) (Br (!b) (x.fz1=(↑nf:Int)/\nf<n/\pt bl nf kf n/\x.fz1=(↑nf:Int)/\nf<n/\pt bl nf kf n/\x.aB=(↑nt:Int)/\nt<n/\fH kf/\fR z kf kd/\px kd nt v/\x.aB=(↑nt:Int)/\nt<n/\fH kf/\fR z kf kd/\kd.own=true/\kd.bN=0/\overwrite kd.cells (0+nt*1) [ZV (if x.aK<v then x.aK else v)]=some cs/\cs.length<=kd.cap/\ZV (IntKind.i64.wrap ((↑i:Int)+1))=IV (i+1)/\E6 116 (H3 z kf cs kd) zn (R5 (fO m cp) (IV n) (fY b) (cX n) (IV (i+1)) (Hr bl/\Q aN (TW m cp n b i) [gR bl] 2 (H3 z kf cs kd) zn))) (ZV (IntKind.i64.wrap ((↑i:Int)+1))=IV (i+1)/\E6 116 z zn (R5 (fO m cp) (IV n) (fY b) (cX n) (IV (i+1)) (Hr bl/\Q aN (TW m cp n b i) [gR bl] 2 z zn))))) (E6 116 z zn (R2 (IV n) (cX n) (Hr bl/\Q CX [eM n,sP n] [gR bl] 2 z zn)))):RdT prog gH cW XV 116 (BC m cp n b i) z [gR bl] 2 zn 2 Q:=K1t hyp ((tA 1 (tO (bS i) (tO (Qe kb x) (tA 1 ((tA 5 (tO (bS nf) (tO (oW kf n) (tA 2 (tO (bS nf) (tO (oW kf n) (tA 1 (tO (bS nt) (tO (oX kf kd v) (tA 2 (tO (bS nt) (tX (jE.Ph kf kd cs) (tO (dI i) (tE Y0 [] (TW m cp n b i) [gR bl] 2 (H3 z kf cs kd) zn)))))))))))))).fork (tA 3 ((tA 1 (tO (bS nf) (tO (oW kf n) (tA 2 (tO (bS nf) (tO (oW kf n) (tA 1 (tO (bS nt) (tO (oX kf kd v) (tA 2 (tO (bS nt) (tX (jE.Ph kf kd cs) (tO (dI i) (tE Y0 [] (TW m cp n b i) [gR bl] 2 (H3 z kf cs kd) zn)))))))))))))).fork (tO (dI i) (tE Y0 [] (TW m cp n b i) [gR bl] 2 z zn))))))))).fork (tA 1 (tE Y0 [] [eM n,sP n] [gR bl] 2 z zn)))
noncomputable abbrev SM:Code:=ah (ag f149) 3
theorem rs5(z:T aa)(zn n k i j ki kk:Nat)(bl k1 k2:aV)(u v w x:Int)(cs:List Value)(Q:QL)(hyp:Br (decide ((↑j:Int)<(↑n:Int))) (cG i/\i<n/\pt bl i ki n/\cG i/\i<n/\pt bl i ki n/\cG j/\j<n/\fH ki/\fR z ki k1/\px k1 j u/\cG i/\i<n/\pt bl i ki n/\cG k/\k<n/\fH ki/\fR z ki k1/\px k1 k v/\cG k/\k<n/\pt bl k kk n/\cG j/\j<n/\fH kk/\fR z kk k2/\px k2 j w/\WQ1 (v+w)/\cG j/\j<n/\fH ki/\fR z ki k1/\k1.own=true/\k1.bN=0/\overwrite k1.cells (0+j*1) [ZV (if v+w<u then v+w else u)]=some cs/\cs.length<=k1.cap/\ZV (IntKind.i64.wrap ((↑j:Int)+1))=IV (j+1)/\E6 116 (H3 z ki cs k1) zn (R5 (IV n) (cX n) (IV k) (IV i) (IV (j+1)) (Hr bl/\Q aN [eM n,sP n,(13,IV k),(14,IV i),(15,IV (j+1))] [gR bl] 2 (H3 z ki cs k1) zn))) (E6 116 z zn (R4 (IV n) (cX n) (IV k) (IV i) (Hr bl/\Q (af.exit 10) [eM n,sP n,(13,IV k),(14,IV i)] [gR bl] 2 z zn)))):RdT prog gH cW (ah (ah SM 0) 0) 116 (Gt n k i j) z [gR bl] 2 zn 2 Q:=K1t hyp ((tA 1 (tO (bS i) (tO (oW ki n) (tO (bS i) (tO (oW ki n) (tO (bS j) (tO (oX ki k1 u) (tO (bS i) (tO (oW ki n) (tO (bS k) (tO (oX ki k1 v) (tO (bS k) (tO (oW kk n) (tO (bS j) (tO (oX kk k2 w) (tO (An.val (ZV (v+w))) (tA 1 (tO (bS j) (tX (jE.Ph ki k1 cs) (tO (dI j) (tE Y0 [] [eM n,sP n,(13,IV k),(14,IV i),(15,IV (j+1))] [gR bl] 2 (H3 z ki cs k1) zn))))))))))))))))))))).fork (tA 1 (tE Y0 [] [eM n,sP n,(13,IV k),(14,IV i)] [gR bl] 2 z zn)))
noncomputable abbrev WN:T aa->Tr:=fun(x:T aa)=>eU
theorem rs4(z:T aa)(zn n k i:Nat)(bl:aV)(φ:T aa->Prop)(Q:QL)(hyp:Br (decide ((↑i:Int)<(↑n:Int))) (rU/\aj prog (ah (ah SM 0) 0) 2 116 (Gt n k i 0) [gR bl] 2 z zn (Al.cons (T aa) φ (fun(z:T aa)=>aA.mk (af.exit 10) (zJ n k i) [gR bl] 2 z zn) WN Al.nil).R/\E6 116 z zn (R5 (IV n) (cX n) (IV k) (IV i) YM (Hr bl/\ ∀(x:T aa),φ x->ZV (IntKind.i64.wrap ((↑i:Int)+1))=IV (i+1)/\E6 116 x zn (R4 (IV n) (cX n) (IV k) (IV (i+1)) (Hr bl/\Q aN [eM n,sP n,(13,IV k),(14,IV (i+1))] [gR bl] 2 x zn))))) (E6 116 z zn (R3 (IV n) (cX n) (IV k) (Hr bl/\Q (af.exit 8) [eM n,sP n,(13,IV k)] [gR bl] 2 z zn)))):RdT prog gH cW (ah SM 0) 116 (zJ n k i) z [gR bl] 2 zn 2 Q:=K1t hyp ((tA 1 (Tr.lp 2 116 Y0 [] (Gt n k i 0) [gR bl] 2 z zn (Al.cons (T aa) φ (fun(z:T aa)=>aA.mk (af.exit 10) (zJ n k i) [gR bl] 2 z zn) (fun(x:T aa)=>tO (dI i) (tE Y0 [] [eM n,sP n,(13,IV k),(14,IV (i+1))] [gR bl] 2 x zn)) Al.nil))).fork (tA 1 (tE Y0 [] [eM n,sP n,(13,IV k)] [gR bl] 2 z zn)))
theorem rs3(z:T aa)(zn n k:Nat)(bl:aV)(φ:T aa->Prop)(Q:QL)(hyp:Br (decide ((↑k:Int)<(↑n:Int))) (rU/\aj prog (ah SM 0) 2 116 (zJ n k 0) [gR bl] 2 z zn (Al.cons (T aa) φ (fun(z:T aa)=>aA.mk (af.exit 8) (sB n k) [gR bl] 2 z zn) WN Al.nil).R/\E6 116 z zn (R4 (IV n) (cX n) (IV k) YM (Hr bl/\ ∀(x:T aa),φ x->ZV (IntKind.i64.wrap ((↑k:Int)+1))=IV (k+1)/\E6 116 x zn (R3 (IV n) (cX n) (IV (k+1)) (Hr bl/\Q aN [eM n,sP n,(13,IV (k+1))] [gR bl] 2 x zn))))) (E6 116 z zn (Rs (cX n)/\Hr bl/\Q (af.exit 6) [sP n] [gR bl] 2 z zn))):RdT prog gH cW SM 116 (sB n k) z [gR bl] 2 zn 2 Q:=K1t hyp ((tA 1 (Tr.lp 2 116 Y0 [] (zJ n k 0) [gR bl] 2 z zn (Al.cons (T aa) φ (fun(z:T aa)=>aA.mk (af.exit 8) (sB n k) [gR bl] 2 z zn) (fun(x:T aa)=>tO (dI k) (tE Y0 [] [eM n,sP n,(13,IV (k+1))] [gR bl] 2 x zn)) Al.nil))).fork (tA 1 (tE Y0 [] [sP n] [gR bl] 2 z zn)))
abbrev lH(s:dE):aa:=aa.az s.bl
noncomputable abbrev YID(m cp n:Nat)(b:Bool)(s:dE):aA:=aA.mk YO [(0,tb 4 m cp),(1,iv n),kD b,(7,bd 1 n n)] [(1,lH s)] 2 s.z s.zn
noncomputable abbrev YIE(n:Nat)(x:dE)(z:T aa):aA:=aA.mk CX [(1,iv n),(7,bd 1 n n)] [(1,lH x)] 2 z x.zn
abbrev XH(x:dE):Prop:=KO (ay Y0 []) (lH x)
noncomputable abbrev YIG(n:Nat)(x:dE)(z:T aa):aA:=aA.mk (af.exit 6) [(7,bd 1 n n)] [(1,lH x)] 2 z x.zn
noncomputable abbrev XG(n:Nat)(x:dE):T aa->aA:=fun(z:T aa)=>YIG n x z
noncomputable abbrev YII(n:Nat)(x:dE):T aa->Tr:=fun(x_2:T aa)=>tR [(0,1)] [] (eA n) [(0,lH x)] 1 x_2 x.zn
theorem rs(z:T aa)(zn m cp n:Nat)(b:Bool)(φ:dE->Prop)(ψ:dE->T aa->Prop)(χ:dE->T aa->T aa->Prop)(Q:QF)(hyp:YP/\aj prog SO 1 116 (qN (tb 4 m cp) n b 0) [(1,G0)] 2 z zn (Al.cons dE φ (fun(s:dE)=>YID m cp n b s) (fun(x:dE)=>eU) Al.nil).R/\E6 116 z zn (R5 (fO m cp) (IV n) (fY b) (SL 0 0 0) YM (TS/\ ∀(x:dE),φ x->rU/\aj prog XV 2 116 (BC m cp n b 0) [(1,lH x)] 2 x.z x.zn (Al.cons (T aa) (ψ x) (fun(z:T aa)=>YIE n x z) WN Al.nil).R/\E6 116 x.z x.zn (R5 (fO m cp) (IV n) (fY b) (cX n) YM (XH x/\ ∀(x_1:T aa),ψ x x_1->rU/\aj prog SM 2 116 (sB n 0) [(1,lH x)] 2 x_1 x.zn (Al.cons (T aa) (χ x x_1) (XG n x) WN Al.nil).R/\E6 116 x_1 x.zn (R3 (IV n) (cX n) YM (XH x/\ ∀(x_2:T aa),χ x x_1 x_2->E6 116 x_2 x.zn (KO (ay [(0,1)] []) (lH x)/\Rs (cX n)/\Q (eA n) [(0,lH x)] 1 x_2 x.zn)))))))):FnT prog gH cW f149 [tb 4 m cp,iv n,fY b] z [] 0 zn Q:=K1t hyp (Tr.lp 1 116 CK [] (qN (tb 4 m cp) n b 0) [(1,G0)] 2 z zn (Al.cons dE φ (fun(s:dE)=>aA.mk YO [(0,tb 4 m cp),(1,iv n),kD b,(7,bd 1 n n)] [(1,lH s)] 2 s.z s.zn) (fun(x:dE)=>Tr.lp 2 116 Y0 [] (BC m cp n b 0) [(1,lH x)] 2 x.z x.zn (Al.cons (T aa) (ψ x) (fun(z:T aa)=>aA.mk CX [(1,iv n),(7,bd 1 n n)] [(1,lH x)] 2 z x.zn) (fun(x_1:T aa)=>Tr.lp 2 116 Y0 [] (sB n 0) [(1,lH x)] 2 x_1 x.zn (Al.cons (T aa) (χ x x_1) (XG n x) (YII n x) Al.nil)) Al.nil)) Al.nil))
theorem Z6(z:T aa)(zn n i:Nat)(b:Bool)(bl:aV)(Q:QL)(hyp:E6 116 z zn (R2 (IV n) (cX n) (Hr bl/\Q CX [eM n,sP n] [gR bl] 2 z zn))):RdT prog gH cW XV 116 (xU n b 0) z [gR bl] 2 zn 2 Q:=K1t hyp (tA 2 (tE Y0 [] [eM n,sP n] [gR bl] 2 z zn))
noncomputable abbrev YIJ(n:Nat)(b:Bool)(s:dE):aA:=aA.mk YO [(0,an),(1,iv n),kD b,(7,bd 1 n n)] [(1,lH s)] 2 s.z s.zn
theorem rsn(z:T aa)(zn n:Nat)(b:Bool)(φ:dE->Prop)(χ:dE->T aa->Prop)(Q:QF)(hyp:YP/\aj prog SO 1 116 (qN an n b 0) [(1,G0)] 2 z zn (Al.cons dE φ (fun(s:dE)=>YIJ n b s) (fun(x:dE)=>eU) Al.nil).R/\E6 116 z zn (R5 Y5 (IV n) (fY b) (SL 0 0 0) YM (TS/\ ∀(x:dE),φ x->rU/\aj prog XV 2 116 (xU n b 0) [(1,lH x)] 2 x.z x.zn (alt True (aA.mk CX [(1,iv n),(7,bd 1 n n)] [(1,lH x)] 2 x.z x.zn) Al.nil).R/\E6 116 x.z x.zn (R5 Y5 (IV n) (fY b) (cX n) YM (XH x/\ ∀(x_1:Unit),True->rU/\aj prog SM 2 116 (sB n 0) [(1,lH x)] 2 x.z x.zn (Al.cons (T aa) (χ x) (XG n x) WN Al.nil).R/\E6 116 x.z x.zn (R3 (IV n) (cX n) YM (XH x/\ ∀(x_2:T aa),χ x x_2->E6 116 x_2 x.zn (KO (ay [(0,1)] []) (lH x)/\Rs (cX n)/\Q (eA n) [(0,lH x)] 1 x_2 x.zn)))))))):FnT prog gH cW f149 [an,iv n,fY b] z [] 0 zn Q:=K1t hyp (Tr.lp 1 116 CK [] (qN an n b 0) [(1,G0)] 2 z zn (Al.cons dE φ (fun(s:dE)=>aA.mk YO [(0,an),(1,iv n),kD b,(7,bd 1 n n)] [(1,lH s)] 2 s.z s.zn) (fun(x:dE)=>Tr.lp 2 116 Y0 [] (xU n b 0) [(1,lH x)] 2 x.z x.zn (Al.cons Unit Yc (fun(x_1:Unit)=>aA.mk CX [(1,iv n),(7,bd 1 n n)] [(1,lH x)] 2 x.z x.zn) (fun(x_1:Unit)=>Tr.lp 2 116 Y0 [] (sB n 0) [(1,lH x)] 2 x.z x.zn (Al.cons (T aa) (χ x) (XG n x) (YII n x) Al.nil)) Al.nil)) Al.nil))
end
end Go.Proofs.Nw
namespace Go.Proofs.Nw
open Go Go.AV Tryz Go.jP
set_option maxHeartbeats 1000000
set_option maxRecDepth 100000
def W7(pv:Value):Prop:=(∃m cp,pv=tb 4 m cp)\/pv=an
def fj(k:Nat):List Value:=List.replicate k (I 1099511627776)
theorem Cw(k:Nat):(fj k).length=k:=by simp[fj]
theorem yM(k:Nat):fj (k+1)=fj k++[I 1099511627776]:=by simp[fj,List.replicate_succ']
theorem vu(k:Nat):bJ (fj k)=true:=by
 rw[de];intro v hv;rw[(List.mem_replicate.1 hv).2];rfl
theorem j6(σ:Nat->Option Nat)(k c:Nat)(x y:Bool):aD σ (.az (aV.mk (fj k) c 1 3 x y 0 true))=some (.az (aV.mk (fj k) c 1 3 x y 0 true)):=cA (vu k)
abbrev A9(cs:List Value)(n:Nat):aV:=⟨cs,n*1,1,3,false,false,0,true⟩
abbrev To(cs:List Value)(k:Nat):aV:=⟨cs,k*1,1,128,false,false,0,true⟩
def dX(b n i:Nat):aV:=if i=0 then ⟨[],0,1,128,true,true,0,true⟩ else To (mX b n i) i
section
variable{z:T aa}{zn:Nat}
theorem Jv(hz:aw z zn)(pv:Value)(hp:W7 pv)(n:Nat)(h0:0<n)(hn:n<=64)(b:Bool)(i:Nat)(bl:aV)(hbl: ∀σ,aD (ay ((3,3)::σ) []) (.az bl)=some (.az bl)):
 aj prog (ah (ah (ag f149) 0) 0) 3 116 (mH pv n b i 0) [(3, .az bl),(4,Gf)] 5 z zn (Al.R (Rj z zn pv n b i (.az bl) (fj n)).l):=by
 refine ax hD (c7 T.leaf) (α:=Nat) 3 116 5 (fun k=>k<=n) (fun k=>mH pv n b i k) (fun k=>[(3, .az bl),(4,if k=0 then Gf else Ba (fj k) k)]) (fun _=>z) (fun _=>zn) (fun k=>n - k) _ (fun k hk=>?_) 0 (Nat.zero_le _)
 have nx: ∀k',k'=k+1->k<n->au (fun k=>k<=n) (fun k=>mH pv n b i k) (fun k=>[(3, .az bl),(4,if k=0 then Gf else Ba (fj k) k)]) 5 (fun _=>z) (fun _=>zn) (fun k=>n - k) (Al.R (Rj z zn pv n b i (.az bl) (fj n)).l) k .normal (mH pv n b i k') [(3, .az bl),(4,Ba (fj k') k')] 5 z zn:=fun k' e h=>by
  subst e
  exact⟨k+1,rfl,by show _=[(3,aa.az bl),(4,if k+1=0 then Gf else Ba (fj (k+1)) (k+1))];rw[if_neg (Nat.succ_ne_zero _)],rfl,rfl,rfl,h,by show n - (k+1)<n - k;omega⟩
 by_cases hk0:k=0
 ·subst hk0
  have hc:decide ((0:Int)<(n:Int))=true:=by simp;omega
  rw[if_pos rfl]
  rcases hp with ⟨m,cp,rfl⟩|rfl
  ·refine t100 (Z7 z zn n i m cp b bl (au _ _ _ _ _ _ _ _ _) ⟨fun _=>?_,nC1 hc⟩)
   (repeat' first|(with_reducible first|exact rfl|assumption|apply And.intro|exact hbl _))
   exact nx 1 rfl h0
  ·refine t100 (UF z zn n i b bl (au _ _ _ _ _ _ _ _ _) ⟨fun _=>?_,nC1 hc⟩)
   (repeat' first|(with_reducible first|exact rfl|assumption|apply And.intro|exact hbl _))
   exact nx 1 rfl h0
 ·rw[if_neg hk0]
  by_cases hlt:k<n
  ·have hc:decide ((k:Int)<(n:Int))=true:=by simp;omega
   have hr: ∀σ c x y,aD σ (.az (aV.mk (fj k++[I 1099511627776]) c 1 3 x y 0 true))=some (.az (aV.mk (fj k++[I 1099511627776]) c 1 3 x y 0 true)):=fun σ c x y=>by rw[←yM];exact j6 _ _ _ _ _
   have ff:au (fun k=>k<=n) (fun k=>mH pv n b i k) (fun k=>[(3, .az bl),(4,if k=0 then Gf else Ba (fj k) k)]) 5 (fun _=>z) (fun _=>zn) (fun k=>n - k) (Al.R (Rj z zn pv n b i (.az bl) (fj n)).l) k .normal (mH pv n b i (k+1)) [(3, .az bl),(4,Ba (fj k++[I 1099511627776]) (k+1))] 5 z zn:=by
    rw[←yM];exact nx (k+1) rfl hlt
   rcases hp with ⟨m,cp,rfl⟩|rfl
   ·refine t100 (rs1 z zn n i k m cp b bl (fj k) (au _ _ _ _ _ _ _ _ _) ⟨fun _=>?_,nC1 hc⟩)
    (repeat' first|(with_reducible first|exact rfl|assumption|apply And.intro|exact hbl _|exact hr _ _ _ _|exact(by rw[Cw,Nat.mul_one]:(fj k).length=k*1)|exact(by omega:k+1<=1048576)|exact bH (by omega)))
    exact ff
   ·refine t100 (UG z zn n i k b bl (fj k) (au _ _ _ _ _ _ _ _ _) ⟨fun _=>?_,nC1 hc⟩)
    (repeat' first|(with_reducible first|exact rfl|assumption|apply And.intro|exact hbl _|exact hr _ _ _ _|exact(by rw[Cw,Nat.mul_one]:(fj k).length=k*1)|exact(by omega:k+1<=1048576)|exact bH (by omega)))
    exact ff
  ·have hc:decide ((k:Int)<(n:Int))=false:=by simp;omega
   have:k=n:=by omega
   subst this
   rcases hp with ⟨m,cp,rfl⟩|rfl
   ·refine t100 (rs1 z zn k i k m cp b bl (fj k) (au _ _ _ _ _ _ _ _ _) ⟨nC1 hc,fun _=>?_⟩)
    (repeat' first|(with_reducible first|exact rfl|assumption|apply And.intro|exact hbl _|exact j6 _ _ _ _ _))
    exact bh trivial
   ·refine t100 (UG z zn k i k b bl (fj k) (au _ _ _ _ _ _ _ _ _) ⟨nC1 hc,fun _=>?_⟩)
    (repeat' first|(with_reducible first|exact rfl|assumption|apply And.intro|exact hbl _|exact j6 _ _ _ _ _))
    exact bh trivial
structure jO(z0:T aa)(n0 n i:Nat)(s:dE):Prop where
 bN:aw s.z s.zn
 zn:s.zn=n0+i
 gK: ∀k,k<n0->s.z.get k=z0.get k
 row: ∀j,j<i->s.z.get (n0+j)=some (.az (A9 (fj n) n))
 bl:s.bl=dX n0 n i
theorem vf{σ:bq}(b n i c:Nat):aD (ay σ []) (.az (aV.mk (mX b n i) c 1 128 false false 0 true))=some (.az (aV.mk (mX b n i) c 1 128 false false 0 true)):=by
 have:=qB (σ:=ay σ []) (b:=b) (n:=n) (i:=i) fun j _=>ED σ _
 simp only[aD,this]
theorem dG{σ:bq}(b n i:Nat):aD (ay σ []) (.az (dX b n i))=some (.az (dX b n i)):=by
 unfold dX
 split
 ·rfl
 ·exact vf _ _ _ _
theorem JS{z0:T aa}{n0 n i:Nat}{z:T aa}(h:jO z0 n0 n i ⟨dX n0 n i,z,n0+i⟩):jO z0 n0 n (i+1) ⟨To (mX n0 n i++[tb (n0+i) n n]) (i+1),z.set (n0+i) (.az (A9 (fj n) n)),n0+i+1⟩:=by
 have hz:aw z (n0+i):=h.bN
 refine⟨dL hz (vu n),rfl,fun k hk=>?_,fun j hj=>?_,?_⟩
 ·show(z.set (n0+i) _).get k=_
  rw[T.aH,if_neg (by omega)];exact h.gK k hk
 ·show(z.set (n0+i) _).get (n0+j)=_
  rw[T.aH]
  by_cases e:j=i
  ·subst e;rw[if_pos rfl]
  ·rw[if_neg (by omega)];exact h.row j (by omega)
 ·show _=dX n0 n (i+1)
  unfold dX
  rw[if_neg (Nat.succ_ne_zero _),ql]
theorem BS(z0:T aa)(n0:Nat)(hz0:aw z0 n0)(h5:5<=n0)(pv:Value)(hp:W7 pv)(n:Nat)(hn:n<=64)(b:Bool):
 aj prog (ah (ag f149) 0) 1 116 (qN pv n b 0) [(1,G0)] 2 z0 n0 (Al.R (Rk z0 n0 pv n b (jO z0 n0 n n)).l):=by
 refine ax hD (c7 T.leaf) (α:=Nat × T aa) 1 116 2 (fun t=>t.1<=n/\jO z0 n0 n t.1 ⟨dX n0 n t.1,t.2,n0+t.1⟩) (fun t=>qN pv n b t.1) (fun t=>[(1, .az (dX n0 n t.1))]) (fun t=>t.2) (fun t=>n0+t.1) (fun t=>n - t.1) _ (fun t hI=>?_) (0,z0) ⟨Nat.zero_le _,hz0,rfl,fun _ _=>rfl,fun j hj=>absurd hj (Nat.not_lt_zero _),rfl⟩
 obtain⟨i,z⟩:=t
 obtain⟨hi,hs⟩:=hI
 simp only at hi hs ⊢
 have hz:aw z (n0+i):=hs.bN
 have rX: ∀σ,aD (ay ((3,3)::σ) []) (.az (dX n0 n i))=some (.az (dX n0 n i)):=fun σ=>dG _ _ _
 have rT: ∀{σ:bq} {o:aa} {m cp:Nat},aP (ay σ [(n0+i,4,o)]) (tb 4 m cp)=some (tb 4 m cp):=fun {σ o m cp}=>by
  simp only[aP,kL (σ:=σ) (c:=4) (o:=o) (show 4≠n0+i by omega)]
 have rR: ∀σ o,aD (ay σ [(n0+i,4,o)]) (.az (aV.mk (mX n0 n i++[tb (n0+i) n n]) ((i+1)*1) 1 128 false false 0 true))=some (.az (aV.mk (mX n0 n i++[bd 4 n n]) ((i+1)*1) 1 128 false false 0 true)):=fun σ o=>by
  have q1:=qB (σ:=ay σ [(n0+i,4,o)]) (b:=n0) (n:=n) (i:=i) fun j hj=>kL (by omega)
  have q2:aS (ay σ [(n0+i,4,o)]) [tb (n0+i) n n]=some [bd 4 n n]:=by
   have:=iO (σ:=σ) (k:=n0+i) (c:=4) (n:=n) (m:=n) (o:=o)
   simp only[aS,this]
  simp only[aD,nF q1 q2]
 by_cases hlt:i<n
 ·have nx:au (fun t:Nat × T aa=>t.1<=n/\jO z0 n0 n t.1 ⟨dX n0 n t.1,t.2,n0+t.1⟩) (fun t=>qN pv n b t.1) (fun t=>[(1, .az (dX n0 n t.1))]) 2 (fun t=>t.2) (fun t=>n0+t.1) (fun t=>n - t.1) (Al.R (Rk z0 n0 pv n b (jO z0 n0 n n)).l) (i,z) .normal (qN pv n b (i+1)) [(1, .az (To (mX n0 n i++[tb (n0+i) n n]) (i+1)))] 2 (z.set (n0+i) (.az (A9 (fj n) n))) (n0+i+1):=by
   have e:dX n0 n (i+1)=To (mX n0 n i++[tb (n0+i) n n]) (i+1):=by
    unfold dX;rw[if_neg (Nat.succ_ne_zero _),ql]
   refine⟨(i+1,z.set (n0+i) (.az (A9 (fj n) n))),rfl,?_,rfl,rfl,rfl,⟨hlt,?_⟩,by show n - (i+1)<n - i;omega⟩
   ·show _=[(1,aa.az (dX n0 n (i+1)))]
    rw[e]
   ·have:=JS hs
    rw[←e] at this;exact this
  have hl1:=Jv hz pv hp n (by omega) hn b i (dX n0 n i) rX
  by_cases hi0:i=0
  ·subst hi0
   have hc:decide ((0:Int)<(n:Int))=true:=by simp;omega
   rw[show dX n0 n 0=⟨[],0,1,128,true,true,0,true⟩ from rfl] at hl1 ⊢
   have rR':=fun σ o=>rR σ o
   rcases hp with ⟨m,cp,rfl⟩|rfl
   ·refine t100 (UH z (n0+0) n m cp b (fj n) (au _ _ _ _ _ _ _ _ _) ⟨fun _=>?_,nC1 hc⟩)
    (repeat' first|(with_reducible first|exact rfl|assumption|apply And.intro|exact rT|exact j6 _ _ _ _ _|exact Nat.le_refl _|exact Nat.lt_succ_self _)|exact hl1|exact rR _ _|exact Nat.le_succ _|intro hq)
    exact nx
   ·refine t100 (Pk z (n0+0) n b (fj n) (au _ _ _ _ _ _ _ _ _) ⟨fun _=>?_,nC1 hc⟩)
    (repeat' first|(with_reducible first|exact rfl|assumption|apply And.intro|exact j6 _ _ _ _ _|exact Nat.le_refl _|exact Nat.lt_succ_self _)|exact hl1|exact rR _ _|exact Nat.le_succ _|intro hq)
    exact nx
  ·have hc:decide ((i:Int)<(n:Int))=true:=by simp;omega
   have eX:dX n0 n i=To (mX n0 n i) i:=by unfold dX;rw[if_neg hi0]
   rw[eX] at hl1 ⊢
   rcases hp with ⟨m,cp,rfl⟩|rfl
   ·refine t100 (rs0 z (n0+i) n i m cp b (mX n0 n i) (fj n) (au _ _ _ _ _ _ _ _ _) ⟨fun _=>?_,nC1 hc⟩)
    (repeat' first|(with_reducible first|exact rfl|assumption|apply And.intro|exact rT|exact rR _ _|exact vf _ _ _ _|exact j6 _ _ _ _ _|exact(by rw[qm,Nat.mul_one]:(mX n0 n i).length=i*1)|exact(by omega:i+1<=1048576)|exact bH (by omega)|exact Nat.le_refl _|exact Nat.lt_succ_self _)|exact hl1|exact Nat.le_succ _|intro hq)
    exact nx
   ·refine t100 (UI z (n0+i) n i b (mX n0 n i) (fj n) (au _ _ _ _ _ _ _ _ _) ⟨fun _=>?_,nC1 hc⟩)
    (repeat' first|(with_reducible first|exact rfl|assumption|apply And.intro|exact rR _ _|exact vf _ _ _ _|exact j6 _ _ _ _ _|exact(by rw[qm,Nat.mul_one]:(mX n0 n i).length=i*1)|exact(by omega:i+1<=1048576)|exact bH (by omega)|exact Nat.le_refl _|exact Nat.lt_succ_self _)|exact hl1|exact Nat.le_succ _|intro hq)
    exact nx
 ·have hin:i=n:=by omega
  subst hin
  have hc:decide ((i:Int)<(i:Int))=false:=by simp
  have fin:au (fun t:Nat × T aa=>t.1<=i/\jO z0 n0 i t.1 ⟨dX n0 i t.1,t.2,n0+t.1⟩) (fun t=>qN pv i b t.1) (fun t=>[(1, .az (dX n0 i t.1))]) 2 (fun t=>t.2) (fun t=>n0+t.1) (fun t=>i - t.1) (Al.R (Rk z0 n0 pv i b (jO z0 n0 i i)).l) (i,z) (.exit 0) [(0,pv),(1,iv i),(2, .bool b),(7,bd 1 i i)] [(1, .az (dX n0 i i))] 2 z (n0+i):=
   Ej (k:=fun _=>eU) (⟨dX n0 i i,z,n0+i⟩:dE) hs rfl
  by_cases hi0:i=0
  ·subst hi0
   have hc:decide ((0:Int)<((0:Nat):Int))=false:=by simp
   rcases hp with ⟨m,cp,rfl⟩|rfl
   ·refine t100 (UH z (n0+0) 0 m cp b (fj 0) (au _ _ _ _ _ _ _ _ _) ⟨nC1 hc,fun _=>?_⟩)
    (repeat' first|(with_reducible first|exact rfl|assumption|apply And.intro))
    exact fin
   ·refine t100 (Pk z (n0+0) 0 b (fj 0) (au _ _ _ _ _ _ _ _ _) ⟨nC1 hc,fun _=>?_⟩)
    (repeat' first|(with_reducible first|exact rfl|assumption|apply And.intro))
    exact fin
  ·have eX:dX n0 i i=To (mX n0 i i) i:=by unfold dX;rw[if_neg hi0]
   rw[eX] at fin ⊢
   rcases hp with ⟨m,cp,rfl⟩|rfl
   ·refine t100 (rs0 z (n0+i) i i m cp b (mX n0 i i) (fj i) (au _ _ _ _ _ _ _ _ _) ⟨nC1 hc,fun _=>?_⟩)
    (repeat' first|(with_reducible first|exact rfl|assumption|apply And.intro|exact vf _ _ _ _))
   ·refine t100 (UI z (n0+i) i i b (mX n0 i i) (fj i) (au _ _ _ _ _ _ _ _ _) ⟨nC1 hc,fun _=>?_⟩)
    (repeat' first|(with_reducible first|exact rfl|assumption|apply And.intro|exact vf _ _ _ _))
end
structure HI(z0:T aa)(n0 n:Nat)(z:T aa)(M:Nat->Nat->Int):Prop where
 bN:aw z (n0+n)
 gK: ∀k,k<n0->z.get k=z0.get k
 row: ∀i,i<n-> ∃l:List Int,z.get (n0+i)=some (.az (A9 (l.map zv) n))/\l.length=n/\ ∀j,j<n->l[j]? =some (M i j)
abbrev mN:Nat:=1099511627776
structure BM(n:Nat)(M:Nat->Nat->Int):Prop where
 le: ∀i j,i<n->j<n->M i j<=(mN:Int)
theorem qK{z0:T aa}{n0 n:Nat}{z:T aa}{M:Nat->Nat->Int}(h:HI z0 n0 n z M){i j:Nat}(hi:i<n)(hj:j<n){l:List Int}(hl: ∀j,j<n->l[j]? =some (M i j)):ai prog (A9 (l.map zv) n) 3 (0+j*1)=some (zv (M i j)):=
 jT (d:=_) underlying3 rfl (by show(l.map zv)[j]? =_;rw[List.getElem?_map,hl j hj];rfl)
theorem IW(l:List Int):bJ (l.map zv)=true:=by
 rw[de];intro v hv
 obtain⟨x,_,rfl⟩:=List.mem_map.1 hv;rfl
theorem Fi{z0:T aa}{n0 n:Nat}{z:T aa}{M:Nat->Nat->Int}(h:HI z0 n0 n z M){i j:Nat}(hi:i<n)(hj:j<n){l:List Int}(hll:l.length=n)(hl: ∀j,j<n->l[j]? =some (M i j))(w:Int):HI z0 n0 n (z.set (n0+i) (.az (A9 ((l.set j w).map zv) n))) (pg M i j w):=by
 refine⟨qU h.bN (by omega) fun σ _=>cA (IW _),fun k hk=>?_,fun a ha=>?_⟩
 ·rw[T.aH,if_neg (by omega)];exact h.gK k hk
 ·by_cases e:a=i
  ·subst e
   refine⟨l.set j w,by rw[T.aH,if_pos rfl],by rw[List.length_set,hll],fun b hb=>?_⟩
   rw[List.getElem?_set]
   unfold pg
   by_cases e2:j=b
   ·subst e2;rw[if_pos rfl,if_pos (by omega),if_pos ⟨rfl,rfl⟩]
   ·rw[if_neg e2,if_neg (fun h=>e2 h.2.symm)];exact hl b hb
  ·obtain⟨l',k1,k2,k3⟩:=h.row a ha
   refine⟨l',by rw[T.aH,if_neg (by omega)];exact k1,k2,fun b hb=>?_⟩
   unfold pg
   rw[if_neg (fun h=>e h.1)];exact k3 b hb
theorem GZ(b n i:Nat):(dX b n i).cells=mX b n i:=by
 unfold dX
 split
 ·rename_i e;subst e;rfl
 ·rfl
theorem Qx{b n m i:Nat}(h:i<m):(mX b n m)[i]? =some (tb (b+i) n n):=by
 unfold mX
 rw[List.getElem?_map,List.getElem?_range h];rfl
theorem rm{b n i:Nat}(h:i<n):ai prog (dX b n n) 128 (0+i*1)=some (tb (b+i) n n):=jT underlying128 rfl (by rw[GZ];exact Qx h)
theorem Sz{n:Nat}{M:Nat->Nat->Int}(h:BM n M)(i j:Nat){w:Int}(hw:w<=(mN:Int)):BM n (pg M i j w):=⟨fun a b ha hb=>by
 unfold pg;split
 ·exact hw
 ·exact h.le a b ha hb⟩
section
variable{z0:T aa}{n0:Nat}
def FW(z0:T aa)(n0 n:Nat)(E:bY)(k i j:Nat)(z:T aa):Prop:= ∃M,HI z0 n0 n z M/\BM n M/\Tb E n mN k i j M
theorem FW.bN{n:Nat}{E:bY}{k i j:Nat}{z:T aa}(h:FW z0 n0 n E k i j z):aw z (n0+n):=by obtain⟨M,h,_⟩:=h;exact h.bN
theorem Js(n:Nat)(hn:n<=64)(E:bY)(k i:Nat)(hk:k<n)(hi:i<n)(z:T aa)(hz:FW z0 n0 n E k i 0 z):
 aj prog (ah (ah (ah (ag f149) 3) 0) 0) 2 116 (Gt n k i 0) [(1, .az (dX n0 n n))] 2 z (n0+n) (Al.R (aay (n0+n) n k i (dX n0 n n) (FW z0 n0 n E k i n)).l):=by
 refine ax hD (c7 T.leaf) (α:=Nat × T aa) 2 116 2 (fun t=>t.1<=n/\FW z0 n0 n E k i t.1 t.2) (fun t=>Gt n k i t.1) (fun t=>[(1, .az (dX n0 n n))]) (fun t=>t.2) (fun t=>n0+n) (fun t=>n - t.1) _ (fun t hI=>?_) (0,z) ⟨Nat.zero_le _,hz⟩
 obtain⟨j,z⟩:=t
 obtain⟨hj,hs⟩:=hI
 simp only at hj hs ⊢
 have hfz:=hs.bN
 obtain⟨M,h1,h2,h3⟩:=hs
 by_cases hlt:j<n
 ·have hc:decide ((j:Int)<(n:Int))=true:=by simp;omega
  obtain⟨li,i1,i2,i3⟩:=h1.row i hi
  obtain⟨lk,k1,k2,k3⟩:=h1.row k hk
  have r1:=qK h1 hi hlt i3
  have r2:=qK h1 hi hk i3
  have r3:=qK h1 hk hlt k3
  have d1:ai prog (dX n0 n n) 128 (0+i*1)=_:=rm hi
  have d2:ai prog (dX n0 n n) 128 (0+k*1)=_:=rm hk
  have b1:=h2.le i j hi hlt
  have b2:=h2.le i k hi hk
  have b3:=h2.le k j hk hlt
  have c2:=(h3.real i k hi hk).1
  have c3:=(h3.real k j hk hlt).1
  have hbig:(mN:Int)=1099511627776:=rfl
  have hwr:Value.int .i64 (IntKind.i64.wrap (M i k+M k j))=Value.int .i64 (M i k+M k j):=gV (by omega) (by omega)
  have hw:(if M i k+M k j<M i j then M i k+M k j else M i j)=min (M i j) (M i k+M k j):=by
   split<;>omega
  have ov:overwrite (A9 (li.map zv) n).cells (0+j*1) [zv (if M i k+M k j<M i j then M i k+M k j else M i j)]=some ((li.set j (min (M i j) (M i k+M k j))).map zv):=by
   rw[hw,nI (cs:=li.map zv) (by simp;omega),←List.map_set]
  have hset:=Fi h1 hi hlt i2 i3 (min (M i j) (M i k+M k j))
  have hfw:FW z0 n0 n E k i (j+1) (z.set (n0+i) (.az (A9 ((li.set j (min (M i j) (M i k+M k j))).map zv) n))):=⟨_,hset,Sz h2 i j (by omega),Je h3 hk hi hlt⟩
  have hfz2:=hfw.bN
  have hl:((li.set j (min (M i j) (M i k+M k j))).map zv).length<=n*1:=by simp[i2]
  refine t100 (rs5 z (n0+n) n k i j (n0+i) (n0+k) (dX n0 n n) (A9 (li.map zv) n) (A9 (lk.map zv) n) (M i j) (M i k) (M k j) (min (M i j) (M i k+M k j)) ((li.set j (min (M i j) (M i k+M k j))).map zv) (au _ _ _ _ _ _ _ _ _) ⟨fun _=>?_,nC1 hc⟩)
  (repeat' first|(with_reducible first|exact rfl|assumption|apply And.intro|exact dG _ _ _|exact bH (by omega)))
  exact⟨(j+1,_),rfl,rfl,rfl,rfl,rfl,⟨hlt,hfw⟩,by show n - (j+1)<n - j;omega⟩
 ·have hjn:j=n:=by omega
  subst hjn
  have hc:decide ((j:Int)<(j:Int))=false:=by simp
  refine t100 (rs5 z (n0+j) j k i j 0 0 (dX n0 j j) ⟨[],0,0,0,true,true,0,true⟩ ⟨[],0,0,0,true,true,0,true⟩ 0 0 0 0 [] (au _ _ _ _ _ _ _ _ _) ⟨nC1 hc,fun _=>?_⟩)
  (repeat' first|(with_reducible first|exact rfl|assumption|apply And.intro|exact dG _ _ _))
  exact Ej (k:=fun _=>eU) z ⟨M,h1,h2,h3⟩ rfl
theorem Jt(n:Nat)(hn:n<=64)(E:bY)(k:Nat)(hk:k<n)(z:T aa)(hz:FW z0 n0 n E k 0 0 z):
 aj prog (ah (ah (ag f149) 3) 0) 2 116 (zJ n k 0) [(1, .az (dX n0 n n))] 2 z (n0+n) (Al.R (aaz (n0+n) n k (dX n0 n n) (FW z0 n0 n E k n 0)).l):=by
 refine ax hD (c7 T.leaf) (α:=Nat × T aa) 2 116 2 (fun t=>t.1<=n/\FW z0 n0 n E k t.1 0 t.2) (fun t=>zJ n k t.1) (fun t=>[(1, .az (dX n0 n n))]) (fun t=>t.2) (fun t=>n0+n) (fun t=>n - t.1) _ (fun t hI=>?_) (0,z) ⟨Nat.zero_le _,hz⟩
 obtain⟨i,z⟩:=t
 obtain⟨hi,hs⟩:=hI
 simp only at hi hs ⊢
 have hfz:=hs.bN
 by_cases hlt:i<n
 ·have hc:decide ((i:Int)<(n:Int))=true:=by simp;omega
  have hlp:=Js n hn E k i hk hlt z hs
  refine t100 (rs4 z (n0+n) n k i (dX n0 n n) (FW z0 n0 n E k i n) (au _ _ _ _ _ _ _ _ _) ⟨fun _=>?_,nC1 hc⟩)
  (repeat' first|(with_reducible first|exact rfl|assumption|apply And.intro|exact FW.bN ‹_›|exact dG _ _ _|exact bH (by omega))|exact hlp|intro hq)
  rename_i x
  obtain⟨M,m1,m2,m3⟩:=hq
  exact⟨(i+1,x),rfl,rfl,rfl,rfl,rfl,⟨hlt,M,m1,m2,M9 m3⟩,by show n - (i+1)<n - i;omega⟩
 ·have hin:i=n:=by omega
  subst hin
  have hc:decide ((i:Int)<(i:Int))=false:=by simp
  refine t100 (rs4 z (n0+i) i k i (dX n0 i i) (fun _=>False) (au _ _ _ _ _ _ _ _ _) ⟨nC1 hc,fun _=>?_⟩)
  (repeat' first|(with_reducible first|exact rfl|assumption|apply And.intro|exact dG _ _ _))
  exact Ej (k:=fun _=>eU) z hs rfl
def FH(z0:T aa)(n0 n:Nat)(E:bY)(k:Nat)(z:T aa):Prop:= ∃M,HI z0 n0 n z M/\BM n M/\Head E n mN k M
theorem FH.bN{n:Nat}{E:bY}{k:Nat}{z:T aa}(h:FH z0 n0 n E k z):aw z (n0+n):=by obtain⟨M,h,_⟩:=h;exact h.bN
theorem BP(n:Nat)(hn:n<=64)(E:bY)(z:T aa)(hz:FH z0 n0 n E 0 z):
 aj prog (ah (ag f149) 3) 2 116 (sB n 0) [(1, .az (dX n0 n n))] 2 z (n0+n) (Al.R (Ri n ⟨dX n0 n n,z,n0+n⟩ (FH z0 n0 n E n)).l):=by
 refine ax hD (c7 T.leaf) (α:=Nat × T aa) 2 116 2 (fun t=>t.1<=n/\FH z0 n0 n E t.1 t.2) (fun t=>sB n t.1) (fun t=>[(1, .az (dX n0 n n))]) (fun t=>t.2) (fun t=>n0+n) (fun t=>n - t.1) _ (fun t hI=>?_) (0,z) ⟨Nat.zero_le _,hz⟩
 obtain⟨k,z⟩:=t
 obtain⟨hk,hs⟩:=hI
 simp only at hk hs ⊢
 have hfz:=hs.bN
 by_cases hlt:k<n
 ·have hc:decide ((k:Int)<(n:Int))=true:=by simp;omega
  have hlp:=Jt (z0:=z0) (n0:=n0) n hn E k hlt z (by obtain⟨M,m1,m2,m3⟩:=hs;exact⟨M,m1,m2,Gq m3⟩)
  refine t100 (rs3 z (n0+n) n k (dX n0 n n) (FW z0 n0 n E k n 0) (au _ _ _ _ _ _ _ _ _) ⟨fun _=>?_,nC1 hc⟩)
  (repeat' first|(with_reducible first|exact rfl|assumption|apply And.intro|exact FW.bN ‹_›|exact dG _ _ _|exact bH (by omega))|exact hlp|intro hq)
  rename_i x
  obtain⟨M,m1,m2,m3⟩:=hq
  exact⟨(k+1,x),rfl,rfl,rfl,rfl,rfl,⟨hlt,M,m1,m2,Na m3⟩,by show n - (k+1)<n - k;omega⟩
 ·have hkn:k=n:=by omega
  subst hkn
  have hc:decide ((k:Int)<(k:Int))=false:=by simp
  refine t100 (rs3 z (n0+k) k k (dX n0 k k) (fun _=>False) (au _ _ _ _ _ _ _ _ _) ⟨nC1 hc,fun _=>?_⟩)
  (repeat' first|(with_reducible first|exact rfl|assumption|apply And.intro|exact dG _ _ _))
  exact Ej (k:=fun _=>eU) z hs rfl
end
def fw(l:List ae)(b:Bool):List (Nat × Nat × Nat):=(l.filter (fI b)).map fun p=>(p.fz1.toNat,p.aB.toNat,p.aK.toNat)
theorem Jm{l:List ae}{b:Bool}{i:Nat}{x:ae}(hx:l[i]? =some x)(hu:fI b x=true):fw (l.take (i+1)) b=fw (l.take i) b++[(x.fz1.toNat,x.aB.toNat,x.aK.toNat)]:=by
 unfold fw
 rw[List.take_add_one,hx]
 simp[List.filter_append,hu]
theorem Ng{l:List ae}{b:Bool}{i:Nat}{x:ae}(hx:l[i]? =some x)(hu:fI b x=false):fw (l.take (i+1)) b=fw (l.take i) b:=by
 unfold fw
 rw[List.take_add_one,hx]
 simp[List.filter_append,hu]
def FE(z0:T aa)(n0 n:Nat)(L:List (Nat × Nat × Nat))(z:T aa):Prop:= ∃M,HI z0 n0 n z M/\CO L n mN M
section
variable{z0:T aa}{n0:Nat}
theorem FE.bN{n:Nat}{L:List (Nat × Nat × Nat)}{z:T aa}(h:FE z0 n0 n L z):aw z (n0+n):=by obtain⟨M,h,_⟩:=h;exact h.bN
theorem FE.head{n:Nat}{L:List (Nat × Nat × Nat)}{z:T aa}(h:FE z0 n0 n L z):FH z0 n0 n (dq L) 0 z:=by
 obtain⟨M,h1,h2⟩:=h
 exact⟨M,h1,⟨fun i j hi hj=>(h2 i j hi hj).2.1⟩,DJ h2⟩
theorem Cg{n:Nat}{s:dE}(h:jO z0 n0 n n s):FE z0 n0 n [] s.z:=by
 refine⟨fun _ _=>(mN:Int),⟨?_,h.gK,fun i hi=>?_⟩,GJ n mN⟩
 ·have:=h.bN;rw[h.zn] at this;exact this
 ·refine⟨List.replicate n (mN:Int),?_,List.length_replicate ..,fun j hj=>by simp[hj]⟩
  rw[h.row i hi]
  show some (aa.az (A9 (fj n) n))=some (aa.az (A9 ((List.replicate n (mN:Int)).map zv) n))
  rw[List.map_replicate];rfl
theorem Ju(n:Nat)(hn:n<=64)(l:List ae)(hl:ot n l)(hll:l.length<=10000)(cp:Nat)(hL0:bP z0 4 (l.map ae.row))(hz0:aw z0 n0)(b:Bool)(s:dE)(hs:jO z0 n0 n n s):
 aj prog (ah (ag f149) 2) 2 116 (BC l.length cp n b 0) [(1, .az s.bl)] 2 s.z s.zn (Al.R (U8 l.length cp n b s (FE z0 n0 n (fw l b))).l):=by
 have hst:=Cg hs
 obtain⟨bl,z,zn⟩:=s
 have e1:zn=n0+n:=hs.zn
 have e2:bl=dX n0 n n:=hs.bl
 subst e1 e2
 refine ax hD (c7 T.leaf) (α:=Nat × T aa) 2 116 2 (fun t=>t.1<=l.length/\FE z0 n0 n (fw (l.take t.1) b) t.2) (fun t=>BC l.length cp n b t.1) (fun t=>[(1, .az (dX n0 n n))]) (fun t=>t.2) (fun t=>n0+n) (fun t=>l.length - t.1) _ (fun t hI=>?_) (0,z) ⟨Nat.zero_le _,hst⟩
 obtain⟨i,z⟩:=t
 obtain⟨hi,hs⟩:=hI
 simp only at hi hs ⊢
 have hfz:=hs.bN
 by_cases hlt:i<l.length
 ·obtain⟨x,hx⟩:=dm hlt
  have hc:decide ((i:Int)<(l.length:Int))=true:=by simp;omega
  obtain⟨p1,p2,p3,p4,_,p6,p7⟩:=hl.ok x (List.mem_of_getElem? hx)
  obtain⟨M,h1,h2⟩:=hs
  have hL:=dw hL0 hz0 h1.gK
  obtain⟨el,hel⟩:=hL.az (i:=i) (by simp;omega)
  have r0:ai prog (bk el (l.map ae.row).flatten) 125 (0+i*4)=some (.agg ⟨x.row⟩):=bG (r:=x.row) (sz:=4) underlying125 rfl rfl (aO (row:=ae.row) (sz:=4) l fun _=>rfl) (by rw[List.getElem?_map,hx];rfl)
  have hf:x.fz1.toNat<n:=by omega
  have ht:x.aB.toNat<n:=by omega
  have ef:x.fz1=(x.fz1.toNat:Int):=by omega
  have et:x.aB=(x.aB.toNat:Int):=by omega
  obtain⟨li,i1,i2,i3⟩:=h1.row _ hf
  have r1:=qK h1 hf ht i3
  have d1:ai prog (dX n0 n n) 128 (0+x.fz1.toNat*1)=_:=rm hf
  have hw:(if x.aK<M x.fz1.toNat x.aB.toNat then x.aK else M x.fz1.toNat x.aB.toNat)=min (M x.fz1.toNat x.aB.toNat) (x.aK.toNat:Int):=by
   split<;>omega
  have ov:overwrite (A9 (li.map zv) n).cells (0+x.aB.toNat*1) [zv (if x.aK<M x.fz1.toNat x.aB.toNat then x.aK else M x.fz1.toNat x.aB.toNat)]=some ((li.set x.aB.toNat (min (M x.fz1.toNat x.aB.toNat) (x.aK.toNat:Int))).map zv):=by
   rw[hw,nI (cs:=li.map zv) (by simp;omega),←List.map_set]
  have hset:=Fi h1 hf ht i2 i3 (min (M x.fz1.toNat x.aB.toNat) (x.aK.toNat:Int))
  have hfz2:=hset.bN
  have hlen:((li.set x.aB.toNat (min (M x.fz1.toNat x.aB.toNat) (x.aK.toNat:Int))).map zv).length<=n*1:=by simp[i2]
  have nx: ∀z',FE z0 n0 n (fw (l.take (i+1)) b) z'->au (fun t:Nat × T aa=>t.1<=l.length/\FE z0 n0 n (fw (l.take t.1) b) t.2) (fun t=>BC l.length cp n b t.1) (fun t=>[(1, .az (dX n0 n n))]) 2 (fun t=>t.2) (fun t=>n0+n) (fun t=>l.length - t.1) (Al.R (U8 l.length cp n b ⟨dX n0 n n,z,n0+n⟩ (FE z0 n0 n (fw l b))).l) (i,z) .normal (BC l.length cp n b (i+1)) [(1, .az (dX n0 n n))] 2 z' (n0+n):=fun z' h=>
   ⟨(i+1,z'),rfl,rfl,rfl,rfl,rfl,⟨hlt,h⟩,by show l.length - (i+1)<l.length - i;omega⟩
  have yes:fI b x=true->FE z0 n0 n (fw (l.take (i+1)) b) (z.set (n0+x.fz1.toNat) (.az (A9 ((li.set x.aB.toNat (min (M x.fz1.toNat x.aB.toNat) (x.aK.toNat:Int))).map zv) n))):=fun h=>⟨_,hset,by rw[Jm hx h];exact DI h2 _ _ _⟩
  have no:fI b x=false->FE z0 n0 n (fw (l.take (i+1)) b) z:=fun h=>⟨M,h1,by rw[Ng hx h];exact h2⟩
  have u1:x.sf=true->fI b x=true:=fun h=>by unfold fI;rw[h,Bool.or_true]
  have u2:x.sf=false->(!b)=true->fI b x=true:=fun h h2=>by unfold fI;rw[h2,Bool.true_or]
  have u3:x.sf=false->(!b)=false->fI b x=false:=fun h h2=>by unfold fI;rw[h,h2];rfl
  refine t100 (rs2 z (n0+n) l.length cp n i x.fz1.toNat x.aB.toNat (n0+x.fz1.toNat) b (dX n0 n n) (bk el (l.map ae.row).flatten) (A9 (li.map zv) n) x (M x.fz1.toNat x.aB.toNat) 0 ((li.set x.aB.toNat (min (M x.fz1.toNat x.aB.toNat) (x.aK.toNat:Int))).map zv) (au _ _ _ _ _ _ _ _ _) ⟨fun _=>?_,nC1 hc⟩)
  (repeat' first|(with_reducible first|exact rfl|assumption|apply And.intro|exact dG _ _ _|exact bH (by omega))|intro hq)
  all_goals first
   |exact nx _ (yes (u1 (by with_reducible assumption)))
   |exact nx _ (yes (u2 (by with_reducible assumption) (by with_reducible assumption)))
   |exact nx _ (no (u3 (by with_reducible assumption) (by with_reducible assumption)))
 ·have hil:i=l.length:=by omega
  have hc:decide ((i:Int)<(l.length:Int))=false:=by simp;omega
  refine t100 (rs2 z (n0+n) l.length cp n i 0 0 0 b (dX n0 n n) ⟨[],0,0,0,true,true,0,true⟩ ⟨[],0,0,0,true,true,0,true⟩ ⟨0,0,0,true⟩ 0 0 [] (au _ _ _ _ _ _ _ _ _) ⟨nC1 hc,fun _=>?_⟩)
  (repeat' first|(with_reducible first|exact rfl|assumption|apply And.intro|exact dG _ _ _))
  refine Ej (k:=fun _=>eU) z ?_ rfl
  rw[hil,List.take_of_length_le (Nat.le_refl _)] at hs
  exact hs
def py(z:T aa)(zn n:Nat)(l:List ae)(b:Bool)(s:dE):Prop:=s.bl=dX zn n n/\s.zn=zn+n/\FH z zn n (dq (fw l b)) n s.z
theorem py.bN{z:T aa}{zn n:Nat}{l:List ae}{b:Bool}{s:dE}(h:py z zn n l b s):aw s.z s.zn:=by
 rw[h.2.1];exact h.2.2.bN
theorem FF(hz:aw z0 n0)(h5:5<=n0)(n:Nat)(hn:n<=64)(l:List ae)(hl:ot n l)(hll:l.length<=10000)(cp:Nat)(hL:bP z0 4 (l.map ae.row))(b:Bool):
 bb prog z0 n0 149 [tb 4 l.length cp,iv n, .bool b] [] 0 1 (py z0 n0 n l b) (fun _=>bd 0 n n) (fun s=>[(0, .az s.bl)]) (fun s=>s.z) (fun s=>s.zn):=by
 have h0:=BS z0 n0 hz h5 (tb 4 l.length cp) (.inl ⟨_,_,rfl⟩) n hn b
 have h2: ∀s,jO z0 n0 n n s->_:=fun s hs=>Ju n hn l hl hll cp hL hz b s hs
 have h3: ∀s z2,jO z0 n0 n n s->FE z0 n0 n (fw l b) z2->aj prog (ah (ag f149) 3) 2 116 (sB n 0) [(1, .az s.bl)] 2 z2 s.zn (Al.R (Ri n s (FH z0 n0 n (dq (fw l b)) n)).l):=fun s z2 hs h=>by
  have e1:=hs.zn
  have e2:=hs.bl
  obtain⟨bl,z,zn⟩:=s
  simp only at e1 e2
  subst e1 e2
  exact BP n hn _ z2 h.head
 have rX: ∀s σ,jO z0 n0 n n s->aD (ay σ []) (.az s.bl)=some (.az s.bl):=fun s σ hs=>by rw[hs.bl];exact dG _ _ _
 have fe: ∀s z2,jO z0 n0 n n s->FE z0 n0 n (fw l b) z2->aw z2 s.zn:=fun s z2 hs h=>by rw[hs.zn];exact h.bN
 have fh: ∀s z2,jO z0 n0 n n s->FH z0 n0 n (dq (fw l b)) n z2->aw z2 s.zn:=fun s z2 hs h=>by rw[hs.zn];exact h.bN
 refine dV (c7 T.leaf) (fn:=f149) (by kernel_rfl) (by kernel_rfl) hz ⟨by decide,by decide⟩ (fun s hs=>⟨rfl,by rw[hs.2.1];omega,hs.bN⟩) (N:=100) ?_
 refine rs z0 n0 l.length cp n b (jO z0 n0 n n) (fun _=>FE z0 n0 n (fw l b)) (fun _ _=>FH z0 n0 n (dq (fw l b)) n) _ ?_
 (repeat' first|(with_reducible first|exact rfl|assumption|apply And.intro|exact jO.bN ‹_›|exact fe _ _ ‹_› ‹_›|exact fh _ _ ‹_› ‹_›|exact rX _ _ ‹_›)|exact h0|exact h2 _ (by with_reducible assumption)|exact h3 _ _ (by with_reducible assumption) (by with_reducible assumption)|intro hq)
 rename_i s hs z2 _ z3
 exact q2 (⟨s.bl,z3,s.zn⟩:dE) ⟨hs.bl,hs.zn,hq⟩ rfl rfl rfl rfl rfl
theorem GF(n:Nat)(b:Bool)(s:dE)(hs:jO z0 n0 n n s):
 aj prog (ah (ag f149) 2) 2 116 (xU n b 0) [(1, .az s.bl)] 2 s.z s.zn (Al.R (U7 n b s).l):=by
 have hfz:=hs.bN
 have rX: ∀σ,aD (ay σ []) (.az s.bl)=some (.az s.bl):=fun σ=>by rw[hs.bl];exact dG _ _ _
 refine ax hD (c7 T.leaf) (α:=Unit) 2 116 2 (fun _=>True) (fun _=>xU n b 0) (fun t=>[(1, .az s.bl)]) (fun t=>s.z) (fun t=>s.zn) (fun t=>0) _ (fun t hI=>?_) () trivial
 refine t100 (Z6 s.z s.zn n 0 b s.bl (au _ _ _ _ _ _ _ _ _) ?_)
 (repeat' first|(with_reducible first|exact rfl|assumption|apply And.intro|exact rX _))
 exact bh trivial
theorem Ct(hz:aw z0 n0)(h5:5<=n0)(n:Nat)(hn:n<=64)(b:Bool):
 bb prog z0 n0 149 [an,iv n, .bool b] [] 0 1 (py z0 n0 n [] b) (fun _=>bd 0 n n) (fun s=>[(0, .az s.bl)]) (fun s=>s.z) (fun s=>s.zn):=by
 have h0:=BS z0 n0 hz h5 an (.inr rfl) n hn b
 have h2: ∀s,jO z0 n0 n n s->_:=fun s hs=>GF n b s hs
 have h3: ∀s,jO z0 n0 n n s->aj prog (ah (ag f149) 3) 2 116 (sB n 0) [(1, .az s.bl)] 2 s.2 s.zn (Al.R (Ri n s (FH z0 n0 n (dq (fw [] b)) n)).l):=fun s hs=>by
  have h:=(Cg hs).head
  have e1:=hs.zn
  have e2:=hs.bl
  obtain⟨bl,z,zn⟩:=s
  simp only at e1 e2
  subst e1 e2
  exact BP n hn _ z h
 have rX: ∀s σ,jO z0 n0 n n s->aD (ay σ []) (.az s.bl)=some (.az s.bl):=fun s σ hs=>by rw[hs.bl];exact dG _ _ _
 have fh: ∀s z2,jO z0 n0 n n s->FH z0 n0 n (dq (fw [] b)) n z2->aw z2 s.zn:=fun s z2 hs h=>by rw[hs.zn];exact h.bN
 refine dV (c7 T.leaf) (fn:=f149) (by kernel_rfl) (by kernel_rfl) hz ⟨by decide,by decide⟩ (fun s hs=>⟨rfl,by rw[hs.2.1];omega,hs.bN⟩) (N:=100) ?_
 refine rsn z0 n0 n b (jO z0 n0 n n) (fun _=>FH z0 n0 n (dq (fw [] b)) n) _ ?_
 (repeat' first|(with_reducible first|exact rfl|assumption|apply And.intro|exact jO.bN ‹_›|exact fh _ _ ‹_› ‹_›|exact rX _ _ ‹_›)|exact h0|exact h2 _ (by with_reducible assumption)|exact h3 _ (by with_reducible assumption)|intro hq)
 rename_i s hs _ _ z3
 exact q2 (⟨s.bl,z3,s.zn⟩:dE) ⟨hs.bl,hs.zn,hq⟩ rfl rfl rfl rfl rfl
end
end Go.Proofs.Nw
namespace Go.Proofs.Nw
open Go Go.AV Tryz
set_option maxRecDepth 1000000
noncomputable section
abbrev SK:List (Nat × Nat):=[YB,Yz,(4,4)]
abbrev TM:Nat->Option Nat:=ay SK []
abbrev WM:Prop:=Rs (BQ [] 0 4 125)
abbrev XF(n i j:Nat):List (Nat × Value):=[eM n,(5,eA n),(6,cX n),(7,H4),(8,IV i),HE j]
abbrev TL(d1 d2:aV):List (Nat × aa):=[(0,ey d1),gR d2,(4,BQ [] 0 4 125)]
abbrev PO:List (Nat × Nat):=[YB,Yz,(4,8)]
abbrev XE(n i j:Nat):List (Nat × Value):=[eM n,(5,eA n),(6,cX n),(7,SL 4 2 2),(8,IV i),HE j]
abbrev OX:List (Nat × Nat):=[YB,Yz,(4,6)]
abbrev PN:Nat->Option Nat:=ay OX []
abbrev PM(n i j:Nat):List (Nat × Value):=[eM n,(5,eA n),(6,cX n),(7,SL 4 1 1),(8,IV i),HE j]
noncomputable abbrev WL:Code:=ah (ag f122) 0
theorem V8(z:T aa)(zn n i j k1 k2:Nat)(d1 d2 b1 b2:aV)(u f:Int)(Q:QL)(hyp:Br (decide ((↑j:Int)<(↑n:Int))) (Br ((↑i:Int)==(↑j:Int)) (ZV (IntKind.i64.wrap ((↑j:Int)+1))=IV (j+1)/\E6 107 z zn (R6 (IV n) (eA n) (cX n) H4 (IV i) (IV (j+1)) (K2 TM (ey d1) (ey d2) (WM/\Q aN (XF n i j) (TL d1 d2) 5 z zn)))) (cG i/\i<n/\pt d1 i k1 n/\cG j/\j<n/\fH k1/\fR z k1 b1/\px b1 j u/\Br (decide (u>14400)) (ZV (IntKind.i64.wrap ((↑j:Int)+1))=IV (j+1)/\E6 107 z zn (R6 (IV n) (eA n) (cX n) H4 (IV i) (IV (j+1)) (K2 TM (ey d1) (ey d2) (WM/\Q aN (XF n i j) (TL d1 d2) 5 z zn)))) (cG i/\i<n/\pt d1 i k1 n/\cG j/\j<n/\fH k1/\fR z k1 b1/\px b1 j u/\cG i/\i<n/\pt d2 i k2 n/\cG j/\j<n/\fH k2/\fR z k2 b2/\px b2 j f/\cG i/\i<n/\pt d1 i k1 n/\cG j/\j<n/\fH k1/\fR z k1 b1/\px b1 j u/\Br (f==u) (cG i/\i<n/\pt d2 i k2 n/\cG j/\j<n/\fH k2/\fR z k2 b2/\px b2 j f/\cG i/\i<n/\pt d1 i k1 n/\cG j/\j<n/\fH k1/\fR z k1 b1/\px b1 j u/\Br (decide (f>u)) (cG i/\i<n/\pt d2 i k2 n/\cG j/\j<n/\fH k2/\fR z k2 b2/\px b2 j f/\Br (decide (f<=14400)) (cG i/\i<n/\pt d2 i k2 n/\cG j/\j<n/\fH k2/\fR z k2 b2/\px b2 j f/\ZV (IntKind.i64.wrap ((↑j:Int)+1))=IV (j+1)/\E6 107 z zn (R6 (IV n) (eA n) (cX n) (SL 8 2 2) (IV i) (IV (j+1)) (K2 (ay PO []) (ey d1) (ey d2) (Rs (BR [IV i,IV j,ZV u,T1,IV i,IV j,ZV f,T1] 8 4 125)/\Q aN (XE n i j) [(0,ey d1),gR d2,(4,BR [IV i,IV j,ZV u,T1,IV i,IV j,ZV f,T1] 8 4 125)] 5 z zn)))) (ZV (IntKind.i64.wrap ((↑j:Int)+1))=IV (j+1)/\E6 107 z zn (R6 (IV n) (eA n) (cX n) PU (IV i) (IV (j+1)) (K2 PN (ey d1) (ey d2) (Rs (BR [IV i,IV j,ZV u,T1] 4 4 125)/\Q aN (PM n i j) [(0,ey d1),gR d2,(4,BR [IV i,IV j,ZV u,T1] 4 4 125)] 5 z zn))))) (ZV (IntKind.i64.wrap ((↑j:Int)+1))=IV (j+1)/\E6 107 z zn (R6 (IV n) (eA n) (cX n) PU (IV i) (IV (j+1)) (K2 PN (ey d1) (ey d2) (Rs (BR [IV i,IV j,ZV u,T1] 4 4 125)/\Q aN (PM n i j) [(0,ey d1),gR d2,(4,BR [IV i,IV j,ZV u,T1] 4 4 125)] 5 z zn))))) (cG i/\i<n/\pt d2 i k2 n/\cG j/\j<n/\fH k2/\fR z k2 b2/\px b2 j f/\cG i/\i<n/\pt d1 i k1 n/\cG j/\j<n/\fH k1/\fR z k1 b1/\px b1 j u/\Br (decide (f>u)) (cG i/\i<n/\pt d2 i k2 n/\cG j/\j<n/\fH k2/\fR z k2 b2/\px b2 j f/\Br (decide (f<=14400)) (cG i/\i<n/\pt d2 i k2 n/\cG j/\j<n/\fH k2/\fR z k2 b2/\px b2 j f/\ZV (IntKind.i64.wrap ((↑j:Int)+1))=IV (j+1)/\E6 107 z zn (R6 (IV n) (eA n) (cX n) (SL 8 2 2) (IV i) (IV (j+1)) (K2 (ay PO []) (ey d1) (ey d2) (Rs (BR [IV i,IV j,ZV u,F0,IV i,IV j,ZV f,T1] 8 4 125)/\Q aN (XE n i j) [(0,ey d1),gR d2,(4,BR [IV i,IV j,ZV u,F0,IV i,IV j,ZV f,T1] 8 4 125)] 5 z zn)))) (ZV (IntKind.i64.wrap ((↑j:Int)+1))=IV (j+1)/\E6 107 z zn (R6 (IV n) (eA n) (cX n) PU (IV i) (IV (j+1)) (K2 PN (ey d1) (ey d2) (Rs (BR [IV i,IV j,ZV u,F0] 4 4 125)/\Q aN (PM n i j) [(0,ey d1),gR d2,(4,BR [IV i,IV j,ZV u,F0] 4 4 125)] 5 z zn))))) (ZV (IntKind.i64.wrap ((↑j:Int)+1))=IV (j+1)/\E6 107 z zn (R6 (IV n) (eA n) (cX n) PU (IV i) (IV (j+1)) (K2 PN (ey d1) (ey d2) (Rs (BR [IV i,IV j,ZV u,F0] 4 4 125)/\Q aN (PM n i j) [(0,ey
 d1),gR d2,(4,BR [IV i,IV j,ZV u,F0] 4 4 125)] 5 z zn)))))))) (E6 107 z zn (R5 (IV n) (eA n) (cX n) H4 (IV i) (K2 TM (ey d1) (ey d2) (WM/\Q iy [eM n,(5,eA n),(6,cX n),(7,H4),(8,IV i)] (TL d1 d2) 5 z zn))))):RdT prog gH cW (ah WL 0) 107 (xh n 0 i j) z (rZ d1 d2 HT) 5 zn 4 Q:=K1t hyp ((tA 1 ((tA 10 (tO (dI j) (tE SK [] (XF n i j) (TL d1 d2) 5 z zn))).fork (tA 3 (tO (bS i) (tA 1 (tO (oW k1 n) (tA 2 (tO (bS j) (tA 1 (tO (oX k1 b1 u) (tA 1 ((tA 2 (tO (dI j) (tE SK [] (XF n i j) (TL d1 d2) 5 z zn))).fork (tA 2 (tO (bS i) (tO (oW k1 n) (tO (bS j) (tO (oX k1 b1 u) (tO (bS i) (tO (oW k2 n) (tO (bS j) (tO (oX k2 b2 f) (tO (bS i) (tO (oW k1 n) (tO (bS j) (tO (oX k1 b1 u) ((tA 1 (tO (bS i) (tO (oW k2 n) (tO (bS j) (tO (oX k2 b2 f) (tO (bS i) (tO (oW k1 n) (tO (bS j) (tO (oX k1 b1 u) ((tA 3 (tO (bS i) (tA 1 (tO (oW k2 n) (tA 2 (tO (bS j) (tA 1 (tO (oX k2 b2 f) (tA 1 ((tA 2 (tO (bS i) (tO (oW k2 n) (tO (bS j) (tO (oX k2 b2 f) (tA 1 (tO (dI j) (tE PO [] (XE n i j) [(0,ey d1),gR d2,(4,BR [IV i,IV j,ZV u,T1,IV i,IV j,ZV f,T1] 8 4 125)] 5 z zn)))))))).fork (tA 2 (tO (dI j) (tE OX [] (PM n i j) [(0,ey d1),gR d2,(4,BR [IV i,IV j,ZV u,T1] 4 4 125)] 5 z zn))))))))))))).fork (tA 10 (tO (dI j) (tE OX [] (PM n i j) [(0,ey d1),gR d2,(4,BR [IV i,IV j,ZV u,T1] 4 4 125)] 5 z zn))))))))))))).fork (tA 1 (tO (bS i) (tO (oW k2 n) (tO (bS j) (tO (oX k2 b2 f) (tO (bS i) (tO (oW k1 n) (tO (bS j) (tO (oX k1 b1 u) ((tA 3 (tO (bS i) (tA 1 (tO (oW k2 n) (tA 2 (tO (bS j) (tA 1 (tO (oX k2 b2 f) (tA 1 ((tA 2 (tO (bS i) (tO (oW k2 n) (tO (bS j) (tO (oX k2 b2 f) (tA 1 (tO (dI j) (tE PO [] (XE n i j) [(0,ey d1),gR d2,(4,BR [IV i,IV j,ZV u,F0,IV i,IV j,ZV f,T1] 8 4 125)] 5 z zn)))))))).fork (tA 2 (tO (dI j) (tE OX [] (PM n i j) [(0,ey d1),gR d2,(4,BR [IV i,IV j,ZV u,F0] 4 4 125)] 5 z zn))))))))))))).fork (tA 10 (tO (dI j) (tE OX [] (PM n i j) [(0,ey d1),gR d2,(4,BR [IV i,IV j,ZV u,F0] 4 4 125)] 5 z zn))))))))))))))))))))))))))))))))))))))).fork (tA 1 (tE SK [] [eM n,(5,eA n),(6,cX n),(7,H4),(8,IV i)] (TL d1 d2) 5 z zn)))
abbrev XD(n k i j:Nat):List (Nat × Value):=[eM n,(5,eA n),(6,cX n),(7,SL 4 k k),(8,IV i),HE j]
abbrev TK(d1 d2:aV)(cs:List Value)(k:Nat):List (Nat × aa):=[(0,ey d1),gR d2,(4,BR cs (k*4) 4 125)]
abbrev XC(n k i j:Nat):List (Nat × Value):=[eM n,(5,eA n),(6,cX n),(7,SL 4 (k+1+1) (k+1+1)),(8,IV i),HE j]
abbrev PL(n k i j:Nat):List (Nat × Value):=[eM n,(5,eA n),(6,cX n),(7,SL 4 (k+1) (k+1)),(8,IV i),HE j]
abbrev XB(d1 d2:aV)(cs:List Value)(i j:Nat)(u:Int)(k:Nat):List (Nat × aa):=[(0,ey d1),gR d2,(4,BR (cs++[IV i,IV j,ZV u,T1]) ((k+1)*4) 4 125)]
abbrev XA(d1 d2:aV)(cs:List Value)(i j:Nat)(u:Int)(k:Nat):List (Nat × aa):=[(0,ey d1),gR d2,(4,BR (cs++[IV i,IV j,ZV u,F0]) ((k+1)*4) 4 125)]
theorem cq1(z:T aa)(zn n k i j k1 k2:Nat)(d1 d2 b1 b2:aV)(u f:Int)(cs:List Value)(Q:QL)(hyp:Br (decide ((↑j:Int)<(↑n:Int))) (Br ((↑i:Int)==(↑j:Int)) (ZV (IntKind.i64.wrap ((↑j:Int)+1))=IV (j+1)/\E6 107 z zn (R6 (IV n) (eA n) (cX n) (SL 4 k k) (IV i) (IV (j+1)) (K3 TM (ey d1) (ey d2) (BR cs (k*4) 4 125) (Q aN (XD n k i j) (TK d1 d2 cs k) 5 z zn)))) (cG i/\i<n/\pt d1 i k1 n/\cG j/\j<n/\fH k1/\fR z k1 b1/\px b1 j u/\Br (decide (u>14400)) (ZV (IntKind.i64.wrap ((↑j:Int)+1))=IV (j+1)/\E6 107 z zn (R6 (IV n) (eA n) (cX n) (SL 4 k k) (IV i) (IV (j+1)) (K3 TM (ey d1) (ey d2) (BR cs (k*4) 4 125) (Q aN (XD n k i j) (TK d1 d2 cs k) 5 z zn)))) (cG i/\i<n/\pt d1 i k1 n/\cG j/\j<n/\fH k1/\fR z k1 b1/\px b1 j u/\cG i/\i<n/\pt d2 i k2 n/\cG j/\j<n/\fH k2/\fR z k2 b2/\px b2 j f/\cG i/\i<n/\pt d1 i k1 n/\cG j/\j<n/\fH k1/\fR z k1 b1/\px b1 j u/\Br (f==u) (Rs [IV i,IV j,ZV u,T1]/\Rf k/\cs.length=k*4/\Rf (k*4)/\k+1<=1048576/\cG i/\i<n/\pt d2 i k2 n/\cG j/\j<n/\fH k2/\fR z k2 b2/\px b2 j f/\cG i/\i<n/\pt d1 i k1 n/\cG j/\j<n/\fH k1/\fR z k1 b1/\px b1 j u/\Br (decide (f>u)) (cG i/\i<n/\pt d2 i k2 n/\cG j/\j<n/\fH k2/\fR z k2 b2/\px b2 j f/\Br (decide (f<=14400)) (cG i/\i<n/\pt d2 i k2 n/\cG j/\j<n/\fH k2/\fR z k2 b2/\px b2 j f/\Rs [IV i,IV j,ZV f,T1]/\Rf (k+1)/\(cs++[IV i,IV j,ZV u,T1]).length=(k+1)*4/\Rf ((k+1)*4)/\k+1+1<=1048576/\ZV (IntKind.i64.wrap ((↑j:Int)+1))=IV (j+1)/\E6 107 z zn (R6 (IV n) (eA n) (cX n) (SL 8 (k+1+1) (k+1+1)) (IV i) (IV (j+1)) (K3 (ay PO []) (ey d1) (ey d2) (BR (cs++[IV i,IV j,ZV u,T1]++[IV i,IV j,ZV f,T1]) ((k+1+1)*4) 4 125) (Q aN (XC n k i j) [(0,ey d1),gR d2,(4,BR (cs++[IV i,IV j,ZV u,T1]++[IV i,IV j,ZV f,T1]) ((k+1+1)*4) 4 125)] 5 z zn)))) (ZV (IntKind.i64.wrap ((↑j:Int)+1))=IV (j+1)/\E6 107 z zn (R6 (IV n) (eA n) (cX n) (PS k) (IV i) (IV (j+1)) (K3 PN (ey d1) (ey d2) (BR (cs++[IV i,IV j,ZV u,T1]) ((k+1)*4) 4 125) (Q aN (PL n k i j) (XB d1 d2 cs i j u k) 5 z zn))))) (ZV (IntKind.i64.wrap ((↑j:Int)+1))=IV (j+1)/\E6 107 z zn (R6 (IV n) (eA n) (cX n) (PS k) (IV i) (IV (j+1)) (K3 PN (ey d1) (ey d2) (BR (cs++[IV i,IV j,ZV u,T1]) ((k+1)*4) 4 125) (Q aN (PL n k i j) (XB d1 d2 cs i j u k) 5 z zn))))) (Rs [IV i,IV j,ZV u,F0]/\Rf k/\cs.length=k*4/\Rf (k*4)/\k+1<=1048576/\cG i/\i<n/\pt d2 i k2 n/\cG j/\j<n/\fH k2/\fR z k2 b2/\px b2 j f/\cG i/\i<n/\pt d1 i k1 n/\cG j/\j<n/\fH k1/\fR z k1 b1/\px b1 j u/\Br (decide (f>u)) (cG i/\i<n/\pt d2 i k2 n/\cG j/\j<n/\fH k2/\fR z k2 b2/\px b2 j f/\Br (decide (f<=14400)) (cG i/\i<n/\pt d2 i k2 n/\cG j/\j<n/\fH k2/\fR z k2 b2/\px b2 j f/\Rs [IV i,IV j,ZV f,T1]/\Rf (k+1)/\(cs++[IV i,IV j,ZV u,F0]).length=(k+1)*4/\Rf ((k+1)*4)/\k+1+1<=1048576/\ZV (IntKind.i64.wrap ((↑j:Int)+1))=IV (j+1)/\E6 107 z zn (R6 (IV n) (eA n) (cX n) (SL 8 (k+1+1) (k+1+1)) (IV i) (IV (j+1)) (K3 (ay PO []) (ey d1) (ey d2) (BR (cs++[IV i,IV j,ZV u,F0]++[IV i,IV j,ZV f,T1]) ((k+1+1)*4) 4 125) (Q aN (XC n k i j) [(0,ey d1),gR d2,(4,BR (cs++[IV i,IV j,ZV u,F0]++[IV i,IV j,ZV f,T1])
 ((k+1+1)*4) 4 125)] 5 z zn)))) (ZV (IntKind.i64.wrap ((↑j:Int)+1))=IV (j+1)/\E6 107 z zn (R6 (IV n) (eA n) (cX n) (PS k) (IV i) (IV (j+1)) (K3 PN (ey d1) (ey d2) (BR (cs++[IV i,IV j,ZV u,F0]) ((k+1)*4) 4 125) (Q aN (PL n k i j) (XA d1 d2 cs i j u k) 5 z zn))))) (ZV (IntKind.i64.wrap ((↑j:Int)+1))=IV (j+1)/\E6 107 z zn (R6 (IV n) (eA n) (cX n) (PS k) (IV i) (IV (j+1)) (K3 PN (ey d1) (ey d2) (BR (cs++[IV i,IV j,ZV u,F0]) ((k+1)*4) 4 125) (Q aN (PL n k i j) (XA d1 d2 cs i j u k) 5 z zn)))))))) (E6 107 z zn (R5 (IV n) (eA n) (cX n) (SL 4 k k) (IV i) (K3 TM (ey d1) (ey d2) (BR cs (k*4) 4 125) (Q iy [eM n,(5,eA n),(6,cX n),(7,SL 4 k k),(8,IV i)] (TK d1 d2 cs k) 5 z zn))))):RdT prog gH cW (ah WL 0) 107 (xh n k i j) z (rZ d1 d2 (Tn cs k)) 5 zn 4 Q:=K1t hyp ((tA 1 ((tA 10 (tO (dI j) (tE SK [] (XD n k i j) (TK d1 d2 cs k) 5 z zn))).fork (tA 3 (tO (bS i) (tA 1 (tO (oW k1 n) (tA 2 (tO (bS j) (tA 1 (tO (oX k1 b1 u) (tA 1 ((tA 2 (tO (dI j) (tE SK [] (XD n k i j) (TK d1 d2 cs k) 5 z zn))).fork (tA 2 (tO (bS i) (tO (oW k1 n) (tO (bS j) (tO (oX k1 b1 u) (tO (bS i) (tO (oW k2 n) (tO (bS j) (tO (oX k2 b2 f) (tO (bS i) (tO (oW k1 n) (tO (bS j) (tO (oX k1 b1 u) ((tX (jE.grow 1 [IV i,IV j,ZV u,T1]) (tO (bS i) (tO (oW k2 n) (tO (bS j) (tO (oX k2 b2 f) (tO (bS i) (tO (oW k1 n) (tO (bS j) (tO (oX k1 b1 u) ((tA 3 (tO (bS i) (tA 1 (tO (oW k2 n) (tA 2 (tO (bS j) (tA 1 (tO (oX k2 b2 f) (tA 1 ((tA 2 (tO (bS i) (tO (oW k2 n) (tO (bS j) (tO (oX k2 b2 f) (tX (jE.grow 1 [IV i,IV j,ZV f,T1]) (tO (dI j) (tE PO [] (XC n k i j) [(0,ey d1),gR d2,(4,BR (cs++[IV i,IV j,ZV u,T1]++[IV i,IV j,ZV f,T1]) ((k+1+1)*4) 4 125)] 5 z zn)))))))).fork (tA 2 (tO (dI j) (tE OX [] (PL n k i j) (XB d1 d2 cs i j u k) 5 z zn))))))))))))).fork (tA 10 (tO (dI j) (tE OX [] (PL n k i j) (XB d1 d2 cs i j u k) 5 z zn))))))))))))).fork (tX (jE.grow 1 [IV i,IV j,ZV u,F0]) (tO (bS i) (tO (oW k2 n) (tO (bS j) (tO (oX k2 b2 f) (tO (bS i) (tO (oW k1 n) (tO (bS j) (tO (oX k1 b1 u) ((tA 3 (tO (bS i) (tA 1 (tO (oW k2 n) (tA 2 (tO (bS j) (tA 1 (tO (oX k2 b2 f) (tA 1 ((tA 2 (tO (bS i) (tO (oW k2 n) (tO (bS j) (tO (oX k2 b2 f) (tX (jE.grow 1 [IV i,IV j,ZV f,T1]) (tO (dI j) (tE PO [] (XC n k i j) [(0,ey d1),gR d2,(4,BR (cs++[IV i,IV j,ZV u,F0]++[IV i,IV j,ZV f,T1]) ((k+1+1)*4) 4 125)] 5 z zn)))))))).fork (tA 2 (tO (dI j) (tE OX [] (PL n k i j) (XA d1 d2 cs i j u k) 5 z zn))))))))))))).fork (tA 10 (tO (dI j) (tE OX [] (PL n k i j) (XA d1 d2 cs i j u k) 5 z zn))))))))))))))))))))))))))))))))))))))).fork (tA 1 (tE SK [] [eM n,(5,eA n),(6,cX n),(7,SL 4 k k),(8,IV i)] (TK d1 d2 cs k) 5 z zn)))
noncomputable abbrev YIb(n i:Nat)(d1 d2:aV)(z:T aa)(zn:Nat):rP->aA:=fun(s:rP)=>aA.mk iy [(1,iv n),(5,bd 0 n n),(6,bd 1 n n),(7,bd 4 s.k s.k),(8,iv i)] (rZ d1 d2 s.bl) 5 z zn
theorem cq0(z:T aa)(zn n k i:Nat)(d1 d2 o:aV)(φ:rP->Prop)(Q:QL)(hyp:Br (decide ((↑i:Int)<(↑n:Int))) (Rf 4/\aj prog (ah WL 0) 4 107 (xh n k i 0) (rZ d1 d2 o) 5 z zn (Al.cons rP φ (YIb n i d1 d2 z zn) (fun(x:rP)=>eU) Al.nil).R/\E6 107 z zn (R6 (IV n) (eA n) (cX n) (jM k) (IV i) YM (K3 (ay [YB,Yz,(4,3)] []) (ey d1) (ey d2) (ey o) (∀(x:rP),φ x->ZV (IntKind.i64.wrap ((↑i:Int)+1))=IV (i+1)/\E6 107 z zn (R5 (IV n) (eA n) (cX n) (SL 4 x.k x.k) (IV (i+1)) (K3 (ay [YB,Yz,(3,4)] []) (ey d1) (ey d2) (aa.az x.bl) (Q aN [eM n,(5,eA n),(6,cX n),(7,SL 3 x.k x.k),C4 i] [(0,ey d1),gR d2,(3,aa.az x.bl)] 4 z zn))))))) (E6 107 z zn (Rs (jM k)/\KO (ay [(3,3)] []) (ey o)/\Q YO [(7,jM k)] [(3,ey o)] 4 z zn))):RdT prog gH cW WL 107 (BF n k i) z (Pe d1 d2 o) 4 zn 3 Q:=K1t hyp ((tA 1 (Tr.lp 4 107 [YB,Yz,(4,3)] [] (xh n k i 0) (rZ d1 d2 o) 5 z zn (Al.cons rP φ (YIb n i d1 d2 z zn) (fun(x:rP)=>tO (dI i) (tE [YB,Yz,(3,4)] [] [eM n,(5,eA n),(6,cX n),(7,SL 3 x.k x.k),C4 i] [(0,ey d1),gR d2,(3,aa.az x.bl)] 4 z zn)) Al.nil))).fork (tA 1 (tE [(3,3)] [] [(7,jM k)] [(3,ey o)] 4 z zn)))
abbrev PK(n:Nat):dE->Value:=fun(x:dE)=>bd 0 n n
abbrev PJ:dE->Nat:=fun(x:dE)=>x.zn
noncomputable abbrev YIe(x_1:dE):rP->aA:=fun(s:rP)=>aA.mk YO [(7,bd 3 s.k s.k)] [(3,aa.az s.bl)] 4 x_1.z x_1.zn
abbrev YIf(n:Nat)(x x_1:dE)(χ:dE->dE->rP->Prop):Prop:=aj prog WL 3 107 (BF n 0 0) (Pe x.bl x_1.bl HT) 4 x_1.z x_1.zn (Al.cons rP (χ x x_1) (YIe x_1) (fun(x:rP)=>eU) Al.nil).R
noncomputable abbrev YIg(n:Nat)(x:dE)(χ:dE->dE->rP->Prop):dE->Tr:=fun(x_1:dE)=>Tr.lp 3 107 [YB,Yz,(3,2)] [] (BF n 0 0) (Pe x.bl x_1.bl HT) 4 x_1.z x_1.zn (Al.cons rP (χ x x_1) (YIe x_1) (fun(x:rP)=>tR [(0,3)] [] (SL 0 x.k x.k) [(0,aa.az x.bl)] 1 x_1.z x_1.zn) Al.nil)
theorem cq(z:T aa)(zn m cp n:Nat)(φ:dE->Prop)(ψ:dE->dE->Prop)(χ:dE->dE->rP->Prop)(Q:QF)(hyp:bb prog z zn 149 [fO m cp,IV n,F0] [] 0 1 φ (PK n) (fun(s:dE)=>[(0,lH s)]) (fun(x:dE)=>x.z) PJ/\Rs [fO m cp,IV n,F0]/\ ∀(x:dE),φ x->Rs (eA n)/\KO (sig YC) (lH x)/\bb prog x.z x.zn 149 [fO m cp,IV n,T1] [] 0 1 (ψ x) (PK n) (fun(s:dE)=>[(0,lH s)]) (fun(x:dE)=>x.z) PJ/\Rs [fO m cp,IV n,T1]/\ ∀(x_1:dE),ψ x x_1->Rs (eA n)/\KO (sig CK) (lH x_1)/\Y1/\YIf n x x_1 χ/\E6 107 x_1.z x_1.zn (R5 (IV n) (eA n) (cX n) (SL 2 0 0) YM (K2 (ay [YB,Yz,(3,2)] []) (lH x) (lH x_1) (WM/\ ∀(x_2:rP),χ x x_1 x_2->E6 107 x_1.z x_1.zn (KO (ay [(0,3)] []) (aa.az x_2.bl)/\Rs (SL 3 x_2.k x_2.k)/\Q (SL 0 x_2.k x_2.k) [(0,aa.az x_2.bl)] 1 x_1.z x_1.zn))))):FnT prog gH cW f122 [tb 4 m cp,iv n] z [] 0 zn Q:=K1t hyp (Tr.cm (Cm.mk [fO m cp,IV n,F0] [] 0 1 [] YC 1) dE φ (PK n) (fun(s:dE)=>[(0,lH s)]) (fun(x:dE)=>eA n) (fun(x:dE)=>[(0,lH x)]) (fun(x:dE)=>x.z) PJ fun(x:dE)=>Tr.cm (Cm.mk [fO m cp,IV n,T1] [] 0 1 [] CK 2) dE (ψ x) (PK n) (fun(s:dE)=>[(0,lH s)]) (fun(x:dE)=>cX n) (fun(x:dE)=>[(1,lH x)]) (fun(x:dE)=>x.z) PJ (YIg n x χ))
theorem cqn(z:T aa)(zn n:Nat)(φ:dE->Prop)(ψ:dE->dE->Prop)(χ:dE->dE->rP->Prop)(Q:QF)(hyp:bb prog z zn 149 [Y5,IV n,F0] [] 0 1 φ (PK n) (fun(s:dE)=>[(0,lH s)]) (fun(x:dE)=>x.z) PJ/\Rs [Y5,IV n,F0]/\ ∀(x:dE),φ x->Rs (eA n)/\KO (sig YC) (lH x)/\bb prog x.z x.zn 149 [Y5,IV n,T1] [] 0 1 (ψ x) (PK n) (fun(s:dE)=>[(0,lH s)]) (fun(x:dE)=>x.z) PJ/\Rs [Y5,IV n,T1]/\ ∀(x_1:dE),ψ x x_1->Rs (eA n)/\KO (sig CK) (lH x_1)/\Y1/\YIf n x x_1 χ/\E6 107 x_1.z x_1.zn (R5 (IV n) (eA n) (cX n) (SL 2 0 0) YM (K2 (ay [YB,Yz,(3,2)] []) (lH x) (lH x_1) (WM/\ ∀(x_2:rP),χ x x_1 x_2->E6 107 x_1.z x_1.zn (KO (ay [(0,3)] []) (aa.az x_2.bl)/\Rs (SL 3 x_2.k x_2.k)/\Q (SL 0 x_2.k x_2.k) [(0,aa.az x_2.bl)] 1 x_1.z x_1.zn))))):FnT prog gH cW f122 [an,iv n] z [] 0 zn Q:=K1t hyp (Tr.cm (Cm.mk [Y5,IV n,F0] [] 0 1 [] YC 1) dE φ (PK n) (fun(s:dE)=>[(0,lH s)]) (fun(x:dE)=>eA n) (fun(x:dE)=>[(0,lH x)]) (fun(x:dE)=>x.z) PJ fun(x:dE)=>Tr.cm (Cm.mk [Y5,IV n,T1] [] 0 1 [] CK 2) dE (ψ x) (PK n) (fun(s:dE)=>[(0,lH s)]) (fun(x:dE)=>cX n) (fun(x:dE)=>[(1,lH x)]) (fun(x:dE)=>x.z) PJ (YIg n x χ))
abbrev Hq(x:ae):aa:=BQ [ZV x.fz1,ZV x.aB,ZV x.aK,Value.bool x.sf] 4 1 125
noncomputable abbrev TJ:Code:=ah (ag f75) 0
theorem pp1(z:T aa)(zn i k:Nat)(N:aq)(kb:aV)(x y:ae)(Q:QL)(hyp:Br (decide ((↑k:Int)<(↑i:Int))) (cG k/\k<N.np/\Qg/\z.get 4=rM kb/\F5 kb k y/\Br (y.fz1==x.fz1) (Br (y.aB==x.aB) (Br y.sf (Br x.sf (E6 111 z zn (R2 (IV i) (I 6) (Q af.ret (uF i) [] 2 z zn))) (ZV (IntKind.i64.wrap ((↑k:Int)+1))=IV (k+1)/\E6 111 z zn (R4 Y3 (IV i) Yp (IV (k+1)) (KO oe (nj N)/\Rs (Hq x)/\Q aN (Mb i k) [(0,nj N),(1,Hq x)] 2 z zn)))) (Br x.sf (ZV (IntKind.i64.wrap ((↑k:Int)+1))=IV (k+1)/\E6 111 z zn (R4 Y3 (IV i) Yp (IV (k+1)) (KO oe (nj N)/\Rs (Hq x)/\Q aN (Mb i k) [(0,nj N),(1,Hq x)] 2 z zn))) (E6 111 z zn (R2 (IV i) (I 6) (Q af.ret (uF i) [] 2 z zn))))) (ZV (IntKind.i64.wrap ((↑k:Int)+1))=IV (k+1)/\E6 111 z zn (R4 Y3 (IV i) Yp (IV (k+1)) (KO oe (nj N)/\Rs (Hq x)/\Q aN (Mb i k) [(0,nj N),(1,Hq x)] 2 z zn)))) (ZV (IntKind.i64.wrap ((↑k:Int)+1))=IV (k+1)/\E6 111 z zn (R4 Y3 (IV i) Yp (IV (k+1)) (KO oe (nj N)/\Rs (Hq x)/\Q aN (Mb i k) [(0,nj N),(1,Hq x)] 2 z zn)))) (E6 111 z zn (R2 Y3 (IV i) (KO YD (nj N)/\Q iy [qe,(4,IV i)] [(0,nj N)] 2 z zn)))):RdT prog gP z (ah TJ 0) 111 (zM i k) z [AP N,(1,zy x)] 2 zn 2 Q:=K1t hyp ((tA 2 (tO (bS k) (tO (Qe kb y) (tA 3 ((tA 7 ((tA 3 ((tA 2 ((tA 4 (tE [] [] (uF i) [] 2 z zn)).fork (tA 4 (tO (dI k) (tE dv [] (Mb i k) [(0,nj N),(1,Hq x)] 2 z zn))))).fork (tA 2 ((tA 4 (tO (dI k) (tE dv [] (Mb i k) [(0,nj N),(1,Hq x)] 2 z zn))).fork (tA 4 (tE [] [] (uF i) [] 2 z zn)))))).fork (tA 8 (tO (dI k) (tE dv [] (Mb i k) [(0,nj N),(1,Hq x)] 2 z zn))))).fork (tA 13 (tO (dI k) (tE dv [] (Mb i k) [(0,nj N),(1,Hq x)] 2 z zn)))))))).fork (tA 1 (tE YC [] [qe,(4,IV i)] [(0,nj N)] 2 z zn)))
abbrev YIj(x:ae):Value:=Value.bool (decide (1<=x.aK) && decide (x.aK<=14400))
theorem pp0(z:T aa)(zn i:Nat)(N:aq)(kb:aV)(x:ae)(b:Bool)(Q:QL)(hyp:Br (decide ((↑i:Int)<(↑N.np:Int))) (cG i/\i<N.np/\Qg/\z.get 4=rM kb/\F5 kb i x/\WQ1 ((↑N.ns:Int) - 1)/\Rf z/\gP 119 [ZV x.fz1,YM,ZV ((↑N.ns:Int) - 1)]=some (Value.bool (decide (0<=x.fz1) && decide (x.fz1<=(↑N.ns:Int) - 1)))/\Br (!(decide (0<=x.fz1) && decide (x.fz1<=(↑N.ns:Int) - 1))) ((!(decide (0<=x.fz1) && decide (x.fz1<=(↑N.ns:Int) - 1)))=true/\(!(decide (0<=x.fz1) && decide (x.fz1<=(↑N.ns:Int) - 1)))=true/\(!(decide (0<=x.fz1) && decide (x.fz1<=(↑N.ns:Int) - 1)))=true/\(!(decide (0<=x.fz1) && decide (x.fz1<=(↑N.ns:Int) - 1)))=true/\(!(decide (0<=x.fz1) && decide (x.fz1<=(↑N.ns:Int) - 1)))=true/\(!(decide (0<=x.fz1) && decide (x.fz1<=(↑N.ns:Int) - 1)))=true/\(!(decide (0<=x.fz1) && decide (x.fz1<=(↑N.ns:Int) - 1)))=true/\(!(decide (0<=x.fz1) && decide (x.fz1<=(↑N.ns:Int) - 1)))=true/\E6 111 z zn (R2 (IV i) gU (Q af.ret [(2,IV i),(3,gU)] [] 1 z zn))) ((!(decide (0<=x.fz1) && decide (x.fz1<=(↑N.ns:Int) - 1)))=false/\(!(decide (0<=x.fz1) && decide (x.fz1<=(↑N.ns:Int) - 1)))=false/\(!(decide (0<=x.fz1) && decide (x.fz1<=(↑N.ns:Int) - 1)))=false/\(!(decide (0<=x.fz1) && decide (x.fz1<=(↑N.ns:Int) - 1)))=false/\(!(decide (0<=x.fz1) && decide (x.fz1<=(↑N.ns:Int) - 1)))=false/\WQ1 ((↑N.ns:Int) - 1)/\(!(decide (0<=x.fz1) && decide (x.fz1<=(↑N.ns:Int) - 1)))=false/\Rf z/\gP 119 [ZV x.aB,YM,ZV ((↑N.ns:Int) - 1)]=some (Value.bool (decide (0<=x.aB) && decide (x.aB<=(↑N.ns:Int) - 1)))/\(!(decide (0<=x.fz1) && decide (x.fz1<=(↑N.ns:Int) - 1)))=false/\(!(decide (0<=x.fz1) && decide (x.fz1<=(↑N.ns:Int) - 1)))=false/\Br (!(decide (0<=x.aB) && decide (x.aB<=(↑N.ns:Int) - 1))) ((!(decide (0<=x.aB) && decide (x.aB<=(↑N.ns:Int) - 1)))=true/\(!(decide (0<=x.aB) && decide (x.aB<=(↑N.ns:Int) - 1)))=true/\(!(decide (0<=x.aB) && decide (x.aB<=(↑N.ns:Int) - 1)))=true/\(!(decide (0<=x.aB) && decide (x.aB<=(↑N.ns:Int) - 1)))=true/\(!(decide (0<=x.aB) && decide (x.aB<=(↑N.ns:Int) - 1)))=true/\E6 111 z zn (R2 (IV i) gU (Q af.ret [(2,IV i),(3,gU)] [] 1 z zn))) ((!(decide (0<=x.aB) && decide (x.aB<=(↑N.ns:Int) - 1)))=false/\(!(decide (0<=x.aB) && decide (x.aB<=(↑N.ns:Int) - 1)))=false/\(!(decide (0<=x.aB) && decide (x.aB<=(↑N.ns:Int) - 1)))=false/\(!(decide (0<=x.aB) && decide (x.aB<=(↑N.ns:Int) - 1)))=false/\Br (x.fz1==x.aB) ((!(decide (0<=x.aB) && decide (x.aB<=(↑N.ns:Int) - 1)))=false/\E6 111 z zn (R2 (IV i) gU (Q af.ret [(2,IV i),(3,gU)] [] 1 z zn))) ((!(decide (0<=x.aB) && decide (x.aB<=(↑N.ns:Int) - 1)))=false/\Rf z/\gP 119 [ZV x.aK,iq,I 14400]=some (YIj x)/\Br (!(decide (1<=x.aK) && decide (x.aK<=14400))) (E6 111 z zn (R2 (IV i) cM (Q af.ret (rS i) [] 1 z zn))) (rU/\aj prog (ah TJ 0) 2 111 (zM i 0) [AP N,(1,zy x)] 2 z zn (alt (b=true) (Zb i z zn) (alt (b=false) (aA.mk iy (ng i) [AP N] 2 z zn) Al.nil)).R/\E6 111 z zn (R4 Y3 (IV i) Yp YM (KO oe (nj N)/\Rs
 (Hq x)/\(∀(x:Unit),b=true->E6 111 z zn (R2 (IV i) (I 6) (Q af.ret (uF i) [] 1 z zn)))/\ ∀(x:Unit),b=false->ZV (IntKind.i64.wrap ((↑i:Int)+1))=IV (i+1)/\E6 111 z zn (R2 Y3 (IV (i+1)) (KO YD (nj N)/\Q aN [qe,(4,IV (i+1))] [(0,nj N)] 1 z zn))))))))) (E6 111 z zn (AQ/\KO YD (nj N)/\Q YO [qe] [(0,nj N)] 1 z zn))):RdT prog gP z TJ 111 (ng i) z [AP N] 1 zn 1 Q:=K1t hyp (tA 1 ((tA 2 (tO (bS i) (tO (Qe kb x) (tA 3 (tO (An.val (ZV ((↑N.ns:Int) - 1))) (tO (An.cl (Value.bool (decide (0<=x.fz1) && decide (x.fz1<=(↑N.ns:Int) - 1)))) ((tO bI (tO bI (tO bI (tO bI (tO bI (tO bI (tO bI (tO bI (tA 7 (tE [] [] [(2,IV i),(3,gU)] [] 1 z zn)))))))))).fork (tO bc (tA 1 (tO bc (tO bc (tA 1 (tO bc (tO bc (tO (An.val (ZV ((↑N.ns:Int) - 1))) (tO bc (tO (An.cl (Value.bool (decide (0<=x.aB) && decide (x.aB<=(↑N.ns:Int) - 1)))) (tO bc (tO bc ((tO bI (tO bI (tO bI (tO bI (tO bI (tA 1 (tE [] [] [(2,IV i),(3,gU)] [] 1 z zn))))))).fork (tO bc (tA 1 (tO bc (tO bc (tA 1 (tO bc ((tO bc (tA 1 (tE [] [] [(2,IV i),(3,gU)] [] 1 z zn))).fork (tO bc (tA 2 (tO (An.cl (YIj x)) ((LC i z zn).fork (Tr.lp 2 111 dv [] (zM i 0) [AP N,(1,zy x)] 2 z zn (Al.cons Unit (YR b) (fun(x:Unit)=>Zb i z zn) (fun(x:Unit)=>tE [] [] (uF i) [] 1 z zn) (Al.cons Unit (YS b) (fun(x:Unit)=>aA.mk iy (ng i) [AP N] 2 z zn) (fun(x:Unit)=>tO (dI i) (tE YC [] [qe,(4,IV (i+1))] [(0,nj N)] 1 z zn)) Al.nil)))))))))))))))))))))))))))))))))).fork (tA 1 (tE YC [] [qe] [(0,nj N)] 1 z zn))))
theorem aaj(z:T aa)(zn:Nat)(N:aq)(Q:QL)(hyp:E6 111 z zn (AQ/\KO YD (O3 N)/\Q YO [qe] [(0,O3 N)] 1 z zn)):RdT prog gP z TJ 111 (ng 0) z [(0,N.cd an)] 1 zn 1 Q:=K1t hyp (tA 3 (tE YC [] [qe] [(0,O3 N)] 1 z zn))
noncomputable abbrev Xz:Code:=ah (ag f75) 2
theorem pp2(z:T aa)(zn i k:Nat)(N:aq)(kb bl:aV)(x y:ae)(b:Bool)(Q:QL)(hyp:Br (decide ((↑i:Int)<(↑k:Int))) (cG i/\i<k/\F5 bl i y/\cG i/\i<N.np/\Qg/\z.get 4=rM kb/\F5 kb i x/\Ai prog BinOp.neq 125 (Operand.tmp 104) (Operand.tmp 109) (O6 y) (O6 x) (fY b)/\Br b (E6 111 z zn (R2 YM (I 18) (Q af.ret [(2,YM),(3,I 18)] [] 2 z zn))) (ZV (IntKind.i64.wrap ((↑i:Int)+1))=IV (i+1)/\E6 111 z zn (R3 Y3 (cX k) (IV (i+1)) (K2 oe (nj N) (ey bl) (Q aN [qe,(8,cX k),HE i] [(0,nj N),gR bl] 2 z zn))))) (E6 111 z zn (Q CX [] [] 2 z zn))):RdT prog gP z Xz 111 (tN k i) z [AP N,gR bl] 2 zn 2 Q:=K1t hyp ((tA 1 (tO (bS i) (tO (An.pP (AG y.row)) (tA 1 (tO (bS i) (tO (Qe kb x) (tX (jE.bin (fY b)) ((tE [] [] [(2,YM),(3,I 18)] [] 2 z zn).fork (tO (dI i) (tE dv [] [qe,(8,cX k),HE i] [(0,nj N),gR bl] 2 z zn)))))))))).fork (T9 z zn))
theorem aai(z:T aa)(zn:Nat)(N:aq)(bl:aV)(Q:QL)(hyp:E6 111 z zn (Q CX [] [] 2 z zn)):RdT prog gP z Xz 111 (tN 0 0) z [(0,N.cd an),gR bl] 2 zn 2 Q:=K1t hyp (tA 2 (tE [] [] [] [] 2 z zn))
abbrev Xy:rY->Value:=fun(s:rY)=>bd 0 s.k s.k
abbrev Xx:rY->List (Nat × aa):=fun(s:rY)=>[(0,aa.az s.bl)]
abbrev rL:rY->T aa:=fun(x:rY)=>x.z
abbrev Xw:rY->Nat:=fun(x:rY)=>x.zn
abbrev Lv:Value:=TP [YM,I 18]
noncomputable abbrev YIq(x:rY):aA:=aA.mk af.ret [(2,YM),(3,I 18)] [] 2 (rL x) x.zn
noncomputable abbrev YIr(b:Bool)(x:rY):aA->Prop:=(alt (b=false) (YIq x) (alt (b=true) (aA.mk CX [] [] 2 (rL x) x.zn) Al.nil)).R
abbrev YIs:rY->List (Nat × aa):=fun(x:rY)=>[(1,aa.az x.bl)]
noncomputable abbrev YIt(b:Bool)(x:rY):Al:=Al.cons Unit (YS b) (fun(x_1:Unit)=>YIq x) (fun(x_1:Unit)=>tR [] [] Lv [] 0 (rL x) x.zn) (Al.cons Unit (YR b) (fun(x_1:Unit)=>aA.mk CX [] [] 2 (rL x) x.zn) (fun(x_1:Unit)=>tR [] [] wZ [] 0 (rL x) x.zn) Al.nil)
theorem pp(z:T aa)(zn:Nat)(N:aq)(b:Bool)(r1 r2:Int)(φ:rY->Prop)(Q:QF)(hyp:YP/\aj prog TJ 1 111 (ng 0) [AP N] 1 z zn (alt (r2≠0) (aA.mk af.ret [(2,zv r1),(3,zv r2)] [] 1 z zn) (alt (r1=0/\r2=0) (aA.mk YO [(1,ip 0)] [AP N] 1 z zn) Al.nil)).R/\E6 111 z zn (R2 Y3 YM (KO YD (nj N)/\(∀(x:Unit),r2≠0->E6 111 z zn (CL r1 r2/\Q (Ii r1 r2) [] 0 z zn))/\ ∀(x:Unit),r1=0/\r2=0->bb prog z zn 122 [LF N,IV N.ns] [] 0 1 φ Xy Xx rL Xw/\Rs [LF N,IV N.ns]/\ ∀(x:rY),φ x->Rs (SL 0 x.k x.k)/\KO (sig CK) (aa.az x.bl)/\(((↑x.k:Int) !=(↑N.np:Int))=true->E6 111 (rL x) x.zn (Rs Lv/\Q Lv [] 0 (rL x) x.zn))/\(((↑x.k:Int) !=(↑N.np:Int))=false->rU/\aj prog Xz 2 111 (tN x.k 0) [AP N,(1,aa.az x.bl)] 2 (rL x) x.zn (YIr b x)/\E6 111 (rL x) x.zn (R3 Y3 (SL 1 x.k x.k) YM (K2 oe (nj N) (aa.az x.bl) ((∀(x_1:Unit),b=false->E6 111 (rL x) x.zn (Rs Lv/\Q Lv [] 0 (rL x) x.zn))/\ ∀(x_1:Unit),b=true->E6 111 (rL x) x.zn (wO/\Q wZ [] 0 (rL x) x.zn)))))))):FnT prog gP z f75 [AG (N.iJ N.p1)] z [] 0 zn Q:=K1t hyp (Tr.lp 1 111 YC [] (ng 0) [AP N] 1 z zn (Al.cons Unit (Ta r2) (fun(x:Unit)=>aA.mk af.ret [(2,zv r1),(3,zv r2)] [] 1 z zn) (Ur r1 r2 z zn) (Al.cons Unit (S5 r1 r2) (fun(x:Unit)=>aA.mk YO [(1,ip 0)] [AP N] 1 z zn) (fun(x:Unit)=>tA 2 (Tr.cm (Cm.mk [LF N,IV N.ns] [] 0 1 [] CK 2) rY φ Xy Xx (fun(x:rY)=>SL 1 x.k x.k) YIs rL Xw fun(x:rY)=>tA 1 ((tA 1 (tR [] [] Lv [] 0 (rL x) x.zn)).fork (tA 1 (Tr.lp 2 111 dv [] (tN x.k 0) [AP N,(1,aa.az x.bl)] 2 (rL x) x.zn (YIt b x)))))) Al.nil)))
theorem ppz(z:T aa)(zn:Nat)(N:aq)(b:Bool)(φ:rY->Prop)(Q:QF)(hyp:YP/\aj prog TJ 1 111 (ng 0) [(0,N.cd an)] 1 z zn (alt (0≠0) (aA.mk af.ret [(2,zv 0),(3,zv 0)] [] 1 z zn) (alt (tD/\tD) (aA.mk YO [(1,ip 0)] [(0,N.cd an)] 1 z zn) Al.nil)).R/\E6 111 z zn (R2 Y3 YM (KO YD (O3 N)/\(∀(x:Unit),0≠0->E6 111 z zn (wO/\Q wZ [] 0 z zn))/\ ∀(x:Unit),tD/\tD->bb prog z zn 122 [Y5,IV N.ns] [] 0 1 φ Xy Xx rL Xw/\Rs [Y5,IV N.ns]/\ ∀(x:rY),φ x->Rs (SL 0 x.k x.k)/\KO (sig CK) (aa.az x.bl)/\(((↑x.k:Int) !=0)=true->E6 111 (rL x) x.zn (Rs Lv/\Q Lv [] 0 (rL x) x.zn))/\(((↑x.k:Int) !=0)=false->rU/\aj prog Xz 2 111 (tN x.k 0) [(0,N.cd an),(1,aa.az x.bl)] 2 (rL x) x.zn (YIr b x)/\E6 111 (rL x) x.zn (R3 Y3 (SL 1 x.k x.k) YM (K2 oe (O3 N) (aa.az x.bl) ((∀(x_1:Unit),b=false->E6 111 (rL x) x.zn (Rs Lv/\Q Lv [] 0 (rL x) x.zn))/\ ∀(x_1:Unit),b=true->E6 111 (rL x) x.zn (wO/\Q wZ [] 0 (rL x) x.zn)))))))):FnT prog gP z f75 [AG (N.iJ an)] z [] 0 zn Q:=K1t hyp (Tr.lp 1 111 YC [] (ng 0) [(0,N.cd an)] 1 z zn (Al.cons Unit (fun(x:Unit)=>0≠0) (fun(x:Unit)=>aA.mk af.ret [(2,zv 0),(3,zv 0)] [] 1 z zn) (Mh z zn) (Al.cons Unit (fun(x:Unit)=>tD/\tD) (fun(x:Unit)=>aA.mk YO [(1,ip 0)] [(0,N.cd an)] 1 z zn) (fun(x:Unit)=>tA 2 (Tr.cm (Cm.mk [Y5,IV N.ns] [] 0 1 [] CK 2) rY φ Xy Xx (fun(x:rY)=>SL 1 x.k x.k) YIs rL Xw fun(x:rY)=>tA 1 ((tA 1 (tR [] [] Lv [] 0 (rL x) x.zn)).fork (tA 1 (Tr.lp 2 111 dv [] (tN x.k 0) [(0,N.cd an),(1,aa.az x.bl)] 2 (rL x) x.zn (YIt b x)))))) Al.nil)))
end
end Go.Proofs.Nw
namespace Go.Proofs.Nw
open Go Go.AV Tryz Go.jP
set_option maxHeartbeats 1000000
set_option maxRecDepth 100000
def dA(L:List ae):aV:=if L=[] then HT else Tn (L.map ae.row).flatten L.length
theorem xH(L:List ae)(x:ae):dA (L++[x])=Tn ((L.map ae.row).flatten++x.row) (L.length+1):=by
 unfold dA
 rw[if_neg (by simp),kQ,List.length_append];rfl
theorem I3(L:List ae)(x y:ae):dA (L++[x]++[y])=Tn ((L.map ae.row).flatten++x.row++y.row) (L.length+1+1):=by
 rw[xH,←kQ L x,List.length_append];rfl
def ek(M F:Nat->Nat->Int)(i:Nat)(L:List ae)(j:Nat):List ae:=
 if i=j\/14400<M i j then L else if M i j<F i j/\F i j<=14400 then L++[⟨i,j,M i j,F i j==M i j⟩]++[⟨i,j,F i j,true⟩] else L++[⟨i,j,M i j,F i j==M i j⟩]
def bU(M F:Nat->Nat->Int)(i:Nat)(L:List ae)(m:Nat):List ae:=(List.range m).foldl (ek M F i) L
def cu(M F:Nat->Nat->Int)(n m:Nat):List ae:=(List.range m).foldl (fun L i=>bU M F i L n) []
theorem kN(M F:Nat->Nat->Int)(i:Nat)(L:List ae)(m:Nat):bU M F i L (m+1)=ek M F i (bU M F i L m) m:=by
 unfold bU;rw[List.range_succ,List.foldl_append];rfl
theorem iT(M F:Nat->Nat->Int)(n m:Nat):cu M F n (m+1)=bU M F m (cu M F n m) n:=by
 unfold cu;rw[List.range_succ,List.foldl_append];rfl
theorem Bd(M F:Nat->Nat->Int)(i:Nat)(L:List ae)(j:Nat):(ek M F i L j).length<=L.length+2:=by
 unfold ek
 split
 ·omega
 ·split<;>simp
theorem vj(M F:Nat->Nat->Int)(i:Nat)(L:List ae)(m:Nat):(bU M F i L m).length<=L.length+2*m:=by
 induction m with
 |zero=>exact Nat.le_refl _
 |succ m ih=>rw[kN];have:=Bd M F i (bU M F i L m) m;omega
theorem pI(M F:Nat->Nat->Int)(n m:Nat):(cu M F n m).length<=m*(2*n):=by
 induction m with
 |zero=>exact Nat.zero_le _
 |succ m ih=>
  rw[iT]
  have:=vj M F m (cu M F n m) n
  have e:(m+1)*(2*n)=m*(2*n)+2*n:=Nat.succ_mul ..
  omega
theorem fJ{σ:Nat->Option Nat}(L:List ae):aD σ (.az (dA L))=some (.az (dA L)):=by
 unfold dA
 split
 ·rfl
 ·exact cA (j8 L)
theorem EM{σ:Nat->Option Nat}(L:List ae)(x y:ae)(c:Nat):aD σ (.az (aV.mk ((L.map ae.row).flatten++x.row++y.row) c 4 125 false false 0 true))=some (.az (aV.mk ((L.map ae.row).flatten++x.row++y.row) c 4 125 false false 0 true)):=cA (by
 rw[kQ,kQ];exact j8 _)
def tI(z:T aa)(b n:Nat)(M:Nat->Nat->Int):Prop:= ∀i,i<n-> ∃l:List Int,z.get (b+i)=some (.az (A9 (l.map zv) n))/\l.length=n/\ ∀j,j<n->l[j]? =some (M i j)
theorem u4{z:T aa}{b n:Nat}{M:Nat->Nat->Int}(h:tI z b n M){i j:Nat}(hi:i<n)(hj:j<n): ∃k,z.get (b+i)=some (.az k)/\ai prog k 3 (0+j*1)=some (zv (M i j)):=by
 obtain⟨l,h1,h2,h3⟩:=h i hi
 exact⟨_,h1,jT (d:=_) underlying3 rfl (by show(l.map zv)[j]? =_;rw[List.getElem?_map,h3 j hj];rfl)⟩
section
variable{z:T aa}{zn:Nat}
theorem JI(hz:aw z zn)(n:Nat)(hn:n<=64)(b1 b2:Nat)(M F:Nat->Nat->Int)(hM:tI z b1 n M)(hF:tI z b2 n F)(i:Nat)(hi:i<n)(L:List ae)(hL:L.length<=10000):
 aj prog (ah (ah (ag f122) 0) 0) 4 107 (xh n L.length i 0) (rZ (dX b1 n n) (dX b2 n n) (dA L)) 5 z zn (Al.R (Rm z zn n L.length i (dX b1 n n) (dX b2 n n) (dA L) (fun s=>s=⟨(bU M F i L n).length,dA (bU M F i L n)⟩)).l):=by
 refine ax hD (c7 T.leaf) (α:=Nat) 4 107 5 (fun j=>j<=n) (fun j=>xh n (bU M F i L j).length i j) (fun j=>rZ (dX b1 n n) (dX b2 n n) (dA (bU M F i L j))) (fun _=>z) (fun _=>zn) (fun j=>n - j) _ (fun j hj=>?_) 0 (Nat.zero_le _)
 have hrl:=vj M F i L j
 have nx: ∀L' k' bl,bU M F i L (j+1)=L'->k'=L'.length->bl=dA L'->j<n->au (fun j=>j<=n) (fun j=>xh n (bU M F i L j).length i j) (fun j=>rZ (dX b1 n n) (dX b2 n n) (dA (bU M F i L j))) 5 (fun _=>z) (fun _=>zn) (fun j=>n - j) (Al.R (Rm z zn n L.length i (dX b1 n n) (dX b2 n n) (dA L) (fun s=>s=⟨(bU M F i L n).length,dA (bU M F i L n)⟩)).l) j .normal (xh n k' i (j+1)) (rZ (dX b1 n n) (dX b2 n n) bl) 5 z zn:=fun L' k' bl e1 e2 e3 h=>by
  subst e1 e2 e3
  exact⟨j+1,rfl,rfl,rfl,rfl,rfl,h,by show n - (j+1)<n - j;omega⟩
 have fin:j=n->au (fun j=>j<=n) (fun j=>xh n (bU M F i L j).length i j) (fun j=>rZ (dX b1 n n) (dX b2 n n) (dA (bU M F i L j))) 5 (fun _=>z) (fun _=>zn) (fun j=>n - j) (Al.R (Rm z zn n L.length i (dX b1 n n) (dX b2 n n) (dA L) (fun s=>s=⟨(bU M F i L n).length,dA (bU M F i L n)⟩)).l) j (.exit 2) [(1,iv n),(5,bd 0 n n),(6,bd 1 n n),(7,bd 4 (bU M F i L j).length (bU M F i L j).length),(8,iv i)] (rZ (dX b1 n n) (dX b2 n n) (dA (bU M F i L j))) 5 z zn:=fun e=>by
  subst e
  exact Or.inl ⟨(⟨(bU M F i L j).length,dA (bU M F i L j)⟩:rP),rfl,rfl⟩
 have hsucc:=kN M F i L j
 generalize bU M F i L j=K at hrl nx fin hsucc ⊢
 by_cases hlt:j<n
 ·have hc:decide ((j:Int)<(n:Int))=true:=by simp;omega
  obtain⟨k1,g1,r1⟩:=u4 hM hi hlt
  obtain⟨k2,g2,r2⟩:=u4 hF hi hlt
  have d1:ai prog (dX b1 n n) 128 (0+i*1)=_:=rm hi
  have d2:ai prog (dX b2 n n) 128 (0+i*1)=_:=rm hi
  have w0:((i:Int)==(j:Int))=true->bU M F i L (j+1)=K:=fun h=>by
   rw[hsucc];unfold ek;rw[if_pos (.inl (by simp at h;omega))]
  have w1:decide (M i j>14400)=true->bU M F i L (j+1)=K:=fun h=>by
   rw[hsucc];unfold ek;rw[if_pos (.inr (by simp at h;omega))]
  have w2:((i:Int)==(j:Int))=false->decide (M i j>14400)=false-> ∀fl,(F i j==M i j)=fl->decide (F i j>M i j)=true->decide (F i j<=14400)=true->bU M F i L (j+1)=K++[⟨i,j,M i j,fl⟩]++[⟨i,j,F i j,true⟩]:=fun h1 h2 fl h3 h4 h5=>by
   rw[hsucc];unfold ek
   rw[if_neg (by simp at h1 h2;omega),if_pos (by simp at h4 h5;omega),h3]
  have w3:((i:Int)==(j:Int))=false->decide (M i j>14400)=false-> ∀fl,(F i j==M i j)=fl->decide (F i j<=14400)=false->bU M F i L (j+1)=K++[⟨i,j,M i j,fl⟩]:=fun h1 h2 fl h3 h5=>by
   rw[hsucc];unfold ek
   rw[if_neg (by simp at h1 h2;omega),if_neg (by simp at h5;omega),h3]
  have w4:((i:Int)==(j:Int))=false->decide (M i j>14400)=false-> ∀fl,(F i j==M i j)=fl->decide (F i j>M i j)=false->bU M F i L (j+1)=K++[⟨i,j,M i j,fl⟩]:=fun h1 h2 fl h3 h5=>by
   rw[hsucc];unfold ek
   rw[if_neg (by simp at h1 h2;omega),if_neg (by simp at h5;omega),h3]
  by_cases hK:K=[]
  ·subst hK
   refine t100 (V8 z zn n i j (b1+i) (b2+i) (dX b1 n n) (dX b2 n n) k1 k2 (M i j) (F i j) (au _ _ _ _ _ _ _ _ _) ⟨fun _=>?_,nC1 hc⟩)
   (repeat' first|(with_reducible first|exact rfl|assumption|apply And.intro|exact dG _ _ _|exact bH (by omega))|intro hq)
   all_goals first
    |exact nx _ _ _ (w0 (by with_reducible assumption)) rfl rfl hlt
    |exact nx _ _ _ (w1 (by with_reducible assumption)) rfl rfl hlt
    |exact nx _ _ _ (w2 (by with_reducible assumption) (by with_reducible assumption) _ (by with_reducible assumption) (by with_reducible assumption) (by with_reducible assumption)) rfl rfl hlt
    |exact nx _ _ _ (w3 (by with_reducible assumption) (by with_reducible assumption) _ (by with_reducible assumption) (by with_reducible assumption)) rfl rfl hlt
    |exact nx _ _ _ (w4 (by with_reducible assumption) (by with_reducible assumption) _ (by with_reducible assumption) (by with_reducible assumption)) rfl rfl hlt
  ·have eK:dA K=Tn (K.map ae.row).flatten K.length:=by unfold dA;rw[if_neg hK]
   have s1: ∀fl,(⟨(K.map ae.row).flatten++(⟨i,j,M i j,fl⟩:ae).row,(K.length+1)*4,4,125,false,false,0,true⟩:aV)=dA (K++[⟨i,j,M i j,fl⟩]):=fun fl=>(xH _ _).symm
   have s2: ∀fl,(⟨(K.map ae.row).flatten++(⟨i,j,M i j,fl⟩:ae).row++(⟨i,j,F i j,true⟩:ae).row,(K.length+1+1)*4,4,125,false,false,0,true⟩:aV)=dA (K++[⟨i,j,M i j,fl⟩]++[⟨i,j,F i j,true⟩]):=fun fl=>(I3 _ _ _).symm
   have m1: ∀x:ae,K.length+1=(K++[x]).length:=fun x=>by simp
   have m2: ∀x y:ae,K.length+1+1=(K++[x]++[y]).length:=fun x y=>by simp
   have p1: ∀fl,((K.map ae.row).flatten++(⟨i,j,M i j,fl⟩:ae).row).length=(K.length+1)*4:=fun fl=>by
    rw[kQ,Dn];simp
   rw[eK]
   refine t100 (cq1 z zn n K.length i j (b1+i) (b2+i) (dX b1 n n) (dX b2 n n) k1 k2 (M i j) (F i j) (K.map ae.row).flatten (au _ _ _ _ _ _ _ _ _) ⟨fun _=>?_,nC1 hc⟩)
   (repeat' first|(with_reducible first|exact rfl|assumption|apply And.intro|exact Dn K|exact p1 _|exact dG _ _ _|exact cA (j8 K)|exact Dg K ⟨i,j,M i j,true⟩ _|exact Dg K ⟨i,j,M i j,false⟩ _|exact EM K ⟨i,j,M i j,true⟩ ⟨i,j,F i j,true⟩ _|exact EM K ⟨i,j,M i j,false⟩ ⟨i,j,F i j,true⟩ _|exact(by omega:K.length+1<=1048576)|exact(by omega:K.length+1+1<=1048576)|exact bH (by omega))|intro hq)
   all_goals first
    |exact nx _ _ _ (w0 (by with_reducible assumption)) rfl eK.symm hlt
    |exact nx _ _ _ (w1 (by with_reducible assumption)) rfl eK.symm hlt
    |exact nx _ _ _ (w2 (by with_reducible assumption) (by with_reducible assumption) _ (by with_reducible assumption) (by with_reducible assumption) (by with_reducible assumption)) (m2 _ _) (s2 _) hlt
    |exact nx _ _ _ (w3 (by with_reducible assumption) (by with_reducible assumption) _ (by with_reducible assumption) (by with_reducible assumption)) (m1 _) (s1 _) hlt
    |exact nx _ _ _ (w4 (by with_reducible assumption) (by with_reducible assumption) _ (by with_reducible assumption) (by with_reducible assumption)) (m1 _) (s1 _) hlt
 ·have hjn:j=n:=by omega
  have hc:decide ((j:Int)<(n:Int))=false:=by simp;omega
  by_cases hK:K=[]
  ·subst hK
   refine t100 (V8 z zn n i j 0 0 (dX b1 n n) (dX b2 n n) HT HT 0 0 (au _ _ _ _ _ _ _ _ _) ⟨nC1 hc,fun _=>?_⟩)
   (repeat' first|(with_reducible first|exact rfl|assumption|apply And.intro|exact dG _ _ _))
   exact fin hjn
  ·have eK:dA K=Tn (K.map ae.row).flatten K.length:=by unfold dA;rw[if_neg hK]
   rw[eK] at fin ⊢
   refine t100 (cq1 z zn n K.length i j 0 0 (dX b1 n n) (dX b2 n n) HT HT 0 0 (K.map ae.row).flatten (au _ _ _ _ _ _ _ _ _) ⟨nC1 hc,fun _=>?_⟩)
   (repeat' first|(with_reducible first|exact rfl|assumption|apply And.intro|exact dG _ _ _|exact cA (j8 K)))
   exact fin hjn
end
section
variable{z:T aa}{zn:Nat}
theorem BV(hz:aw z zn)(n:Nat)(hn:n<=64)(b1 b2:Nat)(M F:Nat->Nat->Int)(hM:tI z b1 n M)(hF:tI z b2 n F):
 aj prog (ah (ag f122) 0) 3 107 (BF n 0 0) (Pe (dX b1 n n) (dX b2 n n) HT) 4 z zn (Al.R (Rn z zn n (dX b1 n n) (dX b2 n n) (fun s=>s=⟨(cu M F n n).length,dA (cu M F n n)⟩)).l):=by
 refine ax hD (c7 T.leaf) (α:=Nat) 3 107 4 (fun i=>i<=n) (fun i=>BF n (cu M F n i).length i) (fun i=>Pe (dX b1 n n) (dX b2 n n) (dA (cu M F n i))) (fun _=>z) (fun _=>zn) (fun i=>n - i) _ (fun i hi=>?_) 0 (Nat.zero_le _)
 by_cases hlt:i<n
 ·have hc:decide ((i:Int)<(n:Int))=true:=by simp;omega
  have hll:(cu M F n i).length<=10000:=by
   have:=pI M F n i
   have h2:i*(2*n)<=64*(2*64):=Nat.mul_le_mul (by omega) (by omega)
   omega
  have hlp:=JI hz n hn b1 b2 M F hM hF i hlt (cu M F n i) hll
  refine t100 (cq0 z zn n (cu M F n i).length i (dX b1 n n) (dX b2 n n) (dA (cu M F n i)) (fun s=>s=⟨(bU M F i (cu M F n i) n).length,dA (bU M F i (cu M F n i) n)⟩) (au _ _ _ _ _ _ _ _ _) ⟨fun _=>?_,nC1 hc⟩)
  have rq: ∀(σ:bq)(s:rP),s=⟨(bU M F i (cu M F n i) n).length,dA (bU M F i (cu M F n i) n)⟩->aD (ay σ []) (.az s.bl)=some (.az s.bl):=fun σ s h=>by rw[h];exact fJ _
  (repeat' first|(with_reducible first|exact rfl|assumption|apply And.intro|exact dG _ _ _|exact fJ _|exact rq _ _ ‹_›|exact bH (by omega))|exact hlp|intro hq)
  rename_i x hq
  subst hq
  exact⟨i+1,by simp only[iT];rfl,by simp only[iT],rfl,rfl,rfl,hlt,by show n - (i+1)<n - i;omega⟩
 ·have hin:i=n:=by omega
  subst hin
  have hc:decide ((i:Int)<(i:Int))=false:=by simp
  refine t100 (cq0 z zn i (cu M F i i).length i (dX b1 i i) (dX b2 i i) (dA (cu M F i i)) (fun _=>False) (au _ _ _ _ _ _ _ _ _) ⟨nC1 hc,fun _=>?_⟩)
  (repeat' first|(with_reducible first|exact rfl|assumption|apply And.intro|exact fJ _))
  exact Or.inl ⟨(⟨(cu M F i i).length,dA (cu M F i i)⟩:rP),rfl,rfl⟩
end
def HJ(E:bY)(n i j:Nat)(v:Int):Prop:=CP E n mN i j v/\v<=(mN:Int)
def MF(n:Nat)(l:List ae)(M F:Nat->Nat->Int):Prop:=(∀i j,i<n->j<n->HJ (dq (fw l false)) n i j (M i j))/\(∀i j,i<n->j<n->HJ (dq (fw l true)) n i j (F i j))
structure C5(z:T aa)(zn:Nat)(C:List ae)(s:rY):Prop where
 k:s.k=C.length
 bl:s.bl=dA C
 bN:aw s.z s.zn
 le:zn<=s.zn
 gK: ∀k,k<zn->s.z.get k=z.get k
theorem mw{z:T aa}{zn n:Nat}{l:List ae}{b:Bool}{s:dE}(h:py z zn n l b s): ∀k,k<zn->s.z.get k=z.get k:=by
 obtain⟨_,_,M,h,_⟩:=h;exact h.gK
theorem qs{z:T aa}{zn n:Nat}{l:List ae}{b:Bool}{s:dE}(h:py z zn n l b s): ∃M,tI s.z zn n M/\ ∀i j,i<n->j<n->HJ (dq (fw l b)) n i j (M i j):=by
 obtain⟨_,_,M,h1,h2,h3⟩:=h
 exact⟨M,h1.row,fun i j hi hj=>⟨JZ h3 hi hj,h2.le i j hi hj⟩⟩
theorem u5{z z':T aa}{b n m:Nat}{d:Nat->Nat->Int}(h:tI z b n d)(hb:b+n<=m)(hk: ∀k,k<m->z'.get k=z.get k):tI z' b n d:=fun i hi=>by
 obtain⟨l,h1,h2⟩:=h i hi
 exact⟨l,by rw[hk _ (by omega)];exact h1,h2⟩
section
variable{z:T aa}{zn:Nat}
theorem Hb(hz:aw z zn)(h5:5<=zn)(n:Nat)(hn:n<=64)(l:List ae)(hl:ot n l)(hll:l.length<=10000)(cp:Nat)(hL:bP z 4 (l.map ae.row))(C:List ae)(hC: ∀M F,MF n l M F->cu M F n n=C):
 bb prog z zn 122 [tb 4 l.length cp,iv n] [] 0 1 (C5 z zn C) (fun s=>bd 0 s.k s.k) (fun s=>[(0, .az s.bl)]) (fun s=>s.z) (fun s=>s.zn):=by
 have d1:=FF hz h5 n hn l hl hll cp hL false
 have d2: ∀s,py z zn n l false s->bb prog s.z s.zn 149 [tb 4 l.length cp,iv n,T1] [] 0 1 (py s.z s.zn n l true) (fun _=>bd 0 n n) (fun s=>[(0, .az s.bl)]) (fun s=>s.z) (fun s=>s.zn):=fun s h=>FF h.bN (by rw[h.2.1];omega) n hn l hl hll cp (dw hL hz (mw h)) true
 have rb: ∀{z zn b s},py z zn n l b s-> ∀σ,aD (ay σ []) (.az s.bl)=some (.az s.bl):=fun h σ=>by rw[h.1];exact dG _ _ _
 have rb2: ∀{z zn b s},py z zn n l b s-> ∀σ,aD (sig σ) (.az s.bl)=some (.az s.bl):=fun h σ=>rb h σ
 have lp: ∀s1 s2,py z zn n l false s1->py s1.z s1.zn n l true s2->aj prog (ah (ag f122) 0) 3 107 (BF n 0 0) (Pe s1.bl s2.bl HT) 4 s2.z s2.zn (Al.R (Rn s2.z s2.zn n s1.bl s2.bl (fun s=>s=⟨C.length,dA C⟩)).l):=fun s1 s2 h1 h2=>by
  obtain⟨M,m1,m2⟩:=qs h1
  obtain⟨F,f1,f2⟩:=qs h2
  have:=BV h2.bN n hn zn s1.zn M F (u5 m1 (by rw[h1.2.1];exact Nat.le_refl _) (mw h2)) f1
  rw[hC M F ⟨m2,f2⟩] at this
  rw[h1.1,h2.1]
  exact this
 have ro: ∀(σ:bq)(s:rP),s=⟨C.length,dA C⟩->aD (ay σ []) (.az s.bl)=some (.az s.bl):=fun σ s h=>by rw[h];exact fJ _
 have le2: ∀s1 s2,py z zn n l false s1->py s1.z s1.zn n l true s2->zn<=s2.zn:=fun s1 s2 h1 h2=>by rw[h2.2.1,h1.2.1];omega
 have fin: ∀s1 s2,py z zn n l false s1->py s1.z s1.zn n l true s2->C5 z zn C ⟨C.length,dA C,s2.z,s2.zn⟩:=fun s1 s2 h1 h2=>⟨rfl,rfl,h2.bN,le2 s1 s2 h1 h2,fun k hk=>(mw h2 k (by rw[h1.2.1];omega)).trans (mw h1 k hk)⟩
 refine dV (c7 T.leaf) (fn:=f122) (by kernel_rfl) (by kernel_rfl) hz ⟨by decide,by decide⟩ (fun s hs=>⟨rfl,hs.le,hs.bN⟩) (N:=100) ?_
 refine cq z zn l.length cp n (py z zn n l false) (fun s=>py s.z s.zn n l true) (fun _ _ s=>s=⟨C.length,dA C⟩) _ ?_
 (repeat' first|(with_reducible first|exact rfl|assumption|apply And.intro|exact d2 _ ‹_›|exact py.bN ‹_›|exact rb ‹_› _|exact rb2 ‹_› _|exact ro _ _ ‹_›)|exact lp _ _ (by with_reducible assumption) (by with_reducible assumption)|intro hq)
 rename_i s1 h1 s2 h2 s
 subst hq
 exact q2 (⟨C.length,dA C,s2.z,s2.zn⟩:rY) (fin s1 s2 h1 h2) rfl rfl rfl rfl rfl
theorem Ea(hz:aw z zn)(h5:5<=zn)(n:Nat)(hn:n<=64)(C:List ae)(hC: ∀M F,MF n [] M F->cu M F n n=C):
 bb prog z zn 122 [an,iv n] [] 0 1 (C5 z zn C) (fun s=>bd 0 s.k s.k) (fun s=>[(0, .az s.bl)]) (fun s=>s.z) (fun s=>s.zn):=by
 have d1:=Ct hz h5 n hn false
 have d2: ∀s,py z zn n [] false s->bb prog s.z s.zn 149 [an,iv n,T1] [] 0 1 (py s.z s.zn n [] true) (fun _=>bd 0 n n) (fun s=>[(0, .az s.bl)]) (fun s=>s.z) (fun s=>s.zn):=fun s h=>Ct h.bN (by rw[h.2.1];omega) n hn true
 have rb: ∀{z zn b s},py z zn n [] b s-> ∀σ,aD (ay σ []) (.az s.bl)=some (.az s.bl):=fun h σ=>by rw[h.1];exact dG _ _ _
 have rb2: ∀{z zn b s},py z zn n [] b s-> ∀σ,aD (sig σ) (.az s.bl)=some (.az s.bl):=fun h σ=>rb h σ
 have lp: ∀s1 s2,py z zn n [] false s1->py s1.z s1.zn n [] true s2->aj prog (ah (ag f122) 0) 3 107 (BF n 0 0) (Pe s1.bl s2.bl HT) 4 s2.z s2.zn (Al.R (Rn s2.z s2.zn n s1.bl s2.bl (fun s=>s=⟨C.length,dA C⟩)).l):=fun s1 s2 h1 h2=>by
  obtain⟨M,m1,m2⟩:=qs h1
  obtain⟨F,f1,f2⟩:=qs h2
  have:=BV h2.bN n hn zn s1.zn M F (u5 m1 (by rw[h1.2.1];exact Nat.le_refl _) (mw h2)) f1
  rw[hC M F ⟨m2,f2⟩] at this
  rw[h1.1,h2.1]
  exact this
 have ro: ∀(σ:bq)(s:rP),s=⟨C.length,dA C⟩->aD (ay σ []) (.az s.bl)=some (.az s.bl):=fun σ s h=>by rw[h];exact fJ _
 have le2: ∀s1 s2,py z zn n [] false s1->py s1.z s1.zn n [] true s2->zn<=s2.zn:=fun s1 s2 h1 h2=>by rw[h2.2.1,h1.2.1];omega
 have fin: ∀s1 s2,py z zn n [] false s1->py s1.z s1.zn n [] true s2->C5 z zn C ⟨C.length,dA C,s2.z,s2.zn⟩:=fun s1 s2 h1 h2=>⟨rfl,rfl,h2.bN,le2 s1 s2 h1 h2,fun k hk=>(mw h2 k (by rw[h1.2.1];omega)).trans (mw h1 k hk)⟩
 refine dV (c7 T.leaf) (fn:=f122) (by kernel_rfl) (by kernel_rfl) hz ⟨by decide,by decide⟩ (fun s hs=>⟨rfl,hs.le,hs.bN⟩) (N:=100) ?_
 refine cqn z zn n (py z zn n [] false) (fun s=>py s.z s.zn n [] true) (fun _ _ s=>s=⟨C.length,dA C⟩) _ ?_
 (repeat' first|(with_reducible first|exact rfl|assumption|apply And.intro|exact d2 _ ‹_›|exact py.bN ‹_›|exact rb ‹_› _|exact rb2 ‹_› _|exact ro _ _ ‹_›)|exact lp _ _ (by with_reducible assumption) (by with_reducible assumption)|intro hq)
 rename_i s1 h1 s2 h2 s
 subst hq
 exact q2 (⟨C.length,dA C,s2.z,s2.zn⟩:rY) (fin s1 s2 h1 h2) rfl rfl rfl rfl rfl
end
theorem JN{P:Nat->Prop}: ∀n,P n-> ∃m,P m/\ ∀k,P k->m<=k:=by
 intro n
 induction n using Nat.strongRecOn with
 |ind n ih=>
  intro hn
  by_cases h: ∃k,k<n/\P k
  ·obtain⟨k,h1,h2⟩:=h
   exact ih k h1 h2
  ·exact⟨n,hn,fun k hk=>Nat.le_of_not_lt fun hlt=>h ⟨k,hlt,hk⟩⟩
theorem Fp(E:bY)(n i j:Nat): ∃v,HJ E n i j v:=by
 by_cases h: ∃L,L<mN/\Wk E n i j L
 ·obtain⟨L,h1,h2⟩:=h
  obtain⟨m,m1,m2⟩:=JN (P:=fun L=>Wk E n i j L) L h2
  have:=m2 L h2
  exact⟨(m:Int),⟨by omega,fun _=>by simpa using m1,fun k hk=>by have:=m2 k hk;omega⟩,Int.ofNat_le.2 (by omega)⟩
 ·refine⟨(mN:Int),⟨by omega,fun hlt=>absurd hlt (Int.lt_irrefl _),fun k hk=>?_⟩,Int.le_refl _⟩
  by_cases hb:k<mN
  ·exact absurd ⟨k,hb,hk⟩ h
  ·omega
theorem yq{E:bY}{n i j:Nat}{v w:Int}(h:HJ E n i j v)(k:HJ E n i j w):v=w:=by
 obtain⟨⟨a1,a2,a3⟩,a4⟩:=h
 obtain⟨⟨b1,b2,b3⟩,b4⟩:=k
 by_cases hv:v<(mN:Int)
 ·have:=b3 _ (a2 hv)
  have:=a3 _ (b2 (by omega))
  omega
 ·by_cases hw:w<(mN:Int)
  ·have:=a3 _ (b2 hw);omega
  ·omega
theorem xQ(n:Nat)(l:List ae): ∃M F,MF n l M F:=by
 obtain⟨M,hM⟩:=Classical.axiomOfChoice fun i:Nat=>Classical.axiomOfChoice fun j:Nat=>Fp (dq (fw l false)) n i j
 obtain⟨F,hF⟩:=Classical.axiomOfChoice fun i:Nat=>Classical.axiomOfChoice fun j:Nat=>Fp (dq (fw l true)) n i j
 exact⟨M,F,fun i j _ _=>hM i j,fun i j _ _=>hF i j⟩
def Qw(e:Nat × Nat × Int × Bool):ae:=⟨e.1,e.2.1,e.2.2.1,e.2.2.2⟩
theorem Oi{d f:Nat->Nat->Int}{a b:Nat}(L:List ae)(h:a≠b):iP d f a L b=L++(uo a b (d a b) (f a b)).map Qw:=by
 unfold iP uo jl
 rw[if_neg h]
 by_cases e:f a b=d a b
 ·rw[if_pos e,if_pos e,decide_eq_true e,List.append_nil]
  by_cases c:0<d a b/\d a b<=14400
  ·rw[if_pos c,if_pos c];rfl
  ·rw[if_neg c,if_neg c];simp
 ·rw[if_neg e,if_neg e,decide_eq_false e]
  by_cases c:0<d a b/\d a b<=14400<;>by_cases c2:0<f a b/\f a b<=14400
  ·rw[if_pos c,if_pos c,if_pos c2,if_pos c2];simp[Qw]
  ·rw[if_pos c,if_pos c,if_neg c2,if_neg c2];simp[Qw]
  ·rw[if_neg c,if_neg c,if_pos c2,if_pos c2];simp[Qw]
  ·rw[if_neg c,if_neg c,if_neg c2,if_neg c2];simp
theorem MT{M F:Nat->Nat->Int}{a b:Nat}(L:List ae)(h:a≠b):ek M F a L b=L++(zx a b (M a b) (F a b)).map Qw:=by
 unfold ek zx
 have hb:(F a b==M a b)=decide (F a b=M a b):=by
  by_cases e:F a b=M a b<;>simp[e]
 rw[hb]
 by_cases c:14400<M a b
 ·rw[if_pos (.inr c),if_pos c];simp
 ·rw[if_neg (by omega),if_neg c]
  by_cases c2:M a b<F a b/\F a b<=14400
  ·rw[if_pos c2,if_pos c2];simp[Qw]
  ·rw[if_neg c2,if_neg c2];simp[Qw]
theorem kg{α β:Type}{f g:α->β->α}: ∀(l:List β)(a:α),(∀a,∀b∈l,f a b=g a b)->l.foldl f a=l.foldl g a
 |[],_,_=>rfl
 |b::l,a,h=>by
  rw[List.foldl_cons,List.foldl_cons,h a b (List.mem_cons_self ..)]
  exact kg l _ fun a c hc=>h a c (List.mem_cons_of_mem _ hc)
theorem Iz{n:Nat}{d f M F:Nat->Nat->Int}(h: ∀i j,i<n->j<n->i≠j->jP.Alike (M i j) (d i j)/\jP.Alike (F i j) (f i j)/\M i j<=F i j):eV d f n n=cu M F n n:=by
 unfold eV cu
 refine kg _ _ fun L a ha=>?_
 unfold cV bU
 refine kg _ _ fun L b hb=>?_
 by_cases e:a=b
 ·unfold iP ek
  rw[if_pos e,if_pos (.inl e)]
 ·obtain⟨h1,h2,h3⟩:=h a b (List.mem_range.1 ha) (List.mem_range.1 hb) e
  rw[Oi L e,MT L e,Ki h1 h2 h3]
theorem nN{l:List ae}{b:Bool}{u v w:Nat}:(u,v,w)∈fw l b↔ ∃p∈l,fI b p=true/\p.fz1.toNat=u/\p.aB.toNat=v/\p.aK.toNat=w:=by
 unfold fw
 simp only[List.mem_map,List.mem_filter,Prod.mk.injEq]
 constructor
 ·rintro⟨p,⟨h1,h2⟩,h3,h4,h5⟩;exact⟨p,h1,h2,h3,h4,h5⟩
 ·rintro⟨p,h1,h2,h3,h4,h5⟩;exact⟨p,⟨h1,h2⟩,h3,h4,h5⟩
theorem uV{n:Nat}{l:List ae}(hl:ot n l){b:Bool}{E:List eO}(h:Uy n l b E):yW (dq (fw l b)) (EE E):=by
 refine⟨fun u v w hm=>?_,fun u v w hm=>?_⟩
 ·obtain⟨p,p1,p2,p3,p4,p5⟩:=nN.1 hm
  obtain⟨k1,k2,k3,k4,_,k6,k7⟩:=hl.ok p p1
  obtain⟨e,e1,e2,e3,e4⟩:=h.all p p1 p2
  have:=h.ok.ok e e1
  exact⟨e.wt.toNat,by omega,e,e1,by omega,by omega,by omega⟩
 ·obtain⟨e,e1,e2,e3,e4⟩:=hm
  obtain⟨p,p1,p2,p3,p4,p5⟩:=h.sub e e1
  exact⟨w,Nat.le_refl _,nN.2 ⟨p,p1,p2,by omega,by omega,by omega⟩⟩
theorem EW{n:Nat}{l:List ae}(hl:ot n l){b:Bool}:Pos (dq (fw l b)):=fun u v w hm=>by
 obtain⟨p,p1,p2,p3,p4,p5⟩:=nN.1 hm
 have:=hl.ok p p1
 omega
theorem Pu{n:Nat}{E:List eO}(h:HL n E): ∀a b w,EE E a b w->a<n/\b<n:=fun a b w ⟨e,e1,e2,e3,e4⟩=>by
 have:=h.ok e e1
 omega
theorem Nf{l:List ae}: ∀a b w,dq (fw l true) a b w-> ∃w',w'<=w/\dq (fw l false) a b w':=fun a b w hm=>by
 obtain⟨p,p1,p2,p3⟩:=nN.1 hm
 exact⟨w,Nat.le_refl _,nN.2 ⟨p,p1,rfl,p3⟩⟩
theorem Kp{n:Nat}{l:List ae}(hl:ot n l){d f M F:Nat->Nat->Int}(h:DF n l d f)(k:MF n l M F):eV d f n n=cu M F n n:=by
 obtain⟨E,G,hE,hG,h1,h2⟩:=h
 refine Iz fun i j hi hj hij=>⟨?_,?_,?_⟩
 ·exact CD (uV hl hE) (EW hl) (Pu hE.ok) (by decide) (fun e=>hij e.symm) (k.1 i j hi hj).1 (h1 i j hi hj)
 ·exact CD (uV hl hG) (EW hl) (Pu hG.ok) (by decide) (fun e=>hij e.symm) (k.2 i j hi hj).1 (h2 i j hi hj)
 ·rcases Bu Nf (k.1 i j hi hj).1 (k.2 i j hi hj).1 with h|h
  ·exact h
  ·exact Int.le_trans (k.1 i j hi hj).2 h
theorem Kq(n:Nat)(l:List ae): ∃C:List ae,(∃M F,MF n l M F/\C=cu M F n n)/\ ∀M F,MF n l M F->cu M F n n=C:=by
 obtain⟨M,F,h⟩:=xQ n l
 refine⟨cu M F n n,⟨M,F,h,rfl⟩,fun M' F' h'=>?_⟩
 unfold cu
 refine kg _ _ fun L a ha=>?_
 unfold bU
 refine kg _ _ fun L b hb=>?_
 have ha:=List.mem_range.1 ha
 have hb:=List.mem_range.1 hb
 unfold ek
 rw[yq (h'.1 a b ha hb) (h.1 a b ha hb),yq (h'.2 a b ha hb) (h.2 a b ha hb)]
noncomputable def iu(n:Nat)(l:List ae):List ae:=Classical.choose (Kq n l)
theorem lZ{n:Nat}{l:List ae}{M F:Nat->Nat->Int}(h:MF n l M F):cu M F n n=iu n l:=(Classical.choose_spec (Kq n l)).2 M F h
theorem yH{n:Nat}{l:List ae}(hl:ot n l){d f:Nat->Nat->Int}(h:DF n l d f):eV d f n n=iu n l:=by
 obtain⟨M,F,hm⟩:=xQ n l
 rw[Kp hl h hm];exact lZ hm
open Classical in
theorem eL{P:Program}{z:T aa}{zn f:Nat}{args:List Value}{nx:Nat}{α:Type}{φ:α->Prop}{v:Value}{zz:α->T aa}{zn':α->Nat}(h:bb P z zn f args [] nx nx φ (fun _=>v) (fun _=>[]) zz zn')(hv:aC v=true)
 (ho: ∀x,φ x-> ∀k,k<zn->(zz x).get k=z.get k):aF P z zn f args [] nx nx (fun _:Unit=>True) (fun _=>v) (fun _=>[]):=by
 have hz:=h.1
 refine⟨h.1,h.2.1,h.2.2.1,fun _ _=>⟨fun b o hb=>by simp at hb,Nat.le_refl _,h.1⟩,fun ρ w args' n h1 h2 h3 h4=>(h.2.2.2.2 ρ w args' n h1 h2 h3 h4).mono fun e w' ⟨x,hx,hg⟩=>⟨(),trivial,?_⟩⟩
 obtain⟨ρ',v',e1,g1,g2,g3⟩:=hg
 have hle:=(h.2.2.2.1 x hx).le
 have hsub: ∀b o,(eC z [] nx).heap.get b=some o->(eC (zz x) [] nx).heap.get b=some o:=fun b o hb=>by
  obtain⟨k,e,hk⟩:=fp hb
  show(qA (zz x)).get b=_
  rw[e,fB]
  show(zz x).get k=_
  rw[ho x hx k (hz k o hk).1];exact hk
 have hfr: ∀b o,(eC z [] nx).heap.get b=some o-> ∃k,b=256*k+510/\k<zn/\z.get k=some o:=fun b o hb=>by
  obtain⟨k,e,hk⟩:=fp hb
  exact⟨k,e,(hz k o hk).1,hk⟩
 have hno: ∀b,kJ zn (zn' x) b->ρ b=none:=fun b ⟨k,e,k1,_⟩=>by rw[e];exact h4 k k1
 have hle':aX.le (fun b=>if kJ zn (zn' x) b then none else ρ' b) ρ':=fun b L hL=>by
  simp only at hL
  split at hL
  ·cases hL
  ·exact hL
 refine⟨fun b=>if kJ zn (zn' x) b then none else ρ' b,v',e1,?_,⟨fun b o hb=>?_,fun i j oi oj Li Lj hi hj hij how hLi hLj=>g2.inj i j oi oj Li Lj (hsub _ _ hi) (hsub _ _ hj) hij how (hle' _ _ hLi) (hle' _ _ hLj)⟩,⟨⟨g3.core.os,g3.core.tape,g3.core.output,g3.core.size,g3.core.same,fun b o L hb ho hL=>g3.core.own b o L (hsub _ _ hb) ho (hle' _ _ hL),fun b o L hb hL=>g3.core.any b o L (hsub _ _ hb) (hle' _ _ hL)⟩,fun b L hL=>?_,fun b hb _=>?_⟩⟩
 ·have:=g1.plain hv
  subst this
  exact VR.aQ hv
 ·obtain⟨L,y,k1,k2,k3⟩:=g2.obj b o (hsub b o hb)
  obtain⟨k,e,hk,hzk⟩:=hfr b o hb
  have hnot: ∀k,k<zn-> ¬kJ zn (zn' x) (256*k+510):=fun k hk ⟨j,e,j1,_⟩=>by omega
  refine⟨L,y,(if_neg (by rw[e];exact hnot k hk)).trans k1,k2,?_⟩
  have:=(hz k o hzk).2 (fun b=>if∃j,j<zn/\b=256*j+510 then some b else none) fun j hj=>by rw[if_pos ⟨j,hj,rfl⟩]
  refine(oG this k3).mono fun c M hM=>?_
  simp only[dY] at hM
  by_cases hc: ∃j,j<zn/\c=256*j+510
  ·rw[if_pos hc] at hM
   obtain⟨j,hj,e⟩:=hc
   exact(if_neg (by rw[e];exact hnot j hj)).trans hM
  ·rw[if_neg hc] at hM;cases hM
 ·by_cases hn:kJ zn (zn' x) b
  ·rw[hno b hn] at hL;cases hL
  ·exact(if_neg hn).trans (g3.ext _ _ hL)
 ·by_cases hn:kJ zn (zn' x) b
  ·exact(if_pos hn).trans (hno b hn).symm
  ·exact(if_neg hn).trans (g3.ve b hb hn)
def Kf(x y:ae):Bool:=decide (x.fz1=y.fz1) && (decide (x.aB=y.aB) && (decide (x.aK=y.aK) && (x.sf==y.sf)))
theorem K8(i j:Nat)(x y:ae):Ai prog .neq 125 (.tmp i) (.tmp j) (.agg ⟨x.row⟩) (.agg ⟨y.row⟩) (.bool (!Kf x y)):=by
 unfold Ai
 rw[prun_bind]
 have h1:prun prog (eqGuard .neq 125 (.tmp i) (.tmp j) (.agg ⟨x.row⟩) (.agg ⟨y.row⟩))=some ():=by kernel_rfl
 rw[h1,Option.bind_some]
 show prun _ (Op.equal _ _ _>>=fun b=>pure (Value.bool (!b)))=_
 rw[prun_bind,Kc]
 rfl
theorem nW{x y:ae}:Kf x y=true↔x=y:=by
 obtain⟨a,b,c,d⟩:=x
 obtain⟨a',b',c',d'⟩:=y
 unfold Kf
 simp
instance:DecidableEq ae:=fun x y=>decidable_of_iff _ nW
section
variable{z:T aa}{zn:Nat}
theorem NG(hz:aw z zn)(l C:List ae)(cp k:Nat)(hL:bP z 4 (l.map ae.row))(hk:z.get k=some (RF (C.map ae.row).flatten C.length))(hlen:C.length=l.length)(hll:l.length<=10000)(b:Bool)(hb:b=decide (C=l)):
 aj prog (ah (ag f83) 0) 0 43 (DE k C.length l.length cp 0) [] 0 z zn (Al.R (Vs z zn k C.length l.length cp b).l):=by
 refine ax hD (c7 T.leaf) (α:=Nat) 0 43 0 (fun i=>i<=l.length/\ ∀j,j<i->C[j]? =l[j]?) (fun i=>DE k C.length l.length cp i) (fun _=>[]) (fun _=>z) (fun _=>zn) (fun i=>l.length - i) _ (fun i hI=>?_) 0 ⟨Nat.zero_le _,fun j hj=>absurd hj (Nat.not_lt_zero _)⟩
 obtain⟨hi,hs⟩:=hI
 by_cases hlt:i<l.length
 ·obtain⟨x,hx⟩:=dm hlt
  obtain⟨y,hy⟩:=dm (l:=C) (i:=i) (by omega)
  have hc:decide ((i:Int)<(C.length:Int))=true:=by simp;omega
  have hltC:i<C.length:=by omega
  obtain⟨el,hel⟩:=hL.az (i:=i) (by simp;omega)
  have r1:ai prog (bk el (l.map ae.row).flatten) 125 (0+i*4)=some (.agg ⟨x.row⟩):=bG (r:=x.row) (sz:=4) underlying125 rfl rfl (aO (row:=ae.row) (sz:=4) l fun _=>rfl) (by rw[List.getElem?_map,hx];rfl)
  have r2:ai prog ⟨(C.map ae.row).flatten,C.length*4,4,125,false,false,0,true⟩ 125 (0+i*4)=some (.agg ⟨y.row⟩):=gJ (rows:=C.map ae.row) rfl (r:=y.row) (sz:=4) underlying125 rfl rfl (aO (row:=ae.row) (sz:=4) C fun _=>rfl) (by rw[List.getElem?_map,hy];rfl)
  refine t100 (ic0 z zn k C.length l.length cp i (bk el (l.map ae.row).flatten) ⟨(C.map ae.row).flatten,C.length*4,4,125,false,false,0,true⟩ x y (!Kf y x) (au _ _ _ _ _ _ _ _ _) ⟨fun _=>?_,nC1 hc⟩)
  (repeat' first|(with_reducible first|exact rfl|assumption|apply And.intro|exact K8 _ _ _ _|exact bH (by omega))|intro hq)
  ·refine bh ?_
   have hne: ¬y=x:=fun e=>by rw[nW.2 e] at hq;cases hq
   rw[hb];simp
   intro e;subst e;rw[hx] at hy;cases hy;exact hne rfl
  ·have he:y=x:=nW.1 (by simpa using hq)
   subst he
   exact⟨i+1,rfl,rfl,rfl,rfl,rfl,⟨by omega,fun j hj=>by
    by_cases e:j=i
    ·subst e;rw[hx,hy]
    ·exact hs j (by omega)⟩,by show l.length - (i+1)<l.length - i;omega⟩
 ·have hil:i=l.length:=by omega
  have hc:decide ((i:Int)<(C.length:Int))=false:=by simp;omega
  refine t100 (ic0 z zn k C.length l.length cp i ⟨[],0,0,0,true,true,0,true⟩ ⟨[],0,0,0,true,true,0,true⟩ ⟨0,0,0,true⟩ ⟨0,0,0,true⟩ true (au _ _ _ _ _ _ _ _ _) ⟨nC1 hc,fun _=>?_⟩)
  (repeat' first|(with_reducible first|exact rfl|assumption|apply And.intro))
  refine c8 (bh ?_)
  have:C=l:=by
   refine List.ext_getElem? fun j=>?_
   by_cases hj:j<i
   ·exact hs j hj
   ·rw[List.getElem?_eq_none (by omega),List.getElem?_eq_none (by omega)]
  rw[hb];simp[this]
end
theorem QE{x y:ae}(h:(y.fz1==x.fz1)=false):cf x y=false:=by
 unfold cf
 have: ¬y.fz1=x.fz1:=by simpa using h
 rw[decide_eq_false this];rfl
theorem QD{x y:ae}(h:(y.aB==x.aB)=false):cf x y=false:=by
 unfold cf
 have: ¬y.aB=x.aB:=by simpa using h
 rw[decide_eq_false this];simp
theorem QC{x y:ae}(h:y.sf=true)(h2:x.sf=false):cf x y=false:=by
 unfold cf
 rw[h,h2];simp
theorem QB{x y:ae}(h:y.sf=false)(h2:x.sf=true):cf x y=false:=by
 unfold cf
 rw[h,h2];simp
theorem Pj{x y:ae}(h:(y.fz1==x.fz1)=true)(h2:(y.aB==x.aB)=true)(h3:y.sf=x.sf):cf x y=true:=by
 unfold cf
 rw[decide_eq_true (by simpa using h),decide_eq_true (by simpa using h2),h3];simp
section
variable{z:T aa}{zn:Nat}
theorem JA(hz:aw z zn)(hg:fq prog z gP)(N:aq)(l:List ae)(hN:N.np=l.length)(hnet: ∀σ:bq,aD (ay σ []) (N.cd N.p1)=some (N.cd N.p1))(hL:bP z 4 (l.map ae.row))(i:Nat)(hi8:i<=10000)(x:ae)(hx:l[i]? =some x):
 aj prog (ah (ah (ag f75) 0) 0) 2 111 (zM i 0) [(0,N.cd N.p1),(1,zy x)] 2 z zn (Al.R (Rp z zn N i x ((l.take i).any (cf x))).l):=by
 have hi:i<l.length:=(List.getElem?_eq_some_iff.1 hx).1
 refine ax hD hg (α:=Nat) 2 111 2 (fun k=>k<=i/\(l.take k).any (cf x)=false) (fun k=>zM i k) (fun k=>[(0,N.cd N.p1),(1,zy x)]) (fun _=>z) (fun _=>zn) (fun k=>i - k) _ (fun k hI=>?_) 0 ⟨Nat.zero_le _,by simp⟩
 obtain⟨hk,hs⟩:=hI
 by_cases hlt:k<i
 ·obtain⟨y,hy⟩:=dm (l:=l) (i:=k) (by omega)
  have hc:decide ((k:Int)<(i:Int))=true:=by simp;omega
  have hkn:k<N.np:=by omega
  obtain⟨el,hel⟩:=hL.az (i:=k) (by simp;omega)
  have r0:ai prog (bk el (l.map ae.row).flatten) 125 (0+k*4)=some (.agg ⟨y.row⟩):=bG (r:=y.row) (sz:=4) underlying125 rfl rfl (aO (row:=ae.row) (sz:=4) l fun _=>rfl) (by rw[List.getElem?_map,hy];rfl)
  have nx:cf x y=false->au (fun k=>k<=i/\(l.take k).any (cf x)=false) (fun k=>zM i k) (fun k=>[(0,N.cd N.p1),(1,zy x)]) 2 (fun _=>z) (fun _=>zn) (fun k=>i - k) (Al.R (Rp z zn N i x ((l.take i).any (cf x))).l) k .normal (zM i (k+1)) [(0,N.cd N.p1),(1,zy x)] 2 z zn:=fun h=>
   ⟨k+1,rfl,rfl,rfl,rfl,rfl,⟨hlt,by rw[ku hy,hs,h];rfl⟩,by show i - (k+1)<i - k;omega⟩
  have ret:cf x y=true->au (fun k=>k<=i/\(l.take k).any (cf x)=false) (fun k=>zM i k) (fun k=>[(0,N.cd N.p1),(1,zy x)]) 2 (fun _=>z) (fun _=>zn) (fun k=>i - k) (Al.R (Rp z zn N i x ((l.take i).any (cf x))).l) k .ret [(2,iv i),(3,I 6)] [] 2 z zn:=fun h=>by
   refine bh ?_
   rw[List.any_eq_true]
   exact⟨y,List.mem_of_getElem? (i:=k) (by rw[List.getElem?_take,if_pos hlt];exact hy),h⟩
  refine t100 (pp1 z zn i k N (bk el (l.map ae.row).flatten) x y (au _ _ _ _ _ _ _ _ _) ⟨fun _=>?_,nC1 hc⟩)
  (repeat' first|(with_reducible first|exact rfl|assumption|apply And.intro|exact bH (by omega))|exact hnet _|intro hq)
  all_goals first
   |exact nx (QE (by with_reducible assumption))
   |exact nx (QD (by with_reducible assumption))
   |exact ret (Pj (by with_reducible assumption) (by with_reducible assumption) (Eq.trans (by with_reducible assumption:y.sf=true) (Eq.symm (by with_reducible assumption:x.sf=true))))
   |exact ret (Pj (by with_reducible assumption) (by with_reducible assumption) (Eq.trans (by with_reducible assumption:y.sf=false) (Eq.symm (by with_reducible assumption:x.sf=false))))
   |exact nx (QC (by with_reducible assumption) (by with_reducible assumption))
   |exact nx (QB (by with_reducible assumption) (by with_reducible assumption))
 ·have hki:k=i:=by omega
  subst hki
  have hc:decide ((k:Int)<(k:Int))=false:=by simp
  refine t100 (pp1 z zn k k N ⟨[],0,0,0,true,true,0,true⟩ x ⟨0,0,0,true⟩ (au _ _ _ _ _ _ _ _ _) ⟨nC1 hc,fun _=>?_⟩)
  (repeat' first|(with_reducible first|exact rfl|assumption|apply And.intro)|exact hnet _)
  exact c8 (bh hs)
theorem Jz(hz:aw z zn)(hg:fq prog z gP)(N:aq)(l C:List ae)(hN:N.np=l.length)(hlen:C.length=l.length)(hll:l.length<=10000)(hnet: ∀σ:bq,aD (ay σ []) (N.cd N.p1)=some (N.cd N.p1))(hL:bP z 4 (l.map ae.row))(s:rY)(hk:s.k=C.length)(hbl:s.bl=dA C)(hsz:s.z=z)(hszn:s.zn=zn)(b:Bool)(hb:b=decide (C=l)):
 aj prog (ah (ag f75) 2) 2 111 (tN s.k 0) [(0,N.cd N.p1),(1, .az s.bl)] 2 z zn (Al.R (Ro N N.p1 b s).l):=by
 obtain⟨k,bl,z',zn'⟩:=s
 simp only at hk hbl hsz hszn
 subst hk hbl hsz hszn
 have hox:(dA C).cells=(C.map ae.row).flatten:=by
  unfold dA
  split
  ·rename_i e;subst e;rfl
  ·rfl
 refine ax hD hg (α:=Nat) 2 111 2 (fun i=>i<=l.length/\ ∀j,j<i->C[j]? =l[j]?) (fun i=>tN C.length i) (fun _=>[(0,N.cd N.p1),(1, .az (dA C))]) (fun _=>z') (fun _=>zn') (fun i=>l.length - i) _ (fun i hI=>?_) 0 ⟨Nat.zero_le _,fun j hj=>absurd hj (Nat.not_lt_zero _)⟩
 obtain⟨hi,hs⟩:=hI
 by_cases hlt:i<l.length
 ·obtain⟨x,hx⟩:=dm hlt
  obtain⟨y,hy⟩:=dm (l:=C) (i:=i) (by omega)
  have hc:decide ((i:Int)<(C.length:Int))=true:=by simp;omega
  have hltC:i<C.length:=by omega
  have hltN:i<N.np:=by omega
  obtain⟨el,hel⟩:=hL.az (i:=i) (by simp;omega)
  have r1:ai prog (bk el (l.map ae.row).flatten) 125 (0+i*4)=some (.agg ⟨x.row⟩):=bG (r:=x.row) (sz:=4) underlying125 rfl rfl (aO (row:=ae.row) (sz:=4) l fun _=>rfl) (by rw[List.getElem?_map,hx];rfl)
  have r2:ai prog (dA C) 125 (0+i*4)=some (.agg ⟨y.row⟩):=gJ (rows:=C.map ae.row) hox (r:=y.row) (sz:=4) underlying125 rfl rfl (aO (row:=ae.row) (sz:=4) C fun _=>rfl) (by rw[List.getElem?_map,hy];rfl)
  refine t100 (pp2 z' zn' i C.length N (bk el (l.map ae.row).flatten) (dA C) x y (!Kf y x) (au _ _ _ _ _ _ _ _ _) ⟨fun _=>?_,nC1 hc⟩)
  (repeat' first|(with_reducible first|exact rfl|assumption|apply And.intro|exact K8 _ _ _ _|exact fJ _|exact bH (by omega))|exact hnet _|intro hq)
  ·refine bh ?_
   have hne: ¬y=x:=fun e=>by rw[nW.2 e] at hq;cases hq
   rw[hb];simp
   intro e;subst e;rw[hx] at hy;cases hy;exact hne rfl
  ·have he:y=x:=nW.1 (by simpa using hq)
   subst he
   exact⟨i+1,rfl,rfl,rfl,rfl,rfl,⟨by omega,fun j hj=>by
    by_cases e:j=i
    ·subst e;rw[hx,hy]
    ·exact hs j (by omega)⟩,by show l.length - (i+1)<l.length - i;omega⟩
 ·have hil:i=l.length:=by omega
  have hc:decide ((i:Int)<(C.length:Int))=false:=by simp;omega
  refine t100 (pp2 z' zn' i C.length N ⟨[],0,0,0,true,true,0,true⟩ (dA C) ⟨0,0,0,true⟩ ⟨0,0,0,true⟩ true (au _ _ _ _ _ _ _ _ _) ⟨nC1 hc,fun _=>?_⟩)
  (repeat' first|(with_reducible first|exact rfl|assumption|apply And.intro))
  refine c8 (bh ?_)
  have:C=l:=by
   refine List.ext_getElem? fun j=>?_
   by_cases hj:j<i
   ·exact hs j hj
   ·rw[List.getElem?_eq_none (by omega),List.getElem?_eq_none (by omega)]
  rw[hb];simp[this]
end
theorem Fq{a m:Int}(h:(!(decide (0<=a) && decide (a<=m - 1)))=true):a<0\/m<=a:=by
 simp at h;omega
theorem B6{a m:Int}(h:(!(decide (0<=a) && decide (a<=m - 1)))=false): ¬a<0/\ ¬m<=a:=by
 simp at h;omega
theorem JU{a m k:Int}(h:(!(decide (k<=a) && decide (a<=m)))=true):a<k\/m<a:=by
 simp at h;omega
theorem yr{a m k:Int}(h:(!(decide (k<=a) && decide (a<=m)))=false): ¬(a<k\/m<a):=by
 simp at h;omega
section
variable{z:T aa}{zn:Nat}
theorem JB(hz:aw z zn)(hg:fq prog z gP)(N:aq)(hn:N.ns<=64)(l:List ae)(hN:N.np=l.length)(hnet: ∀σ:bq,aD (ay σ []) (N.cd N.p1)=some (N.cd N.p1))(hL:bP z 4 (l.map ae.row))(r:Int × Int)(hr:scan (cR N.ns l) l.length 0=r):
 aj prog (ah (ag f75) 0) 1 111 (ng 0) [(0,N.cd N.p1)] 1 z zn (Al.R (Nk z zn N N.p1 r.1 r.2).l):=by
 refine ax hD hg (α:=Nat) 1 111 1 (fun i=>i<=l.length/\scan (cR N.ns l) (l.length - i) i=r/\ ∀j,j<i->cR N.ns l j=none) (fun i=>ng i) (fun i=>[(0,N.cd N.p1)]) (fun _=>z) (fun _=>zn) (fun i=>l.length - i) _ (fun i hI=>?_) 0 ⟨Nat.zero_le _,hr,fun j hj=>absurd hj (Nat.not_lt_zero _)⟩
 obtain⟨h1,h2,h3⟩:=hI
 have hi8:=EY (n:=N.ns) (by omega) h1 h3
 by_cases hi:i<l.length
 ·obtain⟨x,hx⟩:=dm hi
  obtain⟨el,hel⟩:=hL.az (i:=i) (by simp;omega)
  have hrow:ai prog (bk el (l.map ae.row).flatten) 125 (0+i*4)=some (.agg ⟨x.row⟩):=bG (r:=x.row) (sz:=4) underlying125 rfl rfl (aO (row:=ae.row) (sz:=4) l fun _=>rfl) (by rw[List.getElem?_map,hx];rfl)
  have hlp:=JA hz hg N l hN hnet hL i (by omega) x hx
  have hlk:fZ N.ns l i x=if x.fz1<0\/(N.ns:Int)<=x.fz1\/x.aB<0\/(N.ns:Int)<=x.aB\/x.fz1=x.aB then 9 else if x.aK<1\/14400<x.aK then 2 else if (l.take i).any (cf x)=true then 6 else 0:=rfl
  have ret: ∀e:Int,fZ N.ns l i x=e->e≠0->au (fun i=>i<=l.length/\scan (cR N.ns l) (l.length - i) i=r/\ ∀j,j<i->cR N.ns l j=none) (fun i=>ng i) (fun i=>[(0,N.cd N.p1)]) 1 (fun _=>z) (fun _=>zn) (fun i=>l.length - i) (Al.R (Nk z zn N N.p1 r.1 r.2).l) i .ret [(2,iv i),(3,zv e)] [] 1 z zn:=fun e h h0=>by
   have hb:cR N.ns l i=some e:=by unfold cR;rw[hx];simp only;rw[h,if_neg h0]
   have:r=((i:Int),e):=by rw[←h2,cZ hi hb]
   rw[this]
   exact bh h0
  have kF:fZ N.ns l i x=0->au (fun i=>i<=l.length/\scan (cR N.ns l) (l.length - i) i=r/\ ∀j,j<i->cR N.ns l j=none) (fun i=>ng i) (fun i=>[(0,N.cd N.p1)]) 1 (fun _=>z) (fun _=>zn) (fun i=>l.length - i) (Al.R (Nk z zn N N.p1 r.1 r.2).l) i .normal (ng (i+1)) [(0,N.cd N.p1)] 1 z zn:=fun h0=>by
   have hb:cR N.ns l i=none:=by unfold cR;rw[hx];simp only;rw[if_pos h0]
   exact⟨i+1,rfl,rfl,rfl,rfl,rfl,⟨hi,by rw[←cI hi hb];exact h2,fun j hj=>by
    by_cases e:j=i
    ·subst e;exact hb
    ·exact h3 j (by omega)⟩,by show l.length - (i+1)<l.length - i;omega⟩
  have e9a:(!(decide (0<=x.fz1) && decide (x.fz1<=(N.ns:Int) - 1)))=true->fZ N.ns l i x=9:=fun h=>by
   have:=Fq h
   rw[hlk,if_pos (by omega)]
  have e9b:(!(decide (0<=x.aB) && decide (x.aB<=(N.ns:Int) - 1)))=true->fZ N.ns l i x=9:=fun h=>by
   have:=Fq h
   rw[hlk,if_pos (by omega)]
  have e9c:(x.fz1==x.aB)=true->fZ N.ns l i x=9:=fun h=>by
   have:x.fz1=x.aB:=by simpa using h
   rw[hlk,if_pos (by omega)]
  have no9:(!(decide (0<=x.fz1) && decide (x.fz1<=(N.ns:Int) - 1)))=false->(!(decide (0<=x.aB) && decide (x.aB<=(N.ns:Int) - 1)))=false->(x.fz1==x.aB)=false-> ¬(x.fz1<0\/(N.ns:Int)<=x.fz1\/x.aB<0\/(N.ns:Int)<=x.aB\/x.fz1=x.aB):=fun h1 h2 h3=>by
   have k1:=B6 h1
   have k2:=B6 h2
   have k3: ¬x.fz1=x.aB:=by simpa using h3
   omega
  have e2:(!(decide (0<=x.fz1) && decide (x.fz1<=(N.ns:Int) - 1)))=false->(!(decide (0<=x.aB) && decide (x.aB<=(N.ns:Int) - 1)))=false->(x.fz1==x.aB)=false->(!(decide (1<=x.aK) && decide (x.aK<=14400)))=true->fZ N.ns l i x=2:=fun a b c d=>by
   rw[hlk,if_neg (no9 a b c),if_pos (JU d)]
  have e6:(!(decide (0<=x.fz1) && decide (x.fz1<=(N.ns:Int) - 1)))=false->(!(decide (0<=x.aB) && decide (x.aB<=(N.ns:Int) - 1)))=false->(x.fz1==x.aB)=false->(!(decide (1<=x.aK) && decide (x.aK<=14400)))=false->(l.take i).any (cf x)=true->fZ N.ns l i x=6:=fun a b c d e=>by
   rw[hlk,if_neg (no9 a b c),if_neg (yr d),if_pos e]
  have e0:(!(decide (0<=x.fz1) && decide (x.fz1<=(N.ns:Int) - 1)))=false->(!(decide (0<=x.aB) && decide (x.aB<=(N.ns:Int) - 1)))=false->(x.fz1==x.aB)=false->(!(decide (1<=x.aK) && decide (x.aK<=14400)))=false->(l.take i).any (cf x)=false->fZ N.ns l i x=0:=fun a b c d e=>by
   rw[hlk,if_neg (no9 a b c),if_neg (yr d),if_neg (by rw[e];decide)]
  have hc:decide ((i:Int)<(N.np:Int))=true:=by simp;omega
  have hiN:i<N.np:=by omega
  have hwr:Value.int .i64 (IntKind.i64.wrap ((N.ns:Int) - 1))=Value.int .i64 ((N.ns:Int) - 1):=gV (by omega) (by omega)
  refine t100 (pp0 z zn i N (bk el (l.map ae.row).flatten) x ((l.take i).any (cf x)) (au _ _ _ _ _ _ _ _ _) ⟨fun _=>?_,nC1 hc⟩)
  (repeat' first|(with_reducible first|exact rfl|assumption|apply And.intro|exact bH (by omega))|exact(rfl:gP _ _=_)|exact hnet _|exact hlp|intro hq)
  all_goals first
   |exact ret 9 (e9a (by with_reducible assumption)) (by decide)
   |exact ret 9 (e9b (by with_reducible assumption)) (by decide)
   |exact ret 9 (e9c (by with_reducible assumption)) (by decide)
   |exact ret 2 (e2 (by with_reducible assumption) (by with_reducible assumption) (by with_reducible assumption) (by with_reducible assumption)) (by decide)
   |exact ret 6 (e6 (by with_reducible assumption) (by with_reducible assumption) (by with_reducible assumption) (by with_reducible assumption) (by with_reducible assumption)) (by decide)
   |exact kF (e0 (by with_reducible assumption) (by with_reducible assumption) (by with_reducible assumption) (by with_reducible assumption) (by with_reducible assumption))
 ·have hc:decide ((i:Int)<(N.np:Int))=false:=by simp;omega
  rw[dN (by omega)] at h2
  refine t100 (pp0 z zn i N ⟨[],0,0,0,true,true,0,true⟩ ⟨0,0,0,true⟩ true (au _ _ _ _ _ _ _ _ _) ⟨nC1 hc,fun _=>?_⟩)
  (repeat' first|(with_reducible first|exact rfl|assumption|apply And.intro)|exact hnet _)
  refine c8 (bh ?_)
  rw[←h2];exact⟨rfl,rfl⟩
end
theorem sI{P:Program}{z:T aa}{zn f:Nat}{args:List Value}{aU:bV}{nx ff:Nat}{α β:Type}{φ:α->Prop}{v:α->Value}{zo:α->bV}{zz:α->T aa}{zn':α->Nat}{ψ:β->Prop}{u:β->Value}{yo:β->bV}{yy:β->T aa}{yn:β->Nat}(h:bb P z zn f args aU nx ff φ v zo zz zn')
 (hm: ∀x,φ x-> ∃y,ψ y/\v x=u y/\zo x=yo y/\zz x=yy y/\zn' x=yn y) (hb: ∀y,ψ y->wV zn (yo y) (yy y) (yn y)):bb P z zn f args aU nx ff ψ u yo yy yn:=
 ⟨h.1,h.2.1,h.2.2.1,hb,fun ρ w args' n h1 h2 h3 h4=>(h.2.2.2.2 ρ w args' n h1 h2 h3 h4).mono fun e w' ⟨x,hx,hg⟩=>by
   obtain⟨y,hy,e1,e2,e3,e4⟩:=hm x hx
   exact⟨y,hy,by rw[←e1,←e2,←e3,←e4];exact hg⟩⟩
def AR(z:T aa)(zn:Nat)(t:T aa × Nat):Prop:=aw t.1 t.2/\zn<=t.2/\ ∀k,k<zn->t.1.get k=z.get k
theorem AR.bN{z:T aa}{zn:Nat}{t:T aa × Nat}(h:AR z zn t):aw t.1 t.2:=h.1
theorem nif(n:Nat):(if (0:Int)>(n:Int) then 0 else (n:Int))=n:=by rw[if_neg (by omega)]
section
variable{z:T aa}{zn:Nat}
theorem BT(hz:aw z zn)(v:Value)(hv: ∀σ,aP (ay σ []) v=some v):aj prog (ah (ag f83) 0) 0 43 (po v) [] 0 z zn (Al.R (Jn z zn v).l):=by
 refine ax hD (c7 T.leaf) (α:=Unit) 0 43 0 (fun _=>True) (fun _=>po v) (fun _=>[]) (fun _=>z) (fun _=>zn) (fun _=>0) _ (fun _ _=>?_) () trivial
 refine t100 (aaX z zn v (au _ _ _ _ _ _ _ _ _) ?_)
 (repeat' first|(with_reducible first|exact rfl|assumption|apply And.intro))
 exact bh trivial
theorem Hh(hz:aw z zn)(n:Nat)(hn:n<=64)(l:List ae)(hl:ot n l)(hll:l.length<=10000)(cp:Nat)(hL:bP z 4 (l.map ae.row))(C:List ae)(hC: ∀d f,DF n l d f->eV d f n n=C)(hS:lI C)
 (hso:A1 z zn 124 [tb 4 l.length cp,iv n] [] 0 0 (.tuple ⟨[zv 0,zv 0]⟩) []):
 bb prog z zn 83 [tb 4 l.length cp,iv n] [] 0 0 (AR z zn) (fun _=> .bool (decide (C=l))) (fun _=>[]) (fun t=>t.1) (fun t=>t.2):=by
 have hc:=Wu hz n hn l hl hll cp hL C hC hS
 have hgt:decide ((n:Int)>64)=false:=by simp;omega
 by_cases hnil:C=[]
 ·have hcz:bb prog z zn 125 [tb 4 l.length cp, .int .i64 (if 0>(n:Int) then 0 else (n:Int))] [] 0 0 (AR z zn) (fun _=>an) (fun _=>[]) (fun t=>t.1) (fun t=>t.2):=by
   rw[nif]
   refine sI hc (fun s hs=>⟨(s.z,s.zn),⟨hs.bN,hs.le,hs.gK⟩,?_,rfl,rfl,rfl⟩) fun t ht=>⟨fun b o hb=>by simp at hb,ht.2.1,ht.1⟩
   rcases hs.val with ⟨_,e1,e2⟩|⟨h,_⟩
   ·obtain⟨oa,k,z,zn⟩:=s
    simp only at e1 e2;subst e1 e2;rfl
   ·exact absurd hnil h
  have lp: ∀t,AR z zn t->aj prog (ah (ag f83) 0) 0 43 (po (tb 4 l.length cp)) [] 0 t.1 t.2 (Al.R (Jn t.1 t.2 (tb 4 l.length cp)).l):=fun t ht=>BT ht.1 _ fun σ=>lq σ _ _ _
  refine dV (c7 T.leaf) (fn:=f83) (by kernel_rfl) (by kernel_rfl) hz ⟨by decide,by decide⟩ (fun t ht=>⟨rfl,ht.2.1,ht.1⟩) (N:=100) ?_
  refine icz z zn n l.length cp (AR z zn) _ ⟨nC1 hgt,fun _=>?_⟩
  (repeat' first|(with_reducible first|exact rfl|assumption|apply And.intro|exact AR.bN ‹_›)|exact lp _ (by with_reducible assumption)|intro hq)
  ·rename_i t ht
   refine q2 t ht rfl ?_ rfl rfl rfl
   have: ¬C=l:=fun e=>by
    rw[←e,hnil] at hq;simp at hq
   rw[decide_eq_false this]
  ·rename_i t ht h0 _
   refine q2 t ht rfl ?_ rfl rfl rfl
   have:C=l:=by
    have:l.length=0:=by simp at h0;omega
    rw[hnil];exact(List.eq_nil_of_length_eq_zero this).symm
   rw[decide_eq_true this]
 ·have hct:bb prog z zn 125 [tb 4 l.length cp, .int .i64 (if 0>(n:Int) then 0 else (n:Int))] [] 0 0 (fun t:Nat × Nat × T aa × Nat=>AR z zn (t.2.2.1,t.2.2.2)/\t.2.1=C.length/\t.2.2.1.get t.1=some (RF (C.map ae.row).flatten C.length)) (fun s=>tb s.1 s.2.1 s.2.1) (fun _=>[]) (fun t=>t.2.2.1) (fun t=>t.2.2.2):=by
   rw[nif]
   refine sI hc (fun s hs=>?_) fun t ht=>⟨fun b o hb=>by simp at hb,ht.1.2.1,ht.1.1⟩
   rcases hs.val with ⟨h,_⟩|⟨_,kk,_,_,e1,e2,e3⟩
   ·exact absurd h hnil
   ·refine⟨(kk,C.length,s.z,s.zn),⟨⟨hs.bN,hs.le,hs.gK⟩,rfl,e3⟩,?_,rfl,rfl,rfl⟩
    obtain⟨oa,k,z,zn⟩:=s
    simp only at e1 e2;subst e1 e2;rfl
  have lp: ∀t:Nat × Nat × T aa × Nat,(AR z zn (t.2.2.1,t.2.2.2)/\t.2.1=C.length/\t.2.2.1.get t.1=some (RF (C.map ae.row).flatten C.length))->((t.2.1:Int) !=(l.length:Int))=false->aj prog (ah (ag f83) 0) 0 43 (DE t.1 t.2.1 l.length cp 0) [] 0 t.2.2.1 t.2.2.2 (Al.R (Vs t.2.2.1 t.2.2.2 t.1 t.2.1 l.length cp (decide (C=l))).l):=fun t ⟨ht,h1,h2⟩ h3=>by
   rw[h1] at h3 ⊢
   exact NG ht.1 l C cp t.1 (dw hL hz ht.2.2) h2 (by simp at h3;omega) hll _ rfl
  refine dV (c7 T.leaf) (fn:=f83) (by kernel_rfl) (by kernel_rfl) hz ⟨by decide,by decide⟩ (fun t ht=>⟨rfl,ht.2.1,ht.1⟩) (N:=100) ?_
  refine ict z zn n l.length cp (decide (C=l)) (fun t:Nat × Nat × T aa × Nat=>AR z zn (t.2.2.1,t.2.2.2)/\t.2.1=C.length/\t.2.2.1.get t.1=some (RF (C.map ae.row).flatten C.length)) _ ⟨nC1 hgt,fun _=>?_⟩
  (repeat' first|(with_reducible first|exact rfl|assumption|apply And.intro|exact AR.bN (And.left ‹_›))|exact lp _ (by with_reducible assumption) (by with_reducible assumption)|intro hq)
  ·rename_i t ht
   refine q2 (t.2.2.1,t.2.2.2) ht.1 rfl ?_ rfl rfl rfl
   have: ¬C=l:=fun e=>by
    rw[ht.2.1,e] at hq;simp at hq
   rw[decide_eq_false this]
  ·rename_i t ht _ _
   refine q2 (t.2.2.1,t.2.2.2) ht.1 rfl ?_ rfl rfl rfl
   rw[hq]
  ·rename_i t ht _ _
   refine q2 (t.2.2.1,t.2.2.2) ht.1 rfl ?_ rfl rfl rfl
   rw[hq]
theorem KW(hz:aw z zn)(n:Nat)(hn:n<=64)(l:List ae)(hl:ot n l)(hll:l.length<=10000)(cp:Nat)(hL:bP z 4 (l.map ae.row))(C:List ae)(hC: ∀d f,DF n l d f->eV d f n n=C)(hS:lI C)
 (hso:A1 z zn 124 [tb 4 l.length cp,iv n] [] 0 0 (.tuple ⟨[zv 0,zv 0]⟩) []):
 A1 z zn 83 [tb 4 l.length cp,iv n] [] 0 0 (.bool (decide (C=l))) []:=
 eL (Hh hz n hn l hl hll cp hL C hC hS hso) rfl fun t ht=>ht.2.2
theorem Hg(hz:aw z zn)(n:Nat)(hn:n<=64)(hC: ∀d f,DF n [] d f->eV d f n n=[])(hS:lI [])
 (hso:A1 z zn 124 [an,iv n] [] 0 0 (.tuple ⟨[zv 0,zv 0]⟩) []):
 A1 z zn 83 [an,iv n] [] 0 0 (.bool true) []:=by
 have hc:=Sx hz n hn [] hC hS
 have hgt:decide ((n:Int)>64)=false:=by simp;omega
 have hcz:bb prog z zn 125 [an, .int .i64 (if 0>(n:Int) then 0 else (n:Int))] [] 0 0 (AR z zn) (fun _=>an) (fun _=>[]) (fun t=>t.1) (fun t=>t.2):=by
  rw[nif]
  refine sI hc (fun s hs=>⟨(s.z,s.zn),⟨hs.bN,hs.le,hs.gK⟩,?_,rfl,rfl,rfl⟩) fun t ht=>⟨fun b o hb=>by simp at hb,ht.2.1,ht.1⟩
  rcases hs.val with ⟨_,e1,e2⟩|⟨h,_⟩
  ·obtain⟨oa,k,z,zn⟩:=s
   simp only at e1 e2;subst e1 e2;rfl
  ·exact absurd rfl h
 have lp: ∀t,AR z zn t->aj prog (ah (ag f83) 0) 0 43 (po an) [] 0 t.1 t.2 (Al.R (Jn t.1 t.2 an).l):=fun t ht=>BT ht.1 _ fun σ=>rfl
 refine eL (φ:=AR z zn) (zz:=fun t=>t.1) (zn':=fun t=>t.2) ?_ rfl fun t ht=>ht.2.2
 refine dV (c7 T.leaf) (fn:=f83) (by kernel_rfl) (by kernel_rfl) hz ⟨by decide,by decide⟩ (fun t ht=>⟨rfl,ht.2.1,ht.1⟩) (N:=100) ?_
 refine icn z zn n (AR z zn) _ ⟨nC1 hgt,fun _=>?_⟩
 (repeat' first|(with_reducible first|exact rfl|assumption|apply And.intro|exact AR.bN ‹_›)|exact lp _ (by with_reducible assumption)|intro hq)
 rename_i t ht _
 exact q2 t ht rfl rfl rfl rfl rfl
end
theorem wD{n:Int}{l:List ae}(i:Nat):cR n l i≠some 0:=by
 unfold cR
 split
 ·split
  ·simp
  ·rename_i h;intro e;exact h (by simpa using e)
 ·simp
theorem I0{n:Nat}{l:List ae}(h:(aW n l).2=0):ot n l:=⟨fun p hp=>by
 obtain⟨i,hi⟩:=List.mem_iff_getElem?.1 hp
 have hlt:=(List.getElem?_eq_some_iff.1 hi).1
 have:=jR wD l.length 0 h i (Nat.zero_le _) (by omega)
 unfold cR at this
 rw[hi] at this
 simp only at this
 split at this
 ·rename_i h0
  unfold fZ at h0
  split at h0
  ·cases h0
  ·split at h0
   ·cases h0
   ·omega
 ·cases this⟩
theorem xf{n:Int}{l:List ae}(h:(aW n l).2=0):aW n l=(0,0):=by
 have hn:=jR wD l.length 0 h
 have: ∀(m i:Nat),(∀j,i<=j->j<i+m->cR n l j=none)->scan (cR n l) m i=(0,0):=by
  intro m
  induction m with
  |zero=>intro i _;rfl
  |succ m ih=>
   intro i hb
   have:=cI (bad:=cR n l) (n:=i+(m+1)) (i:=i) (by omega) (hb i (Nat.le_refl _) (by omega))
   rw[show i+(m+1) - i=m+1 by omega,show i+(m+1) - (i+1)=m by omega] at this
   rw[this]
   exact ih (i+1) fun j h1 h2=>hb j (by omega) (by omega)
 exact this _ _ hn
section
variable{z:T aa}{zn:Nat}
theorem Kr{n:Nat}(hn:n<=64)(l:List ae):(iu n l).length<=10000:=by
 obtain⟨M,F,h⟩:=xQ n l
 rw[←lZ h]
 have:=pI M F n n
 have h2:n*(2*n)<=64*(2*64):=Nat.mul_le_mul (by omega) (by omega)
 omega
theorem Q0{n:Nat}(hn:n<=64){l:List ae}(h:(aW n l).2=0):l.length<=10000:=by
 have hb:=jR wD l.length 0 h
 have:=EY (n:=n) (by omega) (Nat.le_refl l.length) fun j hj=>hb j (Nat.zero_le _) (by omega)
 omega
theorem KE(hz:aw z zn)(h5:5<=zn)(N:aq)(hn:N.ns<=64)(l:List ae)(hN:N.np=l.length)(hnet: ∀σ:bq,aD (ay σ []) (N.cd N.p1)=some (N.cd N.p1))(hL:bP z 4 (l.map ae.row))(p:Int × Int)
 (hp:p=if (aW N.ns l).2≠0 then aW N.ns l else if iu N.ns l=l then (0,0) else (0,18)):
 A1 z zn 75 [.agg ⟨N.iJ N.p1⟩] [] 0 0 (.tuple ⟨[zv p.1,zv p.2]⟩) []:=by
 have h0:=JB hz (gd z) N hn l hN hnet hL (aW N.ns l) rfl
 have hcl:(aW N.ns l).1=0/\(aW N.ns l).2=0->bb prog z zn 122 [tb 4 N.np N.pc,iv N.ns] [] 0 1 (C5 z zn (iu N.ns l)) (fun s=>bd 0 s.k s.k) (fun s=>[(0, .az s.bl)]) (fun s=>s.z) (fun s=>s.zn):=fun h=>by
  rw[hN]
  exact Hb hz h5 N.ns hn l (I0 h.2) (Q0 hn h.2) N.pc hL (iu N.ns l) fun M F hm=>lZ hm
 have lp: ∀s,C5 z zn (iu N.ns l) s->((s.k:Int) !=(N.np:Int))=false->aj prog (ah (ag f75) 2) 2 111 (tN s.k 0) [(0,N.cd N.p1),(1, .az s.bl)] 2 s.z s.zn (Al.R (Ro N N.p1 (decide (iu N.ns l=l)) s).l):=fun s hs hk=>by
  have:s.k=N.np:=by simp at hk;omega
  exact Jz hs.bN (gd s.z) N l (iu N.ns l) hN (by rw[←hs.k,this,hN]) (by have:=hs.k;have:=Kr hn l;omega) hnet (dw hL hz hs.gK) s hs.k hs.bl rfl rfl _ rfl
 have rb: ∀s σ,C5 z zn (iu N.ns l) s->aD (sig σ) (.az s.bl)=some (.az s.bl):=fun s σ h=>by rw[h.bl];exact fJ _
 have rb2: ∀s σ,C5 z zn (iu N.ns l) s->aD (ay σ []) (.az s.bl)=some (.az s.bl):=fun s σ h=>by rw[h.bl];exact fJ _
 have fz: ∀s,C5 z zn (iu N.ns l) s->aw s.3 s.zn:=fun s h=>h.bN
 refine eL (φ:=AR z zn) (zz:=fun t=>t.1) (zn':=fun t=>t.2) ?_ rfl fun t ht=>ht.2.2
 refine dV (gd z) (fn:=f75) (by kernel_rfl) (by kernel_rfl) hz ⟨by decide,by decide⟩ (fun t ht=>⟨rfl,ht.2.1,ht.1⟩) (N:=100) ?_
 refine pp z zn N (decide (iu N.ns l=l)) (aW N.ns l).1 (aW N.ns l).2 (C5 z zn (iu N.ns l)) _ ?_
 (repeat' first|(with_reducible first|exact rfl|assumption|apply And.intro|exact hcl ‹_›|exact fz _ ‹_›|exact rb _ _ ‹_›|exact rb2 _ _ ‹_›)|exact h0|exact lp _ (by with_reducible assumption) (by with_reducible assumption)|exact hnet _|intro hq)
 ·refine q2 (z,zn) ⟨hz,Nat.le_refl _,fun _ _=>rfl⟩ rfl ?_ rfl rfl rfl
  rw[hp,if_pos hq]
 ·rename_i h s hs
  refine q2 (s.z,s.zn) ⟨hs.bN,hs.le,hs.gK⟩ rfl ?_ rfl rfl rfl
  have hne: ¬iu N.ns l=l:=fun e=>by
   have h1:=hs.k
   rw[e,←hN] at h1
   rw[h1] at hq;simp at hq
  rw[hp,if_neg (fun h'=>h' h.2),if_neg hne];rfl
 ·rename_i h s hs _ _
  refine q2 (s.z,s.zn) ⟨hs.bN,hs.le,hs.gK⟩ rfl ?_ rfl rfl rfl
  rw[hp,if_neg (fun h'=>h' h.2),if_neg (of_decide_eq_false hq)];rfl
 ·rename_i h s hs _ _
  refine q2 (s.z,s.zn) ⟨hs.bN,hs.le,hs.gK⟩ rfl ?_ rfl rfl rfl
  rw[hp,if_neg (fun h'=>h' h.2),if_pos (of_decide_eq_true hq)];rfl
end
theorem UU{b:Bool}{k i j L:Nat}(t:Wk (dq (fw [] b)) k i j L):False:=by
 have: ∀u v w,¬dq (fw [] b) u v w:=fun u v w h=>by simp[dq,fw] at h
 cases t with
 |nX h=>exact this _ _ _ h
 |cons h _ _=>exact this _ _ _ h
theorem EP{n:Nat}{M F:Nat->Nat->Int}(h:MF n [] M F):cu M F n n=[]:=by
 have h1: ∀m,m<=n-> ∀i,i<n->bU M F i [] m=[]:=by
  intro m
  induction m with
  |zero=>intro _ i _;rfl
  |succ m ih=>
   intro hm i hi
   rw[kN,ih (by omega) i hi]
   unfold ek
   have:=(h.1 i m hi (by omega)).1.2.1
   have hbig: ¬M i m<(mN:Int):=fun hlt=>UU (this hlt)
   have hb:(mN:Int)=1099511627776:=rfl
   rw[if_pos (.inr (by omega))]
 have h2: ∀m,m<=n->cu M F n m=[]:=by
  intro m
  induction m with
  |zero=>intro _;rfl
  |succ m ih=>
   intro hm
   rw[iT,ih (by omega)]
   exact h1 n (Nat.le_refl _) m (by omega)
 exact h2 n (Nat.le_refl _)
theorem wo(n:Nat):iu n []=[]:=by
 obtain⟨M,F,h⟩:=xQ n []
 rw[←lZ h];exact EP h
section
variable{z:T aa}{zn:Nat}
theorem G9(hz:aw z zn)(h5:5<=zn)(N:aq)(hn:N.ns<=64)(hnet: ∀σ:bq,aD (ay σ []) (N.cd an)=some (N.cd an)):
 A1 z zn 75 [.agg ⟨N.iJ an⟩] [] 0 0 (.tuple ⟨[zv 0,zv 0]⟩) []:=by
 have h0:aj prog (ah (ag f75) 0) 1 111 (ng 0) [(0,N.cd an)] 1 z zn (Al.R (Nk z zn N an 0 0).l):=by
  refine ax hD (gd z) (α:=Unit) 1 111 1 (fun _=>True) (fun _=>ng 0) (fun _=>[(0,N.cd an)]) (fun _=>z) (fun _=>zn) (fun _=>0) _ (fun _ _=>?_) () trivial
  refine t100 (aaj z zn N (au _ _ _ _ _ _ _ _ _) ?_)
  (repeat' first|(with_reducible first|exact rfl|assumption|apply And.intro)|exact hnet _)
  exact c8 (bh ⟨rfl,rfl⟩)
 have h0':aj prog (ah (ag f75) 0) 1 111 (ng 0) [(0,N.cd an)] 1 z zn (Al.R (alt ((0:Nat)≠0) (aA.mk af.ret [(2,zv 0),(3,zv 0)] [] 1 z zn) (alt ((0:Nat)=0/\(0:Nat)=0) (aA.mk (af.exit 0) [(1,ip 0)] [(0,N.cd an)] 1 z zn) Al.nil))):=by
  refine iI h0 fun o ho=>?_
  rcases ho with ⟨_,h,_⟩|⟨_,_,h⟩|h
  ·exact absurd rfl h
  ·exact c8 (h ▸ bh ⟨rfl,rfl⟩)
  ·exact h.elim
 have hcl:bb prog z zn 122 [an,iv N.ns] [] 0 1 (C5 z zn []) (fun s=>bd 0 s.k s.k) (fun s=>[(0, .az s.bl)]) (fun s=>s.z) (fun s=>s.zn):=
  Ea hz h5 N.ns hn [] fun M F hm=>EP hm
 have lp: ∀s,C5 z zn [] s->aj prog (ah (ag f75) 2) 2 111 (tN s.k 0) [(0,N.cd an),(1, .az s.bl)] 2 s.z s.zn (Al.R (Ro N an true s).l):=fun s hs=>by
  have hk:=hs.k
  have hfz:=hs.bN
  have rb: ∀σ,aD (ay σ []) (.az s.bl)=some (.az s.bl):=fun σ=>by rw[hs.bl];exact fJ _
  obtain⟨k,bl,z',zn'⟩:=s
  simp only[List.length_nil] at hk hfz rb ⊢
  subst hk
  refine ax hD (gd z') (α:=Unit) 2 111 2 (fun _=>True) (fun _=>tN 0 0) (fun _=>[(0,N.cd an),(1, .az bl)]) (fun _=>z') (fun _=>zn') (fun _=>0) _ (fun _ _=>?_) () trivial
  refine t100 (aai z' zn' N bl (au _ _ _ _ _ _ _ _ _) ?_)
  (repeat' first|(with_reducible first|exact rfl|assumption|apply And.intro))
  exact c8 (bh rfl)
 have rb: ∀s σ,C5 z zn [] s->aD (sig σ) (.az s.bl)=some (.az s.bl):=fun s σ h=>by rw[h.bl];exact fJ _
 have rb2: ∀s σ,C5 z zn [] s->aD (ay σ []) (.az s.bl)=some (.az s.bl):=fun s σ h=>by rw[h.bl];exact fJ _
 have fz: ∀s,C5 z zn [] s->aw s.3 s.zn:=fun s h=>h.bN
 refine eL (φ:=AR z zn) (zz:=fun t=>t.1) (zn':=fun t=>t.2) ?_ rfl fun t ht=>ht.2.2
 refine dV (gd z) (fn:=f75) (by kernel_rfl) (by kernel_rfl) hz ⟨by decide,by decide⟩ (fun t ht=>⟨rfl,ht.2.1,ht.1⟩) (N:=100) ?_
 refine ppz z zn N true (C5 z zn []) _ ?_
 (repeat' first|(with_reducible first|exact rfl|assumption|apply And.intro|exact fz _ ‹_›|exact rb _ _ ‹_›|exact rb2 _ _ ‹_›)|exact lp _ (by with_reducible assumption)|exact hnet _|intro hq)
 ·exact absurd rfl hq
 ·rename_i h s hs
  rw[hs.k] at hq;simp at hq
 ·exact absurd hq (by decide)
 ·rename_i h s hs _ _
  exact q2 (s.z,s.zn) ⟨hs.bN,hs.le,hs.gK⟩ rfl rfl rfl rfl rfl
end
section
variable{z:T aa}{zn:Nat}
theorem KP(hz:aw z zn)(N:aq)(hn:N.ns<=64)(l:List ae)(hN:N.np=l.length)(hll:l.length<=10000)(hnet: ∀σ:bq,aD (ay σ []) (N.cd N.p1)=some (N.cd N.p1))(hL:bP z 4 (l.map ae.row))(hS:(aW N.ns l).2=0->lI (iu N.ns l))(r:Int × Int × Int)
 (hr:r=if (aW N.ns l).2≠0 then (4,aW N.ns l) else if iu N.ns l=l then (0,0,0) else (4,0,18)):
 A1 z zn 49 [.agg ⟨N.iJ N.p1⟩] [] 0 0 (.agg ⟨[zv r.1,zv r.2.1,zv r.2.2]⟩) []:=by
 refine Oz hz (gd z) N hn l hN hnet hL (decide (iu N.ns l=l)) (fun h=>?_) r (by rw[hr];simp only[decide_eq_true_eq])
 have hso:=On hz (gd z) N.ns (by omega) l N.pc hL
 rw[xf h] at hso
 have:=KW hz N.ns hn l (I0 h) hll N.pc hL (iu N.ns l) (fun d f hd=>yH (I0 h) hd) (hS h) hso
 show A1 z zn _ [tb 4 N.np N.pc,iv N.ns] [] 0 0 _ []
 rw[hN];exact this
theorem Hf(hz:aw z zn)(N:aq)(hn:N.ns<=64)(hnet: ∀σ:bq,aD (ay σ []) (N.cd an)=some (N.cd an))(hS:lI []):
 A1 z zn 49 [.agg ⟨N.iJ an⟩] [] 0 0 (.agg ⟨[zv 0,zv 0,zv 0]⟩) []:=by
 have hl:ot N.ns []:=⟨fun p hp=>by simp at hp⟩
 have:=Hg hz N.ns hn (fun d f hd=>by rw[yH hl hd];exact wo _) hS (KB hz (gd z) N.ns)
 exact KM hz (gd z) N hnet true this (0,0,0) rfl
end
def Nd(x y:ae):Prop:=x.fz1<y.fz1\/(x.fz1=y.fz1/\(x.aB<y.aB\/(x.aB=y.aB/\x.aK<y.aK)))
theorem Oh{x y:ae}(h:Nd x y):decide (sF y.fz1 y.aB y.aK x.fz1 x.aB x.aK<0)=false:=by
 rw[decide_eq_false_iff_not]
 unfold sF LR Co
 unfold Nd at h
 (repeat' split)<;>omega
theorem QA{C:List ae}(h:C.Pairwise Nd):qf C:=fun i j x y hij hx hy=>by
 obtain⟨h1,e1⟩:=List.getElem?_eq_some_iff.1 hx
 obtain⟨h2,e2⟩:=List.getElem?_eq_some_iff.1 hy
 have:=List.pairwise_iff_getElem.1 h i j h1 h2 hij
 rw[e1,e2] at this
 exact Oh this
theorem Mw{M F:Nat->Nat->Int}{i j:Nat}{L:List ae}(h:L.Pairwise Nd)(hb: ∀p∈L,p.fz1<(i:Int)\/(p.fz1=(i:Int)/\p.aB<(j:Int))):
 (ek M F i L j).Pairwise Nd/\ ∀p∈ek M F i L j,p.fz1<(i:Int)\/(p.fz1=(i:Int)/\p.aB<((j+1:Nat):Int)):=by
 have lt1: ∀p∈L,∀s b,Nd p ⟨i,j,s,b⟩:=fun p hp s b=>by
  rcases hb p hp with q|⟨q1,q2⟩
  ·exact .inl q
  ·exact .inr ⟨q1, .inl q2⟩
 have up: ∀p∈L,p.fz1<(i:Int)\/(p.fz1=(i:Int)/\p.aB<((j+1:Nat):Int)):=fun p hp=>by
  rcases hb p hp with q|⟨q1,q2⟩
  ·exact .inl q
  ·exact .inr ⟨q1,by omega⟩
 have new: ∀s b,(⟨i,j,s,b⟩:ae).fz1<(i:Int)\/((⟨i,j,s,b⟩:ae).fz1=(i:Int)/\(⟨i,j,s,b⟩:ae).aB<((j+1:Nat):Int)):=fun s b=> .inr ⟨rfl,by show(j:Int)<_;omega⟩
 unfold ek
 split
 ·exact⟨h,up⟩
 ·split
  ·rename_i hlt
   refine⟨?_,fun p hp=>?_⟩
   ·rw[List.append_assoc,List.pairwise_append]
    refine⟨h,?_,fun a ha b hb2=>?_⟩
    ·simp only[List.cons_append,List.nil_append,List.pairwise_cons,List.mem_cons,List.not_mem_nil,or_false,forall_eq,false_implies,implies_true,List.Pairwise.nil,and_true]
     exact .inr ⟨rfl, .inr ⟨rfl,hlt.1⟩⟩
    ·simp only[List.cons_append,List.nil_append,List.mem_cons,List.not_mem_nil,or_false] at hb2
     rcases hb2 with rfl|rfl
     ·exact lt1 a ha _ _
     ·exact lt1 a ha _ _
   ·simp only[List.mem_append,List.mem_cons,List.not_mem_nil,or_false] at hp
    rcases hp with (hp|rfl)|rfl
    ·exact up p hp
    ·exact new _ _
    ·exact new _ _
  ·refine⟨?_,fun p hp=>?_⟩
   ·rw[List.pairwise_append]
    refine⟨h,by simp,fun a ha b hb2=>?_⟩
    simp only[List.mem_cons,List.not_mem_nil,or_false] at hb2
    subst hb2
    exact lt1 a ha _ _
   ·simp only[List.mem_append,List.mem_cons,List.not_mem_nil,or_false] at hp
    rcases hp with hp|rfl
    ·exact up p hp
    ·exact new _ _
theorem IF{M F:Nat->Nat->Int}{i:Nat}{L:List ae}(h:L.Pairwise Nd)(hb: ∀p∈L,p.fz1<(i:Int)): ∀m,(bU M F i L m).Pairwise Nd/\ ∀p∈bU M F i L m,p.fz1<(i:Int)\/(p.fz1=(i:Int)/\p.aB<(m:Int))
 |0=>⟨h,fun p hp=> .inl (hb p hp)⟩
 |m+1=>by
  obtain⟨h1,h2⟩:=IF h hb m
  rw[kN]
  exact Mw h1 h2
theorem Lg{M F:Nat->Nat->Int}{n:Nat}: ∀m,(cu M F n m).Pairwise Nd/\ ∀p∈cu M F n m,p.fz1<(m:Int)
 |0=>⟨List.Pairwise.nil,fun p hp=>by cases hp⟩
 |m+1=>by
  obtain⟨h1,h2⟩:=Lg m
  obtain⟨h3,h4⟩:=IF (M:=M) (F:=F) h1 h2 n
  rw[iT]
  exact⟨h3,fun p hp=>by rcases h4 p hp with q|⟨q,_⟩<;>omega⟩
theorem Iw(n:Nat)(l:List ae):qf (iu n l):=by
 obtain⟨M,F,h⟩:=xQ n l
 rw[←lZ h]
 exact QA (Lg n).1
theorem AZ(n:Nat)(hn:n<=64)(l:List ae):lI (iu n l):=by
 refine xB (Iw n l) ?_
 obtain⟨M,F,h⟩:=xQ n l
 rw[←lZ h]
 have h1:=pI M F n n
 have h2:n*(2*n)<=64*(2*64):=Nat.mul_le_mul hn (by omega)
 omega
theorem Da:lI []:=xB (fun i j x y _ h=>by cases h) (by decide)
section
variable{z:T aa}{zn:Nat}
theorem KN(hz:aw z zn)(N:aq)(hn:N.ns<=64)(l:List ae)(hN:N.np=l.length)(hll:l.length<=10000)(hnet: ∀σ:bq,aD (ay σ []) (N.cd N.p1)=some (N.cd N.p1))(hL:bP z 4 (l.map ae.row))(r:Int × Int × Int)
 (hr:r=if (aW N.ns l).2≠0 then (4,aW N.ns l) else if iu N.ns l=l then (0,0,0) else (4,0,18)):
 A1 z zn 49 [.agg ⟨N.iJ N.p1⟩] [] 0 0 (.agg ⟨[zv r.1,zv r.2.1,zv r.2.2]⟩) []:=
 KP hz N hn l hN hll hnet hL (fun _=>AZ N.ns hn l) r hr
theorem He(hz:aw z zn)(N:aq)(hn:N.ns<=64)(hnet: ∀σ:bq,aD (ay σ []) (N.cd an)=some (N.cd an)):
 A1 z zn 49 [.agg ⟨N.iJ an⟩] [] 0 0 (.agg ⟨[zv 0,zv 0,zv 0]⟩) []:=Hf hz N hn hnet Da
end
end Go.Proofs.Nw
namespace Go.Proofs.Nw
open Go Go.AV Tryz
set_option maxHeartbeats 1000000
set_option maxRecDepth 100000
structure fP where
 stops:List bT
 ft:List bm
 runs:List RunT
 eE:List aI
 paths:List ae
 jy:List bO
structure c9(z:T aa)(N:aq)(D:fP):Prop where
 s:nk 2 N.sa N.ns N.sc D.stops.length
 r:nk 3 N.ra N.nr N.rc D.ft.length
 u:nk 1 N.ua N.nu N.uc D.runs.length
 l:nk 0 N.la N.nl N.lc D.eE.length
 p:nk 4 N.pa N.np N.pc D.paths.length
 f:nk 5 N.fa N.nf N.fc D.jy.length
 ts:bP z 2 (D.stops.map bT.row)
 tr:bP z 3 (D.ft.map bm.row)
 tu:rN z D.runs
 tl:bP z 0 (D.eE.map aI.row)
 tp:bP z 4 (D.paths.map ae.row)
 tf:bP z 5 (D.jy.map bO.row)
theorem oF{k:Nat}{a:Option Addr}{n c len:Nat}(h:nk k a n c len)(σ:bq):aP (ay σ []) (.slice a n c)=some (.slice a n c):=by
 rcases h with ⟨rfl,rfl,rfl,_⟩|⟨rfl,rfl⟩
 ·rfl
 ·exact lq σ k _ _
theorem gp{k:Nat}{a:Option Addr}{n c len:Nat}(h:nk k a n c len)(σ:bq):aP (sig σ) (.slice a n c)=some (.slice a n c):=by
 rcases h with ⟨rfl,rfl,rfl,_⟩|⟨rfl,rfl⟩
 ·rfl
 ·have:sig σ (256*k+510)=some (256*k+510):=by
   unfold sig
   rw[Nat.ble_eq_true_of_le (by unfold cO;omega)]
  simp only[aP,this]
section
variable{z:T aa}{zn:Nat}{N:aq}{D:fP}
theorem c9.Sh(h:c9 z N D)(σ:bq):aS (ay σ []) N.cells=some N.cells:=by
 have e: ∀x:Int,aP (ay σ []) (zv x)=some (zv x):=fun _=>rfl
 simp only[aS,oF h.s,oF h.r,oF h.u,oF h.l,oF h.p,oF h.f,e]
theorem c9.Sg(h:c9 z N D)(σ:bq):aS (sig σ) N.cells=some N.cells:=by
 have e: ∀x:Int,aP (sig σ) (zv x)=some (zv x):=fun _=>rfl
 simp only[aS,gp h.s,gp h.r,gp h.u,gp h.l,gp h.p,gp h.f,e]
theorem c9.box(h:c9 z N D)(σ:bq):aD (ay σ []) N.box=some N.box:=by
 simp only[aD,h.Sh]
theorem c9.val(h:c9 z N D)(σ:bq):aP (sig σ) (.agg ⟨N.cells⟩)=some (.agg ⟨N.cells⟩):=by
 simp only[aP,h.Sg]
theorem IA(hz:aw z zn){a:Option Addr}{n c:Nat}{l:List bT}(h:nk 2 a n c l.length)(ht:bP z 2 (l.map bT.row)):
 A1 z zn 42 [.slice a n c] [] 0 0 (.tuple ⟨[zv (cy l).1,zv (cy l).2]⟩) []/\A1 z zn 71 [.slice a n c] [] 0 0 (.tuple ⟨[zv (cy l).1,zv (cy l).2]⟩) []:=by
 rcases h with ⟨rfl,rfl,rfl,h⟩|⟨rfl,rfl⟩
 ·have:=List.length_eq_zero_iff.1 h
  subst this
  exact⟨Om hz (gd z),G7 hz (gd z)⟩
 ·exact⟨Si hz (gd z) l c ht,KC hz (gd z) l c ht⟩
theorem EG(hz:aw z zn){a:Option Addr}{n c:Nat}{l:List bm}(h:nk 3 a n c l.length)(ht:bP z 3 (l.map bm.row)):
 A1 z zn 43 [.slice a n c] [] 0 0 (.tuple ⟨[zv (cg l).1,zv (cg l).2]⟩) []/\A1 z zn 72 [.slice a n c] [] 0 0 (.tuple ⟨[zv (cg l).1,zv (cg l).2]⟩) []:=by
 rcases h with ⟨rfl,rfl,rfl,h⟩|⟨rfl,rfl⟩
 ·have:=List.length_eq_zero_iff.1 h
  subst this
  exact⟨KF hz (gd z),D9 hz (gd z)⟩
 ·exact⟨Ou hz (gd z) l c ht,G8 hz (gd z) l c ht⟩
theorem IC(hz:aw z zn){a:Option Addr}{n c:Nat}{l:List bO}(h:nk 5 a n c l.length)(ht:bP z 5 (l.map bO.row))(d w cc:Int):
 A1 z zn 48 [.agg ⟨[.slice a n c,zv d,zv w,zv cc]⟩] [] 0 0 (.tuple ⟨[zv (bE d w cc l).1,zv (bE d w cc l).2]⟩) []/\A1 z zn 76 [.agg ⟨[.slice a n c,zv d,zv w,zv cc]⟩] [] 0 0 (.tuple ⟨[zv (bE d w cc l).1,zv (bE d w cc l).2]⟩) []:=by
 rcases h with ⟨rfl,rfl,rfl,h⟩|⟨rfl,rfl⟩
 ·have:=List.length_eq_zero_iff.1 h
  subst this
  exact⟨Oy hz (gd z) d w cc,Ha hz (gd z) d w cc⟩
 ·exact⟨Sq hz (gd z) l c ht d w cc,KI hz (gd z) l c ht d w cc⟩
theorem Oq(hz:aw z zn)(N:aq)(hnet: ∀σ:bq,aD (ay σ []) (N.cH an N.l0)=some (N.cH an N.l0)):
 A1 z zn 46 [.agg ⟨N.ed an N.l0⟩] [] 0 0 (.agg ⟨[I 0,I 0,I 0]⟩) []:=by
 have hL:aj prog (ah (ag f46) 0) 3 96 Gs [(0,N.cH an N.l0),(1,du 0 0 0),(2,bt [])] 3 z zn (Al.R (aau z zn N).l):=by
  refine ax hD (gd z) (α:=Unit) 3 96 3 (fun i=>True) (fun i=>Gs) (fun i=>[(0,N.cH an N.l0),(1,du 0 0 0),(2,bt [])]) (fun _=>z) (fun _=>zn) (fun i=>0) _ (fun i hI=>?_) () trivial
  refine t100 (ruz z zn N (au _ _ _ _ _ _ _ _ _) ?_)
  (repeat' first|(with_reducible first|exact rfl|assumption|apply And.intro))
  all_goals first|exact bh trivial|trace_state
 refine aK1 (gd z) (fn:=f46) hz (fuz z zn N _ ?_)
 (repeat' first|(with_reducible first|exact rfl|assumption|apply And.intro|exact q1)|exact hL|exact hnet _|intro hq)
theorem QJ(hz:aw z zn)(h:c9 z N D):
 A1 z zn 46 [.agg ⟨N.cells⟩] [] 0 0 (.agg ⟨[zv (if (cY N.ns N.nr D.runs).2=0 then 0 else 2),zv (cY N.ns N.nr D.runs).1,zv (cY N.ns N.nr D.runs).2]⟩) []:=by
 obtain⟨sa,ns,sc,ra,nr,rc,ua,nu,uc,la,nl,lc,pa,np,pc,fa,nf,fc,d,w,c⟩:=N
 have hb:=h.box
 rcases h.u with ⟨h1,h2,h3,h4⟩|⟨h1,h2⟩<;>simp only at h1 h2
 ·simp only at h3
  subst h1 h2 h3
  rw[List.length_eq_zero_iff.1 h4]
  exact Oq hz _ hb
 ·subst h1 h2
  exact Sl hz (gd z) _ D.runs rfl h.tu hb
theorem QK(hz:aw z zn)(h:c9 z N D)(hl:D.runs.length<100000)(i:Nat)(hi:i<N.nu):
 A1 z zn 73 [.agg ⟨N.cells⟩,iv i] [] 0 0 (zv ((dH N.ns N.nr D.runs i).getD 0)) []:=by
 obtain⟨sa,ns,sc,ra,nr,rc,ua,nu,uc,la,nl,lc,pa,np,pc,fa,nf,fc,d,w,c⟩:=N
 have hb:=h.box
 rcases h.u with ⟨h1,h2,h3,h4⟩|⟨h1,h2⟩<;>simp only at h1 h2
 ·simp only at hi;omega
 ·subst h1 h2
  exact Sm hz (gd z) _ D.runs hl rfl h.tu hb i hi
theorem MD(hz:aw z zn)(h:c9 z N D)(hU:fy D.runs):
 A1 z zn 47 [.agg ⟨N.cells⟩] [] 0 0 (.agg ⟨[zv (if (bQ D.runs D.eE).2=0 then 0 else 3),zv (bQ D.runs D.eE).1,zv (bQ D.runs D.eE).2]⟩) []:=by
 obtain⟨sa,ns,sc,ra,nr,rc,ua,nu,uc,la,nl,lc,pa,np,pc,fa,nf,fc,d,w,c⟩:=N
 have hb:=h.box
 rcases h.l with ⟨k1,k2,k3,k4⟩|⟨k1,k2⟩<;>simp only at k1 k2
 ·simp only at k3
  subst k1 k2 k3
  rw[List.length_eq_zero_iff.1 k4]
  exact KQ hz (gd z) _ hb
 ·subst k1 k2
  rcases h.u with ⟨h1,h2,h3,h4⟩|⟨h1,h2⟩<;>simp only at h1 h2
  ·simp only at h3
   subst h1 h2 h3
   rw[List.length_eq_zero_iff.1 h4]
   exact KR hz (gd z) _ D.eE rfl h.tl hb
  ·subst h1 h2
   exact OA hz (gd z) _ D.runs D.eE rfl rfl h.tl h.tu hU hb
theorem MB(hz:aw z zn)(h:c9 z N D)(hU:fy D.runs)(hl:D.eE.length<100000)(i:Nat)(hi:i<N.nl):
 A1 z zn 74 [.agg ⟨N.cells⟩,iv i] [] 0 0 (zv ((fD D.runs D.eE i).getD 0)) []:=by
 obtain⟨sa,ns,sc,ra,nr,rc,ua,nu,uc,la,nl,lc,pa,np,pc,fa,nf,fc,d,w,c⟩:=N
 have hb:=h.box
 have hv:=h.val []
 rcases h.l with ⟨k1,k2,k3,k4⟩|⟨k1,k2⟩<;>simp only at k1 k2
 ·simp only at hi;omega
 ·subst k1 k2
  obtain⟨x,hx⟩:=dm hi
  have e:(fD D.runs D.eE i).getD 0=iV D.runs D.eE i x:=by
   unfold fD
   rw[hx]
   simp only
   split
   ·rename_i h0;rw[h0];rfl
   ·rfl
  rw[e]
  rcases h.u with ⟨h1,h2,h3,h4⟩|⟨h1,h2⟩<;>simp only at h1 h2
  ·simp only at h3
   subst h1 h2 h3
   rw[List.length_eq_zero_iff.1 h4]
   exact KG hz (gd z) _ D.eE rfl h.tl i x hx
  ·subst h1 h2
   exact Ov hz (gd z) _ D.runs D.eE hl rfl rfl h.tl h.tu hU hb (bM hv rfl) i x hx
noncomputable def ga(n:Nat)(l:List ae):Int × Int:=by
 classical
 exact if (aW n l).2≠0 then aW n l else if iu n l=l then (0,0) else (0,18)
theorem rD(n:Nat)(l:List ae)[Decidable (iu n l=l)]:ga n l=if (aW n l).2≠0 then aW n l else if iu n l=l then (0,0) else (0,18):=by
 unfold ga
 congr
theorem MC(hz:aw z zn)(h:c9 z N D)(hn:N.ns<=64)(hll:D.paths.length<=10000):
 A1 z zn 49 [.agg ⟨N.cells⟩] [] 0 0 (.agg ⟨[zv (if (ga N.ns D.paths).2=0 then 0 else 4),zv (ga N.ns D.paths).1,zv (ga N.ns D.paths).2]⟩) []:=by
 classical
 obtain⟨sa,ns,sc,ra,nr,rc,ua,nu,uc,la,nl,lc,pa,np,pc,fa,nf,fc,d,w,c⟩:=N
 have hb:=h.box
 rcases h.p with ⟨k1,k2,k3,k4⟩|⟨k1,k2⟩<;>simp only at k1 k2
 ·simp only at k3 hn
  subst k1 k2 k3
  rw[List.length_eq_zero_iff.1 k4]
  have e:ga ns []=(0,0):=by rw[rD,if_neg (by simp[aW,scan]),if_pos (wo _)]
  show A1 z zn _ _ [] 0 0 (.agg ⟨[zv (if (ga ns []).2=0 then 0 else 4),zv (ga ns []).1,zv (ga ns []).2]⟩) []
  rw[e]
  exact He hz _ hn hb
 ·subst k1 k2
  refine KN hz _ hn D.paths rfl hll hb h.tp (if (ga ns D.paths).2=0 then 0 else 4,(ga ns D.paths).1,(ga ns D.paths).2) ?_
  rw[rD]
  show _=if (aW ns D.paths).2≠0 then (4,aW ns D.paths) else if iu ns D.paths=D.paths then (0,0,0) else (4,0,18)
  by_cases h1:(aW ns D.paths).2=0<;>by_cases h2:iu ns D.paths=D.paths<;>simp[h1,h2]
theorem IB(hz:aw z zn)(h5:5<=zn)(h:c9 z N D)(hn:N.ns<=64):
 A1 z zn 75 [.agg ⟨N.cells⟩] [] 0 0 (.tuple ⟨[zv (ga N.ns D.paths).1,zv (ga N.ns D.paths).2]⟩) []:=by
 classical
 obtain⟨sa,ns,sc,ra,nr,rc,ua,nu,uc,la,nl,lc,pa,np,pc,fa,nf,fc,d,w,c⟩:=N
 have hb:=h.box
 rcases h.p with ⟨k1,k2,k3,k4⟩|⟨k1,k2⟩<;>simp only at k1 k2
 ·simp only at k3 hn
  subst k1 k2 k3
  rw[List.length_eq_zero_iff.1 k4]
  have e:ga ns []=(0,0):=by rw[rD,if_neg (by simp[aW,scan]),if_pos (wo _)]
  show A1 z zn _ _ [] 0 0 (.tuple ⟨[zv (ga ns []).1,zv (ga ns []).2]⟩) []
  rw[e]
  exact G9 hz h5 _ hn hb
 ·subst k1 k2
  exact KE hz h5 _ hn D.paths rfl hb h.tp (ga ns D.paths) (rD _ _)
noncomputable def bB(N:aq)(D:fP):Int × Int × Int:=ig (cy D.stops) (cg D.ft) (2,cY N.ns N.nr D.runs) (3,bQ D.runs D.eE) (4,ga N.ns D.paths) (bE N.d N.w N.c D.jy)
theorem Ac(s r u k p f:Int × Int):ig s r (if u.2=0 then 0 else 2,u) (if k.2=0 then 0 else 3,k) (if p.2=0 then 0 else 4,p) f=ig s r (2,u) (3,k) (4,p) f:=by
 unfold ig
 by_cases h1:u.2=0<;>by_cases h2:k.2=0<;>by_cases h3:p.2=0<;>simp[h1,h2,h3]
theorem dh{k:Nat}{a:Option Addr}{n c len:Nat}(h:nk k a n c len):n=len:=by
 rcases h with ⟨_,rfl,_,rfl⟩|⟨_,rfl⟩<;>rfl
theorem zb{l:List bT}(h:(cy l).2=0):l.length<=64:=by
 unfold cy at h
 split at h
 ·cases h
 ·omega
theorem jx{f:Nat->Option Nat}{v:Value}(h:aP f v=some v):aS f [v]=some [v]:=by simp only[aS,h]
theorem wy(hz:aw z zn)(h:c9 z N D)(hll:D.paths.length<=10000):
 A1 z zn 24 [.agg ⟨N.cells⟩] [] 0 0 (.tuple ⟨[zv (bB N D).1,zv (bB N D).2.1,zv (bB N D).2.2]⟩) []:=by
 have:=OH hz (gd z) N (cy D.stops) (cg D.ft) (if (cY N.ns N.nr D.runs).2=0 then 0 else 2,cY N.ns N.nr D.runs) (if (bQ D.runs D.eE).2=0 then 0 else 3,bQ D.runs D.eE) (if (ga N.ns D.paths).2=0 then 0 else 4,ga N.ns D.paths) (bE N.d N.w N.c D.jy)
  (jx (h.val [])) (jx (gp h.s _)) (jx (gp h.r _)) (jx (by
    have e: ∀x:Int,aP (sig []) (zv x)=some (zv x):=fun _=>rfl
    have e2:=gp h.f []
    have e3:aS (sig []) [.slice N.fa N.nf N.fc,zv N.d,zv N.w,zv N.c]=some [.slice N.fa N.nf N.fc,zv N.d,zv N.w,zv N.c]:=by simp only[aS,e2,e]
    show(match aS (sig []) [.slice N.fa N.nf N.fc,zv N.d,zv N.w,zv N.c] with|some m=>some (Value.agg ⟨m⟩)|none=>none)=_
    rw[e3]))
  (IA hz h.s h.ts).1 (EG hz h.r h.tr).1 (fun _ _=>QJ hz h) (fun _ _ hu=>MD hz h (jS (ns:=N.ns) (nr:=N.nr) (by simpa using hu)))
  (fun hs _ _ _=>MC hz h (by have:=dh h.s;have:=zb hs;omega) hll) (IC hz h.f h.tf N.d N.w N.c).1
 rw[Ac] at this
 exact this
theorem Hc(hz:aw z zn)(h5:5<=zn)(h:c9 z N D):
 A1 z zn 40 [.agg ⟨N.cells⟩] [] 0 0 (.tuple ⟨[zv (bB N D).1,zv (bB N D).2.1,zv (bB N D).2.2]⟩) []:=by
 have hun:=dh h.u
 have hln:=dh h.l
 refine KJ hz (gd z) N (cy D.stops) (cg D.ft) (ga N.ns D.paths) (bE N.d N.w N.c D.jy) (cY N.ns N.nr D.runs) (bQ D.runs D.eE) (fun i=>(dH N.ns N.nr D.runs i).getD 0) (fun i=>(fD D.runs D.eE i).getD 0)
  h.box (h.val []) (jx (gp h.s _)) (jx (gp h.r _)) (jx (by
   have e: ∀x:Int,aP (sig []) (zv x)=some (zv x):=fun _=>rfl
   have e2:=gp h.f []
   have e3:aS (sig []) [.slice N.fa N.nf N.fc,zv N.d,zv N.w,zv N.c]=some [.slice N.fa N.nf N.fc,zv N.d,zv N.w,zv N.c]:=by simp only[aS,e2,e]
   show(match aS (sig []) [.slice N.fa N.nf N.fc,zv N.d,zv N.w,zv N.c] with|some m=>some (Value.agg ⟨m⟩)|none=>none)=_
   rw[e3]))
  (IA hz h.s h.ts).2 (EG hz h.r h.tr).2 (fun _ _ h1024 i hi _=>QK hz h (by omega) i hi) (by rw[hun];exact QM _ _ _) (fun _ _ hu h1024 i hi _=>MB hz h (jS (ns:=N.ns) (nr:=N.nr) hu) (by omega) i hi) (by rw[hln];exact NP _ _)
  (fun hs _ _ _=>IB hz h5 h (by have:=dh h.s;have:=zb hs;omega)) (IC hz h.f h.tf N.d N.w N.c).2
end
theorem ny{k:Nat}{a:Option Addr}{n c len:Nat}(h:nk k a n c len)(hn:0<n):a=some ⟨256*k+510,0,none⟩:=by
 rcases h with ⟨_,q,_⟩|⟨q,_⟩
 ·omega
 ·exact q
theorem c9.VH{z z':T aa}{zn:Nat}{N:aq}{D:fP}(h:c9 z N D)(hz:aw z zn)(ho: ∀j,j<zn->z'.get j=z.get j):c9 z' N D:=
 ⟨h.s,h.r,h.u,h.l,h.p,h.f,dw h.ts hz ho,dw h.tr hz ho,⟨dw h.tu.HM hz ho,h.tu.sl,fun j r hr=>dw (h.tu.calls j r hr) hz ho⟩,dw h.tl hz ho,dw h.tp hz ho,dw h.tf hz ho⟩
section
variable{z:T aa}{N:aq}{D:fP}
theorem c9.run(h:c9 z N D){k:Nat}{x:RunT}(hx:D.runs[k]? =some x): ∃kl,z.get 1=some (.az kl)/\ai prog kl 66 (0+k*8)=some (.agg ⟨x.v.row⟩)/\ai prog kl 4 (0+k*8+6)=some (.bool x.v.cancelled)/\ai prog kl 64 (0+k*8+7)=some (.slice x.v.ca x.v.cn x.v.cc):=by
 obtain⟨el,hel⟩:=h.tu.HM.az (i:=k) (by simpa using (List.getElem?_eq_some_iff.1 hx).1)
 have hlen:=aO (row:=fun r:RunT=>r.v.row) (sz:=8) D.runs fun _=>rfl
 have hr:(D.runs.map fun r:RunT=>r.v.row)[k]? =some x.v.row:=by rw[List.getElem?_map,hx];rfl
 exact⟨_,hel,bG (r:=x.v.row) (sz:=8) underlying66 rfl rfl hlen hr,aT underlying4 rfl hlen hr rfl,aT underlying64 rfl hlen hr rfl⟩
theorem c9.call(h:c9 z N D){k:Nat}{x:RunT}(hx:D.runs[k]? =some x){i:Nat}{c:br}(hc:x.calls[i]? =some c):x.v.ca=some ⟨256*(6+k)+510,0,none⟩/\x.v.cn=x.calls.length/\ ∃kl,z.get (6+k)=some (.az kl)/\ai prog kl 3 (0+i*5+1)=some (zv c.arr)/\ai prog kl 3 (0+i*5+2)=some (zv c.dep):=by
 have hi:=(List.getElem?_eq_some_iff.1 hc).1
 obtain⟨el,hel⟩:=(h.tu.calls k x hx).az (i:=i) (by simpa using hi)
 have hs:x.v.ca=some ⟨256*(6+k)+510,0,none⟩/\x.v.cn=x.calls.length:=by
  rcases h.tu.sl k x hx with (⟨_,_,_,h4⟩|h)|⟨_,_,_,h4⟩
  ·omega
  ·exact h
  ·omega
 have hlen:=aO (row:=br.row) (sz:=5) x.calls fun _=>rfl
 have hr:(x.calls.map br.row)[i]? =some c.row:=by rw[List.getElem?_map,hc];rfl
 exact⟨hs.1,hs.2,_,hel,aT underlying3 rfl hlen hr rfl,aT underlying3 rfl hlen hr rfl⟩
end
section
variable{z:T aa}{zn:Nat}{N:aq}{D:fP}
theorem uz(hz:aw z zn)(h5:5<=zn)(hN:c9 z N D):A1 z zn 20 [.agg ⟨N.cells⟩] [] 0 0 (.bool ((bB N D).2.2==0)) []:=by
 have hv:=jx (hN.val [])
 have hb:=hN.box
 have hc:=Hc hz h5 hN
 refine aK1 (bC (zg:=z)) (fn:=f20) hz (qvl z zn N (bB N D).1 (bB N D).2.1 (bB N D).2.2 _ ?_)
 (repeat' first|(with_reducible first|exact rfl|assumption|apply And.intro)|intro hq)
 all_goals (refine qh ?_;rw[hq])
end
end Go.Proofs.Nw
namespace Go.Proofs.Nw
open Go Go.AV Tryz
structure ak where
 bg:Bool
 run:Int
 pZ:Int
 off:Int
 fz1:Int
 aB:Int
 dep:Int
 arr:Int
 stay:Bool
abbrev ak.row(l:ak):List Value:=[.bool l.bg,zv l.run,zv l.pZ,zv l.off,zv l.fz1,zv l.aB,zv l.dep,zv l.arr, .bool l.stay]
abbrev wr(x:Int):Int:=IntKind.i64.wrap x
abbrev Th:Int:=3155932800
structure dz where
 a:Option Addr
 n:Nat
 c:Nat
abbrev dz.v(J:dz):Value:= .slice J.a J.n J.c
abbrev dz.jn(J:dz):Value:= .agg ⟨[J.v]⟩
abbrev qQ(cs:List Value)(n:Nat):aa:= .az ⟨cs,n*9,9,62,false,false,0,true⟩
abbrev jB(v:Value):aa:=o9 34 [v]
abbrev aq.U(N:aq):aq:={N with sa:=some ⟨1022,0,none⟩,ra:=some ⟨1278,0,none⟩,ua:=some ⟨766,0,none⟩}
def oZ(i:Nat):Live:=[(2,ip 0),(3,ip 1),(5,iv i)]
def Re(z:T aa)(zn:Nat)(v w:Value):eY:=⟨2,31,[],oZ 0,[(0,jB v),(1,jB w)],2,none,alt True ⟨.exit 0,[],[],2,z,zn⟩ .nil⟩
end Go.Proofs.Nw
namespace Go.Proofs.Nw
open Go Go.AV Tryz
set_option maxRecDepth 1000000
noncomputable section
theorem yea(z:T aa)(zn:Nat)(N:aq)(x:ak)(Q:QF)(hyp:Value.bool (decide (x.run<0))=T1/\E6 39 z zn (YQ/\Q F0 [] 0 z zn)):FnT prog Yi z f50 [Yj N,AG x.row] z [] 0 zn Q:=K1t hyp (tA 1 (tO kI (tA 8 (Yo z zn))))
theorem yeb(z:T aa)(zn:Nat)(N:aq)(x:ak)(Q:QF)(hyp:Value.bool (decide (x.run<0))=F0/\Value.bool (decide (x.run>=(↑N.nu:Int)))=T1/\E6 39 z zn (YQ/\Q F0 [] 0 z zn)):FnT prog Yi z f50 [Yj N,AG x.row] z [] 0 zn Q:=K1t hyp (tA 1 (tO kx (tA 8 (tO kI (tA 2 (Yo z zn))))))
theorem yec(z:T aa)(zn r m c:Nat)(N:aq)(kr:aV)(x:ak)(Q:QF)(hyp:Value.bool (decide (x.run<0))=F0/\Value.bool (decide (x.run>=(↑N.nu:Int)))=F0/\Br (decide (x.pZ>=0)) (Br (decide (x.pZ<x.off)) (x.run=(↑r:Int)/\r<N.nu/\C1/\C0 z kr/\Ib kr r m c/\Br (decide (x.off<(↑m:Int))) (E6 39 z zn (YA/\Q T1 [] 0 z zn)) (E6 39 z zn (YQ/\Q F0 [] 0 z zn))) (E6 39 z zn (YQ/\Q F0 [] 0 z zn))) (E6 39 z zn (YQ/\Q F0 [] 0 z zn))):FnT prog Yi z f50 [AG N.nZ,AG x.row] z [] 0 zn Q:=K1t hyp (tA 1 (tO kx (tA 8 (tO kx (tA 3 ((tA 7 ((tA 11 (tO (bS r) (tA 2 (tO (Ic kr r m c) (tA 2 ((tA 1 (Yn z zn)).fork (tA 1 (Yo z zn)))))))).fork (tA 13 (Yo z zn)))).fork (tA 18 (Yo z zn))))))))
end
end Go.Proofs.Nw
namespace Go.Proofs.Nw
open Go Go.AV Tryz
set_option maxHeartbeats 1000000
set_option maxRecDepth 100000
def jd(U:List RunT)(l:ak):Bool:=decide (0<=l.run) && (decide (l.run<(U.length:Int)) && (decide (0<=l.pZ) && (decide (l.pZ<l.off) && decide (l.off<(gh U l.run:Int)))))
theorem nO(G:List ak):(G.map ak.row).flatten.length=G.length*9:=by
 have:=kh (sz:=9) (rows:=G.map ak.row) (aO (row:=ak.row) (sz:=9) G fun _=>rfl)
 simpa using this
theorem db(G:List ak):bJ (G.map ak.row).flatten=true:=j7 (row:=ak.row) (fun _=>rfl) G
theorem yl(G:List ak)(x:ak):(G.map ak.row).flatten++x.row=((G++[x]).map ak.row).flatten:=by
 rw[List.map_append,List.flatten_append];simp
section
variable{z:T aa}{zn:Nat}{N:aq}{D:fP}
theorem JM{k:Nat}{G:List ak}(h:bP z k (G.map ak.row)){i:Nat}{x:ak}(hx:G[i]? =some x): ∃kl,z.get k=some (.az kl)/\ai prog kl 62 (0+i*9)=some (.agg ⟨x.row⟩)/\ai prog kl 4 (0+i*9)=some (.bool x.bg)/\ai prog kl 4 (0+i*9+8)=some (.bool x.stay):=by
 obtain⟨el,hel⟩:=h.az (i:=i) (by simpa using (List.getElem?_eq_some_iff.1 hx).1)
 have hlen:=aO (row:=ak.row) (sz:=9) G fun _=>rfl
 have hr:(G.map ak.row)[i]? =some x.row:=by rw[List.getElem?_map,hx];rfl
 exact⟨_,hel,bG (r:=x.row) (sz:=9) underlying62 rfl rfl hlen hr,aT (j:=0) underlying4 rfl hlen hr rfl,aT (j:=8) underlying4 rfl hlen hr rfl⟩
end
end Go.Proofs.Nw
namespace Go.Proofs.Nw
open Go Go.AV Tryz
section
variable(dp ar:ak->Int)(L:List ak)
abbrev aaL:ak:=⟨false,0,0,0,0,0,0,0,false⟩
def lg(i:Nat):ak:=L.getD i aaL
def jI:Nat->ak
 |0=>if (lg L 0).bg then {lg L 0 with dep:=dp (lg L 0),arr:=ar (lg L 0)}
  else if 1<L.length/\(lg L 1).bg=true then {lg L 0 with arr:=dp (lg L 1),dep:=wr (dp (lg L 1) - wr ((lg L 0).arr - (lg L 0).dep))} else lg L 0
 |i+1=>if (lg L (i+1)).bg then {lg L (i+1) with dep:=dp (lg L (i+1)),arr:=ar (lg L (i+1))}
  else {lg L (i+1) with dep:=(jI i).arr,arr:=wr ((jI i).arr+wr ((lg L (i+1)).arr - (lg L (i+1)).dep))}
def jr:Nat->ak
 |0=>if (lg L 0).bg then {lg L 0 with dep:=dp (lg L 0),arr:=ar (lg L 0)} else lg L 0
 |i+1=>if (lg L (i+1)).bg then {lg L (i+1) with dep:=dp (lg L (i+1)),arr:=ar (lg L (i+1))}
  else {lg L (i+1) with arr:=wr (wr ((jr i).arr+(lg L (i+1)).arr) - (lg L (i+1)).dep),dep:=(jr i).arr}
def Nb(M:List ak):List ak:=match M with
 |a::b::r=>if a.bg=false/\b.bg=true then {a with dep:=wr (b.dep - wr (a.arr - a.dep)),arr:=b.dep}::b::r else a::b::r
 |M=>M
def vS:List ak:=(List.range L.length).map (jI dp ar L)
def BY(m:Nat):List ak:=(List.range m).map (jr dp ar L)
theorem Ev(a b c:Int):wr (a+wr (b - c))=wr (wr (a+b) - c):=by
 simp only[wr,IntKind.wrap,IntKind.signed,IntKind.bits]
 simp
 omega
theorem ym(i:Nat):(jr dp ar L i).bg=(lg L i).bg:=by
 cases i<;>unfold jr<;>(repeat' split)<;>rfl
theorem vV: ∀i,jI dp ar L (i+1)=jr dp ar L (i+1)\/L.length<=i+1
 |0=>by
  by_cases hl:1<L.length
  ·left
   unfold jI jr
   by_cases h1:(lg L (0+1)).bg=true
   ·rw[if_pos h1,if_pos h1]
   ·rw[if_neg h1,if_neg h1]
    have e:(jI dp ar L 0).arr=(jr dp ar L 0).arr:=by
     unfold jI jr
     by_cases h0:(lg L 0).bg=true
     ·rw[if_pos h0,if_pos h0]
     ·rw[if_neg h0,if_neg h0,if_neg (fun h=>h1 h.2)]
    rw[e,Ev]
  ·right;omega
 |i+1=>by
  rcases vV i with h|h
  ·left
   show(if _ then _ else _)=(if _ then _ else _)
   rw[h,Ev]
  ·right;omega
theorem BZ:vS dp ar L=Nb (BY dp ar L L.length):=by
 unfold vS BY
 match hn:L.length with
 |0=>rfl
 |1=>
  show [jI dp ar L 0]=[jr dp ar L 0]
  unfold jI jr
  rw[if_neg (c:=1<L.length/\_) (fun h=>by omega)]
 |n+2=>
  have e:(List.range (n+2))=0::1::(List.range n).map (· +2):=by
   rw[List.range_succ_eq_map,List.range_succ_eq_map]
   simp
  rw[e]
  simp only[List.map_cons,List.map_map,Nb]
  have s1:jI dp ar L 1=jr dp ar L 1:=by
   rcases vV dp ar L 0 with h|h
   ·exact h
   ·omega
  have s2:(List.range n).map (jI dp ar L ∘ (· +2))=(List.range n).map (jr dp ar L ∘ (· +2)):=by
   apply List.map_congr_left
   intro i hi
   have:=List.mem_range.1 hi
   rcases vV dp ar L (i+1) with h|h
   ·exact h
   ·omega
  rw[s1,s2,ym,ym]
  by_cases h0:(lg L 0).bg=true
  ·rw[if_neg (fun h=>by rw[h0] at h;cases h.1)]
   congr 1
   unfold jI jr
   rw[if_pos h0,if_pos h0]
  ·by_cases h1:(lg L 1).bg=true
   ·rw[if_pos ⟨by simpa using h0,h1⟩]
    have d1:(jr dp ar L 1).dep=dp (lg L 1):=by unfold jr;rw[if_pos h1]
    rw[d1]
    congr 1
    unfold jI jr
    rw[if_neg h0,if_neg h0,if_pos ⟨by omega,h1⟩]
   ·rw[if_neg (fun h=>h1 h.2)]
    congr 1
    unfold jI jr
    rw[if_neg h0,if_neg h0,if_neg (fun h=>h1 h.2)]
end
end Go.Proofs.Nw
namespace Go.Proofs.Nw
open Go Go.AV Tryz
set_option maxHeartbeats 1000000
set_option maxRecDepth 100000
def eI(U:List RunT)(l:ak):Int:=if l.bg=true then (if jd U l=true then 0 else 9) else if l.dep<0\/l.arr<l.dep\/Th<l.arr then 10 else 0
def fW(U:List RunT)(G:List ak)(i:Nat):Option Int:=match G[i]? with
 |none=>none
 |some l=>if eI U l=0 then none else some (eI U l)
noncomputable def jY(N:aq)(D:fP)(G:List ak):Int:=if (bB N D).2.2=0 then (scan (fW D.runs G) G.length 0).2 else 21
def Ae(U:List RunT)(r b:Int):br:=match U[r.toNat]? with|some u=>u.calls.getD b.toNat ⟨0,0,0,false,false⟩|none=>⟨0,0,0,false,false⟩
def pX(U:List RunT)(l:ak):Int:=(Ae U l.run l.pZ).dep
def qb(U:List RunT)(l:ak):Int:=(Ae U l.run l.off).arr
abbrev oY(U:List RunT)(G:List ak):List ak:=vS (pX U) (qb U) G
abbrev uY(U:List RunT)(G:List ak)(m:Nat):List ak:=BY (pX U) (qb U) G m
theorem OS(U:List RunT)(G:List ak)(i:Nat):fW U G i≠some 0:=by
 unfold fW
 split
 ·simp
 ·split
  ·simp
  ·rename_i h;simpa using h
theorem lU{G:List ak}{i:Nat}{x:ak}(h:G[i]? =some x):lg G i=x:=by
 unfold lg;rw[List.getD_eq_getElem?_getD,h];rfl
theorem zh(U:List RunT)(G:List ak)(m:Nat):(uY U G m).length=m:=by simp[uY,BY]
theorem qw(U:List RunT)(G:List ak):(oY U G).length=G.length:=by simp[oY,vS]
theorem uX(U:List RunT)(G:List ak)(m:Nat):uY U G (m+1)=uY U G m++[jr (pX U) (qb U) G m]:=by
 simp[uY,BY,List.range_succ]
theorem ID(U:List RunT)(G:List ak)(m:Nat):(uY U G (m+1)).getLast? =some (jr (pX U) (qb U) G m):=by
 rw[uX];simp
def jG(U:List RunT)(G:List ak)(i:Nat):List ak:=(List.range G.length).map fun j=>if j<i then jI (pX U) (qb U) G j else lg G j
theorem nK(U:List RunT)(G:List ak)(i:Nat):(jG U G i).length=G.length:=by simp[jG]
theorem qJ(U:List RunT)(G:List ak)(i j:Nat)(h:j<G.length):(jG U G i)[j]? =some (if j<i then jI (pX U) (qb U) G j else lg G j):=by
 simp[jG,List.getElem?_map,List.getElem?_range h]
theorem oK(U:List RunT)(G:List ak):jG U G 0=G:=by
 apply List.ext_getElem?
 intro j
 by_cases h:j<G.length
 ·rw[qJ U G 0 j h,if_neg (Nat.not_lt_zero j)]
  obtain⟨x,hx⟩:=dm h
  rw[hx,lU hx]
 ·rw[List.getElem?_eq_none (by rw[nK];omega),List.getElem?_eq_none (by omega)]
theorem Jd(U:List RunT)(G:List ak):jG U G G.length=oY U G:=by
 unfold jG oY vS
 apply List.map_congr_left
 intro j hj
 rw[if_pos (List.mem_range.1 hj)]
theorem Gp(U:List RunT)(G:List ak)(i:Nat)(h:i<G.length):jG U G (i+1)=(jG U G i).set i (jI (pX U) (qb U) G i):=by
 apply List.ext_getElem?
 intro j
 by_cases hj:j<G.length
 ·rw[qJ U G (i+1) j hj]
  by_cases e:j=i
  ·subst e
   rw[if_pos (Nat.lt_succ_self j),List.getElem?_set_self (by rw[nK];exact h)]
  ·rw[List.getElem?_set_ne (fun h=>e h.symm),qJ U G i j hj]
   by_cases hl:j<i
   ·rw[if_pos hl,if_pos (by omega)]
   ·rw[if_neg hl,if_neg (by omega)]
 ·rw[List.getElem?_eq_none (by rw[nK];omega),List.getElem?_eq_none (by rw[List.length_set,nK];omega)]
def jL(now:Int):List ak->Nat
 |[]=>0
 |l::r=>if now<=l.dep then 0 else jL now r+1
theorem uB(now:Int): ∀(L:List ak)(i:Nat),(∀j x,j<i->L[j]? =some x->x.dep<now)->(∀x,L[i]? =some x->now<=x.dep)->i<=L.length->jL now L=i
 |[],i,_,_,h3=>by simp at h3;subst h3;rfl
 |l::r,0,_,h2,_=>by
  unfold jL;rw[if_pos (h2 l rfl)]
 |l::r,i+1,h1,h2,h3=>by
  unfold jL
  have:=h1 0 l (by omega) rfl
  rw[if_neg (by omega),uB now r i (fun j x hj hx=>h1 (j+1) x (by omega) (by simpa using hx)) (fun x hx=>h2 x (by simpa using hx)) (by simpa using h3)]
theorem FL(now:Int): ∀L:List ak,jL now L<=L.length
 |[]=>Nat.le_refl _
 |l::r=>by
  have:=FL now r
  unfold jL
  split
  ·exact Nat.zero_le _
  ·simp;exact this
theorem yN{a b:Int}(h:a<=b): ∀L:List ak,jL a L<=jL b L
 |[]=>Nat.le_refl _
 |l::r=>by
  have:=yN h r
  unfold jL
  by_cases h1:a<=l.dep
  ·rw[if_pos h1];exact Nat.zero_le _
  ·rw[if_neg h1,if_neg (by omega)];omega
theorem Ee(l:ak)(r:List ak):jL l.dep (l::r)=0:=by
 unfold jL;rw[if_pos (Int.le_refl _)]
section
variable{N:aq}{D:fP}
theorem kK(h:(bB N D).2.2=0):(cy D.stops).2=0/\(cg D.ft).2=0/\(cY N.ns N.nr D.runs).2=0:=by
 unfold bB ig at h
 by_cases e1:(cy D.stops).2=0
 ·rw[if_neg (by simpa using e1)] at h
  by_cases e2:(cg D.ft).2=0
  ·rw[if_neg (by simpa using e2)] at h
   by_cases e3:(cY N.ns N.nr D.runs).2=0
   ·exact⟨e1,e2,e3⟩
   ·rw[if_pos e3] at h;exact(e3 h).elim
  ·rw[if_pos e2] at h;exact(e2 h).elim
 ·rw[if_pos e1] at h;exact(e1 h).elim
end
section
variable{z:T aa}{zn:Nat}{N:aq}{D:fP}
theorem Dd(hN:c9 z N D)(hU:fy D.runs){y:Int}(h0:0<=y)(h1:y<(D.runs.length:Int)): ∃(u:RunT)(kr:aV)(cc:Nat),D.runs[y.toNat]? =some u/\N.ua=some ⟨766,0,none⟩/\z.get 1=some (.az kr)/\ai prog kr 3 (0+y.toNat*8+4)=some (zv u.v.jv)/\ai prog kr 64 (0+y.toNat*8+7)=some (tb (6+y.toNat) (gh D.runs y) cc)/\gh D.runs y=u.calls.length:=by
 obtain⟨u,hu⟩:=dm (l:=D.runs) (i:=y.toNat) (by omega)
 obtain⟨el,hel⟩:=hN.tu.HM.az (i:=y.toNat) (by simpa using (List.getElem?_eq_some_iff.1 hu).1)
 have hlen:=aO (row:=fun r:RunT=>r.v.row) (sz:=8) D.runs fun _=>rfl
 have hr:(D.runs.map fun r:RunT=>r.v.row)[y.toNat]? =some u.v.row:=by rw[List.getElem?_map,hu];rfl
 have hc:=hU.calls u (List.mem_of_getElem? hu)
 have hl:gh D.runs y=u.calls.length:=by unfold gh;rw[hu]
 have hs:u.v.ca=some ⟨256*(6+y.toNat)+510,0,none⟩/\u.v.cn=u.calls.length:=by
  rcases hN.tu.sl _ u hu with (⟨_,_,_,h4⟩|h)|⟨_,_,_,h4⟩
  ·omega
  ·exact h
  ·omega
 have r7:ai prog (bk el (D.runs.map fun r:RunT=>r.v.row).flatten) 64 (0+y.toNat*8+7)=some (.slice u.v.ca u.v.cn u.v.cc):=aT underlying64 rfl hlen hr rfl
 rw[hs.1,hs.2,←hl] at r7
 exact⟨u,_,u.v.cc,hu,ny hN.u (by have:=dh hN.u;omega),hel,aT (j:=4) underlying3 rfl hlen hr rfl,r7,hl⟩
theorem oP{U:List RunT}{x:ak}(h:x.run<0\/(U.length:Int)<=x.run):jd U x=false:=by
 unfold jd
 rcases h with h|h
 ·rw[decide_eq_false (show¬0<=x.run by omega)];rfl
 ·rw[decide_eq_false (show¬x.run<(U.length:Int) by omega)];simp
theorem J7{U:List RunT}{x:ak}(h:jd U x=true):0<=x.run/\x.run<(U.length:Int)/\0<=x.pZ/\x.pZ<x.off/\x.off<(gh U x.run:Int):=by
 unfold jd at h
 simp only[Bool.and_eq_true,decide_eq_true_eq] at h
 exact h
theorem KU(hz:aw z zn)(hN:c9 z N D)(hU:fy D.runs)(x:ak):A1 z zn 50 [.agg ⟨N.cells⟩, .agg ⟨x.row⟩] [] 0 0 (.bool (jd D.runs x)) []:=by
 have hnu:=dh hN.u
 by_cases h0:x.run<0
 ·rw[oP (.inl h0)]
  have e1:Value.bool (decide (x.run<0))=Value.bool true:=by rw[decide_eq_true h0]
  refine aK1 (bC (zg:=z)) (fn:=f50) hz (yea z zn N x _ ?_)
  (repeat' first|(with_reducible first|exact rfl|assumption|apply And.intro|exact q1))
 have e1:Value.bool (decide (x.run<0))=Value.bool false:=by rw[decide_eq_false h0]
 by_cases h1:(N.nu:Int)<=x.run
 ·rw[oP (.inr (by omega))]
  have e2:Value.bool (decide (x.run>=(N.nu:Int)))=Value.bool true:=by rw[decide_eq_true (show x.run>=(N.nu:Int) by omega)]
  refine aK1 (bC (zg:=z)) (fn:=f50) hz (yeb z zn N x _ ?_)
  (repeat' first|(with_reducible first|exact rfl|assumption|apply And.intro|exact q1))
 have e2:Value.bool (decide (x.run>=(N.nu:Int)))=Value.bool false:=by rw[decide_eq_false (show¬x.run>=(N.nu:Int) by omega)]
 obtain⟨u,kr,cc,hu,ha,g1,_,r7,hl⟩:=Dd hN hU (y:=x.run) (by omega) (by omega)
 obtain⟨sa,ns,sc,ra,nr,rc,ua,nu,uc,la,nl,lc,pa,np,pc,fa,nf,fc,d,w,c⟩:=N
 simp only at ha hnu h1 e2
 subst ha
 refine aK1 (bC (zg:=z)) (fn:=f50) hz (yec z zn x.run.toNat (gh D.runs x.run) cc ⟨sa,ns,sc,ra,nr,rc,some ⟨766,0,none⟩,nu,uc,la,nl,lc,pa,np,pc,fa,nf,fc,d,w,c⟩ kr x _ ?_)
 (repeat' first|(with_reducible first|exact rfl|assumption|apply And.intro|exact(by omega:x.run=((x.run.toNat:Nat):Int))|exact(by omega:x.run.toNat<nu))|intro hq)
 all_goals (refine qh (congrArg Value.bool ?_);clear hN hz hU g1 r7 e1 e2;simp only[decide_eq_true_eq,decide_eq_false_iff_not,ge_iff_le] at*;apply Eq.symm;unfold jd;simp;intros;omega)
end
open Classical in
theorem D6{P:Program}{z0 z:T aa}(hs: ∀k o,z0.get k=some o->z.get k=some o){f:Nat}{args:List Value}{v:Value}(h:kZ P z0 f args v):kZ P z f args v:=
 ⟨h.1,fun ρ W args' hz ha=>h.2 ρ W args' (fun k o hk=>hz k o (hs k o hk)) ha⟩
theorem mu{k:Nat}{a:Option Addr}{n c len m:Nat}(h:nk k a n c len)(hk:k<m){σ:Nat->Option Nat}(hσ: ∀j,j<m->σ (256*j+510)=some (256*j+510)):aP σ (.slice a n c)=some (.slice a n c):=by
 rcases h with ⟨rfl,rfl,rfl,_⟩|⟨rfl,rfl⟩
 ·rfl
 ·simp only[aP,hσ k hk]
theorem lP{k:Nat}{a:Option Addr}{n c len:Nat}(h:nk k a n c len){kz cn:Nat}{o:aa}(hk:k≠kz)(σ:bq):aP (ay σ [(kz,cn,o)]) (.slice a n c)=some (.slice a n c):=by
 rcases h with ⟨rfl,rfl,rfl,_⟩|⟨rfl,rfl⟩
 ·rfl
 ·simp only[aP,kL hk]
theorem c9.Wx{z:T aa}{N:aq}{D:fP}(h:c9 z N D){kz cn:Nat}{o:aa}(hk:6<=kz)(σ:bq):aD (ay σ [(kz,cn,o)]) N.box=some N.box:=by
 have e: ∀x:Int,aP (ay σ [(kz,cn,o)]) (zv x)=some (zv x):=fun _=>rfl
 simp only[aD,aS,lP h.s (show 2≠kz by omega),lP h.r (show 3≠kz by omega),lP h.u (show 1≠kz by omega),lP h.l (show 0≠kz by omega),lP h.p (show 4≠kz by omega),lP h.f (show 5≠kz by omega),e]
theorem MZ{cs:List Value}{i:Nat}(hi:i<cs.length)(v:Value):overwrite cs i [v]=some (cs.set i v):=by
 have:=nI hi v
 rw[show 0+i*1=i by omega] at this
 exact this
structure w6(z0:T aa)(n0:Nat)(L:List ak)(s:da):Prop where
 bN:aw s.z s.zn
 le:n0<=s.zn
 gK: ∀k,k<n0->s.z.get k=z0.get k
 val:(L=[]/\s.oa=none/\s.k=0)\/(L≠[]/\ ∃kk,n0<=kk/\kk<s.zn/\s.oa=some ⟨256*kk+510,0,none⟩/\s.k=L.length/\s.z.get kk=some (qQ (L.map ak.row).flatten L.length))
structure W9(z0:T aa)(n0:Nat)(s:da):Prop where
 bN:aw s.z s.zn
 le:n0<=s.zn
 gK: ∀k,k<n0->s.z.get k=z0.get k
theorem UW(n:Nat):Nat.le n (n+1):=Nat.le_succ n
abbrev dB(N:aq):aa:= .az ⟨N.cells,9,1,31,true,true,0,true⟩
theorem NT{L:List ak}{r:Nat}{p:ak}(hr:L.length=r+1)(hp:L.getLast? =some p):ai prog (aV.mk (L.map ak.row).flatten (L.length*9) 9 62 false false 0 true) 4 (0+r*9+0)=some (.bool p.bg)/\ai prog (aV.mk (L.map ak.row).flatten (L.length*9) 9 62 false false 0 true) 3 (0+r*9+7)=some (zv p.arr):=by
 have hx:(L.map ak.row)[r]? =some p.row:=by
  rw[List.getLast?_eq_getElem?,hr] at hp
  rw[List.getElem?_map,show r=r+1 - 1 by omega,hp];rfl
 have hlen:=aO (row:=ak.row) (sz:=9) L fun _=>rfl
 exact⟨mE (rows:=L.map ak.row) (j:=0) rfl underlying4 rfl hlen hx rfl,mE (rows:=L.map ak.row) (j:=7) rfl underlying3 rfl hlen hx rfl⟩
theorem Dh{L:List ak}{i:Nat}{x:ak}(hx:L[i]? =some x){B:aV}(hB:B.cells=(L.map ak.row).flatten):ai prog B 62 (0+i*9)=some (.agg ⟨x.row⟩):=
 gJ (rows:=L.map ak.row) (sz:=9) hB underlying62 rfl rfl (aO (row:=ak.row) (sz:=9) L fun _=>rfl) (by rw[List.getElem?_map,hx];rfl)
theorem g8{σ:Nat->Option Nat}{v:Value}(h:aP σ v=some v):aP σ (.agg ⟨[v]⟩)=some (.agg ⟨[v]⟩):=by
 have:=jx h
 simp only[aP,this]
theorem IM{σ:Nat->Option Nat}(L:List ak)(M:ak)(c:Nat):aD σ (.az (aV.mk ((L.map ak.row).flatten++M.row) c 9 62 false false 0 true))=some (.az (aV.mk ((L.map ak.row).flatten++M.row) c 9 62 false false 0 true)):=cA (by rw[yl];exact db _)
theorem uk{σ:bq}{K k c n m:Nat}{o:aa}(h:K≠k):aD (ay σ [(k,c,o)]) (.az ⟨[tb K n m],1,1,34,true,true,0,true⟩)=some (.az ⟨[tb K n m],1,1,34,true,true,0,true⟩):=by
 have:aP (ay σ [(k,c,o)]) (tb K n m)=some (tb K n m):=by simp only[aP,kL h]
 simp only[aD,aS,this]
section
variable{z:T aa}{zn:Nat}{N:aq}{D:fP}
theorem tj(hN:c9 z N D){J:dz}(hJr: ∀σ,aP (ay σ []) J.v=some J.v):aS (sig []) [.agg ⟨N.cells⟩,J.jn]=some [.agg ⟨N.cells⟩,J.jn]:=by
 have:=hJr []
 rw[lO] at this
 exact bM (hN.val []) (bM (g8 this) rfl)
theorem nQ{J:dz}(hJr: ∀σ,aP (ay σ []) J.v=some J.v)(σ:bq):aD (ay σ []) (.az ⟨[.slice J.a J.n J.c],1,1,34,true,true,0,true⟩)=some (.az ⟨[.slice J.a J.n J.c],1,1,34,true,true,0,true⟩):=by
 simp only[aD,aS,hJr σ]
theorem zO{z0:T aa}{n0:Nat}{L:List ak}{s:da}(h:w6 z0 n0 L s):aP (sig []) (.slice s.oa s.k s.k)=some (.slice s.oa s.k s.k):=by
 rcases h.val with ⟨_,e1,e2⟩|⟨_,kk,_,_,e1,e2,_⟩
 ·rw[e1,e2];rfl
 ·rw[e1,e2];exact lq [] kk _ _
theorem vT{z0:T aa}{n0:Nat}{L:List ak}{s:da}(h:w6 z0 n0 L s):aP (sig []) (.tuple ⟨[.agg ⟨[.slice s.oa s.k s.k]⟩,I 0]⟩)=some (.tuple ⟨[.agg ⟨[.slice s.oa s.k s.k]⟩,I 0]⟩):=by
 have:aS (sig []) [.agg ⟨[.slice s.oa s.k s.k]⟩,I 0]=some [.agg ⟨[.slice s.oa s.k s.k]⟩,I 0]:=bM (g8 (zO h)) rfl
 simp only[aP,this]
end
end Go.Proofs.Nw
namespace Go.Proofs.Nw
open Go Go.AV Tryz
abbrev ic(cs:List Value)(n:Nat):aa:= .az ⟨cs,n*9,9,62,true,true,0,true⟩
abbrev aal(n:Nat):Value:= .slice (some ⟨3,0,none⟩) n n
def mG(J:dz)(i:Nat):Live:=[(2,ip 0),(3,ip 1),(4,ip 2),(26,J.v),(27,iv J.n),(28,iv i)]
def Nj(z:T aa)(zn:Nat)(N:aq)(J:dz)(e:Int):eY:=⟨3,186,[],mG J 0,[(0,N.box),(1,jB J.v),(2,jB an)],3,none,alt (e≠0) ⟨.ret,[(4,ip 2),(5,zv e)],[(2,jB an)],3,z,zn⟩ (alt (e=0) ⟨.exit 0,[(2,ip 0),(3,ip 1),(4,ip 2)],[(0,N.box),(1,jB J.v),(2,jB an)],3,z,zn⟩ .nil)⟩
def U3(z:T aa)(zn:Nat)(N:aq)(J:dz)(e:Int):eY:=⟨3,186,[],mG J 0,[(0,N.box),(1,jB J.v),(2,jB an)],3,none,alt (e≠0) ⟨.ret,[(4,ip 2),(5,zv e)],[(2,jB an)],3,z,zn⟩ .nil⟩
def U2(z:T aa)(zn:Nat)(N:aq)(J:dz):eY:=⟨3,186,[],mG J 0,[(0,N.box),(1,jB J.v),(2,jB an)],3,none,alt True ⟨.exit 0,[(2,ip 0),(3,ip 1),(4,ip 2)],[(0,N.box),(1,jB J.v),(2,jB an)],3,z,zn⟩ .nil⟩
def kG(n i:Nat):Live:=[(2,ip 0),(4,ip 2),(11,aal n),(72,iv n),(73,iv i)]
def U1(z:T aa)(zn:Nat)(N:aq)(n:Nat)(cs cs':List Value):eY:=⟨4,186,[],kG n 0,[(0,N.box),(2,jB an),(3,ic cs n)],4,none,alt True ⟨.exit 2,[(4,ip 2),(11,tb zn n n)],[(2,jB an)],4,z.set zn (ic cs' n),zn+1⟩ .nil⟩
def DA(now:Int)(v:Value)(n i:Nat):Live:=[(1,zv now),(2,ip 0),(8,v),(9,iv n),(10,iv i)]
def aax(z:T aa)(zn:Nat)(now:Int)(v:Value)(n m:Nat):eY:=⟨1,24,[],DA now v n 0,[(0,jB v)],1,none,alt (m<n) ⟨.ret,[(4,iv m)],[],1,z,zn⟩ (alt (m=n) ⟨.exit 0,[(2,ip 0)],[(0,jB v)],1,z,zn⟩ .nil)⟩
def Dz(now:Int)(i:Nat):Live:=[(1,zv now),(2,ip 0),(5,iv i)]
def aaw(z:T aa)(zn:Nat)(now:Int)(v:Value)(n m:Nat):eY:=⟨1,25,[],Dz now 0,[(0,jB v)],1,none,alt (m<n) ⟨.ret,[(4,iv m)],[],1,z,zn⟩ (alt (m=n) ⟨.exit 0,[(2,ip 0)],[(0,jB v)],1,z,zn⟩ .nil)⟩
def j9(v:Value)(i:Nat):Live:=[(2,ip 0),(3,ip 1),(4,ip 2),(6,v),(7,iv i)]
def Ni(z z':T aa)(zn zn':Nat)(N:aq)(J:dz)(v':Value)(e:Int):eY:=⟨3,129,[],j9 an 0,[(0,N.box),(1,jB J.v),(2,jB an)],3,none,alt (e≠0) ⟨.ret,[(4,ip 2),(5,zv e)],[(2,jB an)],3,z',zn'⟩ (alt (e=0) ⟨.exit 0,[(4,ip 2),(6,v')],[(2,jB an)],3,z',zn'⟩ .nil)⟩
def U0(z z':T aa)(zn zn':Nat)(N:aq)(J:dz)(v':Value):eY:=⟨3,129,[],j9 an 0,[(0,N.box),(1,jB J.v),(2,jB an)],3,none,alt True ⟨.exit 0,[(4,ip 2),(6,v')],[(2,jB an)],3,z',zn'⟩ .nil⟩
def Dy(i:Nat):Live:=[(2,ip 0),(5,iv i)]
def aav(z:T aa)(zn:Nat)(N:aq)(b:Bool):eY:=⟨2,62,[],Dy 0,[(0,N.box)],2,none,alt (b=false) ⟨.ret,[(4,F0)],[],2,z,zn⟩ (alt (b=true) ⟨.exit 0,[],[],2,z,zn⟩ .nil)⟩
abbrev n6(q:nc)(J:dz)(now:Int):Value:= .agg ⟨[zv q.fz1,zv q.aB,zv q.time, .bool q.back,zv q.ba,zv q.walk, .bool q.sf, .bool q.OO,zv q.bL, .bool q.Oj,J.v,zv now]⟩
end Go.Proofs.Nw
namespace Go.Proofs.Nw
open Go Go.AV Tryz
set_option maxRecDepth 1000000
noncomputable section
theorem uea(z:T aa)(zn:Nat)(N:aq)(x:ak)(Q:QF)(hyp:Value.bool (decide (x.run>=0))=F0/\E6 41 z zn (YQ/\Q F0 [] 0 z zn)):FnT prog Yi z f25 [Yj N,AG x.row] z [] 0 zn Q:=K1t hyp (tA 1 (tO kx (tA 29 (Yo z zn))))
theorem ueb(z:T aa)(zn:Nat)(N:aq)(x:ak)(Q:QF)(hyp:Value.bool (decide (x.run>=0))=T1/\Value.bool (decide (x.run<(↑N.nu:Int)))=F0/\E6 41 z zn (YQ/\Q F0 [] 0 z zn)):FnT prog Yi z f25 [AG N.nZ,AG x.row] z [] 0 zn Q:=K1t hyp (tA 1 (tO kI (tA 8 (tO kx (tA 23 (Yo z zn))))))
theorem uez(z:T aa)(zn:Nat)(N:aq)(x:ak)(Q:QF)(hyp:Value.bool (decide (x.run>=0))=T1/\Value.bool (decide (x.run<0))=F0/\E6 41 z zn (YQ/\Q F0 [] 0 z zn)):FnT prog Yi z f25 [AG (N.ed an N.l0),AG x.row] z [] 0 zn Q:=K1t hyp (tA 1 (tO kI (tA 8 (tO kx (tA 23 (Yo z zn))))))
theorem uec(z:T aa)(zn r m c:Nat)(N:aq)(kr:aV)(x:ak)(Q:QF)(hyp:Value.bool (decide (x.run>=0))=T1/\Value.bool (decide (x.run<(↑N.nu:Int)))=T1/\Br (decide (x.pZ>=0)) (Br (decide (x.pZ<x.off)) (x.run=(↑r:Int)/\r<N.nu/\C1/\C0 z kr/\Ib kr r m c/\Br (decide (x.off<(↑m:Int))) (E6 41 z zn (YA/\Q T1 [] 0 z zn)) (E6 41 z zn (YQ/\Q F0 [] 0 z zn))) (E6 41 z zn (YQ/\Q F0 [] 0 z zn))) (E6 41 z zn (YQ/\Q F0 [] 0 z zn))):FnT prog Yi z f25 [AG N.nZ,AG x.row] z [] 0 zn Q:=K1t hyp (tA 1 (tO kI (tA 8 (tO kI (tA 5 ((tA 8 ((tA 11 (tO (bS r) (tA 2 (tO (Ic kr r m c) (tA 2 ((tA 1 (Yn z zn)).fork (tA 1 (Yo z zn)))))))).fork (tA 13 (Yo z zn)))).fork (tA 19 (Yo z zn))))))))
abbrev xq(x:ak):List Value:=[Value.bool x.bg,ZV x.run,ZV x.pZ,ZV x.off,ZV x.fz1,ZV x.aB,ZV x.dep,ZV x.arr,Value.bool x.stay]
abbrev OW(N:aq)(x:ak):List Value:=[AG (Ya N),AG (xq x)]
abbrev WK(N:aq)(x:ak):Prop:=aS Yf (OW N x)=some (OW N x)
theorem uba(z:T aa)(zn:Nat)(N:aq)(x:ak)(b:Bool)(Q:QF)(hyp:Br x.bg (aF prog z zn 50 (OW N x) [] 0 0 Yc (sR b) Ye/\WK N x/\ ∀(x_1:Unit),True->Rs (fY b)/\Br (!b) (E6 33 z zn (Hv/\Q gU [] 0 z zn)) (Value.bool x.bg=T1/\E6 33 z zn (w5/\Q YM [] 0 z zn))) (Value.bool x.bg=F0/\Br (decide (x.dep<0)) (E6 33 z zn (AB/\Q tV [] 0 z zn)) (Br (decide (x.dep>x.arr)) (E6 33 z zn (AB/\Q tV [] 0 z zn)) (Br (decide (x.arr>3155932800)) (E6 33 z zn (AB/\Q tV [] 0 z zn)) (E6 33 z zn (w5/\Q YM [] 0 z zn)))))):FnT prog Yi z f26 [Yj N,AG x.row] z [] 0 zn Q:=K1t hyp ((tA 5 (Tr.cm (Cm.mk (OW N x) [] 0 0 [] [] 2) Unit Yc (sR b) Ye (sR b) Ye (Yl z) (Ym zn) fun(x:Unit)=>tA 2 ((LB z zn).fork (tO kI (tA 9 (Ij z zn)))))).fork (tA 6 (tO kx (tA 4 ((tA 16 (Md z zn)).fork (tA 8 ((tA 10 (Md z zn)).fork (tA 7 ((tA 4 (Md z zn)).fork (tA 4 (Ij z zn)))))))))))
abbrev SJ(kj:aV)(i:Nat)(x:ak):Prop:=ai prog kj 62 (0+i*9)=some (AG (xq x))
abbrev mU:Prop:=Rs (BQ [Y5] 1 1 34)
abbrev qd:Nat × Value:=(4,eP)
abbrev nn:Nat × aa:=(2,BQ [Y5] 1 1 34)
abbrev sN(K n cp:Nat):aa:=BQ [SL (tF K) n cp] 1 1 34
abbrev XJ(K n cp i:Nat):List (Nat × Value):=[sQ,(3,Yp),qd,(26,SL (tF K) n cp),(27,IV n),(28,IV (i+1))]
abbrev PQ(N:aq)(K n cp:Nat):List (Nat × aa):=[(0,pw N),(1,sN K n cp),nn]
noncomputable abbrev TN:Code:=ah (ag f11) 0
abbrev SN(K n cp:Nat):dz:=dz.mk (some (Addr.mk (tF K) 0 none)) n cp
abbrev qk:Nat × aa:=(2,jB an)
noncomputable abbrev OY(K:Nat)(kj:aV)(x:ak):An:=An.ld K kj (AG x.row)
noncomputable abbrev XI(N:aq)(x:ak):Cm:=Cm.mk (OW N x) [] 0 0 [] [] 4
noncomputable abbrev YI9(z:T aa)(zn:Nat):Tr:=tE [Y6] [] [qd,(5,tV)] [nn] 3 z zn
theorem uta(z:T aa)(zn i K n cp:Nat)(N:aq)(x:ak)(b:Bool)(kj:aV)(Q:QL)(hyp:Value.bool (decide ((↑i:Int)<(↑n:Int)))=T1/\cG i/\i<n/\fH K/\fR z K kj/\SJ kj i x/\Br x.bg (aF prog z zn 25 (OW N x) [] 0 0 Yc (sR b) Ye/\WK N x/\ ∀(x_1:Unit),True->Rs (fY b)/\Br (!b) (E6 186 z zn (R2 eP gU (mU/\Q af.ret [qd,(5,gU)] [nn] 3 z zn))) (Value.bool x.bg=T1/\ZV (IntKind.i64.wrap ((↑i:Int)+1))=IV (i+1)/\E6 186 z zn (R6 Y3 Yp eP (SL (tF K) n cp) (IV n) (IV (i+1)) (KO Y8 (pw N)/\Rs (sN K n cp)/\mU/\Q aN (XJ K n cp i) (PQ N K n cp) 3 z zn)))) (Value.bool x.bg=F0/\Br (decide (x.dep<0)) (E6 186 z zn (R2 eP tV (mU/\Q af.ret [qd,(5,tV)] [nn] 3 z zn))) (Br (decide (x.dep>x.arr)) (E6 186 z zn (R2 eP tV (mU/\Q af.ret [qd,(5,tV)] [nn] 3 z zn))) (Br (decide (x.arr>3155932800)) (E6 186 z zn (R2 eP tV (mU/\Q af.ret [qd,(5,tV)] [nn] 3 z zn))) (ZV (IntKind.i64.wrap ((↑i:Int)+1))=IV (i+1)/\E6 186 z zn (R6 Y3 Yp eP (SL (tF K) n cp) (IV n) (IV (i+1)) (KO Y8 (pw N)/\Rs (sN K n cp)/\mU/\Q aN (XJ K n cp i) (PQ N K n cp) 3 z zn))))))):RdT prog Yi cW TN 186 (mG (SN K n cp) i) z [(0,N.box),(1,jB (tb K n cp)),qk] 3 zn 3 Q:=K1t hyp (tO kI (tA 1 (tO (bS i) (tO (OY K kj x) (tA 1 ((tA 5 (Tr.cm (XI N x) Unit Yc (sR b) Ye (sR b) Ye (Yl z) (Ym zn) fun(x:Unit)=>tA 2 ((tA 1 (tE [Y6] [] [qd,(5,gU)] [nn] 3 z zn)).fork (tO kI (tA 9 (tO (dI i) (tE Y7 [] (XJ K n cp i) (PQ N K n cp) 3 z zn))))))).fork (tA 6 (tO kx (tA 4 ((tA 17 (YI9 z zn)).fork (tA 8 ((tA 11 (YI9 z zn)).fork (tA 7 ((tA 5 (YI9 z zn)).fork (tA 4 (tO (dI i) (tE Y7 [] (XJ K n cp i) (PQ N K n cp) 3 z zn)))))))))))))))))
abbrev yS(J:dz):Value:=Value.slice J.a J.n J.c
abbrev Lr(J:dz):aa:=BQ [yS J] 1 1 34
abbrev PG(N:aq)(J:dz):List (Nat × aa):=[(0,N.box),(1,jB J.v),qk]
theorem ZY(z:T aa)(zn i:Nat)(N:aq)(J:dz)(Q:QL)(hyp:Value.bool (decide ((↑i:Int)<(↑J.n:Int)))=F0/\E6 186 z zn (R3 Y3 Yp eP (K2 Y8 (pw N) (Lr J) (mU/\Q YO [sQ,(3,Yp),qd] [(0,pw N),(1,Lr J),nn] 3 z zn)))):RdT prog Yi cW TN 186 (mG J i) z (PG N J) 3 zn 3 Q:=K1t hyp (tO kx (tA 1 (tE Y7 [] [sQ,(3,Yp),qd] [(0,pw N),(1,Lr J),nn] 3 z zn)))
end
noncomputable section
abbrev wW(cs0:List Value)(n:Nat):aV:=aV.mk cs0 (n*9) 9 62 true true 0 true
abbrev PF(x:ak):Option Value:=some (Value.bool x.bg)
abbrev Xt(kc:aV)(b:Nat)(vd:Int):Prop:=ai prog kc 3 (0+b*5+2)=some (ZV vd)
abbrev YJG(kc:aV)(o:Nat)(va:Int):Prop:=ai prog kc 3 (0+o*5+1)=some (ZV va)
abbrev Lq:List (Nat × Nat):=[YB,Y6,(3,3)]
abbrev TH(cs2:List Value)(n:Nat):Prop:=KO (ay Lq []) (BQ cs2 (n*9) 9 62)
abbrev Xs(n i:Nat):List (Nat × Value):=[sQ,qd,(11,jM n),(72,IV n),(73,IV (i+1))]
noncomputable abbrev SI:Code:=ah (ag f11) 1
noncomputable abbrev L4(v0:Int):An:=An.val (ZV v0)
noncomputable abbrev TG(x:ak):An:=An.pP (Value.bool x.bg)
theorem utb(z:T aa)(zn i n q m c b o:Nat)(N:aq)(x:ak)(kr kc:aV)(cs0 cs1 cs2:List Value)(va vd v0:Int)(Q:QL)(hyp:Value.bool (decide ((↑i:Int)<(↑n:Int)))=T1/\cG i/\i<n/\ai prog (wW cs0 n) 3 (0+i*9+7)=some (ZV x.arr)/\ai prog (wW cs0 n) 3 (0+i*9+6)=some (ZV x.dep)/\WP1 (x.arr - x.dep) v0/\ai prog (wW cs0 n) 4 (0+i*9+0)=PF x/\x.bg=true/\ai prog (wW cs0 n) 3 (0+i*9+1)=some (ZV x.run)/\x.run=(↑q:Int)/\q<N.nu/\C1/\C0 z kr/\Ib kr q m c/\ai prog (wW cs0 n) 3 (0+i*9+2)=some (ZV x.pZ)/\x.pZ=(↑b:Int)/\b<m/\Hz q/\Hy z q kc/\Xt kc b vd/\ai prog (wW cs0 n) 3 (0+i*9+3)=some (ZV x.off)/\x.off=(↑o:Int)/\o<m/\Hz q/\Hy z q kc/\YJG kc o va/\overwrite cs0 (0+i*9+6) [ZV vd]=some cs1/\cs1.length<=n*9/\overwrite cs1 (0+i*9+7) [ZV va]=some cs2/\cs2.length<=n*9/\ZV (IntKind.i64.wrap ((↑i:Int)+1))=IV (i+1)/\E6 186 z zn (R5 Y3 eP (jM n) (IV n) (IV (i+1)) (KO (ay Lq []) (uE N)/\mU/\TH cs2 n/\Q aN (Xs n i) [(0,uE N),nn,(3,BQ cs2 (n*9) 9 62)] 4 z zn))):RdT prog Yi cW SI 186 (kG n i) z [(0,N.iw),qk,(3,ic cs0 n)] 4 zn 4 Q:=K1t hyp (tO kI (tA 1 (tO (bS i) (tO (An.pP (zv x.arr)) (tO (An.pP (zv x.dep)) (tO (L4 v0) (tO (TG x) (tO bI (tA 1 (tO (An.pP (zv x.run)) (tO (bS q) (tO (Ic kr q m c) (tO (An.pP (zv x.pZ)) (tO (bS b) (tO (HA q kc vd) (tO (An.pP (zv x.off)) (tO (bS o) (tO (HA q kc va) (tX (jE.EB cs1) (tX (jE.EB cs2) (tO (dI i) (tE Lq [] (Xs n i) [(0,uE N),nn,(3,BQ cs2 (n*9) 9 62)] 4 z zn))))))))))))))))))))))
abbrev TF(N:aq):Prop:=KO (ay Lq []) (pw N)
abbrev TE(N:aq)(cs2:List Value)(n:Nat):List (Nat × aa):=[(0,pw N),nn,(3,BQ cs2 (n*9) 9 62)]
theorem utc(z:T aa)(zn i n:Nat)(N:aq)(x:ak)(cs0 cs1 cs2:List Value)(pa v0 v1:Int)(Q:QL)(hyp:Value.bool (decide ((↑i:Int)<(↑n:Int)))=T1/\cG i/\i<n/\ai prog (wW cs0 n) 3 (0+i*9+7)=some (ZV x.arr)/\ai prog (wW cs0 n) 3 (0+i*9+6)=some (ZV x.dep)/\WP1 (x.arr - x.dep) v0/\ai prog (wW cs0 n) 4 (0+i*9+0)=PF x/\x.bg=false/\Value.bool (decide ((↑i:Int)>0))=T1/\WQ1 ((↑i:Int) - 1)/\(↑i:Int) - 1=(↑(i - 1):Int)/\i - 1<n/\ai prog (wW cs0 n) 3 (0+(i - 1)*9+7)=some (ZV pa)/\overwrite cs0 (0+i*9+6) [ZV pa]=some cs1/\cs1.length<=n*9/\ai prog (wW cs1 n) 3 (0+i*9+6)=some (ZV pa)/\WP1 (pa+v0) v1/\overwrite cs1 (0+i*9+7) [ZV v1]=some cs2/\cs2.length<=n*9/\ZV (IntKind.i64.wrap ((↑i:Int)+1))=IV (i+1)/\E6 186 z zn (R5 Y3 eP (jM n) (IV n) (IV (i+1)) (TF N/\mU/\TH cs2 n/\Q aN (Xs n i) (TE N cs2 n) 4 z zn))):RdT prog Yi cW SI 186 (kG n i) z [(0,N.box),qk,(3,ic cs0 n)] 4 zn 4 Q:=K1t hyp (tO kI (tA 1 (tO (bS i) (tO (An.pP (zv x.arr)) (tO (An.pP (zv x.dep)) (tO (L4 v0) (tO (TG x) (tO bc (tO kI (tA 1 (tO (An.val (ZV ((↑i:Int) - 1))) (tO (SV i) (tO (An.pP (zv pa)) (tX (jE.EB cs1) (tO (An.pP (zv pa)) (tO (L4 v1) (tX (jE.EB cs2) (tO (dI i) (tE Lq [] (Xs n i) (TE N cs2 n) 4 z zn)))))))))))))))))))
abbrev TD(n:Nat):List (Nat × Value):=[sQ,qd,(11,jM n),(72,IV n),(73,iq)]
noncomputable abbrev SH:An:=An.idx 1
theorem utd(z:T aa)(zn n q m c b:Nat)(N:aq)(x y:ak)(kr kc:aV)(cs0 cs1 cs2:List Value)(vd v0 v1:Int)(Q:QL)(hyp:Br (decide (0<(↑n:Int))) (Int.ofNat 0=0/\0<n/\ai prog (wW cs0 n) 3 7=some (ZV x.arr)/\ai prog (wW cs0 n) 3 6=some (ZV x.dep)/\WP1 (x.arr - x.dep) v0/\ai prog (wW cs0 n) 4 0=PF x/\x.bg=false/\Value.bool (decide ((↑n:Int)>1))=T1/\Int.ofNat 1=1/\1<n/\ai prog (wW cs0 n) 4 9=PF y/\y.bg=true/\Int.ofNat 1=1/\1<n/\ai prog (wW cs0 n) 3 10=some (ZV y.run)/\y.run=(↑q:Int)/\q<N.nu/\C1/\C0 z kr/\Ib kr q m c/\Int.ofNat 1=1/\1<n/\ai prog (wW cs0 n) 3 11=some (ZV y.pZ)/\y.pZ=(↑b:Int)/\b<m/\Hz q/\Hy z q kc/\Xt kc b vd/\overwrite cs0 7 [ZV vd]=some cs1/\cs1.length<=n*9/\ai prog (wW cs1 n) 3 7=some (ZV vd)/\WP1 (vd - v0) v1/\overwrite cs1 6 [ZV v1]=some cs2/\cs2.length<=n*9/\E6 186 z zn (R5 Y3 eP (jM n) (IV n) iq (KO (ay Lq []) (uE N)/\mU/\TH cs2 n/\Q aN (TD n) [(0,uE N),nn,(3,BQ cs2 (n*9) 9 62)] 4 z zn))) (E6 186 z zn (R2 eP (jM n) (mU/\KO (ay [Y6,(3,3)] []) (BQ cs0 (n*9) 9 62)/\Q iy [qd,(11,jM n)] [nn,(3,BQ cs0 (n*9) 9 62)] 4 z zn)))):RdT prog Yi cW SI 186 (kG n 0) z [(0,N.iw),qk,(3,ic cs0 n)] 4 zn 4 Q:=K1t hyp ((tA 1 (tO Lz (tO (An.pP (zv x.arr)) (tO (An.pP (zv x.dep)) (tO (L4 v0) (tO (TG x) (tO bc (tA 2 (tO kI (tA 2 (tO SH (tA 2 (tO (TG y) (tA 1 (tO bI (tA 1 (tO SH (tO (An.pP (zv y.run)) (tO (bS q) (tO (Ic kr q m c) (tO SH (tO (An.pP (zv y.pZ)) (tO (bS b) (tO (HA q kc vd) (tX (jE.EB cs1) (tO (An.pP (zv vd)) (tO (L4 v1) (tX (jE.EB cs2) (tA 1 (tE Lq [] (TD n) [(0,uE N),nn,(3,BQ cs2 (n*9) 9 62)] 4 z zn)))))))))))))))))))))))))))))).fork (tA 1 (tE [Y6,(3,3)] [] [qd,(11,jM n)] [nn,(3,BQ cs0 (n*9) 9 62)] 4 z zn)))
theorem ZX(z:T aa)(zn n:Nat)(N:aq)(x y:ak)(cs0:List Value)(v0:Int)(Q:QL)(hyp:Br (decide (0<(↑n:Int))) (Int.ofNat 0=0/\0<n/\ai prog (wW cs0 n) 3 7=some (ZV x.arr)/\ai prog (wW cs0 n) 3 6=some (ZV x.dep)/\WP1 (x.arr - x.dep) v0/\ai prog (wW cs0 n) 4 0=PF x/\x.bg=false/\Br (decide ((↑n:Int)>1)) (Int.ofNat 1=1/\1<n/\ai prog (wW cs0 n) 4 9=PF y/\y.bg=false/\E6 186 z zn (R5 Y3 eP (jM n) (IV n) iq (TF N/\mU/\TH cs0 n/\Q aN (TD n) (TE N cs0 n) 4 z zn))) (E6 186 z zn (R5 Y3 eP (jM n) (IV n) iq (TF N/\mU/\TH cs0 n/\Q aN (TD n) (TE N cs0 n) 4 z zn)))) (E6 186 z zn (R2 eP (jM n) (mU/\KO (ay [Y6,(3,3)] []) (BQ cs0 (n*9) 9 62)/\Q iy [qd,(11,jM n)] [nn,(3,BQ cs0 (n*9) 9 62)] 4 z zn)))):RdT prog Yi cW SI 186 (kG n 0) z [(0,N.box),qk,(3,ic cs0 n)] 4 zn 4 Q:=K1t hyp ((tA 1 (tO Lz (tO (An.pP (zv x.arr)) (tO (An.pP (zv x.dep)) (tO (L4 v0) (tO (TG x) (tO bc (tA 2 ((tA 2 (tO SH (tA 2 (tO (TG y) (tA 1 (tO bc (tA 1 (tE Lq [] (TD n) (TE N cs0 n) 4 z zn)))))))).fork (tA 7 (tE Lq [] (TD n) (TE N cs0 n) 4 z zn))))))))))).fork (tA 1 (tE [Y6,(3,3)] [] [qd,(11,jM n)] [nn,(3,BQ cs0 (n*9) 9 62)] 4 z zn)))
theorem ute(z:T aa)(zn n i:Nat)(N:aq)(cs0:List Value)(Q:QL)(hyp:Value.bool (decide ((↑i:Int)<(↑n:Int)))=F0/\E3 186 (Rf (gb z [(zn,3,BQ cs0 (n*9) 9 62)])/\zn.le (zn+1)/\aw z zn/\zn<=zn/\zn<zn+1/\KO (ay [Y6] [(zn,3,BQ cs0 (n*9) 9 62)]) (BQ cs0 (n*9) 9 62)/\Rs eP/\aP (ay [Y6] [(zn,3,BQ cs0 (n*9) 9 62)]) (eg zn n)=some (jM n)/\mU/\Q iy [qd,(11,eg zn n)] [nn] 4 (gb z [(zn,3,BQ cs0 (n*9) 9 62)]) (zn+1))):RdT prog Yi cW SI 186 (kG n i) z [(0,N.box),qk,(3,ic cs0 n)] 4 zn 4 Q:=K1t hyp (tO kx (tA 1 (tE [Y6] [(zn,3,BQ cs0 (n*9) 9 62)] [qd,(11,eg zn n)] [nn] 4 (gb z [(zn,3,BQ cs0 (n*9) 9 62)]) (zn+1))))
end
end Go.Proofs.Nw
namespace Go.Proofs.Nw
open Go Go.AV Tryz
set_option maxHeartbeats 1000000
set_option maxRecDepth 100000
theorem Ce{sz:Nat}(v:Value): ∀(rows:List (List Value)) (i j:Nat) (r:List Value),(∀r∈rows,r.length=sz)->rows[i]? =some r->j<sz->rows.flatten.set (i*sz+j) v=(rows.set i (r.set j v)).flatten
 |[],i,j,r,_,h,_=>by simp at h
 |a::l,0,j,r,hl,h,hj=>by
  have ha:=hl a (List.mem_cons_self ..)
  have e:a=r:=by simpa using h
  subst e
  simp only[List.flatten_cons,List.set_cons_zero,Nat.zero_mul,Nat.zero_add]
  rw[List.set_append_left _ _ (by omega)]
 |a::l,i+1,j,r,hl,h,hj=>by
  have ha:=hl a (List.mem_cons_self ..)
  have:=Ce v l i j r (fun r hr=>hl r (List.mem_cons_of_mem _ hr)) (by simpa using h) hj
  simp only[List.flatten_cons,List.set_cons_succ]
  rw[List.set_append_right _ _ (by rw[ha,Nat.succ_mul];omega),←this,show(i+1)*sz+j - a.length=i*sz+j by rw[ha,Nat.succ_mul];omega]
theorem iU{L:List ak}{i j:Nat}{x y:ak}(hx:L[i]? =some x)(v:Value)(hj:j<9)(hy:x.row.set j v=y.row):overwrite (L.map ak.row).flatten (0+i*9+j) [v]=some ((L.set i y).map ak.row).flatten:=by
 have hi:=(List.getElem?_eq_some_iff.1 hx).1
 rw[MZ (by rw[nO];omega),Nat.zero_add,Ce v _ i j x.row (aO (row:=ak.row) (sz:=9) L fun _=>rfl) (by rw[List.getElem?_map,hx];rfl) hj,hy,jH]
theorem sm{L:List ak}{i j:Nat}{x:ak}{v:Value}{t:TypeId}{d:TypeDesc}(hx:L[i]? =some x){B:aV}(hB:B.cells=(L.map ak.row).flatten)(ht:prog.underlying t=some d)(hd:lz d=false)(hv:x.row[j]? =some v):ai prog B t (0+i*9+j)=some v:=
 mE (rows:=L.map ak.row) (sz:=9) hB ht hd (aO (row:=ak.row) (sz:=9) L fun _=>rfl) (by rw[List.getElem?_map,hx];rfl) hv
structure Xa(B:aV)(i:Nat)(x:ak):Prop where
 bg:ai prog B 4 (0+i*9+0)=some (.bool x.bg)
 run:ai prog B 3 (0+i*9+1)=some (zv x.run)
 pZ:ai prog B 3 (0+i*9+2)=some (zv x.pZ)
 off:ai prog B 3 (0+i*9+3)=some (zv x.off)
 dep:ai prog B 3 (0+i*9+6)=some (zv x.dep)
 arr:ai prog B 3 (0+i*9+7)=some (zv x.arr)
theorem kS{L:List ak}{i:Nat}{x:ak}(hx:L[i]? =some x){B:aV}(hB:B.cells=(L.map ak.row).flatten):Xa B i x:=
 ⟨sm hx hB underlying4 rfl rfl,sm hx hB underlying3 rfl rfl,sm hx hB underlying3 rfl rfl,sm hx hB underlying3 rfl rfl,sm hx hB underlying3 rfl rfl,sm hx hB underlying3 rfl rfl⟩
abbrev fL(L:List ak)(n:Nat):aV:=⟨(L.map ak.row).flatten,n*9,9,62,true,true,0,true⟩
theorem sj{σ:Nat->Option Nat}(L:List ak)(n:Nat):aD σ (.az (fL L n))=some (.az (fL L n)):=cA (db L)
section
variable{z:T aa}{zn:Nat}{N:aq}{D:fP}
theorem V9(hz:aw z zn)(hN:c9 z N D)(hU:fy D.runs)(x:ak):A1 z zn 25 [.agg ⟨N.cells⟩, .agg ⟨x.row⟩] [] 0 0 (.bool (jd D.runs x)) []:=by
 have hnu:=dh hN.u
 by_cases h0:x.run<0
 ·rw[oP (.inl h0)]
  have e1:Value.bool (decide (x.run>=0))=Value.bool false:=by rw[decide_eq_false (show¬x.run>=0 by omega)]
  refine aK1 (bC (zg:=z)) (fn:=f25) hz (N:=100) ?_
  refine uea z zn N x _ ?_
  (repeat' first|(with_reducible first|exact rfl|assumption|apply And.intro|exact q1))
 have e1:Value.bool (decide (x.run>=0))=Value.bool true:=by rw[decide_eq_true (show x.run>=0 by omega)]
 by_cases h1:(N.nu:Int)<=x.run
 ·rw[oP (.inr (by omega))]
  have e2:Value.bool (decide (x.run<(N.nu:Int)))=Value.bool false:=by rw[decide_eq_false (show¬x.run<(N.nu:Int) by omega)]
  rcases hN.u with ⟨a1,a2,a3,_⟩|⟨a1,_⟩
  ·obtain⟨sa,ns,sc,ra,nr,rc,ua,nu,uc,la,nl,lc,pa,np,pc,fa,nf,fc,d,w,c⟩:=N
   simp only at a1 a2 a3
   subst a1 a2 a3
   have e3:Value.bool (decide (x.run<0))=Value.bool false:=by rw[decide_eq_false (show¬x.run<0 by omega)]
   refine aK1 (bC (zg:=z)) (fn:=f25) hz (N:=100) ?_
   refine uez z zn ⟨sa,ns,sc,ra,nr,rc,none,0,0,la,nl,lc,pa,np,pc,fa,nf,fc,d,w,c⟩ x _ ?_
   (repeat' first|(with_reducible first|exact rfl|assumption|apply And.intro|exact q1))
  ·obtain⟨sa,ns,sc,ra,nr,rc,ua,nu,uc,la,nl,lc,pa,np,pc,fa,nf,fc,d,w,c⟩:=N
   simp only at a1
   subst a1
   refine aK1 (bC (zg:=z)) (fn:=f25) hz (N:=100) ?_
   refine ueb z zn ⟨sa,ns,sc,ra,nr,rc,some ⟨766,0,none⟩,nu,uc,la,nl,lc,pa,np,pc,fa,nf,fc,d,w,c⟩ x _ ?_
   (repeat' first|(with_reducible first|exact rfl|assumption|apply And.intro|exact q1))
 have e2:Value.bool (decide (x.run<(N.nu:Int)))=Value.bool true:=by rw[decide_eq_true (show x.run<(N.nu:Int) by omega)]
 obtain⟨u,kr,cc,hu,ha,g1,_,r7,hl⟩:=Dd hN hU (y:=x.run) (by omega) (by omega)
 obtain⟨sa,ns,sc,ra,nr,rc,ua,nu,uc,la,nl,lc,pa,np,pc,fa,nf,fc,d,w,c⟩:=N
 simp only at ha hnu h1 e2
 subst ha
 have e3:x.run=((x.run.toNat:Nat):Int):=by omega
 have e4:x.run.toNat<nu:=by omega
 refine aK1 (bC (zg:=z)) (fn:=f25) hz (N:=100) ?_
 refine uec z zn x.run.toNat (gh D.runs x.run) cc ⟨sa,ns,sc,ra,nr,rc,some ⟨766,0,none⟩,nu,uc,la,nl,lc,pa,np,pc,fa,nf,fc,d,w,c⟩ kr x _ ?_
 (repeat' first|(with_reducible first|exact rfl|assumption|apply And.intro)|intro hq)
 all_goals (refine qh (congrArg Value.bool ?_);clear hN hz hU g1 r7 e1 e2;simp only[decide_eq_true_eq,decide_eq_false_iff_not,ge_iff_le] at*;apply Eq.symm;unfold jd;simp;intros;omega)
theorem Wv(hz:aw z zn)(hN:c9 z N D)(hU:fy D.runs)(x:ak):A1 z zn 26 [.agg ⟨N.cells⟩, .agg ⟨x.row⟩] [] 0 0 (zv (eI D.runs x)) []:=by
 have hc:=KU hz hN hU x
 have hv:aS (sig []) [.agg ⟨N.cells⟩, .agg ⟨x.row⟩]=some [.agg ⟨N.cells⟩, .agg ⟨x.row⟩]:=bM (hN.val []) rfl
 refine aK1 (bC (zg:=z)) (fn:=f26) hz (N:=100) ?_
 refine uba z zn N x (jd D.runs x) _ ?_
 (repeat' first|(with_reducible first|exact rfl|assumption|apply And.intro)|exact(congrArg Value.bool (by with_reducible assumption:x.bg=true))|exact(congrArg Value.bool (by with_reducible assumption:x.bg=false))|intro hq)
 all_goals (clear hc hv hz hN hU;refine qh ?_;unfold eI;simp_all;try omega)
structure qg(z:T aa)(N:aq)(x:ak)(kr kc:aV)(q m c b o:Nat)(vd va:Int):Prop where
 B7:N.ua=some ⟨766,0,none⟩
 hq:x.run=(q:Int)
 Tk:q<N.nu
 g1:z.get 1=some (.az kr)
 g2:ai prog kr 64 (0+q*8+7)=some (tb (6+q) m c)
 hb:x.pZ=(b:Int)
 Xg:b<m
 ho:x.off=(o:Int)
 Ft:o<m
 g3:z.get (6+q)=some (.az kc)
 g4:ai prog kc 3 (0+b*5+2)=some (zv vd)
 g5:ai prog kc 3 (0+o*5+1)=some (zv va)
theorem ui(hN:c9 z N D)(hU:fy D.runs){x:ak}(he:jd D.runs x=true): ∃(kr kc:aV)(q m c b o:Nat),qg z N x kr kc q m c b o (pX D.runs x) (qb D.runs x):=by
 obtain⟨h1,h2,h3,h4,h5⟩:=J7 he
 obtain⟨u,kr,cc,hu,ha,g1,_,r7,hl⟩:=Dd hN hU h1 h2
 have hnu:=dh hN.u
 have htc:=hN.tu.calls _ u hu
 obtain⟨cb,hcb⟩:=dm (l:=u.calls) (i:=x.pZ.toNat) (by omega)
 obtain⟨co,hco⟩:=dm (l:=u.calls) (i:=x.off.toNat) (by omega)
 obtain⟨e1,g3⟩:=htc.az (i:=x.pZ.toNat) (by simp;omega)
 have hlen:=aO (row:=br.row) (sz:=5) u.calls fun _=>rfl
 have r1:ai prog (bk e1 (u.calls.map br.row).flatten) 3 (0+x.pZ.toNat*5+2)=some (zv cb.dep):=aT (j:=2) underlying3 rfl hlen (by rw[List.getElem?_map,hcb];rfl) rfl
 have r2:ai prog (bk e1 (u.calls.map br.row).flatten) 3 (0+x.off.toNat*5+1)=some (zv co.arr):=aT (j:=1) underlying3 rfl hlen (by rw[List.getElem?_map,hco];rfl) rfl
 have d1:pX D.runs x=cb.dep:=by
  unfold pX Ae
  rw[hu]
  simp only
  rw[List.getD_eq_getElem?_getD,hcb];rfl
 have d2:qb D.runs x=co.arr:=by
  unfold qb Ae
  rw[hu]
  simp only
  rw[List.getD_eq_getElem?_getD,hco];rfl
 rw[d1,d2]
 exact⟨kr,_,x.run.toNat,gh D.runs x.run,cc,x.pZ.toNat,x.off.toNat,ha,by omega,by omega,g1,r7,by omega,by omega,by omega,by omega,g3,r1,r2⟩
end
section
variable{z:T aa}{zn i n:Nat}{N:aq}{x y:ak}{L:List ak}{Q:af->Live->bV->Nat->T aa->Nat->Prop}
theorem oA{L:List ak}{i:Nat}{a b:ak}:(L.set i a).set i b=L.set i b:=by simp
theorem eo{L:List ak}{i n:Nat}(h:L.length=n)(a:ak):((L.set i a).map ak.row).flatten.length<=n*9:=by rw[nO,List.length_set,h];exact Nat.le_refl _
theorem gL{L:List ak}{i:Nat}{x:ak}(hx:L[i]? =some x)(a:ak):(L.set i a)[i]? =some a:=List.getElem?_set_self (List.getElem?_eq_some_iff.1 hx).1
theorem QQ{kr kc:aV}{q m c b o:Nat}{vd va:Int}(hz:aw z zn)(hn:L.length=n)(hnn:n<1000000)(hx:L[i]? =some x)(hr:x.bg=true)(H:qg z N x kr kc q m c b o vd va)(DP: ∀σ,aD (ay σ []) (dB N)=some (dB N))
 (nx: ∀Y:ak,Y={x with dep:=vd,arr:=va}->Q .normal (kG n (i+1)) [(0,dB N),(2,jB an),(3,ic ((L.set i Y).map ak.row).flatten n)] 4 z zn):
 ∃t,dS prog (fun _ _=>none) (T.leaf:T aa) 100 (ah (ag f11) 1) (nJ 186 (kG n i)) (eC z [(0,dB N),(2,jB an),(3,ic (L.map ak.row).flatten n)] 4) zn (tQ 4 186 Q) t:=by
 have hi:i<n:=by have:=(List.getElem?_eq_some_iff.1 hx).1;omega
 have hc:Value.bool (decide ((i:Int)<(n:Int)))=Value.bool true:=by rw[decide_eq_true (by omega)]
 obtain⟨B7,hq,Tk,g1,g2,hb,Xg,ho,Ft,g3,g4,g5⟩:=H
 obtain⟨r0,r1,r2,r3,r6,r7⟩:=kS (B:=fL L n) hx rfl
 have w:=bH (n:=i) (by omega)
 have o1:overwrite (L.map ak.row).flatten (0+i*9+6) [zv vd]=some ((L.set i {x with dep:=vd}).map ak.row).flatten:=iU hx _ (by decide) rfl
 have o2:overwrite ((L.set i {x with dep:=vd}).map ak.row).flatten (0+i*9+7) [zv va]=some ((L.set i {x with dep:=vd,arr:=va}).map ak.row).flatten:=by
  rw[iU (gL hx _) (y:={x with dep:=vd,arr:=va}) _ (by decide) rfl,oA]
 have l1:=eo (i:=i) hn {x with dep:=vd}
 have l2:=eo (i:=i) hn {x with dep:=vd,arr:=va}
 have hrm:=sj (σ:=ay [(0,0),(2,2),(3,3)] []) (L.set i {x with dep:=vd,arr:=va}) n
 obtain⟨sa,ns,sc,ra,nr,rc,ua,nu,uc,la,nl,lc,pa,np,pc,fa,nf,fc,d,w',c'⟩:=N
 simp only at B7 Tk
 subst B7
 refine utb z zn i n q m c b o ⟨sa,ns,sc,ra,nr,rc,some ⟨766,0,none⟩,nu,uc,la,nl,lc,pa,np,pc,fa,nf,fc,d,w',c'⟩ x kr kc _ ((L.set i {x with dep:=vd}).map ak.row).flatten ((L.set i {x with dep:=vd,arr:=va}).map ak.row).flatten va vd (wr (x.arr - x.dep)) Q ?_
 (repeat' first|(with_reducible first|exact rfl|assumption|apply And.intro|exact DP _))
 exact nx _ rfl
theorem QP{p:ak}(hz:aw z zn)(hn:L.length=n)(hnn:n<1000000)(hx:L[i+1]? =some x)(hr:x.bg=false)(hp:L[i]? =some p)(DP: ∀σ,aD (ay σ []) (dB N)=some (dB N))
 (nx: ∀Y:ak,Y={x with dep:=p.arr,arr:=wr (p.arr+wr (x.arr - x.dep))}->Q .normal (kG n (i+1+1)) [(0,dB N),(2,jB an),(3,ic ((L.set (i+1) Y).map ak.row).flatten n)] 4 z zn):
 ∃t,dS prog (fun _ _=>none) (T.leaf:T aa) 100 (ah (ag f11) 1) (nJ 186 (kG n (i+1))) (eC z [(0,dB N),(2,jB an),(3,ic (L.map ak.row).flatten n)] 4) zn (tQ 4 186 Q) t:=by
 have hi:i+1<n:=by have:=(List.getElem?_eq_some_iff.1 hx).1;omega
 have hc:Value.bool (decide (((i+1:Nat):Int)<(n:Int)))=Value.bool true:=by rw[decide_eq_true (by omega)]
 have hc0:Value.bool (decide (((i+1:Nat):Int)>0))=Value.bool true:=by rw[decide_eq_true (by omega)]
 have w0:Value.int .i64 (IntKind.i64.wrap (((i+1:Nat):Int) - 1))=Value.int .i64 (((i+1:Nat):Int) - 1):=gV (by omega) (by omega)
 have e0:((i+1:Nat):Int) - 1=((i+1 - 1:Nat):Int):=by omega
 have e1:i+1 - 1<n:=by omega
 obtain⟨r0,r1,r2,r3,r6,r7⟩:=kS (B:=fL L n) hx rfl
 have rp:ai prog (fL L n) 3 (0+(i+1 - 1)*9+7)=some (zv p.arr):=(kS (B:=fL L n) hp rfl).arr
 have w:=bH (n:=i+1) (by omega)
 have o1:overwrite (L.map ak.row).flatten (0+(i+1)*9+6) [zv p.arr]=some ((L.set (i+1) {x with dep:=p.arr}).map ak.row).flatten:=iU hx _ (by decide) rfl
 have rd:ai prog (fL (L.set (i+1) {x with dep:=p.arr}) n) 3 (0+(i+1)*9+6)=some (zv p.arr):=(kS (B:=fL (L.set (i+1) {x with dep:=p.arr}) n) (gL hx _) rfl).dep
 have o2:overwrite ((L.set (i+1) {x with dep:=p.arr}).map ak.row).flatten (0+(i+1)*9+7) [zv (wr (p.arr+wr (x.arr - x.dep)))]=some ((L.set (i+1) {x with dep:=p.arr,arr:=wr (p.arr+wr (x.arr - x.dep))}).map ak.row).flatten:=by
  rw[iU (gL hx _) (y:={x with dep:=p.arr,arr:=wr (p.arr+wr (x.arr - x.dep))}) _ (by decide) rfl,oA]
 have l1:=eo (i:=i+1) hn {x with dep:=p.arr}
 have l2:=eo (i:=i+1) hn {x with dep:=p.arr,arr:=wr (p.arr+wr (x.arr - x.dep))}
 have hrm:=sj (σ:=ay [(0,0),(2,2),(3,3)] []) (L.set (i+1) {x with dep:=p.arr,arr:=wr (p.arr+wr (x.arr - x.dep))}) n
 refine utc z zn (i+1) n N x _ ((L.set (i+1) {x with dep:=p.arr}).map ak.row).flatten ((L.set (i+1) {x with dep:=p.arr,arr:=wr (p.arr+wr (x.arr - x.dep))}).map ak.row).flatten p.arr (wr (x.arr - x.dep)) (wr (p.arr+wr (x.arr - x.dep))) Q ?_
 (repeat' first|(with_reducible first|exact rfl|assumption|apply And.intro|exact DP _))
 exact nx _ rfl
theorem QO{kr kc:aV}{q m c b o:Nat}{vd va:Int}(hz:aw z zn)(hn:L.length=n)(hnn:n<1000000)(hx:L[0]? =some x)(hr:x.bg=false)(hy:L[1]? =some y)(hry:y.bg=true)(H:qg z N y kr kc q m c b o vd va)(DP: ∀σ,aD (ay σ []) (dB N)=some (dB N))
 (nx: ∀Y:ak,Y={x with arr:=vd,dep:=wr (vd - wr (x.arr - x.dep))}->Q .normal (kG n (0+1)) [(0,dB N),(2,jB an),(3,ic ((L.set 0 Y).map ak.row).flatten n)] 4 z zn):
 ∃t,dS prog (fun _ _=>none) (T.leaf:T aa) 100 (ah (ag f11) 1) (nJ 186 (kG n 0)) (eC z [(0,dB N),(2,jB an),(3,ic (L.map ak.row).flatten n)] 4) zn (tQ 4 186 Q) t:=by
 have hi0:0<n:=by have:=(List.getElem?_eq_some_iff.1 hx).1;omega
 have hi1:1<n:=by have:=(List.getElem?_eq_some_iff.1 hy).1;omega
 have hc:decide ((0:Int)<(n:Int))=true:=by rw[decide_eq_true (by omega)]
 have hc1:Value.bool (decide ((n:Int)>1))=Value.bool true:=by rw[decide_eq_true (by omega)]
 obtain⟨B7,hq,Tk,g1,g2,hb,Xg,ho,Ft,g3,g4,g5⟩:=H
 have rx:=kS (B:=fL L n) hx rfl
 have ry:=kS (B:=fL L n) hy rfl
 have x0:ai prog (fL L n) 4 0=some (.bool x.bg):=rx.bg
 have x6:ai prog (fL L n) 3 6=some (zv x.dep):=rx.dep
 have x7:ai prog (fL L n) 3 7=some (zv x.arr):=rx.arr
 have y0:ai prog (fL L n) 4 9=some (.bool y.bg):=ry.bg
 have y1:ai prog (fL L n) 3 10=some (zv y.run):=ry.run
 have y2:ai prog (fL L n) 3 11=some (zv y.pZ):=ry.pZ
 have o1:overwrite (L.map ak.row).flatten 7 [zv vd]=some ((L.set 0 {x with arr:=vd}).map ak.row).flatten:=iU (j:=7) hx _ (by decide) rfl
 have rd:ai prog (fL (L.set 0 {x with arr:=vd}) n) 3 7=some (zv vd):=(kS (B:=fL (L.set 0 {x with arr:=vd}) n) (gL hx _) rfl).arr
 have o2:overwrite ((L.set 0 {x with arr:=vd}).map ak.row).flatten 6 [zv (wr (vd - wr (x.arr - x.dep)))]=some ((L.set 0 {x with arr:=vd,dep:=wr (vd - wr (x.arr - x.dep))}).map ak.row).flatten:=by
  have:=iU (gL hx {x with arr:=vd}) (y:={x with arr:=vd,dep:=wr (vd - wr (x.arr - x.dep))}) (j:=6) (zv (wr (vd - wr (x.arr - x.dep)))) (by decide) rfl
  rw[oA] at this
  exact this
 have l1:=eo (i:=0) hn {x with arr:=vd}
 have l2:=eo (i:=0) hn {x with arr:=vd,dep:=wr (vd - wr (x.arr - x.dep))}
 have hrm:=sj (σ:=ay [(0,0),(2,2),(3,3)] []) (L.set 0 {x with arr:=vd,dep:=wr (vd - wr (x.arr - x.dep))}) n
 obtain⟨sa,ns,sc,ra,nr,rc,ua,nu,uc,la,nl,lc,pa,np,pc,fa,nf,fc,d,w',c'⟩:=N
 simp only at B7 Tk
 subst B7
 refine utd z zn n q m c b ⟨sa,ns,sc,ra,nr,rc,some ⟨766,0,none⟩,nu,uc,la,nl,lc,pa,np,pc,fa,nf,fc,d,w',c'⟩ x y kr kc _ ((L.set 0 {x with arr:=vd}).map ak.row).flatten ((L.set 0 {x with arr:=vd,dep:=wr (vd - wr (x.arr - x.dep))}).map ak.row).flatten vd (wr (x.arr - x.dep)) (wr (vd - wr (x.arr - x.dep))) Q ⟨fun _=>?_,nC1 hc⟩
 (repeat' first|(with_reducible first|exact rfl|assumption|apply And.intro|exact DP _)|exact(rfl:Int.ofNat _=_))
 exact nx _ rfl
theorem QN(hz:aw z zn)(hn:L.length=n)(hnn:n<1000000)(hx:L[0]? =some x)(hr:x.bg=false)(hy: ∀y,L[1]? =some y->y.bg=false)(DP: ∀σ,aD (ay σ []) (dB N)=some (dB N))
 (nx:Q .normal (kG n (0+1)) [(0,dB N),(2,jB an),(3,ic (L.map ak.row).flatten n)] 4 z zn):
 ∃t,dS prog (fun _ _=>none) (T.leaf:T aa) 100 (ah (ag f11) 1) (nJ 186 (kG n 0)) (eC z [(0,dB N),(2,jB an),(3,ic (L.map ak.row).flatten n)] 4) zn (tQ 4 186 Q) t:=by
 have hi0:0<n:=by have:=(List.getElem?_eq_some_iff.1 hx).1;omega
 have hc:decide ((0:Int)<(n:Int))=true:=by rw[decide_eq_true (by omega)]
 have rx:=kS (B:=fL L n) hx rfl
 have x0:ai prog (fL L n) 4 0=some (.bool x.bg):=rx.bg
 have x6:ai prog (fL L n) 3 6=some (zv x.dep):=rx.dep
 have x7:ai prog (fL L n) 3 7=some (zv x.arr):=rx.arr
 have hrm:=sj (σ:=ay [(0,0),(2,2),(3,3)] []) L n
 have hl:decide ((n:Int)>1)=true->1<n:=fun h=>by simp at h;omega
 have y0:decide ((n:Int)>1)=true->ai prog (fL L n) 4 9=some (.bool false):=fun h=>by
  obtain⟨y,hy1⟩:=dm (l:=L) (i:=1) (by have:=hl h;omega)
  have:=(kS (B:=fL L n) hy1 rfl).bg
  rw[hy y hy1] at this
  exact this
 refine ZX z zn n N x ⟨false,0,0,0,0,0,0,0,false⟩ _ (wr (x.arr - x.dep)) Q ⟨fun _=>?_,nC1 hc⟩
 (repeat' first|(with_reducible first|exact rfl|assumption|apply And.intro|exact y0 ‹_›|exact hl ‹_›|exact DP _)|exact(rfl:Int.ofNat _=_)|intro hq)
 all_goals exact nx
end
end Go.Proofs.Nw
namespace Go.Proofs.Nw
open Go Go.AV Tryz
set_option maxRecDepth 1000000
noncomputable section
abbrev TC(z:T aa)(zn:Nat)(N:aq)(a b c:Int):Prop:=aF prog z zn 24 (Yb N) [] 0 0 Yc (Yd a b c) Ye
abbrev TB:List (Nat × Value):=[(2,ip 0),(3,ip 1),(4,ip 2)]
abbrev wK(z:T aa)(zn:Nat)(cs':List Value)(n:Nat):T aa:=z.set zn (ic cs' n)
abbrev AM(zn n:Nat):Value:=TP [AG [eg zn n],YM]
theorem ZZ(z:T aa)(zn n K cp:Nat)(N:aq)(a b c:Int)(cs0 cs cs':List Value)(Q:QF)(hyp:TC z zn N a b c/\Yg N/\ ∀(x:Unit),True->Yh a b c/\Value.bool (c !=0)=F0/\Y1/\aj prog TN 3 186 (mG (SN K n cp) 0) [(0,N.box),(1,jB (SN K n cp).v),qk] 3 z zn (alt True (aA.mk YO TB [(0,N.box),(1,jB (SN K n cp).v),qk] 3 z zn) Al.nil).R/\E6 186 z zn (R6 Y3 Yp eP (SL (tF K) n cp) (IV n) YM (KO Y8 (pw N)/\Rs (sN K n cp)/\mU/\ ∀(x:Unit),True->cG n/\cG n/\n<=1048576/\rep n [F0,YM,YM,YM,YM,YM,YM,YM,F0]=cs0/\n.min n=n/\eD (Hs.mk (((cW.node (some (BQ cs0 (n*9) 9 62)) cW).node (some (sN K n cp)) cW).node (some (pw N)) (cW.node (some (BQ [Y5] 1 1 34)) (cW.node none (cW.node none (cW.node none (cW.node none (cW.node none (cW.node none z)))))))) 4 []) 9 n (SL (tF K) n cp)=some cs/\cs≠[]/\cB cs=true/\overwrite cs0 0 cs=some cs/\cs.length<=n*9/\Rf 4/\aj prog SI 4 186 (kG n 0) [(0,N.box),qk,(3,ic cs n)] 4 z zn (alt True (aA.mk iy [(4,ip 2),(11,tb zn n n)] [qk] 4 (wK z zn cs' n) (zn+1)) Al.nil).R/\E6 186 z zn (R5 Y3 eP (jM n) (IV n) YM (TF N/\mU/\TH cs n/\ ∀(x:Unit),True->E6 186 (wK z zn cs' n) (zn+1) (Rs (AM zn n)/\Q (AM zn n) [] 0 (wK z zn cs' n) (zn+1))))))):FnT prog Yi cW f11 [Yj N,AG [tb K n cp]] z [] 0 zn Q:=K1t hyp (tA 1 (Tr.cm (C2 N) Unit Yc (Yd a b c) Ye (Yk a b c) Ye (Yl z) (Ym zn) fun(x:Unit)=>tO kx (tA 2 (Tr.lp 3 186 Y7 [] (mG (SN K n cp) 0) [(0,N.box),(1,jB (SN K n cp).v),qk] 3 z zn (Al.cons Unit Yc (fun(x:Unit)=>aA.mk YO TB [(0,N.box),(1,jB (SN K n cp).v),qk] 3 z zn) (fun(x:Unit)=>tA 1 (tX (jE.Ti n cs0) (tA 1 (tX (jE.cpy n cs cs) (Tr.lp 4 186 Lq [] (kG n 0) [(0,N.box),qk,(3,ic cs n)] 4 z zn (Al.cons Unit Yc (fun(x:Unit)=>aA.mk iy [(4,ip 2),(11,tb zn n n)] [qk] 4 (wK z zn cs' n) (zn+1)) (fun(x:Unit)=>tA 1 (tR [] [] (AM zn n) [] 0 (wK z zn cs' n) (zn+1))) Al.nil)))))) Al.nil)))))
abbrev Xr(N:aq):List (Nat × aa):=[(0,N.box),(1,jB (dz.mk none 0 0).v),qk]
noncomputable abbrev YJW(zn:Nat)(z:T aa):aA:=aA.mk iy [(4,ip 2),(11,tb zn 0 0)] [qk] 4 (z.set zn (ic [] 0)) (zn+1)
abbrev YJX(N:aq)(z:T aa)(zn:Nat):Prop:=aj prog SI 4 186 (kG 0 0) [(0,N.box),qk,(3,ic [] 0)] 4 z zn (alt True (YJW zn z) Al.nil).R
abbrev SG(zn:Nat):Value:=TP [AG [SL (tF zn) 0 0],YM]
noncomputable abbrev YJZ(N:aq)(z:T aa)(zn:Nat):Unit->Tr:=fun(x:Unit)=>tA 4 (Tr.lp 4 186 Lq [] (kG 0 0) [(0,N.box),qk,(3,ic [] 0)] 4 z zn (Al.cons Unit Yc (fun(x:Unit)=>YJW zn z) (fun(x:Unit)=>tA 1 (tR [] [] (SG zn) [] 0 (z.set zn (ic [] 0)) (zn+1))) Al.nil))
theorem ut0(z:T aa)(zn:Nat)(N:aq)(a b c:Int)(Q:QF)(hyp:TC z zn N a b c/\Yg N/\ ∀(x:Unit),True->Yh a b c/\Value.bool (c !=0)=F0/\Y1/\aj prog TN 3 186 (mG (dz.mk none 0 0) 0) (Xr N) 3 z zn (alt True (aA.mk YO TB (Xr N) 3 z zn) Al.nil).R/\E6 186 z zn (R6 Y3 Yp eP Y5 YM YM (KO Y8 (pw N)/\mU/\mU/\ ∀(x:Unit),True->Rf 4/\YJX N z zn/\E6 186 z zn (R5 Y3 eP (SL 3 0 0) YM YM (TF N/\mU/\Rs (BQ [] 0 9 62)/\ ∀(x:Unit),True->E6 186 (z.set zn (ic [] 0)) (zn+1) (Rs (SG zn)/\Q (SG zn) [] 0 (z.set zn (ic [] 0)) (zn+1))))))):FnT prog Yi cW f11 [Yj N,AG [an]] z [] 0 zn Q:=K1t hyp (tA 1 (Tr.cm (C2 N) Unit Yc (Yd a b c) Ye (Yk a b c) Ye (Yl z) (Ym zn) fun(x:Unit)=>tO kx (tA 2 (Tr.lp 3 186 Y7 [] (mG (dz.mk none 0 0) 0) (Xr N) 3 z zn (Al.cons Unit Yc (fun(x:Unit)=>aA.mk YO TB (Xr N) 3 z zn) (YJZ N z zn) Al.nil)))))
abbrev Xq(N:aq)(K cp:Nat):List (Nat × aa):=[(0,N.box),(1,jB (dz.mk (some (Addr.mk (tF K) 0 none)) 0 cp).v),qk]
theorem utk(z:T aa)(zn K cp:Nat)(N:aq)(a b c:Int)(Q:QF)(hyp:TC z zn N a b c/\Yg N/\ ∀(x:Unit),True->Yh a b c/\Value.bool (c !=0)=F0/\Y1/\aj prog TN 3 186 (mG (dz.mk (some (Addr.mk (tF K) 0 none)) 0 cp) 0) (Xq N K cp) 3 z zn (alt True (aA.mk YO TB (Xq N K cp) 3 z zn) Al.nil).R/\E6 186 z zn (R6 Y3 Yp eP (SL (tF K) 0 cp) YM YM (KO Y8 (pw N)/\Rs (BQ [SL (tF K) 0 cp] 1 1 34)/\mU/\ ∀(x:Unit),True->Rf 4/\YJX N z zn/\E6 186 z zn (R5 Y3 eP (SL 3 0 0) YM YM (TF N/\mU/\Rs (BQ [] 0 9 62)/\ ∀(x:Unit),True->E6 186 (z.set zn (ic [] 0)) (zn+1) (Rs (SG zn)/\Q (SG zn) [] 0 (z.set zn (ic [] 0)) (zn+1))))))):FnT prog Yi cW f11 [Yj N,AG [tb K 0 cp]] z [] 0 zn Q:=K1t hyp (tA 1 (Tr.cm (C2 N) Unit Yc (Yd a b c) Ye (Yk a b c) Ye (Yl z) (Ym zn) fun(x:Unit)=>tO kx (tA 2 (Tr.lp 3 186 Y7 [] (mG (dz.mk (some (Addr.mk (tF K) 0 none)) 0 cp) 0) (Xq N K cp) 3 z zn (Al.cons Unit Yc (fun(x:Unit)=>aA.mk YO TB (Xq N K cp) 3 z zn) (YJZ N z zn) Al.nil)))))
abbrev TA:Value:=TP [AG [Y5],I 21]
theorem utx(z:T aa)(zn:Nat)(N:aq)(J:dz)(a b c:Int)(Q:QF)(hyp:TC z zn N a b c/\Yg N/\ ∀(x:Unit),True->Yh a b c/\Value.bool (c !=0)=T1/\E6 186 z zn (Rs TA/\Q TA [] 0 z zn)):FnT prog Yi cW f11 [Yj N,J.jn] z [] 0 zn Q:=K1t hyp (tA 1 (Tr.cm (C2 N) Unit Yc (Yd a b c) Ye (Yk a b c) Ye (Yl z) (Ym zn) fun(x:Unit)=>tO kI (tA 2 (tR [] [] TA [] 0 z zn))))
noncomputable abbrev Xp(e:Int)(z:T aa)(zn:Nat):aA:=aA.mk af.ret [(4,ip 2),(5,zv e)] [qk] 3 z zn
abbrev L3(e:Int):Value:=TP [AG [Y5],ZV e]
abbrev HY(e:Int):Prop:=Rs (L3 e)
theorem ZW(z:T aa)(zn:Nat)(N:aq)(J:dz)(a b c e:Int)(Q:QF)(hyp:TC z zn N a b c/\Yg N/\ ∀(x:Unit),True->Yh a b c/\Value.bool (c !=0)=F0/\Y1/\aj prog TN 3 186 (mG J 0) (PG N J) 3 z zn (alt (e≠0) (Xp e z zn) Al.nil).R/\E6 186 z zn (R3 Y3 Yp eP (aP Y8 (yS J)=some (yS J)/\R2 (IV J.n) YM (K2 Y8 (pw N) (Lr J) (mU/\ ∀(x:Unit),e≠0->E6 186 z zn (HY e/\Q (L3 e) [] 0 z zn)))))):FnT prog Yi cW f11 [Yj N,J.jn] z [] 0 zn Q:=K1t hyp (tA 1 (Tr.cm (C2 N) Unit Yc (Yd a b c) Ye (Yk a b c) Ye (Yl z) (Ym zn) fun(x:Unit)=>tO kx (tA 2 (Tr.lp 3 186 Y7 [] (mG J 0) (PG N J) 3 z zn (Al.cons Unit (Ta e) (fun(x:Unit)=>Xp e z zn) (fun(x:Unit)=>tR [] [] (L3 e) [] 0 z zn) Al.nil)))))
end
end Go.Proofs.Nw
namespace Go.Proofs.Nw
open Go Go.AV Tryz
set_option maxHeartbeats 1000000
set_option maxRecDepth 100000
section
variable{z:T aa}{zn:Nat}{N:aq}{D:fP}
theorem uZ{U:List RunT}{x:ak}(h:x.bg=true):eI U x=if jd U x=true then 0 else 9:=by unfold eI;rw[if_pos h]
theorem Fk(hz:aw z zn)(hN:c9 z N D)(hU:fy D.runs){K:Nat}{G:List ak}(hG:G.length<1000000000){J:dz}(hJ:nk K J.a J.n J.c G.length)(hT:bP z K (G.map ak.row))(r:Int × Int)(hr:scan (fW D.runs G) G.length 0=r):
 aj prog (ah (ag f11) 0) 3 186 (mG J 0) [(0,N.box),(1,jB J.v),(2,jB an)] 3 z zn (Al.R (Nj z zn N J r.2).l):=by
 refine ax hD (bC (zg:=T.leaf)) (α:=Nat) 3 186 3 (fun i=>i<=G.length/\scan (fW D.runs G) (G.length - i) i=r) (fun i=>mG J i) (fun _=>[(0,N.box),(1,jB J.v),(2,jB an)]) (fun _=>z) (fun _=>zn) (fun i=>G.length - i) _ (fun i hI=>?_) 0 ⟨Nat.zero_le _,hr⟩
 obtain⟨h1,h2⟩:=hI
 have hb: ∀σ,aD (ay σ []) (dB N)=some (dB N):=hN.box
 have hJr:=hJ.nm
 have hjb:=nQ hJr
 have hjn:=dh hJ
 by_cases hi:i<G.length
 ·obtain⟨x,hx⟩:=dm hi
  have ha:=ny hJ (by omega)
  obtain⟨ja,jn,jc⟩:=J
  simp only at ha hjn hJr hjb
  subst ha hjn
  obtain⟨kl,k1,k2,_,_⟩:=JM hT hx
  have hc:Value.bool (decide ((i:Int)<(G.length:Int)))=Value.bool true:=by rw[decide_eq_true (by omega)]
  have hw:=V9 hz hN hU x
  have hv:aS (sig []) [.agg ⟨N.cells⟩, .agg ⟨x.row⟩]=some [.agg ⟨N.cells⟩, .agg ⟨x.row⟩]:=bM (hN.val []) rfl
  have w:=bH (n:=i) (by omega)
  have bad:eI D.runs x≠0->r.2=eI D.runs x:=fun h=>by
   have he:fW D.runs G i=some (eI D.runs x):=by
    unfold fW;rw[hx];exact if_neg h
   rw[←h2,cZ hi he]
  have b9:eI D.runs x=9->Al.R (Nj z zn N ⟨some ⟨256*K+510,0,none⟩,G.length,jc⟩ r.2).l ⟨.ret,[(4,ip 2),(5,zv 9)],[(2,jB an)],3,z,zn⟩:=fun h=>by
   have:=bad (by rw[h];decide)
   rw[h] at this
   rw[this]
   exact bh (by decide)
  have b10:eI D.runs x=10->Al.R (Nj z zn N ⟨some ⟨256*K+510,0,none⟩,G.length,jc⟩ r.2).l ⟨.ret,[(4,ip 2),(5,zv 10)],[(2,jB an)],3,z,zn⟩:=fun h=>by
   have:=bad (by rw[h];decide)
   rw[h] at this
   rw[this]
   exact bh (by decide)
  have ok:eI D.runs x=0->au (fun i=>i<=G.length/\scan (fW D.runs G) (G.length - i) i=r) (fun i=>mG ⟨some ⟨256*K+510,0,none⟩,G.length,jc⟩ i) (fun _=>[(0,N.box),(1,jB (tb K G.length jc)),(2,jB an)]) 3 (fun _=>z) (fun _=>zn) (fun i=>G.length - i) (Al.R (Nj z zn N ⟨some ⟨256*K+510,0,none⟩,G.length,jc⟩ r.2).l) i .normal (mG ⟨some ⟨256*K+510,0,none⟩,G.length,jc⟩ (i+1)) [(0,N.box),(1,jB (tb K G.length jc)),(2,jB an)] 3 z zn:=fun h=>by
   have he:fW D.runs G i=none:=by
    unfold fW;rw[hx];exact if_pos h
   exact⟨i+1,rfl,rfl,rfl,rfl,rfl,⟨hi,by rw[←h2,cI hi he]⟩,by show G.length - (i+1)<G.length - i;omega⟩
  refine t100 (uta z zn i K G.length jc N x (jd D.runs x) kl (au _ _ _ _ _ _ _ _ _) ?_)
  (repeat' first|(with_reducible first|exact rfl|assumption|apply And.intro|exact hb _)|exact(congrArg Value.bool (by with_reducible assumption:x.bg=true))|exact(congrArg Value.bool (by with_reducible assumption:x.bg=false))|intro hq)
  all_goals first
   |exact b9 (by clear b9 b10 ok bad hz hN hU;unfold eI;simp_all)
   |exact b10 (by clear b9 b10 ok bad hz hN hU;unfold eI;simp_all)
   |exact ok (by clear b9 b10 ok bad hz hN hU;unfold eI;simp_all;try omega)
 ·have hc:Value.bool (decide ((i:Int)<(J.n:Int)))=Value.bool false:=by rw[decide_eq_false (by omega)]
  refine t100 (ZY z zn i N J (au _ _ _ _ _ _ _ _ _) ?_)
  (repeat' first|(with_reducible first|exact rfl|assumption|apply And.intro|exact hjb _|exact hb _))
  refine c8 (bh ?_)
  rw[←h2,show G.length - i=0 by omega];rfl
theorem Jp(hz:aw z zn)(hN:c9 z N D)(hU:fy D.runs){K:Nat}{G:List ak}(hG:G.length<1000000000){J:dz}(hJ:nk K J.a J.n J.c G.length)(hT:bP z K (G.map ak.row))(hr:(scan (fW D.runs G) G.length 0).2=0):
 aj prog (ah (ag f11) 0) 3 186 (mG J 0) [(0,N.box),(1,jB J.v),(2,jB an)] 3 z zn (Al.R (U2 z zn N J).l):=by
 refine iI (Fk hz hN hU hG hJ hT _ rfl) fun o ho=>?_
 rcases ho with ⟨x,h,_⟩|⟨x,h,rfl⟩|h
 ·exact(h hr).elim
 ·exact .inl ⟨(),trivial,rfl⟩
 ·exact h.elim
theorem Jq(hz:aw z zn)(hN:c9 z N D)(hU:fy D.runs){K:Nat}{G:List ak}(hG:G.length<1000000000){J:dz}(hJ:nk K J.a J.n J.c G.length)(hT:bP z K (G.map ak.row))(hr:(scan (fW D.runs G) G.length 0).2≠0):
 aj prog (ah (ag f11) 0) 3 186 (mG J 0) [(0,N.box),(1,jB J.v),(2,jB an)] 3 z zn (Al.R (U3 z zn N J (scan (fW D.runs G) G.length 0).2).l):=by
 refine iI (Fk hz hN hU hG hJ hT _ rfl) fun o ho=>?_
 rcases ho with ⟨x,h,rfl⟩|⟨x,h,_⟩|h
 ·exact .inl ⟨(),h,rfl⟩
 ·exact(hr h).elim
 ·exact h.elim
def W6(U:List RunT)(G:List ak):Prop:= ∀(i:Nat)(x:ak),G[i]? =some x->x.bg=true->jd U x=true
theorem MH{U:List RunT}{G:List ak}(h:(scan (fW U G) G.length 0).2=0):W6 U G:=fun i x hx hr=>by
 have:=jR (OS U G) _ _ h i (Nat.zero_le _) (by have:=(List.getElem?_eq_some_iff.1 hx).1;omega)
 unfold fW at this
 rw[hx] at this
 simp only at this
 split at this
 ·rename_i h0
  rw[uZ hr] at h0
  cases he:jd U x with
  |true=>rfl
  |false=>rw[he] at h0;cases h0
 ·cases this
theorem Nm(hz:aw z zn)(hN:c9 z N D)(hU:fy D.runs){G:List ak}(h6:6<=zn)(hG:G.length<1000000)(hL:W6 D.runs G)(cs':List Value)(hcs:cs'=((oY D.runs G).map ak.row).flatten):
 aj prog (ah (ag f11) 1) 4 186 (kG G.length 0) [(0,N.box),(2,jB an),(3,ic (G.map ak.row).flatten G.length)] 4 z zn (Al.R (U1 z zn N G.length (G.map ak.row).flatten cs').l):=by
 have e0:G=jG D.runs G 0:=(oK _ _).symm
 have e1:([(0,N.box),(2,jB an),(3,ic (G.map ak.row).flatten G.length)]:bV)=[(0,N.box),(2,jB an),(3,ic ((jG D.runs G 0).map ak.row).flatten G.length)]:=by rw[←e0]
 rw[e1]
 refine ax hD (bC (zg:=T.leaf)) (α:=Nat) 4 186 4 (fun i=>i<=G.length) (fun i=>kG G.length i) (fun i=>[(0,N.box),(2,jB an),(3,ic ((jG D.runs G i).map ak.row).flatten G.length)]) (fun _=>z) (fun _=>zn) (fun i=>G.length - i) _ (fun i hI=>?_) 0 (Nat.zero_le _)
 have hb: ∀σ,aD (ay σ []) (dB N)=some (dB N):=hN.box
 have h1:i<=G.length:=hI
 have hml:(jG D.runs G i).length=G.length:=nK _ _ _
 have nx: ∀Y:ak,i<G.length->jI (pX D.runs) (qb D.runs) G i=Y->au (fun i=>i<=G.length) (fun i=>kG G.length i) (fun i=>[(0,N.box),(2,jB an),(3,ic ((jG D.runs G i).map ak.row).flatten G.length)]) 4 (fun _=>z) (fun _=>zn) (fun i=>G.length - i) (Al.R (U1 z zn N G.length (G.map ak.row).flatten cs').l) i .normal (kG G.length (i+1)) [(0,dB N),(2,jB an),(3,ic (((jG D.runs G i).set i Y).map ak.row).flatten G.length)] 4 z zn:=fun Y hi hY=>by
  refine⟨i+1,rfl,?_,rfl,rfl,rfl,hi,by show G.length - (i+1)<G.length - i;omega⟩
  rw[←hY,←Gp _ _ _ hi];rfl
 by_cases hi:i<G.length
 ·obtain⟨x,hx⟩:=dm hi
  have hxm:(jG D.runs G i)[i]? =some x:=by rw[qJ _ _ _ _ hi,if_neg (Nat.lt_irrefl _),lU hx]
  cases hrx:x.bg with
  |true=>
   obtain⟨kr,kc,q,m,c,b,o,H⟩:=ui hN hU (hL i x hx hrx)
   refine t100 (QQ hz hml hG hxm hrx H hb fun Y hY=>nx Y hi ?_)
   subst hY
   cases i with
   |zero=>unfold jI;rw[lU hx,if_pos hrx]
   |succ i=>unfold jI;rw[lU hx,if_pos hrx]
  |false=>
   have hrx': ¬x.bg=true:=by rw[hrx];decide
   cases i with
   |succ i=>
    have hp:(jG D.runs G (i+1))[i]? =some (jI (pX D.runs) (qb D.runs) G i):=by rw[qJ _ _ _ _ (by omega),if_pos (Nat.lt_succ_self _)]
    refine t100 (QP hz hml hG hxm hrx hp hb fun Y hY=>nx Y hi ?_)
    subst hY
    show(if _ then _ else _)=_
    rw[lU hx,if_neg hrx']
   |zero=>
    by_cases hy: ∃y,G[1]? =some y/\y.bg=true
    ·obtain⟨y,hy,hry⟩:=hy
     have h1l:=(List.getElem?_eq_some_iff.1 hy).1
     have hym:(jG D.runs G 0)[1]? =some y:=by rw[oK];exact hy
     obtain⟨kr,kc,q,m,c,b,o,H⟩:=ui hN hU (hL 1 y hy hry)
     refine t100 (QO hz hml hG hxm hrx hym hry H hb fun Y hY=>nx Y hi ?_)
     subst hY
     unfold jI
     rw[lU hx,if_neg hrx',lU hy,if_pos ⟨h1l,hry⟩]
    ·have hy': ∀y,(jG D.runs G 0)[1]? =some y->y.bg=false:=fun y h=>by
      rw[oK] at h
      cases hr2:y.bg with
      |false=>rfl
      |true=>exact(hy ⟨y,h,hr2⟩).elim
     have hk:jI (pX D.runs) (qb D.runs) G 0=x:=by
      unfold jI
      rw[lU hx,if_neg hrx',if_neg]
      intro h
      obtain⟨y,h1y⟩:=dm h.1
      rw[lU h1y] at h
      exact hy ⟨y,h1y,h.2⟩
     have e2:(jG D.runs G 0).set 0 x=jG D.runs G 0:=by
      rw[oK]
      cases G with
      |nil=>rfl
      |cons a l=>simp at hx;subst hx;rfl
     have:=nx x hi hk
     rw[e2] at this
     exact(fun⟨t,ht⟩=>⟨100,t,ht⟩) (QN hz hml hG hxm hrx hy' hb this)
 ·have hig:i=G.length:=by omega
  subst hig
  have hc:Value.bool (decide ((G.length:Int)<(G.length:Int)))=Value.bool false:=by rw[decide_eq_false (by omega)]
  have hrm: ∀σ,aD σ (.az (fL (jG D.runs G G.length) G.length))=some (.az (fL (jG D.runs G G.length) G.length)):=fun σ=>sj _ _
  have hrt:aP (ay [(2,2)] [(zn,3,aa.az (fL (jG D.runs G G.length) G.length))]) (tb zn G.length G.length)=some (.slice (some ⟨3,0,none⟩) G.length G.length):=iO
  refine t100 (ute z zn G.length G.length N _ (au _ _ _ _ _ _ _ _ _) ?_)
  (repeat' first|(with_reducible first|exact rfl|assumption|apply And.intro|exact hrm _|exact UW _|exact Nat.le_refl _|exact Nat.lt_succ_self _))
  all_goals
   subst hcs
   rw[Jd]
   exact bh True.intro
theorem pr: ∀G:List ak,cB (G.map ak.row).flatten=true
 |[]=>rfl
 |x::G=>pr G
theorem oD(n:Nat)(l:List Value):(rep n l).length=n*l.length:=by
 induction n with
 |zero=>simp[rep]
 |succ n ih=>simp[rep,ih,Nat.succ_mul];omega
theorem I1: ∀(a b:List Value),a.length=b.length->overwrite a 0 b=some b:=fun a b h=>by
 have:=oI a b [] h
 simpa using this
theorem qS(N:aq)(D:fP)(G:List ak):((bB N D).2.2≠0/\jY N D G=21)\/((bB N D).2.2=0/\jY N D G=(scan (fW D.runs G) G.length 0).2):=by
 unfold jY
 by_cases h:(bB N D).2.2=0
 ·exact .inr ⟨h,if_pos h⟩
 ·exact .inl ⟨h,if_neg h⟩
theorem FG(hz:aw z zn)(hN:c9 z N D)(hll:D.paths.length<=10000){K:Nat}{G:List ak}(hG:G.length<=1000){J:dz}(hJ:nk K J.a J.n J.c G.length)(hT:bP z K (G.map ak.row))(he:jY N D G≠0):
 A1 z zn 11 [.agg ⟨N.cells⟩,J.jn] [] 0 0 (.tuple ⟨[.agg ⟨[an]⟩,zv (jY N D G)]⟩) []:=by
 have hc:=wy hz hN hll
 have hv:=jx (hN.val [])
 have hb: ∀σ,aD (ay σ []) (dB N)=some (dB N):=hN.box
 have hJr:=hJ.nm
 have hjb:=nQ hJr
 refine aK1 (bC (zg:=T.leaf)) (fn:=f11) hz (N:=100) ?_
 rcases qS N D G with ⟨h1,h2⟩|⟨h1,h2⟩
 ·have e1:Value.bool ((bB N D).2.2 !=0)=Value.bool true:=by rw[show((bB N D).2.2 !=0)=true by simpa using h1]
  rw[h2]
  refine utx z zn N J (bB N D).1 (bB N D).2.1 (bB N D).2.2 _ ?_
  (repeat' first|(with_reducible first|exact rfl|assumption|apply And.intro)|intro hq)
  exact q1
 ·have e1:Value.bool ((bB N D).2.2 !=0)=Value.bool false:=by rw[h1];rfl
  rw[h2] at he ⊢
  have hl:=Jq hz hN (jS (kK h1).2.2) (by omega) hJ hT he
  refine ZW z zn N J (bB N D).1 (bB N D).2.1 (bB N D).2.2 (scan (fW D.runs G) G.length 0).2 _ ?_
  (repeat' first|(with_reducible first|exact rfl|assumption|apply And.intro|exact hJr _|exact hjb _|exact hb _)|exact hl|intro hq)
  all_goals exact q1
abbrev iE(D:fP)(G:List ak):List Value:=((oY D.runs G).map ak.row).flatten
theorem Ot(hz:aw z zn)(h6:6<=zn)(hN:c9 z N D)(hll:D.paths.length<=10000){K:Nat}{G:List ak}(hG:G.length<=1000){J:dz}(hJ:nk K J.a J.n J.c G.length)(hT:bP z K (G.map ak.row))(he:jY N D G=0):
 bb prog z zn 11 [.agg ⟨N.cells⟩,J.jn] [] 0 0 (fun _:Unit=>True) (fun _=> .tuple ⟨[.agg ⟨[tb zn G.length G.length]⟩,I 0]⟩) (fun _=>[]) (fun _=>z.set zn (ic (iE D G) G.length)) (fun _=>zn+1):=by
 have hc:=wy hz hN hll
 have hv:=jx (hN.val [])
 have hb: ∀σ,aD (ay σ []) (dB N)=some (dB N):=hN.box
 have hJr:=hJ.nm
 have hjb:=nQ hJr
 have hjn:=dh hJ
 rcases qS N D G with ⟨h1,h2⟩|⟨h1,h2⟩
 ·rw[he] at h2;cases h2
 rw[h2] at he
 have e1:Value.bool ((bB N D).2.2 !=0)=Value.bool false:=by rw[h1];rfl
 have hU:=jS (kK h1).2.2
 have hl:=Jp hz hN hU (by omega) hJ hT he
 have hl2:=Nm hz hN hU h6 (by omega) (MH he) (iE D G) rfl
 have hfz:aw (z.set zn (ic (iE D G) G.length)) (zn+1):=dL hz (db _)
 refine dV (bC (zg:=T.leaf)) (fn:=f11) (by kernel_rfl) (by kernel_rfl) hz ⟨by decide,by decide⟩ (fun s hs=>⟨rfl,Nat.le_succ _,hfz⟩) (N:=100) ?_
 obtain⟨ja,jn,jc⟩:=J
 simp only at hjn hJr hjb hl
 subst hjn
 by_cases h0:G=[]
 ·subst h0
  have hfz0:aw (z.set zn (ic [] 0)) (zn+1):=hfz
  rcases hJ with ⟨a1,_,a3,_⟩|⟨a1,_⟩<;>simp only at a1
  ·simp only at a3
   subst a1 a3
   refine ut0 z zn N (bB N D).1 (bB N D).2.1 (bB N D).2.2 _ ?_
   (repeat' first|(with_reducible first|exact rfl|assumption|apply And.intro|exact hb _)|exact hl|exact hl2|intro hq)
   all_goals first|exact q2 () True.intro rfl rfl rfl rfl rfl
  ·subst a1
   refine utk z zn K jc N (bB N D).1 (bB N D).2.1 (bB N D).2.2 _ ?_
   (repeat' first|(with_reducible first|exact rfl|assumption|apply And.intro|exact hb _)|exact hl|exact hl2|intro hq)
   all_goals first|exact q2 () True.intro rfl rfl rfl rfl rfl
 ·have hpos:0<G.length:=List.length_pos_iff.2 h0
  have ha:=ny hJ (by show 0<G.length;exact hpos)
  simp only at ha
  subst ha
  obtain⟨el,hel⟩:=hT.az (i:=0) (by simpa using hpos)
  have hle:=nO G
  have hfc: ∀h:Hs,h.heap.get (256*K+510)=z.get K->eD h 9 G.length (tb K G.length jc)=some (G.map ak.row).flatten:=fun h hh=>by
   cases hlen:G.length with
   |zero=>omega
   |succ m=>
    unfold eD
    simp only[hh,hel]
    rw[←hlen,←hle]
    exact lN _
  have hne:(G.map ak.row).flatten≠[]:=fun h=>by rw[h] at hle;simp at hle;omega
  have hal:=pr G
  have hov:overwrite (rep G.length [F0,I 0,I 0,I 0,I 0,I 0,I 0,I 0,F0]) 0 (G.map ak.row).flatten=some (G.map ak.row).flatten:=I1 _ _ (by rw[oD,hle];rfl)
  have hle2:(G.map ak.row).flatten.length<=G.length*9:=by omega
  have hmin:=Nat.min_self G.length
  have hmx:G.length<=1048576:=by omega
  have hrm: ∀σ,aD σ (.az (fL G G.length))=some (.az (fL G G.length)):=fun σ=>sj _ _
  refine ZZ z zn G.length K jc N (bB N D).1 (bB N D).2.1 (bB N D).2.2 (rep G.length [F0,I 0,I 0,I 0,I 0,I 0,I 0,I 0,F0]) (G.map ak.row).flatten (iE D G) _ ?_
  (repeat' first|(with_reducible first|exact rfl|assumption|apply And.intro|exact hb _|exact hrm _)|exact hl|exact hl2|exact hfc _ (fB _ _)|intro hq)
  all_goals first|exact q2 () True.intro rfl rfl rfl rfl rfl
end
end Go.Proofs.Nw
namespace Go.Proofs.Nw
open Go Go.AV Tryz
set_option maxRecDepth 1000000
noncomputable section
noncomputable abbrev YJf:Code:=ah (ag Tryz.f9) 0
theorem usa(z:T aa)(zn i:Nat)(N:aq)(b:Bool)(J:dz)(Q:QL)(hyp:Value.bool (decide ((↑i:Int)<(↑N.nu:Int)))=F0/\E6 62 z zn (Q YO [] [] 2 z zn)):RdT prog Yi cW YJf 62 (Dy i) z [(0,N.box)] 2 zn 2 Q:=K1t hyp (tA 1 (tO kx (T9 z zn)))
theorem usb(z:T aa)(zn i m c:Nat)(N:aq)(kr:aV)(ca:Option Addr)(Q:QL)(hyp:Value.bool (decide ((↑i:Int)<(↑N.nu:Int)))=T1/\cG i/\i<N.nu/\C1/\C0 z kr/\ai prog kr 64 (0+i*8+7)=some (Value.slice ca m c)/\Br (decide ((↑m:Int)>40)) (E6 62 z zn (YQ/\Q af.ret [(4,F0)] [] 2 z zn)) (ZV (IntKind.i64.wrap ((↑i:Int)+1))=IV (i+1)/\E6 62 z zn (R2 Y3 (IV (i+1)) (KO YD (uE N)/\Q aN [sQ,(5,IV (i+1))] [(0,uE N)] 2 z zn)))):RdT prog Yi cW YJf 62 (Dy i) z [(0,N.iw)] 2 zn 2 Q:=K1t hyp (tA 1 (tO kI (tA 2 (tO (bS i) (tO (An.ld 1 kr (Value.slice ca m c)) ((tA 1 (tE [] [] [(4,F0)] [] 2 z zn)).fork (tA 1 (tO (dI i) (tE YC [] [sQ,(5,IV (i+1))] [(0,uE N)] 2 z zn)))))))))
theorem us(z:T aa)(zn:Nat)(N:aq)(J:dz)(b:Bool)(Q:QF)(hyp:Br (decide ((↑N.ns:Int)>20)) (E6 62 z zn (YQ/\Q F0 [] 0 z zn)) (Br (decide ((↑N.nr:Int)>20)) (E6 62 z zn (YQ/\Q F0 [] 0 z zn)) (Br (decide ((↑N.nu:Int)>20)) (E6 62 z zn (YQ/\Q F0 [] 0 z zn)) (Br (decide ((↑N.nl:Int)>20)) (E6 62 z zn (YQ/\Q F0 [] 0 z zn)) (Br (decide ((↑N.np:Int)>200)) (E6 62 z zn (YQ/\Q F0 [] 0 z zn)) (Br (decide ((↑N.nf:Int)>20)) (E6 62 z zn (YQ/\Q F0 [] 0 z zn)) (Br (decide ((↑J.n:Int)>20)) (E6 62 z zn (YQ/\Q F0 [] 0 z zn)) (rU/\aj prog YJf 2 62 (Dy 0) [(0,N.box)] 2 z zn (alt (b=false) (aA.mk af.ret [(4,F0)] [] 2 z zn) (alt (b=true) (aA.mk YO [] [] 2 z zn) Al.nil)).R/\E6 62 z zn (R2 Y3 YM (KO YD (pw N)/\(∀(x:Unit),b=false->E6 62 z zn (YQ/\Q F0 [] 0 z zn))/\ ∀(x:Unit),b=true->E6 62 z zn (YA/\Q T1 [] 0 z zn))))))))))):FnT prog Yi cW Tryz.f9 [Yj N,J.jn] z [] 0 zn Q:=K1t hyp (tA 1 ((tA 32 (Yo z zn)).fork (tA 5 ((tA 28 (Yo z zn)).fork (tA 6 ((tA 23 (Yo z zn)).fork (tA 6 ((tA 18 (Yo z zn)).fork (tA 6 ((tA 13 (Yo z zn)).fork (tA 7 ((tA 7 (Yo z zn)).fork (tA 6 ((tA 2 (Yo z zn)).fork (tA 2 (Tr.lp 2 62 YC [] (Dy 0) [(0,N.box)] 2 z zn (Al.cons Unit (YS b) (fun(x:Unit)=>aA.mk af.ret [(4,F0)] [] 2 z zn) (fun(x:Unit)=>Yo z zn) (Al.cons Unit (YR b) (WZ z zn) (S6 z zn) Al.nil))))))))))))))))))
end
end Go.Proofs.Nw
namespace Go.Proofs.Nw
open Go Go.AV Tryz
set_option maxHeartbeats 1000000
set_option maxRecDepth 100000
section
variable{z:T aa}{zn:Nat}
variable{N:aq}{D:fP}
def HN(N:aq)(D:fP)(n:Nat):Bool:=decide (N.ns<=20) && decide (N.nr<=20) && decide (N.nu<=20) && decide (N.nl<=20) && decide (N.np<=200) && decide (N.nf<=20) && decide (n<=20) && D.runs.all fun r=>decide (r.v.cn<=40)
theorem Qy{N:aq}{D:fP}{n:Nat}(h:20<N.ns\/20<N.nr\/20<N.nu\/20<N.nl\/200<N.np\/20<N.nf\/20<n):HN N D n=false:=by
 cases hs:HN N D n with
 |false=>rfl
 |true=>
  unfold HN at hs
  simp only[Bool.and_eq_true,decide_eq_true_eq] at hs
  omega
theorem EA{N:aq}{D:fP}{n:Nat}(h1:N.ns<=20)(h2:N.nr<=20)(h3:N.nu<=20)(h4:N.nl<=20)(h5:N.np<=200)(h6:N.nf<=20)(h7:n<=20):HN N D n=D.runs.all fun r=>decide (r.v.cn<=40):=by
 unfold HN
 rw[decide_eq_true h1,decide_eq_true h2,decide_eq_true h3,decide_eq_true h4,decide_eq_true h5,decide_eq_true h6,decide_eq_true h7];simp
theorem za{N:aq}{D:fP}{n:Nat}(h:HN N D n=true):N.np<=200/\n<=20:=by
 unfold HN at h
 simp only[Bool.and_eq_true,decide_eq_true_eq] at h
 omega
theorem uA(hz:aw z zn)(hN:c9 z N D){J:dz}(hr: ∀σ,aP (ay σ []) J.v=some J.v):A1 z zn 9 [.agg ⟨N.cells⟩,J.jn] [] 0 0 (.bool (HN N D J.n)) []:=by
 have hb: ∀σ,aD (ay σ []) (dB N)=some (dB N):=hN.box
 have hjb:=nQ hr
 have hnu:=dh hN.u
 have hL:N.nu<=20->aj prog (ah (ag Tryz.f9) 0) 2 62 (Dy 0) [(0,N.box)] 2 z zn (Al.R (aav z zn N (D.runs.all fun r=>decide (r.v.cn<=40))).l):=fun h20=>by
  refine ax hD (bC (zg:=T.leaf)) (α:=Nat) 2 62 2 (fun i=>i<=N.nu/\ ∀j r,j<i->D.runs[j]? =some r->r.v.cn<=40) (fun i=>Dy i) (fun _=>[(0,N.box)]) (fun _=>z) (fun _=>zn) (fun i=>N.nu - i) _ (fun i hI=>?_) 0 ⟨Nat.zero_le _,fun j r hj=>absurd hj (Nat.not_lt_zero _)⟩
  obtain⟨h1,h2⟩:=hI
  by_cases hlt:i<N.nu
  ·obtain⟨x,hx⟩:=dm (l:=D.runs) (i:=i) (by omega)
   have B7:=ny hN.u (by omega)
   have htr:=hN.tu.HM
   obtain⟨el,g2⟩:=htr.az (i:=i) (by simpa using (List.getElem?_eq_some_iff.1 hx).1)
   have r2:ai prog (bk el (D.runs.map fun r:RunT=>r.v.row).flatten) 64 (0+i*8+7)=some (.slice x.v.ca x.v.cn x.v.cc):=aT (j:=7) underlying64 rfl (aO (row:=fun r:RunT=>r.v.row) (sz:=8) D.runs fun _=>rfl) (by rw[List.getElem?_map,hx];rfl) rfl
   have hc:Value.bool (decide ((i:Int)<(N.nu:Int)))=Value.bool true:=by rw[decide_eq_true (by omega)]
   have no: ¬x.v.cn<=40->(D.runs.all fun r=>decide (r.v.cn<=40))=false:=fun h=>by
    rw[List.all_eq_false]
    exact⟨x,List.mem_of_getElem? hx,by simpa using h⟩
   have nx:x.v.cn<=40->i+1<=N.nu/\ ∀j r,j<i+1->D.runs[j]? =some r->r.v.cn<=40:=fun h=>⟨hlt,fun j r hj hr=>by
    by_cases e:j=i
    ·subst e;rw[hx] at hr;cases hr;exact h
    ·exact h2 j r (by omega) hr⟩
   have w:=bH (n:=i) (by omega)
   obtain⟨sa,ns,sc,ra,nr,rc,ua,nu,uc,la,nl,lc,pa,np,pc,fa,nf,fc',d,w',c⟩:=N
   simp only at B7 hlt hc nx no h20 hnu
   subst B7
   refine t100 (usb z zn i x.v.cn x.v.cc ⟨sa,ns,sc,ra,nr,rc,some ⟨766,0,none⟩,nu,uc,la,nl,lc,pa,np,pc,fa,nf,fc',d,w',c⟩ (bk el (D.runs.map fun r:RunT=>r.v.row).flatten) x.v.ca (au _ _ _ _ _ _ _ _ _) ?_)
   (repeat' first|(with_reducible first|exact rfl|assumption|apply And.intro|exact hb _)|intro hq)
   ·have hlt':(x.v.cn:Int)>40:=of_decide_eq_true (by with_reducible assumption:decide ((x.v.cn:Int)>40)=true)
    exact bh (no (by omega))
   ·have hlt': ¬(x.v.cn:Int)>40:=of_decide_eq_false (by with_reducible assumption:decide ((x.v.cn:Int)>40)=false)
    exact⟨i+1,rfl,rfl,rfl,rfl,rfl,nx (by omega),by show nu - (i+1)<nu - i;omega⟩
  ·have hc:Value.bool (decide ((i:Int)<(N.nu:Int)))=Value.bool false:=by rw[decide_eq_false (by omega)]
   refine t100 (usa z zn i N true J (au _ _ _ _ _ _ _ _ _) ?_)
   (repeat' first|(with_reducible first|exact rfl|assumption|apply And.intro))
   refine c8 (bh ?_)
   rw[List.all_eq_true]
   intro r hr
   obtain⟨j,hj⟩:=List.mem_iff_getElem?.1 hr
   have:=(List.getElem?_eq_some_iff.1 hj).1
   simpa using h2 j r (by omega) hj
 refine aK1 (bC (zg:=T.leaf)) (fn:=Tryz.f9) hz (N:=100) ?_
 refine us z zn N J (D.runs.all fun r=>decide (r.v.cn<=40)) _ ?_
 (repeat' first|(with_reducible first|exact rfl|assumption|apply And.intro|exact hb _)|exact hL (by have:=of_decide_eq_false (by with_reducible assumption:decide ((N.nu:Int)>20)=false);omega)|intro hq)
 all_goals simp only[decide_eq_true_eq,decide_eq_false_iff_not,gt_iff_lt] at*
 all_goals first
  |(rw[Qy (N:=N) (D:=D) (n:=J.n) (by omega)];exact q1)
  |(rw[EA (N:=N) (D:=D) (n:=J.n) (by omega) (by omega) (by omega) (by omega) (by omega) (by omega) (by omega),(by assumption:(D.runs.all fun r=>decide (r.v.cn<=40))=true)];exact q1)
  |(rw[EA (N:=N) (D:=D) (n:=J.n) (by omega) (by omega) (by omega) (by omega) (by omega) (by omega) (by omega),(by assumption:(D.runs.all fun r=>decide (r.v.cn<=40))=false)];exact q1)
end
end Go.Proofs.Nw
namespace Go.AV
open Go.RowKit
theorem qC{σ:Nat->Option Nat}: ∀{a b:List Value},aS σ a=some a->aS σ b=some b->aS σ (a++b)=some (a++b)
 |[],b,_,h=>h
 |x::a,b,h,k=>by
  simp only[aS] at h
  split at h
  ·rename_i u hu
   split at h
   ·rename_i m hm
    cases h
    simp only[List.cons_append,aS,hu,qC hm k]
   ·cases h
  ·cases h
theorem vh{σ:Nat->Option Nat}: ∀{rows:List (List Value)},(∀r∈rows,aS σ r=some r)->aS σ rows.flatten=some rows.flatten
 |[],_=>rfl
 |r::rows,h=>by rw[List.flatten_cons];exact qC (h r (by simp)) (vh fun x hx=>h x (by simp[hx]))
inductive Kd where
 |b
 |i (k:IntKind)
 |s
 |sl (t:TypeId)
def jX(S:TypeId->Option (List Kd))(P:Program):List Field->Nat->Option (List Kd)
 |[],_=>some []
 |f::l,o=>match Nat.beq f.offset o,S f.type with
  |true,some a=>match Nat.beq (P.cellsOf f.type) a.length,jX S P l (o+a.length) with
   |true,some r=>some (a++r)
   |_,_=>none
  |_,_=>none
def shapeOf(P:Program):Nat->TypeId->Option (List Kd)
 |0,_=>none
 |n+1,t=>match P.underlying t with
  |some .bool=>some [.b]
  |some (.int k)=>some [.i k]
  |some .string=>some [.s]
  |some (.slice _)=>some [.sl t]
  |some (.struct fs)=>jX (shapeOf P n) P fs.toList 0
  |_=>none
section
variable{H:Type}(enc:TypeId × Value->H)(P:Program)(w:World)(base:Nat)
def LL:Kd->Value->Prop
 | .b,v=> ∃x,v= .bool x
 | .i k,v=> ∃n,v= .int k n/\(Lit.int k n).wf=true
 | .s,v=> ∃s:ByteArray,v= .string s/\s.size<=maxLen
 | .sl t,v=> ∃n y,DataW.trod enc P w base (fun _=>true) true n t [v]=some y
def cK:List Kd->List Value->Prop
 |[],[]=>True
 |k::l,v::r=>LL enc P w base k v/\cK l r
 |_,_=>False
end
section
variable{H:Type}{enc:TypeId × Value->H}{P:Program}{w:World}{base:Nat}
theorem cK.length: ∀{ks:List Kd} {cs:List Value},cK enc P w base ks cs->cs.length=ks.length
 |[],[],_=>rfl
 |_::_,_::_,h=>by simp[cK.length h.2]
 |[],_::_,h=>h.elim
 |_::_,[],h=>h.elim
theorem cK.e{r:List Value}(h:cK enc P w base [] r):r=[]:=by
 cases r with
 |nil=>rfl
 |cons _ _=>exact h.elim
theorem cK.c{k:Kd}{ks:List Kd}{r:List Value}(h:cK enc P w base (k::ks) r): ∃v l,r=v::l/\LL enc P w base k v/\cK enc P w base ks l:=by
 cases r with
 |nil=>exact h.elim
 |cons v l=>exact⟨v,l,rfl,h.1,h.2⟩
theorem cK.i{k:IntKind}{ks:List Kd}{r:List Value}(h:cK enc P w base (.i k::ks) r): ∃n l,r= .int k n::l/\(Lit.int k n).wf=true/\cK enc P w base ks l:=by
 obtain⟨v,l,rfl,h1,h2⟩:=h.c
 obtain⟨n,rfl,h3⟩:=h1
 exact⟨n,l,rfl,h3,h2⟩
theorem cK.b{ks:List Kd}{r:List Value}(h:cK enc P w base (.b::ks) r): ∃n l,r= .bool n::l/\cK enc P w base ks l:=by
 obtain⟨v,l,rfl,h1,h2⟩:=h.c
 obtain⟨n,rfl⟩:=h1
 exact⟨n,l,rfl,h2⟩
theorem cK.s{ks:List Kd}{r:List Value}(h:cK enc P w base (.s::ks) r): ∃(n:ByteArray)(l:List Value),r= .string n::l/\n.size<=9223372036854775807/\cK enc P w base ks l:=by
 obtain⟨v,l,rfl,h1,h2⟩:=h.c
 obtain⟨n,rfl,h3⟩:=h1
 exact⟨n,l,rfl,by unfold maxLen at h3;omega,h2⟩
theorem cK.sl{t:TypeId}{ks:List Kd}{r:List Value}(h:cK enc P w base (.sl t::ks) r): ∃v l,r=v::l/\(∃n y,DataW.trod enc P w base (fun _=>true) true n t [v]=some y)/\cK enc P w base ks l:=by
 obtain⟨v,l,rfl,h1,h2⟩:=h.c
 exact⟨v,l,rfl,h1,h2⟩
theorem cK.append: ∀{ks kt:List Kd} {cs ct:List Value},cK enc P w base ks cs->cK enc P w base kt ct->cK enc P w base (ks++kt) (cs++ct)
 |[],_,[],_,_,k=>k
 |_::_,_,_::_,_,h,k=>⟨h.1,cK.append h.2 k⟩
 |[],_,_::_,_,h,_=>h.elim
 |_::_,_,[],_,h,_=>h.elim
theorem pj{S:TypeId->Option (List Kd)}{n:Nat}(hS: ∀t sh cs x,S t=some sh->cs.length=sh.length->DataW.trod enc P w base (fun _=>true) true n t cs=some x->cK enc P w base sh cs):
 ∀(fs:List Field)(o:Nat)(sh:List Kd)(cs:List Value),jX S P fs o=some sh->(∀f∈fs,∃x,DataW.trod enc P w base (fun _=>true) true n f.type ((cs.drop f.offset).take (P.cellsOf f.type))=some x)->cs.length=o+sh.length->cK enc P w base sh (cs.drop o)
 |[],o,sh,cs,h,_,hl=>by
  simp only[jX,Option.some.injEq] at h
  subst h
  rw[List.drop_eq_nil_of_le (by rw[hl];simp)]
  trivial
 |f::l,o,sh,cs,h,hf,hl=>by
  unfold jX at h
  split at h
  ·rename_i a h1 h2
   split at h
   ·rename_i r h3 h4
    cases h
    have e1:=Nat.eq_of_beq_eq_true h1
    have e3:=Nat.eq_of_beq_eq_true h3
    subst e1
    obtain⟨x,hx⟩:=hf f (by simp)
    rw[e3] at hx
    have i1:=hS _ _ _ _ h2 (by rw[List.length_take,List.length_drop,hl];simp) hx
    have i2:=pj hS l (f.offset+a.length) r cs h4 (fun g hg=>hf g (by simp[hg])) (by rw[hl];simp;omega)
    have e:cs.drop f.offset=(cs.drop f.offset).take a.length++cs.drop (f.offset+a.length):=by
     rw[←List.drop_drop,List.take_append_drop]
    rw[e]
    exact i1.append i2
   ·cases h
  ·cases h
theorem uR: ∀(fuel:Nat)(n:Nat)(t:TypeId)(sh:List Kd)(cs:List Value)(x:DataW H × List MemPlace),shapeOf P fuel t=some sh->cs.length=sh.length->DataW.trod enc P w base (fun _=>true) true n t cs=some x->cK enc P w base sh cs
 |0,_,_,_,_,_,h,_,_=>by simp[shapeOf] at h
 |fuel+1,n,t,sh,cs,x,h,hl0,hx=>by
  unfold shapeOf at h
  split at h
  ·rename_i hu;cases h
   obtain⟨v,rfl,_⟩:=DataW.trod_bool hu hx
   exact⟨⟨v,rfl⟩,trivial⟩
  ·rename_i k hu;cases h
   obtain⟨v,rfl,_,hw⟩:=DataW.trod_int hu hx
   exact⟨⟨v,rfl,hw⟩,trivial⟩
  ·rename_i hu;cases h
   obtain⟨v,rfl,_,hw⟩:=DataW.trod_string hu hx
   exact⟨⟨v,rfl,hw⟩,trivial⟩
  ·rename_i e hu;cases h
   have: ∃v,cs=[v]:=by
    rcases DataW.trod_slice hu hx with ⟨rfl,_⟩|⟨a,len,cap,_,_,_,_,rfl,_⟩<;>exact⟨_,rfl⟩
   obtain⟨v,rfl⟩:=this
   exact⟨⟨n,x,hx⟩,trivial⟩
  ·rename_i fs hu
   obtain⟨xs,m,rfl,_,hl,hlen,hf⟩:=DataW.trod_struct hu hx
   have:=pj (enc:=enc) (w:=w) (base:=base) (S:=shapeOf P fuel) (n:=m) (fun t' sh' cs' x' h1 h2 h3=>uR fuel m t' sh' cs' x' h1 h2 h3) fs.toList 0 sh cs h (fun f hf'=>?_) (by omega)
   ·simpa using this
   ·obtain⟨i,hi⟩:=List.mem_iff_getElem?.1 hf'
    have hi':fs[i]? =some f:=by simpa using hi
    have:=hf i f hi'
    have hlt:i<xs.length:=by rw[hlen];exact(Array.getElem?_eq_some_iff.1 hi').1
    exact⟨xs[i],by rw[this,List.getElem?_eq_getElem hlt]⟩
  ·cases h
theorem nw{fuel n:Nat}{t:TypeId}{sh:List Kd}{cs:List Value}{x:DataW H × List MemPlace}{fs:Array Field}(hu:P.underlying t=some (.struct fs))(hc:P.cellsOf t=sh.length)(h:shapeOf P fuel t=some sh)(hx:DataW.trod enc P w base (fun _=>true) true n t cs=some x):cK enc P w base sh cs:=by
 obtain⟨xs,m,rfl,_,hl,_⟩:=DataW.trod_struct hu hx
 exact uR fuel _ t sh cs x h (by omega) hx
def mg(w:World)(v:Value)(sz:Nat)(rows:List (List Value)):Prop:=
 (v= .slice none 0 0/\rows=[])\/((∃g o s,v= .slice (some ⟨g,o,some s⟩) 0 0)/\rows=[])\/
 ∃g o c,v= .slice (some ⟨g,o,none⟩) rows.length c/\ ∀(i:Nat)(r:List Value),rows[i]? =some r-> ∀(j:Nat)(x:Value),r[j]? =some x->w.cell? ⟨g,o+i*sz+j,none⟩=some x
theorem Jh{α β:Type}{f:α->Option β}{l:List α}{r:List β}(h:l.mapM f=some r):r.length=l.length/\ ∀(i:Nat)(x:α),l[i]? =some x->f x=r[i]? :=⟨mapM_some_length h,fun i x hx=>mapM_some_get h i x hx⟩
theorem wu{a:Addr}{n:Nat}{cs:List Value}(h:w.cells? base a n=some cs):cs.length=n/\ ∀j x,cs[j]? =some x->w.cell? (a.add j)=some x:=by
 unfold World.cells? at h
 split at h
 ·obtain⟨h1,h2⟩:=Jh h
  refine⟨by simpa using h1,fun j x hx=>?_⟩
  have hj:j<n:=by
   have:=(List.getElem?_eq_some_iff.1 hx).1
   simp at h1;omega
  have:=h2 j j (by simp[hj])
  rw[this,hx]
 ·cases h
theorem CE{g o k:Nat}:(⟨g,o,none⟩:Addr).add k=⟨g,o+k,none⟩:=by
 unfold Addr.add
 split
 ·rename_i h;subst h;rfl
 ·rfl
theorem Db{n:Nat}{t e:TypeId}{sz:Nat}{v:Value}{x:DataW H × List MemPlace}(ht:P.underlying t=some (.slice e))(hsz:P.cellsOf e=sz)(h0:0<sz)(h:DataW.trod enc P w base (fun _=>true) true n t [v]=some x):
 ∃rows,mg w v sz rows/\ ∀r∈rows,r.length=sz/\ ∃m y,DataW.trod enc P w base (fun _=>true) true m e r=some y:=by
 rcases DataW.trod_slice ht h with ⟨h1,_⟩|⟨a,len,cap,elems,rest,m,rfl,h1,rfl,hb,hl,hm,hlen,hel,hsp,_⟩
 ·simp only[List.cons.injEq,and_true] at h1
  exact⟨[], .inl ⟨h1,rfl⟩,fun r hr=>by cases hr⟩
 ·simp only[List.cons.injEq,and_true] at h1
  subst h1
  rw[hsz] at hel hsp
  have row: ∀i,i<len-> ∃r,w.cells? base (a.add (i*sz)) sz=some r/\ ∃y,DataW.trod enc P w base (fun _=>true) true m e r=some y:=fun i hi=>by
   have h2:=hel i hi
   rw[List.getElem?_eq_getElem (by omega)] at h2
   obtain⟨r,h3,h4⟩:=Option.bind_eq_some_iff.1 h2
   exact⟨r,h3,_,h4⟩
  obtain⟨rows,hrl,hrows⟩: ∃rows:List (List Value),rows.length=len/\ ∀i (hi:i<rows.length),w.cells? base (a.add (i*sz)) sz=some rows[i]/\ ∃y,DataW.trod enc P w base (fun _=>true) true m e rows[i]=some y:=by
   classical
   refine⟨List.ofFn (n:=len) fun i=>Classical.choose (row i.1 i.2),by simp,fun i hi=>?_⟩
   have:=Classical.choose_spec (row i (by simpa using hi))
   simpa using this
  have hin: ∀r∈rows,r.length=sz/\ ∃m y,DataW.trod enc P w base (fun _=>true) true m e r=some y:=fun r hr=>by
   obtain⟨i,hi,rfl⟩:=List.mem_iff_getElem.1 hr
   obtain⟨h1,h2⟩:=hrows i hi
   exact⟨(wu h1).1,m,h2⟩
  obtain⟨g,o,sp⟩:=a
  cases sp with
  |none=>
   refine⟨rows, .inr (.inr ⟨g,o,cap,by rw[hrl],fun i r hr j x hx=>?_⟩),hin⟩
   obtain⟨hi,rfl⟩:=List.getElem?_eq_some_iff.1 hr
   have:=(wu (hrows i hi).1).2 j x hx
   rw[CE,CE] at this
   exact this
  |some s=>
   have hbad: ∀x,w.cell? ⟨g,o,some s⟩=some x->False:=fun x hx=>by
    unfold World.cell? at hx
    split at hx
    ·simp at hx
    ·cases hx
   have hno: ∀r,w.cells? base ⟨g,o,some s⟩ sz=some r->False:=fun r hr=>by
    obtain⟨h1,h2⟩:=wu hr
    cases r with
    |nil=>simp at h1;omega
    |cons c r=>exact hbad c (h2 0 c rfl)
   have hz:len=0:=Nat.eq_zero_of_not_pos fun hp=>by
    obtain⟨r,h3,_⟩:=row 0 hp
    rw[Nat.zero_mul] at h3
    exact hno r h3
   have hc:cap=0:=Nat.eq_zero_of_not_pos fun hp=>by
    obtain⟨h3,h4⟩:=hsp rfl
    have h5:=h4 0 (by omega)
    rw[List.getElem?_eq_getElem (by omega)] at h5
    obtain⟨r,h6,_⟩:=Option.bind_eq_some_iff.1 h5
    rw[hz] at h6
    simp only[Nat.zero_add,Nat.zero_mul] at h6
    exact hno r h6
   subst hz hc
   exact⟨rows, .inr (.inl ⟨⟨g,o,s,rfl⟩,List.length_eq_zero_iff.1 hrl⟩),hin⟩
end
theorem sG{P:Program}{w:World}{r:Reach}{b:Nat}{t e:TypeId}{a:Addr}{n c:Nat}(ht:P.underlying t=some (.slice e))(h:Cell.okWide P w r b t (.slice (some a) n c)):a.spot=none:=by
 unfold Cell.okWide at h
 rw[ht] at h
 simp only at h
 unfold Cell.ok at h
 rw[ht] at h
 exact h.2.2.2.1
def AE(F:xx)(zn:Nat)(w:World):Prop:= ∀k g o cs,F k=some (g,o,some cs)->(∃c e fr,w.heap[g]? =some (.cells c e fr))/\
 (∀i v,cs[i]? =some v-> ∃v',w.cell? ⟨g,o+i,none⟩=some v'/\VR (eQ F) v v')/\ ∀σ:Nat->Option Nat,(∀j,j<zn->σ (256*j+510)=some (256*j+510))->aS σ cs=some cs
theorem J6(F:xx)(zn:Nat)(w:World)(hN: ∀k x,F k=some x->k<zn)(h:AE F zn w): ∃z,Tf z (eQ F) w/\aw z zn/\fQ (eQ F) zn/\ ∀k g o cs,F k=some (g,o,some cs)-> ∃e,z.get k=some (.az (bk e cs)):=by
 classical
 have hE: ∃E:Nat->TypeId,∀k g o cs,F k=some (g,o,some cs)-> ∃c fr,w.heap[g]? =some (.cells c (E k) fr):=by
  refine⟨fun k=>if hk: ∃e,∃g o cs c fr,F k=some (g,o,some cs)/\w.heap[g]? =some (.cells c e fr) then Classical.choose hk else 0,fun k g o cs hF=>?_⟩
  obtain⟨⟨c,e,fr,hc⟩,_⟩:=h k g o cs hF
  have hk: ∃e,∃g o cs c fr,F k=some (g,o,some cs)/\w.heap[g]? =some (.cells c e fr):=⟨e,g,o,cs,c,fr,hF,hc⟩
  simp only[dif_pos hk]
  obtain⟨g',o',cs',c',fr',h1,h2⟩:=Classical.choose_spec hk
  rw[hF] at h1
  cases h1
  exact⟨c',fr',h2⟩
 obtain⟨E,hE⟩:=hE
 have get: ∀k o,(Qq F E zn).get k=some o->k<zn/\ ∃g o' cs,F k=some (g,o',some cs)/\o= .az (bk (E k) cs):=by
  intro k o hk
  rw[ub] at hk
  split at hk
  ·rename_i hlt
   refine⟨hlt,?_⟩
   split at hk
   ·rename_i g o' cs hF;cases hk;exact⟨g,o',cs,hF,rfl⟩
   ·cases hk
  ·cases hk
 refine⟨Qq F E zn,⟨fun k o hk=>?_,fun k o hk=>?_,fun b hb=>?_⟩,fun k o hk=>?_,fun k hk=>?_,fun k g o cs hF=>⟨E k,?_⟩⟩
 ·obtain⟨_,g,o',cs,hF,rfl⟩:=get k o hk
  obtain⟨c,fr,hc⟩:=hE k g o' cs hF
  obtain⟨_,hcell,_⟩:=h k g o' cs hF
  refine⟨⟨g,o',0⟩,_,by rw[si,hF],hc,?_⟩
  refine⟨rfl,Nat.le_refl _,fun hh=>(by cases hh),fun i v hv=>?_,fun _=>rfl,fun hh=>(by cases hh),fun hh=>(by cases hh),fun hh=>(by cases hh)⟩
  obtain⟨v',q1,q2⟩:=hcell i v hv
  refine⟨v',?_,q2⟩
  simp[World.cell?,hc] at q1
  exact q1
 ·obtain⟨_,g,o',cs,hF,rfl⟩:=get k o hk
  rfl
 ·unfold eQ
  rw[if_neg (by unfold cO at hb;omega)]
 ·obtain⟨hlt,g,o',cs,hF,rfl⟩:=get k o hk
  refine⟨hlt,fun σ hσ=>?_⟩
  have:=(h k g o' cs hF).2.2 σ hσ
  unfold aD bk
  simp only[this]
 ·rw[si]
  cases hF:F k with
  |none=>rfl
  |some x=>have:=hN k x hF;omega
 ·rw[ub,if_pos (hN k _ hF),hF]
def iz(v:Value)(cs:List Value):Option (Nat × Nat × Option (List Value)):=match v with
 | .slice (some ⟨g,o,none⟩) _ _=>some (g,o,match cs with|[]=>none|c::l=>some (c::l))
 |_=>none
def lG(k:Nat):Value->Option Addr
 | .slice (some ⟨_,_,none⟩) _ _=>some ⟨256*k+510,0,none⟩
 | .slice a _ _=>a
 |_=>none
def lE:Value->Nat
 | .slice _ n _=>n
 |_=>0
def lF:Value->Nat
 | .slice _ _ c=>c
 |_=>0
abbrev OU(k:Nat)(v:Value):Value:= .slice (lG k v) (lE v) (lF v)
section
variable{w:World}
theorem kY{F:xx}{k sz:Nat}{v:Value}{rows:List (List Value)}{cs:List Value}(h:mg w v sz rows)(hF:F k=iz v cs):VR (eQ F) (OU k v) v:=by
 rcases h with ⟨rfl,_⟩|⟨⟨g,o,s,rfl⟩,_⟩|⟨g,o,c,rfl,_⟩
 ·exact .sc _ rfl
 ·exact .sc _ rfl
 ·refine VR.sl (256*k+510) 0 _ c ⟨g,o,0⟩ ?_
  rw[si,hF]
  rfl
theorem Ln{k zn sz:Nat}{v:Value}{rows:List (List Value)}(h:mg w v sz rows)(hk:rows≠[]->k<zn)(hk':k<zn){σ:Nat->Option Nat}(hσ: ∀j,j<zn->σ (256*j+510)=some (256*j+510)):aP σ (OU k v)=some (OU k v):=by
 rcases h with ⟨rfl,_⟩|⟨⟨g,o,s,rfl⟩,_⟩|⟨g,o,c,rfl,_⟩
 ·rfl
 ·rfl
 ·simp only[OU,lG,lE,lF,aP,hσ k hk']
theorem D5{g o:Nat}{v:Value}(h:w.cell? ⟨g,o,none⟩=some v): ∃c e fr,w.heap[g]? =some (.cells c e fr):=by
 unfold World.cell? at h
 cases hc:w.heap[g]? with
 |none=>simp[hc] at h
 |some x=>cases x<;>simp[hc] at h<;>exact⟨_,_,_,rfl⟩
theorem kU{F:xx}{zn:Nat}{v:Value}{sz:Nat}{rows arows:List (List Value)}(h:mg w v sz rows)(hl: ∀r∈arows,r.length=sz)
 (hc: ∀(i:Nat)(r:List Value)(j:Nat)(x:Value),arows[i]? =some r->r[j]? =some x-> ∃r' x',rows[i]? =some r'/\r'[j]? =some x'/\VR (eQ F) x x')
 (hr: ∀σ:Nat->Option Nat,(∀j,j<zn->σ (256*j+510)=some (256*j+510))-> ∀r∈arows,aS σ r=some r)
 {g o:Nat} {cs:List Value} (he:iz v arows.flatten=some (g,o,some cs)):
 (∃c e fr,w.heap[g]? =some (.cells c e fr))/\(∀i x,cs[i]? =some x-> ∃x',w.cell? ⟨g,o+i,none⟩=some x'/\VR (eQ F) x x')/\ ∀σ:Nat->Option Nat,(∀j,j<zn->σ (256*j+510)=some (256*j+510))->aS σ cs=some cs:=by
 rcases h with ⟨rfl,_⟩|⟨⟨g0,o0,s,rfl⟩,_⟩|⟨g0,off,cap,rfl,hrows⟩
 ·cases he
 ·cases he
 ·have hcs:arows.flatten=cs/\g0=g/\off=o/\cs≠[]:=by
   unfold iz at he
   simp only[Option.some.injEq,Prod.mk.injEq] at he
   obtain⟨h1,h2,h3⟩:=he
   split at h3
   ·cases h3
   ·rename_i heq;cases h3;exact⟨heq,h1,h2,by simp⟩
  obtain⟨h1,rfl,rfl,h4⟩:=hcs
  have cell: ∀i x,cs[i]? =some x-> ∃x',w.cell? ⟨g0,off+i,none⟩=some x'/\VR (eQ F) x x':=by
   intro i x hx
   rw[←h1] at hx
   obtain⟨k,r,j,q1,q2,q3⟩:=Cf hl hx
   obtain⟨r',x',p1,p2,p3⟩:=hc k r j x q1 q2
   refine⟨x',?_,p3⟩
   rw[q3,←Nat.add_assoc]
   exact hrows k r' p1 j x' p2
  refine⟨?_,cell,fun σ hσ=>by rw[←h1];exact vh (hr σ hσ)⟩
  cases hcs:cs with
  |nil=>exact(h4 hcs).elim
  |cons x l=>
   obtain⟨x',hx',_⟩:=cell 0 x (by rw[hcs];rfl)
   exact D5 hx'
end
def sD(F:xx)(k0:Nat)(e:Option (Nat × Nat × Option (List Value))):xx:=fun k=>if k=k0 then e else F k
theorem mL{F:xx}{k0 k:Nat}{e:Option (Nat × Nat × Option (List Value))}(h:k≠k0):sD F k0 e k=F k:=if_neg h
theorem pV{F:xx}{k0:Nat}{e:Option (Nat × Nat × Option (List Value))}:sD F k0 e k0=e:=if_pos rfl
theorem GX{F:xx}{k0:Nat}{e:Option (Nat × Nat × Option (List Value))}(h:F k0=none):(eQ F).le (eQ (sD F k0 e)):=by
 intro b L hb
 unfold eQ at hb ⊢
 split at hb
 ·rename_i hc
  rw[if_pos hc]
  have:(b - 510) / 256≠k0:=fun e'=>by rw[e',h] at hb;cases hb
  rw[mL this]
  exact hb
 ·cases hb
theorem GW{F:xx}{zn:Nat}{w:World}{v:Value}{sz:Nat}{rows:List (List Value)}(hF:AE F zn w)(hb: ∀k x,F k=some x->k<zn)(h:mg w v sz rows)(hl: ∀r∈rows,r.length=sz)
 (hp: ∀(F:xx)(i:Nat)(r:List Value)(j:Nat)(x:Value),rows[i]? =some r->r[j]? =some x-> ∃r' x',rows[i]? =some r'/\r'[j]? =some x'/\VR (eQ F) x x') (hr: ∀σ,∀r∈rows,aS σ r=some r):
 AE (sD F zn (iz v rows.flatten)) (zn+1) w/\ ∀k x,sD F zn (iz v rows.flatten) k=some x->k<zn+1:=by
 have hn:F zn=none:=by
  cases hc:F zn with
  |none=>rfl
  |some x=>have:=hb zn x hc;omega
 refine⟨fun k g o cs hk=>?_,fun k x hk=>?_⟩
 ·by_cases e:k=zn
  ·subst e
   rw[pV] at hk
   exact kU h hl (hp _) (fun σ _=>hr σ) hk
  ·rw[mL e] at hk
   obtain⟨h1,h2,h3⟩:=hF k g o cs hk
   exact⟨h1,fun i v hv=>by
    obtain⟨v',q1,q2⟩:=h2 i v hv
    exact⟨v',q1,q2.mono (GX hn)⟩,fun σ hσ=>h3 σ fun j hj=>hσ j (by omega)⟩
 ·by_cases e:k=zn
  ·omega
  ·rw[mL e] at hk
   have:=hb k x hk
   omega
end Go.AV
namespace Go.Proofs.Nw
open Go Go.AV Tryz Go.RowKit
set_option maxRecDepth 100000
theorem EH{α:Type}{row:α->List Value}{Q:α->Prop}: ∀{rows:List (List Value)},(∀r∈rows,∃x,r=row x/\Q x)-> ∃l:List α,rows=l.map row/\ ∀x∈l,Q x
 |[],_=>⟨[],rfl,fun x hx=>by cases hx⟩
 |r::rows,h=>by
  obtain⟨x,rfl,hx⟩:=h r (by simp)
  obtain⟨l,rfl,hl⟩:=EH (rows:=rows) fun s hs=>h s (List.mem_cons_of_mem _ hs)
  exact⟨x::l,rfl,fun y hy=>by
   rcases List.mem_cons.1 hy with rfl|hy
   ·exact hx
   ·exact hl y hy⟩
structure kA where
 sv:Value
 rv:Value
 uv:Value
 lv:Value
 pv:Value
 fv:Value
 d:Int
 w:Int
 c:Int
 stops:List bT
 ft:List bm
 runs:List oh
 eE:List aI
 paths:List ae
 jy:List bO
def kA.cells(N:kA):List Value:=[N.sv,N.rv,N.uv,N.lv,N.pv,N.fv,zv N.d,zv N.w,zv N.c]
def ky(v:Value):Prop:= ∀a n c,v= .slice (some a) n c->a.spot=none
structure wR(w:World)(N:kA):Prop where
 stops:mg w N.sv 4 (N.stops.map bT.row)
 ft:mg w N.rv 3 (N.ft.map bm.row)
 runs:mg w N.uv 8 (N.runs.map fun r=>r.row r.cv)
 eE:mg w N.lv 5 (N.eE.map aI.row)
 paths:mg w N.pv 4 (N.paths.map ae.row)
 jy:mg w N.fv 6 (N.jy.map bO.row)
 calls: ∀r∈N.runs,mg w r.cv 5 (r.calls.map br.row)
 zs: ∀x∈N.stops,x.id.size<=9223372036854775807
 zr: ∀x∈N.ft,x.id.size<=9223372036854775807
 zu: ∀x∈N.runs,x.id.size<=9223372036854775807
 zf: ∀x∈N.jy,x.id.size<=9223372036854775807
 ns:ky N.sv
 nr:ky N.rv
 nu:ky N.uv
 nl:ky N.lv
 np:ky N.pv
 nf:ky N.fv
section
variable{H:Type}{enc:TypeId × Value->H}{W:World}{base:Nat}
section
variable{P:Program}
theorem IE{r:List Value}(h:cK enc P W base [.s, .i .i64, .b, .i .i64] r): ∃x:bT,r=x.row/\x.id.size<=9223372036854775807:=by
 obtain⟨x0,l0,rfl,z0,h0⟩:=h.s
 obtain⟨x1,l1,rfl,_,h1⟩:=h0.i
 obtain⟨x2,l2,rfl,h2⟩:=h1.b
 obtain⟨x3,l3,rfl,_,h3⟩:=h2.i
 obtain rfl:=h3.e
 exact⟨⟨x0,x1,x2,x3⟩,rfl,z0⟩
theorem Gd{r:List Value}(h:cK enc P W base [.s, .i .i64, .b] r): ∃x:bm,r=x.row/\x.id.size<=9223372036854775807:=by
 obtain⟨x0,l0,rfl,z0,h0⟩:=h.s
 obtain⟨x1,l1,rfl,_,h1⟩:=h0.i
 obtain⟨x2,l2,rfl,h2⟩:=h1.b
 obtain rfl:=h2.e
 exact⟨⟨x0,x1,x2⟩,rfl,z0⟩
theorem IG{r:List Value}(h:cK enc P W base [.s, .i .i64, .i .i64, .i .i64, .i .i64, .i .i64] r): ∃x:bO,r=x.row/\x.id.size<=9223372036854775807:=by
 obtain⟨x0,l0,rfl,z0,h0⟩:=h.s
 obtain⟨x1,l1,rfl,_,h1⟩:=h0.i
 obtain⟨x2,l2,rfl,_,h2⟩:=h1.i
 obtain⟨x3,l3,rfl,_,h3⟩:=h2.i
 obtain⟨x4,l4,rfl,_,h4⟩:=h3.i
 obtain⟨x5,l5,rfl,_,h5⟩:=h4.i
 obtain rfl:=h5.e
 exact⟨⟨x0,x1,x2,x3,x4,x5⟩,rfl,z0⟩
theorem II{r:List Value}(h:cK enc P W base [.i .i64, .i .i64, .i .i64, .i .i64, .b] r): ∃x:aI,r=x.row/\True:=by
 obtain⟨x0,l0,rfl,_,h0⟩:=h.i
 obtain⟨x1,l1,rfl,_,h1⟩:=h0.i
 obtain⟨x2,l2,rfl,_,h2⟩:=h1.i
 obtain⟨x3,l3,rfl,_,h3⟩:=h2.i
 obtain⟨x4,l4,rfl,h4⟩:=h3.b
 obtain rfl:=h4.e
 exact⟨⟨x0,x1,x2,x3,x4⟩,rfl,trivial⟩
theorem IH{r:List Value}(h:cK enc P W base [.i .i64, .i .i64, .i .i64, .b] r): ∃x:ae,r=x.row/\True:=by
 obtain⟨x0,l0,rfl,_,h0⟩:=h.i
 obtain⟨x1,l1,rfl,_,h1⟩:=h0.i
 obtain⟨x2,l2,rfl,_,h2⟩:=h1.i
 obtain⟨x3,l3,rfl,h3⟩:=h2.b
 obtain rfl:=h3.e
 exact⟨⟨x0,x1,x2,x3⟩,rfl,trivial⟩
theorem IJ{r:List Value}(h:cK enc P W base [.i .i64, .i .i64, .i .i64, .b, .b] r): ∃x:br,r=x.row/\True:=by
 obtain⟨x0,l0,rfl,_,h0⟩:=h.i
 obtain⟨x1,l1,rfl,_,h1⟩:=h0.i
 obtain⟨x2,l2,rfl,_,h2⟩:=h1.i
 obtain⟨x3,l3,rfl,h3⟩:=h2.b
 obtain⟨x4,l4,rfl,h4⟩:=h3.b
 obtain rfl:=h4.e
 exact⟨⟨x0,x1,x2,x3,x4⟩,rfl,trivial⟩
theorem MJ{t:TypeId}{r:List Value}(h:cK enc P W base [.i .i64, .i .i64, .i .i64, .s, .i .i64, .b, .b, .sl t] r): ∃(a b c:Int)(d:ByteArray)(e:Int)(f g:Bool)(v:Value)(n:Nat)(y:DataW H × List MemPlace),r=[zv a,zv b,zv c, .string d,zv e, .bool f, .bool g,v]/\d.size<=9223372036854775807/\DataW.trod enc P W base (fun _=>true) true n t [v]=some y:=by
 obtain⟨x0,l0,rfl,_,h0⟩:=h.i
 obtain⟨x1,l1,rfl,_,h1⟩:=h0.i
 obtain⟨x2,l2,rfl,_,h2⟩:=h1.i
 obtain⟨x3,l3,rfl,z3,h3⟩:=h2.s
 obtain⟨x4,l4,rfl,_,h4⟩:=h3.i
 obtain⟨x5,l5,rfl,h5⟩:=h4.b
 obtain⟨x6,l6,rfl,h6⟩:=h5.b
 obtain⟨x7,l7,rfl,g7,h7⟩:=h6.sl
 obtain rfl:=h7.e
 obtain⟨n,y,hy⟩:=g7
 exact⟨_,_,_,_,_,_,_,_,n,y,rfl,z3,hy⟩
theorem MK{t0 t1 t2 t3 t4 t5:TypeId}{r:List Value}(h:cK enc P W base [.sl t0, .sl t1, .sl t2, .sl t3, .sl t4, .sl t5, .i .i64, .i .i64, .i .i64] r): ∃(v0 v1 v2 v3 v4 v5:Value)(a b c:Int),r=[v0,v1,v2,v3,v4,v5,zv a,zv b,zv c]/\
 (∃n y,DataW.trod enc P W base (fun _=>true) true n t0 [v0]=some y)/\(∃n y,DataW.trod enc P W base (fun _=>true) true n t1 [v1]=some y)/\(∃n y,DataW.trod enc P W base (fun _=>true) true n t2 [v2]=some y)/\
 (∃n y,DataW.trod enc P W base (fun _=>true) true n t3 [v3]=some y)/\(∃n y,DataW.trod enc P W base (fun _=>true) true n t4 [v4]=some y)/\ ∃n y,DataW.trod enc P W base (fun _=>true) true n t5 [v5]=some y:=by
 obtain⟨x0,l0,rfl,g0,h0⟩:=h.sl
 obtain⟨x1,l1,rfl,g1,h1⟩:=h0.sl
 obtain⟨x2,l2,rfl,g2,h2⟩:=h1.sl
 obtain⟨x3,l3,rfl,g3,h3⟩:=h2.sl
 obtain⟨x4,l4,rfl,g4,h4⟩:=h3.sl
 obtain⟨x5,l5,rfl,g5,h5⟩:=h4.sl
 obtain⟨x6,l6,rfl,_,h6⟩:=h5.i
 obtain⟨x7,l7,rfl,_,h7⟩:=h6.i
 obtain⟨x8,l8,rfl,_,h8⟩:=h7.i
 obtain rfl:=h8.e
 exact⟨x0,x1,x2,x3,x4,x5,x6,x7,x8,rfl,g0,g1,g2,g3,g4,g5⟩
end
theorem Cb{t:TypeId}(h:(match prog.underlying t with|some (.struct _)=>true|_=>false)=true): ∃fs,prog.underlying t=some (.struct fs):=by
 split at h
 ·exact⟨_,by assumption⟩
 ·cases h
theorem ml{n:Nat}{t e:TypeId}{sz:Nat}{v:Value}{x:DataW H × List MemPlace}{sh:List Kd}{α:Type}{row:α->List Value}{Q:α->Prop}(ht:prog.underlying t=some (.slice e))(hsz:prog.cellsOf e=sz)(h0:0<sz)(hst:(match prog.underlying e with|some (.struct _)=>true|_=>false)=true)(hsh:shapeOf prog 5 e=some sh)(hl:sh.length=sz)(hrow: ∀r,cK enc prog W base sh r-> ∃x,r=row x/\Q x)
 (h:DataW.trod enc prog W base (fun _=>true) true n t [v]=some x): ∃l:List α,mg W v sz (l.map row)/\ ∀x∈l,Q x:=by
 obtain⟨rows,h1,h2⟩:=Db ht hsz h0 h
 obtain⟨fs,hfs⟩:=Cb hst
 obtain⟨l,rfl,hl⟩:=EH (row:=row) (Q:=Q) (rows:=rows) fun r hr=>by
  obtain⟨_,m,y,hy⟩:=h2 r hr
  exact hrow r (nw hfs (by rw[hsz,hl]) hsh hy)
 exact⟨l,h1,hl⟩
theorem MI{r:List Value}(h:cK enc prog W base [.i .i64, .i .i64, .i .i64, .s, .i .i64, .b, .b, .sl 64] r): ∃x:oh,r=x.row x.cv/\(x.id.size<=9223372036854775807/\mg W x.cv 5 (x.calls.map br.row)):=by
 obtain⟨a,b,c,d,e,f,g,v,n,y,rfl,hd,hy⟩:=MJ h
 ·obtain⟨l,h1,_⟩:=ml (sh:=[.i .i64, .i .i64, .i .i64, .b, .b]) (row:=br.row) (e:=70) (sz:=5) (by kernel_rfl) (by kernel_rfl) (by decide) (by kernel_rfl) (by kernel_rfl) rfl (fun r hr=>IJ hr) hy
  exact⟨⟨a,b,c,d,e,f,g,v,l⟩,rfl,hd,h1⟩
theorem uq{r:Reach}{b:Nat}{v0:Value}{n:Nat}{x:DataW H × List MemPlace}(hok:Value.okWide prog W r b 31 v0)(h:DataW.trod enc prog W base (fun _=>true) true n 31 v0.cells.toList=some x):
 ∃N:kA,v0= .agg ⟨N.cells⟩/\wR W N:=by
 obtain⟨fs,hfs⟩: ∃fs,prog.underlying 31=some (.struct fs):=Cb (by kernel_rfl)
 unfold Value.okWide at hok
 rw[hfs] at hok
 obtain⟨cs,rfl,hsz,ts,hts,_,hcell⟩:=hok
 have hcs:(Value.agg cs).cells.toList=cs.toList:=rfl
 rw[hcs] at h
 have hr:=nw (sh:=[.sl 22, .sl 23, .sl 24, .sl 25, .sl 26, .sl 27, .i .i64, .i .i64, .i .i64]) (fuel:=5) hfs (by kernel_rfl) (by kernel_rfl) h
 have hts':ts=[22,23,24,25,26,27,3,3,3]:=by
  have:prog.cellTypes prog.depth 31=some [22,23,24,25,26,27,3,3,3]:=by kernel_rfl
  rw[this] at hts;cases hts;rfl
 subst hts'
 obtain⟨l⟩:=cs
 obtain⟨sv,rv,uv,lv,pv,fv,d,e,f,rfl,⟨n0,y0,g0⟩,⟨n1,y1,g1⟩,⟨n2,y2,g2⟩,⟨n3,y3,g3⟩,⟨n4,y4,g4⟩,⟨n5,y5,g5⟩⟩:=MK hr
 ·obtain⟨ls,s1,s2⟩:=ml (sh:=[.s, .i .i64, .b, .i .i64]) (row:=bT.row) (e:=94) (sz:=4) (by kernel_rfl) (by kernel_rfl) (by decide) (by kernel_rfl) (by kernel_rfl) rfl (fun r hr=>IE hr) g0
  obtain⟨lr,r1,r2⟩:=ml (sh:=[.s, .i .i64, .b]) (row:=bm.row) (e:=96) (sz:=3) (by kernel_rfl) (by kernel_rfl) (by decide) (by kernel_rfl) (by kernel_rfl) rfl (fun r hr=>Gd hr) g1
  obtain⟨lu,u1,u2⟩:=ml (sh:=[.i .i64, .i .i64, .i .i64, .s, .i .i64, .b, .b, .sl 64]) (row:=fun x:oh=>x.row x.cv) (e:=66) (sz:=8) (by kernel_rfl) (by kernel_rfl) (by decide) (by kernel_rfl) (by kernel_rfl) rfl (fun r hr=>MI hr) g2
  obtain⟨ll,l1,_⟩:=ml (sh:=[.i .i64, .i .i64, .i .i64, .i .i64, .b]) (row:=aI.row) (e:=127) (sz:=5) (by kernel_rfl) (by kernel_rfl) (by decide) (by kernel_rfl) (by kernel_rfl) rfl (fun r hr=>II hr) g3
  obtain⟨lp,p1,_⟩:=ml (sh:=[.i .i64, .i .i64, .i .i64, .b]) (row:=ae.row) (e:=125) (sz:=4) (by kernel_rfl) (by kernel_rfl) (by decide) (by kernel_rfl) (by kernel_rfl) rfl (fun r hr=>IH hr) g4
  obtain⟨lf,f1,f2⟩:=ml (sh:=[.s, .i .i64, .i .i64, .i .i64, .i .i64, .i .i64]) (row:=bO.row) (e:=99) (sz:=6) (by kernel_rfl) (by kernel_rfl) (by decide) (by kernel_rfl) (by kernel_rfl) rfl (fun r hr=>IG hr) g5
  have sp: ∀(i:Nat)(t e2:TypeId)(v:Value),[sv,rv,uv,lv,pv,fv,zv d,zv e,zv f][i]? =some v->[22,23,24,25,26,27,3,3,3][i % 9]? =some t->prog.underlying t=some (.slice e2)->ky v:=fun i t e' v hv ht hu a n c hvv=>by
   subst hvv
   obtain⟨u,h1,h2⟩:=hcell i _ (by simpa using hv)
   have:u=t:=by
    have h3:[22,23,24,25,26,27,3,3,3][i % 9]? =some u:=h1
    rw[h3] at ht;cases ht;rfl
   subst this
   exact sG hu h2
  refine⟨⟨sv,rv,uv,lv,pv,fv,d,e,f,ls,lr,lu,ll,lp,lf⟩,rfl,s1,r1,u1,l1,p1,f1,fun r hr=>(u2 r hr).2,s2,r2,fun r hr=>(u2 r hr).1,f2,sp 0 _ 94 _ rfl rfl (by kernel_rfl),sp 1 _ 96 _ rfl rfl (by kernel_rfl),sp 2 _ 66 _ rfl rfl (by kernel_rfl),sp 3 _ 127 _ rfl rfl (by kernel_rfl),sp 4 _ 125 _ rfl rfl (by kernel_rfl),sp 5 _ 99 _ rfl rfl (by kernel_rfl)⟩
end
end Go.Proofs.Nw
