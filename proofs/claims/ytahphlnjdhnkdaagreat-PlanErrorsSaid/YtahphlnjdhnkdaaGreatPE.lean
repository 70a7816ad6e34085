/-
  A part of the proof: lemmas of my own.
-/
import Derived.Test.YtahphlnjdhnkdaaGreatPD
import Derived.Test.YtahphlnjdhnkdaaGreatIA
set_option linter.unusedVariables false
set_option linter.unusedSimpArgs false
namespace Go.Proofs.Nw
open Go Go.AV Go.iT
set_option maxHeartbeats 4000000
set_option maxRecDepth 100000
def skφ(ms:List cg)(n:Nat)(ms':List cg):Prop:=ms'.length=ms.length/\mI dC (hf ms') n/\ ∀v,gk (hf ms') n v↔gk (hf ms) n v
theorem UN(a:cg):dC a a=false:=by
 cases h:dC a a with
 |false=>rfl
 |true=>rw[my] at h;omega
section
variable{z:T aa}{zn:Nat}
theorem Rq(hz:aq z zn)(n c cc:Nat)(p:Int)(ms:List cg):A1 z zn 285 [ip 0] [(0,eg (aZ 1 n c) p),(1,dK (aD ms) cc)] 2 2 (iv n) [(0,eg (aZ 1 n c) p),(1,dK (aD ms) cc)]:=by
 refine aY (cT z) (fn:=Tryz.f285) (by kernel_rfl) (by kernel_rfl) hz ⟨by decide,by decide⟩ rfl (N:=100) ?_
 refine hlen z zn n c cc p (aD ms) _ ?_
 (repeat' first|(with_reducible first|exact rfl|exact True.intro|assumption|apply And.intro|exact hz|exact aR _ _|exact q1)|exact(rfl:Int.ofNat _=_)|exact(rfl:gH _ _=_)|exact hz|exact aR _ _|exact q1|intro hq)
theorem Qa{ms:List cg}(h:0<ms.length)(c:Nat):aB Tryz.prog (bg.mk (aD ms) c 4 358 false false 0 true) 345 0=some (.agg ⟨(hf ms 0).x.row⟩):=by
 cases ms with
 |nil=>simp at h
 |cons a l=>rfl
theorem HJ(hz:aq z zn)(n c cc:Nat)(p:Int)(ms:List cg)(hn:n<=ms.length)(a:cO)(ha:a=if n=0 then ⟨0,0,0⟩ else (hf ms 0).x):A1 z zn 282 [ip 0] [(0,eg (aZ 1 n c) p),(1,dK (aD ms) cc)] 2 2 (.tuple ⟨[.agg ⟨a.row⟩, .bool (decide (0<n))]⟩) [(0,eg (aZ 1 n c) p),(1,dK (aD ms) cc)]:=by
 have hl:=Rq hz n c cc p ms
 refine aY (cT z) (fn:=Tryz.f282) (by kernel_rfl) (by kernel_rfl) hz ⟨by decide,by decide⟩ rfl (N:=100) ?_
 refine Zr z zn n c cc p a (aD ms) _ ?_
 by_cases h0:n=0
 ·subst h0
  have hc:(((0:Nat):Int)==0)=true:=rfl
  (repeat' first|(with_reducible first|exact rfl|exact True.intro|assumption|apply And.intro|exact hz|exact hl|exact aR _ _)|exact(rfl:Int.ofNat _=_)|exact(rfl:gH _ _=_)|exact hz|exact hl|exact aR _ _|intro hq)
  all_goals first
   |(rw[hc] at hq;cases hq;done)
   |(refine uC ?_
     rw[ha,if_pos rfl];rfl)
 ·have hc:((n:Int)==0)=false:=by simp;omega
  have hr:a=(hf ms 0).x:=by rw[ha,if_neg h0]
  have r3:=Qa (ms:=ms) (by omega) cc
  rw[←hr] at r3
  (repeat' first|(with_reducible first|exact rfl|exact True.intro|assumption|apply And.intro|exact hz|exact hl|exact aR _ _|exact r3|exact(by omega:0<n))|exact(rfl:Int.ofNat _=_)|exact(rfl:gH _ _=_)|exact hz|exact hl|exact aR _ _|exact r3|exact(by omega:0<n)|intro hq)
  all_goals first
   |(rw[hc] at hq;cases hq;done)
   |(refine uC ?_
     rw[show decide (0<n)=true by simp;omega];done)
   |skip
theorem JM(hz:aq z zn)(ms:List cg)(n c cc:Nat)(p:Int)(hn:n<=ms.length)(hc:ms.length*4<=cc)(hs:n<100000000)(hU:pO dC (hf ms) n 0):
 ai Tryz.prog (ah (ag Tryz.f283) 0) 2 41 (y6 0) [(0,eg (aZ 1 n c) p),(1,dK (aD ms) cc)] 2 z zn (Al.R (Ns z zn 0 n c cc p (aD ms) (skφ ms n)).l):=by
 refine ak hD (cT z) (α:=Nat × List cg) 2 41 2 (fun x=>(x.1<n\/(x.1=0/\n=0))/\x.2.length=ms.length/\pO dC (hf x.2) n x.1/\ ∀v,gk (hf x.2) n v↔gk (hf ms) n v) (fun x=>y6 x.1) (fun x=>[(0,eg (aZ 1 n c) p),(1,dK (aD x.2) cc)]) (fun _=>z) (fun _=>zn) (fun x=>n - x.1) _ (fun x hI=>?_) (0,ms) ⟨by show 0<n\/(0=0/\n=0);omega,rfl,hU,fun _=>Iff.rfl⟩
 obtain⟨i,ms'⟩:=x
 obtain⟨h1,h2,h3,h4⟩:=hI
 simp only at h1 h2 h3 h4 ⊢
 have out:(∀k,k<n->0<k->(k - 1) / 2=i->dC (hf ms' k) (hf ms' i)=false)->Al.R (Ns z zn 0 n c cc p (aD ms) (skφ ms n)).l ⟨.ret,[(0,ip 0)],[(0,eg (aZ 1 n c) p),(1,dK (aD ms') cc)],2,z,zn⟩:=fun h=>BT ms' ⟨h2,Ek h3 h,h4⟩ rfl
 have w1:Value.int .i64 (IntKind.i64.wrap (2*(i:Int)))=Value.int .i64 (2*(i:Int)):=ia (by omega) (by omega)
 have w2:Value.int .i64 (IntKind.i64.wrap (2*(i:Int)+1))=Value.int .i64 (2*(i:Int)+1):=ia (by omega) (by omega)
 have w3:Value.int .i64 (IntKind.i64.wrap (2*(i:Int)+1+1))=Value.int .i64 (2*(i:Int)+1+1):=ia (by omega) (by omega)
 have e1:(2*(i:Int)+1)=((2*i+1:Nat):Int):=by omega
 have e2:(2*(i:Int)+1+1)=((2*i+2:Nat):Int):=by omega
 have jy: ∀k,0<k->k<n->(k - 1) / 2=i->dC (hf ms' k) (hf ms' i)=true->(∀j,j<n->0<j->(j - 1) / 2=i->dC (hf ms' j) (hf ms' k)=false)->
  aj (fun x:Nat × List cg=>(x.1<n\/(x.1=0/\n=0))/\x.2.length=ms.length/\pO dC (hf x.2) n x.1/\ ∀v,gk (hf x.2) n v↔gk (hf ms) n v) (fun x=>y6 x.1) (fun x=>[(0,eg (aZ 1 n c) p),(1,dK (aD x.2) cc)]) 2 (fun _=>z) (fun _=>zn) (fun x=>n - x.1) (Al.R (Ns z zn 0 n c cc p (aD ms) (skφ ms n)).l) (i,ms') .normal (y6 k) [(0,eg (aZ 1 n c) p),(1,dK (aD (xY ms' i k)) cc)] 2 z zn:=fun k k0 kn kp kb km=>by
  refine⟨(k,xY ms' i k),rfl,rfl,rfl,rfl,rfl,⟨.inl kn,by simp only[kF];exact h2,?_,fun v=>?_⟩,by simp only;omega⟩
  ·simp only
   rw[mf (by omega) (by omega)]
   exact Ej iy h3 k0 kn kp kb km
  ·simp only
   rw[mf (by omega) (by omega),rZ (by omega) kn]
   exact h4 v
 refine t100 (Sd z zn i n c cc p (fun x y=>dC (hf ms' x.toNat) (hf ms' y.toNat)) (fun x y=>aD (xY ms' x.toNat y.toNat)) (aD ms') (aj _ _ _ _ _ _ _ _ _) ?_)
 by_cases hA:n<=2*i+1
 ·have d1:decide ((2*(i:Int)+1)>=(n:Int))=true:=by simp;omega
  refine⟨w1,w2,fun _=>?_,fun h=>(by rw[d1] at h;cases h)⟩
  (repeat' first|(with_reducible first|exact rfl|exact True.intro|assumption|apply And.intro|exact hz|exact aR _ _)|exact(rfl:Int.ofNat _=_)|exact(rfl:gH _ _=_)|exact hz|exact aR _ _|intro hq)
  exact out fun k kn k0 kp=>by omega
 ·have d1:decide ((2*(i:Int)+1)>=(n:Int))=false:=by simp;omega
  refine⟨w1,w2,fun h=>(by rw[d1] at h;cases h),fun _=>?_⟩
  have g: ∀a b,a<n->b<n->_:=fun a b ha hb=>tW hz ms' a b n c cc p ha hb (by omega)
  have s: ∀a b,a<n->b<n->_:=fun a b ha hb=>xz hz ms' a b n c cc p ha hb (by omega) (by omega)
  have gA:=g (2*i+1) i (by omega) (by omega)
  have sA:=s i (2*i+1) (by omega) (by omega)
  rw[e1,e2] at*
  by_cases hB:2*i+2<n
  ·have gB:=g (2*i+2) (2*i+1) hB (by omega)
   have gC:=g (2*i+2) i hB (by omega)
   have sC:=s i (2*i+2) (by omega) hB
   have d2:decide (((2*i+2:Nat):Int)<(n:Int))=true:=by simp;omega
   simp only[Int.toNat_natCast]
   (repeat' first|(with_reducible first|exact rfl|exact True.intro|assumption|apply And.intro|exact hz|exact w1|exact w2|exact w3|exact gA|exact gB|exact gC|exact sA|exact sC|exact aR _ _)|exact(rfl:Int.ofNat _=_)|exact(rfl:gH _ _=_)|exact hz|exact w1|exact w2|exact w3|exact gA|exact gB|exact gC|exact sA|exact sC|exact aR _ _|intro hq)
   all_goals try (exfalso;have h':decide (((2*i+2:Nat):Int)<(n:Int))=false:=(by with_reducible assumption);rw[d2] at h';cases h';done)
   all_goals simp only[Bool.not_eq_true',Bool.not_eq_false'] at*
   ·have f1:dC (hf ms' (2*i+2)) (hf ms' (2*i+1))=true:=by with_reducible assumption
    have f2:dC (hf ms' (2*i+2)) (hf ms' i)=false:=by with_reducible assumption
    exact out fun k kn k0 kp=>by
     have:k=2*i+1\/k=2*i+2:=by omega
     rcases this with rfl|rfl
     ·exact iy.trans _ _ _ f2 (iy.asymm _ _ f1)
     ·exact f2
   ·have f1:dC (hf ms' (2*i+2)) (hf ms' (2*i+1))=true:=by with_reducible assumption
    have f2:dC (hf ms' (2*i+2)) (hf ms' i)=true:=by with_reducible assumption
    exact jy (2*i+2) (by omega) hB (by omega) f2 fun k kn k0 kp=>by
     have:k=2*i+1\/k=2*i+2:=by omega
     rcases this with rfl|rfl
     ·exact iy.asymm _ _ f1
     ·exact UN _
   ·have f1:dC (hf ms' (2*i+2)) (hf ms' (2*i+1))=false:=by with_reducible assumption
    have f2:dC (hf ms' (2*i+1)) (hf ms' i)=false:=by with_reducible assumption
    exact out fun k kn k0 kp=>by
     have:k=2*i+1\/k=2*i+2:=by omega
     rcases this with rfl|rfl
     ·exact f2
     ·exact iy.trans _ _ _ f2 f1
   ·have f1:dC (hf ms' (2*i+2)) (hf ms' (2*i+1))=false:=by with_reducible assumption
    have f2:dC (hf ms' (2*i+1)) (hf ms' i)=true:=by with_reducible assumption
    exact jy (2*i+1) (by omega) (by omega) (by omega) f2 fun k kn k0 kp=>by
     have:k=2*i+1\/k=2*i+2:=by omega
     rcases this with rfl|rfl
     ·exact UN _
     ·exact f1
  ·have d2:decide (((2*i+2:Nat):Int)<(n:Int))=false:=by simp;omega
   simp only[Int.toNat_natCast]
   (repeat' first|(with_reducible first|exact rfl|exact True.intro|assumption|apply And.intro|exact hz|exact w1|exact w2|exact w3|exact gA|exact sA|exact aR _ _)|exact(rfl:Int.ofNat _=_)|exact(rfl:gH _ _=_)|exact hz|exact w1|exact w2|exact w3|exact gA|exact sA|exact aR _ _|intro hq)
   all_goals try (exfalso;have h':decide (((2*i+2:Nat):Int)<(n:Int))=true:=(by with_reducible assumption);rw[d2] at h';cases h';done)
   all_goals simp only[Bool.not_eq_true',Bool.not_eq_false'] at*
   ·have f2:dC (hf ms' (2*i+1)) (hf ms' i)=false:=by with_reducible assumption
    exact out fun k kn k0 kp=>by
     have:k=2*i+1:=by omega
     subst this;exact f2
   ·have f2:dC (hf ms' (2*i+1)) (hf ms' i)=true:=by with_reducible assumption
    exact jy (2*i+1) (by omega) (by omega) (by omega) f2 fun k kn k0 kp=>by
     have:k=2*i+1:=by omega
     subst this;exact UN _
theorem Ob(hz:aq z zn)(ms:List cg)(n c cc:Nat)(p:Int)(hn:n<=ms.length)(hc:ms.length*4<=cc)(hs:n<100000000)(hU:pO dC (hf ms) n 0):
 aM Tryz.prog z zn 283 [ip 0] [(0,eg (aZ 1 n c) p),(1,dK (aD ms) cc)] 2 2 (skφ ms n) (fun _=> .tuple ⟨[]⟩) (fun ms=>[(0,eg (aZ 1 n c) p),(1,dK (aD ms) cc)]):=by
 have hK:=JM hz ms n c cc p hn hc hs hU
 refine fN (cT z) (fn:=Tryz.f283) (by kernel_rfl) (by kernel_rfl) hz ⟨by decide,by decide⟩ (fun _ _=>⟨rfl,Nat.le_refl _,hz⟩) (N:=100) ?_
 refine Q3 z zn n c cc p (aD ms) (skφ ms n) _ ?_
 (repeat' first|(with_reducible first|exact rfl|exact True.intro|assumption|apply And.intro|exact hz|exact hK|exact aR _ _)|exact(rfl:Int.ofNat _=_)|exact(rfl:gH _ _=_)|exact hz|exact hK|exact aR _ _|intro hq)
 all_goals
  rename_i ms'
  exact q2 ms' hq rfl rfl rfl rfl rfl
def popφ(ms:List cg)(n:Nat)(ms':List cg):Prop:=ms'.length=ms.length/\mI dC (hf ms') (n - 1)/\ ∀v,gk (hf ms') (n - 1) v↔ ∃i,0<i/\i<n/\hf ms i=v
theorem Rk(hz:aq z zn)(ms:List cg)(n c cc:Nat)(p:Int)(h0:0<n)(hn:n<=ms.length)(hcn:n<=c)(hc:ms.length*4<=cc)(hs:n<100000000)(hU:mI dC (hf ms) n):
 aM Tryz.prog z zn 276 [ip 0] [(0,eg (aZ 1 n c) p),(1,dK (aD ms) cc)] 2 2 (popφ ms n) (fun _=> .tuple ⟨[.agg ⟨(hf ms 0).x.row⟩,T1]⟩) (fun ms=>[(0,eg (aZ 1 (n - 1) c) p),(1,dK (aD ms) cc)]):=by
 have hk:=HJ hz n c cc p ms hn (hf ms 0).x (by rw[if_neg (by omega)])
 rw[show decide (0<n)=true by simp;omega] at hk
 have hw:=xz hz ms 0 (n - 1) n c cc p h0 (by omega) hn hc
 have hd:pO dC (hf (xY ms 0 (n - 1))) (n - 1) 0:=by
  rw[mf (by omega) (by omega)]
  obtain⟨m,rfl⟩: ∃m,n=m+1:=⟨n - 1,by omega⟩
  exact Bz hU
 have Sd:=Ob hz (xY ms 0 (n - 1)) (n - 1) c cc p (by rw[kF];omega) (by rw[kF];exact hc) (by omega) (by exact hd)
 have e1:(n:Int) - 1=((n - 1:Nat):Int):=by omega
 have w1:Value.int .i64 (IntKind.i64.wrap ((n:Int) - 1))=Value.int .i64 ((n:Int) - 1):=ia (by omega) (by omega)
 refine fN (cT z) (fn:=Tryz.f276) (by kernel_rfl) (by kernel_rfl) hz ⟨by decide,by decide⟩ (fun _ _=>⟨rfl,Nat.le_refl _,hz⟩) (N:=100) ?_
 refine Bt z zn n c cc p (hf ms 0).x (fun x y=>aD (xY ms x.toNat y.toNat)) (aD ms) (skφ (xY ms 0 (n - 1)) (n - 1)) _ ?_
 rw[e1] at w1 ⊢
 simp only[Int.toNat_natCast,Int.toNat_zero]
 (repeat' first|(with_reducible first|exact rfl|exact True.intro|assumption|apply And.intro|exact hz|exact hk|exact hw|exact Sd|exact w1|exact Nat.zero_le _|exact aR _ _|exact(by omega:n - 1<=c)|exact(by omega:0<c))|exact(rfl:Int.ofNat _=_)|exact(rfl:gH _ _=_)|exact hz|exact hk|exact hw|exact Sd|exact w1|exact Nat.zero_le _|exact aR _ _|exact(by omega:n - 1<=c)|exact(by omega:0<c)|intro hq)
 all_goals
  rename_i ms'
  obtain⟨k1,k2,k3⟩:=hq
  rw[kF] at k1
  refine q2 ms' ⟨k1,k2,fun v=>(k3 v).trans ?_⟩ rfl rfl rfl rfl rfl
  rw[mf (by omega) (by omega)]
  obtain⟨m,rfl⟩: ∃m,n=m+1:=⟨n - 1,by omega⟩
  exact Fm v
theorem Og(hz:aq z zn)(ms:List cg)(c cc:Nat)(p:Int):
 A1 z zn 276 [ip 0] [(0,eg (aZ 1 0 c) p),(1,dK (aD ms) cc)] 2 2 (.tuple ⟨[.agg ⟨[I 0,I 0,I 0]⟩,F0]⟩) [(0,eg (aZ 1 0 c) p),(1,dK (aD ms) cc)]:=by
 have hk:=HJ hz 0 c cc p ms (Nat.zero_le _) ⟨0,0,0⟩ (by rw[if_pos rfl])
 refine aY (cT z) (fn:=Tryz.f276) (by kernel_rfl) (by kernel_rfl) hz ⟨by decide,by decide⟩ rfl (N:=100) ?_
 refine Q4 z zn 0 c cc p (aD ms) (fun _=>True) _ ?_
 (repeat' first|(with_reducible first|exact rfl|exact True.intro|assumption|apply And.intro|exact hz|exact hk|exact aR _ _|exact q1)|exact(rfl:Int.ofNat _=_)|exact(rfl:gH _ _=_)|exact hz|exact hk|exact aR _ _|exact q1|intro hq)
end
end Go.Proofs.Nw
namespace Go.iT
abbrev bX:=Nat->Nat->Nat->Prop
inductive Wk (E:bX)(k:Nat):Nat->Nat->Nat->Prop where
 |mu {i j w:Nat} (h:E i j w):Wk E k i j w
 |cons {i m j w L:Nat} (h:E i m w) (hm:m<k) (t:Wk E k m j L):Wk E k i j (w+L)
theorem Wk.split{E:bX}{k i j L:Nat}(t:Wk E (k+1) i j L):Wk E k i j L\/ ∃a b,Wk E k i k a/\Wk E k k j b/\a+b<=L:=by
 induction t with
 |mu h=>exact .inl (.mu h)
 | @cons i m j w L h hm t ih=>
   by_cases hk:m<k
   ·rcases ih with ih|⟨a,b,h1,h2,h3⟩
    ·exact .inl (.cons h hk ih)
    ·exact .inr ⟨w+a,b, .cons h hk h1,h2,by omega⟩
   ·have:m=k:=by omega
    subst this
    rcases ih with ih|⟨a,b,h1,h2,h3⟩
    ·exact .inr ⟨w,L, .mu h,ih,by omega⟩
    ·exact .inr ⟨w,b, .mu h,h2,by omega⟩
theorem Wk.append{E:bX}{k i m j a b:Nat}(s:Wk E k i m a)(hm:m<k)(t:Wk E k m j b):Wk E k i j (a+b):=by
 induction s with
 |mu h=>exact .cons h hm t
 |cons h1 h2 _ ih=>rw[Nat.add_assoc];exact .cons h1 h2 (ih hm t)
theorem Wk.mono{E E':bX}{k i j L:Nat}(h: ∀a b w,E a b w-> ∃w',w'<=w/\E' a b w')(t:Wk E k i j L): ∃L',L'<=L/\Wk E' k i j L':=by
 induction t with
 |mu h1=>obtain⟨w',a,b⟩:=h _ _ _ h1;exact⟨w',a, .mu b⟩
 |cons h1 h2 _ ih=>
  obtain⟨w',a,b⟩:=h _ _ _ h1
  obtain⟨L',c,d⟩:=ih
  exact⟨w'+L',by omega, .cons b h2 d⟩
def Real(E:bX)(n iY:Nat)(d:Nat->Nat->Int):Prop:= ∀i j,i<n->j<n->0<=d i j/\(d i j<iY->Wk E n i j (d i j).toNat)
def PQ(E:bX)(k:Nat)(d:Nat->Nat->Int)(i j:Nat):Prop:= ∀L,Wk E k i j L->d i j<=(L:Int)
def nw(d:Nat->Nat->Int)(i j:Nat)(v:Int):Nat->Nat->Int:=fun a b=>if a=i/\b=j then v else d a b
structure OV(E:bX)(n iY k i j:Nat)(d:Nat->Nat->Int):Prop where
 real:Real E n iY d
 low: ∀a b,a<n->b<n->PQ E k d a b
 done: ∀a b,a<n->b<n->(a<i\/a=i/\b<j)->PQ E (k+1) d a b
theorem PQ.le{E:bX}{k:Nat}{d d':Nat->Nat->Int}{i j:Nat}(h:PQ E k d i j)(hd:d' i j<=d i j):PQ E k d' i j:=fun L t=>Int.le_trans hd (h L t)
theorem F9{E:bX}{n iY k i j:Nat}{d:Nat->Nat->Int}(h:OV E n iY k i j d)(hk:k<n)(hi:i<n)(hj:j<n):
 OV E n iY k i (j+1) (nw d i j (min (d i j) (d i k+d k j))):=by
 have hle: ∀a b,(nw d i j (min (d i j) (d i k+d k j))) a b<=d a b:=fun a b=>by
  unfold nw;split
  ·rename_i hc;rw[hc.1,hc.2];omega
  ·omega
 refine⟨fun a b ha hb=>?_,fun a b ha hb=>(h.low a b ha hb).le (hle a b),fun a b ha hb hab=>?_⟩
 ·unfold nw
  split
  ·rename_i hc
   obtain⟨rfl,rfl⟩:=hc
   obtain⟨p1,q1⟩:=h.real a b ha hb
   obtain⟨p2,q2⟩:=h.real a k ha hk
   obtain⟨p3,q3⟩:=h.real k b hk hb
   refine⟨by omega,fun hlt=>?_⟩
   by_cases hm:d a b<=d a k+d k b
   ·rw[Int.min_eq_left hm] at hlt ⊢;exact q1 hlt
   ·rw[Int.min_eq_right (by omega)] at hlt ⊢
    have:=(q2 (by omega)).append hk (q3 (by omega))
    rw[show(d a k+d k b).toNat=(d a k).toNat+(d k b).toNat by omega]
    exact this
  ·exact h.real a b ha hb
 ·by_cases hc:a=i/\b=j
  ·obtain⟨rfl,rfl⟩:=hc
   intro L t
   unfold nw
   rw[if_pos ⟨rfl,rfl⟩]
   rcases t.split with t|⟨x,y,t1,t2,hs⟩
   ·have:=h.low a b ha hb _ t;omega
   ·have e1:=h.low a k ha hk _ t1
    have e2:=h.low k b hk hb _ t2
    omega
  ·exact(h.done a b ha hb (by omega)).le (hle a b)
theorem JB{E:bX}{n iY k i:Nat}{d:Nat->Nat->Int}(h:OV E n iY k i n d):OV E n iY k (i+1) 0 d:=
 ⟨h.real,h.low,fun a b ha hb hab=>h.done a b ha hb (by omega)⟩
structure Head(E:bX)(n iY k:Nat)(d:Nat->Nat->Int):Prop where
 real:Real E n iY d
 low: ∀a b,a<n->b<n->PQ E k d a b
theorem DK{E:bX}{n iY k:Nat}{d:Nat->Nat->Int}(h:Head E n iY k d):OV E n iY k 0 0 d:=
 ⟨h.real,h.low,fun a b ha hb hab=>by omega⟩
theorem JC{E:bX}{n iY k:Nat}{d:Nat->Nat->Int}(h:OV E n iY k n 0 d):Head E n iY (k+1) d:=
 ⟨h.real,fun a b ha hb=>h.done a b ha hb (.inl ha)⟩
def Aw(E:bX)(n iY i j:Nat)(v:Int):Prop:=0<=v/\(v<iY->Wk E n i j v.toNat)/\ ∀L:Nat,Wk E n i j L->v<=L
theorem GS{E:bX}{n iY:Nat}{d:Nat->Nat->Int}(h:Head E n iY n d){i j:Nat}(hi:i<n)(hj:j<n):Aw E n iY i j (d i j):=
 ⟨(h.real i j hi hj).1,(h.real i j hi hj).2,h.low i j hi hj⟩
def cW(l:List (Nat × Nat × Nat)):bX:=fun a b w=>(a,b,w)∈l
theorem XL{E:bX}{i j L:Nat}(t:Wk E 0 i j L):E i j L:=by
 cases t with
 |mu h=>exact h
 |cons _ h _=>omega
def Av(l:List (Nat × Nat × Nat))(n iY:Nat)(d:Nat->Nat->Int):Prop:= ∀i j,i<n->j<n->0<=d i j/\d i j<=iY/\(d i j<iY->(i,j,(d i j).toNat)∈l)/\ ∀w,(i,j,w)∈l->d i j<=(w:Int)
theorem D5(n iY:Nat):Av [] n iY (fun _ _=>(iY:Int)):=fun i j _ _=>⟨Int.natCast_nonneg _,Int.le_refl _,fun h=>absurd h (Int.lt_irrefl _),fun w h=>by simp at h⟩
theorem Bk{l:List (Nat × Nat × Nat)}{n iY:Nat}{d:Nat->Nat->Int}(h:Av l n iY d)(a b w:Nat):
 Av (l++[(a,b,w)]) n iY (nw d a b (min (d a b) w)):=by
 intro i j hi hj
 obtain⟨h1,h2,h3,h4⟩:=h i j hi hj
 unfold nw
 split
 ·rename_i hc
  obtain⟨rfl,rfl⟩:=hc
  refine⟨by omega,by omega,fun hlt=>?_,fun x hx=>?_⟩
  ·by_cases hm:d i j<=w
   ·rw[Int.min_eq_left hm] at hlt ⊢;exact List.mem_append_left _ (h3 hlt)
   ·rw[Int.min_eq_right (by omega)];simp
  ·rcases List.mem_append.1 hx with hx|hx
   ·have:=h4 x hx;omega
   ·simp at hx;subst hx;omega
 ·rename_i hc
  refine⟨h1,h2,fun hlt=>List.mem_append_left _ (h3 hlt),fun x hx=>?_⟩
  rcases List.mem_append.1 hx with hx|hx
  ·exact h4 x hx
  ·simp at hx;exact(hc ⟨hx.1,hx.2.1⟩).elim
theorem Bl{l:List (Nat × Nat × Nat)}{n iY:Nat}{d:Nat->Nat->Int}(h:Av l n iY d):Head (cW l) n iY 0 d:=
 ⟨fun i j hi hj=>⟨(h i j hi hj).1,fun hlt=> .mu ((h i j hi hj).2.2.1 hlt)⟩,fun a b ha hb L t=>(h a b ha hb).2.2.2 L (XL t)⟩
inductive Rc (E:bX)(s:Nat):Nat->Nat->Prop where
 |start:Rc E s s 0
 |snoc {v x w L:Nat} (t:Rc E s v L) (h:E v x w):Rc E s x (L+w)
theorem Rc.cons{E:bX}{i m w v L:Nat}(h:E i m w)(t:Rc E m v L):Rc E i v (w+L):=by
 induction t with
 |start=>simpa using Rc.snoc .start h
 |snoc t h2 ih=>rw[←Nat.add_assoc];exact .snoc ih h2
theorem Wk.rc{E:bX}{k i j L:Nat}(t:Wk E k i j L):Rc E i j L:=by
 induction t with
 |mu h=>simpa using Rc.snoc .start h
 |cons h _ _ ih=>exact .cons h ih
theorem Wk.snoc{E:bX}{n i v x w L:Nat}(t:Wk E n i v L)(hv:v<n)(h:E v x w):Wk E n i x (L+w):=t.append hv (.mu h)
theorem Rc.wk{E:bX}{n s v L:Nat}(hE: ∀a b w,E a b w->a<n/\b<n)(t:Rc E s v L):(v=s/\L=0)\/Wk E n s v L:=by
 induction t with
 |start=>exact .inl ⟨rfl,rfl⟩
 | @snoc v x w L t h ih=>
   rcases ih with ⟨rfl,rfl⟩|ih
   ·exact .inr (by simpa using Wk.mu h)
   ·exact .inr (ih.snoc (hE _ _ _ h).1 h)
structure Dj(E:bX)(s:Nat)(S:Nat->Prop)(d:Nat->Nat)(Q:Nat->Nat->Prop):Prop where
 set: ∀v,S v->Rc E s v (d v)/\ ∀L,Rc E s v L->d v<=L
 wait: ∀v l,Q v l->Rc E s v l
 front: ∀u x w,S u->E u x w->S x\/Q x (d u+w)
 first:S s\/Q s 0
theorem Dj.reach{E:bX}{s:Nat}{S:Nat->Prop}{d:Nat->Nat}{Q:Nat->Nat->Prop}(h:Dj E s S d Q){v L:Nat}(t:Rc E s v L):S v\/ ∃y l,Q y l/\l<=L:=by
 induction t with
 |start=>exact h.first.imp id fun q=>⟨_,_,q,Nat.le_refl _⟩
 | @snoc v x w L t hE ih=>
   rcases ih with hs|⟨y,l,q,hl⟩
   ·have:=(h.set v hs).2 L t
    rcases h.front v x w hs hE with hx|q
    ·exact .inl hx
    ·exact .inr ⟨x,_,q,by omega⟩
   ·exact .inr ⟨y,l,q,by omega⟩
theorem Kt{E:bX}{s:Nat}{S:Nat->Prop}{d:Nat->Nat}{Q Q':Nat->Nat->Prop}(h:Dj E s S d Q){x l:Nat}(hx:S x)
 (h1: ∀v k,Q' v k->Q v k) (h2: ∀v k,Q v k->Q' v k\/(v=x/\k=l)):Dj E s S d Q':=by
 refine⟨h.set,fun v k q=>h.wait v k (h1 v k q),fun u y w hu he=>?_,?_⟩
 ·rcases h.front u y w hu he with q|q
  ·exact .inl q
  ·rcases h2 _ _ q with q|⟨rfl,_⟩
   ·exact .inr q
   ·exact .inl hx
 ·rcases h.first with q|q
  ·exact .inl q
  ·rcases h2 _ _ q with q|⟨rfl,_⟩
   ·exact .inr q
   ·exact .inl hx
structure Iu(E:bX)(s:Nat)(S:Nat->Prop)(d:Nat->Nat)(Q:Nat->Nat->Prop)(x:Nat)(l:List (Nat × Nat)):Prop where
 set: ∀v,S v->Rc E s v (d v)/\ ∀L,Rc E s v L->d v<=L
 wait: ∀v l,Q v l->Rc E s v l
 front: ∀u y w,S u->E u y w->(u=x->(y,w)∈l)->S y\/Q y (d u+w)
 first:S s\/Q s 0
theorem El{E:bX}{s:Nat}{S:Nat->Prop}{d:Nat->Nat}{Q Q':Nat->Nat->Prop}(h:Dj E s S d Q){x l:Nat}(hx: ¬S x)(hq:Q x l)
 (hmin: ∀v k,Q v k->l<=k) (h1: ∀v k,Q' v k->Q v k) (h2: ∀v k,Q v k->Q' v k\/(v=x/\k=l)):
 Iu E s (fun v=>S v\/v=x) (fun v=>if v=x then l else d v) Q' x []:=by
 refine⟨fun v hv=>?_,fun v k q=>h.wait v k (h1 v k q),fun u y w hu he hl=>?_,?_⟩
 ·by_cases hvx:v=x
  ·subst hvx
   simp only[if_true]
   refine⟨h.wait _ _ hq,fun L t=>?_⟩
   rcases h.reach t with hs|⟨y,k,q,hk⟩
   ·exact(hx hs).elim
   ·have:=hmin _ _ q;omega
  ·simp only[if_neg hvx]
   exact h.set v (hv.resolve_right hvx)
 ·by_cases hux:u=x
  ·exact absurd (hl hux) (by simp)
  ·simp only[if_neg hux]
   rcases h.front u y w (hu.resolve_right hux) he with q|q
   ·exact .inl (.inl q)
   ·rcases h2 _ _ q with q|⟨rfl,_⟩
    ·exact .inr q
    ·exact .inl (.inr rfl)
 ·rcases h.first with q|q
  ·exact .inl (.inl q)
  ·rcases h2 _ _ q with q|⟨rfl,_⟩
   ·exact .inr q
   ·exact .inl (.inr rfl)
theorem wo{E:bX}{s:Nat}{S:Nat->Prop}{d:Nat->Nat}{Q Q':Nat->Nat->Prop}{x y w:Nat}{l:List (Nat × Nat)}(h:Iu E s S d Q x l)(hx:S x)(he:E x y w)
 (h1: ∀v k,Q v k->Q' v k) (h2: ∀v k,Q' v k->Q v k\/(v=y/\k=d x+w)) (h3:S y\/Q' y (d x+w)):Iu E s S d Q' x (l++[(y,w)]):=by
 refine⟨h.set,fun v k q=>?_,fun u z v hu hz hl=>?_,h.first.imp id (h1 _ _)⟩
 ·rcases h2 v k q with q|⟨rfl,rfl⟩
  ·exact h.wait v k q
  ·exact .snoc (h.set x hx).1 he
 ·by_cases hux:u=x
  ·subst hux
   rcases List.mem_append.1 (hl rfl) with hm|hm
   ·exact(h.front u z v hu hz fun _=>hm).imp id (h1 _ _)
   ·simp at hm
    obtain⟨rfl,rfl⟩:=hm
    exact h3
  ·exact(h.front u z v hu hz fun e=>(hux e).elim).imp id (h1 _ _)
theorem Hf{E:bX}{s:Nat}{S:Nat->Prop}{d:Nat->Nat}{Q:Nat->Nat->Prop}{x:Nat}{l:List (Nat × Nat)}(h:Iu E s S d Q x l)(hl: ∀y w,E x y w->(y,w)∈l):Dj E s S d Q:=
 ⟨h.set,h.wait,fun u y w hu he=>h.front u y w hu he fun e=>hl y w (e ▸ he),h.first⟩
def lD(E:bX)(s v:Nat)(x:Int):Prop:=(x= -1/\ ∀L,¬Rc E s v L)\/(0<=x/\Rc E s v x.toNat/\ ∀L,Rc E s v L->x<=(L:Int))
theorem N1{E:bX}{s:Nat}{S:Nat->Prop}{d:Nat->Nat}{Q:Nat->Nat->Prop}(h:Dj E s S d Q)(hq: ∀v k,¬Q v k)(v:Nat):
 (S v->lD E s v (d v))/\(¬S v->lD E s v (-1)):=by
 refine⟨fun hs=> .inr ⟨by omega,by simpa using (h.set v hs).1,fun L t=>by have:=(h.set v hs).2 L t;omega⟩,fun hs=> .inl ⟨rfl,fun L t=>?_⟩⟩
 rcases h.reach t with q|⟨y,k,q,_⟩
 ·exact hs q
 ·exact hq _ _ q
abbrev pN:=Nat × Nat × Int × Bool
def rG(a b:Nat)(n f:Int):List pN:=
 (if 0<n/\n<=14400 then [(a,b,n,decide (f=n))] else [])++(if f=n then [] else if 0<f/\f<=14400 then [(a,b,f,true)] else [])
def wZ(a b:Nat)(x y:Int):List pN:=
 if 14400<x then [] else (a,b,x,decide (y=x))::(if x<y/\y<=14400 then [(a,b,y,true)] else [])
def Alike(x n:Int):Prop:=(0<x/\x<=14400/\n=x)\/(14400<x/\(n<=0\/14400<n))
theorem Hc{a b:Nat}{x y n f:Int}(h1:Alike x n)(h2:Alike y f)(hxy:x<=y):rG a b n f=wZ a b x y:=by
 unfold rG wZ
 unfold Alike at h1 h2
 rcases h1 with ⟨p1,p2,rfl⟩|⟨p1,p2⟩
 ·rw[if_pos ⟨p1,p2⟩,if_neg (show¬14400<n by omega)]
  rcases h2 with ⟨q1,q2,rfl⟩|⟨q1,q2⟩
  ·by_cases he:f=n
   ·rw[if_pos he,if_neg (show¬(n<f/\f<=14400) by omega)];rfl
   ·rw[if_neg he,if_pos ⟨q1,q2⟩,if_pos (show n<f/\f<=14400 from⟨by omega,q2⟩)];rfl
  ·have e1: ¬f=n:=by omega
   have e2: ¬y=n:=by omega
   rw[if_neg e1,if_neg (show¬(0<f/\f<=14400) by omega),if_neg (show¬(n<y/\y<=14400) by omega),decide_eq_false e1,decide_eq_false e2];rfl
 ·rw[if_neg (show¬(0<n/\n<=14400) by omega),if_pos p1]
  rcases h2 with ⟨q1,q2,rfl⟩|⟨q1,q2⟩
  ·omega
  ·by_cases he:f=n
   ·rw[if_pos he];rfl
   ·rw[if_neg he,if_neg (show¬(0<f/\f<=14400) by omega)];rfl
def Pos(E:bX):Prop:= ∀a b w,E a b w->0<w
theorem Wk.pos{E:bX}(hp:Pos E){k i j L:Nat}(t:Wk E k i j L):0<L:=by
 cases t with
 |mu h=>exact hp _ _ _ h
 |cons h _ _=>have:=hp _ _ _ h;omega
structure wK(E E':bX):Prop where
 to: ∀a b w,E a b w-> ∃w',w'<=w/\E' a b w'
 from_: ∀a b w,E' a b w-> ∃w',w'<=w/\E a b w'
theorem Ah{E E':bX}{n iY i j:Nat}{x v:Int}(hs:wK E E')(hp:Pos E)(hE: ∀a b w,E' a b w->a<n/\b<n)(hbig:14400<iY)(hij:j≠i)
 (h1:Aw E n iY i j x) (h2:lD E' i j v):Alike x v:=by
 obtain⟨a1,a2,a3⟩:=h1
 unfold Alike
 by_cases hx:x<=14400
 ·have t:=a2 (by omega)
  have hpos:=t.pos hp
  have hxp:0<x:=by omega
  obtain⟨L',hL,t'⟩:=t.mono hs.to
  rcases h2 with ⟨_,hno⟩|⟨b1,b2,b3⟩
  ·exact(hno _ t'.rc).elim
  ·have:=b3 _ t'.rc
   rcases b2.wk hE with ⟨h,_⟩|t2
   ·exact(hij h).elim
   ·obtain⟨L2,hL2,t3⟩:=t2.mono hs.from_
    have:=a3 _ t3
    exact .inl ⟨hxp,hx,by omega⟩
 ·refine .inr ⟨by omega,?_⟩
  rcases h2 with ⟨h,_⟩|⟨b1,b2,b3⟩
  ·exact .inl (by omega)
  ·by_cases hv:v<=14400
   ·rcases b2.wk hE with ⟨h,_⟩|t2
    ·exact(hij h).elim
    ·obtain⟨L2,hL2,t3⟩:=t2.mono hs.from_
     have:=a3 _ t3
     omega
   ·exact .inr (by omega)
theorem yU{E F:bX}{n iY i j:Nat}{x y:Int}(hsub: ∀a b w,F a b w-> ∃w',w'<=w/\E a b w')(h1:Aw E n iY i j x)(h2:Aw F n iY i j y):x<=y\/(iY:Int)<=y:=by
 by_cases hy:y<iY
 ·obtain⟨L,hL,t⟩:=(h2.2.1 hy).mono hsub
  have:=h1.2.2 _ t
  have:=h2.1
  exact .inl (by omega)
 ·exact .inr (by omega)
end Go.iT
namespace Go.Proofs.Nw
open Go Go.AV Go.iT
set_option maxHeartbeats 4000000
set_option maxRecDepth 100000
def Sc:cO:=⟨0,-1,-1⟩
def eP(l:List cO)(v:Nat):cO:=l[v]?.getD Sc
theorem lZ{l:List cO}{v:Nat}(h:v<l.length):l[v]? =some (eP l v):=by
 unfold eP;rw[List.getElem?_eq_getElem h];rfl
theorem GL{l:List cO}{v:Nat}(h:l.length<=v):eP l v=Sc:=by
 unfold eP;rw[List.getElem?_eq_none h];rfl
theorem pd{l:List cO}{i:Nat}(h:i<l.length)(x:cO)(v:Nat):eP (l.set i x) v=if v=i then x else eP l v:=by
 unfold eP
 rw[List.getElem?_set]
 by_cases e:i=v
 ·subst e;simp[h]
 ·have e': ¬v=i:=fun q=>e q.symm
  simp[e,e']
theorem oL(l:List cO): ∀r∈l.map cO.row,r.length=3:=aO l fun _=>rfl
theorem vi(l:List cO):(aV l).length=l.length*3:=by rw[ko (oL l),List.length_map]
theorem yA(l:List cO):bG (aV l)=true:=kR (fun _=>rfl) l
theorem dt{σ:Nat->Option Nat}(l:List cO)(c:Nat):aG σ (aa.ax (bg.mk (aV l) c 3 345 true true 0 true))=some (aa.ax (bg.mk (aV l) c 3 345 true true 0 true)):=cF (yA l)
theorem Lw{l:List cO}{i:Nat}(h:i<l.length)(c:Nat):aB Tryz.prog (bg.mk (aV l) c 3 345 true true 0 true) 345 (0+i*3)=some (.agg ⟨(eP l i).row⟩):=
 gN (rows:=l.map cO.row) rfl Tryz.underlying345 rfl rfl (oL l) (by rw[List.getElem?_map,lZ h];rfl)
theorem FO{l:List cO}{i:Nat}(h:i<l.length)(c:Nat):aB Tryz.prog (bg.mk (aV l) c 3 345 true true 0 true) 3 (0+i*3+2)=some (zv (eP l i).fK):=
 AY (rows:=l.map cO.row) rfl Tryz.underlying3 rfl (oL l) (r:=(eP l i).row) (by rw[List.getElem?_map,lZ h];rfl) rfl
theorem Lz{l:List cO}{i:Nat}(h:i<l.length)(a:cO):overwrite (aV l) (0+i*3) a.row=some (aV (l.set i a)):=by
 have:=sP (oL l) (i:=i) (by simpa using h) (r':=a.row) rfl
 rw[kT] at this
 exact this
def uU:List Value->List Value
 |_::b::_::r=>b::uU r
 |_=>[]
abbrev vX(l:List cO):List Value:=l.map fun a=>zv a.len
theorem mX: ∀l:List cO,uU (aV l)=vX l
 |[]=>rfl
 |a::l=>by
  show zv a.len::uU (aV l)=_
  rw[mX l];rfl
theorem kS(f:cO->Int)(l:List cO):bG (l.map fun a=>zv (f a))=true:=by
 rw[cV];intro v hv
 obtain⟨a,_,rfl⟩:=List.mem_map.1 hv
 rfl
theorem mN: ∀(n:Nat)(v:List Value),v.length=1->rep n v=List.replicate n (v.headD undef)
 |0,_,_=>rfl
 |n+1,[a],h=>by
  show [a]++rep n [a]=_
  rw[mN n [a] rfl];rfl
theorem lR(row:List Value): ∀n,rep n row=(List.replicate n row).flatten
 |0=>rfl
 |n+1=>by
  show row++rep n row=_
  rw[lR row n];rfl
section
variable{z:T aa}{zn:Nat}
theorem fE{σ:Nat->Option Nat}{cs:List Value}(h:bG cs=true)(c:Nat):aG σ (aa.ax (bg.mk cs c 1 3 true true 0 true))=some (aa.ax (bg.mk cs c 1 3 true true 0 true)):=cF h
theorem JZ(hz:aq z zn)(l:List cO)(n:Nat)(hl:l.length=n)(hn:n<=1000)(cs:List Value)(hcs:cs.length=n)(hp:bG cs=true):
 ai Tryz.prog (ah (ag Tryz.f263) 0) 2 23 (DQ n 0) [(0,jI (aV l) n),(1,D6 cs n)] 2 z zn (Al.R (Uv z zn n (aV l) cs (vX l)).l):=by
 refine ak hD (cT z) (α:=Nat) 2 23 2 (fun i=>i<=n) (fun i=>DQ n i) (fun i=>[(0,jI (aV l) n),(1,D6 ((l.take i).map (fun a=>zv a.len)++cs.drop i) n)]) (fun _=>z) (fun _=>zn) (fun i=>n - i) _ (fun i hI=>?_) 0 (Nat.zero_le _)
 have hpl: ∀j,bG ((l.take j).map (fun a=>zv a.len)++cs.drop j)=true:=fun j=>by
  rw[cV];intro v hv
  rcases List.mem_append.1 hv with q|q
  ·exact cV.1 (kS (·.len) (l.take j)) v q
  ·exact cV.1 hp v (List.mem_of_mem_drop q)
 by_cases hi:i<n
 ·have hlen:((l.take i).map (fun a=>zv a.len)++cs.drop i).length=n:=by simp;omega
  have o1:=oT (cs:=(l.take i).map (fun a=>zv a.len)++cs.drop i) (i:=i) (by omega) (zv (eP l i).len)
  have e1:((l.take i).map (fun a=>zv a.len)++cs.drop i).set i (zv (eP l i).len)=(l.take (i+1)).map (fun a=>zv a.len)++cs.drop (i+1):=by
   rw[List.take_add_one,lZ (by omega),List.map_append]
   rw[List.set_append_right _ _ (by simp;omega)]
   have:i - ((l.take i).map fun a=>zv a.len).length=0:=by simp;omega
   have hd:cs.drop i=cs[i]::cs.drop (i+1):=List.drop_eq_getElem_cons (by omega:i<cs.length)
   rw[this,hd,List.set_cons_zero,List.append_assoc]
   rfl
  rw[e1] at o1
  have hc:decide ((i:Int)<(n:Int))=true:=by simp;omega
  have l1:((l.take (i+1)).map (fun a=>zv a.len)++cs.drop (i+1)).length<=n*1:=by simp;omega
  have r1:=hpl i
  have r2:=hpl (i+1)
  refine t100 (WA z zn n i (aV l) ((l.take i).map (fun a=>zv a.len)++cs.drop i) ((l.take (i+1)).map (fun a=>zv a.len)++cs.drop (i+1)) (eP l i) (aj _ _ _ _ _ _ _ _ _) ⟨fun _=>?_,fun h=>(by rw[hc] at h;cases h)⟩)
  (repeat' first|(with_reducible first|exact rfl|exact True.intro|assumption|apply And.intro|exact hz|exact hi|exact Lw (by omega) _|exact o1|exact l1|exact dt _ _|exact fE r1 _|exact fE r2 _|exact aK (by omega))|exact(rfl:Int.ofNat _=_)|exact(rfl:gH _ _=_)|exact hz|exact hi|exact Lw (by omega) _|exact o1|exact l1|exact dt _ _|exact fE r1 _|exact fE r2 _|exact aK (by omega)|intro hq)
  exact⟨i+1,rfl,rfl,rfl,rfl,rfl,hi,by show n - (i+1)<n - i;omega⟩
 ·have hc:decide ((i:Int)<(n:Int))=false:=by simp;omega
  have r1:=hpl i
  refine t100 (WA z zn n i (aV l) ((l.take i).map (fun a=>zv a.len)++cs.drop i) [] Sc (aj _ _ _ _ _ _ _ _ _) ⟨fun h=>(by rw[hc] at h;cases h),fun _=>?_⟩)
  (repeat' first|(with_reducible first|exact rfl|exact True.intro|assumption|apply And.intro|exact hz|exact dt _ _|exact fE r1 _)|exact(rfl:Int.ofNat _=_)|exact(rfl:gH _ _=_)|exact hz|exact dt _ _|exact fE r1 _|intro hq)
  have:i=n:=by omega
  subst this
  rw[List.take_of_length_le (by omega),List.drop_eq_nil_of_le (by omega),List.append_nil]
  exact bE trivial
theorem Ok(hz:aq z zn)(l:List cO)(n:Nat)(hl:l.length=n)(hn:n<=1000):
 A1 z zn 263 [aZ 0 n n] [(0,jI (aV l) n)] 1 2 (aZ 1 n n) [(1,D6 (uU (aV l)) n)]:=by
 have e0:rep n [I 0]=List.replicate n (I 0):=mN n [I 0] rfl
 have hp:bG (rep n [I 0])=true:=by
  rw[e0,cV];intro v hv;rw[List.eq_of_mem_replicate hv];rfl
 have hK:=JZ hz l n hl hn (rep n [I 0]) (by rw[e0];simp) hp
 have r3: ∀σ,_:=fun σ=>fE (σ:=σ) (kS (·.len) l) (n*1)
 rw[mX]
 refine aY (cT z) (fn:=Tryz.f263) (by kernel_rfl) (by kernel_rfl) hz ⟨by decide,by decide⟩ rfl (N:=100) ?_
 refine ln z zn n (aV l) (rep n [I 0]) (vX l) _ ?_
 (repeat' first|(with_reducible first|exact rfl|exact True.intro|assumption|apply And.intro|exact hz|exact hK|exact dt _ _|exact fE hp _|exact r3 _|exact(by omega:n<=1048576)|exact q1)|exact(rfl:Int.ofNat _=_)|exact(rfl:gH _ _=_)|exact hz|exact hK|exact dt _ _|exact fE hp _|exact r3 _|exact(by omega:n<=1048576)|exact q1|intro hq)
end
abbrev nq:=Int × Nat × List eh
def lA(L:List nq)(a:Int):List eh:=((L.find? fun x=>x.1==a).map (·.2.2)).getD []
structure TF(z:T aa)(zn n:Nat)(L:List nq):Prop where
 row: ∀x∈L,∃kb:bg,z.get x.2.1=some (.ax kb)/\kb.cells=bF x.2.2
 mu: ∀x∈L,x.2.2.length<=4096/\ ∀e∈x.2.2,0<=e.an/\e.an<n/\0<=e.wt/\e.wt<=1073741824
def GE(L:List nq):bX:=fun u v w=> ∃e∈lA L (u:Int),e.an=(v:Int)/\e.wt=(w:Int)
theorem mi(L:List nq)(a:Int): ∀i j,(∃p x,aA Tryz.prog 3 (zv a) (eI j L) i=some (some (p,tb x.2.1 x.2.2.length x.2.2.length))/\x∈L/\L.find? (fun x=>x.1==a)=some x/\i<=p/\L[p - i]? =some x)\/(aA Tryz.prog 3 (zv a) (eI j L) i=some none/\L.find? (fun x=>x.1==a)=none):=by
 induction L with
 |nil=>intro i j;exact .inr ⟨rfl,rfl⟩
 |cons y l ih=>
  intro i j
  obtain⟨b,k,r⟩:=y
  simp only[eI,aA,au,G9]
  by_cases h:a=b
  ·subst h
   refine .inl ⟨i,(a,k,r),by simp,List.mem_cons_self ..,by simp,Nat.le_refl _,by simp⟩
  ·have hd:decide (a=b)=false:=by simp[h]
   have hb:(b==a)=false:=by simp;exact fun e=>h e.symm
   rw[hd]
   simp only[List.find?_cons,hb]
   rcases ih (i+1) (j+1) with ⟨p,x,q1,q2,q3,q4,q5⟩|⟨q1,q2⟩
   ·refine .inl ⟨p,x,q1,List.mem_cons_of_mem _ q2,q3,by omega,?_⟩
    rw[show p - i=(p - (i+1))+1 by omega,List.getElem?_cons_succ];exact q5
   ·exact .inr ⟨q1,q2⟩
theorem LA(L:List nq)(a:Int):aA Tryz.prog 3 (zv a) (eI 0 L) 0≠none:=by
 rcases mi L a 0 0 with ⟨p,x,q,_⟩|⟨q,_⟩<;>rw[q]<;>simp
theorem LB(L:List nq)(a:Int)(p:Nat × Value)(h:aA Tryz.prog 3 (zv a) (eI 0 L) 0=some (some p)): ∃x:Nat × Nat × Nat,p=(x.1,tb x.2.1 x.2.2 x.2.2):=by
 rcases mi L a 0 0 with ⟨q,x,e,_⟩|⟨e,_⟩
 ·rw[e] at h;cases h;exact⟨(q,x.2.1,x.2.2.length),rfl⟩
 ·rw[e] at h;cases h
theorem Nm(L:List nq)(a:Int){i:Nat × Nat × Nat}(h:aA Tryz.prog 3 (zv a) (eI 0 L) 0=some (some (i.1,tb i.2.1 i.2.2 i.2.2))): ∃x∈L,lA L a=x.2.2/\i.2.1=x.2.1/\i.2.2=x.2.2.length:=by
 rcases mi L a 0 0 with ⟨q,x,e,h1,h2,_⟩|⟨e,_⟩
 ·rw[e] at h
  simp only[Option.some.injEq,Prod.mk.injEq,Value.slice.injEq,Addr.mk.injEq,and_true] at h
  obtain⟨_,h3,h4,_⟩:=h
  refine⟨x,h1,by unfold lA;rw[h2];rfl,by omega,h4.symm⟩
 ·rw[e] at h;cases h
theorem Nl(L:List nq)(a:Int)(h:aA Tryz.prog 3 (zv a) (eI 0 L) 0=some none):lA L a=[]:=by
 rcases mi L a 0 0 with ⟨q,x,e,_⟩|⟨e,h2⟩
 ·rw[e] at h;cases h
 ·unfold lA;rw[h2];rfl
theorem rE{σ:Nat->Option Nat}: ∀{L:List nq} (i:Nat),(∀x∈L,σ (256*x.2.1+510)=some (256*x.2.1+510))->gq σ (eI i L)=some (eI i L)
 |[],_,_=>rfl
 |(a,k,r)::l,i,h=>by
  have hk:=h (a,k,r) (List.mem_cons_self ..)
  simp only at hk
  simp only[eI,gq,aX,hk,rE (i+1) fun x hx=>h x (List.mem_cons_of_mem _ hx)]
theorem FN{σ:Nat->Option Nat}{L:List nq}(h: ∀x∈L,σ (256*x.2.1+510)=some (256*x.2.1+510))(c:Nat):aG σ (aa.map (eI 0 L) c)=some (aa.map (eI 0 L) c):=by
 simp only[aG,rE 0 h]
theorem iO(σ:bA)(L:List nq)(c:Nat):aG (sig σ) (aa.map (eI 0 L) c)=some (aa.map (eI 0 L) c):=FN (fun x _=>iD (by unfold cL;omega)) c
theorem cK(σ:bA)(L:List nq)(c:Nat):aG (az σ []) (aa.map (eI 0 L) c)=some (aa.map (eI 0 L) c):=iO σ L c
theorem oK(l:List eh): ∀r∈l.map eh.row,r.length=3:=aO l fun _=>rfl
def LQ(s:pR)(v l:Nat):Prop:= ∃a,gk (hf s.ms) s.n a/\a.x.node=(v:Int)/\a.x.len=(l:Int)
def LS(out:List cO)(v:Nat):Prop:=0<=(eP out v).fK
def Ld(out:List cO)(v:Nat):Nat:=(eP out v).len.toNat
def jY(out:List cO):Nat:=out.countP fun a=>decide (0<=a.fK)
def HB(n c:Nat)(s:pR):Prop:= ∀a,gk (hf s.ms) s.n a->0<=a.x.node/\a.x.node<n/\0<=a.x.len/\a.x.len<=a.x.fK*1073741824/\0<=a.x.fK/\a.x.fK<=c
structure Dr(n:Nat)(out:List cO):Prop where
 len:out.length=n
 CK: ∀v,v<n->(0<=(eP out v).fK/\0<=(eP out v).len)\/((eP out v).fK<0/\(eP out v).len= -1)
abbrev Ub(r:List eh):List (Nat × Nat):=r.map fun e=>(e.an.toNat,e.wt.toNat)
structure Lg(L:List nq)(n fr:Nat)(out:List cO)(x:Nat)(s0:pR)(l:List eh)(j:Nat)(s:pR):Prop where
 ok:uz s
 one:1<=s.ms.length
 hb:HB n (jY out) s
 dj:Iu (GE L) fr (LS out) (Ld out) (LQ s) x (Ub l)
 p:s.p<=s0.p+j
 n:s.n<=s0.n+j
section
variable{z:T aa}{zn:Nat}
theorem Gy(hz:aq z zn)(L:List nq)(n fr:Nat)(hL:TF z zn n L)(hn:n<=64)(out:List cO)(ho:Dr n out)(hc:jY out<=n)(y:nq)(hy:y∈L)(a:cO)(x:Nat)(hx:a.node=(x:Int))(hxn:x<n)(hadj:lA L (x:Int)=y.2.2)(hax:eP out x=a)(ha0:0<=a.fK)(hal:0<=a.len)(hab:a.len<=a.fK*1073741824)(hac:a.fK+1<=jY out)(s0:pR)(hs0:Lg L n fr out x s0 [] 0 s0)(hp:s0.p<=900000):
 ai Tryz.prog (ah (ah (ag Tryz.f264) 1) 0) 6 82 (Bi n y.2.1 y.2.2.length 0) (pU n L.length (eI 0 L) (aV out) a (tG 6 s0) (vu s0)) 7 z zn (Al.R (QV z zn n y.2.1 y.2.2.length L.length (eI 0 L) (aV out) a (tG 6 s0) (vu s0) (Lg L n fr out x s0 y.2.2 y.2.2.length)).l):=by
 obtain⟨kb,hk1,hk2⟩:=hL.row y hy
 obtain⟨hr1,hr2⟩:=hL.mu y hy
 refine ak hD (cT z) (α:=Nat × pR) 6 82 7 (fun t=>t.1<=y.2.2.length/\Lg L n fr out x s0 (y.2.2.take t.1) t.1 t.2) (fun t=>Bi n y.2.1 y.2.2.length t.1) (fun t=>pU n L.length (eI 0 L) (aV out) a (tG 6 t.2) (vu t.2)) (fun _=>z) (fun _=>zn) (fun t=>y.2.2.length - t.1) _ (fun t hI=>?_) (0,s0) ⟨Nat.zero_le _,hs0⟩
 obtain⟨j,s⟩:=t
 obtain⟨h1,h2⟩:=hI
 simp only at h1 h2 ⊢
 have rb:aG (az [(0,0),(1,1),(2,2),(5,5),(6,6)] []) (dK (aD s.ms) (s.ms.length*4))=some (dK (aD s.ms) (s.ms.length*4)):=Na _ _
 by_cases hj:j<y.2.2.length
 ·obtain⟨e,he⟩:=ey hj
  have hem:e∈y.2.2:=List.mem_of_getElem? he
  obtain⟨e1,e2,e3,e4⟩:=hr2 e hem
  have hto:e.an=(e.an.toNat:Int):=by omega
  have htn:e.an.toNat<out.length:=by rw[ho.len];omega
  have hrow:aB Tryz.prog kb 329 (0+j*3)=some (.agg ⟨e.row⟩):=gN (rows:=y.2.2.map eh.row) hk2 Tryz.underlying329 rfl rfl (oK _) (by rw[List.getElem?_map,he];rfl)
  have hedg:=FO (l:=out) htn (n*3)
  have htk:y.2.2.take (j+1)=y.2.2.take j++[e]:=by rw[List.take_add_one,he];rfl
  have hps:Ub (y.2.2.take (j+1))=Ub (y.2.2.take j)++[(e.an.toNat,e.wt.toNat)]:=by rw[htk];simp
  have hpb:s.p+1<=1000000:=by have:=h2.p;omega
  have hge:GE L x e.an.toNat e.wt.toNat:=⟨e,by rw[hadj];exact hem,hto,by omega⟩
  have hLd:Ld out x=a.len.toNat:=by unfold Ld;rw[hax]
  have hSx:LS out x:=by unfold LS;rw[hax];exact ha0
  have hpush:=Oe hz s h2.ok h2.one hpb ⟨e.an,a.len+e.wt,a.fK+1⟩
  have w1:Value.int .i64 (IntKind.i64.wrap (a.len+e.wt))=Value.int .i64 (a.len+e.wt):=ia (by omega) (by omega)
  have w2:Value.int .i64 (IntKind.i64.wrap (a.fK+1))=Value.int .i64 (a.fK+1):=ia (by omega) (by omega)
  have hcd:decide ((j:Int)<(y.2.2.length:Int))=true:=by simp;omega
  refine t100 (WB z zn n s.n s.ms.length (s.ms.length*4) y.2.1 y.2.2.length j e.an.toNat L.length kb s.p (eP out e.an.toNat).fK (eI 0 L) (aV out) (aD s.ms) a e (pushφ s ⟨e.an,a.len+e.wt,a.fK+1⟩) (aj _ _ _ _ _ _ _ _ _) ⟨fun _=>?_,fun h=>(by rw[hcd] at h;cases h)⟩)
  (repeat' first|(with_reducible first|exact rfl|exact True.intro|assumption|apply And.intro|exact hz|exact hj|exact hk1|exact hrow|exact hto|exact(by omega:e.an.toNat<n)|exact hedg|exact hpush|exact w1|exact w2|exact rb|exact aR _ _|exact cK _ _ _|exact dt _ _|exact aT _ _ _ _|exact aK (by omega))|exact(rfl:Int.ofNat _=_)|exact(rfl:gH _ _=_)|exact hz|exact hj|exact hk1|exact hrow|exact hto|exact(by omega:e.an.toNat<n)|exact hedg|exact hpush|exact w1|exact w2|exact rb|exact aR _ _|exact cK _ _ _|exact dt _ _|exact aT _ _ _ _|exact aK (by omega)|intro hq)
  ·
   rename_i ms'
   obtain⟨p1,p2,p3,p4⟩:=hq
   have hlp:=h2.ok.lp
   have hp0:=h2.ok.p0
   have h2p:=h2.p
   have h2n:=h2.n
   refine⟨(j+1,⟨s.n+1,ms',s.p+1⟩),rfl,rfl,rfl,rfl,rfl,⟨hj,?_⟩,by show y.2.2.length - (j+1)<y.2.2.length - j;omega⟩
   show Lg L n fr out x s0 (y.2.2.take (j+1)) (j+1) ⟨s.n+1,ms',s.p+1⟩
   have hval: ∀v,gk (hf ms') (s.n+1) v↔v=⟨⟨e.an,a.len+e.wt,a.fK+1⟩,s.p⟩\/gk (hf s.ms) s.n v:=p4
   refine⟨⟨p1,p3,by show 0<=s.p+1;omega,hpb,by show(ms'.length:Int)<=s.p+1;omega⟩,by show 1<=ms'.length;omega,fun b hb=>?_,?_,by show s.p+1<=s0.p+((j+1:Nat):Int);omega,by show s.n+1<=s0.n+(j+1);omega⟩
   ·rcases (hval b).1 hb with rfl|hb
    ·exact⟨e1,e2,by show 0<=a.len+e.wt;omega,by show a.len+e.wt<=(a.fK+1)*1073741824;omega,by show 0<=a.fK+1;omega,hac⟩
    ·exact h2.hb b hb
   ·rw[hps]
    refine wo h2.dj hSx hge (fun v k ⟨b,q1,q2,q3⟩=>⟨b,(hval b).2 (.inr q1),q2,q3⟩) (fun v k ⟨b,q1,q2,q3⟩=>?_) (.inr ⟨_,(hval _).2 (.inl rfl),hto,?_⟩)
    ·rcases (hval b).1 q1 with rfl|q1
     ·right
      simp only at q2 q3
      rw[hLd]
      omega
     ·exact .inl ⟨b,q1,q2,q3⟩
    ·show a.len+e.wt=_
     rw[hLd];omega
  ·have hneg:decide ((eP out e.an.toNat).fK<0)=false:=by with_reducible assumption
   have hS:LS out e.an.toNat:=by unfold LS;simpa using hneg
   have h2p:=h2.p
   have h2n:=h2.n
   refine⟨(j+1,s),rfl,rfl,rfl,rfl,rfl,⟨hj,?_⟩,by show y.2.2.length - (j+1)<y.2.2.length - j;omega⟩
   show Lg L n fr out x s0 (y.2.2.take (j+1)) (j+1) s
   refine⟨h2.ok,h2.one,h2.hb,?_,by show s.p<=s0.p+((j+1:Nat):Int);omega,by omega⟩
   rw[hps]
   exact wo h2.dj hSx hge (fun v k q=>q) (fun v k q=> .inl q) (.inl hS)
 ·have hje:j=y.2.2.length:=by omega
  have hcd:decide ((j:Int)<(y.2.2.length:Int))=false:=by simp;omega
  refine t100 (WB z zn n s.n s.ms.length (s.ms.length*4) y.2.1 y.2.2.length j 0 L.length kb s.p 0 (eI 0 L) (aV out) (aD s.ms) a ⟨0,0,0⟩ (fun _=>False) (aj _ _ _ _ _ _ _ _ _) ⟨fun h=>(by rw[hcd] at h;cases h),fun _=>?_⟩)
  (repeat' first|(with_reducible first|exact rfl|exact True.intro|assumption|apply And.intro|exact hz|exact rb|exact aR _ _|exact cK _ _ _|exact dt _ _)|exact(rfl:Int.ofNat _=_)|exact(rfl:gH _ _=_)|exact hz|exact rb|exact aR _ _|exact cK _ _ _|exact dt _ _|intro hq)
  subst hje
  rw[List.take_of_length_le (Nat.le_refl _)] at h2
  exact BT (k:=fun _=>eA) s h2 rfl
end
end Go.Proofs.Nw
namespace Go.Proofs.Nw
open Go Go.AV Go.iT
set_option maxHeartbeats 1000000
set_option maxRecDepth 100000
theorem OX{out:List cO}{nd:Nat}(h:nd<out.length){a:cO}(ha:0<=a.fK):LS (out.set nd a)=fun v=>LS out v\/v=nd:=by
 funext v
 apply propext
 unfold LS
 rw[pd h]
 by_cases e:v=nd
 ·simp[e,ha]
 ·simp[e]
theorem OW{out:List cO}{nd:Nat}(h:nd<out.length)(a:cO):Ld (out.set nd a)=fun v=>if v=nd then a.len.toNat else Ld out v:=by
 funext v
 unfold Ld
 rw[pd h]
 split<;>rfl
theorem CW{out:List cO}{nd:Nat}(h:nd<out.length){a:cO}(ha:0<=a.fK)(hn: ¬LS out nd):jY (out.set nd a)=jY out+1:=by
 unfold jY
 have hg:out[nd]=eP out nd:=by have:=lZ h;rw[List.getElem?_eq_getElem h] at this;exact Option.some.inj this
 rw[List.countP_set h,hg]
 have h1:decide (0<=(eP out nd).fK)=false:=by unfold LS at hn;simpa using hn
 simp[h1,ha]
theorem Hk(out:List cO):jY out<=out.length:=List.countP_le_length
theorem Cr{n:Nat}{out:List cO}(ho:Dr n out){nd:Nat}(h:nd<n){a:cO}(ha:0<=a.fK)(hl:0<=a.len):Dr n (out.set nd a):=by
 refine⟨by rw[List.length_set];exact ho.len,fun v hv=>?_⟩
 rw[pd (by rw[ho.len];exact h)]
 by_cases e:v=nd
 ·rw[if_pos e];exact .inl ⟨ha,hl⟩
 ·rw[if_neg e];exact ho.CK v hv
structure OY(L:List nq)(n fr:Nat)(out:List cO)(s:pR):Prop where
 oo:Dr n out
 ok:uz s
 one:1<=s.ms.length
 hb:HB n (jY out) s
 dj:Dj (GE L) fr (LS out) (Ld out) (LQ s)
 p:s.p<=1+4096*(jY out:Int)
def CKφ(L:List nq)(n fr:Nat)(l:List cO):Prop:=l.length=n/\ ∀v,v<n->lD (GE L) fr v (eP l v).len
theorem Kf{L:List nq}{n fr:Nat}{out:List cO}{s:pR}(h:OY L n fr out s)(h0:s.n=0):CKφ L n fr out:=by
 refine⟨h.oo.len,fun v hv=>?_⟩
 have hq: ∀v k,¬LQ s v k:=fun v k ⟨a,⟨i,hi,_⟩,_⟩=>by omega
 obtain⟨q1,q2⟩:=N1 h.dj hq v
 rcases h.oo.CK v hv with ⟨e1,e2⟩|⟨e1,e2⟩
 ·have:=q1 e1
  unfold Ld at this
  rw[show((eP out v).len.toNat:Int)=(eP out v).len by omega] at this
  exact this
 ·rw[e2]
  exact q2 (by unfold LS;omega)
section
variable{z:T aa}{zn:Nat}
theorem vS(hz:aq z zn)(L:List nq)(n:Nat)(out:List cO)(a:cO)(n' c cc:Nat)(p:Int)(ms:List cg):
 ai Tryz.prog (ah (ah (ag Tryz.f264) 1) 0) 6 82 (vR n) (pU n L.length (eI 0 L) (aV out) a (eg (aZ 6 n' c) p) (dK (aD ms) cc)) 7 z zn (Al.R (QU z zn n L.length (eI 0 L) (aV out) a (eg (aZ 6 n' c) p) (dK (aD ms) cc)).l):=by
 refine ak hD (cT z) (α:=Nat) 6 82 7 (fun t=>t=0) (fun t=>vR n) (fun t=>pU n L.length (eI 0 L) (aV out) a (eg (aZ 6 n' c) p) (dK (aD ms) cc)) (fun _=>z) (fun _=>zn) (fun t=>1) _ (fun t hI=>?_) 0 rfl
 refine t100 (UE z zn n n' c cc L.length p (eI 0 L) (aV out) (aD ms) a (aj _ _ _ _ _ _ _ _ _) ?_)
 (repeat' first|(with_reducible first|exact rfl|exact True.intro|assumption|apply And.intro|exact hz|exact aR _ _|exact cK _ _ _|exact dt _ _)|exact(rfl:Int.ofNat _=_)|exact(rfl:gH _ _=_)|exact hz|exact aR _ _|exact cK _ _ _|exact dt _ _|intro hq)
 exact bE trivial
theorem Gz(hz:aq z zn)(L:List nq)(n fr:Nat)(hL:TF z zn n L)(hn:n<=64)(out0:List cO)(s0:pR)(h0:OY L n fr out0 s0):
 ai Tryz.prog (ah (ag Tryz.f264) 1) 4 82 (kV n) [(0, .map (eI 0 L) L.length),(1,jI (aV out0) n),(2,tG 4 s0),(4,vu s0)] 5 z zn (Al.R (JJ z zn n L.length (eI 0 L) (aV out0) (tG 4 s0) (vu s0) (CKφ L n fr)).l):=by
 refine ak hD (cT z) (α:=List cO × pR) 4 82 5 (fun t=>OY L n fr t.1 t.2) (fun t=>kV n) (fun t=>[(0, .map (eI 0 L) L.length),(1,jI (aV t.1) n),(2,tG 4 t.2),(4,vu t.2)]) (fun _=>z) (fun _=>zn) (fun t=>(n - jY t.1)*4200+t.2.n) _ (fun t hI=>?_) (out0,s0) h0
 obtain⟨out,s⟩:=t
 simp only at hI ⊢
 by_cases hs0:s.n=0
 ·have Bt:A1 z zn 276 [ip 0] [(0,eg (aZ 1 s.n s.ms.length) s.p),(1,dK (aD s.ms) (s.ms.length*4))] 2 2 (.tuple ⟨[.agg ⟨[I 0,I 0,I 0]⟩,F0]⟩) [(0,eg (aZ 1 s.n s.ms.length) s.p),(1,dK (aD s.ms) (s.ms.length*4))]:=by
   rw[hs0];exact Og hz s.ms s.ms.length (s.ms.length*4) s.p
  refine t100 (UF z zn n s.n s.ms.length (s.ms.length*4) L.length s.p (eI 0 L) (aV out) (aD s.ms) (aj _ _ _ _ _ _ _ _ _) ?_)
  (repeat' first|(with_reducible first|exact rfl|exact True.intro|assumption|apply And.intro|exact hz|exact Bt|exact aR _ _|exact cK _ _ _|exact dt _ _)|exact(rfl:Int.ofNat _=_)|exact(rfl:gH _ _=_)|exact hz|exact Bt|exact aR _ _|exact cK _ _ _|exact dt _ _|intro hq)
  exact BT (k:=fun _=>eA) out (Kf hI hs0) rfl
 ·have hpos:0<s.n:=by omega
  have hcn:jY out<=n:=by have:=Hk out;rw[hI.oo.len] at this;exact this
  obtain⟨b1,b2,b3,b4,b5,b6⟩:=hI.hb (hf s.ms 0) ⟨0,hpos,rfl⟩
  have hpI:=hI.p
  have hlp:=hI.ok.lp
  have hlen:=hI.ok.len
  have Bt:=Rk hz s.ms s.n s.ms.length (s.ms.length*4) s.p hpos hI.ok.len hI.ok.len (Nat.le_refl _) (by have:=hI.ok.pb;omega) hI.ok.heap
  have hnd:(hf s.ms 0).x.node=((hf s.ms 0).x.node.toNat:Int):=by omega
  generalize hnd':(hf s.ms 0).x.node.toNat=nd at hnd
  have hndn:nd<n:=by omega
  have hedg:=FO (l:=out) (i:=nd) (by rw[hI.oo.len];exact hndn) (n*3)
  have hov:=Lz (l:=out) (i:=nd) (by rw[hI.oo.len];exact hndn) (hf s.ms 0).x
  have l1:(aV (out.set nd (hf s.ms 0).x)).length<=n*3:=by rw[vi,List.length_set,hI.oo.len];exact Nat.le_refl _
  have vals: ∀ms',popφ s.ms s.n ms'-> ∀b,gk (hf ms') (s.n - 1) b->gk (hf s.ms) s.n b:=fun ms' hp b hb=>by
   obtain⟨i,i1,i2,i3⟩:=(hp.2.2 b).1 hb
   exact⟨i,i2,i3⟩
  have q1: ∀ms',popφ s.ms s.n ms'-> ∀v k,LQ ⟨s.n - 1,ms',s.p⟩ v k->LQ s v k:=fun ms' hp v k ⟨b,k1,k2,k3⟩=>⟨b,vals ms' hp b k1,k2,k3⟩
  have q2: ∀ms',popφ s.ms s.n ms'-> ∀v k,LQ s v k->LQ ⟨s.n - 1,ms',s.p⟩ v k\/(v=nd/\k=(hf s.ms 0).x.len.toNat):=fun ms' hp v k ⟨b,⟨i,i1,i2⟩,k2,k3⟩=>by
   by_cases e:i=0
   ·subst e;subst i2;right;omega
   ·exact .inl ⟨b,(hp.2.2 b).2 ⟨i,by omega,i1,i2⟩,k2,k3⟩
  have ok1: ∀ms',popφ s.ms s.n ms'->uz ⟨s.n - 1,ms',s.p⟩:=fun ms' hp=>⟨by show s.n - 1<=ms'.length;rw[hp.1];omega,hp.2.1,hI.ok.p0,hI.ok.pb,by show(ms'.length:Int)<=s.p;rw[hp.1];exact hlp⟩
  have hb1: ∀ms',popφ s.ms s.n ms'-> ∀c,jY out<=c->HB n c ⟨s.n - 1,ms',s.p⟩:=fun ms' hp c hc b hb=>by
   obtain⟨k1,k2,k3,k4,k5,k6⟩:=hI.hb b (vals ms' hp b hb)
   exact⟨k1,k2,k3,k4,k5,by omega⟩
  have st: ∀ms',popφ s.ms s.n ms'-> ¬LS out nd->Lg L n fr (out.set nd (hf s.ms 0).x) nd ⟨s.n - 1,ms',s.p⟩ [] 0 ⟨s.n - 1,ms',s.p⟩:=fun ms' hp hns=>by
   have hc1:=CW (by rw[hI.oo.len];exact hndn) b5 hns
   refine⟨ok1 ms' hp,by show 1<=ms'.length;rw[hp.1];exact hI.one,hb1 ms' hp _ (by omega),?_,by show s.p<=s.p+((0:Nat):Int);omega,Nat.le_refl _⟩
   rw[OX (by rw[hI.oo.len];exact hndn) b5,OW (by rw[hI.oo.len];exact hndn)]
   refine El hI.dj hns ⟨_,⟨0,hpos,rfl⟩,hnd,by omega⟩ (fun v k ⟨b,⟨i,i1,i2⟩,k2,k3⟩=>?_) (q1 ms' hp) (q2 ms' hp)
   have hm:=GR iy hI.ok.heap i i1
   rw[i2] at hm
   have: ¬dC b (hf s.ms 0)=true:=by rw[hm];simp
   rw[my] at this
   omega
  have hcl: ¬LS out nd->jY (out.set nd (hf s.ms 0).x)=jY out+1/\jY out+1<=n:=fun hns=>by
   have hc1:=CW (by rw[hI.oo.len];exact hndn) b5 hns
   have:=Hk (out.set nd (hf s.ms 0).x)
   rw[List.length_set,hI.oo.len] at this
   exact⟨hc1,by omega⟩
  have hin: ∀ms',popφ s.ms s.n ms'-> ¬LS out nd-> ∀i:Nat × Nat × Nat,aA Tryz.prog 3 (zv (hf s.ms 0).x.node) (eI 0 L) 0=some (some (i.1,tb i.2.1 i.2.2 i.2.2))->
   ai Tryz.prog (ah (ah (ag Tryz.f264) 1) 0) 6 82 (Bi n i.2.1 i.2.2 0) (pU n L.length (eI 0 L) (aV (out.set nd (hf s.ms 0).x)) (hf s.ms 0).x (eg (aZ 6 (s.n - 1) s.ms.length) s.p) (dK (aD ms') (s.ms.length*4))) 7 z zn
    (Al.R (QV z zn n i.2.1 i.2.2 L.length (eI 0 L) (aV (out.set nd (hf s.ms 0).x)) (hf s.ms 0).x (eg (aZ 6 (s.n - 1) s.ms.length) s.p) (dK (aD ms') (s.ms.length*4)) (Lg L n fr (out.set nd (hf s.ms 0).x) nd ⟨s.n - 1,ms',s.p⟩ (lA L nd) (lA L nd).length)).l):=fun ms' hp hns i hi=>by
   obtain⟨y,y1,y2,y3,y4⟩:=Nm L _ hi
   rw[hnd] at y2
   obtain⟨c1,c2⟩:=hcl hns
   have:=Gy hz L n fr hL hn (out.set nd (hf s.ms 0).x) (Cr hI.oo hndn b5 b3) (by omega) y y1 (hf s.ms 0).x nd hnd hndn y2 (by rw[pd (by rw[hI.oo.len];exact hndn),if_pos rfl]) b5 b3 b4 (by omega) ⟨s.n - 1,ms',s.p⟩ (st ms' hp hns) (by show s.p<=900000;omega)
   simp only[tG,vu,hp.1] at this
   rw[y3,y4,y2]
   exact this
  have jy: ∀ms',popφ s.ms s.n ms'-> ¬LS out nd-> ∀s2,Lg L n fr (out.set nd (hf s.ms 0).x) nd ⟨s.n - 1,ms',s.p⟩ (lA L nd) (lA L nd).length s2->
   aj (fun t:List cO × pR=>OY L n fr t.1 t.2) (fun t=>kV n) (fun t=>[(0, .map (eI 0 L) L.length),(1,jI (aV t.1) n),(2,tG 4 t.2),(4,vu t.2)]) 5 (fun _=>z) (fun _=>zn) (fun t=>(n - jY t.1)*4200+t.2.n) (Al.R (JJ z zn n L.length (eI 0 L) (aV out0) (tG 4 s0) (vu s0) (CKφ L n fr)).l) (out,s) .normal (kV n) [(0, .map (eI 0 L) L.length),(1,jI (aV (out.set nd (hf s.ms 0).x)) n),(2,tG 4 s2),(4,vu s2)] 5 z zn:=fun ms' hp hns s2 h2=>by
   obtain⟨c1,c2⟩:=hcl hns
   have hal:(lA L (nd:Int)).length<=4096:=by
    unfold lA
    cases hfd:L.find? (fun x=>x.1==(nd:Int)) with
    |none=>simp
    |some y=>exact(hL.mu y (List.mem_of_find?_eq_some hfd)).1
   have h2p:s2.p<=s.p+(((lA L (nd:Int)).length:Nat):Int):=h2.p
   have h2n:s2.n<=s.n - 1+(lA L (nd:Int)).length:=h2.n
   refine⟨(out.set nd (hf s.ms 0).x,s2),rfl,rfl,rfl,rfl,rfl,⟨Cr hI.oo hndn b5 b3,h2.ok,h2.one,h2.hb,Hf h2.dj (fun u w ⟨e,e1,e2,e3⟩=>?_),by show s2.p<=1+4096*((jY (out.set nd (hf s.ms 0).x):Nat):Int);omega⟩,?_⟩
   ·exact List.mem_map.2 ⟨e,e1,by rw[e2,e3];simp⟩
   ·show(n - jY (out.set nd (hf s.ms 0).x))*4200+s2.n<(n - jY out)*4200+s.n
    rw[c1]
    obtain⟨m,hm⟩: ∃m,n - jY out=m+1:=⟨n - jY out - 1,by omega⟩
    rw[show n - (jY out+1)=m by omega,hm]
    omega
  have nx0: ∀ms',popφ s.ms s.n ms'-> ¬LS out nd->lA L (nd:Int)=[]->aj (fun t:List cO × pR=>OY L n fr t.1 t.2) (fun t=>kV n) (fun t=>[(0, .map (eI 0 L) L.length),(1,jI (aV t.1) n),(2,tG 4 t.2),(4,vu t.2)]) 5 (fun _=>z) (fun _=>zn) (fun t=>(n - jY t.1)*4200+t.2.n) (Al.R (JJ z zn n L.length (eI 0 L) (aV out0) (tG 4 s0) (vu s0) (CKφ L n fr)).l) (out,s) .normal (kV n) [(0, .map (eI 0 L) L.length),(1,jI (aV (out.set nd (hf s.ms 0).x)) n),(2,eg (aZ 4 (s.n - 1) s.ms.length) s.p),(4,dK (aD ms') (s.ms.length*4))] 5 z zn:=fun ms' hp hns had=>by
   have:=jy ms' hp hns ⟨s.n - 1,ms',s.p⟩ (by rw[had];exact st ms' hp hns)
   simp only[tG,vu,hp.1] at this ⊢
   exact this
  have skp: ∀ms',popφ s.ms s.n ms'->LS out nd->aj (fun t:List cO × pR=>OY L n fr t.1 t.2) (fun t=>kV n) (fun t=>[(0, .map (eI 0 L) L.length),(1,jI (aV t.1) n),(2,tG 4 t.2),(4,vu t.2)]) 5 (fun _=>z) (fun _=>zn) (fun t=>(n - jY t.1)*4200+t.2.n) (Al.R (JJ z zn n L.length (eI 0 L) (aV out0) (tG 4 s0) (vu s0) (CKφ L n fr)).l) (out,s) .normal (kV n) [(0, .map (eI 0 L) L.length),(1,jI (aV out) n),(2,eg (aZ 4 (s.n - 1) s.ms.length) s.p),(4,dK (aD ms') (s.ms.length*4))] 5 z zn:=fun ms' hp hS=>by
   refine⟨(out,⟨s.n - 1,ms',s.p⟩),rfl,?_,rfl,rfl,rfl,⟨hI.oo,ok1 ms' hp,by show 1<=ms'.length;rw[hp.1];exact hI.one,hb1 ms' hp _ (Nat.le_refl _),Kt hI.dj hS (q1 ms' hp) (q2 ms' hp),hI.p⟩,by show(n - jY out)*4200+(s.n - 1)<(n - jY out)*4200+s.n;omega⟩
   simp only[tG,vu,hp.1]
  refine t100 (Za z zn n s.n s.ms.length (s.ms.length*4) nd L.length s.p (eP out nd).fK (eI 0 L) (aV out) (aV (out.set nd (hf s.ms 0).x)) (aD s.ms) (hf s.ms 0).x (popφ s.ms s.n) (fun ms' _ _=>Lg L n fr (out.set nd (hf s.ms 0).x) nd ⟨s.n - 1,ms',s.p⟩ (lA L nd) (lA L nd).length) (aj _ _ _ _ _ _ _ _ _) ?_)
  have ns:decide ((eP out nd).fK>=0)=false-> ¬LS out nd:=fun h=>by unfold LS;simpa using h
  (repeat' first|(with_reducible first|exact rfl|exact True.intro|assumption|apply And.intro|exact hz|exact Bt|exact hnd|exact hndn|exact hedg|exact hov|exact l1|exact LA _ _|exact LB _ _|exact hin _ (by assumption) (ns (by assumption)) _ (by assumption)|exact vS hz _ _ _ _ _ _ _ _ _|exact aR _ _|exact cK _ _ _|exact iO _ _ _|exact dt _ _)|exact(rfl:Int.ofNat _=_)|exact(rfl:gH _ _=_)|exact hz|exact Bt|exact hnd|exact hndn|exact hedg|exact hov|exact l1|exact LA _ _|exact LB _ _|exact hin _ (by assumption) (ns (by assumption)) _ (by assumption)|exact vS hz _ _ _ _ _ _ _ _ _|exact aR _ _|exact cK _ _ _|exact iO _ _ _|exact dt _ _|intro hq)
  ·have hS:LS out nd:=by unfold LS;have:decide ((eP out nd).fK>=0)=true:=(by with_reducible assumption);simpa using this
   exact skp _ (by with_reducible assumption) hS
  ·exact jy _ (by with_reducible assumption) (ns (by with_reducible assumption)) _ hq
  ·have hns:=ns (by assumption)
   have had:lA L (nd:Int)=[]:=by
    have h:aA Tryz.prog 3 (zv (hf s.ms 0).x.node) (eI 0 L) 0=some none:=by with_reducible assumption
    rw[←hnd];exact Nl L _ h
   exact nx0 _ (by with_reducible assumption) hns had
theorem DD(n:Nat)(row:List Value)(h:bG row=true):bG (rep n row)=true:=by
 rw[lR,cV];intro v hv
 obtain⟨r,hr,hv⟩:=List.mem_flatten.1 hv
 rw[List.eq_of_mem_replicate hr] at hv
 exact cV.1 h v hv
theorem M9(n:Nat):rep n [I 0,I 0,I 0]=aV (List.replicate n ⟨0,0,0⟩):=by
 rw[lR]
 show _=((List.replicate n (⟨0,0,0⟩:cO)).map cO.row).flatten
 rw[List.map_replicate]
 rfl
def xk(n:Nat):List cO:=(List.range n).map fun(i:Nat)=>⟨(i:Int),-1,-1⟩
theorem GK{n v:Nat}(h:v<n):eP (xk n) v=⟨(v:Int),-1,-1⟩:=by
 unfold eP xk
 rw[List.getElem?_map,List.getElem?_range h];rfl
def Bn(n i:Nat):List cO:=(xk n).take i++List.replicate (n - i) ⟨0,0,0⟩
theorem CJ{n i:Nat}(h:i<=n):(Bn n i).length=n:=by simp[Bn,xk];omega
theorem Ke{n i:Nat}(hi:i<n):(Bn n i).set i ⟨(i:Int),-1,-1⟩=Bn n (i+1):=by
 unfold Bn
 rw[List.take_add_one,show(xk n)[i]? =some ⟨(i:Int),-1,-1⟩ by unfold xk;rw[List.getElem?_map,List.getElem?_range hi];rfl]
 have hl:((xk n).take i).length=i:=by simp[xk];omega
 rw[List.set_append_right _ _ (by omega),hl,Nat.sub_self]
 obtain⟨m,hm⟩: ∃m,n - i=m+1:=⟨n - i - 1,by omega⟩
 rw[hm,show n - (i+1)=m by omega,List.replicate_succ,List.set_cons_zero,List.append_assoc]
 rfl
theorem GA(hz:aq z zn)(L:List nq)(n fr:Nat)(hn:n<=64):
 ai Tryz.prog (ah (ag Tryz.f264) 0) 2 82 (DX n fr 0) [(0, .map (eI 0 L) L.length),(1,jI (rep n [I 0,I 0,I 0]) n)] 2 z zn (Al.R (UC z zn n fr L.length (eI 0 L) (rep n [I 0,I 0,I 0]) (aV (xk n))).l):=by
 rw[M9,show List.replicate n (⟨0,0,0⟩:cO)=Bn n 0 by simp[Bn]]
 refine ak hD (cT z) (α:=Nat) 2 82 2 (fun i=>i<=n) (fun i=>DX n fr i) (fun i=>[(0, .map (eI 0 L) L.length),(1,jI (aV (Bn n i)) n)]) (fun _=>z) (fun _=>zn) (fun i=>n - i) _ (fun i hI=>?_) 0 (Nat.zero_le _)
 by_cases hi:i<n
 ·have o1:=Lz (l:=Bn n i) (i:=i) (by rw[CJ hI];exact hi) ⟨(i:Int),-1,-1⟩
  have e1:=Ke hi
  rw[e1] at o1
  have l1:(aV (Bn n (i+1))).length<=n*3:=by rw[vi,CJ hi];exact Nat.le_refl _
  have hc:decide ((i:Int)<(n:Int))=true:=by simp;omega
  refine t100 (WC z zn n fr i L.length (eI 0 L) (aV (Bn n i)) (aV (Bn n (i+1))) (aj _ _ _ _ _ _ _ _ _) ⟨fun _=>?_,fun h=>(by rw[hc] at h;cases h)⟩)
  (repeat' first|(with_reducible first|exact rfl|exact True.intro|assumption|apply And.intro|exact hz|exact hi|exact o1|exact l1|exact dt _ _|exact cK _ _ _|exact aK (by omega))|exact(rfl:Int.ofNat _=_)|exact(rfl:gH _ _=_)|exact hz|exact hi|exact o1|exact l1|exact dt _ _|exact cK _ _ _|exact aK (by omega)|intro hq)
  exact⟨i+1,rfl,rfl,rfl,rfl,rfl,hi,by show n - (i+1)<n - i;omega⟩
 ·have hc:decide ((i:Int)<(n:Int))=false:=by simp;omega
  refine t100 (WC z zn n fr i L.length (eI 0 L) (aV (Bn n i)) [] (aj _ _ _ _ _ _ _ _ _) ⟨fun h=>(by rw[hc] at h;cases h),fun _=>?_⟩)
  (repeat' first|(with_reducible first|exact rfl|exact True.intro|assumption|apply And.intro|exact hz|exact dt _ _|exact cK _ _ _)|exact(rfl:Int.ofNat _=_)|exact(rfl:gH _ _=_)|exact hz|exact dt _ _|exact cK _ _ _|intro hq)
  have:i=n:=by omega
  subst this
  rw[show Bn i i=xk i by unfold Bn;rw[List.take_of_length_le (by simp[xk]),Nat.sub_self,List.replicate_zero,List.append_nil]]
  exact bE trivial
theorem HQ(hz:aq z zn)(L:List nq)(n fr:Nat)(hL:TF z zn n L)(hn:n<=64)(hfr:fr<n):
 aM Tryz.prog z zn 264 [iv n,mp 0,iv fr] [(0, .map (eI 0 L) L.length)] 1 2 (CKφ L n fr) (fun _=>aZ 1 n n) (fun l=>[(0, .map (eI 0 L) L.length),(1,jI (aV l) n)]):=by
 have h0:OY L n fr (xk n) ⟨1,[⟨⟨fr,0,0⟩,0⟩],1⟩:=by
  have hcn:jY (xk n)=0:=by
   unfold jY xk
   rw[List.countP_eq_zero]
   intro a ha
   obtain⟨i,_,rfl⟩:=List.mem_map.1 ha
   simp
  have hls: ∀v,¬LS (xk n) v:=fun v h=>by
   unfold LS at h
   by_cases hv:v<n
   ·rw[GK hv] at h;simp at h
   ·rw[GL (by simp[xk];omega)] at h;simp[Sc] at h
  refine⟨⟨by simp[xk],fun v hv=> .inr ?_⟩,⟨by simp,fun k h1 h2=>by simp only at h2;omega,by simp,by simp,by simp⟩,by simp,fun a ha=>?_,?_,by rw[hcn];simp⟩
  ·rw[GK hv];exact⟨by simp,rfl⟩
  ·obtain⟨i,hi,rfl⟩:=ha
   have:i=0:=by simp only at hi;omega
   subst this
   refine⟨by show(0:Int)<=(fr:Int);omega,by show(fr:Int)<(n:Int);omega,by show(0:Int)<=0;omega,by show(0:Int)<=0*1073741824;omega,by show(0:Int)<=0;omega,by show(0:Int)<=_;omega⟩
  ·refine⟨fun v h=>(hls v h).elim,fun v l ⟨a,⟨i,hi,e⟩,h2,h3⟩=>?_,fun u x w h=>(hls u h).elim, .inr ⟨_,⟨0,by simp,rfl⟩,rfl,rfl⟩⟩
   have:i=0:=by simp only at hi;omega
   subst this
   subst e
   have h2':(fr:Int)=(v:Int):=h2
   have h3':(0:Int)=(l:Int):=h3
   have e1:v=fr:=by omega
   have e2:l=0:=by omega
   subst e1 e2
   exact .start
 have hK0:=GA hz L n fr hn
 have hK1:=Gz hz L n fr hL hn (xk n) _ h0
 have me:=Ro hz
 have hpu:=KK hz ⟨fr,0,0⟩
 have hrp:=DD n [I 0,I 0,I 0] rfl
 have hrp': ∀σ,aG σ (aa.ax (bg.mk (rep n [I 0,I 0,I 0]) (n*3) 3 345 true true 0 true))=some (aa.ax (bg.mk (rep n [I 0,I 0,I 0]) (n*3) 3 345 true true 0 true)):=fun σ=>cF hrp
 refine fN (cT z) (fn:=Tryz.f264) (by kernel_rfl) (by kernel_rfl) hz ⟨by decide,by decide⟩ (fun _ _=>⟨rfl,Nat.le_refl _,hz⟩) (N:=100) ?_
 refine lb z zn n fr L.length (eI 0 L) (rep n [I 0,I 0,I 0]) (aV (xk n)) (CKφ L n fr) _ ?_
 (repeat' first|(with_reducible first|exact rfl|exact True.intro|assumption|apply And.intro|exact hz|exact hK0|exact hK1|exact me|exact hpu|exact hrp' _|exact dt _ _|exact cK _ _ _|exact iO _ _ _|exact(by omega:n<=1048576))|exact(rfl:Int.ofNat _=_)|exact(rfl:gH _ _=_)|exact hz|exact hK0|exact hK1|exact me|exact hpu|exact hrp' _|exact dt _ _|exact cK _ _ _|exact iO _ _ _|exact(by omega:n<=1048576)|intro hq)
 all_goals exact q2 _ hq rfl rfl rfl rfl rfl
end
theorem Eb{z:T aa}{a b:Nat}(h:aq z a)(hab:a<=b):aq z b:=fun k o hk=>⟨Nat.lt_of_lt_of_le (h k o hk).1 hab,fun σ hs=>(h k o hk).2 σ fun j hj=>hs j (by omega)⟩
theorem zI{z:T aa}{a k:Nat}(h:aq z a)(hk:k<a){o:aa}(ho: ∀σ:Nat->Option Nat,(∀j,j<a->σ (256*j+510)=some (256*j+510))->aG σ o=some o):aq (z.set k o) a:=fun i p hi=>by
 rw[T.aL] at hi
 split at hi
 ·cases hi;rename_i e;subst e;exact⟨hk,ho⟩
 ·exact h i p hi
theorem pf{z:T aa}{a:Nat}(h:aq z a)(k:Nat):aq (z.del k) a:=fun i p hi=>by
 rw[T.fQ] at hi
 split at hi
 ·cases hi
 ·exact h i p hi
theorem iX{z:T aa}{a:Nat}(h:aq z a){k:bg}(hp:bG k.cells=true):aq (z.set a (.ax k)) (a+1):=zI (Eb h (Nat.le_succ a)) (Nat.lt_succ_self a) fun σ _=>cF hp
theorem Ja(a:Int):Instr.sameBits 10000 (zv a) (zv a)=true:=by
 simp[Instr.sameBits]
theorem vh(E:List eh):(bF E).length=E.length*3:=by rw[ko (oK E),List.length_map]
theorem gb(E:List eh):bG (bF E)=true:=kR (fun _=>rfl) E
theorem dI{σ:Nat->Option Nat}(E:List eh)(c:Nat):aG σ (aa.ax (bg.mk (bF E) c 3 329 true true 0 true))=some (aa.ax (bg.mk (bF E) c 3 329 true true 0 true)):=cF (gb E)
theorem vj{E:List eh}{i:Nat}{e:eh}(h:E[i]? =some e)(c:Nat):aB Tryz.prog (bg.mk (bF E) c 3 329 true true 0 true) 329 (0+i*3)=some (.agg ⟨e.row⟩):=
 gN (rows:=E.map eh.row) rfl Tryz.underlying329 rfl rfl (oK E) (by rw[List.getElem?_map,h];rfl)
structure E1(n:Nat)(E:List eh):Prop where
 len:E.length<=4096
 ok: ∀e∈E,0<=e.from_/\e.from_<n/\0<=e.an/\e.an<n/\0<=e.wt/\e.wt<=1073741824
section
variable{z:T aa}{zn:Nat}
theorem LN(hz:aq z zn)(n:Nat)(x:Int)(h0:0<=x)(h1:x<n):A1 z zn 272 [zv x,ip 0] [(0,E4 n)] 1 1 F0 [(0,E4 n)]:=by
 have d1:decide (x<0)=false:=by simp<;>omega
 have d2:decide (x>=(n:Int))=false:=by simp<;>omega
 refine aY (cT T.leaf) (fn:=Tryz.f272) (by kernel_rfl) (by kernel_rfl) hz ⟨by decide,by decide⟩ rfl (N:=100) ?_
 refine Un z zn n x _ ?_
 refine⟨fun h=>(by rw[d1] at h;cases h),fun _=>⟨fun h=>(by rw[d2] at h;cases h),fun _=>?_⟩⟩
 (repeat' first|(with_reducible first|exact rfl|exact True.intro|assumption|apply And.intro|exact hz|exact q1)|exact(rfl:Int.ofNat _=_)|exact(rfl:gH _ _=_)|exact hz|exact q1|intro hq)
theorem HX(hz:aq z zn)(n:Nat)(hn:n<=64)(E:List eh)(hE:E1 n E):A1 z zn 261 [iv n,aZ 0 E.length E.length,ay] [(0,nj (bF E) E.length)] 1 1 (I 0) [(0,nj (bF E) E.length)]:=by
 have hK0:ai Tryz.prog (ah (ag Tryz.f261) 0) 2 57 (vQ n E.length 0) [(0,nj (bF E) E.length),(1,E4 n)] 2 z zn (Al.R (QS z zn n E.length (bF E)).l):=by
  refine ak hD (cT T.leaf) (α:=Nat) 2 57 2 (fun j=>j<=E.length) (fun j=>vQ n E.length j) (fun _=>[(0,nj (bF E) E.length),(1,E4 n)]) (fun _=>z) (fun _=>zn) (fun j=>E.length - j) _ (fun j hI=>?_) 0 (Nat.zero_le _)
  by_cases hj:j<E.length
  ·obtain⟨e,he⟩:=ey hj
   obtain⟨k1,k2,k3,k4,k5,k6⟩:=hE.ok e (List.mem_of_getElem? he)
   have hle:=hE.len
   have m1:=LN hz n e.from_ k1 k2
   have m2:=LN hz n e.an k3 k4
   have hc:decide ((j:Int)<(E.length:Int))=true:=by simp;omega
   have d1:decide (e.wt<0)=false:=by simp<;>omega
   have d2:decide (e.wt>1073741824)=false:=by simp<;>omega
   refine t100 (WN z zn n E.length j (bF E) e (aj _ _ _ _ _ _ _ _ _) ⟨fun _=>?_,fun h=>(by rw[hc] at h;cases h)⟩)
   (repeat' first|(with_reducible first|exact rfl|exact True.intro|assumption|apply And.intro|exact hz|exact hj|exact vj he _|exact m1|exact m2|exact dI _ _|exact aK (by omega))|exact(rfl:Int.ofNat _=_)|exact(rfl:gH _ _=_)|exact hz|exact hj|exact vj he _|exact m1|exact m2|exact dI _ _|exact aK (by omega)|intro hq)
   all_goals first
    |(exact⟨j+1,rfl,rfl,rfl,rfl,rfl,hj,by show E.length - (j+1)<E.length - j;omega⟩)
    |(exfalso;simp_all;done)
    |(exfalso;simp_all;omega)
  ·have hc:decide ((j:Int)<(E.length:Int))=false:=by simp<;>omega
   refine t100 (WN z zn n E.length j (bF E) ⟨0,0,0⟩ (aj _ _ _ _ _ _ _ _ _) ⟨fun h=>(by rw[hc] at h;cases h),fun _=>?_⟩)
   (repeat' first|(with_reducible first|exact rfl|exact True.intro|assumption|apply And.intro|exact hz|exact dI _ _)|exact(rfl:Int.ofNat _=_)|exact(rfl:gH _ _=_)|exact hz|exact dI _ _|intro hq)
   exact bE trivial
 have hK1:ai Tryz.prog (ah (ag Tryz.f261) 1) 2 57 vP [(0,nj (bF E) E.length),(1,E4 n)] 2 z zn (Al.R (QR z zn n E.length (bF E)).l):=by
  refine ak hD (cT T.leaf) (α:=Nat) 2 57 2 (fun j=>j=0) (fun _=>vP) (fun _=>[(0,nj (bF E) E.length),(1,E4 n)]) (fun _=>z) (fun _=>zn) (fun j=>1) _ (fun j hI=>?_) 0 rfl
  refine t100 (ZO z zn n E.length (bF E) (aj _ _ _ _ _ _ _ _ _) ?_)
  (repeat' first|(with_reducible first|exact rfl|exact True.intro|assumption|apply And.intro|exact hz|exact dI _ _)|exact(rfl:Int.ofNat _=_)|exact(rfl:gH _ _=_)|exact hz|exact dI _ _|intro hq)
  exact bE trivial
 have hle:=hE.len
 have d0:decide ((n:Int)<0)=false:=by simp<;>omega
 have d1:decide ((n:Int)>64)=false:=by simp<;>omega
 have d2:decide ((E.length:Int)>4096)=false:=by simp<;>omega
 refine aY (cT T.leaf) (fn:=Tryz.f261) (by kernel_rfl) (by kernel_rfl) hz ⟨by decide,by decide⟩ rfl (N:=100) ?_
 refine ck z zn n E.length (bF E) _ ?_
 (repeat' first|(with_reducible first|exact rfl|exact True.intro|assumption|apply And.intro|exact hz|exact hK0|exact hK1|exact dI _ _|exact q1)|exact(rfl:Int.ofNat _=_)|exact(rfl:gH _ _=_)|exact hz|exact hK0|exact hK1|exact dI _ _|exact q1|intro hq)
 all_goals (exfalso;simp_all;done)
end
abbrev Rb(r:List eh):bg:=⟨bF r,r.length*3,3,329,false,false,0,true⟩
structure BZ(z0:T aa)(zn0:Nat)(E:List eh)(j:Nat)(s:nI):Prop where
 bN:aq s.z s.zn
 zn:s.zn=zn0+j
 ie: ∀k,k<zn0->s.z.get k=z0.get k
 row: ∀x∈s.l,zn0<=x.2.1/\x.2.1<s.zn/\s.z.get x.2.1=some (.ax (Rb x.2.2))/\x.2.2≠[]/\x.2.2.length<=j/\ ∀e∈x.2.2,e∈E
 keys:(s.l.map (·.1)).Nodup
 Ni:(s.l.map (·.2.1)).Nodup
 lA: ∀a,lA s.l a=(E.take j).filter fun e=>e.from_==a
theorem yR: ∀(l:List nq)(i:Nat)(x:nq),eI i (l++[x])=eI i l++[{key:=zv x.1,val:=tb x.2.1 x.2.2.length x.2.2.length,born:=i+l.length}]
 |[],i,x=>rfl
 |(a,k,r)::l,i,x=>by
  simp only[List.cons_append,eI,yR l (i+1) x,List.length_cons]
  rw[show i+1+l.length=i+(l.length+1) by omega]
theorem CA: ∀(l:List nq)(i j:Nat)(x y:nq),l[i]? =some y->y.1=x.1->cX i (zv x.1) (tb x.2.1 x.2.2.length x.2.2.length) (eI j l)=eI j (l.set i x)
 |[],i,j,x,y,h,_=>by simp at h
 |(a,k,r)::l,0,j,x,y,h,hk=>by
  simp only[List.getElem?_cons_zero,Option.some.injEq] at h
  subst h
  rfl
 |(a,k,r)::l,i+1,j,x,y,h,hk=>by
  simp only[List.getElem?_cons_succ] at h
  simp only[eI,cX,List.set_cons_succ,CA l i (j+1) x y h hk]
theorem CB: ∀(l:List nq)(i j:Nat)(x:nq),l[i]? =some x->nth (eI j l) i=some {key:=zv x.1,val:=tb x.2.1 x.2.2.length x.2.2.length,born:=j+i}
 |[],i,j,x,h=>by simp at h
 |(a,k,r)::l,0,j,x,h=>by
  simp only[List.getElem?_cons_zero,Option.some.injEq] at h
  subst h;rfl
 |(a,k,r)::l,i+1,j,x,h=>by
  simp only[List.getElem?_cons_succ] at h
  simp only[eI,nth,CB l i (j+1) x h]
  rw[show j+1+i=j+(i+1) by omega]
theorem sH{σ:Nat->Option Nat}: ∀{a a' b b':List MapEntry},gq σ a=some a'->gq σ b=some b'->gq σ (a++b)=some (a'++b')
 |[],a',b,b',h1,h2=>by simp only[gq,Option.some.injEq] at h1;subst h1;exact h2
 |e::a,a',b,b',h1,h2=>by
  simp only[gq] at h1
  split at h1
  ·rename_i k v q1 q2
   split at h1
   ·rename_i m q3
    cases h1
    simp only[List.cons_append,gq,q1,q2,sH q3 h2]
   ·cases h1
  ·cases h1
theorem nP{σ:Nat->Option Nat}{k k' v v':Value}(hk:aX σ k=some k')(hv:aX σ v=some v'): ∀{es es':List MapEntry} (i:Nat),gq σ es=some es'->gq σ (cX i k v es)=some (cX i k' v' es')
 |[],es',i,h=>by simp only[gq,Option.some.injEq] at h;subst h;cases i<;>rfl
 |e::es,es',0,h=>by
  simp only[gq] at h
  split at h
  ·rename_i k v q1 q2
   split at h
   ·rename_i m q3
    cases h
    simp only[cX,gq,hk,hv,q3]
   ·cases h
  ·cases h
 |e::es,es',i+1,h=>by
  simp only[gq] at h
  split at h
  ·rename_i k v q1 q2
   split at h
   ·rename_i m q3
    cases h
    simp only[cX,gq,q1,q2,nP hk hv i q3]
   ·cases h
  ·cases h
theorem mL{σ:bA}{k b c:Nat}{o:aa}(h:b≠k):az σ [(k,c,o)] (256*b+510)=some (256*b+510):=by
 rw[iN (by unfold cL;omega)]
 have:Nat.beq (256*k+510) (256*b+510)=false:=by
  cases e:Nat.beq (256*k+510) (256*b+510) with
  |false=>rfl
  |true=>have:=Nat.eq_of_beq_eq_true e;omega
 simp only[AA,this]
theorem I8{σ:bA}{k c:Nat}{o:aa}:az σ [(k,c,o)] (256*k+510)=some c:=by
 rw[iN (by unfold cL;omega)]
 have:Nat.beq (256*k+510) (256*k+510)=true:=Nat.beq_refl _
 simp only[AA,this]
theorem oO{σ:bA}{k c n m:Nat}{o:aa}:aX (az σ [(k,c,o)]) (tb k n m)=some (aZ c n m):=by
 simp only[aX,I8]
theorem Ig{l:List nq}{x:nq}(h:l.find? (fun y=>y.1==x.1)=none)(a:Int):lA (l++[x]) a=if a=x.1 then x.2.2 else lA l a:=by
 unfold lA
 rw[List.find?_append]
 by_cases e:a=x.1
 ·subst e;rw[h,if_pos rfl];simp
 ·rw[if_neg e]
  have:(x.1==a)=false:=by simp;exact fun q=>e q.symm
  simp[List.find?_cons,this]
theorem Db: ∀{l:List nq} {i:Nat} {x y:nq},(l.map (·.1)).Nodup->l[i]? =some y->y.1=x.1-> ∀a,lA (l.set i x) a=if a=x.1 then x.2.2 else lA l a
 |[],i,x,y,_,h,_,a=>by simp at h
 |b::l,0,x,y,hn,h,hk,a=>by
  simp only[List.getElem?_cons_zero,Option.some.injEq] at h
  subst h
  unfold lA
  simp only[List.set_cons_zero,List.find?_cons]
  by_cases e:a=x.1
  ·subst e;simp
  ·have h1:(x.1==a)=false:=by simp;exact fun q=>e q.symm
   have h2:(b.1==a)=false:=by rw[hk];exact h1
   rw[h1,h2,if_neg e]
 |b::l,i+1,x,y,hn,h,hk,a=>by
  simp only[List.getElem?_cons_succ] at h
  simp only[List.map_cons,List.nodup_cons] at hn
  have ih:=Db hn.2 h hk a
  have hbx:b.1≠x.1:=fun e=>hn.1 (by rw[e,←hk];exact List.mem_map.2 ⟨y,List.mem_of_getElem? h,rfl⟩)
  unfold lA at ih ⊢
  simp only[List.set_cons_succ,List.find?_cons]
  by_cases e:(b.1==a)=true
  ·have:a=b.1:=by simpa using (beq_iff_eq.1 e).symm
   rw[e,if_neg (by rw[this];exact hbx)]
  ·have e':(b.1==a)=false:=by simpa using e
   rw[e'];exact ih
theorem vz: ∀{l:List Nat} {i v:Nat},l.Nodup->v ∉ l->(l.set i v).Nodup
 |[],_,_,h,_=>by simp
 |a::l,0,v,h,hv=>by
  simp only[List.set_cons_zero,List.nodup_cons] at*
  exact⟨fun q=>hv (List.mem_cons_of_mem _ q),h.2⟩
 |a::l,i+1,v,h,hv=>by
  simp only[List.set_cons_succ,List.nodup_cons] at*
  refine⟨fun q=>?_,vz h.2 fun q=>hv (List.mem_cons_of_mem _ q)⟩
  rcases List.mem_or_eq_of_mem_set q with q|q
  ·exact h.1 q
  ·exact hv (by rw[q];exact List.mem_cons_self ..)
theorem oZ{α β:Type}(f:α->β){l:List α}{i:Nat}{x y:α}(h:l[i]? =some y)(hf:f x=f y):(l.set i x).map f=l.map f:=by
 rw[List.map_set]
 apply List.ext_getElem?
 intro j
 rw[List.getElem?_set]
 by_cases e:i=j
 ·subst e
  have hlt:i<l.length:=(List.getElem?_eq_some_iff.1 h).1
  have hg:l[i]=y:=by rw[List.getElem?_eq_getElem hlt] at h;exact Option.some.inj h
  simp[hlt,hg,hf]
 ·simp[e]
section
variable{z:T aa}{zn:Nat}
theorem JY(hz:aq z zn)(E:List eh)(hE:E.length<=4096):
 ai Tryz.prog (ah (ag Tryz.f262) 0) 2 34 (Bf E.length 0) [(0,nj (bF E) E.length),(1, .map [] 0)] 2 z zn (Al.R (Uu z zn E.length (bF E) (BZ z zn E E.length)).l):=by
 refine ak hD (cT T.leaf) (α:=Nat × nI) 2 34 2 (fun t=>t.1<=E.length/\BZ z zn E t.1 t.2) (fun t=>Bf E.length t.1) (fun t=>[(0,nj (bF E) E.length),(1,DJ t.2.l)]) (fun t=>t.2.z) (fun t=>t.2.zn) (fun t=>E.length - t.1) _ (fun t hI=>?_) (0,⟨[],z,zn⟩) ⟨Nat.zero_le _,⟨hz,rfl,fun _ _=>rfl,fun x hx=>(by cases hx),(by simp),(by simp),fun a=>(by simp[lA])⟩⟩
 obtain⟨j,s⟩:=t
 obtain⟨h1,h2⟩:=hI
 simp only at h1 h2 ⊢
 by_cases hj:j<E.length
 ·obtain⟨e,he⟩:=ey hj
  have hc:decide ((j:Int)<(E.length:Int))=true:=by simp;omega
  have htk:E.take (j+1)=E.take j++[e]:=by rw[List.take_add_one,he];rfl
  have hem:e∈E:=List.mem_of_getElem? he
  have hfr:=h2.bN
  rcases mi s.l e.from_ 0 0 with ⟨i,x,q1,q2,q3,_,q5⟩|⟨q1,q2⟩
  ·rw[Nat.sub_zero] at q5
   obtain⟨k1,k2,k3,k4,k5,k6⟩:=h2.row x q2
   have hx1:x.1=e.from_:=by simpa using List.find?_some q3
   have hzn: ∀y∈s.l,y.2.1≠s.zn:=fun y hy=>by have:=(h2.row y hy).2.1;omega
   have hkeep:wL (eI 0 s.l) i (zv e.from_):=⟨_,CB s.l i 0 x q5,by rw[hx1];simp only[au,Ja,Bool.and_self]⟩
   have hcells:bF x.2.2++eh.row e=bF (x.2.2++[e]):=by
    show _=((x.2.2++[e]).map eh.row).flatten
    rw[List.map_append,List.flatten_append];rfl
   have hmap: ∀o:aa,aG (az [(0,0),(1,1)] [(s.zn,4,o)]) (aa.map (cX i (zv e.from_) (tb s.zn (x.2.2.length+1) (x.2.2.length+1)) (eI 0 s.l)) s.l.length)=some (aa.map (cX i (zv e.from_) (aZ 4 (x.2.2.length+1) (x.2.2.length+1)) (eI 0 s.l)) s.l.length):=fun o=>by
    have:=nP (σ:=az [(0,0),(1,1)] [(s.zn,4,o)]) (k:=zv e.from_) (k':=zv e.from_) rfl (oO (n:=x.2.2.length+1) (m:=x.2.2.length+1)) i (rE (L:=s.l) 0 fun y hy=>mL (hzn y hy))
    simp only[aG,this]
   have r1: ∀σ c,aG σ (aa.ax (bg.mk (bF x.2.2++eh.row e) c 3 329 false false 0 true))=some (aa.ax (bg.mk (bF x.2.2++eh.row e) c 3 329 false false 0 true)):=fun σ c=>by
    rw[hcells];exact cF (gb _)
   have hfd:=pf hfr x.2.1
   have hlen:=vh x.2.2
   refine t100 (X2 s.z s.zn E.length j s.l.length i x.2.1 x.2.2.length (Rb x.2.2) (bF E) e (eI 0 s.l) (aj _ _ _ _ _ _ _ _ _) ⟨fun _=>?_,fun h=>(by rw[hc] at h;cases h)⟩)
   (repeat' first|(with_reducible first|exact rfl|exact True.intro|assumption|apply And.intro|exact hfr|exact hfd|exact hj|exact vj he _|exact q1|exact k3|exact hlen|exact hkeep|exact hmap _|exact r1 _ _|exact dI _ _|exact(by omega:x.2.2.length+1<=1048576)|exact Nat.le_succ _|exact Nat.le_refl _|exact Nat.lt_succ_self _|exact aK (by omega))|exact(rfl:Int.ofNat _=_)|exact(rfl:gH _ _=_)|exact hfr|exact hfd|exact hj|exact vj he _|exact q1|exact k3|exact hlen|exact hkeep|exact hmap _|exact r1 _ _|exact dI _ _|exact(by omega:x.2.2.length+1<=1048576)|exact Nat.le_succ _|exact Nat.le_refl _|exact Nat.lt_succ_self _|exact aK (by omega)|intro hq)
   refine⟨(j+1,⟨s.l.set i (e.from_,s.zn,x.2.2++[e]),(s.z.del x.2.1).set s.zn (.ax (Rb (x.2.2++[e]))),s.zn+1⟩),rfl,?_,rfl,?_,rfl,⟨hj,?_⟩,by show E.length - (j+1)<E.length - j;omega⟩
   ·have:=CA s.l i 0 (e.from_,s.zn,x.2.2++[e]) x q5 hx1
    simp only[List.length_append,List.length_singleton] at this
    simp only[DJ,←this,List.length_set]
   ·simp only[jd]
    have:x.2.2.length+1=(x.2.2++[e]).length:=by simp
    simp only[Rb,←hcells,←this]
   ·simp only
    have hil:i<s.l.length:=(List.getElem?_eq_some_iff.1 q5).1
    refine⟨iX hfd (gb _),by show s.zn+1=zn+(j+1);rw[h2.zn];omega,fun k hk=>?_,fun y hy=>?_,?_,?_,fun a=>?_⟩
    ·show((s.z.del x.2.1).set s.zn _).get k=_
     rw[T.aL,if_neg (by have:=h2.zn;omega),T.fQ,if_neg (by omega)]
     exact h2.ie k hk
    ·show zn<=y.2.1/\y.2.1<s.zn+1/\((s.z.del x.2.1).set s.zn _).get y.2.1=_/\_
     rcases List.mem_or_eq_of_mem_set hy with hy|rfl
     ·
      obtain⟨m1,m2,m3,m4,m5,m6⟩:=h2.row y hy
      have hne:y.2.1≠x.2.1:=by
       intro hyx
       obtain⟨p,hp⟩:=List.mem_iff_getElem?.1 (by assumption:y∈s.l.set i (e.from_,s.zn,x.2.2++[e]))
       rw[List.getElem?_set] at hp
       split at hp
       ·rename_i hip
        simp only[hil,if_true,Option.some.injEq] at hp
        rw[←hp] at hyx m2
        simp only at m2;omega
       ·rename_i hip
        have hn:=h2.Ni
        have e1:(s.l.map (·.2.1))[p]? =some y.2.1:=by rw[List.getElem?_map,hp];rfl
        have e2:(s.l.map (·.2.1))[i]? =some x.2.1:=by rw[List.getElem?_map,q5];rfl
        rw[hyx] at e1
        have hlt1:=(List.getElem?_eq_some_iff.1 e1).1
        have hlt2:=(List.getElem?_eq_some_iff.1 e2).1
        exact hip ((List.getElem?_inj hlt2 hn).1 (e2.trans e1.symm))
      refine⟨m1,by omega,?_,m4,by omega,m6⟩
      rw[T.aL,if_neg (by omega),T.fQ,if_neg hne]
      exact m3
     ·refine⟨by have:=h2.zn;show zn<=s.zn;omega,Nat.lt_succ_self _,by rw[T.aL,if_pos rfl],by simp,by simp;omega,fun e' he'=>?_⟩
      rcases List.mem_append.1 he' with q|q
      ·exact k6 e' q
      ·simp at q;subst q;exact hem
    ·show((s.l.set i (e.from_,s.zn,x.2.2++[e])).map (·.1)).Nodup
     rw[oZ (·.1) q5 hx1.symm];exact h2.keys
    ·show((s.l.set i (e.from_,s.zn,x.2.2++[e])).map (·.2.1)).Nodup
     rw[List.map_set]
     refine vz h2.Ni fun q=>?_
     obtain⟨y,y1,y2⟩:=List.mem_map.1 q
     exact hzn y y1 y2
    ·show lA (s.l.set i (e.from_,s.zn,x.2.2++[e])) a=_
     rw[Db h2.keys q5 hx1 a,htk,List.filter_append]
     have hax:lA s.l e.from_=x.2.2:=by unfold lA;rw[q3];rfl
     by_cases ea:a=e.from_
     ·subst ea
      rw[if_pos rfl,←h2.lA,hax];simp
     ·have:(e.from_==a)=false:=by simp;exact fun q=>ea q.symm
      rw[if_neg ea,h2.lA a];simp[List.filter_cons,this]
  ·have hzn: ∀y∈s.l,y.2.1≠s.zn:=fun y hy=>by have:=(h2.row y hy).2.1;omega
   have hmap: ∀o:aa,aG (az [(0,0),(1,1)] [(s.zn,4,o)]) (aa.map (eI 0 s.l++[MapEntry.mk (zv e.from_) (tb s.zn 1 1) s.l.length]) (s.l.length+1))=some (aa.map (eI 0 s.l++[MapEntry.mk (zv e.from_) (aZ 4 1 1) s.l.length]) (s.l.length+1)):=fun o=>by
    have h1:gq (az [(0,0),(1,1)] [(s.zn,4,o)]) [MapEntry.mk (zv e.from_) (tb s.zn 1 1) s.l.length]=some [MapEntry.mk (zv e.from_) (aZ 4 1 1) s.l.length]:=by
     have h0:=oO (σ:=[(0,0),(1,1)]) (k:=s.zn) (c:=4) (n:=1) (m:=1) (o:=o)
     have NN:aX (az [(0,0),(1,1)] [(s.zn,4,o)]) (zv e.from_)=some (zv e.from_):=rfl
     simp only[gq,h0,NN]
    have:=sH (rE (L:=s.l) 0 fun y hy=>mL (σ:=[(0,0),(1,1)]) (c:=4) (o:=o) (hzn y hy)) h1
    simp only[aG,this]
   refine t100 (Wy s.z s.zn E.length j s.l.length (bF E) e (eI 0 s.l) (aj _ _ _ _ _ _ _ _ _) ⟨fun _=>?_,fun h=>(by rw[hc] at h;cases h)⟩)
   (repeat' first|(with_reducible first|exact rfl|exact True.intro|assumption|apply And.intro|exact hfr|exact hj|exact vj he _|exact q1|exact hmap _|exact dI _ _|exact Nat.le_succ _|exact Nat.le_refl _|exact Nat.lt_succ_self _|exact aK (by omega))|exact(rfl:Int.ofNat _=_)|exact(rfl:gH _ _=_)|exact hfr|exact hj|exact vj he _|exact q1|exact hmap _|exact dI _ _|exact Nat.le_succ _|exact Nat.le_refl _|exact Nat.lt_succ_self _|exact aK (by omega)|intro hq)
   refine⟨(j+1,⟨s.l++[(e.from_,s.zn,[e])],s.z.set s.zn (.ax (Rb [e])),s.zn+1⟩),rfl,?_,rfl,rfl,rfl,⟨hj,?_⟩,by show E.length - (j+1)<E.length - j;omega⟩
   ·simp only[DJ,yR,List.length_append,List.length_singleton,Nat.zero_add]
   ·simp only
    refine⟨iX hfr (gb _),by show s.zn+1=zn+(j+1);rw[h2.zn];omega,fun k hk=>?_,fun y hy=>?_,?_,?_,fun a=>?_⟩
    ·show(s.z.set s.zn _).get k=_
     rw[T.aL,if_neg (by have:=h2.zn;omega)]
     exact h2.ie k hk
    ·show zn<=y.2.1/\y.2.1<s.zn+1/\(s.z.set s.zn _).get y.2.1=_/\_
     rcases List.mem_append.1 hy with hy|hy
     ·obtain⟨m1,m2,m3,m4,m5,m6⟩:=h2.row y hy
      refine⟨m1,by omega,?_,m4,by omega,m6⟩
      rw[T.aL,if_neg (by omega)]
      exact m3
     ·simp only[List.mem_singleton] at hy
      subst hy
      refine⟨by have:=h2.zn;show zn<=s.zn;omega,Nat.lt_succ_self _,by rw[T.aL,if_pos rfl],by simp,by simp,fun e' he'=>?_⟩
      simp at he';subst he';exact hem
    ·show((s.l++[(e.from_,s.zn,[e])]).map (·.1)).Nodup
     rw[List.map_append,List.nodup_append]
     refine⟨h2.keys,by simp,fun a ha b hb=>?_⟩
     simp only[List.map_cons,List.map_nil,List.mem_singleton] at hb
     subst hb
     obtain⟨y,y1,y2⟩:=List.mem_map.1 ha
     intro hab
     have:=List.find?_eq_none.1 q2 y y1
     rw[y2,hab] at this;simp at this
    ·show((s.l++[(e.from_,s.zn,[e])]).map (·.2.1)).Nodup
     rw[List.map_append,List.nodup_append]
     refine⟨h2.Ni,by simp,fun a ha b hb=>?_⟩
     simp only[List.map_cons,List.map_nil,List.mem_singleton] at hb
     subst hb
     obtain⟨y,y1,y2⟩:=List.mem_map.1 ha
     intro hab
     exact hzn y y1 (y2.trans hab)
    ·show lA (s.l++[(e.from_,s.zn,[e])]) a=_
     rw[Ig q2 a,htk,List.filter_append]
     have hax:lA s.l e.from_=[]:=by unfold lA;rw[q2];rfl
     by_cases ea:a=e.from_
     ·subst ea
      rw[if_pos rfl,←h2.lA,hax];simp
     ·have:(e.from_==a)=false:=by simp;exact fun q=>ea q.symm
      rw[if_neg ea,h2.lA a];simp[List.filter_cons,this]
 ·have hje:j=E.length:=by omega
  have hc:decide ((j:Int)<(E.length:Int))=false:=by simp;omega
  have hfr:=h2.bN
  refine t100 (Wy s.z s.zn E.length j s.l.length (bF E) ⟨0,0,0⟩ (eI 0 s.l) (aj _ _ _ _ _ _ _ _ _) ⟨fun h=>(by rw[hc] at h;cases h),fun _=>?_⟩)
  (repeat' first|(with_reducible first|exact rfl|exact True.intro|assumption|apply And.intro|exact hfr|exact dI _ _|exact cK _ _ _)|exact(rfl:Int.ofNat _=_)|exact(rfl:gH _ _=_)|exact hfr|exact dI _ _|exact cK _ _ _|intro hq)
  subst hje
  exact BT (k:=fun _=>eA) s h2 rfl
theorem Vp(hz:aq z zn)(E:List eh)(hE:E.length<=4096):
 bI Tryz.prog z zn 262 [aZ 0 E.length E.length,F0] [(0,nj (bF E) E.length)] 1 2 (BZ z zn E E.length) (fun _=>mp 1) (fun s=>[(0,nj (bF E) E.length),(1,DJ s.l)]) (fun s=>s.z) (fun s=>s.zn):=by
 have hK:=JY hz E hE
 refine fN (cT T.leaf) (fn:=Tryz.f262) (by kernel_rfl) (by kernel_rfl) hz ⟨by decide,by decide⟩ (fun s hs=>⟨rfl,by show zn<=s.zn;rw[hs.zn];omega,hs.bN⟩) (N:=100) ?_
 refine nb z zn E.length (bF E) (BZ z zn E E.length) _ ?_
 (repeat' first|(with_reducible first|exact rfl|exact True.intro|assumption|apply And.intro|exact hz|exact hK|exact BZ.bN (by with_reducible assumption)|exact dI _ _|exact cK _ _ _)|exact(rfl:Int.ofNat _=_)|exact(rfl:gH _ _=_)|exact hz|exact hK|exact BZ.bN (by with_reducible assumption)|exact dI _ _|exact cK _ _ _|intro hq)
 all_goals exact q2 _ hq rfl rfl rfl rfl rfl
end
def EE(E:List eh):bX:=fun u v w=> ∃e∈E,e.from_=(u:Int)/\e.an=(v:Int)/\e.wt=(w:Int)
abbrev Bs(l:List cO)(n:Nat):bg:=⟨vX l,n*1,1,3,true,true,0,true⟩
def kB(b n:Nat)(i:Nat):List Value:=(List.range i).map fun j=>tb (b+j) n n
def gi(b n i:Nat):List Value:=kB b n i++List.replicate (n - i) ay
theorem kE(b n i:Nat):(kB b n i).length=i:=by simp[kB]
theorem oA(b n i:Nat):kB b n (i+1)=kB b n i++[tb (b+i) n n]:=by simp[kB,List.range_succ]
theorem Hi{b n i:Nat}(h:i<n):(gi b n n)[i]? =some (tb (b+i) n n):=by
 unfold gi kB
 rw[List.getElem?_append_left (by simpa using h),List.getElem?_map,List.getElem?_range h];rfl
theorem Ky{b n i:Nat}(h:i<=n):(gi b n i).length=n:=by simp[gi,kB];omega
theorem En{b n i:Nat}(h:i<n):gi b n i=kB b n i++ay::List.replicate (n - (i+1)) ay:=by
 unfold gi
 obtain⟨m,hm⟩: ∃m,n - i=m+1:=⟨n - i - 1,by omega⟩
 rw[hm,show n - (i+1)=m by omega];rfl
theorem Hh{b n i:Nat}:gi b n (i+1)=kB b n i++tb (b+i) n n::List.replicate (n - (i+1)) ay:=by
 unfold gi
 rw[oA,List.append_assoc];rfl
theorem lS{σ:Nat->Option Nat}: ∀{a a' b b':List Value},bz σ a=some a'->bz σ b=some b'->bz σ (a++b)=some (a'++b')
 |[],a',b,b',h1,h2=>by simp only[bz,Option.some.injEq] at h1;subst h1;exact h2
 |v::a,a',b,b',h1,h2=>by
  simp only[bz] at h1
  split at h1
  ·rename_i k q1
   split at h1
   ·rename_i m q3
    cases h1
    simp only[List.cons_append,bz,q1,lS q3 h2]
   ·cases h1
  ·cases h1
theorem oN{σ:Nat->Option Nat}{b n:Nat}: ∀{i:Nat},(∀j,j<i->σ (256*(b+j)+510)=some (256*(b+j)+510))->bz σ (kB b n i)=some (kB b n i)
 |0,_=>rfl
 |i+1,h=>by
  rw[oA]
  refine lS (oN fun j hj=>h j (by omega)) ?_
  have:=h i (Nat.lt_succ_self i)
  simp only[bz,aX,this]
theorem nV(m:Nat):bG (List.replicate m ay)=true:=by
 rw[cV];intro v hv;rw[List.eq_of_mem_replicate hv];rfl
theorem Jk{σ:Nat->Option Nat}{b n i:Nat}(h: ∀j,j<i->σ (256*(b+j)+510)=some (256*(b+j)+510)):bz σ (gi b n i)=some (gi b n i):=lS (oN h) (eU (nV _))
theorem B7(σ:bA)(k:Nat):sig σ (256*k+510)=some (256*k+510):=iD (by unfold cL;omega)
theorem kO(σ:bA)(b n i c:Nat):aG (az σ []) (aa.ax (bg.mk (gi b n i) c 1 90 true true 0 true))=some (aa.ax (bg.mk (gi b n i) c 1 90 true true 0 true)):=by
 have:=Jk (σ:=az σ []) (b:=b) (n:=n) (i:=i) fun j _=>B7 σ _
 simp only[aG,this]
structure Ax(b n:Nat)(L:List nq)(z1:T aa)(i:Nat)(zz:T aa):Prop where
 bN:aq zz (b+i)
 ie: ∀k,k<b->zz.get k=z1.get k
 row: ∀j,j<i-> ∃l,CKφ L n j l/\zz.get (b+j)=some (.ax (Bs l n))
structure wO(z:T aa)(zn n:Nat)(E:bX)(s:dP):Prop where
 bN:aq s.z s.zn
 le:zn<=s.zn
 ie: ∀k,k<zn->s.z.get k=z.get k
 row: ∃b,zn<=b/\b+n<=s.zn/\s.cs=gi b n n/\ ∀i,i<n-> ∃l,s.z.get (b+i)=some (.ax (Bs l n))/\l.length=n/\ ∀j,j<n->lD E i j (eP l j).len
section
variable{z:T aa}{zn:Nat}
theorem Qj{n:Nat}{E:List eh}(hE:E1 n E){s:nI}(h:BZ z zn E E.length s){zz:T aa}(hzz: ∀k,k<s.zn->zz.get k=s.z.get k)(zm:Nat):TF zz zm n s.l:=by
 refine⟨fun x hx=>?_,fun x hx=>?_⟩
 ·obtain⟨k1,k2,k3,_⟩:=h.row x hx
  exact⟨_,(hzz _ k2).trans k3,rfl⟩
 ·obtain⟨k1,k2,k3,k4,k5,k6⟩:=h.row x hx
  refine⟨Nat.le_trans k5 hE.len,fun e he=>?_⟩
  obtain⟨m1,m2,m3,m4,m5,m6⟩:=hE.ok e (k6 e he)
  exact⟨m3,m4,m5,m6⟩
theorem Nn{E:List eh}{s:nI}(h:BZ z zn E E.length s):GE s.l=EE E:=by
 funext u v w
 apply propext
 unfold GE EE
 rw[h.lA,List.take_of_length_le (Nat.le_refl _)]
 constructor
 ·rintro⟨e,he,h1,h2⟩
  rw[List.mem_filter] at he
  exact⟨e,he.1,by simpa using he.2,h1,h2⟩
 ·rintro⟨e,he,h0,h1,h2⟩
  exact⟨e,List.mem_filter.2 ⟨he,by simpa using h0⟩,h1,h2⟩
theorem J8(n:Nat)(hn:n<=64)(E:List eh)(hE:E1 n E)(s:nI)(hs:BZ z zn E E.length s):
 ai Tryz.prog (ah (ag Tryz.f253) 0) 3 35 (zi n 0) [(1,DJ s.l),(2,sr (rep n [ay]) n)] 3 s.z s.zn (Al.R (QW n s.l.length (eI 0 s.l) (rep n [ay]) s.z s.zn (fun r=> ∃zz,Ax s.zn n s.l s.z n zz/\r=⟨gi s.zn n n,zz,s.zn+n⟩)).l):=by
 have e0:rep n [ay]=gi s.zn n 0:=by rw[mN n [ay] rfl];simp[gi,kB]
 rw[e0]
 refine ak hD (cT T.leaf) (α:=Nat × T aa) 3 35 3 (fun t=>t.1<=n/\Ax s.zn n s.l s.z t.1 t.2) (fun t=>zi n t.1) (fun t=>[(1,DJ s.l),(2,sr (gi s.zn n t.1) n)]) (fun t=>t.2) (fun t=>s.zn+t.1) (fun t=>n - t.1) _ (fun t hI=>?_) (0,s.z) ⟨Nat.zero_le _,hs.bN,fun _ _=>rfl,fun j hj=>by omega⟩
 obtain⟨i,zz⟩:=t
 obtain⟨h1,h2⟩:=hI
 simp only at h1 h2 ⊢
 have hfr:=h2.bN
 by_cases hi:i<n
 ·have hc:decide ((i:Int)<(n:Int))=true:=by simp;omega
  have hL:=Qj hE hs (zz:=zz) h2.ie (s.zn+i)
  have hlab:=HQ hfr s.l n i hL hn hi
  have hlen: ∀l,CKφ s.l n i l->A1 zz (s.zn+i) 263 [aZ 0 n n] [(0,jI (aV l) n)] 1 2 (aZ 1 n n) [(1,D6 (uU (aV l)) n)]:=fun l hl=>Ok hfr l n hl.1 (by omega)
  have o1:=oT (cs:=gi s.zn n i) (i:=i) (by rw[Ky h1];exact hi) (aZ 4 n n)
  have e1:(gi s.zn n i).set i (aZ 4 n n)=kB s.zn n i++aZ 4 n n::List.replicate (n - (i+1)) ay:=by
   rw[En hi,List.set_append_right _ _ (by rw[kE];exact Nat.le_refl _),kE,Nat.sub_self,List.set_cons_zero]
  rw[e1] at o1
  have l1:(kB s.zn n i++aZ 4 n n::List.replicate (n - (i+1)) ay).length<=n*1:=by simp[kE];omega
  have r1: ∀(σ:Nat->Option Nat) l c,aG σ (aa.ax (bg.mk (uU (aV l)) c 1 3 true true 0 true))=some (aa.ax (bg.mk (uU (aV l)) c 1 3 true true 0 true)):=fun σ l c=>by
   rw[mX];exact fE (kS (·.len) l) c
  have r2: ∀o,aG (az [(1,1),(2,2)] [(s.zn+i,4,o)]) (aa.map (eI 0 s.l) s.l.length)=some (aa.map (eI 0 s.l) s.l.length):=fun o=>FN (fun x hx=>mL (by have:=(hs.row x hx).2.1;omega)) _
  have r3: ∀o c,aG (az [(1,1),(2,2)] [(s.zn+i,4,o)]) (aa.ax (bg.mk (kB s.zn n i++tb (s.zn+i) n n::List.replicate (n - (i+1)) ay) c 1 90 true true 0 true))=some (aa.ax (bg.mk (kB s.zn n i++aZ 4 n n::List.replicate (n - (i+1)) ay) c 1 90 true true 0 true)):=fun o c=>by
   have q1:=oN (σ:=az [(1,1),(2,2)] [(s.zn+i,4,o)]) (b:=s.zn) (n:=n) (i:=i) fun j hj=>mL (by omega)
   have q2:bz (az [(1,1),(2,2)] [(s.zn+i,4,o)]) (tb (s.zn+i) n n::List.replicate (n - (i+1)) ay)=some (aZ 4 n n::List.replicate (n - (i+1)) ay):=by
    have:=oO (σ:=[(1,1),(2,2)]) (k:=s.zn+i) (c:=4) (n:=n) (m:=n) (o:=o)
    simp only[bz,this,eU (nV _)]
   simp only[aG,lS q1 q2]
  have nx: ∀l,CKφ s.l n i l->aj (fun t:Nat × T aa=>t.1<=n/\Ax s.zn n s.l s.z t.1 t.2) (fun t=>zi n t.1) (fun t=>[(1,DJ s.l),(2,sr (gi s.zn n t.1) n)]) 3 (fun t=>t.2) (fun t=>s.zn+t.1) (fun t=>n - t.1) (Al.R (QW n s.l.length (eI 0 s.l) (gi s.zn n 0) s.z s.zn (fun r=> ∃zz,Ax s.zn n s.l s.z n zz/\r=⟨gi s.zn n n,zz,s.zn+n⟩)).l) (i,zz) .normal (zi n (i+1)) [(1,DJ s.l),(2,sr (kB s.zn n i++tb (s.zn+i) n n::List.replicate (n - (i+1)) ay) n)] 3 (jd zz [(s.zn+i,4, .ax (bg.mk (uU (aV l)) (n*1) 1 3 true true 0 true))]) (s.zn+i+1):=fun l hl=>by
   refine⟨(i+1,zz.set (s.zn+i) (.ax (Bs l n))),rfl,by simp only[Hh],rfl,by simp only[jd,mX],by simp only;omega,⟨hi,?_⟩,by show n - (i+1)<n - i;omega⟩
   show Ax s.zn n s.l s.z (i+1) (zz.set (s.zn+i) (.ax (Bs l n)))
   refine⟨?_,fun k hk=>?_,fun j hj=>?_⟩
   ·have:=iX hfr (k:=Bs l n) (kS (·.len) l)
    exact this
   ·rw[T.aL,if_neg (by omega)];exact h2.ie k hk
   ·by_cases e:j=i
    ·subst e;exact⟨l,hl,by rw[T.aL,if_pos rfl]⟩
    ·obtain⟨l',k1,k2⟩:=h2.row j (by omega)
     exact⟨l',k1,by rw[T.aL,if_neg (by omega)];exact k2⟩
  refine t100 (WO zz (s.zn+i) n i s.l.length (eI 0 s.l) (kB s.zn n i) (List.replicate (n - (i+1)) ay) (gi s.zn n i) uU (CKφ s.l n i) (aj _ _ _ _ _ _ _ _ _) ⟨fun _=>?_,fun h=>(by rw[hc] at h;cases h)⟩)
  (repeat' first|(with_reducible first|exact rfl|exact True.intro|assumption|apply And.intro|exact hfr|exact hi|exact hlab|exact hlen _ (by with_reducible assumption)|exact o1|exact l1|exact r1 _ _ _|exact r2 _|exact r3 _ _|exact iO _ _ _|exact dt _ _|exact Nat.le_succ _|exact Nat.le_refl _|exact Nat.lt_succ_self _|exact aK (by omega))|exact(rfl:Int.ofNat _=_)|exact(rfl:gH _ _=_)|exact hfr|exact hi|exact hlab|exact hlen _ (by with_reducible assumption)|exact o1|exact l1|exact r1 _ _ _|exact r2 _|exact r3 _ _|exact iO _ _ _|exact dt _ _|exact Nat.le_succ _|exact Nat.le_refl _|exact Nat.lt_succ_self _|exact aK (by omega)|intro hq)
  all_goals exact nx _ (by with_reducible assumption)
 ·have hie:i=n:=by omega
  subst hie
  have hc:decide ((i:Int)<(i:Int))=false:=by simp
  refine t100 (WO zz (s.zn+i) i i s.l.length (eI 0 s.l) [] [] (gi s.zn i i) uU (fun _=>False) (aj _ _ _ _ _ _ _ _ _) ⟨fun h=>(by rw[hc] at h;cases h),fun _=>?_⟩)
  (repeat' first|(with_reducible first|exact rfl|exact True.intro|assumption|apply And.intro|exact hfr|exact kO _ _ _ _ _|exact cK _ _ _)|exact(rfl:Int.ofNat _=_)|exact(rfl:gH _ _=_)|exact hfr|exact kO _ _ _ _ _|exact cK _ _ _|intro hq)
  exact BT (k:=fun _=>eA) ⟨gi s.zn i i,zz,s.zn+i⟩ ⟨zz,h2,rfl⟩ rfl
theorem Rx(hz:aq z zn)(n:Nat)(hn:n<=64)(E:List eh)(hE:E1 n E):
 bI Tryz.prog z zn 253 [iv n,aZ 0 E.length E.length] [(0,nj (bF E) E.length)] 1 2 (wO z zn n (EE E)) (fun _=> .tuple ⟨[aZ 1 n n,I 0]⟩) (fun s=>[(1,sr s.cs n)]) (fun s=>s.z) (fun s=>s.zn):=by
 have hck:=HX hz n hn E hE
 have hnb:=Vp hz E hE.len
 have hal: ∀s,BZ z zn E E.length s->_:=fun s hs=>J8 n hn E hE s hs
 have hp:bG (rep n [ay])=true:=by rw[mN n [ay] rfl];exact nV n
 have r0: ∀σ c,aG σ (aa.ax (bg.mk (rep n [ay]) c 1 90 true true 0 true))=some (aa.ax (bg.mk (rep n [ay]) c 1 90 true true 0 true)):=fun σ c=>cF hp
 have fin: ∀s,BZ z zn E E.length s-> ∀r:dP,(∃zz,Ax s.zn n s.l s.z n zz/\r=⟨gi s.zn n n,zz,s.zn+n⟩)->wO z zn n (EE E) r:=fun s hs r ⟨zz,h,e⟩=>by
  subst e
  have hle:=hs.zn
  refine⟨h.bN,by show zn<=s.zn+n;omega,fun k hk=>(h.ie k (by omega)).trans (hs.ie k hk),s.zn,by omega,Nat.le_refl _,rfl,fun i hi=>?_⟩
  obtain⟨l,hl,hg⟩:=h.row i hi
  refine⟨l,hg,hl.1,fun j hj=>?_⟩
  rw[←Nn hs];exact hl.2 j hj
 have E2: ∀σ s,BZ z zn E E.length s-> ∀r:dP,(∃zz,Ax s.zn n s.l s.z n zz/\r=⟨gi s.zn n n,zz,s.zn+n⟩)-> ∀c,aG (az σ []) (aa.ax (bg.mk r.cs c 1 90 true true 0 true))=some (aa.ax (bg.mk r.cs c 1 90 true true 0 true)):=fun σ s hs r ⟨zz,h,e⟩ c=>by
  subst e;exact kO _ _ _ _ _
 refine fN (cT T.leaf) (fn:=Tryz.f253) (by kernel_rfl) (by kernel_rfl) hz ⟨by decide,by decide⟩ (fun s hs=>⟨rfl,hs.le,hs.bN⟩) (N:=100) ?_
 refine al z zn n E.length (bF E) (rep n [ay]) (BZ z zn E E.length) (fun s r=> ∃zz,Ax s.zn n s.l s.z n zz/\r=⟨gi s.zn n n,zz,s.zn+n⟩) _ ?_
 (repeat' first|(with_reducible first|exact rfl|exact True.intro|assumption|apply And.intro|exact hz|exact hck|exact hnb|exact hal _ (by with_reducible assumption)|exact BZ.bN (by with_reducible assumption)|exact wO.bN (fin _ (by with_reducible assumption) _ (by with_reducible assumption))|exact E2 _ _ (by with_reducible assumption) _ (by with_reducible assumption) _|exact r0 _ _|exact dI _ _|exact iO _ _ _|exact cK _ _ _|exact(by omega:n<=1048576))|exact(rfl:Int.ofNat _=_)|exact(rfl:gH _ _=_)|exact hz|exact hck|exact hnb|exact hal _ (by with_reducible assumption)|exact BZ.bN (by with_reducible assumption)|exact wO.bN (fin _ (by with_reducible assumption) _ (by with_reducible assumption))|exact E2 _ _ (by with_reducible assumption) _ (by with_reducible assumption) _|exact r0 _ _|exact dI _ _|exact iO _ _ _|exact cK _ _ _|exact(by omega:n<=1048576)|intro hq)
 all_goals exact q2 _ (fin _ (by with_reducible assumption) _ hq) rfl rfl rfl rfl rfl
end
structure mG(n:Nat)(l:List ae):Prop where
 ok: ∀p∈l,0<=p.from_/\p.from_<n/\0<=p.an/\p.an<n/\p.from_≠p.an/\1<=p.aH/\p.aH<=14400
def eT(b:Bool)(p:ae):Bool:= !b||p.sf
structure Ix(n:Nat)(l:List ae)(b:Bool)(j:Nat)(B:List fT):Prop where
 keys:(B.map fun x=>(x.1,x.2.1)).Nodup
 sub: ∀x∈B,∃p∈l.take j,eT b p=true/\p.from_=x.1/\p.an=x.2.1/\p.aH=x.2.2
 all: ∀p∈l.take j,eT b p=true-> ∃x∈B,x.1=p.from_/\x.2.1=p.an/\x.2.2<=p.aH
theorem pj(B:List fT)(f t:Int): ∀i j,(∃p x,aA Tryz.prog 302 (.agg ⟨[zv f,zv t,F0]⟩) (gj j B) i=some (some (p,zv x.2.2))/\x∈B/\x.1=f/\x.2.1=t/\i<=p/\B[p - i]? =some x)\/(aA Tryz.prog 302 (.agg ⟨[zv f,zv t,F0]⟩) (gj j B) i=some none/\ ∀x∈B,¬(x.1=f/\x.2.1=t)):=by
 induction B with
 |nil=>intro i j;exact .inr ⟨rfl,fun x hx=>by cases hx⟩
 |cons y l ih=>
  intro i j
  simp only[gj,aA,show au (C5 y)=true from rfl,G7]
  by_cases h:f=y.1/\t=y.2.1
  ·obtain⟨h1,h2⟩:=h
   refine .inl ⟨i,y,by simp[h1,h2],List.mem_cons_self ..,h1.symm,h2.symm,Nat.le_refl _,by simp⟩
  ·have hd:(decide (f=y.1) && (decide (t=y.2.1) && (false==false)))=false:=by
    by_cases h1:f=y.1
    ·have h2: ¬t=y.2.1:=fun e=>h ⟨h1,e⟩
     simp[h2]
    ·simp[h1]
   rw[hd]
   rcases ih (i+1) (j+1) with ⟨p,x,q1,q2,q3,q4,q5,q6⟩|⟨q1,q2⟩
   ·refine .inl ⟨p,x,q1,List.mem_cons_of_mem _ q2,q3,q4,by omega,?_⟩
    rw[show p - i=(p - (i+1))+1 by omega,List.getElem?_cons_succ];exact q6
   ·refine .inr ⟨q1,fun x hx=>?_⟩
    rcases List.mem_cons.1 hx with rfl|hx
    ·exact fun⟨e1,e2⟩=>h ⟨e1.symm,e2.symm⟩
    ·exact q2 x hx
theorem LR(B:List fT)(f t:Int):aA Tryz.prog 302 (.agg ⟨[zv f,zv t,F0]⟩) (gj 0 B) 0≠none:=by
 rcases pj B f t 0 0 with ⟨p,x,q,_⟩|⟨q,_⟩<;>rw[q]<;>simp
theorem LU(B:List fT)(f t:Int)(p:Nat × Value)(h:aA Tryz.prog 302 (.agg ⟨[zv f,zv t,F0]⟩) (gj 0 B) 0=some (some p)): ∃x:Nat × Int,p=(x.1,zv x.2):=by
 rcases pj B f t 0 0 with ⟨q,x,e,_⟩|⟨e,_⟩
 ·rw[e] at h;cases h;exact⟨(q,x.2.2),rfl⟩
 ·rw[e] at h;cases h
theorem xE{B:List fT}{f t:Int}{y:Nat × Int}(h:aA Tryz.prog 302 (.agg ⟨[zv f,zv t,F0]⟩) (gj 0 B) 0=some (some (y.1,zv y.2))):B[y.1]? =some (f,t,y.2):=by
 rcases pj B f t 0 0 with ⟨q,x,e,h1,h2,h3,_,h5⟩|⟨e,_⟩
 ·rw[e] at h
  simp only[Option.some.injEq,Prod.mk.injEq,Value.int.injEq,true_and] at h
  rw[Nat.sub_zero] at h5
  rw[←h.1,h5,←h.2,←h2,←h3]
 ·rw[e] at h;cases h
theorem Ab: ∀(l:List fT)(i:Nat)(x:fT),gj i (l++[x])=gj i l++[{key:=C5 x,val:=zv x.2.2,born:=i+l.length}]
 |[],i,x=>rfl
 |a::l,i,x=>by
  simp only[List.cons_append,gj,Ab l (i+1) x,List.length_cons]
  rw[show i+1+l.length=i+(l.length+1) by omega]
theorem xF: ∀(l:List fT)(i j:Nat)(x y:fT),l[i]? =some y->cX i (C5 x) (zv x.2.2) (gj j l)=gj j (l.set i x)
 |[],i,j,x,y,h=>by simp at h
 |a::l,0,j,x,y,h=>rfl
 |a::l,i+1,j,x,y,h=>by
  simp only[List.getElem?_cons_succ] at h
  simp only[gj,cX,List.set_cons_succ,xF l i (j+1) x y h]
theorem C6: ∀(l:List fT)(i j:Nat)(x:fT),l[i]? =some x->nth (gj j l) i=some {key:=C5 x,val:=zv x.2.2,born:=j+i}
 |[],i,j,x,h=>by simp at h
 |a::l,0,j,x,h=>by
  simp only[List.getElem?_cons_zero,Option.some.injEq] at h
  subst h;rfl
 |a::l,i+1,j,x,h=>by
  simp only[List.getElem?_cons_succ] at h
  simp only[gj,nth,C6 l i (j+1) x h]
  rw[show j+1+i=j+(i+1) by omega]
theorem C7: ∀(l:List fT)(j:Nat),(gj j l).length=l.length
 |[],_=>rfl
 |a::l,j=>by simp[gj,C7 l (j+1)]
theorem xG: ∀{l:List fT} {j:Nat} {e:MapEntry},e∈gj j l-> ∃i x,l[i]? =some x/\e={key:=C5 x,val:=zv x.2.2,born:=j+i}
 |[],_,_,h=>by simp[gj] at h
 |a::l,j,e,h=>by
  rcases List.mem_cons.1 h with rfl|h
  ·exact⟨0,a,rfl,rfl⟩
  ·obtain⟨i,x,h1,h2⟩:=xG h
   exact⟨i+1,x,h1,by rw[h2,show j+1+i=j+(i+1) by omega]⟩
theorem Ou{l:List fT}{j i:Nat}{x:fT}(h:l[i]? =some x):{key:=C5 x,val:=zv x.2.2,born:=j+i}∈gj j l:=by
 induction l generalizing j i with
 |nil=>simp at h
 |cons a l ih=>
  cases i with
  |zero=>simp at h;subst h;exact List.mem_cons_self ..
  |succ i=>
   simp only[List.getElem?_cons_succ] at h
   have:=ih (j:=j+1) h
   rw[show j+1+i=j+(i+1) by omega] at this
   exact List.mem_cons_of_mem _ this
theorem qI: ∀{l:List fT} {j i:Nat} {x:fT},l[i]? =some x->eY (j+i) (gj j l)=some {key:=C5 x,val:=zv x.2.2,born:=j+i}
 |[],j,i,x,h=>by simp at h
 |a::l,j,0,x,h=>by
  simp only[List.getElem?_cons_zero,Option.some.injEq] at h
  subst h
  have:Nat.beq j (j+0)=true:=Nat.beq_refl _
  simp only[gj,eY,this];rfl
 |a::l,j,i+1,x,h=>by
  simp only[List.getElem?_cons_succ] at h
  have:Nat.beq j (j+(i+1))=false:=by
   cases e:Nat.beq j (j+(i+1)) with
   |false=>rfl
   |true=>have:=Nat.eq_of_beq_eq_true e;omega
  have ih:=qI (j:=j+1) h
  rw[show j+1+i=j+(i+1) by omega] at ih
  simp only[gj,eY,this,ih]
theorem rF{σ:Nat->Option Nat}: ∀{l:List fT} (j:Nat),gq σ (gj j l)=some (gj j l)
 |[],_=>rfl
 |x::l,j=>by
  have h1:aX σ (C5 x)=some (C5 x):=rfl
  have h2:aX σ (zv x.2.2)=some (zv x.2.2):=rfl
  simp only[gj,gq,h1,h2,rF (l:=l) (j+1)]
theorem jQ{σ:Nat->Option Nat}(l:List fT)(c:Nat):aG σ (aa.map (gj 0 l) c)=some (aa.map (gj 0 l) c):=by
 simp only[aG,rF 0]
theorem Ce{σ:Nat->Option Nat}(l:List fT)(i:Nat)(f t v:Int)(c:Nat):aG σ (aa.map (cX i (.agg ⟨[zv f,zv t,F0]⟩) (zv v) (gj 0 l)) c)=some (aa.map (cX i (.agg ⟨[zv f,zv t,F0]⟩) (zv v) (gj 0 l)) c):=by
 have:=nP (σ:=σ) (k:= .agg ⟨[zv f,zv t,F0]⟩) (k':= .agg ⟨[zv f,zv t,F0]⟩) (v:=zv v) (v':=zv v) rfl rfl i (rF (l:=l) 0)
 simp only[aG,this]
theorem Cf{σ:Nat->Option Nat}(l:List fT)(f t v:Int)(b c:Nat):aG σ (aa.map (gj 0 l++[MapEntry.mk (.agg ⟨[zv f,zv t,F0]⟩) (zv v) b]) c)=some (aa.map (gj 0 l++[MapEntry.mk (.agg ⟨[zv f,zv t,F0]⟩) (zv v) b]) c):=by
 have h1:aX σ (.agg ⟨[zv f,zv t,F0]⟩)=some (.agg ⟨[zv f,zv t,F0]⟩):=rfl
 have h2:aX σ (zv v)=some (zv v):=rfl
 have:=sH (rF (σ:=σ) (l:=l) 0) (b:=[MapEntry.mk (.agg ⟨[zv f,zv t,F0]⟩) (zv v) b]) (b':=[MapEntry.mk (.agg ⟨[zv f,zv t,F0]⟩) (zv v) b]) (by simp only[gq,h1,h2])
 simp only[aG,this]
theorem CL{B:List fT}{i:Nat}{f t v:Int}(h:B[i]? =some (f,t,v)):wL (gj 0 B) i (.agg ⟨[zv f,zv t,F0]⟩):=by
 refine⟨_,C6 B i 0 _ h,?_⟩
 show(au (C5 (f,t,v)) && Instr.sameBits 10000 (C5 (f,t,v)) (.agg ⟨[zv f,zv t,F0]⟩))=true
 simp[au,bG,Instr.sameBits]
theorem C4{n:Nat}{l:List ae}{b:Bool}{j:Nat}{B:List fT}(h:Ix n l b j B){x:ae}(hx:l[j]? =some x)(hs:eT b x=true-> ∃y∈B,y.1=x.from_/\y.2.1=x.an/\y.2.2<=x.aH):Ix n l b (j+1) B:=by
 have htk:l.take (j+1)=l.take j++[x]:=by rw[List.take_add_one,hx];rfl
 refine⟨h.keys,fun y hy=>?_,fun p hp hu=>?_⟩
 ·obtain⟨p,q1,q2⟩:=h.sub y hy
  exact⟨p,by rw[htk];exact List.mem_append_left _ q1,q2⟩
 ·rw[htk] at hp
  rcases List.mem_append.1 hp with q|q
  ·exact h.all p q hu
  ·simp at q;subst q;exact hs hu
theorem Ot{n:Nat}{l:List ae}{b:Bool}{j:Nat}{B:List fT}(h:Ix n l b j B){x:ae}(hx:l[j]? =some x)(hu:eT b x=true)(hn: ∀y∈B,¬(y.1=x.from_/\y.2.1=x.an)):Ix n l b (j+1) (B++[(x.from_,x.an,x.aH)]):=by
 have htk:l.take (j+1)=l.take j++[x]:=by rw[List.take_add_one,hx];rfl
 refine⟨?_,fun y hy=>?_,fun p hp hu'=>?_⟩
 ·rw[List.map_append,List.nodup_append]
  refine⟨h.keys,by simp,fun a ha c hc=>?_⟩
  simp only[List.map_cons,List.map_nil,List.mem_singleton] at hc
  subst hc
  obtain⟨y,y1,y2⟩:=List.mem_map.1 ha
  intro e
  rw[←y2] at e
  simp only[Prod.mk.injEq] at e
  exact hn y y1 e
 ·rcases List.mem_append.1 hy with q|q
  ·obtain⟨p,q1,q2⟩:=h.sub y q
   exact⟨p,by rw[htk];exact List.mem_append_left _ q1,q2⟩
  ·simp at q;subst q
   exact⟨x,by rw[htk];simp,hu,rfl,rfl,rfl⟩
 ·rw[htk] at hp
  rcases List.mem_append.1 hp with q|q
  ·obtain⟨y,y1,y2⟩:=h.all p q hu'
   exact⟨y,List.mem_append_left _ y1,y2⟩
  ·simp at q;subst q
   exact⟨_,List.mem_append_right _ (List.mem_singleton.2 rfl),rfl,rfl,Int.le_refl _⟩
theorem KV{n:Nat}{l:List ae}{b:Bool}{j:Nat}{B:List fT}(h:Ix n l b j B){x:ae}(hx:l[j]? =some x)(hu:eT b x=true){i:Nat}{v:Int}(hi:B[i]? =some (x.from_,x.an,v))(hv:x.aH<v):Ix n l b (j+1) (B.set i (x.from_,x.an,x.aH)):=by
 have htk:l.take (j+1)=l.take j++[x]:=by rw[List.take_add_one,hx];rfl
 have hil:i<B.length:=(List.getElem?_eq_some_iff.1 hi).1
 have me:(x.from_,x.an,x.aH)∈B.set i (x.from_,x.an,x.aH):=List.mem_set hil _
 refine⟨?_,fun y hy=>?_,fun p hp hu'=>?_⟩
 ·have e:(B.set i (x.from_,x.an,x.aH)).map (fun x=>(x.1,x.2.1))=B.map fun x=>(x.1,x.2.1):=oZ (fun x:fT=>(x.1,x.2.1)) hi rfl
  exact e ▸ h.keys
 ·rcases List.mem_or_eq_of_mem_set hy with q|rfl
  ·obtain⟨p,q1,q2⟩:=h.sub y q
   exact⟨p,by rw[htk];exact List.mem_append_left _ q1,q2⟩
  ·exact⟨x,by rw[htk];simp,hu,rfl,rfl,rfl⟩
 ·rw[htk] at hp
  rcases List.mem_append.1 hp with q|q
  ·obtain⟨y,y1,y2,y3,y4⟩:=h.all p q hu'
   obtain⟨k,hk⟩:=List.mem_iff_getElem?.1 y1
   by_cases e:i=k
   ·subst e
    rw[hi] at hk
    cases hk
    exact⟨_,me,y2,y3,by simp only at y4 ⊢;omega⟩
   ·exact⟨y,List.mem_iff_getElem?.2 ⟨k,by rw[List.getElem?_set,if_neg e];exact hk⟩,y2,y3,y4⟩
  ·simp at q;subst q
   exact⟨_,me,rfl,rfl,Int.le_refl _⟩
theorem H7{n:Nat}(hn:n<=64){l:List ae}(hl:mG n l){b:Bool}{j:Nat}{B:List fT}(h:Ix n l b j B):B.length<=4096:=by
 have hr: ∀x∈B,0<=x.1/\x.1<64/\0<=x.2.1/\x.2.1<64:=fun x hx=>by
  obtain⟨p,q1,_,q2,q3,_⟩:=h.sub x hx
  obtain⟨k1,k2,k3,k4,_⟩:=hl.ok p (List.mem_of_mem_take q1)
  omega
 have:(B.map fun x=>x.1.toNat*64+x.2.1.toNat).Nodup:=by
  have hk:=h.keys
  rw[List.nodup_iff_pairwise_ne] at hk ⊢
  rw[List.pairwise_map] at hk ⊢
  refine hk.imp_of_mem fun {x y} hx hy hxy e=>hxy ?_
  obtain⟨a1,a2,a3,a4⟩:=hr x hx
  obtain⟨b1,b2,b3,b4⟩:=hr y hy
  rw[Prod.mk.injEq]
  omega
 have:=oW 4096 _ this fun v hv=>by
  obtain⟨x,hx,rfl⟩:=List.mem_map.1 hv
  have:=hr x hx
  omega
 simpa using this
structure PU(n:Nat)(l:List ae)(b:Bool)(E:List eh):Prop where
 ok:E1 n E
 sub: ∀e∈E,∃p∈l,eT b p=true/\p.from_=e.from_/\p.an=e.an/\p.aH=e.wt
 all: ∀p∈l,eT b p=true-> ∃e∈E,e.from_=p.from_/\e.an=p.an/\e.wt<=p.aH
abbrev qZ(x:fT):eh:=⟨x.1,x.2.1,x.2.2⟩
def qU(B:List fT)(E:List eh):Prop:=E.length=B.length/\ ∀e,e∈E↔ ∃x∈B,e=qZ x
theorem H8{n:Nat}(hn:n<=64){l:List ae}(hl:mG n l){b:Bool}{B:List fT}(h:Ix n l b l.length B){E:List eh}(hE:qU B E):PU n l b E:=by
 have htk:l.take l.length=l:=List.take_of_length_le (Nat.le_refl _)
 have h1:=h.sub
 have h2:=h.all
 rw[htk] at h1 h2
 have sub: ∀e∈E,∃p∈l,eT b p=true/\p.from_=e.from_/\p.an=e.an/\p.aH=e.wt:=fun e he=>by
  obtain⟨x,hx,rfl⟩:=(hE.2 e).1 he
  exact h1 x hx
 refine⟨⟨by rw[hE.1];exact H7 hn hl h,fun e he=>?_⟩,sub,fun p hp hu=>?_⟩
 ·obtain⟨p,q1,_,q2,q3,q4⟩:=sub e he
  obtain⟨k1,k2,k3,k4,_,k6,k7⟩:=hl.ok p q1
  omega
 ·obtain⟨x,x1,x2⟩:=h2 p hp hu
  exact⟨_,(hE.2 _).2 ⟨x,x1,rfl⟩,x2⟩
noncomputable def mz(b:Bool)(B:List fT)(x:ae):List fT:=if eT b x=true then (match aA Tryz.prog 302 (.agg ⟨[zv x.from_,zv x.an,F0]⟩) (gj 0 B) 0 with
 |some (some (i, .int .i64 u))=>if x.aH<u then B.set i (x.from_,x.an,x.aH) else B
 |_=>B++[(x.from_,x.an,x.aH)]) else B
noncomputable def kC(b:Bool)(l:List ae)(j:Nat):List fT:=(l.take j).foldl (mz b) []
theorem Ac{b:Bool}{l:List ae}{j:Nat}{x:ae}(hx:l[j]? =some x):kC b l (j+1)=mz b (kC b l j) x:=by
 unfold kC
 rw[List.take_add_one,hx,List.foldl_append];rfl
theorem qO{b:Bool}{B:List fT}{x:ae}(h:eT b x=false):mz b B x=B:=by
 unfold mz;rw[h];simp
theorem og{b:Bool}{B:List fT}{x:ae}(h:eT b x=true){i:Nat}{v:Int}(hf:aA Tryz.prog 302 (.agg ⟨[zv x.from_,zv x.an,F0]⟩) (gj 0 B) 0=some (some (i,zv v))):mz b B x=if x.aH<v then B.set i (x.from_,x.an,x.aH) else B:=by
 unfold mz;rw[if_pos h,hf]
theorem ud{b:Bool}{B:List fT}{x:ae}(h:eT b x=true)(hf:aA Tryz.prog 302 (.agg ⟨[zv x.from_,zv x.an,F0]⟩) (gj 0 B) 0=some none):mz b B x=B++[(x.from_,x.an,x.aH)]:=by
 unfold mz;rw[if_pos h,hf]
theorem wD(B:List fT)(f t v:Int):gj 0 B++[MapEntry.mk (.agg ⟨[zv f,zv t,F0]⟩) (zv v) B.length]=gj 0 (B++[(f,t,v)]):=by
 rw[Ab,Nat.zero_add]
section
variable{z:T aa}{zn:Nat}
theorem GB(hz:aq z zn)(n:Nat)(hn:n<=64)(l:List ae)(hl:mG n l)(hll:l.length<=10000)(cp:Nat)(hL:cu z 4 (l.map ae.row))(b:Bool):
 Ix n l b l.length (kC b l l.length)/\ai Tryz.prog (ah (ag Tryz.f219) 0) 1 81 (zd l.length cp n b 0) [(0, .map [] 0)] 1 z zn (Al.R (QP z zn l.length cp n b (kC b l l.length)).l):=by
 have inv: ∀j,j<=l.length->Ix n l b j (kC b l j):=by
  intro j
  induction j with
  |zero=>intro _;exact⟨by simp[kC],fun x hx=>(by simp[kC] at hx),fun p hp=>(by simp at hp)⟩
  |succ j ih=>
   intro hj
   obtain⟨x,hx⟩:=ey (by omega:j<l.length)
   have h:=ih (by omega)
   rw[Ac hx]
   cases hu:eT b x with
   |false=>rw[qO hu];exact C4 h hx fun q=>by rw[hu] at q;cases q
   |true=>
    rcases pj (kC b l j) x.from_ x.an 0 0 with ⟨p,y,q1,q2,q3,q4,_,q6⟩|⟨q1,q2⟩
    ·rw[og hu q1]
     rw[Nat.sub_zero] at q6
     split
     ·rename_i hlt
      exact KV h hx hu (i:=p) (v:=y.2.2) (by rw[q6,←q3,←q4]) hlt
     ·rename_i hlt
      exact C4 h hx fun _=>⟨y,q2,q3,q4,by omega⟩
    ·rw[ud hu q1];exact Ot h hx hu q2
 refine⟨inv _ (Nat.le_refl _),?_⟩
 refine ak hD (cT T.leaf) (α:=Nat) 1 81 1 (fun j=>j<=l.length) (fun j=>zd l.length cp n b j) (fun j=>[(0,Rz (kC b l j))]) (fun _=>z) (fun _=>zn) (fun j=>l.length - j) _ (fun j hI=>?_) 0 (Nat.zero_le _)
 by_cases hj:j<l.length
 ·obtain⟨x,hx⟩:=ey hj
  obtain⟨el,hel⟩:=hL.ax (i:=j) (by simp;omega)
  have hrow:aB Tryz.prog (br el (l.map ae.row).flatten) 141 (0+j*4)=some (.agg ⟨x.row⟩):=bJ (r:=x.row) (sz:=4) Tryz.underlying141 rfl rfl (aO (row:=ae.row) (sz:=4) l fun _=>rfl) (by rw[List.getElem?_map,hx];rfl)
  have hc:decide ((j:Int)<(l.length:Int))=true:=by simp;omega
  have nx: ∀B',B'=kC b l (j+1)-> ∀es c,es=gj 0 B'->c=B'.length->aj (fun j=>j<=l.length) (fun j=>zd l.length cp n b j) (fun j=>[(0,Rz (kC b l j))]) 1 (fun _=>z) (fun _=>zn) (fun j=>l.length - j) (Al.R (QP z zn l.length cp n b (kC b l l.length)).l) j .normal (zd l.length cp n b (j+1)) [(0, .map es c)] 1 z zn:=fun B' h es c h1 h2=>by
   subst h h1 h2
   exact⟨j+1,rfl,rfl,rfl,rfl,rfl,hj,by show l.length - (j+1)<l.length - j;omega⟩
  have hsucc:=Ac (b:=b) hx
  have skip:eT b x=false->kC b l j=kC b l (j+1):=fun h=>by rw[hsucc,qO h]
  have less:eT b x=true-> ∀y:Nat × Int,aA Tryz.prog 302 (.agg ⟨[zv x.from_,zv x.an,F0]⟩) (gj 0 (kC b l j)) 0=some (some (y.1,zv y.2))->decide (x.aH<y.2)=true->(kC b l j).set y.1 (x.from_,x.an,x.aH)=kC b l (j+1):=fun h y hy hlt=>by rw[hsucc,og h hy,if_pos (by simpa using hlt)]
  have more:eT b x=true-> ∀y:Nat × Int,aA Tryz.prog 302 (.agg ⟨[zv x.from_,zv x.an,F0]⟩) (gj 0 (kC b l j)) 0=some (some (y.1,zv y.2))->decide (x.aH<y.2)=false->kC b l j=kC b l (j+1):=fun h y hy hlt=>by rw[hsucc,og h hy,if_neg (by simpa using hlt)]
  have new:eT b x=true->aA Tryz.prog 302 (.agg ⟨[zv x.from_,zv x.an,F0]⟩) (gj 0 (kC b l j)) 0=some none->kC b l j++[(x.from_,x.an,x.aH)]=kC b l (j+1):=fun h hy=>by rw[hsucc,ud h hy]
  have u1:b=true->x.sf=true->eT b x=true:=fun h1 h2=>by simp[eT,h2]
  have u2:b=false->eT b x=true:=fun h1=>by simp[eT,h1]
  have u3:b=true->x.sf=false->eT b x=false:=fun h1 h2=>by simp[eT,h1,h2]
  refine t100 (WH z zn l.length cp n j (kC b l j).length b (br el (l.map ae.row).flatten) x (gj 0 (kC b l j)) (aj _ _ _ _ _ _ _ _ _) ⟨fun _=>?_,fun h=>(by rw[hc] at h;cases h)⟩)
  (repeat' first|(with_reducible first|exact rfl|exact True.intro|assumption|apply And.intro|exact hz|exact hj|exact hel|exact hrow|exact LR _ _ _|exact LU _ _ _|exact CL (xE (by with_reducible assumption))|exact jQ _ _|exact Ce _ _ _ _ _ _|exact Cf _ _ _ _ _ _|exact aT _ _ _ _|exact aK (by omega))|exact(rfl:Int.ofNat _=_)|exact(rfl:gH _ _=_)|exact hz|exact hj|exact hel|exact hrow|exact LR _ _ _|exact LU _ _ _|exact CL (xE (by with_reducible assumption))|exact jQ _ _|exact Ce _ _ _ _ _ _|exact Cf _ _ _ _ _ _|exact aT _ _ _ _|exact aK (by omega)|intro hq)
  all_goals first
   |(rename_i h1 h2 y hy
     exact nx _ (less (u1 h1 h2) y hy hq) _ _ (xF _ y.1 0 (x.from_,x.an,x.aH) _ (xE hy)) (List.length_set ..).symm)
   |(rename_i h1 h2 y hy
     exact nx _ (more (u1 h1 h2) y hy hq) _ _ rfl rfl)
   |(rename_i h1 y hy
     exact nx _ (less (u2 h1) y hy hq) _ _ (xF _ y.1 0 (x.from_,x.an,x.aH) _ (xE hy)) (List.length_set ..).symm)
   |(rename_i h1 y hy
     exact nx _ (more (u2 h1) y hy hq) _ _ rfl rfl)
   |(rename_i h1 h2
     exact nx _ (new (u1 h1 h2) hq) _ _ (wD _ _ _ _) (by simp))
   |(rename_i h1
     exact nx _ (new (u2 h1) hq) _ _ (wD _ _ _ _) (by simp))
   |(rename_i h1
     exact nx _ (skip (u3 h1 hq)) _ _ rfl rfl)
 ·have hc:decide ((j:Int)<(l.length:Int))=false:=by simp;omega
  refine t100 (WH z zn l.length cp n j (kC b l j).length b ⟨[],0,0,0,true,true,0,true⟩ ⟨0,0,0,true⟩ (gj 0 (kC b l j)) (aj _ _ _ _ _ _ _ _ _) ⟨fun h=>(by rw[hc] at h;cases h),fun _=>?_⟩)
  (repeat' first|(with_reducible first|exact rfl|exact True.intro|assumption|apply And.intro|exact hz|exact jQ _ _)|exact(rfl:Int.ofNat _=_)|exact(rfl:gH _ _=_)|exact hz|exact jQ _ _|intro hq)
  have:j=l.length:=by omega
  subst this
  exact bE trivial
theorem Ra(E F:List eh):bF E++bF F=bF (E++F):=by
 show _=((E++F).map eh.row).flatten
 rw[List.map_append,List.flatten_append]
theorem vy: ∀{l:List Nat},l.Nodup-> ∀{l':List Nat},(∀i∈l,i∈l')->l.length<=l'.length
 |[],_,_,_=>Nat.zero_le _
 |a::l,hn,l',h=>by
  have hn':=List.nodup_cons.1 hn
  have:=vy hn'.2 (l':=l'.erase a) fun i hi=>by
   have hne:i≠a:=fun e=>hn'.1 (e ▸ hi)
   exact(List.mem_erase_of_ne hne).2 (h i (List.mem_cons_of_mem _ hi))
  rw[List.length_erase_of_mem (h a (List.mem_cons_self ..))] at this
  have hp:0<l'.length:=List.length_pos_of_mem (h a (List.mem_cons_self ..))
  simp only[List.length_cons]
  omega
structure PR(B:List fT)(E:List eh)(seen:List Nat):Prop where
 nd:seen.Nodup
 lt: ∀i∈seen,i<B.length
 len:E.length=seen.length
 mem: ∀e,e∈E↔ ∃i∈seen,∃x,B[i]? =some x/\e=qZ x
theorem zB{B:List fT}{E:List eh}{seen:List Nat}(h:PR B E seen){i:Nat}{x:fT}(hi:B[i]? =some x)(hn:i ∉ seen):PR B (E++[qZ x]) (i::seen):=by
 refine⟨List.nodup_cons.2 ⟨hn,h.nd⟩,fun j hj=>?_,by simp[h.len],fun e=>?_⟩
 ·rcases List.mem_cons.1 hj with rfl|hj
  ·exact(List.getElem?_eq_some_iff.1 hi).1
  ·exact h.lt j hj
 ·rw[List.mem_append,h.mem]
  constructor
  ·rintro (⟨j,j1,j2⟩|he)
   ·exact⟨j,List.mem_cons_of_mem _ j1,j2⟩
   ·simp at he;exact⟨i,List.mem_cons_self ..,x,hi,he⟩
  ·rintro⟨j,j1,y,j2,j3⟩
   rcases List.mem_cons.1 j1 with rfl|j1
   ·rw[hi] at j2;cases j2;right;simp[j3]
   ·exact .inl ⟨j,j1,y,j2,j3⟩
theorem Bp{B:List fT}{E:List eh}{seen:List Nat}(h:PR B E seen):seen.length<=B.length:=oW _ _ h.nd h.lt
theorem Kg{B:List fT}{E:List eh}{seen:List Nat}(h:PR B E seen)(ha: ∀i,i<B.length->i∈seen):qU B E:=by
 have h1:=Bp h
 have h2:B.length<=seen.length:=by
  have:=vy (List.nodup_range (n:=B.length)) (l':=seen) fun i hi=>ha i (List.mem_range.1 hi)
  simpa using this
 refine⟨by rw[h.len];omega,fun e=>(h.mem e).trans ⟨fun⟨i,i1,x,i2,i3⟩=>⟨x,List.mem_of_getElem? i2,i3⟩,fun⟨x,x1,x2⟩=>?_⟩⟩
 obtain⟨i,hi⟩:=List.mem_iff_getElem?.1 x1
 exact⟨i,ha i (List.getElem?_eq_some_iff.1 hi).1,x,hi,x2⟩
theorem zt(hz:aq z zn)(n:Nat)(B:List fT)(hB:B.length<=4096):
 ai Tryz.prog (ah (ag Tryz.f219) 1) 3 81 (uP n 0 B.length) (uI B.length B.length (gj 0 B) (rep B.length [I 0,I 0,I 0]) []) 3 z zn (Al.R (QN z zn n B.length B.length (gj 0 B) (rep B.length [I 0,I 0,I 0]) (qU B)).l):=by
 refine ak hD (cT T.leaf) (α:=List eh × List Nat) 3 81 3 (fun t=>PR B t.1 t.2) (fun t=>uP n t.2.length B.length) (fun t=>uI B.length B.length (gj 0 B) (bF t.1++rep (B.length - t.2.length) [I 0,I 0,I 0]) t.2) (fun _=>z) (fun _=>zn) (fun t=>B.length - t.2.length) _ (fun t hI=>?_) ([],[]) ⟨by simp,by simp,rfl,by simp⟩
 obtain⟨E,seen⟩:=t
 simp only at hI ⊢
 have hle:=Bp hI
 have cells: ∀E' m,bF E'++rep m [I 0,I 0,I 0]=bF (E'++List.replicate m (⟨0,0,0⟩:eh)):=fun E' m=>by
  rw[←Ra,lR]
  congr 1
  show _=((List.replicate m (⟨0,0,0⟩:eh)).map eh.row).flatten
  rw[List.map_replicate];rfl
 have p0: ∀x∈gj 0 B,x.born<B.length:=fun e he=>by
  obtain⟨i,x,h1,h2⟩:=xG he
  rw[h2];have:=(List.getElem?_eq_some_iff.1 h1).1;simp only;omega
 have p1: ∀e,e∈gj 0 B->kh e.born seen=false-> ∃x:Nat × fT,(B[x.1]? =some x.2/\x.1 ∉ seen)/\e=Sg x:=fun e he hs=>by
  obtain⟨i,x,h1,h2⟩:=xG he
  rw[h2] at hs
  simp only[Nat.zero_add] at hs
  refine⟨(i,x),⟨h1,fun hm=>?_⟩,by rw[h2,Nat.zero_add]⟩
  rw[iW.2 hm] at hs;cases hs
 have lt: ∀x:Nat × fT,(B[x.1]? =some x.2/\x.1 ∉ seen)->seen.length+1<=B.length:=fun x hx=>by
  have:=Bp (zB hI hx.1 hx.2)
  simpa using this
 have bn: ∀x:Nat × fT,(B[x.1]? =some x.2/\x.1 ∉ seen)->eY x.1 (gj 0 B)=some (Sg x):=fun x hx=>by
  have:=qI (j:=0) hx.1
  rw[Nat.zero_add] at this
  exact this
 have ov: ∀x:Nat × fT,(B[x.1]? =some x.2/\x.1 ∉ seen)->overwrite (bF E++rep (B.length - seen.length) [I 0,I 0,I 0]) (0+seen.length*3) (qZ x.2).row=some (bF (E++[qZ x.2])++rep (B.length - (seen.length+1)) [I 0,I 0,I 0]):=fun x hx=>by
  have hlt:=lt x hx
  rw[cells,cells]
  have:=sP (oK (E++List.replicate (B.length - seen.length) (⟨0,0,0⟩:eh))) (i:=seen.length) (by simp[hI.len];omega) (r':=(qZ x.2).row) rfl
  rw[kT] at this
  refine this.trans ?_
  have:(E++List.replicate (B.length - seen.length) (⟨0,0,0⟩:eh)).set seen.length (qZ x.2)=E++[qZ x.2]++List.replicate (B.length - (seen.length+1)) (⟨0,0,0⟩:eh):=by
   rw[List.set_append_right _ _ (by rw[hI.len];exact Nat.le_refl _),hI.len,Nat.sub_self]
   obtain⟨m,hm⟩: ∃m,B.length - seen.length=m+1:=⟨B.length - seen.length - 1,by omega⟩
   rw[hm,show B.length - (seen.length+1)=m by omega,List.replicate_succ,List.set_cons_zero,List.append_assoc];rfl
  rw[this]
 have le3: ∀x:Nat × fT,(B[x.1]? =some x.2/\x.1 ∉ seen)->(bF (E++[qZ x.2])++rep (B.length - (seen.length+1)) [I 0,I 0,I 0]).length<=B.length*3:=fun x hx=>by
  have hlt:=lt x hx
  rw[cells,vh];simp[hI.len];omega
 have rn: ∀(σ:Nat->Option Nat) E' m c,aG σ (aa.ax (bg.mk (bF E'++rep m [I 0,I 0,I 0]) c 3 329 true true 0 true))=some (aa.ax (bg.mk (bF E'++rep m [I 0,I 0,I 0]) c 3 329 true true 0 true)):=fun σ E' m c=>by
  rw[cells];exact cF (gb _)
 have mit: ∀s,aG (az [(0,0),(1,1),(2,2)] []) (aa.dw (some 0) B.length s B.length)=some (aa.dw (some 0) B.length s B.length):=fun s=>rfl
 have nx: ∀x:Nat × fT,(B[x.1]? =some x.2/\x.1 ∉ seen)->aj (fun t:List eh × List Nat=>PR B t.1 t.2) (fun t=>uP n t.2.length B.length) (fun t=>uI B.length B.length (gj 0 B) (bF t.1++rep (B.length - t.2.length) [I 0,I 0,I 0]) t.2) 3 (fun _=>z) (fun _=>zn) (fun t=>B.length - t.2.length) (Al.R (QN z zn n B.length B.length (gj 0 B) (rep B.length [I 0,I 0,I 0]) (qU B)).l) (E,seen) .normal (uP n (seen.length+1) B.length) (uI B.length B.length (gj 0 B) (bF (E++[qZ x.2])++rep (B.length - (seen.length+1)) [I 0,I 0,I 0]) (x.1::seen)) 3 z zn:=fun x hx=>
  ⟨(E++[qZ x.2],x.1::seen),rfl,rfl,rfl,rfl,rfl,zB hI hx.1 hx.2,by have:=lt x hx;show B.length - (seen.length+1)<B.length - seen.length;omega⟩
 refine t100 (ZM z zn n seen.length B.length B.length (gj 0 B) (bF E++rep (B.length - seen.length) [I 0,I 0,I 0]) (fun x=>bF (E++[qZ x.2])++rep (B.length - (seen.length+1)) [I 0,I 0,I 0]) seen (fun x=>B[x.1]? =some x.2/\x.1 ∉ seen) (aj _ _ _ _ _ _ _ _ _) ?_)
 (repeat' first|(with_reducible first|exact rfl|exact True.intro|assumption|apply And.intro|exact hz|exact p0|exact p1|exact bn _ (by with_reducible assumption)|exact lt _ (by with_reducible assumption)|exact ov _ (by with_reducible assumption)|exact le3 _ (by with_reducible assumption)|exact rn _ _ _ _|exact mit _|exact jQ _ _|exact nx _ (by with_reducible assumption)|exact Nat.le_refl _)|exact(rfl:Int.ofNat _=_)|exact(rfl:gH _ _=_)|exact hz|exact p0|exact p1|exact bn _ (by with_reducible assumption)|exact lt _ (by with_reducible assumption)|exact ov _ (by with_reducible assumption)|exact le3 _ (by with_reducible assumption)|exact rn _ _ _ _|exact mit _|exact jQ _ _|exact nx _ (by with_reducible assumption)|exact Nat.le_refl _|intro hq)
 have hall: ∀i,i<B.length->i∈seen:=fun i hi=>by
  obtain⟨x,hx⟩:=ey hi
  have:=hq _ (Ou (j:=0) hx)
  simp only[Nat.zero_add] at this
  exact iW.1 this
 have hE:=Kg hI hall
 have hsl:seen.length=B.length:=by rw[←hI.len];exact hE.1
 rw[hsl,Nat.sub_self,show rep 0 [I 0,I 0,I 0]=[] from rfl,List.append_nil]
 exact BT (k:=fun _=>eA) E hE rfl
theorem BH{P:Program}{f:Nat}{args:List Value}{aQ:bY}{nx eS:Nat}{α:Type}{φ ψ:α->Prop}{v:α->Value}{zo:α->bY}{zz:α->T aa}{zn':α->Nat}(h:bI P z zn f args aQ nx eS φ v zo zz zn')(hi: ∀x,φ x->ψ x)(hb: ∀x,ψ x->uB zn (zo x) (zz x) (zn' x)):bI P z zn f args aQ nx eS ψ v zo zz zn':=
 ⟨h.1,h.2.1,h.2.2.1,hb,fun ρ w args' n h1 h2 h3 h4=>(h.2.2.2.2 ρ w args' n h1 h2 h3 h4).mono fun e w' ⟨x,hx,hg⟩=>⟨x,hi x hx,hg⟩⟩
def dE(z:T aa)(zn n:Nat)(l:List ae)(b:Bool)(s:dP):Prop:= ∃E,PU n l b E/\wO z zn n (EE E) s
theorem H3(hz:aq z zn)(n:Nat)(hn:n<=64)(l:List ae)(b:Bool)(E:List eh)(m:Nat)(hm:m=E.length)(hE:PU n l b E):
 bI Tryz.prog z zn 253 [iv n,aZ 0 m m] [(0,nj (bF E) m)] 1 2 (dE z zn n l b) (fun _=> .tuple ⟨[aZ 1 n n,I 0]⟩) (fun s=>[(1,sr s.cs n)]) (fun s=>s.z) (fun s=>s.zn):=by
 subst hm
 refine BH (Rx hz n hn E hE.ok) (fun s hs=>⟨E,hE,hs⟩) fun s ⟨E,_,hs⟩=>⟨rH rfl,hs.le,hs.bN⟩
theorem HT(hz:aq z zn)(n:Nat)(hn:n<=64)(l:List ae)(hl:mG n l)(hll:l.length<=10000)(cp:Nat)(hL:cu z 4 (l.map ae.row))(b:Bool):
 bI Tryz.prog z zn 219 [tb 4 l.length cp,iv n, .bool b] [] 0 1 (dE z zn n l b) (fun _=>aZ 0 n n) (fun s=>[(0,sr s.cs n)]) (fun s=>s.z) (fun s=>s.zn):=by
 obtain⟨hB,h0⟩:=GB hz n hn l hl hll cp hL b
 have hBl:=H7 hn hl hB
 have h1:=zt hz n (kC b l l.length) hBl
 have hall: ∀E,qU (kC b l l.length) E->bI Tryz.prog z zn 253 [iv n,aZ 0 (kC b l l.length).length (kC b l l.length).length] [(0,nj (bF E) (kC b l l.length).length)] 1 2 (dE z zn n l b) (fun _=> .tuple ⟨[aZ 1 n n,I 0]⟩) (fun s=>[(1,sr s.cs n)]) (fun s=>s.z) (fun s=>s.zn):=
  fun E hE=>H3 hz n hn l b E _ hE.1.symm (H8 hn hl hB hE)
 have hlen:((gj 0 (kC b l l.length)).length:Int)=((kC b l l.length).length:Int):=by rw[C7]
 have E2: ∀σ s,dE z zn n l b s-> ∀c,aG (az σ []) (aa.ax (bg.mk s.cs c 1 90 true true 0 true))=some (aa.ax (bg.mk s.cs c 1 90 true true 0 true)):=fun σ s ⟨E,_,h⟩ c=>by
  obtain⟨b,_,_,h,_⟩:=h.row
  rw[h];exact kO _ _ _ _ _
 have rcs': ∀σ s,dE z zn n l b s-> ∀c,aG (sig σ) (aa.ax (bg.mk s.cs c 1 90 true true 0 true))=some (aa.ax (bg.mk s.cs c 1 90 true true 0 true)):=E2
 have bN: ∀s,dE z zn n l b s->aq s.2 s.zn:=fun s ⟨E,_,h⟩=>h.bN
 have r0: ∀σ m c,aG σ (aa.ax (bg.mk (rep m [I 0,I 0,I 0]) c 3 329 true true 0 true))=some (aa.ax (bg.mk (rep m [I 0,I 0,I 0]) c 3 329 true true 0 true)):=fun σ m c=>cF (by
  have e:rep m [I 0,I 0,I 0]=bF (List.replicate m (⟨0,0,0⟩:eh)):=by
   rw[lR]
   show _=((List.replicate m (⟨0,0,0⟩:eh)).map eh.row).flatten
   rw[List.map_replicate];rfl
  rw[e];exact gb _)
 refine fN (cT T.leaf) (fn:=Tryz.f219) (by kernel_rfl) (by kernel_rfl) hz ⟨by decide,by decide⟩ (fun s ⟨E,_,hs⟩=>⟨rfl,hs.le,hs.bN⟩) (N:=100) ?_
 refine ds z zn n l.length cp b (kC b l l.length) (rep (kC b l l.length).length [I 0,I 0,I 0]) (qU (kC b l l.length)) (dE z zn n l b) _ ?_
 (repeat' first|(with_reducible first|exact rfl|exact True.intro|assumption|apply And.intro|exact hz|exact h0|exact h1|exact hlen|exact hall _ (by with_reducible assumption)|exact bN _ (by with_reducible assumption)|exact E2 _ _ (by with_reducible assumption) _|exact rcs' _ _ (by with_reducible assumption) _|exact r0 _ _ _|exact jQ _ _|exact dI _ _|exact Nat.zero_le _|exact(by omega:(kC b l l.length).length<=1048576))|exact(rfl:Int.ofNat _=_)|exact(rfl:gH _ _=_)|exact hz|exact h0|exact h1|exact hlen|exact hall _ (by with_reducible assumption)|exact bN _ (by with_reducible assumption)|exact E2 _ _ (by with_reducible assumption) _|exact rcs' _ _ (by with_reducible assumption) _|exact r0 _ _ _|exact jQ _ _|exact dI _ _|exact Nat.zero_le _|exact(by omega:(kC b l l.length).length<=1048576)|intro hq)
 all_goals exact q2 _ hq rfl rfl rfl rfl rfl
theorem KW(n:Nat)(b:Bool):Ix n [] b 0 []:=⟨by simp,fun x hx=>by simp at hx,fun p hp=>by simp at hp⟩
theorem D1(hz:aq z zn)(n:Nat)(b:Bool):
 ai Tryz.prog (ah (ag Tryz.f219) 0) 1 81 (vN n b) [(0, .map [] 0)] 1 z zn (Al.R (QO z zn n b).l):=by
 refine ak hD (cT T.leaf) (α:=Unit) 1 81 1 (fun _=>True) (fun _=>vN n b) (fun _=>[(0, .map [] 0)]) (fun _=>z) (fun _=>zn) (fun _=>0) _ (fun _ _=>?_) () trivial
 refine t100 (Vl z zn n b (aj _ _ _ _ _ _ _ _ _) ?_)
 (repeat' first|(with_reducible first|exact rfl|exact True.intro|assumption|apply And.intro|exact hz)|exact(rfl:Int.ofNat _=_)|exact(rfl:gH _ _=_)|exact hz|intro hq)
 exact bE trivial
theorem C1(hz:aq z zn)(n:Nat)(hn:n<=64)(b:Bool):
 bI Tryz.prog z zn 219 [ay,iv n, .bool b] [] 0 1 (dE z zn n [] b) (fun _=>aZ 0 n n) (fun s=>[(0,sr s.cs n)]) (fun s=>s.z) (fun s=>s.zn):=by
 have hl:mG n []:=⟨fun p hp=>by simp at hp⟩
 have h0:=D1 hz n b
 have h1:=zt hz n [] (by simp)
 have hall: ∀E,qU [] E->bI Tryz.prog z zn 253 [iv n,aZ 0 0 0] [(0, .ax (bg.mk (bF E) 0 3 329 true true 0 true))] 1 2 (dE z zn n [] b) (fun _=> .tuple ⟨[aZ 1 n n,I 0]⟩) (fun s=>[(1,sr s.cs n)]) (fun s=>s.z) (fun s=>s.zn):=
  fun E hE=>H3 hz n hn [] b E 0 hE.1.symm (H8 hn hl (KW n b) hE)
 have E2: ∀σ s,dE z zn n [] b s-> ∀c,aG (az σ []) (aa.ax (bg.mk s.cs c 1 90 true true 0 true))=some (aa.ax (bg.mk s.cs c 1 90 true true 0 true)):=fun σ s ⟨E,_,h⟩ c=>by
  obtain⟨b,_,_,h,_⟩:=h.row
  rw[h];exact kO _ _ _ _ _
 have rcs': ∀σ s,dE z zn n [] b s-> ∀c,aG (sig σ) (aa.ax (bg.mk s.cs c 1 90 true true 0 true))=some (aa.ax (bg.mk s.cs c 1 90 true true 0 true)):=E2
 have bN: ∀s,dE z zn n [] b s->aq s.2 s.zn:=fun s ⟨E,_,h⟩=>h.bN
 refine fN (cT T.leaf) (fn:=Tryz.f219) (by kernel_rfl) (by kernel_rfl) hz ⟨by decide,by decide⟩ (fun s ⟨E,_,hs⟩=>⟨rfl,hs.le,hs.bN⟩) (N:=100) ?_
 refine ZL z zn n b (qU []) (dE z zn n [] b) _ ?_
 (repeat' first|(with_reducible first|exact rfl|exact True.intro|assumption|apply And.intro|exact hz|exact h0|exact h1|exact hall _ (by with_reducible assumption)|exact bN _ (by with_reducible assumption)|exact E2 _ _ (by with_reducible assumption) _|exact rcs' _ _ (by with_reducible assumption) _|exact jQ _ _|exact dI _ _|exact Nat.zero_le _)|exact(rfl:Int.ofNat _=_)|exact(rfl:gH _ _=_)|exact hz|exact h0|exact h1|exact hall _ (by with_reducible assumption)|exact bN _ (by with_reducible assumption)|exact E2 _ _ (by with_reducible assumption) _|exact rcs' _ _ (by with_reducible assumption) _|exact jQ _ _|exact dI _ _|exact Nat.zero_le _|intro hq)
 all_goals exact q2 _ hq rfl rfl rfl rfl rfl
end
structure jX(z0:T aa)(n0:Nat)(L:List ae)(s:eF):Prop where
 bN:aq s.z s.zn
 le:n0<=s.zn
 ie: ∀k,k<n0->s.z.get k=z0.get k
 val:(L=[]/\s.oa=none/\s.k=0)\/(L≠[]/\ ∃kk,n0<=kk/\kk<s.zn/\s.oa=some ⟨256*kk+510,0,none⟩/\s.k=L.length/\s.z.get kk=some (NQ (L.map ae.row).flatten L.length))
def iz(L:List ae)(a b d:Int)(f:Bool):List ae:=if 0<d/\d<=14400 then L++[⟨a,b,d,f⟩] else L
theorem gu(L:List ae):bG (L.map ae.row).flatten=true:=kR (row:=ae.row) (fun _=>rfl) L
theorem sO(L:List ae):(L.map ae.row).flatten.length=L.length*4:=by
 have:=ko (sz:=4) (rows:=L.map ae.row) (aO (row:=ae.row) (sz:=4) L fun _=>rfl)
 simpa using this
theorem jG(L:List ae)(x:ae):(L.map ae.row).flatten++x.row=((L++[x]).map ae.row).flatten:=by
 rw[List.map_append,List.flatten_append];simp
theorem rN(L:List ae)(a b d:Int)(f:Bool):(iz L a b d f).length<=L.length+1:=by
 unfold iz;split<;>simp
theorem rD{σ:bA}{k c n m:Nat}{o:aa}:aG (az σ [(k,c,o)]) (oB (tb k n m))=some (oB (aZ c n m)):=by
 have:=oO (σ:=σ) (k:=k) (c:=c) (n:=n) (m:=m) (o:=o)
 simp only[aG,bz,this]
 rfl
theorem p8{σ:Nat->Option Nat}(L:List ae)(x:ae)(c:Nat):aG σ (.ax (bg.mk ((L.map ae.row).flatten++x.row) c 4 141 false false 0 true))=some (.ax (bg.mk ((L.map ae.row).flatten++x.row) c 4 141 false false 0 true)):=cF (by
 rw[jG];exact gu _)
section
variable{z:T aa}{zn:Nat}
theorem LO(z0:T aa)(n0:Nat)(L:List ae)(hL:L.length<100000)(s:eF)(hs:jX z0 n0 L s)(a b d:Int)(f:Bool):
 bI Tryz.prog s.z s.zn 220 [zv a,zv b,zv d, .bool f,ip 0] [(0,oB s.v)] 1 1 (fun s'=>jX z0 n0 (iz L a b d f) s'/\s.zn<=s'.zn) (fun _=> .tuple ⟨[]⟩) (fun s=>[(0,oB s.v)]) (fun s=>s.z) (fun s=>s.zn):=by
 obtain⟨oa,r,z,zn⟩:=s
 have hz:aq z zn:=hs.bN
 have hold:=hs.ie
 have hle:=hs.le
 simp only at hold hle
 have hin: ∀d,(decide (d>0)=true->decide (d<=14400)=true->0<d/\d<=(14400:Int)):=fun d h1 h2=>by simp at h1 h2;omega
 have no1:decide (d>0)=false->iz L a b d f=L:=fun h=>by
  unfold iz;rw[if_neg];simp at h;omega
 have no2:decide (d<=14400)=false->iz L a b d f=L:=fun h=>by
  unfold iz;rw[if_neg];simp at h;omega
 have yes:decide (d>0)=true->decide (d<=14400)=true->iz L a b d f=L++[⟨a,b,d,f⟩]:=fun h1 h2=>by
  unfold iz;rw[if_pos (hin d h1 h2)]
 refine fN (cT T.leaf) (fn:=Tryz.f220) (by kernel_rfl) (by kernel_rfl) hz ⟨by decide,by decide⟩ (fun s' hs'=>⟨rfl,hs'.2,hs'.1.bN⟩) (N:=100) ?_
 rcases hs.val with ⟨h1,h2,h3⟩|⟨h1,kk,k1,k2,h2,h3,h4⟩<;>simp only at h2 h3
 ·subst h2 h3 h1
  refine ZQ z zn 0 a b d f _ ?_
  (repeat' first|(with_reducible first|exact rfl|exact True.intro|assumption|apply And.intro|exact hz|exact rD|exact Nat.le_succ _|exact Nat.le_refl _|exact Nat.lt_succ_self _)|exact(rfl:Int.ofNat _=_)|exact(rfl:gH _ _=_)|exact hz|exact rD|exact Nat.le_succ _|exact Nat.le_refl _|exact Nat.lt_succ_self _|intro hq)
  ·refine q2 (⟨some ⟨256*zn+510,0,none⟩,1,z.set zn (NQ (([⟨a,b,d,f⟩]:List ae).map ae.row).flatten 1),zn+1⟩:eF) ⟨?_,Nat.le_succ _⟩ rfl rfl rfl rfl rfl
   rename_i h1
   rw[yes h1 hq]
   exact⟨iX hz (gu _),by show n0<=zn+1;omega,fun k hk=>by
    show(z.set zn _).get k=_
    rw[T.aL,if_neg (by omega)];exact hold k hk, .inr ⟨by simp,zn,hle,Nat.lt_succ_self _,rfl,rfl,by
    show(z.set zn _).get zn=_
    rw[T.aL,if_pos rfl];rfl⟩⟩
  ·refine q2 (⟨none,0,z,zn⟩:eF) ⟨?_,Nat.le_refl _⟩ rfl rfl rfl rfl rfl
   rw[no2 hq];exact hs
  ·refine q2 (⟨none,0,z,zn⟩:eF) ⟨?_,Nat.le_refl _⟩ rfl rfl rfl rfl rfl
   rw[no1 hq];exact hs
 ·simp only at h4
  subst h2 h3
  refine ZP z zn kk L.length ⟨(L.map ae.row).flatten,L.length*4,4,141,false,false,0,true⟩ a b d f _ ?_
  (repeat' first|(with_reducible first|exact rfl|exact True.intro|assumption|apply And.intro|exact hz|exact h4|exact sO L|exact Nat.le_succ _|exact Nat.le_refl _|exact Nat.lt_succ_self _|exact pf hz _|exact rD|exact p8 L ⟨a,b,d,f⟩ _|exact(by show L.length+1<=1048576;omega))|exact(rfl:Int.ofNat _=_)|exact(rfl:gH _ _=_)|exact hz|exact h4|exact sO L|exact Nat.le_succ _|exact Nat.le_refl _|exact Nat.lt_succ_self _|exact pf hz _|exact rD|exact p8 L ⟨a,b,d,f⟩ _|exact(by show L.length+1<=1048576;omega)|intro hq)
  ·refine q2 (⟨some ⟨256*zn+510,0,none⟩,L.length+1,(z.del kk).set zn (NQ ((L.map ae.row).flatten++(⟨a,b,d,f⟩:ae).row) (L.length+1)),zn+1⟩:eF) ⟨?_,Nat.le_succ _⟩ rfl rfl rfl rfl rfl
   rename_i h1
   rw[yes h1 hq]
   refine⟨iX (pf hz _) (by show bG ((L.map ae.row).flatten++(⟨a,b,d,f⟩:ae).row)=true;rw[jG];exact gu _),by show n0<=zn+1;omega,fun k hk=>?_, .inr ⟨by simp,zn,hle,Nat.lt_succ_self _,rfl,by simp,?_⟩⟩
   ·show((z.del kk).set zn _).get k=_
    rw[T.aL,if_neg (by omega),T.fQ,if_neg (by omega)];exact hold k hk
   ·show((z.del kk).set zn _).get zn=_
    rw[T.aL,if_pos rfl,jG,List.length_append];rfl
  ·refine q2 (⟨some ⟨256*kk+510,0,none⟩,L.length,z,zn⟩:eF) ⟨?_,Nat.le_refl _⟩ rfl rfl rfl rfl rfl
   rw[no2 hq];exact hs
  ·refine q2 (⟨some ⟨256*kk+510,0,none⟩,L.length,z,zn⟩:eF) ⟨?_,Nat.le_refl _⟩ rfl rfl rfl rfl rfl
   rw[no1 hq];exact hs
end
def qT(z:T aa)(b n:Nat)(d:Nat->Nat->Int):Prop:= ∀i,i<n-> ∃l,z.get (b+i)=some (.ax (Bs l n))/\l.length=n/\ ∀j,j<n->(eP l j).len=d i j
theorem kM{z z':T aa}{b n m:Nat}{d:Nat->Nat->Int}(h:qT z b n d)(hb:b+n<=m)(hk: ∀k,k<m->z'.get k=z.get k):qT z' b n d:=fun i hi=>by
 obtain⟨l,h1,h2⟩:=h i hi
 exact⟨l,by rw[hk _ (by omega)];exact h1,h2⟩
theorem sx{z:T aa}{b n:Nat}{d:Nat->Nat->Int}(h:qT z b n d){i j:Nat}(hi:i<n)(hj:j<n): ∃k,z.get (b+i)=some (.ax k)/\aB Tryz.prog k 3 (0+j*1)=some (zv (d i j)):=by
 obtain⟨l,h1,h2,h3⟩:=h i hi
 refine⟨_,h1,iV (d:=_) Tryz.underlying3 rfl ?_⟩
 show(vX l)[j]? =_
 unfold vX
 rw[List.getElem?_map,lZ (by omega),←h3 j hj];rfl
theorem mV{z:T aa}{zn n:Nat}{E:bX}{s:dP}(h:wO z zn n E s): ∃b d,zn<=b/\b+n<=s.zn/\s.cs=gi b n n/\qT s.z b n d/\ ∀i j,i<n->j<n->lD E i j (d i j):=by
 obtain⟨b,h1,h2,h3,h4⟩:=h.row
 have: ∀i,∃l,i<n->s.z.get (b+i)=some (.ax (Bs l n))/\l.length=n/\ ∀j,j<n->lD E i j (eP l j).len:=fun i=>by
  by_cases hi:i<n
  ·obtain⟨l,hl⟩:=h4 i hi;exact⟨l,fun _=>hl⟩
  ·exact⟨[],fun h=>absurd h hi⟩
 obtain⟨f,hf⟩:=Classical.axiomOfChoice this
 exact⟨b,fun i j=>(eP (f i) j).len,h1,h2,h3,fun i hi=>⟨f i,(hf i hi).1,(hf i hi).2.1,fun j _=>rfl⟩,fun i j hi hj=>(hf i hi).2.2 j hj⟩
def hX(d f:Nat->Nat->Int)(a:Nat)(L:List ae)(b:Nat):List ae:=
 if a=b then L else if f a b=d a b then iz L a b (d a b) true else iz (iz L a b (d a b) false) a b (f a b) true
def cR(d f:Nat->Nat->Int)(a:Nat)(L:List ae)(m:Nat):List ae:=(List.range m).foldl (hX d f a) L
def eB(d f:Nat->Nat->Int)(n m:Nat):List ae:=(List.range m).foldl (fun L a=>cR d f a L n) []
theorem jJ(d f:Nat->Nat->Int)(a:Nat)(L:List ae)(m:Nat):cR d f a L (m+1)=hX d f a (cR d f a L m) m:=by
 unfold cR;rw[List.range_succ,List.foldl_append];rfl
theorem qM(d f:Nat->Nat->Int)(n m:Nat):eB d f n (m+1)=cR d f m (eB d f n m) n:=by
 unfold eB;rw[List.range_succ,List.foldl_append];rfl
theorem zV(d f:Nat->Nat->Int)(a:Nat)(L:List ae)(b:Nat):(hX d f a L b).length<=L.length+2:=by
 unfold hX
 split
 ·omega
 ·split
  ·have:=rN L a b (d a b) true;omega
  ·have h1:=rN L a b (d a b) false
   have h2:=rN (iz L a b (d a b) false) a b (f a b) true
   omega
theorem tP(d f:Nat->Nat->Int)(a:Nat)(L:List ae)(m:Nat):(cR d f a L m).length<=L.length+2*m:=by
 induction m with
 |zero=>exact Nat.le_refl _
 |succ m ih=>rw[jJ];have:=zV d f a (cR d f a L m) m;omega
theorem BD(d f:Nat->Nat->Int)(n m:Nat):(eB d f n m).length<=m*(2*n):=by
 induction m with
 |zero=>exact Nat.zero_le _
 |succ m ih=>
  rw[qM]
  have:=tP d f m (eB d f n m) n
  have e:(m+1)*(2*n)=m*(2*n)+2*n:=Nat.succ_mul ..
  omega
section
variable{z0:T aa}{n0:Nat}
theorem dV{σ:bA}{L:List ae}{s:eF}(h:jX z0 n0 L s):aG (az σ []) (oB s.v)=some (oB s.v):=by
 rcases h.val with ⟨_,e1,e2⟩|⟨_,kk,_,_,e1,e2,_⟩
 ·obtain⟨oa,k,z,zn⟩:=s
  simp only at e1 e2;subst e1 e2;rfl
 ·obtain⟨oa,k,z,zn⟩:=s
  simp only at e1 e2;subst e1 e2
  have:=aT σ kk L.length L.length
  show aG _ (oB (tb kk L.length L.length))=some (oB (tb kk L.length L.length))
  simp only[aG,bz,this]
theorem GD(n:Nat)(hn:n<=64)(b1 b2:Nat)(d f:Nat->Nat->Int)(h1:b1+n<=n0)(h2:b2+n<=n0)(hd:qT z0 b1 n d)(hf:qT z0 b2 n f)(a:Nat)(ha:a<n)(L:List ae)(hL:L.length<=10000)(s0:eF)(hs0:jX z0 n0 L s0):
 ai Tryz.prog (ah (ah (ag Tryz.f188) 0) 0) 3 66 (zh n a (b1+a) 0) (xX n (gi b1 n n) (gi b2 n n) s0.v) 3 s0.z s0.zn (Al.R (QT n a (b1+a) (gi b1 n n) (gi b2 n n) s0 (fun s=>jX z0 n0 (cR d f a L n) s/\s0.zn<=s.zn)).l):=by
 refine ak hD (cT T.leaf) (α:=Nat × eF) 3 66 3 (fun t=>t.1<=n/\jX z0 n0 (cR d f a L t.1) t.2/\s0.zn<=t.2.zn) (fun t=>zh n a (b1+a) t.1) (fun t=>xX n (gi b1 n n) (gi b2 n n) t.2.v) (fun t=>t.2.z) (fun t=>t.2.zn) (fun t=>n - t.1) _ (fun t hI=>?_) (0,s0) ⟨Nat.zero_le _,hs0,Nat.le_refl _⟩
 obtain⟨b,s⟩:=t
 obtain⟨hb,hs,hle⟩:=hI
 simp only at hb hs hle ⊢
 have hz:=hs.bN
 have rA: ∀b,aG (az [(0,0),(1,1),(2,2)] []) (aa.ax (bg.mk (gi b n n) (n*1) 1 90 true true 0 true))=some (aa.ax (bg.mk (gi b n n) (n*1) 1 90 true true 0 true)):=fun b=>kO _ _ _ _ _
 by_cases hlt:b<n
 ·have hc:decide ((b:Int)<(n:Int))=true:=by simp;omega
  have hrl:=tP d f a L b
  have hd':=kM hd h1 hs.ie
  have hf':=kM hf h2 hs.ie
  obtain⟨k1,g1,r1⟩:=sx hd' ha hlt
  obtain⟨k2,g2,r2⟩:=sx hf' ha hlt
  have rB:aB Tryz.prog (bg.mk (gi b2 n n) (n*1) 1 90 true true 0 true) 90 (0+a*1)=some (tb (b2+a) n n):=iV Tryz.underlying90 rfl (Hi ha)
  have add1: ∀fl,bI Tryz.prog s.z s.zn 220 [iv a,iv b,zv (d a b), .bool fl,ip 0] [(0,oB s.v)] 1 1 (fun s'=>jX z0 n0 (iz (cR d f a L b) a b (d a b) fl) s'/\s.zn<=s'.zn) (fun _=> .tuple ⟨[]⟩) (fun s=>[(0,oB s.v)]) (fun s=>s.z) (fun s=>s.zn):=fun fl=>LO z0 n0 _ (by omega) s hs _ _ _ _
  have add2: ∀fl x,(jX z0 n0 (iz (cR d f a L b) a b (d a b) fl) x/\s.zn<=x.zn)->bI Tryz.prog x.z x.zn 220 [iv a,iv b,zv (f a b),T1,ip 0] [(0,oB x.v)] 1 1 (fun s'=>jX z0 n0 (iz (iz (cR d f a L b) a b (d a b) fl) a b (f a b) true) s'/\x.zn<=s'.zn) (fun _=> .tuple ⟨[]⟩) (fun s=>[(0,oB s.v)]) (fun s=>s.z) (fun s=>s.zn):=fun fl x hx=>LO z0 n0 _ (by have:=rN (cR d f a L b) a b (d a b) fl;omega) x hx.1 _ _ _ _
  have nx: ∀s',jX z0 n0 (cR d f a L (b+1)) s'->s.zn<=s'.zn->aj (fun t:Nat × eF=>t.1<=n/\jX z0 n0 (cR d f a L t.1) t.2/\s0.zn<=t.2.zn) (fun t=>zh n a (b1+a) t.1) (fun t=>xX n (gi b1 n n) (gi b2 n n) t.2.v) 3 (fun t=>t.2.z) (fun t=>t.2.zn) (fun t=>n - t.1) (Al.R (QT n a (b1+a) (gi b1 n n) (gi b2 n n) s0 (fun s=>jX z0 n0 (cR d f a L n) s/\s0.zn<=s.zn)).l) (b,s) .normal (zh n a (b1+a) (b+1)) (xX n (gi b1 n n) (gi b2 n n) s'.v) 3 s'.z s'.zn:=fun s' h1 h2=>
   ⟨(b+1,s'),rfl,rfl,rfl,rfl,rfl,⟨by show b+1<=n;omega,h1,by show s0.zn<=s'.zn;omega⟩,by show n - (b+1)<n - b;omega⟩
  have add1t:(f a b==d a b)=true->bI Tryz.prog s.z s.zn 220 [iv a,iv b,zv (d a b),T1,ip 0] [(0,oB s.v)] 1 1 (fun s'=>jX z0 n0 (iz (cR d f a L b) a b (d a b) (f a b==d a b)) s'/\s.zn<=s'.zn) (fun _=> .tuple ⟨[]⟩) (fun s=>[(0,oB s.v)]) (fun s=>s.z) (fun s=>s.zn):=fun h=>by
   rw[h];exact add1 true
  have add1f:(f a b==d a b)=false->bI Tryz.prog s.z s.zn 220 [iv a,iv b,zv (d a b),F0,ip 0] [(0,oB s.v)] 1 1 (fun s'=>jX z0 n0 (iz (cR d f a L b) a b (d a b) (f a b==d a b)) s'/\s.zn<=s'.zn) (fun _=> .tuple ⟨[]⟩) (fun s=>[(0,oB s.v)]) (fun s=>s.z) (fun s=>s.zn):=fun h=>by
   rw[h];exact add1 false
  have w0:((a:Int)==(b:Int))=true->cR d f a L (b+1)=cR d f a L b:=fun h=>by
   rw[jJ];unfold hX;rw[if_pos (by simp at h;omega)]
  have w1:((a:Int)==(b:Int))=false->(f a b !=d a b)=false->cR d f a L (b+1)=iz (cR d f a L b) a b (d a b) (f a b==d a b):=fun h h1=>by
   have e:f a b=d a b:=by simpa using h1
   rw[jJ];unfold hX;rw[if_neg (by simp at h;omega),if_pos e,e];simp
  have w2:((a:Int)==(b:Int))=false->(f a b !=d a b)=true->cR d f a L (b+1)=iz (iz (cR d f a L b) a b (d a b) (f a b==d a b)) a b (f a b) true:=fun h h1=>by
   have e: ¬f a b=d a b:=by simpa using h1
   have e2:(f a b==d a b)=false:=by simpa using e
   rw[jJ];unfold hX;rw[if_neg (by simp at h;omega),if_neg e,e2]
  refine t100 (WL s.z s.zn n a (b1+a) (b2+a) b (gi b1 n n) (gi b2 n n) s k1 k2 (d a b) (f a b) (fun s'=>jX z0 n0 (iz (cR d f a L b) a b (d a b) (f a b==d a b)) s'/\s.zn<=s'.zn) (fun x s'=>jX z0 n0 (iz (iz (cR d f a L b) a b (d a b) (f a b==d a b)) a b (f a b) true) s'/\x.zn<=s'.zn) (aj _ _ _ _ _ _ _ _ _) ⟨fun _=>?_,fun h=>(by rw[hc] at h;cases h)⟩)
  (repeat' first|(with_reducible first|exact rfl|exact True.intro|assumption|apply And.intro|exact hz|exact hlt|exact ha|exact g1|exact g2|exact r1|exact r2|exact rB|exact rA _|exact dV hs|exact dV (And.left (by with_reducible assumption))|exact add1t (by with_reducible assumption)|exact add1f (by with_reducible assumption)|exact add2 _ _ (by with_reducible assumption)|exact jX.bN (And.left (by with_reducible assumption))|exact aK (by omega))|exact(rfl:Int.ofNat _=_)|exact(rfl:gH _ _=_)|exact hz|exact hlt|exact ha|exact g1|exact g2|exact r1|exact r2|exact rB|exact rA _|exact dV hs|exact dV (And.left (by with_reducible assumption))|exact add1t (by with_reducible assumption)|exact add1f (by with_reducible assumption)|exact add2 _ _ (by with_reducible assumption)|exact jX.bN (And.left (by with_reducible assumption))|exact aK (by omega)|intro hq)
  all_goals first
   |exact nx s (by rw[w0 hq];exact hs) (Nat.le_refl _)
   |(rename_i h1 h2 x hx h3 y
     exact nx y (by rw[w2 h1 h3];exact hq.1) (Nat.le_trans hx.2 hq.2))
   |(rename_i h1 h2 x hx
     exact nx x (by rw[w1 h1 hq];exact hx.1) hx.2)
 ·have hc:decide ((b:Int)<(n:Int))=false:=by simp;omega
  have hbn:b=n:=by omega
  subst hbn
  refine t100 (WL s.z s.zn b a (b1+a) (b2+a) b (gi b1 b b) (gi b2 b b) s ⟨[],0,0,0,true,true,0,true⟩ ⟨[],0,0,0,true,true,0,true⟩ 0 0 (fun _=>False) (fun _ _=>False) (aj _ _ _ _ _ _ _ _ _) ⟨fun h=>(by rw[hc] at h;cases h),fun _=>?_⟩)
  (repeat' first|(with_reducible first|exact rfl|exact True.intro|assumption|apply And.intro|exact hz|exact rA _|exact dV hs)|exact(rfl:Int.ofNat _=_)|exact(rfl:gH _ _=_)|exact hz|exact rA _|exact dV hs|intro hq)
  exact BT (k:=fun _=>eA) s ⟨hs,hle⟩ rfl
theorem zx(n:Nat)(hn:n<=64)(b1 b2:Nat)(d f:Nat->Nat->Int)(h1:b1+n<=n0)(h2:b2+n<=n0)(hd:qT z0 b1 n d)(hf:qT z0 b2 n f)(hz0:aq z0 n0):
 ai Tryz.prog (ah (ag Tryz.f188) 0) 3 66 (uQ n 0) (xX n (gi b1 n n) (gi b2 n n) ay) 3 z0 n0 (Al.R (ND n (gi b1 n n) (gi b2 n n) z0 n0 (fun s=>jX z0 n0 (eB d f n n) s)).l):=by
 refine ak hD (cT T.leaf) (α:=Nat × eF) 3 66 3 (fun t=>t.1<=n/\jX z0 n0 (eB d f n t.1) t.2) (fun t=>uQ n t.1) (fun t=>xX n (gi b1 n n) (gi b2 n n) t.2.v) (fun t=>t.2.z) (fun t=>t.2.zn) (fun t=>n - t.1) _ (fun t hI=>?_) (0,⟨none,0,z0,n0⟩) ⟨Nat.zero_le _,hz0,Nat.le_refl _,fun _ _=>rfl, .inl ⟨rfl,rfl,rfl⟩⟩
 obtain⟨a,s⟩:=t
 obtain⟨ha,hs⟩:=hI
 simp only at ha hs ⊢
 have hz:=hs.bN
 have rA: ∀b,aG (az [(0,0),(1,1),(2,2)] []) (aa.ax (bg.mk (gi b n n) (n*1) 1 90 true true 0 true))=some (aa.ax (bg.mk (gi b n n) (n*1) 1 90 true true 0 true)):=fun b=>kO _ _ _ _ _
 by_cases hlt:a<n
 ·have hc:decide ((a:Int)<(n:Int))=true:=by simp;omega
  have hll:(eB d f n a).length<=10000:=by
   have:=BD d f n a
   have h2:a*(2*n)<=64*(2*64):=Nat.mul_le_mul (by omega) (by omega)
   omega
  have hlp:=GD n hn b1 b2 d f h1 h2 hd hf a hlt _ hll s hs
  have rB:aB Tryz.prog (bg.mk (gi b1 n n) (n*1) 1 90 true true 0 true) 90 (0+a*1)=some (tb (b1+a) n n):=iV Tryz.underlying90 rfl (Hi hlt)
  refine t100 (WM s.z s.zn n a (b1+a) (gi b1 n n) (gi b2 n n) s (fun s'=>jX z0 n0 (cR d f a (eB d f n a) n) s'/\s.zn<=s'.zn) (aj _ _ _ _ _ _ _ _ _) ⟨fun _=>?_,fun h=>(by rw[hc] at h;cases h)⟩)
  (repeat' first|(with_reducible first|exact rfl|exact True.intro|assumption|apply And.intro|exact hz|exact hlt|exact rB|exact rA _|exact hlp|exact dV hs|exact dV (And.left (by with_reducible assumption))|exact jX.bN (And.left (by with_reducible assumption))|exact aK (by omega))|exact(rfl:Int.ofNat _=_)|exact(rfl:gH _ _=_)|exact hz|exact hlt|exact rB|exact rA _|exact hlp|exact dV hs|exact dV (And.left (by with_reducible assumption))|exact jX.bN (And.left (by with_reducible assumption))|exact aK (by omega)|intro hq)
  rename_i x
  exact⟨(a+1,x),rfl,rfl,rfl,rfl,rfl,⟨by show a+1<=n;omega,by show jX z0 n0 (eB d f n (a+1)) x;rw[qM];exact hq.1⟩,by show n - (a+1)<n - a;omega⟩
 ·have hc:decide ((a:Int)<(n:Int))=false:=by simp;omega
  have han:a=n:=by omega
  subst han
  refine t100 (WM s.z s.zn a a 0 (gi b1 a a) (gi b2 a a) s (fun _=>False) (aj _ _ _ _ _ _ _ _ _) ⟨fun h=>(by rw[hc] at h;cases h),fun _=>?_⟩)
  (repeat' first|(with_reducible first|exact rfl|exact True.intro|assumption|apply And.intro|exact hz|exact dV hs)|exact(rfl:Int.ofNat _=_)|exact(rfl:gH _ _=_)|exact hz|exact dV hs|intro hq)
  exact BT (k:=fun _=>eA) s hs rfl
end
def DF(n:Nat)(l:List ae)(d f:Nat->Nat->Int):Prop:= ∃E F,PU n l false E/\PU n l true F/\(∀i j,i<n->j<n->lD (EE E) i j (d i j))/\(∀i j,i<n->j<n->lD (EE F) i j (f i j))
theorem zK{z z':T aa}{a b:Nat}{L:List ae}{s:eF}(h:jX z' b L s)(hab:a<=b)(ho: ∀k,k<a->z'.get k=z.get k):jX z a L s:=by
 refine⟨h.bN,Nat.le_trans hab h.le,fun k hk=>(h.ie k (by omega)).trans (ho k hk),?_⟩
 rcases h.val with h1|⟨h1,kk,h2,h3⟩
 ·exact .inl h1
 ·exact .inr ⟨h1,kk,by omega,h3⟩
def jW(C:List ae):Prop:= ∀(z:T aa)(zn:Nat)(s:eF),jX z zn C s->aM Tryz.prog s.z s.zn 221 [s.v, .func (.func 222) #[] #[]] [] 0 0 (fun _:Unit=>True) (fun _=> .tuple ⟨[]⟩) (fun _=>[])
theorem nX{P:Program}{b:Code}{base n:Nat}{live:Live}{aQ:bY}{nx:Nat}{z:T aa}{zn:Nat}{R R':aw->Prop}(h:ai P b base n live aQ nx z zn R)(hR: ∀o,R o->R' o):ai P b base n live aQ nx z zn R':=
 fun xp h0 zn0 σ0 h1 h2=>(h xp h0 zn0 σ0 h1 h2).mono fun e fr h zn' ⟨o,h1,h2⟩=>⟨o,hR o h1,h2⟩
theorem j8{z z':T aa}{zn k:Nat}{rows:List (List Value)}(h:cu z k rows)(hz:aq z zn)(ho: ∀j,j<zn->z'.get j=z.get j):cu z' k rows:=
 ⟨fun hr=>by obtain⟨e,he⟩:=h.here hr;exact⟨e,by rw[ho k (hz k _ he).1];exact he⟩,h.size⟩
section
variable{z:T aa}{zn:Nat}
theorem Rw(hz:aq z zn)(n:Nat)(hn:n<=64)(l:List ae)(hl:mG n l)(hll:l.length<=10000)(cp:Nat)(hL:cu z 4 (l.map ae.row))(C:List ae)(hC: ∀d f,DF n l d f->eB d f n n=C)(hS:jW C):
 bI Tryz.prog z zn 188 [tb 4 l.length cp,iv n] [] 0 0 (jX z zn C) (fun s=>s.v) (fun _=>[]) (fun s=>s.z) (fun s=>s.zn):=by
 have d1:=HT hz n hn l hl hll cp hL false
 have rw1: ∀{z zn b s},dE z zn n l b s-> ∀σ c,aG (az σ []) (aa.ax (bg.mk s.cs c 1 90 true true 0 true))=some (aa.ax (bg.mk s.cs c 1 90 true true 0 true)):=fun {z zn b s} ⟨E,_,h⟩ σ c=>by
  obtain⟨b,_,_,h,_⟩:=h.row
  rw[h];exact kO _ _ _ _ _
 have rw2: ∀{z zn b s},dE z zn n l b s-> ∀σ c,aG (sig σ) (aa.ax (bg.mk s.cs c 1 90 true true 0 true))=some (aa.ax (bg.mk s.cs c 1 90 true true 0 true)):=fun h σ c=>rw1 h σ c
 have bN: ∀{z zn b s},dE z zn n l b s->aq s.2 s.zn:=fun {z zn b s} ⟨E,_,h⟩=>h.bN
 have d2: ∀s,dE z zn n l false s->bI Tryz.prog s.2 s.zn 219 [tb 4 l.length cp,iv n,T1] [] 0 1 (dE s.2 s.zn n l true) (fun _=>aZ 0 n n) (fun s=>[(0,sr s.cs n)]) (fun s=>s.z) (fun s=>s.zn):=fun s ⟨E,_,h⟩=>HT h.bN n hn l hl hll cp (j8 hL hz h.ie) true
 have lp: ∀s1 s2,dE z zn n l false s1->dE s1.2 s1.zn n l true s2->ai Tryz.prog (ah (ag Tryz.f188) 0) 3 66 (uQ n 0) (xX n s1.cs s2.cs ay) 3 s2.2 s2.zn (Al.R (ND n s1.cs s2.cs s2.2 s2.zn (fun s=>jX z zn C s)).l):=fun s1 s2 ⟨E,hE,h1⟩ ⟨F,hF,h2⟩=>by
  obtain⟨b1,d,p1,p2,p3,p4,p5⟩:=mV h1
  obtain⟨b2,f,q1,q2,q3,q4,q5⟩:=mV h2
  have hle:=h2.le
  have:=zx n hn b1 b2 d f (by omega) q2 (kM p4 p2 h2.ie) q4 h2.bN
  rw[hC d f ⟨E,F,hE,hF,p5,q5⟩] at this
  rw[p3,q3]
  refine nX this fun o ho=>?_
  rcases ho with ⟨s,hs,e⟩|ho
  ·exact .inl ⟨s,zK hs (Nat.le_trans h1.le hle) fun k hk=>(h2.ie k (by have:=h1.le;omega)).trans (h1.ie k hk),e⟩
  ·exact .inr ho
 have srt: ∀s,jX z zn C s->aM Tryz.prog s.3 s.zn 221 [s.v, .func (.func 222) #[] #[]] [] 0 0 (fun _:Unit=>True) (fun _=> .tuple ⟨[]⟩) (fun _=>[]):=fun s hs=>hS z zn s hs
 have rv: ∀s,jX z zn C s->aX (az [] []) s.v=some s.v:=fun s h=>by
  rcases h.val with ⟨_,e1,e2⟩|⟨_,kk,_,_,e1,e2,_⟩
  ·obtain⟨oa,k,z,zn⟩:=s
   simp only at e1 e2;subst e1 e2;rfl
  ·obtain⟨oa,k,z,zn⟩:=s
   simp only at e1 e2;subst e1 e2
   exact aT [] kk C.length C.length
 have rl: ∀s,jX z zn C s->bz (sig []) [s.v, .func (.func 222) #[] #[]]=some [s.v, .func (.func 222) #[] #[]]:=fun s h=>by
  have:=rv s h
  have h2:aX (az [] []) (.func (.func 222) #[] #[])=some (.func (.func 222) #[] #[]):=rfl
  show bz (az [] []) _=_
  simp only[bz,this,h2]
 refine fN (cT T.leaf) (fn:=Tryz.f188) (by kernel_rfl) (by kernel_rfl) hz ⟨by decide,by decide⟩ (fun s' hs'=>⟨rfl,hs'.le,hs'.bN⟩) (N:=100) ?_
 refine cl z zn n l.length cp (dE z zn n l false) (fun s=>dE s.2 s.zn n l true) (fun _ _=>jX z zn C) _ ?_
 (repeat' first|(with_reducible first|exact rfl|exact True.intro|assumption|apply And.intro|exact hz|exact d1|exact d2 _ (by with_reducible assumption)|exact lp _ _ (by with_reducible assumption) (by with_reducible assumption)|exact srt _ (by with_reducible assumption)|exact bN (by with_reducible assumption)|exact jX.bN (by with_reducible assumption)|exact rw1 (by with_reducible assumption) _ _|exact rw2 (by with_reducible assumption) _ _|exact rv _ (by with_reducible assumption)|exact rl _ (by with_reducible assumption)|exact dV (by with_reducible assumption))|exact(rfl:Int.ofNat _=_)|exact(rfl:gH _ _=_)|exact hz|exact d1|exact d2 _ (by with_reducible assumption)|exact lp _ _ (by with_reducible assumption) (by with_reducible assumption)|exact srt _ (by with_reducible assumption)|exact bN (by with_reducible assumption)|exact jX.bN (by with_reducible assumption)|exact rw1 (by with_reducible assumption) _ _|exact rw2 (by with_reducible assumption) _ _|exact rv _ (by with_reducible assumption)|exact rl _ (by with_reducible assumption)|exact dV (by with_reducible assumption)|intro hq)
 rename_i x hx _
 exact q2 x hx rfl rfl rfl rfl rfl
theorem Om(hz:aq z zn)(n:Nat)(hn:n<=64)(C:List ae)(hC: ∀d f,DF n [] d f->eB d f n n=C)(hS:jW C):
 bI Tryz.prog z zn 188 [ay,iv n] [] 0 0 (jX z zn C) (fun s=>s.v) (fun _=>[]) (fun s=>s.z) (fun s=>s.zn):=by
 have d1:=C1 hz n hn false
 have rw1: ∀{z zn b s},dE z zn n [] b s-> ∀σ c,aG (az σ []) (aa.ax (bg.mk s.cs c 1 90 true true 0 true))=some (aa.ax (bg.mk s.cs c 1 90 true true 0 true)):=fun {z zn b s} ⟨E,_,h⟩ σ c=>by
  obtain⟨b,_,_,h,_⟩:=h.row
  rw[h];exact kO _ _ _ _ _
 have rw2: ∀{z zn b s},dE z zn n [] b s-> ∀σ c,aG (sig σ) (aa.ax (bg.mk s.cs c 1 90 true true 0 true))=some (aa.ax (bg.mk s.cs c 1 90 true true 0 true)):=fun h σ c=>rw1 h σ c
 have bN: ∀{z zn b s},dE z zn n [] b s->aq s.2 s.zn:=fun {z zn b s} ⟨E,_,h⟩=>h.bN
 have d2: ∀s,dE z zn n [] false s->bI Tryz.prog s.2 s.zn 219 [ay,iv n,T1] [] 0 1 (dE s.2 s.zn n [] true) (fun _=>aZ 0 n n) (fun s=>[(0,sr s.cs n)]) (fun s=>s.z) (fun s=>s.zn):=fun s ⟨E,_,h⟩=>C1 h.bN n hn true
 have lp: ∀s1 s2,dE z zn n [] false s1->dE s1.2 s1.zn n [] true s2->ai Tryz.prog (ah (ag Tryz.f188) 0) 3 66 (uQ n 0) (xX n s1.cs s2.cs ay) 3 s2.2 s2.zn (Al.R (ND n s1.cs s2.cs s2.2 s2.zn (fun s=>jX z zn C s)).l):=fun s1 s2 ⟨E,hE,h1⟩ ⟨F,hF,h2⟩=>by
  obtain⟨b1,d,p1,p2,p3,p4,p5⟩:=mV h1
  obtain⟨b2,f,q1,q2,q3,q4,q5⟩:=mV h2
  have hle:=h2.le
  have:=zx n hn b1 b2 d f (by omega) q2 (kM p4 p2 h2.ie) q4 h2.bN
  rw[hC d f ⟨E,F,hE,hF,p5,q5⟩] at this
  rw[p3,q3]
  refine nX this fun o ho=>?_
  rcases ho with ⟨s,hs,e⟩|ho
  ·exact .inl ⟨s,zK hs (Nat.le_trans h1.le hle) fun k hk=>(h2.ie k (by have:=h1.le;omega)).trans (h1.ie k hk),e⟩
  ·exact .inr ho
 have srt: ∀s,jX z zn C s->aM Tryz.prog s.3 s.zn 221 [s.v, .func (.func 222) #[] #[]] [] 0 0 (fun _:Unit=>True) (fun _=> .tuple ⟨[]⟩) (fun _=>[]):=fun s hs=>hS z zn s hs
 have rv: ∀s,jX z zn C s->aX (az [] []) s.v=some s.v:=fun s h=>by
  rcases h.val with ⟨_,e1,e2⟩|⟨_,kk,_,_,e1,e2,_⟩
  ·obtain⟨oa,k,z,zn⟩:=s
   simp only at e1 e2;subst e1 e2;rfl
  ·obtain⟨oa,k,z,zn⟩:=s
   simp only at e1 e2;subst e1 e2
   exact aT [] kk C.length C.length
 have rl: ∀s,jX z zn C s->bz (sig []) [s.v, .func (.func 222) #[] #[]]=some [s.v, .func (.func 222) #[] #[]]:=fun s h=>by
  have:=rv s h
  have h2:aX (az [] []) (.func (.func 222) #[] #[])=some (.func (.func 222) #[] #[]):=rfl
  show bz (az [] []) _=_
  simp only[bz,this,h2]
 refine fN (cT T.leaf) (fn:=Tryz.f188) (by kernel_rfl) (by kernel_rfl) hz ⟨by decide,by decide⟩ (fun s' hs'=>⟨rfl,hs'.le,hs'.bN⟩) (N:=100) ?_
 refine clz z zn n (dE z zn n [] false) (fun s=>dE s.2 s.zn n [] true) (fun _ _=>jX z zn C) _ ?_
 (repeat' first|(with_reducible first|exact rfl|exact True.intro|assumption|apply And.intro|exact hz|exact d1|exact d2 _ (by with_reducible assumption)|exact lp _ _ (by with_reducible assumption) (by with_reducible assumption)|exact srt _ (by with_reducible assumption)|exact bN (by with_reducible assumption)|exact jX.bN (by with_reducible assumption)|exact rw1 (by with_reducible assumption) _ _|exact rw2 (by with_reducible assumption) _ _|exact rv _ (by with_reducible assumption)|exact rl _ (by with_reducible assumption)|exact dV (by with_reducible assumption))|exact(rfl:Int.ofNat _=_)|exact(rfl:gH _ _=_)|exact hz|exact d1|exact d2 _ (by with_reducible assumption)|exact lp _ _ (by with_reducible assumption) (by with_reducible assumption)|exact srt _ (by with_reducible assumption)|exact bN (by with_reducible assumption)|exact jX.bN (by with_reducible assumption)|exact rw1 (by with_reducible assumption) _ _|exact rw2 (by with_reducible assumption) _ _|exact rv _ (by with_reducible assumption)|exact rl _ (by with_reducible assumption)|exact dV (by with_reducible assumption)|intro hq)
 rename_i x hx _
 exact q2 x hx rfl rfl rfl rfl rfl
end
def ou(C:List ae):Prop:= ∀(i j:Nat)(x y:ae),i<j->C[i]? =some x->C[j]? =some y->decide (ql y.from_ y.an y.aH x.from_ x.an x.aH<0)=false
abbrev zJ(C:List ae):bg:=⟨(C.map ae.row).flatten,C.length*4,4,141,false,false,0,true⟩
theorem kj{C:List ae}{i:Nat}{x:ae}(hx:C[i]? =some x):aB Tryz.prog (zJ C) 141 (0+i*4)=some (.agg ⟨x.row⟩):=
 gN (rows:=C.map ae.row) rfl (r:=x.row) (sz:=4) Tryz.underlying141 rfl rfl (aO (row:=ae.row) (sz:=4) C fun _=>rfl) (by rw[List.getElem?_map,hx];rfl)
theorem Ii{z:T aa}{zn:Nat}(hz:aq z zn){f:Nat}{args:List Value}{v:Value}(hp:bG args=true)(hv:au v=true)(h: ∀w,Calls Tryz.prog f ⟨args⟩ w fun e w'=>e= .returned v/\w'=w):A1 z zn f args [] 0 0 v []:=by
 refine⟨hz,Nat.le_refl _,by decide,fun _ _=>Ia hz (fun b o h=>by cases h),fun ρ w args' n hargs hh hf hfb=>callsIn_wide.2 ?_⟩
 have e:=hargs.plain hp
 subst e
 exact(h w).mono fun e w' ⟨h1,h2⟩=>⟨(),trivial,ρ,v,h1,VR.ba hv,by rw[h2];exact hh,by rw[h2];exact gE.refl _ _ _ _ _ _ _⟩
section
variable{z:T aa}{zn kk:Nat}{C:List ae}
theorem Rn(hz:aq z zn)(hk:z.get kk=some (.ax (zJ C)))(hS:ou C){a b n:Nat}(hn:n=C.length)(hab:a<b)(hb:b<C.length):
 A1 z zn 284 [tb kk n n,iv a,iv b,ip 0,iu] [(0,I2)] 1 1 (.tuple ⟨[iv a,iv b]⟩) [(0,I2)]:=by
 subst hn
 obtain⟨x,hx⟩: ∃x,C[a]? =some x:=⟨_,List.getElem?_eq_getElem (by omega)⟩
 obtain⟨y,hy⟩: ∃y,C[b]? =some y:=⟨_,List.getElem?_eq_getElem hb⟩
 have hc:=hS a b x y hab hx hy
 have r1:=kj hx
 have r2:=kj hy
 have hc':Value.bool (decide (ql y.from_ y.an y.aH x.from_ x.an x.aH<0))= .bool false:=by rw[hc]
 refine aY (lK z) (fn:=Tryz.f284) (by kernel_rfl) (by kernel_rfl) hz ⟨by decide,by decide⟩ rfl (N:=100) ?_
 refine Zg z zn kk C.length a b (zJ C) x y _ ?_
 (repeat' first|(with_reducible first|exact rfl|exact True.intro|assumption|apply And.intro|exact hz|exact hk|exact r1|exact r2|exact hb|exact(by omega:a<C.length)|exact hc'|exact q1)|exact(rfl:Int.ofNat _=_)|exact(rfl:gS _ _=_)|exact hz|exact hk|exact r1|exact r2|exact hb|exact(by omega:a<C.length)|exact hc'|exact q1|intro hq)
theorem Rp(hz:aq z zn)(hk:z.get kk=some (.ax (zJ C)))(hS:ou C){a b c n:Nat}(hn:n=C.length)(hab:a<b)(hbc:b<c)(hc:c<C.length):
 A1 z zn 279 [tb kk n n,iv a,iv b,iv c,ip 0,iu] [(0,I2)] 1 1 (iv b) [(0,I2)]:=by
 have h1:=Rn hz hk hS hn hab (by omega)
 have h2:=Rn hz hk hS hn hbc hc
 refine aY (lK z) (fn:=Tryz.f279) (by kernel_rfl) (by kernel_rfl) hz ⟨by decide,by decide⟩ rfl (N:=100) ?_
 refine Zh z zn kk n a b c _ ?_
 (repeat' first|(with_reducible first|exact rfl|exact True.intro|assumption|apply And.intro|exact hz|exact h1|exact h2|exact q1)|exact(rfl:Int.ofNat _=_)|exact(rfl:gS _ _=_)|exact hz|exact h1|exact h2|exact q1|intro hq)
theorem qv{x:Int}(h: -9223372036854775808<=x)(h2:x<=9223372036854775807):Value.int .i64 (IntKind.i64.wrap x)=Value.int .i64 x:=by
 have:IntKind.i64.wrap x=x:=by
  simp only[IntKind.wrap,IntKind.signed,IntKind.bits]
  simp
  omega
 rw[this]
theorem Oj(hz:aq z zn)(hk:z.get kk=some (.ax (zJ C)))(hS:ou C){a n:Nat}(hn:n=C.length)(hc:a+2<C.length)(hs:C.length<100000):
 A1 z zn 278 [tb kk n n,iv (a+1),ip 0,iu] [(0,I2)] 1 1 (iv (a+1)) [(0,I2)]:=by
 have h1:=Rp hz hk hS hn (show a<a+1 by omega) (show a+1<a+2 by omega) hc
 have e:(((a+1:Nat):Int) - 1)=(a:Int):=by omega
 have w1:Value.int .i64 (IntKind.i64.wrap (((a+1:Nat):Int) - 1))=Value.int .i64 (((a+1:Nat):Int) - 1):=qv (by omega) (by omega)
 have w2:Value.int .i64 (IntKind.i64.wrap (((a+1:Nat):Int)+1))=Value.int .i64 ((a+1+1:Nat):Int):=aK (by omega)
 refine aY (lK z) (fn:=Tryz.f278) (by kernel_rfl) (by kernel_rfl) hz ⟨by decide,by decide⟩ rfl (N:=100) ?_
 refine Zi z zn kk n a _ ?_
 rw[e] at w1 ⊢
 (repeat' first|(with_reducible first|exact rfl|exact True.intro|assumption|apply And.intro|exact hz|exact h1|exact w1|exact w2|exact q1)|exact(rfl:Int.ofNat _=_)|exact(rfl:gS _ _=_)|exact hz|exact h1|exact w1|exact w2|exact q1|intro hq)
theorem Vr(hz:aq z zn)(hk:z.get kk=some (.ax (zJ C)))(hS:ou C){n:Nat}(hn:n=C.length)(h8:12<n)(hs:C.length<100000):
 A1 z zn 267 [tb kk n n,I 0,iv n,iu] [] 0 1 (.tuple ⟨[iv (n / 4*2),I 1]⟩) []:=by
 have e0:((n:Int) - 0).tdiv 4=((n / 4:Nat):Int):=by rw[Int.sub_zero];rfl
 obtain⟨q,hv⟩: ∃q,n / 4=q:=⟨_,rfl⟩
 rw[hv] at e0 ⊢
 have e1:(0+(q:Int)*1)=((q:Nat):Int):=by omega
 have e2:(0+(q:Int)*2)=((q*2:Nat):Int):=by omega
 have e3:(0+(q:Int)*3)=((q*3:Nat):Int):=by omega
 have hq3:3<=q:=by omega
 have hq4:q*4<=n:=by omega
 have w0:Value.int .i64 (IntKind.i64.wrap ((n:Int) - 0))=Value.int .i64 ((n:Int) - 0):=qv (by omega) (by omega)
 have w1:Value.int .i64 (IntKind.i64.wrap (q:Int))=Value.int .i64 (q:Int):=qv (by omega) (by omega)
 have w2: ∀c:Int,0<=c->c<=3->Value.int .i64 (IntKind.i64.wrap ((q:Int)*c))=Value.int .i64 ((q:Int)*c):=fun c h1 h2=>qv (by
  have:c=0\/c=1\/c=2\/c=3:=by omega
  rcases this with rfl|rfl|rfl|rfl<;>omega) (by
  have:c=0\/c=1\/c=2\/c=3:=by omega
  rcases this with rfl|rfl|rfl|rfl<;>omega)
 have w3: ∀c:Nat,c<=3->Value.int .i64 (IntKind.i64.wrap ((q*c:Nat):Int))=Value.int .i64 ((q*c:Nat):Int):=fun c h2=>qv (by omega) (by
  have:q*c<=q*3:=Nat.mul_le_mul_left _ h2
  omega)
 have d8:Value.bool (decide ((n:Int) - 0>=8))=T1:=by rw[show decide ((n:Int) - 0>=8)=true by simp;omega]
 have m1:=Rp hz hk hS hn (show q<q*2 by omega) (show q*2<q*3 by omega) (by omega)
 obtain⟨q',rfl⟩: ∃q',q=q'+1:=⟨q - 1,by omega⟩
 have g1:=Oj hz hk hS (a:=q') hn (by omega) hs
 have g2:=Oj hz hk hS (a:=(q'+1)*2 - 1) hn (by omega) hs
 have g3:=Oj hz hk hS (a:=(q'+1)*3 - 1) hn (by omega) hs
 rw[show(q'+1)*2 - 1+1=(q'+1)*2 by omega] at g2
 rw[show(q'+1)*3 - 1+1=(q'+1)*3 by omega] at g3
 have w31:=w3 1 (by omega)
 rw[Nat.mul_one] at w31
 refine aY (lK z) (fn:=Tryz.f267) (by kernel_rfl) (by kernel_rfl) hz ⟨by decide,by decide⟩ rfl (N:=100) ?_
 refine Zm z zn kk n 0 0 0 _ ?_
 rw[e0,e1,e2,e3]
 (repeat' first|(with_reducible first|exact rfl|exact True.intro|assumption|apply And.intro|exact hz|exact w0|exact w1|exact w2 _ (by decide) (by decide)|exact w3 _ (by decide)|exact w31|exact d8|exact m1|exact g1|exact g2|exact g3|exact q1)|exact(rfl:Int.ofNat _=_)|exact(rfl:gS _ _=_)|exact hz|exact w0|exact w1|exact w2 _ (by decide) (by decide)|exact w3 _ (by decide)|exact w31|exact d8|exact m1|exact g1|exact g2|exact g3|exact q1|intro hq)
theorem J2(hz:aq z zn)(hk:z.get kk=some (.ax (zJ C)))(hS:ou C){n:Nat}(hn:n=C.length)(i:Nat)(hi:0<i)(hin:i<n)(hs:C.length<100000):
 ai Tryz.prog (ah (ah (ag Tryz.f162) 0) 0) 0 53 (DV (tb kk n n) n i i) [] 0 z zn (Al.R (Uy z zn (tb kk n n) n i).l):=by
 subst hn
 obtain⟨j,rfl⟩: ∃j,i=j+1:=⟨i - 1,by omega⟩
 obtain⟨x,hx⟩: ∃x,C[j]? =some x:=⟨_,List.getElem?_eq_getElem (by omega)⟩
 obtain⟨y,hy⟩: ∃y,C[j+1]? =some y:=⟨_,List.getElem?_eq_getElem hin⟩
 have hc:=hS j (j+1) x y (by omega) hx hy
 have r1:=kj hx
 have r2:=kj hy
 have hc':Value.bool (decide (ql y.from_ y.an y.aH x.from_ x.an x.aH<0))= .bool false:=by rw[hc]
 have w1:Value.int .i64 (IntKind.i64.wrap (((j+1:Nat):Int) - 1))=Value.int .i64 (((j+1:Nat):Int) - 1):=qv (by omega) (by omega)
 refine ak hD (lK z) (α:=Unit) 0 53 0 (fun _=>True) (fun _=>DV (tb kk C.length C.length) C.length (j+1) (j+1)) (fun _=>[]) (fun _=>z) (fun _=>zn) (fun _=>0) _ (fun _ hI=>?_) () trivial
 refine t100 (Zk z zn kk C.length (j+1) j (zJ C) x y (aj _ _ _ _ _ _ _ _ _) ?_)
 (repeat' first|(with_reducible first|exact rfl|exact True.intro|assumption|apply And.intro|exact hz|exact hk|exact r1|exact r2|exact hin|exact(by omega:j<C.length)|exact hc'|exact w1|exact(by omega:((j+1:Nat):Int) - 1=(j:Int)))|exact(rfl:Int.ofNat _=_)|exact(rfl:gS _ _=_)|exact hz|exact hk|exact r1|exact r2|exact hin|exact(by omega:j<C.length)|exact hc'|exact w1|exact(by omega:((j+1:Nat):Int) - 1=(j:Int))|intro hq)
 all_goals first
  |exact bE trivial
theorem J3(hz:aq z zn)(hk:z.get kk=some (.ax (zJ C)))(hS:ou C){n:Nat}(hn:n=C.length)(hs:C.length<100000):
 ai Tryz.prog (ah (ag Tryz.f162) 0) 0 53 (o8 (tb kk n n) n 1) [] 0 z zn (Al.R (QM z zn (tb kk n n) n).l):=by
 refine ak hD (lK z) (α:=Nat) 0 53 0 (fun i=>0<i/\i<=n+1) (fun i=>o8 (tb kk n n) n i) (fun _=>[]) (fun _=>z) (fun _=>zn) (fun i=>n+1 - i) _ (fun i hI=>?_) 1 ⟨by omega,by omega⟩
 obtain⟨h1,h2⟩:=hI
 refine t100 (Zl z zn kk n i (aj _ _ _ _ _ _ _ _ _) ?_)
 by_cases hi:i<n
 ·have hL:=J2 hz hk hS hn i h1 hi hs
  have d1:decide ((i:Int)<(n:Int))=true:=by simp;omega
  refine⟨fun _=>?_,fun h=>(by rw[d1] at h;cases h)⟩
  (repeat' first|(with_reducible first|exact rfl|exact True.intro|assumption|apply And.intro|exact hz|exact hL|exact aK (by omega))|exact(rfl:Int.ofNat _=_)|exact(rfl:gS _ _=_)|exact hz|exact hL|exact aK (by omega)|intro hq)
  all_goals first
   |exact⟨i+1,rfl,rfl,rfl,rfl,rfl,⟨by omega,by omega⟩,by show n+1 - (i+1)<n+1 - i;omega⟩
 ·have d1:decide ((i:Int)<(n:Int))=false:=by simp;omega
  refine⟨fun h=>(by rw[d1] at h;cases h),fun _=>?_⟩
  (repeat' first|(with_reducible first|exact rfl|exact True.intro|assumption|apply And.intro|exact hz)|exact(rfl:Int.ofNat _=_)|exact(rfl:gS _ _=_)|exact hz|intro hq)
  all_goals exact bE trivial
theorem Rt(hz:aq z zn)(hk:z.get kk=some (.ax (zJ C)))(hS:ou C){n:Nat}(hn:n=C.length)(hs:C.length<100000):
 A1 z zn 162 [tb kk n n,I 0,iv n,iu] [] 0 0 (.tuple ⟨[]⟩) []:=by
 have hL:=J3 hz hk hS hn hs
 refine aY (lK z) (fn:=Tryz.f162) (by kernel_rfl) (by kernel_rfl) hz ⟨by decide,by decide⟩ rfl (N:=100) ?_
 refine ji z zn kk n _ ?_
 (repeat' first|(with_reducible first|exact rfl|exact True.intro|assumption|apply And.intro|exact hz|exact hL|exact q1)|exact(rfl:Int.ofNat _=_)|exact(rfl:gS _ _=_)|exact hz|exact hL|exact q1|intro hq)
theorem Ol(hz:aq z zn):A1 z zn 162 [ay,I 0,iv 0,iu] [] 0 0 (.tuple ⟨[]⟩) []:=by
 have hL:ai Tryz.prog (ah (ag Tryz.f162) 0) 0 53 (o8 ay 0 1) [] 0 z zn (Al.R (QM z zn ay 0).l):=by
  refine ak hD (lK z) (α:=Unit) 0 53 0 (fun i=>True) (fun i=>o8 ay 0 1) (fun _=>[]) (fun _=>z) (fun _=>zn) (fun i=>0) _ (fun i hI=>?_) () trivial
  refine t100 (UL z zn (aj _ _ _ _ _ _ _ _ _) ?_)
  (repeat' first|(with_reducible first|exact rfl|exact True.intro|assumption|apply And.intro|exact hz)|exact(rfl:Int.ofNat _=_)|exact(rfl:gS _ _=_)|exact hz|intro hq)
  all_goals exact bE trivial
 refine aY (lK z) (fn:=Tryz.f162) (by kernel_rfl) (by kernel_rfl) hz ⟨by decide,by decide⟩ rfl (N:=100) ?_
 refine Zj z zn _ ?_
 (repeat' first|(with_reducible first|exact rfl|exact True.intro|assumption|apply And.intro|exact hz|exact hL|exact q1)|exact(rfl:Int.ofNat _=_)|exact(rfl:gS _ _=_)|exact hz|exact hL|exact q1|intro hq)
theorem JU(hz:aq z zn)(hk:z.get kk=some (.ax (zJ C)))(hS:ou C){n:Nat}(hn:n=C.length)(h1n:1<=n)(hs:C.length<100000):
 ai Tryz.prog (ah (ah (ag Tryz.f269) 0) 0) 0 141 (jk kk n 1 0) [] 0 z zn (Al.R (QB z zn kk n).l):=by
 subst hn
 refine ak hD (lK z) (α:=Nat) 0 141 0 (fun i=>i<C.length) (fun i=>jk kk C.length (i+1) 0) (fun _=>[]) (fun _=>z) (fun _=>zn) (fun i=>C.length - i) _ (fun i hI=>?_) 0 h1n
 obtain⟨x,hx⟩: ∃x,C[i]? =some x:=⟨_,List.getElem?_eq_getElem hI⟩
 by_cases hi:i+1<C.length
 ·obtain⟨y,hy⟩: ∃y,C[i+1]? =some y:=⟨_,List.getElem?_eq_getElem hi⟩
  have hc:=hS i (i+1) x y (by omega) hx hy
  have r1:=kj hx
  have r2:=kj hy
  have hc':Value.bool (decide (ql y.from_ y.an y.aH x.from_ x.an x.aH<0))= .bool false:=by rw[hc]
  have w1:Value.int .i64 (IntKind.i64.wrap (((i+1:Nat):Int) - 1))=Value.int .i64 (((i+1:Nat):Int) - 1):=qv (by omega) (by omega)
  have d1:decide (((i+1:Nat):Int)<(C.length:Int))=true:=by simp;omega
  refine t100 (WD z zn kk C.length i (zJ C) x y (aj _ _ _ _ _ _ _ _ _) ⟨fun _=>?_,fun h=>(by rw[d1] at h;cases h)⟩)
  (repeat' first|(with_reducible first|exact rfl|exact True.intro|assumption|apply And.intro|exact hz|exact hk|exact r1|exact r2|exact hi|exact hI|exact hc'|exact w1|exact(by omega:((i+1:Nat):Int) - 1=(i:Int))|exact aK (by omega))|exact(rfl:Int.ofNat _=_)|exact(rfl:gS _ _=_)|exact hz|exact hk|exact r1|exact r2|exact hi|exact hI|exact hc'|exact w1|exact(by omega:((i+1:Nat):Int) - 1=(i:Int))|exact aK (by omega)|intro hq)
  all_goals first
   |exact⟨i+1,rfl,rfl,rfl,rfl,rfl,hi,by show C.length - (i+1)<C.length - i;omega⟩
 ·have d1:decide (((i+1:Nat):Int)<(C.length:Int))=false:=by simp;omega
  refine t100 (WD z zn kk C.length i (zJ C) x x (aj _ _ _ _ _ _ _ _ _) ⟨fun h=>(by rw[d1] at h;cases h),fun _=>?_⟩)
  have e:i+1=C.length:=by omega
  rw[←e]
  (repeat' first|(with_reducible first|exact rfl|exact True.intro|assumption|apply And.intro|exact hz)|exact(rfl:Int.ofNat _=_)|exact(rfl:gS _ _=_)|exact hz|intro hq)
  all_goals exact bE trivial
theorem JV(hz:aq z zn)(hk:z.get kk=some (.ax (zJ C)))(hS:ou C){n:Nat}(hn:n=C.length)(h1n:1<=n)(hs:C.length<100000):
 ai Tryz.prog (ah (ag Tryz.f269) 0) 0 141 (jk kk n 1 0) [] 0 z zn (Al.R (QC z zn kk n).l):=by
 have hL:=JU hz hk hS hn h1n hs
 refine ak hD (lK z) (α:=Unit) 0 141 0 (fun _=>True) (fun _=>jk kk n 1 0) (fun _=>[]) (fun _=>z) (fun _=>zn) (fun _=>0) _ (fun i hI=>?_) () trivial
 have hb:Value.bool ((n:Int)==(n:Int))=Value.bool true:=by simp
 refine t100 (Zc z zn kk n (aj _ _ _ _ _ _ _ _ _) ?_)
 (repeat' first|(with_reducible first|exact rfl|exact True.intro|assumption|apply And.intro|exact hz|exact hL|exact hb)|exact(rfl:Int.ofNat _=_)|exact(rfl:gS _ _=_)|exact hz|exact hL|exact hb|intro hq)
 all_goals first
  |exact bE trivial
theorem Oi(hz:aq z zn)(hk:z.get kk=some (.ax (zJ C)))(hS:ou C){n:Nat}(hn:n=C.length)(h1n:1<=n)(hs:C.length<100000):
 A1 z zn 269 [tb kk n n,I 0,iv n,iu] [] 0 0 T1 []:=by
 have hL:=JV hz hk hS hn h1n hs
 refine aY (lK z) (fn:=Tryz.f269) (by kernel_rfl) (by kernel_rfl) hz ⟨by decide,by decide⟩ rfl (N:=100) ?_
 refine jq z zn kk n _ ?_
 (repeat' first|(with_reducible first|exact rfl|exact True.intro|assumption|apply And.intro|exact hz|exact hL|exact q1)|exact(rfl:Int.ofNat _=_)|exact(rfl:gS _ _=_)|exact hz|exact hL|exact q1|intro hq)
theorem Rl(hz:aq z zn)(hk:z.get kk=some (.ax (zJ C)))(hS:ou C){n:Nat}(hn:n=C.length)(hs:C.length<100000)(l:Nat)(hl:12<n->0<l):
 A1 z zn 254 [tb kk n n,I 0,iv n,iv l,iu] [] 0 0 (.tuple ⟨[]⟩) []:=by
 have hL:ai Tryz.prog (ah (ag Tryz.f254) 0) 0 148 (tg (tb kk n n) n l) [] 0 z zn (Al.R (QG z zn (tb kk n n) n l).l):=by
  refine ak hD (lK z) (α:=Unit) 0 148 0 (fun _=>True) (fun _=>tg (tb kk n n) n l) (fun _=>[]) (fun _=>z) (fun _=>zn) (fun _=>0) _ (fun i hI=>?_) () trivial
  have w0:Value.int .i64 (IntKind.i64.wrap ((n:Int) - 0))=Value.int .i64 ((n:Int) - 0):=qv (by omega) (by omega)
  refine t100 (Ze z zn kk n l (n / 4*2) (aj _ _ _ _ _ _ _ _ _) ⟨w0,?_⟩)
  by_cases h12:n<=12
  ·have d1:decide ((n:Int) - 0<=12)=true:=by simp;omega
   have h1:=Rt hz hk hS hn hs
   refine⟨fun _=>?_,fun h=>(by rw[d1] at h;cases h)⟩
   (repeat' first|(with_reducible first|exact rfl|exact True.intro|assumption|apply And.intro|exact hz|exact h1)|exact(rfl:Int.ofNat _=_)|exact(rfl:gS _ _=_)|exact hz|exact h1|intro hq)
   all_goals exact bE trivial
  ·have d1:decide ((n:Int) - 0<=12)=false:=by simp;omega
   have h1:=Vr hz hk hS hn (by omega) hs
   have h2:=Oi hz hk hS hn (by omega) hs
   have hl0:Value.bool ((l:Int)==0)=Value.bool false:=by
    have:=hl (by omega)
    rw[show((l:Int)==0)=false by simp;omega]
   refine⟨fun h=>(by rw[d1] at h;cases h),fun _=>?_⟩
   (repeat' first|(with_reducible first|exact rfl|exact True.intro|assumption|apply And.intro|exact hz|exact h1|exact h2|exact hl0)|exact(rfl:Int.ofNat _=_)|exact(rfl:gS _ _=_)|exact hz|exact h1|exact h2|exact hl0|intro hq)
   all_goals exact bE trivial
 refine aY (lK z) (fn:=Tryz.f254) (by kernel_rfl) (by kernel_rfl) hz ⟨by decide,by decide⟩ rfl (N:=100) ?_
 refine jp z zn n l kk _ ?_
 (repeat' first|(with_reducible first|exact rfl|exact True.intro|assumption|apply And.intro|exact hz|exact hL|exact q1)|exact(rfl:Int.ofNat _=_)|exact(rfl:gS _ _=_)|exact hz|exact hL|exact q1|intro hq)
theorem Oh(hz:aq z zn)(l:Nat):A1 z zn 254 [ay,I 0,iv 0,iv l,iu] [] 0 0 (.tuple ⟨[]⟩) []:=by
 have hL:ai Tryz.prog (ah (ag Tryz.f254) 0) 0 148 (tg ay 0 l) [] 0 z zn (Al.R (QG z zn ay 0 l).l):=by
  refine ak hD (lK z) (α:=Unit) 0 148 0 (fun _=>True) (fun _=>tg ay 0 l) (fun _=>[]) (fun _=>z) (fun _=>zn) (fun _=>0) _ (fun i hI=>?_) () trivial
  refine t100 (UI z zn l (aj _ _ _ _ _ _ _ _ _) ?_)
  have h1:=Ol hz
  (repeat' first|(with_reducible first|exact rfl|exact True.intro|assumption|apply And.intro|exact hz|exact h1)|exact(rfl:Int.ofNat _=_)|exact(rfl:gS _ _=_)|exact hz|exact h1|intro hq)
  all_goals exact bE trivial
 refine aY (lK z) (fn:=Tryz.f254) (by kernel_rfl) (by kernel_rfl) hz ⟨by decide,by decide⟩ rfl (N:=100) ?_
 refine Zd z zn l _ ?_
 (repeat' first|(with_reducible first|exact rfl|exact True.intro|assumption|apply And.intro|exact hz|exact hL|exact q1)|exact(rfl:Int.ofNat _=_)|exact(rfl:gS _ _=_)|exact hz|exact hL|exact q1|intro hq)
theorem HZ(hz:aq z zn){n:Nat}(h:n<100000):A1 z zn 78 [.int .u64 (IntKind.u64.wrap (n:Int))] [] 0 0 (iv (Lib.bitLen n)) []:=by
 have:IntKind.u64.wrap (n:Int)=(n:Int):=by
  simp only[IntKind.wrap,IntKind.signed,IntKind.bits]
  simp
  omega
 rw[this]
 refine Ii hz rfl rfl fun w=>?_
 have:=KT (n:Int) w (by omega) (by omega)
 rw[Int.toNat_natCast] at this
 exact this
theorem BL{n:Nat}(h:12<n):0<Lib.bitLen n:=by
 unfold Lib.bitLen Lib.bitLenAux
 rw[if_neg (by omega)];omega
theorem Oa(hz:aq z zn)(hk:z.get kk=some (.ax (zJ C)))(hS:ou C){n:Nat}(hn:n=C.length)(hs:C.length<100000):
 A1 z zn 221 [tb kk n n,iu] [] 0 0 (.tuple ⟨[]⟩) []:=by
 have h1:=HZ hz (n:=n) (by omega)
 have h2:=Rl hz hk hS hn hs (Lib.bitLen n) BL
 refine aY (lK z) (fn:=Tryz.f221) (by kernel_rfl) (by kernel_rfl) hz ⟨by decide,by decide⟩ rfl (N:=100) ?_
 refine js z zn kk n (Lib.bitLen n) _ ?_
 (repeat' first|(with_reducible first|exact rfl|exact True.intro|assumption|apply And.intro|exact hz|exact h1|exact h2|exact q1)|exact(rfl:Int.ofNat _=_)|exact(rfl:gS _ _=_)|exact hz|exact h1|exact h2|exact q1|intro hq)
theorem KG(hz:aq z zn):A1 z zn 221 [ay,iu] [] 0 0 (.tuple ⟨[]⟩) []:=by
 have h1:A1 z zn 78 [.int .u64 0] [] 0 0 (iv (Lib.bitLen 0)) []:=HZ hz (n:=0) (by omega)
 have h2:=Oh hz (Lib.bitLen 0)
 refine aY (lK z) (fn:=Tryz.f221) (by kernel_rfl) (by kernel_rfl) hz ⟨by decide,by decide⟩ rfl (N:=100) ?_
 refine Zb z zn (Lib.bitLen 0) _ ?_
 (repeat' first|(with_reducible first|exact rfl|exact True.intro|assumption|apply And.intro|exact hz|exact h1|exact h2|exact q1)|exact(rfl:Int.ofNat _=_)|exact(rfl:gS _ _=_)|exact hz|exact h1|exact h2|exact q1|intro hq)
end
theorem vd{C:List ae}(hS:ou C)(hs:C.length<100000):jW C:=fun z zn s h=>by
 obtain⟨oa,k,z',zn'⟩:=s
 have hz:=h.bN
 rcases h.val with ⟨h1,h2,h3⟩|⟨h1,kk,k1,k2,h2,h3,h4⟩<;>simp only at h2 h3 hz
 ·subst h2 h3
  exact KG hz
 ·simp only at h4
  subst h2 h3
  exact Oa hz h4 hS rfl hs
def RZ(pv:Value):Prop:=(∃m cp,pv=tb 4 m cp)\/pv=ay
def ej(k:Nat):List Value:=List.replicate k (I 1099511627776)
theorem pE(k:Nat):(ej k).length=k:=by simp[ej]
theorem wC(k:Nat):ej (k+1)=ej k++[I 1099511627776]:=by simp[ej,List.replicate_succ']
theorem sN(k:Nat):bG (ej k)=true:=by
 rw[cV];intro v hv;rw[(List.mem_replicate.1 hv).2];rfl
theorem dZ(σ:Nat->Option Nat)(k c:Nat)(x y:Bool):aG σ (.ax (bg.mk (ej k) c 1 3 x y 0 true))=some (.ax (bg.mk (ej k) c 1 3 x y 0 true)):=cF (sN k)
abbrev yB(cs:List Value)(n:Nat):bg:=⟨cs,n*1,1,3,false,false,0,true⟩
abbrev O4(cs:List Value)(k:Nat):bg:=⟨cs,k*1,1,90,false,false,0,true⟩
def dG(b n i:Nat):bg:=if i=0 then ⟨[],0,1,90,true,true,0,true⟩ else O4 (kB b n i) i
section
variable{z:T aa}{zn:Nat}
theorem Gp(hz:aq z zn)(pv:Value)(hp:RZ pv)(n:Nat)(h0:0<n)(hn:n<=64)(b:Bool)(i:Nat)(bl:bg)(hbl: ∀σ,aG (az ((3,3)::σ) []) (.ax bl)=some (.ax bl)):
 ai Tryz.prog (ah (ah (ag Tryz.f189) 0) 0) 3 116 (kU pv n b i 0) [(3, .ax bl),(4,DA)] 5 z zn (Al.R (Nu z zn pv n b i (.ax bl) (ej n)).l):=by
 refine ak hD (cT T.leaf) (α:=Nat) 3 116 5 (fun k=>k<=n) (fun k=>kU pv n b i k) (fun k=>[(3, .ax bl),(4,if k=0 then DA else yC (ej k) k)]) (fun _=>z) (fun _=>zn) (fun k=>n - k) _ (fun k hk=>?_) 0 (Nat.zero_le _)
 have nx: ∀k',k'=k+1->k<n->aj (fun k=>k<=n) (fun k=>kU pv n b i k) (fun k=>[(3, .ax bl),(4,if k=0 then DA else yC (ej k) k)]) 5 (fun _=>z) (fun _=>zn) (fun k=>n - k) (Al.R (Nu z zn pv n b i (.ax bl) (ej n)).l) k .normal (kU pv n b i k') [(3, .ax bl),(4,yC (ej k') k')] 5 z zn:=fun k' e h=>by
  subst e
  exact⟨k+1,rfl,by show _=[(3,aa.ax bl),(4,if k+1=0 then DA else yC (ej (k+1)) (k+1))];rw[if_neg (Nat.succ_ne_zero _)],rfl,rfl,rfl,h,by show n - (k+1)<n - k;omega⟩
 by_cases hk0:k=0
 ·subst hk0
  have hc:decide ((0:Int)<(n:Int))=true:=by simp;omega
  rw[if_pos rfl]
  rcases hp with ⟨m,cp,rfl⟩|rfl
  ·refine t100 (TW z zn n i m cp b bl (aj _ _ _ _ _ _ _ _ _) ⟨fun _=>?_,fun h=>(by rw[hc] at h;cases h)⟩)
   (repeat' first|(with_reducible first|exact rfl|exact True.intro|assumption|apply And.intro|exact hz|exact hbl _)|exact(rfl:Int.ofNat _=_)|exact(rfl:gH _ _=_)|exact hz|exact hbl _|intro hq)
   exact nx 1 rfl h0
  ·refine t100 (P1 z zn n i b bl (aj _ _ _ _ _ _ _ _ _) ⟨fun _=>?_,fun h=>(by rw[hc] at h;cases h)⟩)
   (repeat' first|(with_reducible first|exact rfl|exact True.intro|assumption|apply And.intro|exact hz|exact hbl _)|exact(rfl:Int.ofNat _=_)|exact(rfl:gH _ _=_)|exact hz|exact hbl _|intro hq)
   exact nx 1 rfl h0
 ·rw[if_neg hk0]
  by_cases hlt:k<n
  ·have hc:decide ((k:Int)<(n:Int))=true:=by simp;omega
   have hr: ∀σ c x y,aG σ (.ax (bg.mk (ej k++[I 1099511627776]) c 1 3 x y 0 true))=some (.ax (bg.mk (ej k++[I 1099511627776]) c 1 3 x y 0 true)):=fun σ c x y=>by rw[←wC];exact dZ _ _ _ _ _
   have eS:aj (fun k=>k<=n) (fun k=>kU pv n b i k) (fun k=>[(3, .ax bl),(4,if k=0 then DA else yC (ej k) k)]) 5 (fun _=>z) (fun _=>zn) (fun k=>n - k) (Al.R (Nu z zn pv n b i (.ax bl) (ej n)).l) k .normal (kU pv n b i (k+1)) [(3, .ax bl),(4,yC (ej k++[I 1099511627776]) (k+1))] 5 z zn:=by
    rw[←wC];exact nx (k+1) rfl hlt
   rcases hp with ⟨m,cp,rfl⟩|rfl
   ·refine t100 (Wb z zn n i k m cp b bl (ej k) (aj _ _ _ _ _ _ _ _ _) ⟨fun _=>?_,fun h=>(by rw[hc] at h;cases h)⟩)
    (repeat' first|(with_reducible first|exact rfl|exact True.intro|assumption|apply And.intro|exact hz|exact hbl _|exact hr _ _ _ _|exact(by rw[pE,Nat.mul_one]:(ej k).length=k*1)|exact(by omega:k+1<=1048576)|exact aK (by omega))|exact(rfl:Int.ofNat _=_)|exact(rfl:gH _ _=_)|exact hz|exact hbl _|exact hr _ _ _ _|exact(by rw[pE,Nat.mul_one]:(ej k).length=k*1)|exact(by omega:k+1<=1048576)|exact aK (by omega)|intro hq)
    exact eS
   ·refine t100 (P2 z zn n i k b bl (ej k) (aj _ _ _ _ _ _ _ _ _) ⟨fun _=>?_,fun h=>(by rw[hc] at h;cases h)⟩)
    (repeat' first|(with_reducible first|exact rfl|exact True.intro|assumption|apply And.intro|exact hz|exact hbl _|exact hr _ _ _ _|exact(by rw[pE,Nat.mul_one]:(ej k).length=k*1)|exact(by omega:k+1<=1048576)|exact aK (by omega))|exact(rfl:Int.ofNat _=_)|exact(rfl:gH _ _=_)|exact hz|exact hbl _|exact hr _ _ _ _|exact(by rw[pE,Nat.mul_one]:(ej k).length=k*1)|exact(by omega:k+1<=1048576)|exact aK (by omega)|intro hq)
    exact eS
  ·have hc:decide ((k:Int)<(n:Int))=false:=by simp;omega
   have:k=n:=by omega
   subst this
   rcases hp with ⟨m,cp,rfl⟩|rfl
   ·refine t100 (Wb z zn k i k m cp b bl (ej k) (aj _ _ _ _ _ _ _ _ _) ⟨fun h=>(by rw[hc] at h;cases h),fun _=>?_⟩)
    (repeat' first|(with_reducible first|exact rfl|exact True.intro|assumption|apply And.intro|exact hz|exact hbl _|exact dZ _ _ _ _ _)|exact(rfl:Int.ofNat _=_)|exact(rfl:gH _ _=_)|exact hz|exact hbl _|exact dZ _ _ _ _ _|intro hq)
    exact bE trivial
   ·refine t100 (P2 z zn k i k b bl (ej k) (aj _ _ _ _ _ _ _ _ _) ⟨fun h=>(by rw[hc] at h;cases h),fun _=>?_⟩)
    (repeat' first|(with_reducible first|exact rfl|exact True.intro|assumption|apply And.intro|exact hz|exact hbl _|exact dZ _ _ _ _ _)|exact(rfl:Int.ofNat _=_)|exact(rfl:gH _ _=_)|exact hz|exact hbl _|exact dZ _ _ _ _ _|intro hq)
    exact bE trivial
structure iB(z0:T aa)(n0 n i:Nat)(s:dq):Prop where
 bN:aq s.z s.zn
 zn:s.zn=n0+i
 ie: ∀k,k<n0->s.z.get k=z0.get k
 row: ∀j,j<i->s.z.get (n0+j)=some (.ax (yB (ej n) n))
 bl:s.bl=dG n0 n i
theorem kP{σ:bA}(b n i c:Nat):aG (az σ []) (.ax (bg.mk (kB b n i) c 1 90 false false 0 true))=some (.ax (bg.mk (kB b n i) c 1 90 false false 0 true)):=by
 have:=oN (σ:=az σ []) (b:=b) (n:=n) (i:=i) fun j _=>B7 σ _
 simp only[aG,this]
theorem bQ{σ:bA}(b n i:Nat):aG (az σ []) (.ax (dG b n i))=some (.ax (dG b n i)):=by
 unfold dG
 split
 ·rfl
 ·exact kP _ _ _ _
theorem GM{z0:T aa}{n0 n i:Nat}{z:T aa}(h:iB z0 n0 n i ⟨dG n0 n i,z,n0+i⟩):iB z0 n0 n (i+1) ⟨O4 (kB n0 n i++[tb (n0+i) n n]) (i+1),z.set (n0+i) (.ax (yB (ej n) n)),n0+i+1⟩:=by
 have hz:aq z (n0+i):=h.bN
 refine⟨iX hz (sN n),rfl,fun k hk=>?_,fun j hj=>?_,?_⟩
 ·show(z.set (n0+i) _).get k=_
  rw[T.aL,if_neg (by omega)];exact h.ie k hk
 ·show(z.set (n0+i) _).get (n0+j)=_
  rw[T.aL]
  by_cases e:j=i
  ·subst e;rw[if_pos rfl]
  ·rw[if_neg (by omega)];exact h.row j (by omega)
 ·show _=dG n0 n (i+1)
  unfold dG
  rw[if_neg (Nat.succ_ne_zero _),oA]
theorem zp(z0:T aa)(n0:Nat)(hz0:aq z0 n0)(h5:5<=n0)(pv:Value)(hp:RZ pv)(n:Nat)(hn:n<=64)(b:Bool):
 ai Tryz.prog (ah (ag Tryz.f189) 0) 1 116 (o7 pv n b 0) [(1,Ei)] 2 z0 n0 (Al.R (Nv z0 n0 pv n b (iB z0 n0 n n)).l):=by
 refine ak hD (cT T.leaf) (α:=Nat × T aa) 1 116 2 (fun t=>t.1<=n/\iB z0 n0 n t.1 ⟨dG n0 n t.1,t.2,n0+t.1⟩) (fun t=>o7 pv n b t.1) (fun t=>[(1, .ax (dG n0 n t.1))]) (fun t=>t.2) (fun t=>n0+t.1) (fun t=>n - t.1) _ (fun t hI=>?_) (0,z0) ⟨Nat.zero_le _,hz0,rfl,fun _ _=>rfl,fun j hj=>absurd hj (Nat.not_lt_zero _),rfl⟩
 obtain⟨i,z⟩:=t
 obtain⟨hi,hs⟩:=hI
 simp only at hi hs ⊢
 have hz:aq z (n0+i):=hs.bN
 have rX: ∀σ,aG (az ((3,3)::σ) []) (.ax (dG n0 n i))=some (.ax (dG n0 n i)):=fun σ=>bQ _ _ _
 have rT: ∀{σ:bA} {o:aa} {m cp:Nat},aX (az σ [(n0+i,4,o)]) (tb 4 m cp)=some (tb 4 m cp):=fun {σ o m cp}=>by
  simp only[aX,mL (σ:=σ) (c:=4) (o:=o) (show 4≠n0+i by omega)]
 have rR: ∀σ o,aG (az σ [(n0+i,4,o)]) (.ax (bg.mk (kB n0 n i++[tb (n0+i) n n]) ((i+1)*1) 1 90 false false 0 true))=some (.ax (bg.mk (kB n0 n i++[aZ 4 n n]) ((i+1)*1) 1 90 false false 0 true)):=fun σ o=>by
  have q1:=oN (σ:=az σ [(n0+i,4,o)]) (b:=n0) (n:=n) (i:=i) fun j hj=>mL (by omega)
  have q2:bz (az σ [(n0+i,4,o)]) [tb (n0+i) n n]=some [aZ 4 n n]:=by
   have:=oO (σ:=σ) (k:=n0+i) (c:=4) (n:=n) (m:=n) (o:=o)
   simp only[bz,this]
  simp only[aG,lS q1 q2]
 by_cases hlt:i<n
 ·have nx:aj (fun t:Nat × T aa=>t.1<=n/\iB z0 n0 n t.1 ⟨dG n0 n t.1,t.2,n0+t.1⟩) (fun t=>o7 pv n b t.1) (fun t=>[(1, .ax (dG n0 n t.1))]) 2 (fun t=>t.2) (fun t=>n0+t.1) (fun t=>n - t.1) (Al.R (Nv z0 n0 pv n b (iB z0 n0 n n)).l) (i,z) .normal (o7 pv n b (i+1)) [(1, .ax (O4 (kB n0 n i++[tb (n0+i) n n]) (i+1)))] 2 (z.set (n0+i) (.ax (yB (ej n) n))) (n0+i+1):=by
   have e:dG n0 n (i+1)=O4 (kB n0 n i++[tb (n0+i) n n]) (i+1):=by
    unfold dG;rw[if_neg (Nat.succ_ne_zero _),oA]
   refine⟨(i+1,z.set (n0+i) (.ax (yB (ej n) n))),rfl,?_,rfl,rfl,rfl,⟨hlt,?_⟩,by show n - (i+1)<n - i;omega⟩
   ·show _=[(1,aa.ax (dG n0 n (i+1)))]
    rw[e]
   ·have:=GM hs
    rw[←e] at this;exact this
  have hl1:=Gp hz pv hp n (by omega) hn b i (dG n0 n i) rX
  by_cases hi0:i=0
  ·subst hi0
   have hc:decide ((0:Int)<(n:Int))=true:=by simp;omega
   rw[show dG n0 n 0=⟨[],0,1,90,true,true,0,true⟩ from rfl] at hl1 ⊢
   have rR':=fun σ o=>rR σ o
   rcases hp with ⟨m,cp,rfl⟩|rfl
   ·refine t100 (P3 z (n0+0) n m cp b (ej n) (aj _ _ _ _ _ _ _ _ _) ⟨fun _=>?_,fun h=>(by rw[hc] at h;cases h)⟩)
    (repeat' first|(with_reducible first|exact rfl|exact True.intro|assumption|apply And.intro|exact hz|exact hl1|exact rT|exact rR _ _|exact dZ _ _ _ _ _|exact Nat.le_succ _|exact Nat.le_refl _|exact Nat.lt_succ_self _)|exact(rfl:Int.ofNat _=_)|exact(rfl:gH _ _=_)|exact hz|exact hl1|exact rT|exact rR _ _|exact dZ _ _ _ _ _|exact Nat.le_succ _|exact Nat.le_refl _|exact Nat.lt_succ_self _|intro hq)
    exact nx
   ·refine t100 (Lv z (n0+0) n b (ej n) (aj _ _ _ _ _ _ _ _ _) ⟨fun _=>?_,fun h=>(by rw[hc] at h;cases h)⟩)
    (repeat' first|(with_reducible first|exact rfl|exact True.intro|assumption|apply And.intro|exact hz|exact hl1|exact rT|exact rR _ _|exact dZ _ _ _ _ _|exact Nat.le_succ _|exact Nat.le_refl _|exact Nat.lt_succ_self _)|exact(rfl:Int.ofNat _=_)|exact(rfl:gH _ _=_)|exact hz|exact hl1|exact rT|exact rR _ _|exact dZ _ _ _ _ _|exact Nat.le_succ _|exact Nat.le_refl _|exact Nat.lt_succ_self _|intro hq)
    exact nx
  ·have hc:decide ((i:Int)<(n:Int))=true:=by simp;omega
   have eX:dG n0 n i=O4 (kB n0 n i) i:=by unfold dG;rw[if_neg hi0]
   rw[eX] at hl1 ⊢
   rcases hp with ⟨m,cp,rfl⟩|rfl
   ·refine t100 (Wc z (n0+i) n i m cp b (kB n0 n i) (ej n) (aj _ _ _ _ _ _ _ _ _) ⟨fun _=>?_,fun h=>(by rw[hc] at h;cases h)⟩)
    (repeat' first|(with_reducible first|exact rfl|exact True.intro|assumption|apply And.intro|exact hz|exact hl1|exact rT|exact rR _ _|exact kP _ _ _ _|exact dZ _ _ _ _ _|exact(by rw[kE,Nat.mul_one]:(kB n0 n i).length=i*1)|exact(by omega:i+1<=1048576)|exact aK (by omega)|exact Nat.le_succ _|exact Nat.le_refl _|exact Nat.lt_succ_self _)|exact(rfl:Int.ofNat _=_)|exact(rfl:gH _ _=_)|exact hz|exact hl1|exact rT|exact rR _ _|exact kP _ _ _ _|exact dZ _ _ _ _ _|exact(by rw[kE,Nat.mul_one]:(kB n0 n i).length=i*1)|exact(by omega:i+1<=1048576)|exact aK (by omega)|exact Nat.le_succ _|exact Nat.le_refl _|exact Nat.lt_succ_self _|intro hq)
    exact nx
   ·refine t100 (P4 z (n0+i) n i b (kB n0 n i) (ej n) (aj _ _ _ _ _ _ _ _ _) ⟨fun _=>?_,fun h=>(by rw[hc] at h;cases h)⟩)
    (repeat' first|(with_reducible first|exact rfl|exact True.intro|assumption|apply And.intro|exact hz|exact hl1|exact rT|exact rR _ _|exact kP _ _ _ _|exact dZ _ _ _ _ _|exact(by rw[kE,Nat.mul_one]:(kB n0 n i).length=i*1)|exact(by omega:i+1<=1048576)|exact aK (by omega)|exact Nat.le_succ _|exact Nat.le_refl _|exact Nat.lt_succ_self _)|exact(rfl:Int.ofNat _=_)|exact(rfl:gH _ _=_)|exact hz|exact hl1|exact rT|exact rR _ _|exact kP _ _ _ _|exact dZ _ _ _ _ _|exact(by rw[kE,Nat.mul_one]:(kB n0 n i).length=i*1)|exact(by omega:i+1<=1048576)|exact aK (by omega)|exact Nat.le_succ _|exact Nat.le_refl _|exact Nat.lt_succ_self _|intro hq)
    exact nx
 ·have hin:i=n:=by omega
  subst hin
  have hc:decide ((i:Int)<(i:Int))=false:=by simp
  have fin:aj (fun t:Nat × T aa=>t.1<=i/\iB z0 n0 i t.1 ⟨dG n0 i t.1,t.2,n0+t.1⟩) (fun t=>o7 pv i b t.1) (fun t=>[(1, .ax (dG n0 i t.1))]) 2 (fun t=>t.2) (fun t=>n0+t.1) (fun t=>i - t.1) (Al.R (Nv z0 n0 pv i b (iB z0 n0 i i)).l) (i,z) (.exit 0) [(0,pv),(1,iv i),(2, .bool b),(7,aZ 1 i i)] [(1, .ax (dG n0 i i))] 2 z (n0+i):=
   BT (k:=fun _=>eA) (⟨dG n0 i i,z,n0+i⟩:dq) hs rfl
  by_cases hi0:i=0
  ·subst hi0
   have hc:decide ((0:Int)<((0:Nat):Int))=false:=by simp
   rcases hp with ⟨m,cp,rfl⟩|rfl
   ·refine t100 (P3 z (n0+0) 0 m cp b (ej 0) (aj _ _ _ _ _ _ _ _ _) ⟨fun h=>(by rw[hc] at h;cases h),fun _=>?_⟩)
    (repeat' first|(with_reducible first|exact rfl|exact True.intro|assumption|apply And.intro|exact hz)|exact(rfl:Int.ofNat _=_)|exact(rfl:gH _ _=_)|exact hz|intro hq)
    exact fin
   ·refine t100 (Lv z (n0+0) 0 b (ej 0) (aj _ _ _ _ _ _ _ _ _) ⟨fun h=>(by rw[hc] at h;cases h),fun _=>?_⟩)
    (repeat' first|(with_reducible first|exact rfl|exact True.intro|assumption|apply And.intro|exact hz)|exact(rfl:Int.ofNat _=_)|exact(rfl:gH _ _=_)|exact hz|intro hq)
    exact fin
  ·have eX:dG n0 i i=O4 (kB n0 i i) i:=by unfold dG;rw[if_neg hi0]
   rw[eX] at fin ⊢
   rcases hp with ⟨m,cp,rfl⟩|rfl
   ·refine t100 (Wc z (n0+i) i i m cp b (kB n0 i i) (ej i) (aj _ _ _ _ _ _ _ _ _) ⟨fun h=>(by rw[hc] at h;cases h),fun _=>?_⟩)
    (repeat' first|(with_reducible first|exact rfl|exact True.intro|assumption|apply And.intro|exact hz|exact kP _ _ _ _|exact aT _ _ _ _)|exact(rfl:Int.ofNat _=_)|exact(rfl:gH _ _=_)|exact hz|exact kP _ _ _ _|exact aT _ _ _ _|intro hq)
   ·refine t100 (P4 z (n0+i) i i b (kB n0 i i) (ej i) (aj _ _ _ _ _ _ _ _ _) ⟨fun h=>(by rw[hc] at h;cases h),fun _=>?_⟩)
    (repeat' first|(with_reducible first|exact rfl|exact True.intro|assumption|apply And.intro|exact hz|exact kP _ _ _ _)|exact(rfl:Int.ofNat _=_)|exact(rfl:gH _ _=_)|exact hz|exact kP _ _ _ _|intro hq)
end
structure EX(z0:T aa)(n0 n:Nat)(z:T aa)(M:Nat->Nat->Int):Prop where
 bN:aq z (n0+n)
 ie: ∀k,k<n0->z.get k=z0.get k
 row: ∀i,i<n-> ∃l:List Int,z.get (n0+i)=some (.ax (yB (l.map zv) n))/\l.length=n/\ ∀j,j<n->l[j]? =some (M i j)
abbrev lj:Nat:=1099511627776
structure BM(n:Nat)(M:Nat->Nat->Int):Prop where
 le: ∀i j,i<n->j<n->M i j<=(lj:Int)
theorem oY{z0:T aa}{n0 n:Nat}{z:T aa}{M:Nat->Nat->Int}(h:EX z0 n0 n z M){i j:Nat}(hi:i<n)(hj:j<n){l:List Int}(hl: ∀j,j<n->l[j]? =some (M i j)):aB Tryz.prog (yB (l.map zv) n) 3 (0+j*1)=some (zv (M i j)):=
 iV (d:=_) Tryz.underlying3 rfl (by show(l.map zv)[j]? =_;rw[List.getElem?_map,hl j hj];rfl)
theorem FT(l:List Int):bG (l.map zv)=true:=by
 rw[cV];intro v hv
 obtain⟨x,_,rfl⟩:=List.mem_map.1 hv;rfl
theorem CG{z0:T aa}{n0 n:Nat}{z:T aa}{M:Nat->Nat->Int}(h:EX z0 n0 n z M){i j:Nat}(hi:i<n)(hj:j<n){l:List Int}(hll:l.length=n)(hl: ∀j,j<n->l[j]? =some (M i j))(w:Int):EX z0 n0 n (z.set (n0+i) (.ax (yB ((l.set j w).map zv) n))) (nw M i j w):=by
 refine⟨zI h.bN (by omega) fun σ _=>cF (FT _),fun k hk=>?_,fun a ha=>?_⟩
 ·rw[T.aL,if_neg (by omega)];exact h.ie k hk
 ·by_cases e:a=i
  ·subst e
   refine⟨l.set j w,by rw[T.aL,if_pos rfl],by rw[List.length_set,hll],fun b hb=>?_⟩
   rw[List.getElem?_set]
   unfold nw
   by_cases e2:j=b
   ·subst e2;rw[if_pos rfl,if_pos (by omega),if_pos ⟨rfl,rfl⟩]
   ·rw[if_neg e2,if_neg (fun h=>e2 h.2.symm)];exact hl b hb
  ·obtain⟨l',k1,k2,k3⟩:=h.row a ha
   refine⟨l',by rw[T.aL,if_neg (by omega)];exact k1,k2,fun b hb=>?_⟩
   unfold nw
   rw[if_neg (fun h=>e h.1)];exact k3 b hb
theorem Eh(b n i:Nat):(dG b n i).cells=kB b n i:=by
 unfold dG
 split
 ·rename_i e;subst e;rfl
 ·rfl
theorem MW{b n m i:Nat}(h:i<m):(kB b n m)[i]? =some (tb (b+i) n n):=by
 unfold kB
 rw[List.getElem?_map,List.getElem?_range h];rfl
theorem px{b n i:Nat}(h:i<n):aB Tryz.prog (dG b n n) 90 (0+i*1)=some (tb (b+i) n n):=iV Tryz.underlying90 rfl (by rw[Eh];exact MW h)
theorem Oo{n:Nat}{M:Nat->Nat->Int}(h:BM n M)(i j:Nat){w:Int}(hw:w<=(lj:Int)):BM n (nw M i j w):=⟨fun a b ha hb=>by
 unfold nw;split
 ·exact hw
 ·exact h.le a b ha hb⟩
section
variable{z0:T aa}{n0:Nat}
def FW(z0:T aa)(n0 n:Nat)(E:bX)(k i j:Nat)(z:T aa):Prop:= ∃M,EX z0 n0 n z M/\BM n M/\OV E n lj k i j M
theorem FW.bN{n:Nat}{E:bX}{k i j:Nat}{z:T aa}(h:FW z0 n0 n E k i j z):aq z (n0+n):=by obtain⟨M,h,_⟩:=h;exact h.bN
theorem Gl(n:Nat)(hn:n<=64)(E:bX)(k i:Nat)(hk:k<n)(hi:i<n)(z:T aa)(hz:FW z0 n0 n E k i 0 z):
 ai Tryz.prog (ah (ah (ah (ag Tryz.f189) 3) 0) 0) 2 116 (DM n k i 0) [(1, .ax (dG n0 n n))] 2 z (n0+n) (Al.R (Uq (n0+n) n k i (dG n0 n n) (FW z0 n0 n E k i n)).l):=by
 refine ak hD (cT T.leaf) (α:=Nat × T aa) 2 116 2 (fun t=>t.1<=n/\FW z0 n0 n E k i t.1 t.2) (fun t=>DM n k i t.1) (fun t=>[(1, .ax (dG n0 n n))]) (fun t=>t.2) (fun t=>n0+n) (fun t=>n - t.1) _ (fun t hI=>?_) (0,z) ⟨Nat.zero_le _,hz⟩
 obtain⟨j,z⟩:=t
 obtain⟨hj,hs⟩:=hI
 simp only at hj hs ⊢
 have hfz:=hs.bN
 obtain⟨M,h1,h2,h3⟩:=hs
 by_cases hlt:j<n
 ·have hc:decide ((j:Int)<(n:Int))=true:=by simp;omega
  obtain⟨li,i1,i2,i3⟩:=h1.row i hi
  obtain⟨lk,k1,k2,k3⟩:=h1.row k hk
  have r1:=oY h1 hi hlt i3
  have r2:=oY h1 hi hk i3
  have r3:=oY h1 hk hlt k3
  have d1:aB Tryz.prog (dG n0 n n) 90 (0+i*1)=_:=px hi
  have d2:aB Tryz.prog (dG n0 n n) 90 (0+k*1)=_:=px hk
  have b1:=h2.le i j hi hlt
  have b2:=h2.le i k hi hk
  have b3:=h2.le k j hk hlt
  have c2:=(h3.real i k hi hk).1
  have c3:=(h3.real k j hk hlt).1
  have hbig:(lj:Int)=1099511627776:=rfl
  have hwr:Value.int .i64 (IntKind.i64.wrap (M i k+M k j))=Value.int .i64 (M i k+M k j):=ia (by omega) (by omega)
  have hw:(if M i k+M k j<M i j then M i k+M k j else M i j)=min (M i j) (M i k+M k j):=by
   split<;>omega
  have ov:overwrite (yB (li.map zv) n).cells (0+j*1) [zv (if M i k+M k j<M i j then M i k+M k j else M i j)]=some ((li.set j (min (M i j) (M i k+M k j))).map zv):=by
   rw[hw,oT (cs:=li.map zv) (by simp;omega),←List.map_set]
  have hset:=CG h1 hi hlt i2 i3 (min (M i j) (M i k+M k j))
  have hfw:FW z0 n0 n E k i (j+1) (z.set (n0+i) (.ax (yB ((li.set j (min (M i j) (M i k+M k j))).map zv) n))):=⟨_,hset,Oo h2 i j (by omega),F9 h3 hk hi hlt⟩
  have hfz2:=hfw.bN
  have hl:((li.set j (min (M i j) (M i k+M k j))).map zv).length<=n*1:=by simp[i2]
  refine t100 (V7 z (n0+n) n k i j (n0+i) (n0+k) (dG n0 n n) (yB (li.map zv) n) (yB (lk.map zv) n) (M i j) (M i k) (M k j) (min (M i j) (M i k+M k j)) ((li.set j (min (M i j) (M i k+M k j))).map zv) (aj _ _ _ _ _ _ _ _ _) ⟨fun _=>?_,fun h=>(by rw[hc] at h;cases h)⟩)
  (repeat' first|(with_reducible first|exact rfl|exact True.intro|assumption|apply And.intro|exact hfz|exact hfz2|exact hlt|exact hi|exact hk|exact i1|exact k1|exact r1|exact r2|exact r3|exact d1|exact d2|exact ov|exact hl|exact bQ _ _ _|exact aK (by omega)|exact hwr)|exact(rfl:Int.ofNat _=_)|exact(rfl:gH _ _=_)|exact hfz|exact hfz2|exact hlt|exact hi|exact hk|exact i1|exact k1|exact r1|exact r2|exact r3|exact d1|exact d2|exact ov|exact hl|exact bQ _ _ _|exact aK (by omega)|exact hwr|intro hq)
  exact⟨(j+1,_),rfl,rfl,rfl,rfl,rfl,⟨hlt,hfw⟩,by show n - (j+1)<n - j;omega⟩
 ·have hjn:j=n:=by omega
  subst hjn
  have hc:decide ((j:Int)<(j:Int))=false:=by simp
  refine t100 (V7 z (n0+j) j k i j 0 0 (dG n0 j j) ⟨[],0,0,0,true,true,0,true⟩ ⟨[],0,0,0,true,true,0,true⟩ 0 0 0 0 [] (aj _ _ _ _ _ _ _ _ _) ⟨fun h=>(by rw[hc] at h;cases h),fun _=>?_⟩)
  (repeat' first|(with_reducible first|exact rfl|exact True.intro|assumption|apply And.intro|exact hfz|exact bQ _ _ _)|exact(rfl:Int.ofNat _=_)|exact(rfl:gH _ _=_)|exact hfz|exact bQ _ _ _|intro hq)
  exact BT (k:=fun _=>eA) z ⟨M,h1,h2,h3⟩ rfl
theorem Gm(n:Nat)(hn:n<=64)(E:bX)(k:Nat)(hk:k<n)(z:T aa)(hz:FW z0 n0 n E k 0 0 z):
 ai Tryz.prog (ah (ah (ag Tryz.f189) 3) 0) 2 116 (xe n k 0) [(1, .ax (dG n0 n n))] 2 z (n0+n) (Al.R (Ur (n0+n) n k (dG n0 n n) (FW z0 n0 n E k n 0)).l):=by
 refine ak hD (cT T.leaf) (α:=Nat × T aa) 2 116 2 (fun t=>t.1<=n/\FW z0 n0 n E k t.1 0 t.2) (fun t=>xe n k t.1) (fun t=>[(1, .ax (dG n0 n n))]) (fun t=>t.2) (fun t=>n0+n) (fun t=>n - t.1) _ (fun t hI=>?_) (0,z) ⟨Nat.zero_le _,hz⟩
 obtain⟨i,z⟩:=t
 obtain⟨hi,hs⟩:=hI
 simp only at hi hs ⊢
 have hfz:=hs.bN
 by_cases hlt:i<n
 ·have hc:decide ((i:Int)<(n:Int))=true:=by simp;omega
  have hlp:=Gl n hn E k i hk hlt z hs
  refine t100 (V8 z (n0+n) n k i (dG n0 n n) (FW z0 n0 n E k i n) (aj _ _ _ _ _ _ _ _ _) ⟨fun _=>?_,fun h=>(by rw[hc] at h;cases h)⟩)
  (repeat' first|(with_reducible first|exact rfl|exact True.intro|assumption|apply And.intro|exact hfz|exact hlt|exact hlp|exact FW.bN (by with_reducible assumption)|exact bQ _ _ _|exact aK (by omega))|exact(rfl:Int.ofNat _=_)|exact(rfl:gH _ _=_)|exact hfz|exact hlt|exact hlp|exact FW.bN (by with_reducible assumption)|exact bQ _ _ _|exact aK (by omega)|intro hq)
  rename_i x
  obtain⟨M,m1,m2,m3⟩:=hq
  exact⟨(i+1,x),rfl,rfl,rfl,rfl,rfl,⟨hlt,M,m1,m2,JB m3⟩,by show n - (i+1)<n - i;omega⟩
 ·have hin:i=n:=by omega
  subst hin
  have hc:decide ((i:Int)<(i:Int))=false:=by simp
  refine t100 (V8 z (n0+i) i k i (dG n0 i i) (fun _=>False) (aj _ _ _ _ _ _ _ _ _) ⟨fun h=>(by rw[hc] at h;cases h),fun _=>?_⟩)
  (repeat' first|(with_reducible first|exact rfl|exact True.intro|assumption|apply And.intro|exact hfz|exact bQ _ _ _)|exact(rfl:Int.ofNat _=_)|exact(rfl:gH _ _=_)|exact hfz|exact bQ _ _ _|intro hq)
  exact BT (k:=fun _=>eA) z hs rfl
def FH(z0:T aa)(n0 n:Nat)(E:bX)(k:Nat)(z:T aa):Prop:= ∃M,EX z0 n0 n z M/\BM n M/\Head E n lj k M
theorem FH.bN{n:Nat}{E:bX}{k:Nat}{z:T aa}(h:FH z0 n0 n E k z):aq z (n0+n):=by obtain⟨M,h,_⟩:=h;exact h.bN
theorem zl(n:Nat)(hn:n<=64)(E:bX)(z:T aa)(hz:FH z0 n0 n E 0 z):
 ai Tryz.prog (ah (ag Tryz.f189) 3) 2 116 (qk n 0) [(1, .ax (dG n0 n n))] 2 z (n0+n) (Al.R (Nt n ⟨dG n0 n n,z,n0+n⟩ (FH z0 n0 n E n)).l):=by
 refine ak hD (cT T.leaf) (α:=Nat × T aa) 2 116 2 (fun t=>t.1<=n/\FH z0 n0 n E t.1 t.2) (fun t=>qk n t.1) (fun t=>[(1, .ax (dG n0 n n))]) (fun t=>t.2) (fun t=>n0+n) (fun t=>n - t.1) _ (fun t hI=>?_) (0,z) ⟨Nat.zero_le _,hz⟩
 obtain⟨k,z⟩:=t
 obtain⟨hk,hs⟩:=hI
 simp only at hk hs ⊢
 have hfz:=hs.bN
 by_cases hlt:k<n
 ·have hc:decide ((k:Int)<(n:Int))=true:=by simp;omega
  have hlp:=Gm (z0:=z0) (n0:=n0) n hn E k hlt z (by obtain⟨M,m1,m2,m3⟩:=hs;exact⟨M,m1,m2,DK m3⟩)
  refine t100 (V9 z (n0+n) n k (dG n0 n n) (FW z0 n0 n E k n 0) (aj _ _ _ _ _ _ _ _ _) ⟨fun _=>?_,fun h=>(by rw[hc] at h;cases h)⟩)
  (repeat' first|(with_reducible first|exact rfl|exact True.intro|assumption|apply And.intro|exact hfz|exact hlt|exact hlp|exact FW.bN (by with_reducible assumption)|exact bQ _ _ _|exact aK (by omega))|exact(rfl:Int.ofNat _=_)|exact(rfl:gH _ _=_)|exact hfz|exact hlt|exact hlp|exact FW.bN (by with_reducible assumption)|exact bQ _ _ _|exact aK (by omega)|intro hq)
  rename_i x
  obtain⟨M,m1,m2,m3⟩:=hq
  exact⟨(k+1,x),rfl,rfl,rfl,rfl,rfl,⟨hlt,M,m1,m2,JC m3⟩,by show n - (k+1)<n - k;omega⟩
 ·have hkn:k=n:=by omega
  subst hkn
  have hc:decide ((k:Int)<(k:Int))=false:=by simp
  refine t100 (V9 z (n0+k) k k (dG n0 k k) (fun _=>False) (aj _ _ _ _ _ _ _ _ _) ⟨fun h=>(by rw[hc] at h;cases h),fun _=>?_⟩)
  (repeat' first|(with_reducible first|exact rfl|exact True.intro|assumption|apply And.intro|exact hfz|exact bQ _ _ _)|exact(rfl:Int.ofNat _=_)|exact(rfl:gH _ _=_)|exact hfz|exact bQ _ _ _|intro hq)
  exact BT (k:=fun _=>eA) z hs rfl
end
def eL(l:List ae)(b:Bool):List (Nat × Nat × Nat):=(l.filter (eT b)).map fun p=>(p.from_.toNat,p.an.toNat,p.aH.toNat)
theorem Gh{l:List ae}{b:Bool}{i:Nat}{x:ae}(hx:l[i]? =some x)(hu:eT b x=true):eL (l.take (i+1)) b=eL (l.take i) b++[(x.from_.toNat,x.an.toNat,x.aH.toNat)]:=by
 unfold eL
 rw[List.take_add_one,hx]
 simp[List.filter_append,hu]
theorem JG{l:List ae}{b:Bool}{i:Nat}{x:ae}(hx:l[i]? =some x)(hu:eT b x=false):eL (l.take (i+1)) b=eL (l.take i) b:=by
 unfold eL
 rw[List.take_add_one,hx]
 simp[List.filter_append,hu]
def FE(z0:T aa)(n0 n:Nat)(L:List (Nat × Nat × Nat))(z:T aa):Prop:= ∃M,EX z0 n0 n z M/\Av L n lj M
section
variable{z0:T aa}{n0:Nat}
theorem FE.bN{n:Nat}{L:List (Nat × Nat × Nat)}{z:T aa}(h:FE z0 n0 n L z):aq z (n0+n):=by obtain⟨M,h,_⟩:=h;exact h.bN
theorem FE.head{n:Nat}{L:List (Nat × Nat × Nat)}{z:T aa}(h:FE z0 n0 n L z):FH z0 n0 n (cW L) 0 z:=by
 obtain⟨M,h1,h2⟩:=h
 exact⟨M,h1,⟨fun i j hi hj=>(h2 i j hi hj).2.1⟩,Bl h2⟩
theorem zM{n:Nat}{s:dq}(h:iB z0 n0 n n s):FE z0 n0 n [] s.z:=by
 refine⟨fun _ _=>(lj:Int),⟨?_,h.ie,fun i hi=>?_⟩,D5 n lj⟩
 ·have:=h.bN;rw[h.zn] at this;exact this
 ·refine⟨List.replicate n (lj:Int),?_,List.length_replicate ..,fun j hj=>by simp[hj]⟩
  rw[h.row i hi]
  show some (aa.ax (yB (ej n) n))=some (aa.ax (yB ((List.replicate n (lj:Int)).map zv) n))
  rw[List.map_replicate];rfl
theorem Gn(n:Nat)(hn:n<=64)(l:List ae)(hl:mG n l)(hll:l.length<=10000)(cp:Nat)(hL0:cu z0 4 (l.map ae.row))(hz0:aq z0 n0)(b:Bool)(s:dq)(hs:iB z0 n0 n n s):
 ai Tryz.prog (ah (ag Tryz.f189) 2) 2 116 (y7 l.length cp n b 0) [(1, .ax s.bl)] 2 s.z s.zn (Al.R (Qp l.length cp n b s (FE z0 n0 n (eL l b))).l):=by
 have hst:=zM hs
 obtain⟨bl,z,zn⟩:=s
 have e1:zn=n0+n:=hs.zn
 have e2:bl=dG n0 n n:=hs.bl
 subst e1 e2
 refine ak hD (cT T.leaf) (α:=Nat × T aa) 2 116 2 (fun t=>t.1<=l.length/\FE z0 n0 n (eL (l.take t.1) b) t.2) (fun t=>y7 l.length cp n b t.1) (fun t=>[(1, .ax (dG n0 n n))]) (fun t=>t.2) (fun t=>n0+n) (fun t=>l.length - t.1) _ (fun t hI=>?_) (0,z) ⟨Nat.zero_le _,hst⟩
 obtain⟨i,z⟩:=t
 obtain⟨hi,hs⟩:=hI
 simp only at hi hs ⊢
 have hfz:=hs.bN
 by_cases hlt:i<l.length
 ·obtain⟨x,hx⟩:=ey hlt
  have hc:decide ((i:Int)<(l.length:Int))=true:=by simp;omega
  obtain⟨p1,p2,p3,p4,_,p6,p7⟩:=hl.ok x (List.mem_of_getElem? hx)
  obtain⟨M,h1,h2⟩:=hs
  have hL:=j8 hL0 hz0 h1.ie
  obtain⟨el,hel⟩:=hL.ax (i:=i) (by simp;omega)
  have r0:aB Tryz.prog (br el (l.map ae.row).flatten) 141 (0+i*4)=some (.agg ⟨x.row⟩):=bJ (r:=x.row) (sz:=4) Tryz.underlying141 rfl rfl (aO (row:=ae.row) (sz:=4) l fun _=>rfl) (by rw[List.getElem?_map,hx];rfl)
  have hf:x.from_.toNat<n:=by omega
  have ht:x.an.toNat<n:=by omega
  have ef:x.from_=(x.from_.toNat:Int):=by omega
  have et:x.an=(x.an.toNat:Int):=by omega
  obtain⟨li,i1,i2,i3⟩:=h1.row _ hf
  have r1:=oY h1 hf ht i3
  have d1:aB Tryz.prog (dG n0 n n) 90 (0+x.from_.toNat*1)=_:=px hf
  have hw:(if x.aH<M x.from_.toNat x.an.toNat then x.aH else M x.from_.toNat x.an.toNat)=min (M x.from_.toNat x.an.toNat) (x.aH.toNat:Int):=by
   split<;>omega
  have ov:overwrite (yB (li.map zv) n).cells (0+x.an.toNat*1) [zv (if x.aH<M x.from_.toNat x.an.toNat then x.aH else M x.from_.toNat x.an.toNat)]=some ((li.set x.an.toNat (min (M x.from_.toNat x.an.toNat) (x.aH.toNat:Int))).map zv):=by
   rw[hw,oT (cs:=li.map zv) (by simp;omega),←List.map_set]
  have hset:=CG h1 hf ht i2 i3 (min (M x.from_.toNat x.an.toNat) (x.aH.toNat:Int))
  have hfz2:=hset.bN
  have hlen:((li.set x.an.toNat (min (M x.from_.toNat x.an.toNat) (x.aH.toNat:Int))).map zv).length<=n*1:=by simp[i2]
  have nx: ∀z',FE z0 n0 n (eL (l.take (i+1)) b) z'->aj (fun t:Nat × T aa=>t.1<=l.length/\FE z0 n0 n (eL (l.take t.1) b) t.2) (fun t=>y7 l.length cp n b t.1) (fun t=>[(1, .ax (dG n0 n n))]) 2 (fun t=>t.2) (fun t=>n0+n) (fun t=>l.length - t.1) (Al.R (Qp l.length cp n b ⟨dG n0 n n,z,n0+n⟩ (FE z0 n0 n (eL l b))).l) (i,z) .normal (y7 l.length cp n b (i+1)) [(1, .ax (dG n0 n n))] 2 z' (n0+n):=fun z' h=>
   ⟨(i+1,z'),rfl,rfl,rfl,rfl,rfl,⟨hlt,h⟩,by show l.length - (i+1)<l.length - i;omega⟩
  have yes:eT b x=true->FE z0 n0 n (eL (l.take (i+1)) b) (z.set (n0+x.from_.toNat) (.ax (yB ((li.set x.an.toNat (min (M x.from_.toNat x.an.toNat) (x.aH.toNat:Int))).map zv) n))):=fun h=>⟨_,hset,by rw[Gh hx h];exact Bk h2 _ _ _⟩
  have no:eT b x=false->FE z0 n0 n (eL (l.take (i+1)) b) z:=fun h=>⟨M,h1,by rw[JG hx h];exact h2⟩
  have u1:x.sf=true->eT b x=true:=fun h=>by unfold eT;rw[h,Bool.or_true]
  have u2:x.sf=false->(!b)=true->eT b x=true:=fun h h2=>by unfold eT;rw[h2,Bool.true_or]
  have u3:x.sf=false->(!b)=false->eT b x=false:=fun h h2=>by unfold eT;rw[h,h2];rfl
  refine t100 (Wa z (n0+n) l.length cp n i x.from_.toNat x.an.toNat (n0+x.from_.toNat) b (dG n0 n n) (br el (l.map ae.row).flatten) (yB (li.map zv) n) x (M x.from_.toNat x.an.toNat) 0 ((li.set x.an.toNat (min (M x.from_.toNat x.an.toNat) (x.aH.toNat:Int))).map zv) (aj _ _ _ _ _ _ _ _ _) ⟨fun _=>?_,fun h=>(by rw[hc] at h;cases h)⟩)
  (repeat' first|(with_reducible first|exact rfl|exact True.intro|assumption|apply And.intro|exact hfz|exact hfz2|exact hlt|exact hf|exact ht|exact ef|exact et|exact hel|exact r0|exact i1|exact r1|exact d1|exact ov|exact hlen|exact bQ _ _ _|exact aT _ _ _ _|exact aK (by omega))|exact(rfl:Int.ofNat _=_)|exact(rfl:gH _ _=_)|exact hfz|exact hfz2|exact hlt|exact hf|exact ht|exact ef|exact et|exact hel|exact r0|exact i1|exact r1|exact d1|exact ov|exact hlen|exact bQ _ _ _|exact aT _ _ _ _|exact aK (by omega)|intro hq)
  all_goals first
   |exact nx _ (yes (u1 (by with_reducible assumption)))
   |exact nx _ (yes (u2 (by with_reducible assumption) (by with_reducible assumption)))
   |exact nx _ (no (u3 (by with_reducible assumption) (by with_reducible assumption)))
 ·have hil:i=l.length:=by omega
  have hc:decide ((i:Int)<(l.length:Int))=false:=by simp;omega
  refine t100 (Wa z (n0+n) l.length cp n i 0 0 0 b (dG n0 n n) ⟨[],0,0,0,true,true,0,true⟩ ⟨[],0,0,0,true,true,0,true⟩ ⟨0,0,0,true⟩ 0 0 [] (aj _ _ _ _ _ _ _ _ _) ⟨fun h=>(by rw[hc] at h;cases h),fun _=>?_⟩)
  (repeat' first|(with_reducible first|exact rfl|exact True.intro|assumption|apply And.intro|exact hfz|exact bQ _ _ _)|exact(rfl:Int.ofNat _=_)|exact(rfl:gH _ _=_)|exact hfz|exact bQ _ _ _|intro hq)
  refine BT (k:=fun _=>eA) z ?_ rfl
  rw[hil,List.take_of_length_le (Nat.le_refl _)] at hs
  exact hs
def nh(z:T aa)(zn n:Nat)(l:List ae)(b:Bool)(s:dq):Prop:=s.bl=dG zn n n/\s.zn=zn+n/\FH z zn n (cW (eL l b)) n s.z
theorem nh.bN{z:T aa}{zn n:Nat}{l:List ae}{b:Bool}{s:dq}(h:nh z zn n l b s):aq s.z s.zn:=by
 rw[h.2.1];exact h.2.2.bN
theorem CZ(hz:aq z0 n0)(h5:5<=n0)(n:Nat)(hn:n<=64)(l:List ae)(hl:mG n l)(hll:l.length<=10000)(cp:Nat)(hL:cu z0 4 (l.map ae.row))(b:Bool):
 bI Tryz.prog z0 n0 189 [tb 4 l.length cp,iv n, .bool b] [] 0 1 (nh z0 n0 n l b) (fun _=>aZ 0 n n) (fun s=>[(0, .ax s.bl)]) (fun s=>s.z) (fun s=>s.zn):=by
 have h0:=zp z0 n0 hz h5 (tb 4 l.length cp) (.inl ⟨_,_,rfl⟩) n hn b
 have h2: ∀s,iB z0 n0 n n s->_:=fun s hs=>Gn n hn l hl hll cp hL hz b s hs
 have h3: ∀s z2,iB z0 n0 n n s->FE z0 n0 n (eL l b) z2->ai Tryz.prog (ah (ag Tryz.f189) 3) 2 116 (qk n 0) [(1, .ax s.bl)] 2 z2 s.zn (Al.R (Nt n s (FH z0 n0 n (cW (eL l b)) n)).l):=fun s z2 hs h=>by
  have e1:=hs.zn
  have e2:=hs.bl
  obtain⟨bl,z,zn⟩:=s
  simp only at e1 e2
  subst e1 e2
  exact zl n hn _ z2 h.head
 have rX: ∀s σ,iB z0 n0 n n s->aG (az σ []) (.ax s.bl)=some (.ax s.bl):=fun s σ hs=>by rw[hs.bl];exact bQ _ _ _
 have fe: ∀s z2,iB z0 n0 n n s->FE z0 n0 n (eL l b) z2->aq z2 s.zn:=fun s z2 hs h=>by rw[hs.zn];exact h.bN
 have fh: ∀s z2,iB z0 n0 n n s->FH z0 n0 n (cW (eL l b)) n z2->aq z2 s.zn:=fun s z2 hs h=>by rw[hs.zn];exact h.bN
 refine fN (cT T.leaf) (fn:=Tryz.f189) (by kernel_rfl) (by kernel_rfl) hz ⟨by decide,by decide⟩ (fun s hs=>⟨rfl,by rw[hs.2.1];omega,hs.bN⟩) (N:=100) ?_
 refine rs z0 n0 l.length cp n b (iB z0 n0 n n) (fun _=>FE z0 n0 n (eL l b)) (fun _ _=>FH z0 n0 n (cW (eL l b)) n) _ ?_
 (repeat' first|(with_reducible first|exact rfl|exact True.intro|assumption|apply And.intro|exact hz|exact h0|exact h2 _ (by with_reducible assumption)|exact h3 _ _ (by with_reducible assumption) (by with_reducible assumption)|exact iB.bN (by with_reducible assumption)|exact fe _ _ (by with_reducible assumption) (by with_reducible assumption)|exact fh _ _ (by with_reducible assumption) (by with_reducible assumption)|exact rX _ _ (by with_reducible assumption)|exact aT _ _ _ _)|exact(rfl:Int.ofNat _=_)|exact(rfl:gH _ _=_)|exact hz|exact h0|exact h2 _ (by with_reducible assumption)|exact h3 _ _ (by with_reducible assumption) (by with_reducible assumption)|exact iB.bN (by with_reducible assumption)|exact fe _ _ (by with_reducible assumption) (by with_reducible assumption)|exact fh _ _ (by with_reducible assumption) (by with_reducible assumption)|exact rX _ _ (by with_reducible assumption)|exact aT _ _ _ _|intro hq)
 rename_i s hs z2 _ z3
 exact q2 (⟨s.bl,z3,s.zn⟩:dq) ⟨hs.bl,hs.zn,hq⟩ rfl rfl rfl rfl rfl
theorem D0(n:Nat)(b:Bool)(s:dq)(hs:iB z0 n0 n n s):
 ai Tryz.prog (ah (ag Tryz.f189) 2) 2 116 (vH n b 0) [(1, .ax s.bl)] 2 s.z s.zn (Al.R (Qo n b s).l):=by
 have hfz:=hs.bN
 have rX: ∀σ,aG (az σ []) (.ax s.bl)=some (.ax s.bl):=fun σ=>by rw[hs.bl];exact bQ _ _ _
 refine ak hD (cT T.leaf) (α:=Unit) 2 116 2 (fun _=>True) (fun _=>vH n b 0) (fun t=>[(1, .ax s.bl)]) (fun t=>s.z) (fun t=>s.zn) (fun t=>0) _ (fun t hI=>?_) () trivial
 refine t100 (TV s.z s.zn n 0 b s.bl (aj _ _ _ _ _ _ _ _ _) ?_)
 (repeat' first|(with_reducible first|exact rfl|exact True.intro|assumption|apply And.intro|exact hfz|exact rX _)|exact(rfl:Int.ofNat _=_)|exact(rfl:gH _ _=_)|exact hfz|exact rX _|intro hq)
 exact bE trivial
theorem z8(hz:aq z0 n0)(h5:5<=n0)(n:Nat)(hn:n<=64)(b:Bool):
 bI Tryz.prog z0 n0 189 [ay,iv n, .bool b] [] 0 1 (nh z0 n0 n [] b) (fun _=>aZ 0 n n) (fun s=>[(0, .ax s.bl)]) (fun s=>s.z) (fun s=>s.zn):=by
 have h0:=zp z0 n0 hz h5 ay (.inr rfl) n hn b
 have h2: ∀s,iB z0 n0 n n s->_:=fun s hs=>D0 n b s hs
 have h3: ∀s,iB z0 n0 n n s->ai Tryz.prog (ah (ag Tryz.f189) 3) 2 116 (qk n 0) [(1, .ax s.bl)] 2 s.2 s.zn (Al.R (Nt n s (FH z0 n0 n (cW (eL [] b)) n)).l):=fun s hs=>by
  have h:=(zM hs).head
  have e1:=hs.zn
  have e2:=hs.bl
  obtain⟨bl,z,zn⟩:=s
  simp only at e1 e2
  subst e1 e2
  exact zl n hn _ z h
 have rX: ∀s σ,iB z0 n0 n n s->aG (az σ []) (.ax s.bl)=some (.ax s.bl):=fun s σ hs=>by rw[hs.bl];exact bQ _ _ _
 have fh: ∀s z2,iB z0 n0 n n s->FH z0 n0 n (cW (eL [] b)) n z2->aq z2 s.zn:=fun s z2 hs h=>by rw[hs.zn];exact h.bN
 refine fN (cT T.leaf) (fn:=Tryz.f189) (by kernel_rfl) (by kernel_rfl) hz ⟨by decide,by decide⟩ (fun s hs=>⟨rfl,by rw[hs.2.1];omega,hs.bN⟩) (N:=100) ?_
 refine XN z0 n0 n b (iB z0 n0 n n) (fun _=>FH z0 n0 n (cW (eL [] b)) n) _ ?_
 (repeat' first|(with_reducible first|exact rfl|exact True.intro|assumption|apply And.intro|exact hz|exact h0|exact h2 _ (by with_reducible assumption)|exact h3 _ (by with_reducible assumption)|exact iB.bN (by with_reducible assumption)|exact fh _ _ (by with_reducible assumption) (by with_reducible assumption)|exact rX _ _ (by with_reducible assumption))|exact(rfl:Int.ofNat _=_)|exact(rfl:gH _ _=_)|exact hz|exact h0|exact h2 _ (by with_reducible assumption)|exact h3 _ (by with_reducible assumption)|exact iB.bN (by with_reducible assumption)|exact fh _ _ (by with_reducible assumption) (by with_reducible assumption)|exact rX _ _ (by with_reducible assumption)|intro hq)
 rename_i s hs _ _ z3
 exact q2 (⟨s.bl,z3,s.zn⟩:dq) ⟨hs.bl,hs.zn,hq⟩ rfl rfl rfl rfl rfl
end
def dg(L:List ae):bg:=if L=[] then E5 else O3 (L.map ae.row).flatten L.length
theorem vm(L:List ae)(x:ae):dg (L++[x])=O3 ((L.map ae.row).flatten++x.row) (L.length+1):=by
 unfold dg
 rw[if_neg (by simp),jG,List.length_append];rfl
theorem F1(L:List ae)(x y:ae):dg (L++[x]++[y])=O3 ((L.map ae.row).flatten++x.row++y.row) (L.length+1+1):=by
 rw[vm,←jG L x,List.length_append];rfl
def dO(M F:Nat->Nat->Int)(i:Nat)(L:List ae)(j:Nat):List ae:=
 if i=j\/14400<M i j then L else if M i j<F i j/\F i j<=14400 then L++[⟨i,j,M i j,F i j==M i j⟩]++[⟨i,j,F i j,true⟩] else L++[⟨i,j,M i j,F i j==M i j⟩]
def bT(M F:Nat->Nat->Int)(i:Nat)(L:List ae)(m:Nat):List ae:=(List.range m).foldl (dO M F i) L
def b9(M F:Nat->Nat->Int)(n m:Nat):List ae:=(List.range m).foldl (fun L i=>bT M F i L n) []
theorem jF(M F:Nat->Nat->Int)(i:Nat)(L:List ae)(m:Nat):bT M F i L (m+1)=dO M F i (bT M F i L m) m:=by
 unfold bT;rw[List.range_succ,List.foldl_append];rfl
theorem ic(M F:Nat->Nat->Int)(n m:Nat):b9 M F n (m+1)=bT M F m (b9 M F n m) n:=by
 unfold b9;rw[List.range_succ,List.foldl_append];rfl
theorem yE(M F:Nat->Nat->Int)(i:Nat)(L:List ae)(j:Nat):(dO M F i L j).length<=L.length+2:=by
 unfold dO
 split
 ·omega
 ·split<;>simp
theorem sI(M F:Nat->Nat->Int)(i:Nat)(L:List ae)(m:Nat):(bT M F i L m).length<=L.length+2*m:=by
 induction m with
 |zero=>exact Nat.le_refl _
 |succ m ih=>rw[jF];have:=yE M F i (bT M F i L m) m;omega
theorem nR(M F:Nat->Nat->Int)(n m:Nat):(b9 M F n m).length<=m*(2*n):=by
 induction m with
 |zero=>exact Nat.zero_le _
 |succ m ih=>
  rw[ic]
  have:=sI M F m (b9 M F n m) n
  have e:(m+1)*(2*n)=m*(2*n)+2*n:=Nat.succ_mul ..
  omega
theorem dN{σ:Nat->Option Nat}(L:List ae):aG σ (.ax (dg L))=some (.ax (dg L)):=by
 unfold dg
 split
 ·rfl
 ·exact cF (gu L)
theorem rC{σ:Nat->Option Nat}(L:List ae)(x y:ae)(c:Nat):aG σ (.ax (bg.mk ((L.map ae.row).flatten++x.row++y.row) c 4 141 false false 0 true))=some (.ax (bg.mk ((L.map ae.row).flatten++x.row++y.row) c 4 141 false false 0 true)):=cF (by
 rw[jG,jG];exact gu _)
def qS(z:T aa)(b n:Nat)(M:Nat->Nat->Int):Prop:= ∀i,i<n-> ∃l:List Int,z.get (b+i)=some (.ax (yB (l.map zv) n))/\l.length=n/\ ∀j,j<n->l[j]? =some (M i j)
theorem ss{z:T aa}{b n:Nat}{M:Nat->Nat->Int}(h:qS z b n M){i j:Nat}(hi:i<n)(hj:j<n): ∃k,z.get (b+i)=some (.ax k)/\aB Tryz.prog k 3 (0+j*1)=some (zv (M i j)):=by
 obtain⟨l,h1,h2,h3⟩:=h i hi
 exact⟨_,h1,iV (d:=_) Tryz.underlying3 rfl (by show(l.map zv)[j]? =_;rw[List.getElem?_map,h3 j hj];rfl)⟩
section
variable{z:T aa}{zn:Nat}
theorem GC(hz:aq z zn)(n:Nat)(hn:n<=64)(b1 b2:Nat)(M F:Nat->Nat->Int)(hM:qS z b1 n M)(hF:qS z b2 n F)(i:Nat)(hi:i<n)(L:List ae)(hL:L.length<=10000):
 ai Tryz.prog (ah (ah (ag Tryz.f139) 0) 0) 4 107 (uO n L.length i 0) (pT (dG b1 n n) (dG b2 n n) (dg L)) 5 z zn (Al.R (Ny z zn n L.length i (dG b1 n n) (dG b2 n n) (dg L) (fun s=>s=⟨(bT M F i L n).length,dg (bT M F i L n)⟩)).l):=by
 refine ak hD (cT T.leaf) (α:=Nat) 4 107 5 (fun j=>j<=n) (fun j=>uO n (bT M F i L j).length i j) (fun j=>pT (dG b1 n n) (dG b2 n n) (dg (bT M F i L j))) (fun _=>z) (fun _=>zn) (fun j=>n - j) _ (fun j hj=>?_) 0 (Nat.zero_le _)
 have hrl:=sI M F i L j
 have nx: ∀L' k' bl,bT M F i L (j+1)=L'->k'=L'.length->bl=dg L'->j<n->aj (fun j=>j<=n) (fun j=>uO n (bT M F i L j).length i j) (fun j=>pT (dG b1 n n) (dG b2 n n) (dg (bT M F i L j))) 5 (fun _=>z) (fun _=>zn) (fun j=>n - j) (Al.R (Ny z zn n L.length i (dG b1 n n) (dG b2 n n) (dg L) (fun s=>s=⟨(bT M F i L n).length,dg (bT M F i L n)⟩)).l) j .normal (uO n k' i (j+1)) (pT (dG b1 n n) (dG b2 n n) bl) 5 z zn:=fun L' k' bl e1 e2 e3 h=>by
  subst e1 e2 e3
  exact⟨j+1,rfl,rfl,rfl,rfl,rfl,h,by show n - (j+1)<n - j;omega⟩
 have fin:j=n->aj (fun j=>j<=n) (fun j=>uO n (bT M F i L j).length i j) (fun j=>pT (dG b1 n n) (dG b2 n n) (dg (bT M F i L j))) 5 (fun _=>z) (fun _=>zn) (fun j=>n - j) (Al.R (Ny z zn n L.length i (dG b1 n n) (dG b2 n n) (dg L) (fun s=>s=⟨(bT M F i L n).length,dg (bT M F i L n)⟩)).l) j (.exit 2) [(1,iv n),(5,aZ 0 n n),(6,aZ 1 n n),(7,aZ 4 (bT M F i L j).length (bT M F i L j).length),(8,iv i)] (pT (dG b1 n n) (dG b2 n n) (dg (bT M F i L j))) 5 z zn:=fun e=>by
  subst e
  exact Or.inl ⟨(⟨(bT M F i L j).length,dg (bT M F i L j)⟩:pP),rfl,rfl⟩
 have hsucc:=jF M F i L j
 generalize bT M F i L j=K at hrl nx fin hsucc ⊢
 by_cases hlt:j<n
 ·have hc:decide ((j:Int)<(n:Int))=true:=by simp;omega
  obtain⟨k1,g1,r1⟩:=ss hM hi hlt
  obtain⟨k2,g2,r2⟩:=ss hF hi hlt
  have d1:aB Tryz.prog (dG b1 n n) 90 (0+i*1)=_:=px hi
  have d2:aB Tryz.prog (dG b2 n n) 90 (0+i*1)=_:=px hi
  have w0:((i:Int)==(j:Int))=true->bT M F i L (j+1)=K:=fun h=>by
   rw[hsucc];unfold dO;rw[if_pos (.inl (by simp at h;omega))]
  have w1:decide (M i j>14400)=true->bT M F i L (j+1)=K:=fun h=>by
   rw[hsucc];unfold dO;rw[if_pos (.inr (by simp at h;omega))]
  have w2:((i:Int)==(j:Int))=false->decide (M i j>14400)=false-> ∀fl,(F i j==M i j)=fl->decide (F i j>M i j)=true->decide (F i j<=14400)=true->bT M F i L (j+1)=K++[⟨i,j,M i j,fl⟩]++[⟨i,j,F i j,true⟩]:=fun h1 h2 fl h3 h4 h5=>by
   rw[hsucc];unfold dO
   rw[if_neg (by simp at h1 h2;omega),if_pos (by simp at h4 h5;omega),h3]
  have w3:((i:Int)==(j:Int))=false->decide (M i j>14400)=false-> ∀fl,(F i j==M i j)=fl->decide (F i j<=14400)=false->bT M F i L (j+1)=K++[⟨i,j,M i j,fl⟩]:=fun h1 h2 fl h3 h5=>by
   rw[hsucc];unfold dO
   rw[if_neg (by simp at h1 h2;omega),if_neg (by simp at h5;omega),h3]
  have w4:((i:Int)==(j:Int))=false->decide (M i j>14400)=false-> ∀fl,(F i j==M i j)=fl->decide (F i j>M i j)=false->bT M F i L (j+1)=K++[⟨i,j,M i j,fl⟩]:=fun h1 h2 fl h3 h5=>by
   rw[hsucc];unfold dO
   rw[if_neg (by simp at h1 h2;omega),if_neg (by simp at h5;omega),h3]
  by_cases hK:K=[]
  ·subst hK
   refine t100 (Rh z zn n i j (b1+i) (b2+i) (dG b1 n n) (dG b2 n n) k1 k2 (M i j) (F i j) (aj _ _ _ _ _ _ _ _ _) ⟨fun _=>?_,fun h=>(by rw[hc] at h;cases h)⟩)
   (repeat' first|(with_reducible first|exact rfl|exact True.intro|assumption|apply And.intro|exact hz|exact hi|exact hlt|exact g1|exact g2|exact r1|exact r2|exact d1|exact d2|exact bQ _ _ _|exact aK (by omega))|exact(rfl:Int.ofNat _=_)|exact(rfl:gH _ _=_)|exact hz|exact hi|exact hlt|exact g1|exact g2|exact r1|exact r2|exact d1|exact d2|exact bQ _ _ _|exact aK (by omega)|intro hq)
   all_goals first
    |exact nx _ _ _ (w0 (by with_reducible assumption)) rfl rfl hlt
    |exact nx _ _ _ (w1 (by with_reducible assumption)) rfl rfl hlt
    |exact nx _ _ _ (w2 (by with_reducible assumption) (by with_reducible assumption) _ (by with_reducible assumption) (by with_reducible assumption) (by with_reducible assumption)) rfl rfl hlt
    |exact nx _ _ _ (w3 (by with_reducible assumption) (by with_reducible assumption) _ (by with_reducible assumption) (by with_reducible assumption)) rfl rfl hlt
    |exact nx _ _ _ (w4 (by with_reducible assumption) (by with_reducible assumption) _ (by with_reducible assumption) (by with_reducible assumption)) rfl rfl hlt
  ·have eK:dg K=O3 (K.map ae.row).flatten K.length:=by unfold dg;rw[if_neg hK]
   have s1: ∀fl,(⟨(K.map ae.row).flatten++(⟨i,j,M i j,fl⟩:ae).row,(K.length+1)*4,4,141,false,false,0,true⟩:bg)=dg (K++[⟨i,j,M i j,fl⟩]):=fun fl=>(vm _ _).symm
   have s2: ∀fl,(⟨(K.map ae.row).flatten++(⟨i,j,M i j,fl⟩:ae).row++(⟨i,j,F i j,true⟩:ae).row,(K.length+1+1)*4,4,141,false,false,0,true⟩:bg)=dg (K++[⟨i,j,M i j,fl⟩]++[⟨i,j,F i j,true⟩]):=fun fl=>(F1 _ _ _).symm
   have m1: ∀x:ae,K.length+1=(K++[x]).length:=fun x=>by simp
   have m2: ∀x y:ae,K.length+1+1=(K++[x]++[y]).length:=fun x y=>by simp
   have p1: ∀fl,((K.map ae.row).flatten++(⟨i,j,M i j,fl⟩:ae).row).length=(K.length+1)*4:=fun fl=>by
    rw[jG,sO];simp
   rw[eK]
   refine t100 (WI z zn n K.length i j (b1+i) (b2+i) (dG b1 n n) (dG b2 n n) k1 k2 (M i j) (F i j) (K.map ae.row).flatten (aj _ _ _ _ _ _ _ _ _) ⟨fun _=>?_,fun h=>(by rw[hc] at h;cases h)⟩)
   (repeat' first|(with_reducible first|exact rfl|exact True.intro|assumption|apply And.intro|exact hz|exact hi|exact hlt|exact g1|exact g2|exact r1|exact r2|exact d1|exact d2|exact sO K|exact p1 _|exact bQ _ _ _|exact cF (gu K)|exact p8 K ⟨i,j,M i j,true⟩ _|exact p8 K ⟨i,j,M i j,false⟩ _|exact rC K ⟨i,j,M i j,true⟩ ⟨i,j,F i j,true⟩ _|exact rC K ⟨i,j,M i j,false⟩ ⟨i,j,F i j,true⟩ _|exact(by omega:K.length+1<=1048576)|exact(by omega:K.length+1+1<=1048576)|exact aK (by omega))|exact(rfl:Int.ofNat _=_)|exact(rfl:gH _ _=_)|exact hz|exact hi|exact hlt|exact g1|exact g2|exact r1|exact r2|exact d1|exact d2|exact sO K|exact p1 _|exact bQ _ _ _|exact cF (gu K)|exact p8 K ⟨i,j,M i j,true⟩ _|exact p8 K ⟨i,j,M i j,false⟩ _|exact rC K ⟨i,j,M i j,true⟩ ⟨i,j,F i j,true⟩ _|exact rC K ⟨i,j,M i j,false⟩ ⟨i,j,F i j,true⟩ _|exact(by omega:K.length+1<=1048576)|exact(by omega:K.length+1+1<=1048576)|exact aK (by omega)|intro hq)
   all_goals first
    |exact nx _ _ _ (w0 (by with_reducible assumption)) rfl eK.symm hlt
    |exact nx _ _ _ (w1 (by with_reducible assumption)) rfl eK.symm hlt
    |exact nx _ _ _ (w2 (by with_reducible assumption) (by with_reducible assumption) _ (by with_reducible assumption) (by with_reducible assumption) (by with_reducible assumption)) (m2 _ _) (s2 _) hlt
    |exact nx _ _ _ (w3 (by with_reducible assumption) (by with_reducible assumption) _ (by with_reducible assumption) (by with_reducible assumption)) (m1 _) (s1 _) hlt
    |exact nx _ _ _ (w4 (by with_reducible assumption) (by with_reducible assumption) _ (by with_reducible assumption) (by with_reducible assumption)) (m1 _) (s1 _) hlt
 ·have hjn:j=n:=by omega
  have hc:decide ((j:Int)<(n:Int))=false:=by simp;omega
  by_cases hK:K=[]
  ·subst hK
   refine t100 (Rh z zn n i j 0 0 (dG b1 n n) (dG b2 n n) E5 E5 0 0 (aj _ _ _ _ _ _ _ _ _) ⟨fun h=>(by rw[hc] at h;cases h),fun _=>?_⟩)
   (repeat' first|(with_reducible first|exact rfl|exact True.intro|assumption|apply And.intro|exact hz|exact bQ _ _ _)|exact(rfl:Int.ofNat _=_)|exact(rfl:gH _ _=_)|exact hz|exact bQ _ _ _|intro hq)
   exact fin hjn
  ·have eK:dg K=O3 (K.map ae.row).flatten K.length:=by unfold dg;rw[if_neg hK]
   rw[eK] at fin ⊢
   refine t100 (WI z zn n K.length i j 0 0 (dG b1 n n) (dG b2 n n) E5 E5 0 0 (K.map ae.row).flatten (aj _ _ _ _ _ _ _ _ _) ⟨fun h=>(by rw[hc] at h;cases h),fun _=>?_⟩)
   (repeat' first|(with_reducible first|exact rfl|exact True.intro|assumption|apply And.intro|exact hz|exact bQ _ _ _|exact cF (gu K))|exact(rfl:Int.ofNat _=_)|exact(rfl:gH _ _=_)|exact hz|exact bQ _ _ _|exact cF (gu K)|intro hq)
   exact fin hjn
end
section
variable{z:T aa}{zn:Nat}
theorem zw(hz:aq z zn)(n:Nat)(hn:n<=64)(b1 b2:Nat)(M F:Nat->Nat->Int)(hM:qS z b1 n M)(hF:qS z b2 n F):
 ai Tryz.prog (ah (ag Tryz.f139) 0) 3 107 (za n 0 0) (Lp (dG b1 n n) (dG b2 n n) E5) 4 z zn (Al.R (Nz z zn n (dG b1 n n) (dG b2 n n) (fun s=>s=⟨(b9 M F n n).length,dg (b9 M F n n)⟩)).l):=by
 refine ak hD (cT T.leaf) (α:=Nat) 3 107 4 (fun i=>i<=n) (fun i=>za n (b9 M F n i).length i) (fun i=>Lp (dG b1 n n) (dG b2 n n) (dg (b9 M F n i))) (fun _=>z) (fun _=>zn) (fun i=>n - i) _ (fun i hi=>?_) 0 (Nat.zero_le _)
 by_cases hlt:i<n
 ·have hc:decide ((i:Int)<(n:Int))=true:=by simp;omega
  have hll:(b9 M F n i).length<=10000:=by
   have:=nR M F n i
   have h2:i*(2*n)<=64*(2*64):=Nat.mul_le_mul (by omega) (by omega)
   omega
  have hlp:=GC hz n hn b1 b2 M F hM hF i hlt (b9 M F n i) hll
  refine t100 (WJ z zn n (b9 M F n i).length i (dG b1 n n) (dG b2 n n) (dg (b9 M F n i)) (fun s=>s=⟨(bT M F i (b9 M F n i) n).length,dg (bT M F i (b9 M F n i) n)⟩) (aj _ _ _ _ _ _ _ _ _) ⟨fun _=>?_,fun h=>(by rw[hc] at h;cases h)⟩)
  have rq: ∀(σ:bA)(s:pP),s=⟨(bT M F i (b9 M F n i) n).length,dg (bT M F i (b9 M F n i) n)⟩->aG (az σ []) (.ax s.bl)=some (.ax s.bl):=fun σ s h=>by rw[h];exact dN _
  (repeat' first|(with_reducible first|exact rfl|exact True.intro|assumption|apply And.intro|exact hz|exact hlt|exact hlp|exact bQ _ _ _|exact dN _|exact rq _ _ (by with_reducible assumption)|exact aK (by omega))|exact(rfl:Int.ofNat _=_)|exact(rfl:gH _ _=_)|exact hz|exact hlt|exact hlp|exact bQ _ _ _|exact dN _|exact rq _ _ (by with_reducible assumption)|exact aK (by omega)|intro hq)
  rename_i x hq
  subst hq
  exact⟨i+1,by simp only[ic];rfl,by simp only[ic],rfl,rfl,rfl,hlt,by show n - (i+1)<n - i;omega⟩
 ·have hin:i=n:=by omega
  subst hin
  have hc:decide ((i:Int)<(i:Int))=false:=by simp
  refine t100 (WJ z zn i (b9 M F i i).length i (dG b1 i i) (dG b2 i i) (dg (b9 M F i i)) (fun _=>False) (aj _ _ _ _ _ _ _ _ _) ⟨fun h=>(by rw[hc] at h;cases h),fun _=>?_⟩)
  (repeat' first|(with_reducible first|exact rfl|exact True.intro|assumption|apply And.intro|exact hz|exact dN _)|exact(rfl:Int.ofNat _=_)|exact(rfl:gH _ _=_)|exact hz|exact dN _|intro hq)
  exact Or.inl ⟨(⟨(b9 M F i i).length,dg (b9 M F i i)⟩:pP),rfl,rfl⟩
end
def EY(E:bX)(n i j:Nat)(v:Int):Prop:=Aw E n lj i j v/\v<=(lj:Int)
def MF(n:Nat)(l:List ae)(M F:Nat->Nat->Int):Prop:=(∀i j,i<n->j<n->EY (cW (eL l false)) n i j (M i j))/\(∀i j,i<n->j<n->EY (cW (eL l true)) n i j (F i j))
structure AL(z:T aa)(zn:Nat)(C:List ae)(s:pS):Prop where
 k:s.k=C.length
 bl:s.bl=dg C
 bN:aq s.z s.zn
 le:zn<=s.zn
 ie: ∀k,k<zn->s.z.get k=z.get k
theorem kI{z:T aa}{zn n:Nat}{l:List ae}{b:Bool}{s:dq}(h:nh z zn n l b s): ∀k,k<zn->s.z.get k=z.get k:=by
 obtain⟨_,_,M,h,_⟩:=h;exact h.ie
theorem oG{z:T aa}{zn n:Nat}{l:List ae}{b:Bool}{s:dq}(h:nh z zn n l b s): ∃M,qS s.z zn n M/\ ∀i j,i<n->j<n->EY (cW (eL l b)) n i j (M i j):=by
 obtain⟨_,_,M,h1,h2,h3⟩:=h
 exact⟨M,h1.row,fun i j hi hj=>⟨GS h3 hi hj,h2.le i j hi hj⟩⟩
theorem su{z z':T aa}{b n m:Nat}{d:Nat->Nat->Int}(h:qS z b n d)(hb:b+n<=m)(hk: ∀k,k<m->z'.get k=z.get k):qS z' b n d:=fun i hi=>by
 obtain⟨l,h1,h2⟩:=h i hi
 exact⟨l,by rw[hk _ (by omega)];exact h1,h2⟩
section
variable{z:T aa}{zn:Nat}
theorem Ev(hz:aq z zn)(h5:5<=zn)(n:Nat)(hn:n<=64)(l:List ae)(hl:mG n l)(hll:l.length<=10000)(cp:Nat)(hL:cu z 4 (l.map ae.row))(C:List ae)(hC: ∀M F,MF n l M F->b9 M F n n=C):
 bI Tryz.prog z zn 139 [tb 4 l.length cp,iv n] [] 0 1 (AL z zn C) (fun s=>aZ 0 s.k s.k) (fun s=>[(0, .ax s.bl)]) (fun s=>s.z) (fun s=>s.zn):=by
 have d1:=CZ hz h5 n hn l hl hll cp hL false
 have d2: ∀s,nh z zn n l false s->bI Tryz.prog s.z s.zn 189 [tb 4 l.length cp,iv n,T1] [] 0 1 (nh s.z s.zn n l true) (fun _=>aZ 0 n n) (fun s=>[(0, .ax s.bl)]) (fun s=>s.z) (fun s=>s.zn):=fun s h=>CZ h.bN (by rw[h.2.1];omega) n hn l hl hll cp (j8 hL hz (kI h)) true
 have rb: ∀{z zn b s},nh z zn n l b s-> ∀σ,aG (az σ []) (.ax s.bl)=some (.ax s.bl):=fun h σ=>by rw[h.1];exact bQ _ _ _
 have rb2: ∀{z zn b s},nh z zn n l b s-> ∀σ,aG (sig σ) (.ax s.bl)=some (.ax s.bl):=fun h σ=>rb h σ
 have lp: ∀s1 s2,nh z zn n l false s1->nh s1.z s1.zn n l true s2->ai Tryz.prog (ah (ag Tryz.f139) 0) 3 107 (za n 0 0) (Lp s1.bl s2.bl E5) 4 s2.z s2.zn (Al.R (Nz s2.z s2.zn n s1.bl s2.bl (fun s=>s=⟨C.length,dg C⟩)).l):=fun s1 s2 h1 h2=>by
  obtain⟨M,m1,m2⟩:=oG h1
  obtain⟨F,f1,f2⟩:=oG h2
  have:=zw h2.bN n hn zn s1.zn M F (su m1 (by rw[h1.2.1];exact Nat.le_refl _) (kI h2)) f1
  rw[hC M F ⟨m2,f2⟩] at this
  rw[h1.1,h2.1]
  exact this
 have ro: ∀(σ:bA)(s:pP),s=⟨C.length,dg C⟩->aG (az σ []) (.ax s.bl)=some (.ax s.bl):=fun σ s h=>by rw[h];exact dN _
 have le2: ∀s1 s2,nh z zn n l false s1->nh s1.z s1.zn n l true s2->zn<=s2.zn:=fun s1 s2 h1 h2=>by rw[h2.2.1,h1.2.1];omega
 have fin: ∀s1 s2,nh z zn n l false s1->nh s1.z s1.zn n l true s2->AL z zn C ⟨C.length,dg C,s2.z,s2.zn⟩:=fun s1 s2 h1 h2=>⟨rfl,rfl,h2.bN,le2 s1 s2 h1 h2,fun k hk=>(kI h2 k (by rw[h1.2.1];omega)).trans (kI h1 k hk)⟩
 refine fN (cT T.leaf) (fn:=Tryz.f139) (by kernel_rfl) (by kernel_rfl) hz ⟨by decide,by decide⟩ (fun s hs=>⟨rfl,hs.le,hs.bN⟩) (N:=100) ?_
 refine cq z zn l.length cp n (nh z zn n l false) (fun s=>nh s.z s.zn n l true) (fun _ _ s=>s=⟨C.length,dg C⟩) _ ?_
 (repeat' first|(with_reducible first|exact rfl|exact True.intro|assumption|apply And.intro|exact hz|exact d1|exact d2 _ (by with_reducible assumption)|exact lp _ _ (by with_reducible assumption) (by with_reducible assumption)|exact nh.bN (by with_reducible assumption)|exact rb (by with_reducible assumption) _|exact rb2 (by with_reducible assumption) _|exact ro _ _ (by with_reducible assumption)|exact aT _ _ _ _)|exact(rfl:Int.ofNat _=_)|exact(rfl:gH _ _=_)|exact hz|exact d1|exact d2 _ (by with_reducible assumption)|exact lp _ _ (by with_reducible assumption) (by with_reducible assumption)|exact nh.bN (by with_reducible assumption)|exact rb (by with_reducible assumption) _|exact rb2 (by with_reducible assumption) _|exact ro _ _ (by with_reducible assumption)|exact aT _ _ _ _|intro hq)
 rename_i s1 h1 s2 h2 s
 subst hq
 exact q2 (⟨C.length,dg C,s2.z,s2.zn⟩:pS) (fin s1 s2 h1 h2) rfl rfl rfl rfl rfl
theorem BJ(hz:aq z zn)(h5:5<=zn)(n:Nat)(hn:n<=64)(C:List ae)(hC: ∀M F,MF n [] M F->b9 M F n n=C):
 bI Tryz.prog z zn 139 [ay,iv n] [] 0 1 (AL z zn C) (fun s=>aZ 0 s.k s.k) (fun s=>[(0, .ax s.bl)]) (fun s=>s.z) (fun s=>s.zn):=by
 have d1:=z8 hz h5 n hn false
 have d2: ∀s,nh z zn n [] false s->bI Tryz.prog s.z s.zn 189 [ay,iv n,T1] [] 0 1 (nh s.z s.zn n [] true) (fun _=>aZ 0 n n) (fun s=>[(0, .ax s.bl)]) (fun s=>s.z) (fun s=>s.zn):=fun s h=>z8 h.bN (by rw[h.2.1];omega) n hn true
 have rb: ∀{z zn b s},nh z zn n [] b s-> ∀σ,aG (az σ []) (.ax s.bl)=some (.ax s.bl):=fun h σ=>by rw[h.1];exact bQ _ _ _
 have rb2: ∀{z zn b s},nh z zn n [] b s-> ∀σ,aG (sig σ) (.ax s.bl)=some (.ax s.bl):=fun h σ=>rb h σ
 have lp: ∀s1 s2,nh z zn n [] false s1->nh s1.z s1.zn n [] true s2->ai Tryz.prog (ah (ag Tryz.f139) 0) 3 107 (za n 0 0) (Lp s1.bl s2.bl E5) 4 s2.z s2.zn (Al.R (Nz s2.z s2.zn n s1.bl s2.bl (fun s=>s=⟨C.length,dg C⟩)).l):=fun s1 s2 h1 h2=>by
  obtain⟨M,m1,m2⟩:=oG h1
  obtain⟨F,f1,f2⟩:=oG h2
  have:=zw h2.bN n hn zn s1.zn M F (su m1 (by rw[h1.2.1];exact Nat.le_refl _) (kI h2)) f1
  rw[hC M F ⟨m2,f2⟩] at this
  rw[h1.1,h2.1]
  exact this
 have ro: ∀(σ:bA)(s:pP),s=⟨C.length,dg C⟩->aG (az σ []) (.ax s.bl)=some (.ax s.bl):=fun σ s h=>by rw[h];exact dN _
 have le2: ∀s1 s2,nh z zn n [] false s1->nh s1.z s1.zn n [] true s2->zn<=s2.zn:=fun s1 s2 h1 h2=>by rw[h2.2.1,h1.2.1];omega
 have fin: ∀s1 s2,nh z zn n [] false s1->nh s1.z s1.zn n [] true s2->AL z zn C ⟨C.length,dg C,s2.z,s2.zn⟩:=fun s1 s2 h1 h2=>⟨rfl,rfl,h2.bN,le2 s1 s2 h1 h2,fun k hk=>(kI h2 k (by rw[h1.2.1];omega)).trans (kI h1 k hk)⟩
 refine fN (cT T.leaf) (fn:=Tryz.f139) (by kernel_rfl) (by kernel_rfl) hz ⟨by decide,by decide⟩ (fun s hs=>⟨rfl,hs.le,hs.bN⟩) (N:=100) ?_
 refine ZN z zn n (nh z zn n [] false) (fun s=>nh s.z s.zn n [] true) (fun _ _ s=>s=⟨C.length,dg C⟩) _ ?_
 (repeat' first|(with_reducible first|exact rfl|exact True.intro|assumption|apply And.intro|exact hz|exact d1|exact d2 _ (by with_reducible assumption)|exact lp _ _ (by with_reducible assumption) (by with_reducible assumption)|exact nh.bN (by with_reducible assumption)|exact rb (by with_reducible assumption) _|exact rb2 (by with_reducible assumption) _|exact ro _ _ (by with_reducible assumption)|exact aT _ _ _ _)|exact(rfl:Int.ofNat _=_)|exact(rfl:gH _ _=_)|exact hz|exact d1|exact d2 _ (by with_reducible assumption)|exact lp _ _ (by with_reducible assumption) (by with_reducible assumption)|exact nh.bN (by with_reducible assumption)|exact rb (by with_reducible assumption) _|exact rb2 (by with_reducible assumption) _|exact ro _ _ (by with_reducible assumption)|exact aT _ _ _ _|intro hq)
 rename_i s1 h1 s2 h2 s
 subst hq
 exact q2 (⟨C.length,dg C,s2.z,s2.zn⟩:pS) (fin s1 s2 h1 h2) rfl rfl rfl rfl rfl
end
theorem GH{P:Nat->Prop}: ∀n,P n-> ∃m,P m/\ ∀k,P k->m<=k:=by
 intro n
 induction n using Nat.strongRecOn with
 |ind n ih=>
  intro hn
  by_cases h: ∃k,k<n/\P k
  ·obtain⟨k,h1,h2⟩:=h
   exact ih k h1 h2
  ·exact⟨n,hn,fun k hk=>Nat.le_of_not_lt fun hlt=>h ⟨k,hlt,hk⟩⟩
theorem CM(E:bX)(n i j:Nat): ∃v,EY E n i j v:=by
 by_cases h: ∃L,L<lj/\Wk E n i j L
 ·obtain⟨L,h1,h2⟩:=h
  obtain⟨m,m1,m2⟩:=GH (P:=fun L=>Wk E n i j L) L h2
  have:=m2 L h2
  exact⟨(m:Int),⟨by omega,fun _=>by simpa using m1,fun k hk=>by have:=m2 k hk;omega⟩,Int.ofNat_le.2 (by omega)⟩
 ·refine⟨(lj:Int),⟨by omega,fun hlt=>absurd hlt (Int.lt_irrefl _),fun k hk=>?_⟩,Int.le_refl _⟩
  by_cases hb:k<lj
  ·exact absurd ⟨k,hb,hk⟩ h
  ·omega
theorem vZ{E:bX}{n i j:Nat}{v w:Int}(h:EY E n i j v)(k:EY E n i j w):v=w:=by
 obtain⟨⟨a1,a2,a3⟩,a4⟩:=h
 obtain⟨⟨b1,b2,b3⟩,b4⟩:=k
 by_cases hv:v<(lj:Int)
 ·have:=b3 _ (a2 hv)
  have:=a3 _ (b2 (by omega))
  omega
 ·by_cases hw:w<(lj:Int)
  ·have:=a3 _ (b2 hw);omega
  ·omega
theorem vB(n:Nat)(l:List ae): ∃M F,MF n l M F:=by
 obtain⟨M,hM⟩:=Classical.axiomOfChoice fun i:Nat=>Classical.axiomOfChoice fun j:Nat=>CM (cW (eL l false)) n i j
 obtain⟨F,hF⟩:=Classical.axiomOfChoice fun i:Nat=>Classical.axiomOfChoice fun j:Nat=>CM (cW (eL l true)) n i j
 exact⟨M,F,fun i j _ _=>hM i j,fun i j _ _=>hF i j⟩
def MV(e:Nat × Nat × Int × Bool):ae:=⟨e.1,e.2.1,e.2.2.1,e.2.2.2⟩
theorem KB{d f:Nat->Nat->Int}{a b:Nat}(L:List ae)(h:a≠b):hX d f a L b=L++(rG a b (d a b) (f a b)).map MV:=by
 unfold hX rG iz
 rw[if_neg h]
 by_cases e:f a b=d a b
 ·rw[if_pos e,if_pos e,decide_eq_true e,List.append_nil]
  by_cases c:0<d a b/\d a b<=14400
  ·rw[if_pos c,if_pos c];rfl
  ·rw[if_neg c,if_neg c];simp
 ·rw[if_neg e,if_neg e,decide_eq_false e]
  by_cases c:0<d a b/\d a b<=14400<;>by_cases c2:0<f a b/\f a b<=14400
  ·rw[if_pos c,if_pos c,if_pos c2,if_pos c2];simp[MV]
  ·rw[if_pos c,if_pos c,if_neg c2,if_neg c2];simp[MV]
  ·rw[if_neg c,if_neg c,if_pos c2,if_pos c2];simp[MV]
  ·rw[if_neg c,if_neg c,if_neg c2,if_neg c2];simp
theorem Jm{M F:Nat->Nat->Int}{a b:Nat}(L:List ae)(h:a≠b):dO M F a L b=L++(wZ a b (M a b) (F a b)).map MV:=by
 unfold dO wZ
 have hb:(F a b==M a b)=decide (F a b=M a b):=by
  by_cases e:F a b=M a b<;>simp[e]
 rw[hb]
 by_cases c:14400<M a b
 ·rw[if_pos (.inr c),if_pos c];simp
 ·rw[if_neg (by omega),if_neg c]
  by_cases c2:M a b<F a b/\F a b<=14400
  ·rw[if_pos c2,if_pos c2];simp[MV]
  ·rw[if_neg c2,if_neg c2];simp[MV]
theorem jl{α β:Type}{f g:α->β->α}: ∀(l:List β)(a:α),(∀a,∀b∈l,f a b=g a b)->l.foldl f a=l.foldl g a
 |[],_,_=>rfl
 |b::l,a,h=>by
  rw[List.foldl_cons,List.foldl_cons,h a b (List.mem_cons_self ..)]
  exact jl l _ fun a c hc=>h a c (List.mem_cons_of_mem _ hc)
theorem FA{n:Nat}{d f M F:Nat->Nat->Int}(h: ∀i j,i<n->j<n->i≠j->iT.Alike (M i j) (d i j)/\iT.Alike (F i j) (f i j)/\M i j<=F i j):eB d f n n=b9 M F n n:=by
 unfold eB b9
 refine jl _ _ fun L a ha=>?_
 unfold cR bT
 refine jl _ _ fun L b hb=>?_
 by_cases e:a=b
 ·unfold hX dO
  rw[if_pos e,if_pos (.inl e)]
 ·obtain⟨h1,h2,h3⟩:=h a b (List.mem_range.1 ha) (List.mem_range.1 hb) e
  rw[KB L e,Jm L e,Hc h1 h2 h3]
theorem lX{l:List ae}{b:Bool}{u v w:Nat}:(u,v,w)∈eL l b↔ ∃p∈l,eT b p=true/\p.from_.toNat=u/\p.an.toNat=v/\p.aH.toNat=w:=by
 unfold eL
 simp only[List.mem_map,List.mem_filter,Prod.mk.injEq]
 constructor
 ·rintro⟨p,⟨h1,h2⟩,h3,h4,h5⟩;exact⟨p,h1,h2,h3,h4,h5⟩
 ·rintro⟨p,h1,h2,h3,h4,h5⟩;exact⟨p,⟨h1,h2⟩,h3,h4,h5⟩
theorem sq{n:Nat}{l:List ae}(hl:mG n l){b:Bool}{E:List eh}(h:PU n l b E):wK (cW (eL l b)) (EE E):=by
 refine⟨fun u v w hm=>?_,fun u v w hm=>?_⟩
 ·obtain⟨p,p1,p2,p3,p4,p5⟩:=lX.1 hm
  obtain⟨k1,k2,k3,k4,_,k6,k7⟩:=hl.ok p p1
  obtain⟨e,e1,e2,e3,e4⟩:=h.all p p1 p2
  have:=h.ok.ok e e1
  exact⟨e.wt.toNat,by omega,e,e1,by omega,by omega,by omega⟩
 ·obtain⟨e,e1,e2,e3,e4⟩:=hm
  obtain⟨p,p1,p2,p3,p4,p5⟩:=h.sub e e1
  exact⟨w,Nat.le_refl _,lX.2 ⟨p,p1,p2,by omega,by omega,by omega⟩⟩
theorem Cn{n:Nat}{l:List ae}(hl:mG n l){b:Bool}:Pos (cW (eL l b)):=fun u v w hm=>by
 obtain⟨p,p1,p2,p3,p4,p5⟩:=lX.1 hm
 have:=hl.ok p p1
 omega
theorem LK{n:Nat}{E:List eh}(h:E1 n E): ∀a b w,EE E a b w->a<n/\b<n:=fun a b w ⟨e,e1,e2,e3,e4⟩=>by
 have:=h.ok e e1
 omega
theorem JF{l:List ae}: ∀a b w,cW (eL l true) a b w-> ∃w',w'<=w/\cW (eL l false) a b w':=fun a b w hm=>by
 obtain⟨p,p1,p2,p3⟩:=lX.1 hm
 exact⟨w,Nat.le_refl _,lX.2 ⟨p,p1,rfl,p3⟩⟩
theorem Hl{n:Nat}{l:List ae}(hl:mG n l){d f M F:Nat->Nat->Int}(h:DF n l d f)(k:MF n l M F):eB d f n n=b9 M F n n:=by
 obtain⟨E,G,hE,hG,h1,h2⟩:=h
 refine FA fun i j hi hj hij=>⟨?_,?_,?_⟩
 ·exact Ah (sq hl hE) (Cn hl) (LK hE.ok) (by decide) (fun e=>hij e.symm) (k.1 i j hi hj).1 (h1 i j hi hj)
 ·exact Ah (sq hl hG) (Cn hl) (LK hG.ok) (by decide) (fun e=>hij e.symm) (k.2 i j hi hj).1 (h2 i j hi hj)
 ·rcases yU JF (k.1 i j hi hj).1 (k.2 i j hi hj).1 with h|h
  ·exact h
  ·exact Int.le_trans (k.1 i j hi hj).2 h
theorem Hm(n:Nat)(l:List ae): ∃C:List ae,(∃M F,MF n l M F/\C=b9 M F n n)/\ ∀M F,MF n l M F->b9 M F n n=C:=by
 obtain⟨M,F,h⟩:=vB n l
 refine⟨b9 M F n n,⟨M,F,h,rfl⟩,fun M' F' h'=>?_⟩
 unfold b9
 refine jl _ _ fun L a ha=>?_
 unfold bT
 refine jl _ _ fun L b hb=>?_
 have ha:=List.mem_range.1 ha
 have hb:=List.mem_range.1 hb
 unfold dO
 rw[vZ (h'.1 a b ha hb) (h.1 a b ha hb),vZ (h'.2 a b ha hb) (h.2 a b ha hb)]
noncomputable def gI(n:Nat)(l:List ae):List ae:=Classical.choose (Hm n l)
theorem kx{n:Nat}{l:List ae}{M F:Nat->Nat->Int}(h:MF n l M F):b9 M F n n=gI n l:=(Classical.choose_spec (Hm n l)).2 M F h
theorem wv{n:Nat}{l:List ae}(hl:mG n l){d f:Nat->Nat->Int}(h:DF n l d f):eB d f n n=gI n l:=by
 obtain⟨M,F,hm⟩:=vB n l
 rw[Hl hl h hm];exact kx hm
open Classical in
theorem na{P:Program}{z:T aa}{zn f:Nat}{args:List Value}{nx:Nat}{α:Type}{φ:α->Prop}{v:Value}{zz:α->T aa}{zn':α->Nat}(h:bI P z zn f args [] nx nx φ (fun _=>v) (fun _=>[]) zz zn')(hv:au v=true)
 (ho: ∀x,φ x-> ∀k,k<zn->(zz x).get k=z.get k):aM P z zn f args [] nx nx (fun _:Unit=>True) (fun _=>v) (fun _=>[]):=by
 have hz:=h.1
 refine⟨h.1,h.2.1,h.2.2.1,fun _ _=>⟨fun b o hb=>by simp at hb,Nat.le_refl _,h.1⟩,fun ρ w args' n h1 h2 h3 h4=>(h.2.2.2.2 ρ w args' n h1 h2 h3 h4).mono fun e w' ⟨x,hx,hg⟩=>⟨(),trivial,?_⟩⟩
 obtain⟨ρ',v',e1,g1,g2,g3⟩:=hg
 have hle:=(h.2.2.2.1 x hx).le
 have hsub: ∀b o,(fA z [] nx).heap.get b=some o->(fA (zz x) [] nx).heap.get b=some o:=fun b o hb=>by
  obtain⟨k,e,hk⟩:=eJ hb
  show(oM (zz x)).get b=_
  rw[e,fo]
  show(zz x).get k=_
  rw[ho x hx k (hz k o hk).1];exact hk
 have hfr: ∀b o,(fA z [] nx).heap.get b=some o-> ∃k,b=256*k+510/\k<zn/\z.get k=some o:=fun b o hb=>by
  obtain⟨k,e,hk⟩:=eJ hb
  exact⟨k,e,(hz k o hk).1,hk⟩
 have hno: ∀b,jB zn (zn' x) b->ρ b=none:=fun b ⟨k,e,k1,_⟩=>by rw[e];exact h4 k k1
 have hle':aU.le (fun b=>if jB zn (zn' x) b then none else ρ' b) ρ':=fun b L hL=>by
  simp only at hL
  split at hL
  ·cases hL
  ·exact hL
 refine⟨fun b=>if jB zn (zn' x) b then none else ρ' b,v',e1,?_,⟨fun b o hb=>?_,fun i j oi oj Li Lj hi hj hij how hLi hLj=>g2.inj i j oi oj Li Lj (hsub _ _ hi) (hsub _ _ hj) hij how (hle' _ _ hLi) (hle' _ _ hLj)⟩,⟨⟨g3.core.os,g3.core.tape,g3.core.output,g3.core.size,g3.core.same,fun b o L hb ho hL=>g3.core.own b o L (hsub _ _ hb) ho (hle' _ _ hL),fun b o L hb hL=>g3.core.any b o L (hsub _ _ hb) (hle' _ _ hL)⟩,fun b L hL=>?_,fun b hb _=>?_⟩⟩
 ·have:=g1.plain hv
  subst this
  exact VR.ba hv
 ·obtain⟨L,y,k1,k2,k3⟩:=g2.obj b o (hsub b o hb)
  obtain⟨k,e,hk,hzk⟩:=hfr b o hb
  have hnot: ∀k,k<zn-> ¬jB zn (zn' x) (256*k+510):=fun k hk ⟨j,e,j1,_⟩=>by omega
  refine⟨L,y,(if_neg (by rw[e];exact hnot k hk)).trans k1,k2,?_⟩
  have:=(hz k o hzk).2 (fun b=>if∃j,j<zn/\b=256*j+510 then some b else none) fun j hj=>by rw[if_pos ⟨j,hj,rfl⟩]
  refine(mP this k3).mono fun c M hM=>?_
  simp only[dJ] at hM
  by_cases hc: ∃j,j<zn/\c=256*j+510
  ·rw[if_pos hc] at hM
   obtain⟨j,hj,e⟩:=hc
   exact(if_neg (by rw[e];exact hnot j hj)).trans hM
  ·rw[if_neg hc] at hM;cases hM
 ·by_cases hn:jB zn (zn' x) b
  ·rw[hno b hn] at hL;cases hL
  ·exact(if_neg hn).trans (g3.ext _ _ hL)
 ·by_cases hn:jB zn (zn' x) b
  ·exact(if_pos hn).trans (hno b hn).symm
  ·exact(if_neg hn).trans (g3.sE b hb hn)
def G8(x y:ae):Bool:=decide (x.from_=y.from_) && (decide (x.an=y.an) && (decide (x.aH=y.aH) && (x.sf==y.sf)))
theorem xC(i j:Nat)(x y:ae):EF Tryz.prog .neq 141 (.tmp i) (.tmp j) (.agg ⟨x.row⟩) (.agg ⟨y.row⟩) (.bool (!G8 x y)):=by
 unfold EF
 rw[prun_bind]
 have h1:prun Tryz.prog (eqGuard .neq 141 (.tmp i) (.tmp j) (.agg ⟨x.row⟩) (.agg ⟨y.row⟩))=some ():=by kernel_rfl
 rw[h1,Option.bind_some]
 show prun _ (Op.equal _ _ _>>=fun b=>pure (Value.bool (!b)))=_
 rw[prun_bind,G6]
 rfl
theorem mr{x y:ae}:G8 x y=true↔x=y:=by
 obtain⟨a,b,c,d⟩:=x
 obtain⟨a',b',c',d'⟩:=y
 unfold G8
 simp
instance:DecidableEq ae:=fun x y=>decidable_of_iff _ mr
section
variable{z:T aa}{zn:Nat}
theorem J1(hz:aq z zn)(l C:List ae)(cp k:Nat)(hL:cu z 4 (l.map ae.row))(hk:z.get k=some (NQ (C.map ae.row).flatten C.length))(hlen:C.length=l.length)(hll:l.length<=10000)(b:Bool)(hb:b=decide (C=l)):
 ai Tryz.prog (ah (ag Tryz.f134) 0) 0 43 (Bh k C.length l.length cp 0) [] 0 z zn (Al.R (QK z zn k C.length l.length cp b).l):=by
 refine ak hD (cT T.leaf) (α:=Nat) 0 43 0 (fun i=>i<=l.length/\ ∀j,j<i->C[j]? =l[j]?) (fun i=>Bh k C.length l.length cp i) (fun _=>[]) (fun _=>z) (fun _=>zn) (fun i=>l.length - i) _ (fun i hI=>?_) 0 ⟨Nat.zero_le _,fun j hj=>absurd hj (Nat.not_lt_zero _)⟩
 obtain⟨hi,hs⟩:=hI
 by_cases hlt:i<l.length
 ·obtain⟨x,hx⟩:=ey hlt
  obtain⟨y,hy⟩:=ey (l:=C) (i:=i) (by omega)
  have hc:decide ((i:Int)<(C.length:Int))=true:=by simp;omega
  have hltC:i<C.length:=by omega
  obtain⟨el,hel⟩:=hL.ax (i:=i) (by simp;omega)
  have r1:aB Tryz.prog (br el (l.map ae.row).flatten) 141 (0+i*4)=some (.agg ⟨x.row⟩):=bJ (r:=x.row) (sz:=4) Tryz.underlying141 rfl rfl (aO (row:=ae.row) (sz:=4) l fun _=>rfl) (by rw[List.getElem?_map,hx];rfl)
  have r2:aB Tryz.prog ⟨(C.map ae.row).flatten,C.length*4,4,141,false,false,0,true⟩ 141 (0+i*4)=some (.agg ⟨y.row⟩):=gN (rows:=C.map ae.row) rfl (r:=y.row) (sz:=4) Tryz.underlying141 rfl rfl (aO (row:=ae.row) (sz:=4) C fun _=>rfl) (by rw[List.getElem?_map,hy];rfl)
  refine t100 (WE z zn k C.length l.length cp i (br el (l.map ae.row).flatten) ⟨(C.map ae.row).flatten,C.length*4,4,141,false,false,0,true⟩ x y (!G8 y x) (aj _ _ _ _ _ _ _ _ _) ⟨fun _=>?_,fun h=>(by rw[hc] at h;cases h)⟩)
  (repeat' first|(with_reducible first|exact rfl|exact True.intro|assumption|apply And.intro|exact hz|exact hlt|exact hltC|exact hk|exact hel|exact r1|exact r2|exact xC _ _ _ _|exact aT _ _ _ _|exact aK (by omega))|exact(rfl:Int.ofNat _=_)|exact(rfl:gH _ _=_)|exact hz|exact hlt|exact hltC|exact hk|exact hel|exact r1|exact r2|exact xC _ _ _ _|exact aT _ _ _ _|exact aK (by omega)|intro hq)
  ·refine bE ?_
   have hne: ¬y=x:=fun e=>by rw[mr.2 e] at hq;cases hq
   rw[hb];simp
   intro e;subst e;rw[hx] at hy;cases hy;exact hne rfl
  ·have he:y=x:=mr.1 (by simpa using hq)
   subst he
   exact⟨i+1,rfl,rfl,rfl,rfl,rfl,⟨by omega,fun j hj=>by
    by_cases e:j=i
    ·subst e;rw[hx,hy]
    ·exact hs j (by omega)⟩,by show l.length - (i+1)<l.length - i;omega⟩
 ·have hil:i=l.length:=by omega
  have hc:decide ((i:Int)<(C.length:Int))=false:=by simp;omega
  refine t100 (WE z zn k C.length l.length cp i ⟨[],0,0,0,true,true,0,true⟩ ⟨[],0,0,0,true,true,0,true⟩ ⟨0,0,0,true⟩ ⟨0,0,0,true⟩ true (aj _ _ _ _ _ _ _ _ _) ⟨fun h=>(by rw[hc] at h;cases h),fun _=>?_⟩)
  (repeat' first|(with_reducible first|exact rfl|exact True.intro|assumption|apply And.intro|exact hz)|exact(rfl:Int.ofNat _=_)|exact(rfl:gH _ _=_)|exact hz|intro hq)
  refine dp (bE ?_)
  have:C=l:=by
   refine List.ext_getElem? fun j=>?_
   by_cases hj:j<i
   ·exact hs j hj
   ·rw[List.getElem?_eq_none (by omega),List.getElem?_eq_none (by omega)]
  rw[hb];simp[this]
end
theorem M3{x y:ae}(h:(y.from_==x.from_)=false):bZ x y=false:=by
 unfold bZ
 have: ¬y.from_=x.from_:=by simpa using h
 rw[decide_eq_false this];rfl
theorem M1{x y:ae}(h:(y.an==x.an)=false):bZ x y=false:=by
 unfold bZ
 have: ¬y.an=x.an:=by simpa using h
 rw[decide_eq_false this];simp
theorem M0{x y:ae}(h:y.sf=true)(h2:x.sf=false):bZ x y=false:=by
 unfold bZ
 rw[h,h2];simp
theorem MZ{x y:ae}(h:y.sf=false)(h2:x.sf=true):bZ x y=false:=by
 unfold bZ
 rw[h,h2];simp
theorem Lu{x y:ae}(h:(y.from_==x.from_)=true)(h2:(y.an==x.an)=true)(h3:y.sf=x.sf):bZ x y=true:=by
 unfold bZ
 rw[decide_eq_true (by simpa using h),decide_eq_true (by simpa using h2),h3];simp
section
variable{z:T aa}{zn:Nat}
theorem Gu(hz:aq z zn)(hg:eR Tryz.prog z gP)(N:aC)(l:List ae)(hN:N.np=l.length)(hnet: ∀σ:bA,aG (az σ []) (N.cd N.p1)=some (N.cd N.p1))(hL:cu z 4 (l.map ae.row))(i:Nat)(hi8:i<=10000)(x:ae)(hx:l[i]? =some x):
 ai Tryz.prog (ah (ah (ag Tryz.f91) 0) 0) 2 111 (xh i 0) [(0,N.cd N.p1),(1,w5 x)] 2 z zn (Al.R (NB z zn N i x ((l.take i).any (bZ x))).l):=by
 have hi:i<l.length:=(List.getElem?_eq_some_iff.1 hx).1
 refine ak hD hg (α:=Nat) 2 111 2 (fun k=>k<=i/\(l.take k).any (bZ x)=false) (fun k=>xh i k) (fun k=>[(0,N.cd N.p1),(1,w5 x)]) (fun _=>z) (fun _=>zn) (fun k=>i - k) _ (fun k hI=>?_) 0 ⟨Nat.zero_le _,by simp⟩
 obtain⟨hk,hs⟩:=hI
 by_cases hlt:k<i
 ·obtain⟨y,hy⟩:=ey (l:=l) (i:=k) (by omega)
  have hc:decide ((k:Int)<(i:Int))=true:=by simp;omega
  have hkn:k<N.np:=by omega
  obtain⟨el,hel⟩:=hL.ax (i:=k) (by simp;omega)
  have r0:aB Tryz.prog (br el (l.map ae.row).flatten) 141 (0+k*4)=some (.agg ⟨y.row⟩):=bJ (r:=y.row) (sz:=4) Tryz.underlying141 rfl rfl (aO (row:=ae.row) (sz:=4) l fun _=>rfl) (by rw[List.getElem?_map,hy];rfl)
  have nx:bZ x y=false->aj (fun k=>k<=i/\(l.take k).any (bZ x)=false) (fun k=>xh i k) (fun k=>[(0,N.cd N.p1),(1,w5 x)]) 2 (fun _=>z) (fun _=>zn) (fun k=>i - k) (Al.R (NB z zn N i x ((l.take i).any (bZ x))).l) k .normal (xh i (k+1)) [(0,N.cd N.p1),(1,w5 x)] 2 z zn:=fun h=>
   ⟨k+1,rfl,rfl,rfl,rfl,rfl,⟨hlt,by rw[jo hy,hs,h];rfl⟩,by show i - (k+1)<i - k;omega⟩
  have ret:bZ x y=true->aj (fun k=>k<=i/\(l.take k).any (bZ x)=false) (fun k=>xh i k) (fun k=>[(0,N.cd N.p1),(1,w5 x)]) 2 (fun _=>z) (fun _=>zn) (fun k=>i - k) (Al.R (NB z zn N i x ((l.take i).any (bZ x))).l) k .ret [(2,iv i),(3,I 6)] [] 2 z zn:=fun h=>by
   refine bE ?_
   rw[List.any_eq_true]
   exact⟨y,List.mem_of_getElem? (i:=k) (by rw[List.getElem?_take,if_pos hlt];exact hy),h⟩
  refine t100 (Wv z zn i k N (br el (l.map ae.row).flatten) x y (aj _ _ _ _ _ _ _ _ _) ⟨fun _=>?_,fun h=>(by rw[hc] at h;cases h)⟩)
  (repeat' first|(with_reducible first|exact rfl|exact True.intro|assumption|apply And.intro|exact hz|exact hkn|exact hel|exact r0|exact hnet _|exact aK (by omega))|exact(rfl:Int.ofNat _=_)|exact(rfl:gP _ _=_)|exact hz|exact hkn|exact hel|exact r0|exact hnet _|exact aK (by omega)|intro hq)
  all_goals first
   |exact nx (M3 (by with_reducible assumption))
   |exact nx (M1 (by with_reducible assumption))
   |exact ret (Lu (by with_reducible assumption) (by with_reducible assumption) (Eq.trans (by with_reducible assumption:y.sf=true) (Eq.symm (by with_reducible assumption:x.sf=true))))
   |exact ret (Lu (by with_reducible assumption) (by with_reducible assumption) (Eq.trans (by with_reducible assumption:y.sf=false) (Eq.symm (by with_reducible assumption:x.sf=false))))
   |exact nx (M0 (by with_reducible assumption) (by with_reducible assumption))
   |exact nx (MZ (by with_reducible assumption) (by with_reducible assumption))
 ·have hki:k=i:=by omega
  subst hki
  have hc:decide ((k:Int)<(k:Int))=false:=by simp
  refine t100 (Wv z zn k k N ⟨[],0,0,0,true,true,0,true⟩ x ⟨0,0,0,true⟩ (aj _ _ _ _ _ _ _ _ _) ⟨fun h=>(by rw[hc] at h;cases h),fun _=>?_⟩)
  (repeat' first|(with_reducible first|exact rfl|exact True.intro|assumption|apply And.intro|exact hz|exact hnet _)|exact(rfl:Int.ofNat _=_)|exact(rfl:gP _ _=_)|exact hz|exact hnet _|intro hq)
  exact dp (bE hs)
theorem Gt(hz:aq z zn)(hg:eR Tryz.prog z gP)(N:aC)(l C:List ae)(hN:N.np=l.length)(hlen:C.length=l.length)(hll:l.length<=10000)(hnet: ∀σ:bA,aG (az σ []) (N.cd N.p1)=some (N.cd N.p1))(hL:cu z 4 (l.map ae.row))(s:pS)(hk:s.k=C.length)(hbl:s.bl=dg C)(hsz:s.z=z)(hszn:s.zn=zn)(b:Bool)(hb:b=decide (C=l)):
 ai Tryz.prog (ah (ag Tryz.f91) 2) 2 111 (qX s.k 0) [(0,N.cd N.p1),(1, .ax s.bl)] 2 z zn (Al.R (NA N N.p1 b s).l):=by
 obtain⟨k,bl,z',zn'⟩:=s
 simp only at hk hbl hsz hszn
 subst hk hbl hsz hszn
 have hox:(dg C).cells=(C.map ae.row).flatten:=by
  unfold dg
  split
  ·rename_i e;subst e;rfl
  ·rfl
 refine ak hD hg (α:=Nat) 2 111 2 (fun i=>i<=l.length/\ ∀j,j<i->C[j]? =l[j]?) (fun i=>qX C.length i) (fun _=>[(0,N.cd N.p1),(1, .ax (dg C))]) (fun _=>z') (fun _=>zn') (fun i=>l.length - i) _ (fun i hI=>?_) 0 ⟨Nat.zero_le _,fun j hj=>absurd hj (Nat.not_lt_zero _)⟩
 obtain⟨hi,hs⟩:=hI
 by_cases hlt:i<l.length
 ·obtain⟨x,hx⟩:=ey hlt
  obtain⟨y,hy⟩:=ey (l:=C) (i:=i) (by omega)
  have hc:decide ((i:Int)<(C.length:Int))=true:=by simp;omega
  have hltC:i<C.length:=by omega
  have hltN:i<N.np:=by omega
  obtain⟨el,hel⟩:=hL.ax (i:=i) (by simp;omega)
  have r1:aB Tryz.prog (br el (l.map ae.row).flatten) 141 (0+i*4)=some (.agg ⟨x.row⟩):=bJ (r:=x.row) (sz:=4) Tryz.underlying141 rfl rfl (aO (row:=ae.row) (sz:=4) l fun _=>rfl) (by rw[List.getElem?_map,hx];rfl)
  have r2:aB Tryz.prog (dg C) 141 (0+i*4)=some (.agg ⟨y.row⟩):=gN (rows:=C.map ae.row) hox (r:=y.row) (sz:=4) Tryz.underlying141 rfl rfl (aO (row:=ae.row) (sz:=4) C fun _=>rfl) (by rw[List.getElem?_map,hy];rfl)
  refine t100 (Wu z' zn' i C.length N (br el (l.map ae.row).flatten) (dg C) x y (!G8 y x) (aj _ _ _ _ _ _ _ _ _) ⟨fun _=>?_,fun h=>(by rw[hc] at h;cases h)⟩)
  (repeat' first|(with_reducible first|exact rfl|exact True.intro|assumption|apply And.intro|exact hz|exact hlt|exact hltC|exact hltN|exact hel|exact r1|exact r2|exact xC _ _ _ _|exact hnet _|exact dN _|exact aK (by omega))|exact(rfl:Int.ofNat _=_)|exact(rfl:gP _ _=_)|exact hz|exact hlt|exact hltC|exact hltN|exact hel|exact r1|exact r2|exact xC _ _ _ _|exact hnet _|exact dN _|exact aK (by omega)|intro hq)
  ·refine bE ?_
   have hne: ¬y=x:=fun e=>by rw[mr.2 e] at hq;cases hq
   rw[hb];simp
   intro e;subst e;rw[hx] at hy;cases hy;exact hne rfl
  ·have he:y=x:=mr.1 (by simpa using hq)
   subst he
   exact⟨i+1,rfl,rfl,rfl,rfl,rfl,⟨by omega,fun j hj=>by
    by_cases e:j=i
    ·subst e;rw[hx,hy]
    ·exact hs j (by omega)⟩,by show l.length - (i+1)<l.length - i;omega⟩
 ·have hil:i=l.length:=by omega
  have hc:decide ((i:Int)<(C.length:Int))=false:=by simp;omega
  refine t100 (Wu z' zn' i C.length N ⟨[],0,0,0,true,true,0,true⟩ (dg C) ⟨0,0,0,true⟩ ⟨0,0,0,true⟩ true (aj _ _ _ _ _ _ _ _ _) ⟨fun h=>(by rw[hc] at h;cases h),fun _=>?_⟩)
  (repeat' first|(with_reducible first|exact rfl|exact True.intro|assumption|apply And.intro|exact hz)|exact(rfl:Int.ofNat _=_)|exact(rfl:gP _ _=_)|exact hz|intro hq)
  refine dp (bE ?_)
  have:C=l:=by
   refine List.ext_getElem? fun j=>?_
   by_cases hj:j<i
   ·exact hs j hj
   ·rw[List.getElem?_eq_none (by omega),List.getElem?_eq_none (by omega)]
  rw[hb];simp[this]
end
theorem CN{a m:Int}(h:(!(decide (0<=a) && decide (a<=m - 1)))=true):a<0\/m<=a:=by
 simp at h;omega
theorem zE{a m:Int}(h:(!(decide (0<=a) && decide (a<=m - 1)))=false): ¬a<0/\ ¬m<=a:=by
 simp at h;omega
theorem GO{a m k:Int}(h:(!(decide (k<=a) && decide (a<=m)))=true):a<k\/m<a:=by
 simp at h;omega
theorem v8{a m k:Int}(h:(!(decide (k<=a) && decide (a<=m)))=false): ¬(a<k\/m<a):=by
 simp at h;omega
section
variable{z:T aa}{zn:Nat}
theorem Gv(hz:aq z zn)(hg:eR Tryz.prog z gP)(N:aC)(hn:N.ns<=64)(l:List ae)(hN:N.np=l.length)(hnet: ∀σ:bA,aG (az σ []) (N.cd N.p1)=some (N.cd N.p1))(hL:cu z 4 (l.map ae.row))(r:Int × Int)(hr:scan (cN N.ns l) l.length 0=r):
 ai Tryz.prog (ah (ag Tryz.f91) 0) 1 111 (lJ 0) [(0,N.cd N.p1)] 1 z zn (Al.R (JI z zn N N.p1 r.1 r.2).l):=by
 refine ak hD hg (α:=Nat) 1 111 1 (fun i=>i<=l.length/\scan (cN N.ns l) (l.length - i) i=r/\ ∀j,j<i->cN N.ns l j=none) (fun i=>lJ i) (fun i=>[(0,N.cd N.p1)]) (fun _=>z) (fun _=>zn) (fun i=>l.length - i) _ (fun i hI=>?_) 0 ⟨Nat.zero_le _,hr,fun j hj=>absurd hj (Nat.not_lt_zero _)⟩
 obtain⟨h1,h2,h3⟩:=hI
 have hi8:=Cp (n:=N.ns) (by omega) h1 h3
 by_cases hi:i<l.length
 ·obtain⟨x,hx⟩:=ey hi
  obtain⟨el,hel⟩:=hL.ax (i:=i) (by simp;omega)
  have hrow:aB Tryz.prog (br el (l.map ae.row).flatten) 141 (0+i*4)=some (.agg ⟨x.row⟩):=bJ (r:=x.row) (sz:=4) Tryz.underlying141 rfl rfl (aO (row:=ae.row) (sz:=4) l fun _=>rfl) (by rw[List.getElem?_map,hx];rfl)
  have hlp:=Gu hz hg N l hN hnet hL i (by omega) x hx
  have hlk:fq N.ns l i x=if x.from_<0\/(N.ns:Int)<=x.from_\/x.an<0\/(N.ns:Int)<=x.an\/x.from_=x.an then 9 else if x.aH<1\/14400<x.aH then 2 else if (l.take i).any (bZ x)=true then 6 else 0:=rfl
  have ret: ∀e:Int,fq N.ns l i x=e->e≠0->aj (fun i=>i<=l.length/\scan (cN N.ns l) (l.length - i) i=r/\ ∀j,j<i->cN N.ns l j=none) (fun i=>lJ i) (fun i=>[(0,N.cd N.p1)]) 1 (fun _=>z) (fun _=>zn) (fun i=>l.length - i) (Al.R (JI z zn N N.p1 r.1 r.2).l) i .ret [(2,iv i),(3,zv e)] [] 1 z zn:=fun e h h0=>by
   have hb:cN N.ns l i=some e:=by unfold cN;rw[hx];simp only;rw[h,if_neg h0]
   have:r=((i:Int),e):=by rw[←h2,de hi hb]
   rw[this]
   exact bE h0
  have jy:fq N.ns l i x=0->aj (fun i=>i<=l.length/\scan (cN N.ns l) (l.length - i) i=r/\ ∀j,j<i->cN N.ns l j=none) (fun i=>lJ i) (fun i=>[(0,N.cd N.p1)]) 1 (fun _=>z) (fun _=>zn) (fun i=>l.length - i) (Al.R (JI z zn N N.p1 r.1 r.2).l) i .normal (lJ (i+1)) [(0,N.cd N.p1)] 1 z zn:=fun h0=>by
   have hb:cN N.ns l i=none:=by unfold cN;rw[hx];simp only;rw[if_pos h0]
   exact⟨i+1,rfl,rfl,rfl,rfl,rfl,⟨hi,by rw[←cP hi hb];exact h2,fun j hj=>by
    by_cases e:j=i
    ·subst e;exact hb
    ·exact h3 j (by omega)⟩,by show l.length - (i+1)<l.length - i;omega⟩
  have e9a:(!(decide (0<=x.from_) && decide (x.from_<=(N.ns:Int) - 1)))=true->fq N.ns l i x=9:=fun h=>by
   have:=CN h
   rw[hlk,if_pos (by omega)]
  have e9b:(!(decide (0<=x.an) && decide (x.an<=(N.ns:Int) - 1)))=true->fq N.ns l i x=9:=fun h=>by
   have:=CN h
   rw[hlk,if_pos (by omega)]
  have e9c:(x.from_==x.an)=true->fq N.ns l i x=9:=fun h=>by
   have:x.from_=x.an:=by simpa using h
   rw[hlk,if_pos (by omega)]
  have no9:(!(decide (0<=x.from_) && decide (x.from_<=(N.ns:Int) - 1)))=false->(!(decide (0<=x.an) && decide (x.an<=(N.ns:Int) - 1)))=false->(x.from_==x.an)=false-> ¬(x.from_<0\/(N.ns:Int)<=x.from_\/x.an<0\/(N.ns:Int)<=x.an\/x.from_=x.an):=fun h1 h2 h3=>by
   have k1:=zE h1
   have k2:=zE h2
   have k3: ¬x.from_=x.an:=by simpa using h3
   omega
  have e2:(!(decide (0<=x.from_) && decide (x.from_<=(N.ns:Int) - 1)))=false->(!(decide (0<=x.an) && decide (x.an<=(N.ns:Int) - 1)))=false->(x.from_==x.an)=false->(!(decide (1<=x.aH) && decide (x.aH<=14400)))=true->fq N.ns l i x=2:=fun a b c d=>by
   rw[hlk,if_neg (no9 a b c),if_pos (GO d)]
  have e6:(!(decide (0<=x.from_) && decide (x.from_<=(N.ns:Int) - 1)))=false->(!(decide (0<=x.an) && decide (x.an<=(N.ns:Int) - 1)))=false->(x.from_==x.an)=false->(!(decide (1<=x.aH) && decide (x.aH<=14400)))=false->(l.take i).any (bZ x)=true->fq N.ns l i x=6:=fun a b c d e=>by
   rw[hlk,if_neg (no9 a b c),if_neg (v8 d),if_pos e]
  have e0:(!(decide (0<=x.from_) && decide (x.from_<=(N.ns:Int) - 1)))=false->(!(decide (0<=x.an) && decide (x.an<=(N.ns:Int) - 1)))=false->(x.from_==x.an)=false->(!(decide (1<=x.aH) && decide (x.aH<=14400)))=false->(l.take i).any (bZ x)=false->fq N.ns l i x=0:=fun a b c d e=>by
   rw[hlk,if_neg (no9 a b c),if_neg (v8 d),if_neg (by rw[e];decide)]
  have hc:decide ((i:Int)<(N.np:Int))=true:=by simp;omega
  have hiN:i<N.np:=by omega
  have hwr:Value.int .i64 (IntKind.i64.wrap ((N.ns:Int) - 1))=Value.int .i64 ((N.ns:Int) - 1):=ia (by omega) (by omega)
  refine t100 (Ww z zn i N (br el (l.map ae.row).flatten) x ((l.take i).any (bZ x)) (aj _ _ _ _ _ _ _ _ _) ⟨fun _=>?_,fun h=>(by rw[hc] at h;cases h)⟩)
  (repeat' first|(with_reducible first|exact rfl|exact True.intro|assumption|apply And.intro|exact hz|exact hiN|exact hnet _|exact hel|exact hrow|exact hlp|exact hwr|exact aK (by omega))|exact(rfl:Int.ofNat _=_)|exact(rfl:gP _ _=_)|exact hz|exact hiN|exact hnet _|exact hel|exact hrow|exact hlp|exact hwr|exact aK (by omega)|intro hq)
  all_goals first
   |exact ret 9 (e9a (by with_reducible assumption)) (by decide)
   |exact ret 9 (e9b (by with_reducible assumption)) (by decide)
   |exact ret 9 (e9c (by with_reducible assumption)) (by decide)
   |exact ret 2 (e2 (by with_reducible assumption) (by with_reducible assumption) (by with_reducible assumption) (by with_reducible assumption)) (by decide)
   |exact ret 6 (e6 (by with_reducible assumption) (by with_reducible assumption) (by with_reducible assumption) (by with_reducible assumption) (by with_reducible assumption)) (by decide)
   |exact jy (e0 (by with_reducible assumption) (by with_reducible assumption) (by with_reducible assumption) (by with_reducible assumption) (by with_reducible assumption))
 ·have hc:decide ((i:Int)<(N.np:Int))=false:=by simp;omega
  rw[dy (by omega)] at h2
  refine t100 (Ww z zn i N ⟨[],0,0,0,true,true,0,true⟩ ⟨0,0,0,true⟩ true (aj _ _ _ _ _ _ _ _ _) ⟨fun h=>(by rw[hc] at h;cases h),fun _=>?_⟩)
  (repeat' first|(with_reducible first|exact rfl|exact True.intro|assumption|apply And.intro|exact hz|exact hnet _)|exact(rfl:Int.ofNat _=_)|exact(rfl:gP _ _=_)|exact hz|exact hnet _|intro hq)
  refine dp (bE ?_)
  rw[←h2];exact⟨rfl,rfl⟩
end
theorem qm{P:Program}{z:T aa}{zn f:Nat}{args:List Value}{aQ:bY}{nx eS:Nat}{α β:Type}{φ:α->Prop}{v:α->Value}{zo:α->bY}{zz:α->T aa}{zn':α->Nat}{ψ:β->Prop}{u:β->Value}{yo:β->bY}{yy:β->T aa}{yn:β->Nat}(h:bI P z zn f args aQ nx eS φ v zo zz zn')
 (hm: ∀x,φ x-> ∃y,ψ y/\v x=u y/\zo x=yo y/\zz x=yy y/\zn' x=yn y) (hb: ∀y,ψ y->uB zn (yo y) (yy y) (yn y)):bI P z zn f args aQ nx eS ψ u yo yy yn:=
 ⟨h.1,h.2.1,h.2.2.1,hb,fun ρ w args' n h1 h2 h3 h4=>(h.2.2.2.2 ρ w args' n h1 h2 h3 h4).mono fun e w' ⟨x,hx,hg⟩=>by
   obtain⟨y,hy,e1,e2,e3,e4⟩:=hm x hx
   exact⟨y,hy,by rw[←e1,←e2,←e3,←e4];exact hg⟩⟩
def u7(z:T aa)(zn:Nat)(t:T aa × Nat):Prop:=aq t.1 t.2/\zn<=t.2/\ ∀k,k<zn->t.1.get k=z.get k
theorem u7.bN{z:T aa}{zn:Nat}{t:T aa × Nat}(h:u7 z zn t):aq t.1 t.2:=h.1
theorem Ui(n:Nat):(if (0:Int)>(n:Int) then 0 else (n:Int))=n:=by rw[if_neg (by omega)]
section
variable{z:T aa}{zn:Nat}
theorem zq(hz:aq z zn)(v:Value)(hv: ∀σ,aX (az σ []) v=some v):ai Tryz.prog (ah (ag Tryz.f134) 0) 0 43 (nB v) [] 0 z zn (Al.R (Gi z zn v).l):=by
 refine ak hD (cT T.leaf) (α:=Unit) 0 43 0 (fun _=>True) (fun _=>nB v) (fun _=>[]) (fun _=>z) (fun _=>zn) (fun _=>0) _ (fun _ _=>?_) () trivial
 refine t100 (UO z zn v (aj _ _ _ _ _ _ _ _ _) ?_)
 (repeat' first|(with_reducible first|exact rfl|exact True.intro|assumption|apply And.intro|exact hz)|exact(rfl:Int.ofNat _=_)|exact(rfl:gH _ _=_)|exact hz|intro hq)
 exact bE trivial
theorem EC(hz:aq z zn)(n:Nat)(hn:n<=64)(l:List ae)(hl:mG n l)(hll:l.length<=10000)(cp:Nat)(hL:cu z 4 (l.map ae.row))(C:List ae)(hC: ∀d f,DF n l d f->eB d f n n=C)(hS:jW C)
 (hso:A1 z zn 187 [tb 4 l.length cp,iv n] [] 0 0 (.tuple ⟨[zv 0,zv 0]⟩) []):
 bI Tryz.prog z zn 134 [tb 4 l.length cp,iv n] [] 0 0 (u7 z zn) (fun _=> .bool (decide (C=l))) (fun _=>[]) (fun t=>t.1) (fun t=>t.2):=by
 have hc:=Rw hz n hn l hl hll cp hL C hC hS
 have hgt:decide ((n:Int)>64)=false:=by simp;omega
 by_cases hnil:C=[]
 ·have hcz:bI Tryz.prog z zn 188 [tb 4 l.length cp, .int .i64 (if 0>(n:Int) then 0 else (n:Int))] [] 0 0 (u7 z zn) (fun _=>ay) (fun _=>[]) (fun t=>t.1) (fun t=>t.2):=by
   rw[Ui]
   refine qm hc (fun s hs=>⟨(s.z,s.zn),⟨hs.bN,hs.le,hs.ie⟩,?_,rfl,rfl,rfl⟩) fun t ht=>⟨fun b o hb=>by simp at hb,ht.2.1,ht.1⟩
   rcases hs.val with ⟨_,e1,e2⟩|⟨h,_⟩
   ·obtain⟨oa,k,z,zn⟩:=s
    simp only at e1 e2;subst e1 e2;rfl
   ·exact absurd hnil h
  have lp: ∀t,u7 z zn t->ai Tryz.prog (ah (ag Tryz.f134) 0) 0 43 (nB (tb 4 l.length cp)) [] 0 t.1 t.2 (Al.R (Gi t.1 t.2 (tb 4 l.length cp)).l):=fun t ht=>zq ht.1 _ fun σ=>aT σ _ _ _
  refine fN (cT T.leaf) (fn:=Tryz.f134) (by kernel_rfl) (by kernel_rfl) hz ⟨by decide,by decide⟩ (fun t ht=>⟨rfl,ht.2.1,ht.1⟩) (N:=100) ?_
  refine Zo z zn n l.length cp (u7 z zn) _ ⟨fun h=>(by rw[hgt] at h;cases h),fun _=>?_⟩
  (repeat' first|(with_reducible first|exact rfl|exact True.intro|assumption|apply And.intro|exact hz|exact hso|exact hcz|exact lp _ (by with_reducible assumption)|exact u7.bN (by with_reducible assumption)|exact aT _ _ _ _)|exact(rfl:Int.ofNat _=_)|exact(rfl:gH _ _=_)|exact hz|exact hso|exact hcz|exact lp _ (by with_reducible assumption)|exact u7.bN (by with_reducible assumption)|exact aT _ _ _ _|intro hq)
  ·rename_i t ht
   refine q2 t ht rfl ?_ rfl rfl rfl
   have: ¬C=l:=fun e=>by
    rw[←e,hnil] at hq;simp at hq
   rw[decide_eq_false this]
  ·rename_i t ht h0 _
   refine q2 t ht rfl ?_ rfl rfl rfl
   have:C=l:=by
    have:l.length=0:=by simp at h0;omega
    rw[hnil];exact(List.eq_nil_of_length_eq_zero this).symm
   rw[decide_eq_true this]
 ·have hct:bI Tryz.prog z zn 188 [tb 4 l.length cp, .int .i64 (if 0>(n:Int) then 0 else (n:Int))] [] 0 0 (fun t:Nat × Nat × T aa × Nat=>u7 z zn (t.2.2.1,t.2.2.2)/\t.2.1=C.length/\t.2.2.1.get t.1=some (NQ (C.map ae.row).flatten C.length)) (fun s=>tb s.1 s.2.1 s.2.1) (fun _=>[]) (fun t=>t.2.2.1) (fun t=>t.2.2.2):=by
   rw[Ui]
   refine qm hc (fun s hs=>?_) fun t ht=>⟨fun b o hb=>by simp at hb,ht.1.2.1,ht.1.1⟩
   rcases hs.val with ⟨h,_⟩|⟨_,kk,_,_,e1,e2,e3⟩
   ·exact absurd h hnil
   ·refine⟨(kk,C.length,s.z,s.zn),⟨⟨hs.bN,hs.le,hs.ie⟩,rfl,e3⟩,?_,rfl,rfl,rfl⟩
    obtain⟨oa,k,z,zn⟩:=s
    simp only at e1 e2;subst e1 e2;rfl
  have lp: ∀t:Nat × Nat × T aa × Nat,(u7 z zn (t.2.2.1,t.2.2.2)/\t.2.1=C.length/\t.2.2.1.get t.1=some (NQ (C.map ae.row).flatten C.length))->((t.2.1:Int) !=(l.length:Int))=false->ai Tryz.prog (ah (ag Tryz.f134) 0) 0 43 (Bh t.1 t.2.1 l.length cp 0) [] 0 t.2.2.1 t.2.2.2 (Al.R (QK t.2.2.1 t.2.2.2 t.1 t.2.1 l.length cp (decide (C=l))).l):=fun t ⟨ht,h1,h2⟩ h3=>by
   rw[h1] at h3 ⊢
   exact J1 ht.1 l C cp t.1 (j8 hL hz ht.2.2) h2 (by simp at h3;omega) hll _ rfl
  refine fN (cT T.leaf) (fn:=Tryz.f134) (by kernel_rfl) (by kernel_rfl) hz ⟨by decide,by decide⟩ (fun t ht=>⟨rfl,ht.2.1,ht.1⟩) (N:=100) ?_
  refine Zp z zn n l.length cp (decide (C=l)) (fun t:Nat × Nat × T aa × Nat=>u7 z zn (t.2.2.1,t.2.2.2)/\t.2.1=C.length/\t.2.2.1.get t.1=some (NQ (C.map ae.row).flatten C.length)) _ ⟨fun h=>(by rw[hgt] at h;cases h),fun _=>?_⟩
  (repeat' first|(with_reducible first|exact rfl|exact True.intro|assumption|apply And.intro|exact hz|exact hso|exact hct|exact lp _ (by with_reducible assumption) (by with_reducible assumption)|exact u7.bN (And.left (by with_reducible assumption))|exact aT _ _ _ _)|exact(rfl:Int.ofNat _=_)|exact(rfl:gH _ _=_)|exact hz|exact hso|exact hct|exact lp _ (by with_reducible assumption) (by with_reducible assumption)|exact u7.bN (And.left (by with_reducible assumption))|exact aT _ _ _ _|intro hq)
  ·rename_i t ht
   refine q2 (t.2.2.1,t.2.2.2) ht.1 rfl ?_ rfl rfl rfl
   have: ¬C=l:=fun e=>by
    rw[ht.2.1,e] at hq;simp at hq
   rw[decide_eq_false this]
  ·rename_i t ht _ _
   refine q2 (t.2.2.1,t.2.2.2) ht.1 rfl ?_ rfl rfl rfl
   rw[hq]
  ·rename_i t ht _ _
   refine q2 (t.2.2.1,t.2.2.2) ht.1 rfl ?_ rfl rfl rfl
   rw[hq]
theorem HU(hz:aq z zn)(n:Nat)(hn:n<=64)(l:List ae)(hl:mG n l)(hll:l.length<=10000)(cp:Nat)(hL:cu z 4 (l.map ae.row))(C:List ae)(hC: ∀d f,DF n l d f->eB d f n n=C)(hS:jW C)
 (hso:A1 z zn 187 [tb 4 l.length cp,iv n] [] 0 0 (.tuple ⟨[zv 0,zv 0]⟩) []):
 A1 z zn 134 [tb 4 l.length cp,iv n] [] 0 0 (.bool (decide (C=l))) []:=
 na (EC hz n hn l hl hll cp hL C hC hS hso) rfl fun t ht=>ht.2.2
theorem EB(hz:aq z zn)(n:Nat)(hn:n<=64)(hC: ∀d f,DF n [] d f->eB d f n n=[])(hS:jW [])
 (hso:A1 z zn 187 [ay,iv n] [] 0 0 (.tuple ⟨[zv 0,zv 0]⟩) []):
 A1 z zn 134 [ay,iv n] [] 0 0 (.bool true) []:=by
 have hc:=Om hz n hn [] hC hS
 have hgt:decide ((n:Int)>64)=false:=by simp;omega
 have hcz:bI Tryz.prog z zn 188 [ay, .int .i64 (if 0>(n:Int) then 0 else (n:Int))] [] 0 0 (u7 z zn) (fun _=>ay) (fun _=>[]) (fun t=>t.1) (fun t=>t.2):=by
  rw[Ui]
  refine qm hc (fun s hs=>⟨(s.z,s.zn),⟨hs.bN,hs.le,hs.ie⟩,?_,rfl,rfl,rfl⟩) fun t ht=>⟨fun b o hb=>by simp at hb,ht.2.1,ht.1⟩
  rcases hs.val with ⟨_,e1,e2⟩|⟨h,_⟩
  ·obtain⟨oa,k,z,zn⟩:=s
   simp only at e1 e2;subst e1 e2;rfl
  ·exact absurd rfl h
 have lp: ∀t,u7 z zn t->ai Tryz.prog (ah (ag Tryz.f134) 0) 0 43 (nB ay) [] 0 t.1 t.2 (Al.R (Gi t.1 t.2 ay).l):=fun t ht=>zq ht.1 _ fun σ=>rfl
 refine na (φ:=u7 z zn) (zz:=fun t=>t.1) (zn':=fun t=>t.2) ?_ rfl fun t ht=>ht.2.2
 refine fN (cT T.leaf) (fn:=Tryz.f134) (by kernel_rfl) (by kernel_rfl) hz ⟨by decide,by decide⟩ (fun t ht=>⟨rfl,ht.2.1,ht.1⟩) (N:=100) ?_
 refine Zq z zn n (u7 z zn) _ ⟨fun h=>(by rw[hgt] at h;cases h),fun _=>?_⟩
 (repeat' first|(with_reducible first|exact rfl|exact True.intro|assumption|apply And.intro|exact hz|exact hso|exact hcz|exact lp _ (by with_reducible assumption)|exact u7.bN (by with_reducible assumption))|exact(rfl:Int.ofNat _=_)|exact(rfl:gH _ _=_)|exact hz|exact hso|exact hcz|exact lp _ (by with_reducible assumption)|exact u7.bN (by with_reducible assumption)|intro hq)
 rename_i t ht _
 exact q2 t ht rfl rfl rfl rfl rfl
end
theorem ue{n:Int}{l:List ae}(i:Nat):cN n l i≠some 0:=by
 unfold cN
 split
 ·split
  ·simp
  ·rename_i h;intro e;exact h (by simpa using e)
 ·simp
theorem FY{n:Nat}{l:List ae}(h:(aS n l).2=0):mG n l:=⟨fun p hp=>by
 obtain⟨i,hi⟩:=List.mem_iff_getElem?.1 hp
 have hlt:=(List.getElem?_eq_some_iff.1 hi).1
 have:=j9 ue l.length 0 h i (Nat.zero_le _) (by omega)
 unfold cN at this
 rw[hi] at this
 simp only at this
 split at this
 ·rename_i h0
  unfold fq at h0
  split at h0
  ·cases h0
  ·split at h0
   ·cases h0
   ·omega
 ·cases this⟩
theorem uM{n:Int}{l:List ae}(h:(aS n l).2=0):aS n l=(0,0):=by
 have hn:=j9 ue l.length 0 h
 have: ∀(m i:Nat),(∀j,i<=j->j<i+m->cN n l j=none)->scan (cN n l) m i=(0,0):=by
  intro m
  induction m with
  |zero=>intro i _;rfl
  |succ m ih=>
   intro i hb
   have:=cP (bad:=cN n l) (n:=i+(m+1)) (i:=i) (by omega) (hb i (Nat.le_refl _) (by omega))
   rw[show i+(m+1) - i=m+1 by omega,show i+(m+1) - (i+1)=m by omega] at this
   rw[this]
   exact ih (i+1) fun j h1 h2=>hb j (by omega) (by omega)
 exact this _ _ hn
section
variable{z:T aa}{zn:Nat}
theorem Hn{n:Nat}(hn:n<=64)(l:List ae):(gI n l).length<=10000:=by
 obtain⟨M,F,h⟩:=vB n l
 rw[←kx h]
 have:=nR M F n n
 have h2:n*(2*n)<=64*(2*64):=Nat.mul_le_mul (by omega) (by omega)
 omega
theorem Nf{n:Nat}(hn:n<=64){l:List ae}(h:(aS n l).2=0):l.length<=10000:=by
 have hb:=j9 ue l.length 0 h
 have:=Cp (n:=n) (by omega) (Nat.le_refl l.length) fun j hj=>hb j (Nat.zero_le _) (by omega)
 omega
theorem Hz(hz:aq z zn)(h5:5<=zn)(N:aC)(hn:N.ns<=64)(l:List ae)(hN:N.np=l.length)(hnet: ∀σ:bA,aG (az σ []) (N.cd N.p1)=some (N.cd N.p1))(hL:cu z 4 (l.map ae.row))(p:Int × Int)
 (hp:p=if (aS N.ns l).2≠0 then aS N.ns l else if gI N.ns l=l then (0,0) else (0,18)):
 A1 z zn 91 [.agg ⟨N.gV N.p1⟩] [] 0 0 (.tuple ⟨[zv p.1,zv p.2]⟩) []:=by
 have h0:=Gv hz (fB z) N hn l hN hnet hL (aS N.ns l) rfl
 have hcl:(aS N.ns l).1=0/\(aS N.ns l).2=0->bI Tryz.prog z zn 139 [tb 4 N.np N.pc,iv N.ns] [] 0 1 (AL z zn (gI N.ns l)) (fun s=>aZ 0 s.k s.k) (fun s=>[(0, .ax s.bl)]) (fun s=>s.z) (fun s=>s.zn):=fun h=>by
  rw[hN]
  exact Ev hz h5 N.ns hn l (FY h.2) (Nf hn h.2) N.pc hL (gI N.ns l) fun M F hm=>kx hm
 have lp: ∀s,AL z zn (gI N.ns l) s->((s.k:Int) !=(N.np:Int))=false->ai Tryz.prog (ah (ag Tryz.f91) 2) 2 111 (qX s.k 0) [(0,N.cd N.p1),(1, .ax s.bl)] 2 s.z s.zn (Al.R (NA N N.p1 (decide (gI N.ns l=l)) s).l):=fun s hs hk=>by
  have:s.k=N.np:=by simp at hk;omega
  exact Gt hs.bN (fB s.z) N l (gI N.ns l) hN (by rw[←hs.k,this,hN]) (by have:=hs.k;have:=Hn hn l;omega) hnet (j8 hL hz hs.ie) s hs.k hs.bl rfl rfl _ rfl
 have rb: ∀s σ,AL z zn (gI N.ns l) s->aG (sig σ) (.ax s.bl)=some (.ax s.bl):=fun s σ h=>by rw[h.bl];exact dN _
 have rb2: ∀s σ,AL z zn (gI N.ns l) s->aG (az σ []) (.ax s.bl)=some (.ax s.bl):=fun s σ h=>by rw[h.bl];exact dN _
 have fz: ∀s,AL z zn (gI N.ns l) s->aq s.3 s.zn:=fun s h=>h.bN
 refine na (φ:=u7 z zn) (zz:=fun t=>t.1) (zn':=fun t=>t.2) ?_ rfl fun t ht=>ht.2.2
 refine fN (fB z) (fn:=Tryz.f91) (by kernel_rfl) (by kernel_rfl) hz ⟨by decide,by decide⟩ (fun t ht=>⟨rfl,ht.2.1,ht.1⟩) (N:=100) ?_
 refine pp z zn N (decide (gI N.ns l=l)) (aS N.ns l).1 (aS N.ns l).2 (AL z zn (gI N.ns l)) _ ?_
 (repeat' first|(with_reducible first|exact rfl|exact True.intro|assumption|apply And.intro|exact hz|exact h0|exact hcl (by with_reducible assumption)|exact lp _ (by with_reducible assumption) (by with_reducible assumption)|exact fz _ (by with_reducible assumption)|exact rb _ _ (by with_reducible assumption)|exact rb2 _ _ (by with_reducible assumption)|exact hnet _|exact aT _ _ _ _)|exact(rfl:Int.ofNat _=_)|exact hz|exact h0|exact hcl (by with_reducible assumption)|exact lp _ (by with_reducible assumption) (by with_reducible assumption)|exact fz _ (by with_reducible assumption)|exact rb _ _ (by with_reducible assumption)|exact rb2 _ _ (by with_reducible assumption)|exact hnet _|exact aT _ _ _ _|intro hq)
 ·refine q2 (z,zn) ⟨hz,Nat.le_refl _,fun _ _=>rfl⟩ rfl ?_ rfl rfl rfl
  rw[hp,if_pos hq]
 ·rename_i h s hs
  refine q2 (s.z,s.zn) ⟨hs.bN,hs.le,hs.ie⟩ rfl ?_ rfl rfl rfl
  have hne: ¬gI N.ns l=l:=fun e=>by
   have h1:=hs.k
   rw[e,←hN] at h1
   rw[h1] at hq;simp at hq
  rw[hp,if_neg (fun h'=>h' h.2),if_neg hne];rfl
 ·rename_i h s hs _ _
  refine q2 (s.z,s.zn) ⟨hs.bN,hs.le,hs.ie⟩ rfl ?_ rfl rfl rfl
  rw[hp,if_neg (fun h'=>h' h.2),if_neg (of_decide_eq_false hq)];rfl
 ·rename_i h s hs _ _
  refine q2 (s.z,s.zn) ⟨hs.bN,hs.le,hs.ie⟩ rfl ?_ rfl rfl rfl
  rw[hp,if_neg (fun h'=>h' h.2),if_pos (of_decide_eq_true hq)];rfl
end
theorem Qf{b:Bool}{k i j L:Nat}(t:Wk (cW (eL [] b)) k i j L):False:=by
 have: ∀u v w,¬cW (eL [] b) u v w:=fun u v w h=>by simp[cW,eL] at h
 cases t with
 |mu h=>exact this _ _ _ h
 |cons h _ _=>exact this _ _ _ h
theorem Ch{n:Nat}{M F:Nat->Nat->Int}(h:MF n [] M F):b9 M F n n=[]:=by
 have h1: ∀m,m<=n-> ∀i,i<n->bT M F i [] m=[]:=by
  intro m
  induction m with
  |zero=>intro _ i _;rfl
  |succ m ih=>
   intro hm i hi
   rw[jF,ih (by omega) i hi]
   unfold dO
   have:=(h.1 i m hi (by omega)).1.2.1
   have hbig: ¬M i m<(lj:Int):=fun hlt=>Qf (this hlt)
   have hb:(lj:Int)=1099511627776:=rfl
   rw[if_pos (.inr (by omega))]
 have h2: ∀m,m<=n->b9 M F n m=[]:=by
  intro m
  induction m with
  |zero=>intro _;rfl
  |succ m ih=>
   intro hm
   rw[ic,ih (by omega)]
   exact h1 n (Nat.le_refl _) m (by omega)
 exact h2 n (Nat.le_refl _)
theorem tQ(n:Nat):gI n []=[]:=by
 obtain⟨M,F,h⟩:=vB n []
 rw[←kx h];exact Ch h
section
variable{z:T aa}{zn:Nat}
theorem Et(hz:aq z zn)(h5:5<=zn)(N:aC)(hn:N.ns<=64)(hnet: ∀σ:bA,aG (az σ []) (N.cd ay)=some (N.cd ay)):
 A1 z zn 91 [.agg ⟨N.gV ay⟩] [] 0 0 (.tuple ⟨[zv 0,zv 0]⟩) []:=by
 have h0:ai Tryz.prog (ah (ag Tryz.f91) 0) 1 111 (lJ 0) [(0,N.cd ay)] 1 z zn (Al.R (JI z zn N ay 0 0).l):=by
  refine ak hD (fB z) (α:=Unit) 1 111 1 (fun _=>True) (fun _=>lJ 0) (fun _=>[(0,N.cd ay)]) (fun _=>z) (fun _=>zn) (fun _=>0) _ (fun _ _=>?_) () trivial
  refine t100 (Ud z zn N (aj _ _ _ _ _ _ _ _ _) ?_)
  (repeat' first|(with_reducible first|exact rfl|exact True.intro|assumption|apply And.intro|exact hz|exact hnet _)|exact(rfl:Int.ofNat _=_)|exact hz|exact hnet _|intro hq)
  exact dp (bE ⟨rfl,rfl⟩)
 have h0':ai Tryz.prog (ah (ag Tryz.f91) 0) 1 111 (lJ 0) [(0,N.cd ay)] 1 z zn (Al.R (alt ((0:Nat)≠0) (aw.mk af.ret [(2,zv 0),(3,zv 0)] [] 1 z zn) (alt ((0:Nat)=0/\(0:Nat)=0) (aw.mk (af.exit 0) [(1,ip 0)] [(0,N.cd ay)] 1 z zn) Al.nil))):=by
  refine nX h0 fun o ho=>?_
  rcases ho with ⟨_,h,_⟩|⟨_,_,h⟩|h
  ·exact absurd rfl h
  ·exact dp (h ▸ bE ⟨rfl,rfl⟩)
  ·exact h.elim
 have hcl:bI Tryz.prog z zn 139 [ay,iv N.ns] [] 0 1 (AL z zn []) (fun s=>aZ 0 s.k s.k) (fun s=>[(0, .ax s.bl)]) (fun s=>s.z) (fun s=>s.zn):=
  BJ hz h5 N.ns hn [] fun M F hm=>Ch hm
 have lp: ∀s,AL z zn [] s->ai Tryz.prog (ah (ag Tryz.f91) 2) 2 111 (qX s.k 0) [(0,N.cd ay),(1, .ax s.bl)] 2 s.z s.zn (Al.R (NA N ay true s).l):=fun s hs=>by
  have hk:=hs.k
  have hfz:=hs.bN
  have rb: ∀σ,aG (az σ []) (.ax s.bl)=some (.ax s.bl):=fun σ=>by rw[hs.bl];exact dN _
  obtain⟨k,bl,z',zn'⟩:=s
  simp only[List.length_nil] at hk hfz rb ⊢
  subst hk
  refine ak hD (fB z') (α:=Unit) 2 111 2 (fun _=>True) (fun _=>qX 0 0) (fun _=>[(0,N.cd ay),(1, .ax bl)]) (fun _=>z') (fun _=>zn') (fun _=>0) _ (fun _ _=>?_) () trivial
  refine t100 (Uc z' zn' N bl (aj _ _ _ _ _ _ _ _ _) ?_)
  (repeat' first|(with_reducible first|exact rfl|exact True.intro|assumption|apply And.intro|exact hfz|exact hnet _|exact rb _)|exact(rfl:Int.ofNat _=_)|exact hfz|exact hnet _|exact rb _|intro hq)
  exact dp (bE rfl)
 have rb: ∀s σ,AL z zn [] s->aG (sig σ) (.ax s.bl)=some (.ax s.bl):=fun s σ h=>by rw[h.bl];exact dN _
 have rb2: ∀s σ,AL z zn [] s->aG (az σ []) (.ax s.bl)=some (.ax s.bl):=fun s σ h=>by rw[h.bl];exact dN _
 have fz: ∀s,AL z zn [] s->aq s.3 s.zn:=fun s h=>h.bN
 refine na (φ:=u7 z zn) (zz:=fun t=>t.1) (zn':=fun t=>t.2) ?_ rfl fun t ht=>ht.2.2
 refine fN (fB z) (fn:=Tryz.f91) (by kernel_rfl) (by kernel_rfl) hz ⟨by decide,by decide⟩ (fun t ht=>⟨rfl,ht.2.1,ht.1⟩) (N:=100) ?_
 refine X0 z zn N true (AL z zn []) _ ?_
 (repeat' first|(with_reducible first|exact rfl|exact True.intro|assumption|apply And.intro|exact hz|exact h0|exact h0'|exact hcl|exact lp _ (by with_reducible assumption)|exact fz _ (by with_reducible assumption)|exact rb _ _ (by with_reducible assumption)|exact rb2 _ _ (by with_reducible assumption)|exact hnet _)|exact(rfl:Int.ofNat _=_)|exact hz|exact h0|exact h0'|exact hcl|exact lp _ (by with_reducible assumption)|exact fz _ (by with_reducible assumption)|exact rb _ _ (by with_reducible assumption)|exact rb2 _ _ (by with_reducible assumption)|exact hnet _|intro hq)
 ·exact absurd rfl hq
 ·rename_i h s hs
  rw[hs.k] at hq;simp at hq
 ·exact absurd hq (by decide)
 ·rename_i h s hs _ _
  exact q2 (s.z,s.zn) ⟨hs.bN,hs.le,hs.ie⟩ rfl rfl rfl rfl rfl
end
section
variable{z:T aa}{zn:Nat}
theorem HM(hz:aq z zn)(N:aC)(hn:N.ns<=64)(l:List ae)(hN:N.np=l.length)(hll:l.length<=10000)(hnet: ∀σ:bA,aG (az σ []) (N.cd N.p1)=some (N.cd N.p1))(hL:cu z 4 (l.map ae.row))(hS:(aS N.ns l).2=0->jW (gI N.ns l))(r:Int × Int × Int)
 (hr:r=if (aS N.ns l).2≠0 then (4,aS N.ns l) else if gI N.ns l=l then (0,0,0) else (4,0,18)):
 A1 z zn 86 [.agg ⟨N.gV N.p1⟩] [] 0 0 (.agg ⟨[zv r.1,zv r.2.1,zv r.2.2]⟩) []:=by
 refine KN hz (fB z) N hn l hN hnet hL (decide (gI N.ns l=l)) (fun h=>?_) r (by rw[hr];simp only[decide_eq_true_eq])
 have hso:=KF hz (fB z) N.ns (by omega) l N.pc hL
 rw[uM h] at hso
 have:=HU hz N.ns hn l (FY h) hll N.pc hL (gI N.ns l) (fun d f hd=>wv (FY h) hd) (hS h) hso
 show A1 z zn _ [tb 4 N.np N.pc,iv N.ns] [] 0 0 _ []
 rw[hN];exact this
theorem EA(hz:aq z zn)(N:aC)(hn:N.ns<=64)(hnet: ∀σ:bA,aG (az σ []) (N.cd ay)=some (N.cd ay))(hS:jW []):
 A1 z zn 86 [.agg ⟨N.gV ay⟩] [] 0 0 (.agg ⟨[zv 0,zv 0,zv 0]⟩) []:=by
 have hl:mG N.ns []:=⟨fun p hp=>by simp at hp⟩
 have:=EB hz N.ns hn (fun d f hd=>by rw[wv hl hd];exact tQ _) hS (Hx hz (fB z) N.ns)
 exact HK hz (fB z) N hnet true this (0,0,0) rfl
end
def JE(x y:ae):Prop:=x.from_<y.from_\/(x.from_=y.from_/\(x.an<y.an\/(x.an=y.an/\x.aH<y.aH)))
theorem KA{x y:ae}(h:JE x y):decide (ql y.from_ y.an y.aH x.from_ x.an x.aH<0)=false:=by
 rw[decide_eq_false_iff_not]
 unfold ql IA zU
 unfold JE at h
 (repeat' split)<;>omega
theorem MY{C:List ae}(h:C.Pairwise JE):ou C:=fun i j x y hij hx hy=>by
 obtain⟨h1,e1⟩:=List.getElem?_eq_some_iff.1 hx
 obtain⟨h2,e2⟩:=List.getElem?_eq_some_iff.1 hy
 have:=List.pairwise_iff_getElem.1 h i j h1 h2 hij
 rw[e1,e2] at this
 exact KA this
theorem I6{M F:Nat->Nat->Int}{i j:Nat}{L:List ae}(h:L.Pairwise JE)(hb: ∀p∈L,p.from_<(i:Int)\/(p.from_=(i:Int)/\p.an<(j:Int))):
 (dO M F i L j).Pairwise JE/\ ∀p∈dO M F i L j,p.from_<(i:Int)\/(p.from_=(i:Int)/\p.an<((j+1:Nat):Int)):=by
 have lt1: ∀p∈L,∀s b,JE p ⟨i,j,s,b⟩:=fun p hp s b=>by
  rcases hb p hp with q|⟨q1,q2⟩
  ·exact .inl q
  ·exact .inr ⟨q1, .inl q2⟩
 have up: ∀p∈L,p.from_<(i:Int)\/(p.from_=(i:Int)/\p.an<((j+1:Nat):Int)):=fun p hp=>by
  rcases hb p hp with q|⟨q1,q2⟩
  ·exact .inl q
  ·exact .inr ⟨q1,by omega⟩
 have new: ∀s b,(⟨i,j,s,b⟩:ae).from_<(i:Int)\/((⟨i,j,s,b⟩:ae).from_=(i:Int)/\(⟨i,j,s,b⟩:ae).an<((j+1:Nat):Int)):=fun s b=> .inr ⟨rfl,by show(j:Int)<_;omega⟩
 unfold dO
 split
 ·exact⟨h,up⟩
 ·split
  ·rename_i hlt
   refine⟨?_,fun p hp=>?_⟩
   ·rw[List.append_assoc,List.pairwise_append]
    refine⟨h,?_,fun a ha b hb2=>?_⟩
    ·simp only[List.cons_append,List.nil_append,List.pairwise_cons,List.mem_cons,List.not_mem_nil,or_false,forall_eq,false_implies,implies_true,List.Pairwise.nil,and_true]
     exact .inr ⟨rfl, .inr ⟨rfl,hlt.1⟩⟩
    ·simp only[List.cons_append,List.nil_append,List.mem_cons,List.not_mem_nil,or_false] at hb2
     rcases hb2 with rfl|rfl
     ·exact lt1 a ha _ _
     ·exact lt1 a ha _ _
   ·simp only[List.mem_append,List.mem_cons,List.not_mem_nil,or_false] at hp
    rcases hp with (hp|rfl)|rfl
    ·exact up p hp
    ·exact new _ _
    ·exact new _ _
  ·refine⟨?_,fun p hp=>?_⟩
   ·rw[List.pairwise_append]
    refine⟨h,by simp,fun a ha b hb2=>?_⟩
    simp only[List.mem_cons,List.not_mem_nil,or_false] at hb2
    subst hb2
    exact lt1 a ha _ _
   ·simp only[List.mem_append,List.mem_cons,List.not_mem_nil,or_false] at hp
    rcases hp with hp|rfl
    ·exact up p hp
    ·exact new _ _
theorem FG{M F:Nat->Nat->Int}{i:Nat}{L:List ae}(h:L.Pairwise JE)(hb: ∀p∈L,p.from_<(i:Int)): ∀m,(bT M F i L m).Pairwise JE/\ ∀p∈bT M F i L m,p.from_<(i:Int)\/(p.from_=(i:Int)/\p.an<(m:Int))
 |0=>⟨h,fun p hp=> .inl (hb p hp)⟩
 |m+1=>by
  obtain⟨h1,h2⟩:=FG h hb m
  rw[jF]
  exact I6 h1 h2
theorem Ic{M F:Nat->Nat->Int}{n:Nat}: ∀m,(b9 M F n m).Pairwise JE/\ ∀p∈b9 M F n m,p.from_<(m:Int)
 |0=>⟨List.Pairwise.nil,fun p hp=>by cases hp⟩
 |m+1=>by
  obtain⟨h1,h2⟩:=Ic m
  obtain⟨h3,h4⟩:=FG (M:=M) (F:=F) h1 h2 n
  rw[ic]
  exact⟨h3,fun p hp=>by rcases h4 p hp with q|⟨q,_⟩<;>omega⟩
theorem Fw(n:Nat)(l:List ae):ou (gI n l):=by
 obtain⟨M,F,h⟩:=vB n l
 rw[←kx h]
 exact MY (Ic n).1
theorem ym(n:Nat)(hn:n<=64)(l:List ae):jW (gI n l):=by
 refine vd (Fw n l) ?_
 obtain⟨M,F,h⟩:=vB n l
 rw[←kx h]
 have h1:=nR M F n n
 have h2:n*(2*n)<=64*(2*64):=Nat.mul_le_mul hn (by omega)
 omega
theorem AR:jW []:=vd (fun i j x y _ h=>by cases h) (by decide)
section
variable{z:T aa}{zn:Nat}
theorem HL(hz:aq z zn)(N:aC)(hn:N.ns<=64)(l:List ae)(hN:N.np=l.length)(hll:l.length<=10000)(hnet: ∀σ:bA,aG (az σ []) (N.cd N.p1)=some (N.cd N.p1))(hL:cu z 4 (l.map ae.row))(r:Int × Int × Int)
 (hr:r=if (aS N.ns l).2≠0 then (4,aS N.ns l) else if gI N.ns l=l then (0,0,0) else (4,0,18)):
 A1 z zn 86 [.agg ⟨N.gV N.p1⟩] [] 0 0 (.agg ⟨[zv r.1,zv r.2.1,zv r.2.2]⟩) []:=
 HM hz N hn l hN hll hnet hL (fun _=>ym N.ns hn l) r hr
theorem Ez(hz:aq z zn)(N:aC)(hn:N.ns<=64)(hnet: ∀σ:bA,aG (az σ []) (N.cd ay)=some (N.cd ay)):
 A1 z zn 86 [.agg ⟨N.gV ay⟩] [] 0 0 (.agg ⟨[zv 0,zv 0,zv 0]⟩) []:=EA hz N hn hnet AR
end
end Go.Proofs.Nw
