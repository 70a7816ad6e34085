/-
  A part of the proof: lemmas of my own.
-/
import Derived.Test.YtahphlnjdhnkdaaGreatPD
import Derived.Test.YtahphlnjdhnkdaaGreatIA
set_option linter.unusedVariables false
set_option linter.unusedSimpArgs false
namespace Go.Proofs.Nw
open Go Go.AV Tryz Go.jA
set_option maxHeartbeats 4000000
set_option maxRecDepth 100000
def skφ(ms:List cd)(n:Nat)(ms':List cd):Prop:=ms'.length=ms.length/\nV dQ (hf ms') n/\ ∀v,gL (hf ms') n v↔gL (hf ms) n v
theorem X7(a:cd):dQ a a=false:=by
 cases h:dQ a a with
 |false=>rfl
 |true=>rw[nL] at h;omega
section
variable{z:T aa}{zn:Nat}
theorem UO(hz:au z zn)(n c cc:Nat)(p:Int)(ms:List cd):A1 z zn 285 [ip 0] [(0,eB (bc 1 n c) p),(1,dW (aF ms) cc)] 2 2 (iv n) [(0,eB (bc 1 n c) p),(1,dW (aF ms) cc)]:=by
 refine aK1 (cZ z) (fn:=f285) hz (N:=100) ?_
 refine hlen z zn n c cc p (aF ms) _ ?_
 (repeat' first|(with_reducible first|exact rfl|assumption|apply And.intro|exact cA _ _)|exact q1)
theorem Ts{ms:List cd}(h:0<ms.length)(c:Nat):aq prog (aR.mk (aF ms) c 4 358 false false 0 true) 345 0=some (.agg ⟨(hf ms 0).x.row⟩):=by
 cases ms with
 |nil=>simp at h
 |cons a l=>rfl
theorem Ke(hz:au z zn)(n c cc:Nat)(p:Int)(ms:List cd)(hn:n<=ms.length)(a:cQ)(ha:a=if n=0 then ⟨0,0,0⟩ else (hf ms 0).x):A1 z zn 282 [ip 0] [(0,eB (bc 1 n c) p),(1,dW (aF ms) cc)] 2 2 (.tuple ⟨[.agg ⟨a.row⟩, .bool (decide (0<n))]⟩) [(0,eB (bc 1 n c) p),(1,dW (aF ms) cc)]:=by
 have hl:=UO hz n c cc p ms
 refine aK1 (cZ z) (fn:=f282) hz (N:=100) ?_
 refine hpk z zn n c cc p a (aF ms) _ ?_
 by_cases h0:n=0
 ·subst h0
  have hc:(((0:Nat):Int)==0)=true:=rfl
  (repeat' first|(with_reducible first|exact rfl|assumption|apply And.intro|exact cA _ _)|exact(rfl:Int.ofNat _=_)|exact hl|intro hq)
  all_goals first
   |(rw[hc] at hq;cases hq;done)
   |(refine uL ?_
     rw[ha,if_pos rfl];rfl)
 ·have hc:((n:Int)==0)=false:=by simp;omega
  have hr:a=(hf ms 0).x:=by rw[ha,if_neg h0]
  have r3:=Ts (ms:=ms) (by omega) cc
  rw[←hr] at r3
  (repeat' first|(with_reducible first|exact rfl|assumption|apply And.intro|exact cA _ _|exact(by omega:0<n))|exact(rfl:Int.ofNat _=_)|exact hl|intro hq)
  all_goals first
   |(rw[hc] at hq;cases hq;done)
   |(refine uL ?_
     rw[show decide (0<n)=true by simp;omega];done)
   |skip
theorem ML(hz:au z zn)(ms:List cd)(n c cc:Nat)(p:Int)(hn:n<=ms.length)(hc:ms.length*4<=cc)(hs:n<100000000)(hU:rj dQ (hf ms) n 0):
 ai prog (ah (ag f283) 0) 2 41 (Bc 0) [(0,eB (bc 1 n c) p),(1,dW (aF ms) cc)] 2 z zn (Al.R (Qr z zn 0 n c cc p (aF ms) (skφ ms n)).l):=by
 refine ax hD (cZ z) (α:=Nat × List cd) 2 41 2 (fun x=>(x.1<n\/(x.1=0/\n=0))/\x.2.length=ms.length/\rj dQ (hf x.2) n x.1/\ ∀v,gL (hf x.2) n v↔gL (hf ms) n v) (fun x=>Bc x.1) (fun x=>[(0,eB (bc 1 n c) p),(1,dW (aF x.2) cc)]) (fun _=>z) (fun _=>zn) (fun x=>n - x.1) _ (fun x hI=>?_) (0,ms) ⟨by show 0<n\/(0=0/\n=0);omega,rfl,hU,fun _=>Iff.rfl⟩
 obtain⟨i,ms'⟩:=x
 obtain⟨h1,h2,h3,h4⟩:=hI
 simp only at h1 h2 h3 h4 ⊢
 have out:(∀k,k<n->0<k->(k - 1) / 2=i->dQ (hf ms' k) (hf ms' i)=false)->Al.R (Qr z zn 0 n c cc p (aF ms) (skφ ms n)).l ⟨.ret,[(0,ip 0)],[(0,eB (bc 1 n c) p),(1,dW (aF ms') cc)],2,z,zn⟩:=fun h=>yh ms' ⟨h2,GK h3 h,h4⟩ rfl
 have w1:Value.int .i64 (IntKind.i64.wrap (2*(i:Int)))=Value.int .i64 (2*(i:Int)):=cX (by omega) (by omega)
 have w2:Value.int .i64 (IntKind.i64.wrap (2*(i:Int)+1))=Value.int .i64 (2*(i:Int)+1):=cX (by omega) (by omega)
 have w3:Value.int .i64 (IntKind.i64.wrap (2*(i:Int)+1+1))=Value.int .i64 (2*(i:Int)+1+1):=cX (by omega) (by omega)
 have e1:(2*(i:Int)+1)=((2*i+1:Nat):Int):=by omega
 have e2:(2*(i:Int)+1+1)=((2*i+2:Nat):Int):=by omega
 have kh: ∀k,0<k->k<n->(k - 1) / 2=i->dQ (hf ms' k) (hf ms' i)=true->(∀j,j<n->0<j->(j - 1) / 2=i->dQ (hf ms' j) (hf ms' k)=false)->
  an (fun x:Nat × List cd=>(x.1<n\/(x.1=0/\n=0))/\x.2.length=ms.length/\rj dQ (hf x.2) n x.1/\ ∀v,gL (hf x.2) n v↔gL (hf ms) n v) (fun x=>Bc x.1) (fun x=>[(0,eB (bc 1 n c) p),(1,dW (aF x.2) cc)]) 2 (fun _=>z) (fun _=>zn) (fun x=>n - x.1) (Al.R (Qr z zn 0 n c cc p (aF ms) (skφ ms n)).l) (i,ms') .normal (Bc k) [(0,eB (bc 1 n c) p),(1,dW (aF (zY ms' i k)) cc)] 2 z zn:=fun k k0 kn kp kb km=>by
  refine⟨(k,zY ms' i k),rfl,rfl,rfl,rfl,rfl,⟨.inl kn,by simp only[lO];exact h2,?_,fun v=>?_⟩,by simp only;omega⟩
  ·simp only
   rw[nA (by omega) (by omega)]
   exact GJ iW h3 k0 kn kp kb km
  ·simp only
   rw[nA (by omega) (by omega),uj (by omega) kn]
   exact h4 v
 refine t100 (Za z zn i n c cc p (fun x y=>dQ (hf ms' x.toNat) (hf ms' y.toNat)) (fun x y=>aF (zY ms' x.toNat y.toNat)) (aF ms') (an _ _ _ _ _ _ _ _ _) ?_)
 by_cases hA:n<=2*i+1
 ·have d1:decide ((2*(i:Int)+1)>=(n:Int))=true:=by simp;omega
  refine⟨w1,w2,fun _=>?_,nC1 d1⟩
  (repeat' first|(with_reducible first|exact rfl|assumption|apply And.intro|exact cA _ _))
  exact out fun k kn k0 kp=>by omega
 ·have d1:decide ((2*(i:Int)+1)>=(n:Int))=false:=by simp;omega
  refine⟨w1,w2,nC1 d1,fun _=>?_⟩
  have g: ∀a b,a<n->b<n->_:=fun a b ha hb=>vO hz ms' a b n c cc p ha hb (by omega)
  have s: ∀a b,a<n->b<n->_:=fun a b ha hb=>zy hz ms' a b n c cc p ha hb (by omega) (by omega)
  have gA:=g (2*i+1) i (by omega) (by omega)
  have sA:=s i (2*i+1) (by omega) (by omega)
  rw[e1,e2] at*
  by_cases hB:2*i+2<n
  ·have gB:=g (2*i+2) (2*i+1) hB (by omega)
   have gC:=g (2*i+2) i hB (by omega)
   have sC:=s i (2*i+2) (by omega) hB
   have d2:decide (((2*i+2:Nat):Int)<(n:Int))=true:=by simp;omega
   simp only[Int.toNat_natCast]
   (repeat' first|(with_reducible first|exact rfl|exact True.intro|assumption|apply And.intro|exact cA _ _)|exact w3|exact gA|exact gB|exact gC|exact sA|exact sC|intro hq)
   all_goals try (exfalso;have h':decide (((2*i+2:Nat):Int)<(n:Int))=false:=(by with_reducible assumption);rw[d2] at h';cases h';done)
   all_goals simp only[Bool.not_eq_true',Bool.not_eq_false'] at*
   ·have f1:dQ (hf ms' (2*i+2)) (hf ms' (2*i+1))=true:=by with_reducible assumption
    have f2:dQ (hf ms' (2*i+2)) (hf ms' i)=false:=by with_reducible assumption
    exact out fun k kn k0 kp=>by
     have:k=2*i+1\/k=2*i+2:=by omega
     rcases this with rfl|rfl
     ·exact iW.trans _ _ _ f2 (iW.asymm _ _ f1)
     ·exact f2
   ·have f1:dQ (hf ms' (2*i+2)) (hf ms' (2*i+1))=true:=by with_reducible assumption
    have f2:dQ (hf ms' (2*i+2)) (hf ms' i)=true:=by with_reducible assumption
    exact kh (2*i+2) (by omega) hB (by omega) f2 fun k kn k0 kp=>by
     have:k=2*i+1\/k=2*i+2:=by omega
     rcases this with rfl|rfl
     ·exact iW.asymm _ _ f1
     ·exact X7 _
   ·have f1:dQ (hf ms' (2*i+2)) (hf ms' (2*i+1))=false:=by with_reducible assumption
    have f2:dQ (hf ms' (2*i+1)) (hf ms' i)=false:=by with_reducible assumption
    exact out fun k kn k0 kp=>by
     have:k=2*i+1\/k=2*i+2:=by omega
     rcases this with rfl|rfl
     ·exact f2
     ·exact iW.trans _ _ _ f2 f1
   ·have f1:dQ (hf ms' (2*i+2)) (hf ms' (2*i+1))=false:=by with_reducible assumption
    have f2:dQ (hf ms' (2*i+1)) (hf ms' i)=true:=by with_reducible assumption
    exact kh (2*i+1) (by omega) (by omega) (by omega) f2 fun k kn k0 kp=>by
     have:k=2*i+1\/k=2*i+2:=by omega
     rcases this with rfl|rfl
     ·exact X7 _
     ·exact f1
  ·have d2:decide (((2*i+2:Nat):Int)<(n:Int))=false:=by simp;omega
   simp only[Int.toNat_natCast]
   (repeat' first|(with_reducible first|exact rfl|exact True.intro|assumption|apply And.intro|exact cA _ _)|exact w3|exact gA|exact sA|intro hq)
   all_goals try (exfalso;have h':decide (((2*i+2:Nat):Int)<(n:Int))=true:=(by with_reducible assumption);rw[d2] at h';cases h';done)
   all_goals simp only[Bool.not_eq_true',Bool.not_eq_false'] at*
   ·have f2:dQ (hf ms' (2*i+1)) (hf ms' i)=false:=by with_reducible assumption
    exact out fun k kn k0 kp=>by
     have:k=2*i+1:=by omega
     subst this;exact f2
   ·have f2:dQ (hf ms' (2*i+1)) (hf ms' i)=true:=by with_reducible assumption
    exact kh (2*i+1) (by omega) (by omega) (by omega) f2 fun k kn k0 kp=>by
     have:k=2*i+1:=by omega
     subst this;exact X7 _
theorem Ra(hz:au z zn)(ms:List cd)(n c cc:Nat)(p:Int)(hn:n<=ms.length)(hc:ms.length*4<=cc)(hs:n<100000000)(hU:rj dQ (hf ms) n 0):
 aP prog z zn 283 [ip 0] [(0,eB (bc 1 n c) p),(1,dW (aF ms) cc)] 2 2 (skφ ms n) (fun _=> .tuple ⟨[]⟩) (fun ms=>[(0,eB (bc 1 n c) p),(1,dW (aF ms) cc)]):=by
 have hK:=ML hz ms n c cc p hn hc hs hU
 refine eM (cZ z) (fn:=f283) (by kernel_rfl) (by kernel_rfl) hz ⟨by decide,by decide⟩ (fun _ _=>⟨rfl,Nat.le_refl _,hz⟩) (N:=100) ?_
 refine Un z zn n c cc p (aF ms) (skφ ms n) _ ?_
 (repeat' first|(with_reducible first|exact rfl|assumption|apply And.intro|exact cA _ _)|exact hK|intro hq)
 all_goals
  rename_i ms'
  exact q2 ms' hq rfl rfl rfl rfl rfl
def popφ(ms:List cd)(n:Nat)(ms':List cd):Prop:=ms'.length=ms.length/\nV dQ (hf ms') (n - 1)/\ ∀v,gL (hf ms') (n - 1) v↔ ∃i,0<i/\i<n/\hf ms i=v
theorem UG(hz:au z zn)(ms:List cd)(n c cc:Nat)(p:Int)(h0:0<n)(hn:n<=ms.length)(hcn:n<=c)(hc:ms.length*4<=cc)(hs:n<100000000)(hU:nV dQ (hf ms) n):
 aP prog z zn 276 [ip 0] [(0,eB (bc 1 n c) p),(1,dW (aF ms) cc)] 2 2 (popφ ms n) (fun _=> .tuple ⟨[.agg ⟨(hf ms 0).x.row⟩,T1]⟩) (fun ms=>[(0,eB (bc 1 (n - 1) c) p),(1,dW (aF ms) cc)]):=by
 have hk:=Ke hz n c cc p ms hn (hf ms 0).x (by rw[if_neg (by omega)])
 rw[show decide (0<n)=true by simp;omega] at hk
 have hw:=zy hz ms 0 (n - 1) n c cc p h0 (by omega) hn hc
 have hd:rj dQ (hf (zY ms 0 (n - 1))) (n - 1) 0:=by
  rw[nA (by omega) (by omega)]
  obtain⟨m,rfl⟩: ∃m,n=m+1:=⟨n - 1,by omega⟩
  exact Dv hU
 have Za:=Ra hz (zY ms 0 (n - 1)) (n - 1) c cc p (by rw[lO];omega) (by rw[lO];exact hc) (by omega) (by exact hd)
 have e1:(n:Int) - 1=((n - 1:Nat):Int):=by omega
 have w1:Value.int .i64 (IntKind.i64.wrap ((n:Int) - 1))=Value.int .i64 ((n:Int) - 1):=cX (by omega) (by omega)
 refine eM (cZ z) (fn:=f276) (by kernel_rfl) (by kernel_rfl) hz ⟨by decide,by decide⟩ (fun _ _=>⟨rfl,Nat.le_refl _,hz⟩) (N:=100) ?_
 refine Jq z zn n c cc p (hf ms 0).x (fun x y=>aF (zY ms x.toNat y.toNat)) (aF ms) (skφ (zY ms 0 (n - 1)) (n - 1)) _ ?_
 rw[e1] at w1 ⊢
 simp only[Int.toNat_natCast,Int.toNat_zero]
 (repeat' first|(with_reducible first|exact rfl|exact True.intro|assumption|apply And.intro|exact Nat.zero_le _|exact cA _ _|exact(by omega:n - 1<=c)|exact(by omega:0<c))|exact hk|exact hw|exact Za|intro hq)
 all_goals
  rename_i ms'
  obtain⟨k1,k2,k3⟩:=hq
  rw[lO] at k1
  refine q2 ms' ⟨k1,k2,fun v=>(k3 v).trans ?_⟩ rfl rfl rfl rfl rfl
  rw[nA (by omega) (by omega)]
  obtain⟨m,rfl⟩: ∃m,n=m+1:=⟨n - 1,by omega⟩
  exact HP v
theorem Ri(hz:au z zn)(ms:List cd)(c cc:Nat)(p:Int):
 A1 z zn 276 [ip 0] [(0,eB (bc 1 0 c) p),(1,dW (aF ms) cc)] 2 2 (.tuple ⟨[.agg ⟨[I 0,I 0,I 0]⟩,F0]⟩) [(0,eB (bc 1 0 c) p),(1,dW (aF ms) cc)]:=by
 have hk:=Ke hz 0 c cc p ms (Nat.zero_le _) ⟨0,0,0⟩ (by rw[if_pos rfl])
 refine aK1 (cZ z) (fn:=f276) hz (N:=100) ?_
 refine Uo z zn 0 c cc p (aF ms) (fun _=>True) _ ?_
 (repeat' first|(with_reducible first|exact rfl|assumption|apply And.intro|exact cA _ _)|exact hk|exact q1|intro hq)
end
end Go.Proofs.Nw
namespace Go.jA
abbrev bU:=Nat->Nat->Nat->Prop
inductive Wk (E:bU)(k:Nat):Nat->Nat->Nat->Prop where
 |nI {i j w:Nat} (h:E i j w):Wk E k i j w
 |cons {i m j w L:Nat} (h:E i m w) (hm:m<k) (t:Wk E k m j L):Wk E k i j (w+L)
theorem Wk.split{E:bU}{k i j L:Nat}(t:Wk E (k+1) i j L):Wk E k i j L\/ ∃a b,Wk E k i k a/\Wk E k k j b/\a+b<=L:=by
 induction t with
 |nI h=>exact .inl (.nI h)
 | @cons i m j w L h hm t ih=>
   by_cases hk:m<k
   ·rcases ih with ih|⟨a,b,h1,h2,h3⟩
    ·exact .inl (.cons h hk ih)
    ·exact .inr ⟨w+a,b, .cons h hk h1,h2,by omega⟩
   ·have:m=k:=by omega
    subst this
    rcases ih with ih|⟨a,b,h1,h2,h3⟩
    ·exact .inr ⟨w,L, .nI h,ih,by omega⟩
    ·exact .inr ⟨w,b, .nI h,h2,by omega⟩
theorem Wk.append{E:bU}{k i m j a b:Nat}(s:Wk E k i m a)(hm:m<k)(t:Wk E k m j b):Wk E k i j (a+b):=by
 induction s with
 |nI h=>exact .cons h hm t
 |cons h1 h2 _ ih=>rw[Nat.add_assoc];exact .cons h1 h2 (ih hm t)
theorem Wk.mono{E E':bU}{k i j L:Nat}(h: ∀a b w,E a b w-> ∃w',w'<=w/\E' a b w')(t:Wk E k i j L): ∃L',L'<=L/\Wk E' k i j L':=by
 induction t with
 |nI h1=>obtain⟨w',a,b⟩:=h _ _ _ h1;exact⟨w',a, .nI b⟩
 |cons h1 h2 _ ih=>
  obtain⟨w',a,b⟩:=h _ _ _ h1
  obtain⟨L',c,d⟩:=ih
  exact⟨w'+L',by omega, .cons b h2 d⟩
def Real(E:bU)(n j7:Nat)(d:Nat->Nat->Int):Prop:= ∀i j,i<n->j<n->0<=d i j/\(d i j<j7->Wk E n i j (d i j).toNat)
def S9(E:bU)(k:Nat)(d:Nat->Nat->Int)(i j:Nat):Prop:= ∀L,Wk E k i j L->d i j<=(L:Int)
def pQ(d:Nat->Nat->Int)(i j:Nat)(v:Int):Nat->Nat->Int:=fun a b=>if a=i/\b=j then v else d a b
structure Sb(E:bU)(n j7 k i j:Nat)(d:Nat->Nat->Int):Prop where
 real:Real E n j7 d
 low: ∀a b,a<n->b<n->S9 E k d a b
 done: ∀a b,a<n->b<n->(a<i\/a=i/\b<j)->S9 E (k+1) d a b
theorem S9.le{E:bU}{k:Nat}{d d':Nat->Nat->Int}{i j:Nat}(h:S9 E k d i j)(hd:d' i j<=d i j):S9 E k d' i j:=fun L t=>Int.le_trans hd (h L t)
theorem IG{E:bU}{n j7 k i j:Nat}{d:Nat->Nat->Int}(h:Sb E n j7 k i j d)(hk:k<n)(hi:i<n)(hj:j<n):
 Sb E n j7 k i (j+1) (pQ d i j (min (d i j) (d i k+d k j))):=by
 have hle: ∀a b,(pQ d i j (min (d i j) (d i k+d k j))) a b<=d a b:=fun a b=>by
  unfold pQ;split
  ·rename_i hc;rw[hc.1,hc.2];omega
  ·omega
 refine⟨fun a b ha hb=>?_,fun a b ha hb=>(h.low a b ha hb).le (hle a b),fun a b ha hb hab=>?_⟩
 ·unfold pQ
  split
  ·rename_i hc
   obtain⟨rfl,rfl⟩:=hc
   obtain⟨p1,q1⟩:=h.real a b ha hb
   obtain⟨p2,q2⟩:=h.real a k ha hk
   obtain⟨p3,q3⟩:=h.real k b hk hb
   refine⟨by omega,fun hlt=>?_⟩
   by_cases hm:d a b<=d a k+d k b
   ·rw[Int.min_eq_left hm] at hlt ⊢;exact q1 hlt
   ·rw[Int.min_eq_right (by omega)] at hlt ⊢
    have:=(q2 (by omega)).append hk (q3 (by omega))
    rw[show(d a k+d k b).toNat=(d a k).toNat+(d k b).toNat by omega]
    exact this
  ·exact h.real a b ha hb
 ·by_cases hc:a=i/\b=j
  ·obtain⟨rfl,rfl⟩:=hc
   intro L t
   unfold pQ
   rw[if_pos ⟨rfl,rfl⟩]
   rcases t.split with t|⟨x,y,t1,t2,hs⟩
   ·have:=h.low a b ha hb _ t;omega
   ·have e1:=h.low a k ha hk _ t1
    have e2:=h.low k b hk hb _ t2
    omega
  ·exact(h.done a b ha hb (by omega)).le (hle a b)
theorem Mx{E:bU}{n j7 k i:Nat}{d:Nat->Nat->Int}(h:Sb E n j7 k i n d):Sb E n j7 k (i+1) 0 d:=
 ⟨h.real,h.low,fun a b ha hb hab=>h.done a b ha hb (by omega)⟩
structure Head(E:bU)(n j7 k:Nat)(d:Nat->Nat->Int):Prop where
 real:Real E n j7 d
 low: ∀a b,a<n->b<n->S9 E k d a b
theorem F7{E:bU}{n j7 k:Nat}{d:Nat->Nat->Int}(h:Head E n j7 k d):Sb E n j7 k 0 0 d:=
 ⟨h.real,h.low,fun a b ha hb hab=>by omega⟩
theorem My{E:bU}{n j7 k:Nat}{d:Nat->Nat->Int}(h:Sb E n j7 k n 0 d):Head E n j7 (k+1) d:=
 ⟨h.real,fun a b ha hb=>h.done a b ha hb (.inl ha)⟩
def Cs(E:bU)(n j7 i j:Nat)(v:Int):Prop:=0<=v/\(v<j7->Wk E n i j v.toNat)/\ ∀L:Nat,Wk E n i j L->v<=L
theorem Js{E:bU}{n j7:Nat}{d:Nat->Nat->Int}(h:Head E n j7 n d){i j:Nat}(hi:i<n)(hj:j<n):Cs E n j7 i j (d i j):=
 ⟨(h.real i j hi hj).1,(h.real i j hi hj).2,h.low i j hi hj⟩
def db(l:List (Nat × Nat × Nat)):bU:=fun a b w=>(a,b,w)∈l
theorem wk0{E:bU}{i j L:Nat}(t:Wk E 0 i j L):E i j L:=by
 cases t with
 |nI h=>exact h
 |cons _ h _=>omega
def Cr(l:List (Nat × Nat × Nat))(n j7:Nat)(d:Nat->Nat->Int):Prop:= ∀i j,i<n->j<n->0<=d i j/\d i j<=j7/\(d i j<j7->(i,j,(d i j).toNat)∈l)/\ ∀w,(i,j,w)∈l->d i j<=(w:Int)
theorem Gr(n j7:Nat):Cr [] n j7 (fun _ _=>(j7:Int)):=fun i j _ _=>⟨Int.natCast_nonneg _,Int.le_refl _,fun h=>absurd h (Int.lt_irrefl _),fun w h=>by simp at h⟩
theorem De{l:List (Nat × Nat × Nat)}{n j7:Nat}{d:Nat->Nat->Int}(h:Cr l n j7 d)(a b w:Nat):
 Cr (l++[(a,b,w)]) n j7 (pQ d a b (min (d a b) w)):=by
 intro i j hi hj
 obtain⟨h1,h2,h3,h4⟩:=h i j hi hj
 unfold pQ
 split
 ·rename_i hc
  obtain⟨rfl,rfl⟩:=hc
  refine⟨by omega,by omega,fun hlt=>?_,fun x hx=>?_⟩
  ·by_cases hm:d i j<=w
   ·rw[Int.min_eq_left hm] at hlt ⊢;exact List.mem_append_left _ (h3 hlt)
   ·rw[Int.min_eq_right (by omega)];simp
  ·rcases List.mem_append.1 hx with hx|hx
   ·have:=h4 x hx;omega
   ·simp at hx;subst hx;omega
 ·rename_i hc
  refine⟨h1,h2,fun hlt=>List.mem_append_left _ (h3 hlt),fun x hx=>?_⟩
  rcases List.mem_append.1 hx with hx|hx
  ·exact h4 x hx
  ·simp at hx;exact(hc ⟨hx.1,hx.2.1⟩).elim
theorem Df{l:List (Nat × Nat × Nat)}{n j7:Nat}{d:Nat->Nat->Int}(h:Cr l n j7 d):Head (db l) n j7 0 d:=
 ⟨fun i j hi hj=>⟨(h i j hi hj).1,fun hlt=> .nI ((h i j hi hj).2.2.1 hlt)⟩,fun a b ha hb L t=>(h a b ha hb).2.2.2 L (wk0 t)⟩
inductive Rc (E:bU)(s:Nat):Nat->Nat->Prop where
 |start:Rc E s s 0
 |snoc {v x w L:Nat} (t:Rc E s v L) (h:E v x w):Rc E s x (L+w)
theorem Rc.cons{E:bU}{i m w v L:Nat}(h:E i m w)(t:Rc E m v L):Rc E i v (w+L):=by
 induction t with
 |start=>simpa using Rc.snoc .start h
 |snoc t h2 ih=>rw[←Nat.add_assoc];exact .snoc ih h2
theorem Wk.rc{E:bU}{k i j L:Nat}(t:Wk E k i j L):Rc E i j L:=by
 induction t with
 |nI h=>simpa using Rc.snoc .start h
 |cons h _ _ ih=>exact .cons h ih
theorem Wk.snoc{E:bU}{n i v x w L:Nat}(t:Wk E n i v L)(hv:v<n)(h:E v x w):Wk E n i x (L+w):=t.append hv (.nI h)
theorem Rc.wk{E:bU}{n s v L:Nat}(hE: ∀a b w,E a b w->a<n/\b<n)(t:Rc E s v L):(v=s/\L=0)\/Wk E n s v L:=by
 induction t with
 |start=>exact .inl ⟨rfl,rfl⟩
 | @snoc v x w L t h ih=>
   rcases ih with ⟨rfl,rfl⟩|ih
   ·exact .inr (by simpa using Wk.nI h)
   ·exact .inr (ih.snoc (hE _ _ _ h).1 h)
structure Dj(E:bU)(s:Nat)(S:Nat->Prop)(d:Nat->Nat)(Q:Nat->Nat->Prop):Prop where
 set: ∀v,S v->Rc E s v (d v)/\ ∀L,Rc E s v L->d v<=L
 wait: ∀v l,Q v l->Rc E s v l
 front: ∀u x w,S u->E u x w->S x\/Q x (d u+w)
 first:S s\/Q s 0
theorem Dj.reach{E:bU}{s:Nat}{S:Nat->Prop}{d:Nat->Nat}{Q:Nat->Nat->Prop}(h:Dj E s S d Q){v L:Nat}(t:Rc E s v L):S v\/ ∃y l,Q y l/\l<=L:=by
 induction t with
 |start=>exact h.first.imp id fun q=>⟨_,_,q,Nat.le_refl _⟩
 | @snoc v x w L t hE ih=>
   rcases ih with hs|⟨y,l,q,hl⟩
   ·have:=(h.set v hs).2 L t
    rcases h.front v x w hs hE with hx|q
    ·exact .inl hx
    ·exact .inr ⟨x,_,q,by omega⟩
   ·exact .inr ⟨y,l,q,by omega⟩
theorem NC{E:bU}{s:Nat}{S:Nat->Prop}{d:Nat->Nat}{Q Q':Nat->Nat->Prop}(h:Dj E s S d Q){x l:Nat}(hx:S x)
 (h1: ∀v k,Q' v k->Q v k) (h2: ∀v k,Q v k->Q' v k\/(v=x/\k=l)):Dj E s S d Q':=by
 refine⟨h.set,fun v k q=>h.wait v k (h1 v k q),fun u y w hu he=>?_,?_⟩
 ·rcases h.front u y w hu he with q|q
  ·exact .inl q
  ·rcases h2 _ _ q with q|⟨rfl,_⟩
   ·exact .inr q
   ·exact .inl hx
 ·rcases h.first with q|q
  ·exact .inl q
  ·rcases h2 _ _ q with q|⟨rfl,_⟩
   ·exact .inr q
   ·exact .inl hx
structure KV(E:bU)(s:Nat)(S:Nat->Prop)(d:Nat->Nat)(Q:Nat->Nat->Prop)(x:Nat)(l:List (Nat × Nat)):Prop where
 set: ∀v,S v->Rc E s v (d v)/\ ∀L,Rc E s v L->d v<=L
 wait: ∀v l,Q v l->Rc E s v l
 front: ∀u y w,S u->E u y w->(u=x->(y,w)∈l)->S y\/Q y (d u+w)
 first:S s\/Q s 0
theorem GL{E:bU}{s:Nat}{S:Nat->Prop}{d:Nat->Nat}{Q Q':Nat->Nat->Prop}(h:Dj E s S d Q){x l:Nat}(hx: ¬S x)(hq:Q x l)
 (hmin: ∀v k,Q v k->l<=k) (h1: ∀v k,Q' v k->Q v k) (h2: ∀v k,Q v k->Q' v k\/(v=x/\k=l)):
 KV E s (fun v=>S v\/v=x) (fun v=>if v=x then l else d v) Q' x []:=by
 refine⟨fun v hv=>?_,fun v k q=>h.wait v k (h1 v k q),fun u y w hu he hl=>?_,?_⟩
 ·by_cases hvx:v=x
  ·subst hvx
   simp only[if_true]
   refine⟨h.wait _ _ hq,fun L t=>?_⟩
   rcases h.reach t with hs|⟨y,k,q,hk⟩
   ·exact(hx hs).elim
   ·have:=hmin _ _ q;omega
  ·simp only[if_neg hvx]
   exact h.set v (hv.resolve_right hvx)
 ·by_cases hux:u=x
  ·exact absurd (hl hux) (by simp)
  ·simp only[if_neg hux]
   rcases h.front u y w (hu.resolve_right hux) he with q|q
   ·exact .inl (.inl q)
   ·rcases h2 _ _ q with q|⟨rfl,_⟩
    ·exact .inr q
    ·exact .inl (.inr rfl)
 ·rcases h.first with q|q
  ·exact .inl (.inl q)
  ·rcases h2 _ _ q with q|⟨rfl,_⟩
   ·exact .inr q
   ·exact .inl (.inr rfl)
theorem xS{E:bU}{s:Nat}{S:Nat->Prop}{d:Nat->Nat}{Q Q':Nat->Nat->Prop}{x y w:Nat}{l:List (Nat × Nat)}(h:KV E s S d Q x l)(hx:S x)(he:E x y w)
 (h1: ∀v k,Q v k->Q' v k) (h2: ∀v k,Q' v k->Q v k\/(v=y/\k=d x+w)) (h3:S y\/Q' y (d x+w)):KV E s S d Q' x (l++[(y,w)]):=by
 refine⟨h.set,fun v k q=>?_,fun u z v hu hz hl=>?_,h.first.imp id (h1 _ _)⟩
 ·rcases h2 v k q with q|⟨rfl,rfl⟩
  ·exact h.wait v k q
  ·exact .snoc (h.set x hx).1 he
 ·by_cases hux:u=x
  ·subst hux
   rcases List.mem_append.1 (hl rfl) with hm|hm
   ·exact(h.front u z v hu hz fun _=>hm).imp id (h1 _ _)
   ·simp at hm
    obtain⟨rfl,rfl⟩:=hm
    exact h3
  ·exact(h.front u z v hu hz fun e=>(hux e).elim).imp id (h1 _ _)
theorem JM{E:bU}{s:Nat}{S:Nat->Prop}{d:Nat->Nat}{Q:Nat->Nat->Prop}{x:Nat}{l:List (Nat × Nat)}(h:KV E s S d Q x l)(hl: ∀y w,E x y w->(y,w)∈l):Dj E s S d Q:=
 ⟨h.set,h.wait,fun u y w hu he=>h.front u y w hu he fun e=>hl y w (e ▸ he),h.first⟩
def mF(E:bU)(s v:Nat)(x:Int):Prop:=(x= -1/\ ∀L,¬Rc E s v L)\/(0<=x/\Rc E s v x.toNat/\ ∀L,Rc E s v L->x<=(L:Int))
theorem Q0{E:bU}{s:Nat}{S:Nat->Prop}{d:Nat->Nat}{Q:Nat->Nat->Prop}(h:Dj E s S d Q)(hq: ∀v k,¬Q v k)(v:Nat):
 (S v->mF E s v (d v))/\(¬S v->mF E s v (-1)):=by
 refine⟨fun hs=> .inr ⟨by omega,by simpa using (h.set v hs).1,fun L t=>by have:=(h.set v hs).2 L t;omega⟩,fun hs=> .inl ⟨rfl,fun L t=>?_⟩⟩
 rcases h.reach t with q|⟨y,k,q,_⟩
 ·exact hs q
 ·exact hq _ _ q
abbrev oO:=Nat × Nat × Int × Bool
def tQ(a b:Nat)(n f:Int):List oO:=
 (if 0<n/\n<=14400 then [(a,b,n,decide (f=n))] else [])++(if f=n then [] else if 0<f/\f<=14400 then [(a,b,f,true)] else [])
def yN(a b:Nat)(x y:Int):List oO:=
 if 14400<x then [] else (a,b,x,decide (y=x))::(if x<y/\y<=14400 then [(a,b,y,true)] else [])
def Alike(x n:Int):Prop:=(0<x/\x<=14400/\n=x)\/(14400<x/\(n<=0\/14400<n))
theorem JK{a b:Nat}{x y n f:Int}(h1:Alike x n)(h2:Alike y f)(hxy:x<=y):tQ a b n f=yN a b x y:=by
 unfold tQ yN
 unfold Alike at h1 h2
 rcases h1 with ⟨p1,p2,rfl⟩|⟨p1,p2⟩
 ·rw[if_pos ⟨p1,p2⟩,if_neg (show¬14400<n by omega)]
  rcases h2 with ⟨q1,q2,rfl⟩|⟨q1,q2⟩
  ·by_cases he:f=n
   ·rw[if_pos he,if_neg (show¬(n<f/\f<=14400) by omega)];rfl
   ·rw[if_neg he,if_pos ⟨q1,q2⟩,if_pos (show n<f/\f<=14400 from⟨by omega,q2⟩)];rfl
  ·have e1: ¬f=n:=by omega
   have e2: ¬y=n:=by omega
   rw[if_neg e1,if_neg (show¬(0<f/\f<=14400) by omega),if_neg (show¬(n<y/\y<=14400) by omega),decide_eq_false e1,decide_eq_false e2];rfl
 ·rw[if_neg (show¬(0<n/\n<=14400) by omega),if_pos p1]
  rcases h2 with ⟨q1,q2,rfl⟩|⟨q1,q2⟩
  ·omega
  ·by_cases he:f=n
   ·rw[if_pos he];rfl
   ·rw[if_neg he,if_neg (show¬(0<f/\f<=14400) by omega)];rfl
def Pos(E:bU):Prop:= ∀a b w,E a b w->0<w
theorem Wk.pos{E:bU}(hp:Pos E){k i j L:Nat}(t:Wk E k i j L):0<L:=by
 cases t with
 |nI h=>exact hp _ _ _ h
 |cons h _ _=>have:=hp _ _ _ h;omega
structure yq(E E':bU):Prop where
 to: ∀a b w,E a b w-> ∃w',w'<=w/\E' a b w'
 fz1: ∀a b w,E' a b w-> ∃w',w'<=w/\E a b w'
theorem Cd{E E':bU}{n j7 i j:Nat}{x v:Int}(hs:yq E E')(hp:Pos E)(hE: ∀a b w,E' a b w->a<n/\b<n)(hbig:14400<j7)(hij:j≠i)
 (h1:Cs E n j7 i j x) (h2:mF E' i j v):Alike x v:=by
 obtain⟨a1,a2,a3⟩:=h1
 unfold Alike
 by_cases hx:x<=14400
 ·have t:=a2 (by omega)
  have hpos:=t.pos hp
  have hxp:0<x:=by omega
  obtain⟨L',hL,t'⟩:=t.mono hs.to
  rcases h2 with ⟨_,hno⟩|⟨b1,b2,b3⟩
  ·exact(hno _ t'.rc).elim
  ·have:=b3 _ t'.rc
   rcases b2.wk hE with ⟨h,_⟩|t2
   ·exact(hij h).elim
   ·obtain⟨L2,hL2,t3⟩:=t2.mono hs.fz1
    have:=a3 _ t3
    exact .inl ⟨hxp,hx,by omega⟩
 ·refine .inr ⟨by omega,?_⟩
  rcases h2 with ⟨h,_⟩|⟨b1,b2,b3⟩
  ·exact .inl (by omega)
  ·by_cases hv:v<=14400
   ·rcases b2.wk hE with ⟨h,_⟩|t2
    ·exact(hij h).elim
    ·obtain⟨L2,hL2,t3⟩:=t2.mono hs.fz1
     have:=a3 _ t3
     omega
   ·exact .inr (by omega)
theorem A4{E F:bU}{n j7 i j:Nat}{x y:Int}(hsub: ∀a b w,F a b w-> ∃w',w'<=w/\E a b w')(h1:Cs E n j7 i j x)(h2:Cs F n j7 i j y):x<=y\/(j7:Int)<=y:=by
 by_cases hy:y<j7
 ·obtain⟨L,hL,t⟩:=(h2.2.1 hy).mono hsub
  have:=h1.2.2 _ t
  have:=h2.1
  exact .inl (by omega)
 ·exact .inr (by omega)
end Go.jA
namespace Go.Proofs.Nw
open Go Go.AV Tryz Go.jA
set_option maxHeartbeats 4000000
set_option maxRecDepth 100000
def Vx:cQ:=⟨0,-1,-1⟩
def fB(l:List cQ)(v:Nat):cQ:=l[v]?.getD Vx
theorem nz{l:List cQ}{v:Nat}(h:v<l.length):l[v]? =some (fB l v):=by
 unfold fB;rw[List.getElem?_eq_getElem h];rfl
theorem Jj{l:List cQ}{v:Nat}(h:l.length<=v):fB l v=Vx:=by
 unfold fB;rw[List.getElem?_eq_none h];rfl
theorem qA{l:List cQ}{i:Nat}(h:i<l.length)(x:cQ)(v:Nat):fB (l.set i x) v=if v=i then x else fB l v:=by
 unfold fB
 rw[List.getElem?_set]
 by_cases e:i=v
 ·subst e;simp[h]
 ·have e': ¬v=i:=fun q=>e q.symm
  simp[e,e']
theorem qe(l:List cQ): ∀r∈l.map cQ.row,r.length=3:=aM l fun _=>rfl
theorem wX(l:List cQ):(aY l).length=l.length*3:=by rw[jU (qe l),List.length_map]
theorem AF(l:List cQ):bE (aY l)=true:=jQ (fun _=>rfl) l
theorem jM{σ:Nat->Option Nat}(l:List cQ)(c:Nat):aC σ (aa.ay (aR.mk (aY l) c 3 345 true true 0 true))=some (aa.ay (aR.mk (aY l) c 3 345 true true 0 true)):=bX (AF l)
theorem Tq{l:List cQ}{i:Nat}(h:i<l.length)(c:Nat):aq prog (aR.mk (aY l) c 3 345 true true 0 true) 345 (0+i*3)=some (.agg ⟨(fB l i).row⟩):=
 gE (rows:=l.map cQ.row) rfl underlying345 rfl rfl (qe l) (by rw[List.getElem?_map,nz h];rfl)
theorem Ik{l:List cQ}{i:Nat}(h:i<l.length)(c:Nat):aq prog (aR.mk (aY l) c 3 345 true true 0 true) 3 (0+i*3+2)=some (zv (fB l i).gi):=
 pq (rows:=l.map cQ.row) rfl underlying3 rfl (qe l) (r:=(fB l i).row) (by rw[List.getElem?_map,nz h];rfl) rfl
theorem Oz{l:List cQ}{i:Nat}(h:i<l.length)(a:cQ):overwrite (aY l) (0+i*3) a.row=some (aY (l.set i a)):=by
 have:=uU (qe l) (i:=i) (by simpa using h) (r':=a.row) rfl
 rw[lY] at this
 exact this
def wJ:List Value->List Value
 |_::b::_::r=>b::wJ r
 |_=>[]
abbrev xE(l:List cQ):List Value:=l.map fun a=>zv a.len
theorem ou: ∀l:List cQ,wJ (aY l)=xE l
 |[]=>rfl
 |a::l=>by
  show zv a.len::wJ (aY l)=_
  rw[ou l];rfl
theorem lX(f:cQ->Int)(l:List cQ):bE (l.map fun a=>zv (f a))=true:=by
 rw[c8];intro v hv
 obtain⟨a,_,rfl⟩:=List.mem_map.1 hv
 rfl
theorem nZ: ∀(n:Nat)(v:List Value),v.length=1->rep n v=List.replicate n (v.headD undef)
 |0,_,_=>rfl
 |n+1,[a],h=>by
  show [a]++rep n [a]=_
  rw[nZ n [a] rfl];rfl
theorem mZ(row:List Value): ∀n,rep n row=(List.replicate n row).flatten
 |0=>rfl
 |n+1=>by
  show row++rep n row=_
  rw[mZ row n];rfl
section
variable{z:T aa}{zn:Nat}
theorem nc{σ:Nat->Option Nat}{cs:List Value}(h:bE cs=true)(c:Nat):aC σ (aa.ay (aR.mk cs c 1 3 true true 0 true))=some (aa.ay (aR.mk cs c 1 3 true true 0 true)):=bX h
theorem MZ(hz:au z zn)(l:List cQ)(n:Nat)(hl:l.length=n)(hn:n<=1000)(cs:List Value)(hcs:cs.length=n)(hp:bE cs=true):
 ai prog (ah (ag f263) 0) 2 23 (Ge n 0) [(0,kI (aY l) n),(1,Gs cs n)] 2 z zn (Al.R (XQ z zn n (aY l) cs (xE l)).l):=by
 refine ax hD (cZ z) (α:=Nat) 2 23 2 (fun i=>i<=n) (fun i=>Ge n i) (fun i=>[(0,kI (aY l) n),(1,Gs ((l.take i).map (fun a=>zv a.len)++cs.drop i) n)]) (fun _=>z) (fun _=>zn) (fun i=>n - i) _ (fun i hI=>?_) 0 (Nat.zero_le _)
 have hpl: ∀j,bE ((l.take j).map (fun a=>zv a.len)++cs.drop j)=true:=fun j=>by
  rw[c8];intro v hv
  rcases List.mem_append.1 hv with q|q
  ·exact c8.1 (lX (·.len) (l.take j)) v q
  ·exact c8.1 hp v (List.mem_of_mem_drop q)
 by_cases hi:i<n
 ·have hlen:((l.take i).map (fun a=>zv a.len)++cs.drop i).length=n:=by simp;omega
  have o1:=nk (cs:=(l.take i).map (fun a=>zv a.len)++cs.drop i) (i:=i) (by omega) (zv (fB l i).len)
  have e1:((l.take i).map (fun a=>zv a.len)++cs.drop i).set i (zv (fB l i).len)=(l.take (i+1)).map (fun a=>zv a.len)++cs.drop (i+1):=by
   rw[List.take_add_one,nz (by omega),List.map_append]
   rw[List.set_append_right _ _ (by simp;omega)]
   have:i - ((l.take i).map fun a=>zv a.len).length=0:=by simp;omega
   have hd:cs.drop i=cs[i]::cs.drop (i+1):=List.drop_eq_getElem_cons (by omega:i<cs.length)
   rw[this,hd,List.set_cons_zero,List.append_assoc]
   rfl
  rw[e1] at o1
  have hc:decide ((i:Int)<(n:Int))=true:=by simp;omega
  have l1:((l.take (i+1)).map (fun a=>zv a.len)++cs.drop (i+1)).length<=n*1:=by simp;omega
  have r1:=hpl i
  have r2:=hpl (i+1)
  refine t100 (ln0 z zn n i (aY l) ((l.take i).map (fun a=>zv a.len)++cs.drop i) ((l.take (i+1)).map (fun a=>zv a.len)++cs.drop (i+1)) (fB l i) (an _ _ _ _ _ _ _ _ _) ⟨fun _=>?_,nC1 hc⟩)
  (repeat' first|(with_reducible first|exact rfl|assumption|apply And.intro|exact Tq (by omega) _|exact jM _ _|exact nc r2 _|exact bF (by omega)))
  exact⟨i+1,rfl,rfl,rfl,rfl,rfl,hi,by show n - (i+1)<n - i;omega⟩
 ·have hc:decide ((i:Int)<(n:Int))=false:=by simp;omega
  have r1:=hpl i
  refine t100 (ln0 z zn n i (aY l) ((l.take i).map (fun a=>zv a.len)++cs.drop i) [] Vx (an _ _ _ _ _ _ _ _ _) ⟨nC1 hc,fun _=>?_⟩)
  (repeat' first|(with_reducible first|exact rfl|assumption|apply And.intro|exact nc r1 _))
  have:i=n:=by omega
  subst this
  rw[List.take_of_length_le (by omega),List.drop_eq_nil_of_le (by omega),List.append_nil]
  exact bu trivial
theorem Rn(hz:au z zn)(l:List cQ)(n:Nat)(hl:l.length=n)(hn:n<=1000):
 A1 z zn 263 [bc 0 n n] [(0,kI (aY l) n)] 1 2 (bc 1 n n) [(1,Gs (wJ (aY l)) n)]:=by
 have e0:rep n [I 0]=List.replicate n (I 0):=nZ n [I 0] rfl
 have hp:bE (rep n [I 0])=true:=by
  rw[e0,c8];intro v hv;rw[List.eq_of_mem_replicate hv];rfl
 have hK:=MZ hz l n hl hn (rep n [I 0]) (by rw[e0];simp) hp
 have r3: ∀σ,_:=fun σ=>nc (σ:=σ) (lX (·.len) l) (n*1)
 rw[ou]
 refine aK1 (cZ z) (fn:=f263) hz (N:=100) ?_
 refine ln z zn n (aY l) (rep n [I 0]) (xE l) _ ?_
 (repeat' first|(with_reducible first|exact rfl|assumption|apply And.intro|exact jM _ _|exact nc hp _|exact r3 _|exact(by omega:n<=1048576)|exact q1)|exact hK|intro hq)
end
abbrev oN:=Int × Nat × List eH
def mB(L:List oN)(a:Int):List eH:=((L.find? fun x=>x.1==a).map (·.2.2)).getD []
structure Xb(z:T aa)(zn n:Nat)(L:List oN):Prop where
 row: ∀x∈L,∃kb:aR,z.get x.2.1=some (.ay kb)/\kb.cells=bC x.2.2
 nI: ∀x∈L,x.2.2.length<=4096/\ ∀e∈x.2.2,0<=e.aB/\e.aB<n/\0<=e.wt/\e.wt<=1073741824
def GE(L:List oN):bU:=fun u v w=> ∃e∈mB L (u:Int),e.aB=(v:Int)/\e.wt=(w:Int)
theorem nE(L:List oN)(a:Int): ∀i j,(∃p x,aE prog 3 (zv a) (ff j L) i=some (some (p,tb x.2.1 x.2.2.length x.2.2.length))/\x∈L/\L.find? (fun x=>x.1==a)=some x/\i<=p/\L[p - i]? =some x)\/(aE prog 3 (zv a) (ff j L) i=some none/\L.find? (fun x=>x.1==a)=none):=by
 induction L with
 |nil=>intro i j;exact .inr ⟨rfl,rfl⟩
 |cons y l ih=>
  intro i j
  obtain⟨b,k,r⟩:=y
  simp only[ff,aE,aD,JI]
  by_cases h:a=b
  ·subst h
   refine .inl ⟨i,(a,k,r),by simp,List.mem_cons_self ..,by simp,Nat.le_refl _,by simp⟩
  ·have hd:decide (a=b)=false:=by simp[h]
   have hb:(b==a)=false:=by simp;exact fun e=>h e.symm
   rw[hd]
   simp only[List.find?_cons,hb]
   rcases ih (i+1) (j+1) with ⟨p,x,q1,q2,q3,q4,q5⟩|⟨q1,q2⟩
   ·refine .inl ⟨p,x,q1,List.mem_cons_of_mem _ q2,q3,by omega,?_⟩
    rw[show p - i=(p - (i+1))+1 by omega,List.getElem?_cons_succ];exact q5
   ·exact .inr ⟨q1,q2⟩
theorem Ty(L:List oN)(a:Int):aE prog 3 (zv a) (ff 0 L) 0≠none:=by
 rcases nE L a 0 0 with ⟨p,x,q,_⟩|⟨q,_⟩<;>rw[q]<;>simp
theorem Tz(L:List oN)(a:Int)(p:Nat × Value)(h:aE prog 3 (zv a) (ff 0 L) 0=some (some p)): ∃x:Nat × Nat × Nat,p=(x.1,tb x.2.1 x.2.2 x.2.2):=by
 rcases nE L a 0 0 with ⟨q,x,e,_⟩|⟨e,_⟩
 ·rw[e] at h;cases h;exact⟨(q,x.2.1,x.2.2.length),rfl⟩
 ·rw[e] at h;cases h
theorem Qm(L:List oN)(a:Int){i:Nat × Nat × Nat}(h:aE prog 3 (zv a) (ff 0 L) 0=some (some (i.1,tb i.2.1 i.2.2 i.2.2))): ∃x∈L,mB L a=x.2.2/\i.2.1=x.2.1/\i.2.2=x.2.2.length:=by
 rcases nE L a 0 0 with ⟨q,x,e,h1,h2,_⟩|⟨e,_⟩
 ·rw[e] at h
  simp only[Option.some.injEq,Prod.mk.injEq,Value.slice.injEq,Addr.mk.injEq,and_true] at h
  obtain⟨_,h3,h4,_⟩:=h
  refine⟨x,h1,by unfold mB;rw[h2];rfl,by omega,h4.symm⟩
 ·rw[e] at h;cases h
theorem Ql(L:List oN)(a:Int)(h:aE prog 3 (zv a) (ff 0 L) 0=some none):mB L a=[]:=by
 rcases nE L a 0 0 with ⟨q,x,e,_⟩|⟨e,h2⟩
 ·rw[e] at h;cases h
 ·unfold mB;rw[h2];rfl
theorem tN{σ:Nat->Option Nat}: ∀{L:List oN} (i:Nat),(∀x∈L,σ (256*x.2.1+510)=some (256*x.2.1+510))->gU σ (ff i L)=some (ff i L)
 |[],_,_=>rfl
 |(a,k,r)::l,i,h=>by
  have hk:=h (a,k,r) (List.mem_cons_self ..)
  simp only at hk
  simp only[ff,gU,aJ,hk,tN (i+1) fun x hx=>h x (List.mem_cons_of_mem _ hx)]
theorem Ij{σ:Nat->Option Nat}{L:List oN}(h: ∀x∈L,σ (256*x.2.1+510)=some (256*x.2.1+510))(c:Nat):aC σ (aa.map (ff 0 L) c)=some (aa.map (ff 0 L) c):=by
 simp only[aC,tN 0 h]
theorem yL(σ:bb)(L:List oN)(c:Nat):aC (sig σ) (aa.map (ff 0 L) c)=some (aa.map (ff 0 L) c):=Ij (fun x _=>jd (by unfold cM;omega)) c
theorem gT(σ:bb)(L:List oN)(c:Nat):aC (aj σ []) (aa.map (ff 0 L) c)=some (aa.map (ff 0 L) c):=yL σ L c
theorem qd(l:List eH): ∀r∈l.map eH.row,r.length=3:=aM l fun _=>rfl
def LQ(s:rD)(v l:Nat):Prop:= ∃a,gL (hf s.ms) s.n a/\a.x.node=(v:Int)/\a.x.len=(l:Int)
def LS(out:List cQ)(v:Nat):Prop:=0<=(fB out v).gi
def Ld(out:List cQ)(v:Nat):Nat:=(fB out v).len.toNat
def kZ(out:List cQ):Nat:=out.countP fun a=>decide (0<=a.gi)
def HB(n c:Nat)(s:rD):Prop:= ∀a,gL (hf s.ms) s.n a->0<=a.x.node/\a.x.node<n/\0<=a.x.len/\a.x.len<=a.x.gi*1073741824/\0<=a.x.gi/\a.x.gi<=c
structure FL(n:Nat)(out:List cQ):Prop where
 len:out.length=n
 ES: ∀v,v<n->(0<=(fB out v).gi/\0<=(fB out v).len)\/((fB out v).gi<0/\(fB out v).len= -1)
abbrev Xx(r:List eH):List (Nat × Nat):=r.map fun e=>(e.aB.toNat,e.wt.toNat)
structure Ol(L:List oN)(n fr:Nat)(out:List cQ)(x:Nat)(s0:rD)(l:List eH)(j:Nat)(s:rD):Prop where
 ok:wg s
 one:1<=s.ms.length
 hb:HB n (kZ out) s
 dj:KV (GE L) fr (LS out) (Ld out) (LQ s) x (Xx l)
 p:s.p<=s0.p+j
 n:s.n<=s0.n+j
section
variable{z:T aa}{zn:Nat}
theorem I7(hz:au z zn)(L:List oN)(n fr:Nat)(hL:Xb z zn n L)(hn:n<=64)(out:List cQ)(ho:FL n out)(hc:kZ out<=n)(y:oN)(hy:y∈L)(a:cQ)(x:Nat)(hx:a.node=(x:Int))(hxn:x<n)(hadj:mB L (x:Int)=y.2.2)(hax:fB out x=a)(ha0:0<=a.gi)(hal:0<=a.len)(hab:a.len<=a.gi*1073741824)(hac:a.gi+1<=kZ out)(s0:rD)(hs0:Ol L n fr out x s0 [] 0 s0)(hp:s0.p<=900000):
 ai prog (ah (ah (ag f264) 1) 0) 6 82 (Db n y.2.1 y.2.2.length 0) (rG n L.length (ff 0 L) (aY out) a (xJ 6 s0) (w9 s0)) 7 z zn (Al.R (Uf z zn n y.2.1 y.2.2.length L.length (ff 0 L) (aY out) a (xJ 6 s0) (w9 s0) (Ol L n fr out x s0 y.2.2 y.2.2.length)).l):=by
 obtain⟨kb,hk1,hk2⟩:=hL.row y hy
 obtain⟨hr1,hr2⟩:=hL.nI y hy
 refine ax hD (cZ z) (α:=Nat × rD) 6 82 7 (fun t=>t.1<=y.2.2.length/\Ol L n fr out x s0 (y.2.2.take t.1) t.1 t.2) (fun t=>Db n y.2.1 y.2.2.length t.1) (fun t=>rG n L.length (ff 0 L) (aY out) a (xJ 6 t.2) (w9 t.2)) (fun _=>z) (fun _=>zn) (fun t=>y.2.2.length - t.1) _ (fun t hI=>?_) (0,s0) ⟨Nat.zero_le _,hs0⟩
 obtain⟨j,s⟩:=t
 obtain⟨h1,h2⟩:=hI
 simp only at h1 h2 ⊢
 have rb:aC (aj [(0,0),(1,1),(2,2),(5,5),(6,6)] []) (dW (aF s.ms) (s.ms.length*4))=some (dW (aF s.ms) (s.ms.length*4)):=Qa _ _
 by_cases hj:j<y.2.2.length
 ·obtain⟨e,he⟩:=dh hj
  have hem:e∈y.2.2:=List.mem_of_getElem? he
  obtain⟨e1,e2,e3,e4⟩:=hr2 e hem
  have hto:e.aB=(e.aB.toNat:Int):=by omega
  have htn:e.aB.toNat<out.length:=by rw[ho.len];omega
  have hrow:aq prog kb 329 (0+j*3)=some (.agg ⟨e.row⟩):=gE (rows:=y.2.2.map eH.row) hk2 underlying329 rfl rfl (qd _) (by rw[List.getElem?_map,he];rfl)
  have hedg:=Ik (l:=out) htn (n*3)
  have htk:y.2.2.take (j+1)=y.2.2.take j++[e]:=by rw[List.take_add_one,he];rfl
  have hps:Xx (y.2.2.take (j+1))=Xx (y.2.2.take j)++[(e.aB.toNat,e.wt.toNat)]:=by rw[htk];simp
  have hpb:s.p+1<=1000000:=by have:=h2.p;omega
  have hge:GE L x e.aB.toNat e.wt.toNat:=⟨e,by rw[hadj];exact hem,hto,by omega⟩
  have hLd:Ld out x=a.len.toNat:=by unfold Ld;rw[hax]
  have hSx:LS out x:=by unfold LS;rw[hax];exact ha0
  have hpush:=Rg hz s h2.ok h2.one hpb ⟨e.aB,a.len+e.wt,a.gi+1⟩
  have w1:Value.int .i64 (IntKind.i64.wrap (a.len+e.wt))=Value.int .i64 (a.len+e.wt):=cX (by omega) (by omega)
  have w2:Value.int .i64 (IntKind.i64.wrap (a.gi+1))=Value.int .i64 (a.gi+1):=cX (by omega) (by omega)
  have hcd:decide ((j:Int)<(y.2.2.length:Int))=true:=by simp;omega
  refine t100 (lb2 z zn n s.n s.ms.length (s.ms.length*4) y.2.1 y.2.2.length j e.aB.toNat L.length kb s.p (fB out e.aB.toNat).gi (ff 0 L) (aY out) (aF s.ms) a e (pushφ s ⟨e.aB,a.len+e.wt,a.gi+1⟩) (an _ _ _ _ _ _ _ _ _) ⟨fun _=>?_,nC1 hcd⟩)
  (repeat' first|(with_reducible first|exact rfl|assumption|apply And.intro|exact(by omega:e.aB.toNat<n)|exact cA _ _|exact gT _ _ _|exact jM _ _|exact bF (by omega))|exact hpush|intro hq)
  ·
   rename_i ms'
   obtain⟨p1,p2,p3,p4⟩:=hq
   have hlp:=h2.ok.lp
   have hp0:=h2.ok.p0
   have h2p:=h2.p
   have h2n:=h2.n
   refine⟨(j+1,⟨s.n+1,ms',s.p+1⟩),rfl,rfl,rfl,rfl,rfl,⟨hj,?_⟩,by show y.2.2.length - (j+1)<y.2.2.length - j;omega⟩
   show Ol L n fr out x s0 (y.2.2.take (j+1)) (j+1) ⟨s.n+1,ms',s.p+1⟩
   have hval: ∀v,gL (hf ms') (s.n+1) v↔v=⟨⟨e.aB,a.len+e.wt,a.gi+1⟩,s.p⟩\/gL (hf s.ms) s.n v:=p4
   refine⟨⟨p1,p3,by show 0<=s.p+1;omega,hpb,by show(ms'.length:Int)<=s.p+1;omega⟩,by show 1<=ms'.length;omega,fun b hb=>?_,?_,by show s.p+1<=s0.p+((j+1:Nat):Int);omega,by show s.n+1<=s0.n+(j+1);omega⟩
   ·rcases (hval b).1 hb with rfl|hb
    ·exact⟨e1,e2,by show 0<=a.len+e.wt;omega,by show a.len+e.wt<=(a.gi+1)*1073741824;omega,by show 0<=a.gi+1;omega,hac⟩
    ·exact h2.hb b hb
   ·rw[hps]
    refine xS h2.dj hSx hge (fun v k ⟨b,q1,q2,q3⟩=>⟨b,(hval b).2 (.inr q1),q2,q3⟩) (fun v k ⟨b,q1,q2,q3⟩=>?_) (.inr ⟨_,(hval _).2 (.inl rfl),hto,?_⟩)
    ·rcases (hval b).1 q1 with rfl|q1
     ·right
      simp only at q2 q3
      rw[hLd]
      omega
     ·exact .inl ⟨b,q1,q2,q3⟩
    ·show a.len+e.wt=_
     rw[hLd];omega
  ·have hneg:decide ((fB out e.aB.toNat).gi<0)=false:=by with_reducible assumption
   have hS:LS out e.aB.toNat:=by unfold LS;simpa using hneg
   have h2p:=h2.p
   have h2n:=h2.n
   refine⟨(j+1,s),rfl,rfl,rfl,rfl,rfl,⟨hj,?_⟩,by show y.2.2.length - (j+1)<y.2.2.length - j;omega⟩
   show Ol L n fr out x s0 (y.2.2.take (j+1)) (j+1) s
   refine⟨h2.ok,h2.one,h2.hb,?_,by show s.p<=s0.p+((j+1:Nat):Int);omega,by omega⟩
   rw[hps]
   exact xS h2.dj hSx hge (fun v k q=>q) (fun v k q=> .inl q) (.inl hS)
 ·have hje:j=y.2.2.length:=by omega
  have hcd:decide ((j:Int)<(y.2.2.length:Int))=false:=by simp;omega
  refine t100 (lb2 z zn n s.n s.ms.length (s.ms.length*4) y.2.1 y.2.2.length j 0 L.length kb s.p 0 (ff 0 L) (aY out) (aF s.ms) a ⟨0,0,0⟩ (fun _=>False) (an _ _ _ _ _ _ _ _ _) ⟨nC1 hcd,fun _=>?_⟩)
  (repeat' first|(with_reducible first|exact rfl|assumption|apply And.intro|exact cA _ _|exact gT _ _ _|exact jM _ _))
  subst hje
  rw[List.take_of_length_le (Nat.le_refl _)] at h2
  exact yh (k:=fun _=>dP) s h2 rfl
end
end Go.Proofs.Nw
namespace Go.Proofs.Nw
open Go Go.AV Tryz Go.jA
set_option maxHeartbeats 1000000
set_option maxRecDepth 100000
theorem Sd{out:List cQ}{nd:Nat}(h:nd<out.length){a:cQ}(ha:0<=a.gi):LS (out.set nd a)=fun v=>LS out v\/v=nd:=by
 funext v
 apply propext
 unfold LS
 rw[qA h]
 by_cases e:v=nd
 ·simp[e,ha]
 ·simp[e]
theorem Sc{out:List cQ}{nd:Nat}(h:nd<out.length)(a:cQ):Ld (out.set nd a)=fun v=>if v=nd then a.len.toNat else Ld out v:=by
 funext v
 unfold Ld
 rw[qA h]
 split<;>rfl
theorem E9{out:List cQ}{nd:Nat}(h:nd<out.length){a:cQ}(ha:0<=a.gi)(hn: ¬LS out nd):kZ (out.set nd a)=kZ out+1:=by
 unfold kZ
 have hg:out[nd]=fB out nd:=by have:=nz h;rw[List.getElem?_eq_getElem h] at this;exact Option.some.inj this
 rw[List.countP_set h,hg]
 have h1:decide (0<=(fB out nd).gi)=false:=by unfold LS at hn;simpa using hn
 simp[h1,ha]
theorem JR(out:List cQ):kZ out<=out.length:=List.countP_le_length
theorem Es{n:Nat}{out:List cQ}(ho:FL n out){nd:Nat}(h:nd<n){a:cQ}(ha:0<=a.gi)(hl:0<=a.len):FL n (out.set nd a):=by
 refine⟨by rw[List.length_set];exact ho.len,fun v hv=>?_⟩
 rw[qA (by rw[ho.len];exact h)]
 by_cases e:v=nd
 ·rw[if_pos e];exact .inl ⟨ha,hl⟩
 ·rw[if_neg e];exact ho.ES v hv
structure Se(L:List oN)(n fr:Nat)(out:List cQ)(s:rD):Prop where
 oo:FL n out
 ok:wg s
 one:1<=s.ms.length
 hb:HB n (kZ out) s
 dj:Dj (GE L) fr (LS out) (Ld out) (LQ s)
 p:s.p<=1+4096*(kZ out:Int)
def ESφ(L:List oN)(n fr:Nat)(l:List cQ):Prop:=l.length=n/\ ∀v,v<n->mF (GE L) fr v (fB l v).len
theorem Ni{L:List oN}{n fr:Nat}{out:List cQ}{s:rD}(h:Se L n fr out s)(h0:s.n=0):ESφ L n fr out:=by
 refine⟨h.oo.len,fun v hv=>?_⟩
 have hq: ∀v k,¬LQ s v k:=fun v k ⟨a,⟨i,hi,_⟩,_⟩=>by omega
 obtain⟨q1,q2⟩:=Q0 h.dj hq v
 rcases h.oo.ES v hv with ⟨e1,e2⟩|⟨e1,e2⟩
 ·have:=q1 e1
  unfold Ld at this
  rw[show((fB out v).len.toNat:Int)=(fB out v).len by omega] at this
  exact this
 ·rw[e2]
  exact q2 (by unfold LS;omega)
section
variable{z:T aa}{zn:Nat}
theorem Gn(hz:au z zn)(L:List oN)(n:Nat)(out:List cQ)(a:cQ)(n' c cc:Nat)(p:Int)(ms:List cd):
 ai prog (ah (ah (ag f264) 1) 0) 6 82 (xw n) (rG n L.length (ff 0 L) (aY out) a (eB (bc 6 n' c) p) (dW (aF ms) cc)) 7 z zn (Al.R (Ue z zn n L.length (ff 0 L) (aY out) a (eB (bc 6 n' c) p) (dW (aF ms) cc)).l):=by
 refine ax hD (cZ z) (α:=Nat) 6 82 7 (fun t=>t=0) (fun t=>xw n) (fun t=>rG n L.length (ff 0 L) (aY out) a (eB (bc 6 n' c) p) (dW (aF ms) cc)) (fun _=>z) (fun _=>zn) (fun t=>1) _ (fun t hI=>?_) 0 rfl
 refine t100 (XY z zn n n' c cc L.length p (ff 0 L) (aY out) (aF ms) a (an _ _ _ _ _ _ _ _ _) ?_)
 (repeat' first|(with_reducible first|exact rfl|assumption|apply And.intro|exact cA _ _|exact gT _ _ _|exact jM _ _))
 exact bu trivial
theorem I8(hz:au z zn)(L:List oN)(n fr:Nat)(hL:Xb z zn n L)(hn:n<=64)(out0:List cQ)(s0:rD)(h0:Se L n fr out0 s0):
 ai prog (ah (ag f264) 1) 4 82 (l9 n) [(0, .map (ff 0 L) L.length),(1,kI (aY out0) n),(2,xJ 4 s0),(4,w9 s0)] 5 z zn (Al.R (MI z zn n L.length (ff 0 L) (aY out0) (xJ 4 s0) (w9 s0) (ESφ L n fr)).l):=by
 refine ax hD (cZ z) (α:=List cQ × rD) 4 82 5 (fun t=>Se L n fr t.1 t.2) (fun t=>l9 n) (fun t=>[(0, .map (ff 0 L) L.length),(1,kI (aY t.1) n),(2,xJ 4 t.2),(4,w9 t.2)]) (fun _=>z) (fun _=>zn) (fun t=>(n - kZ t.1)*4200+t.2.n) _ (fun t hI=>?_) (out0,s0) h0
 obtain⟨out,s⟩:=t
 simp only at hI ⊢
 by_cases hs0:s.n=0
 ·have Jq:A1 z zn 276 [ip 0] [(0,eB (bc 1 s.n s.ms.length) s.p),(1,dW (aF s.ms) (s.ms.length*4))] 2 2 (.tuple ⟨[.agg ⟨[I 0,I 0,I 0]⟩,F0]⟩) [(0,eB (bc 1 s.n s.ms.length) s.p),(1,dW (aF s.ms) (s.ms.length*4))]:=by
   rw[hs0];exact Ri hz s.ms s.ms.length (s.ms.length*4) s.p
  refine t100 (XZ z zn n s.n s.ms.length (s.ms.length*4) L.length s.p (ff 0 L) (aY out) (aF s.ms) (an _ _ _ _ _ _ _ _ _) ?_)
  (repeat' first|(with_reducible first|exact rfl|assumption|apply And.intro|exact cA _ _|exact gT _ _ _|exact jM _ _)|exact Jq|intro hq)
  exact yh (k:=fun _=>dP) out (Ni hI hs0) rfl
 ·have hpos:0<s.n:=by omega
  have hcn:kZ out<=n:=by have:=JR out;rw[hI.oo.len] at this;exact this
  obtain⟨b1,b2,b3,b4,b5,b6⟩:=hI.hb (hf s.ms 0) ⟨0,hpos,rfl⟩
  have hpI:=hI.p
  have hlp:=hI.ok.lp
  have hlen:=hI.ok.len
  have Jq:=UG hz s.ms s.n s.ms.length (s.ms.length*4) s.p hpos hI.ok.len hI.ok.len (Nat.le_refl _) (by have:=hI.ok.pb;omega) hI.ok.heap
  have hnd:(hf s.ms 0).x.node=((hf s.ms 0).x.node.toNat:Int):=by omega
  generalize hnd':(hf s.ms 0).x.node.toNat=nd at hnd
  have hndn:nd<n:=by omega
  have hedg:=Ik (l:=out) (i:=nd) (by rw[hI.oo.len];exact hndn) (n*3)
  have hov:=Oz (l:=out) (i:=nd) (by rw[hI.oo.len];exact hndn) (hf s.ms 0).x
  have l1:(aY (out.set nd (hf s.ms 0).x)).length<=n*3:=by rw[wX,List.length_set,hI.oo.len];exact Nat.le_refl _
  have vals: ∀ms',popφ s.ms s.n ms'-> ∀b,gL (hf ms') (s.n - 1) b->gL (hf s.ms) s.n b:=fun ms' hp b hb=>by
   obtain⟨i,i1,i2,i3⟩:=(hp.2.2 b).1 hb
   exact⟨i,i2,i3⟩
  have q1: ∀ms',popφ s.ms s.n ms'-> ∀v k,LQ ⟨s.n - 1,ms',s.p⟩ v k->LQ s v k:=fun ms' hp v k ⟨b,k1,k2,k3⟩=>⟨b,vals ms' hp b k1,k2,k3⟩
  have q2: ∀ms',popφ s.ms s.n ms'-> ∀v k,LQ s v k->LQ ⟨s.n - 1,ms',s.p⟩ v k\/(v=nd/\k=(hf s.ms 0).x.len.toNat):=fun ms' hp v k ⟨b,⟨i,i1,i2⟩,k2,k3⟩=>by
   by_cases e:i=0
   ·subst e;subst i2;right;omega
   ·exact .inl ⟨b,(hp.2.2 b).2 ⟨i,by omega,i1,i2⟩,k2,k3⟩
  have ok1: ∀ms',popφ s.ms s.n ms'->wg ⟨s.n - 1,ms',s.p⟩:=fun ms' hp=>⟨by show s.n - 1<=ms'.length;rw[hp.1];omega,hp.2.1,hI.ok.p0,hI.ok.pb,by show(ms'.length:Int)<=s.p;rw[hp.1];exact hlp⟩
  have hb1: ∀ms',popφ s.ms s.n ms'-> ∀c,kZ out<=c->HB n c ⟨s.n - 1,ms',s.p⟩:=fun ms' hp c hc b hb=>by
   obtain⟨k1,k2,k3,k4,k5,k6⟩:=hI.hb b (vals ms' hp b hb)
   exact⟨k1,k2,k3,k4,k5,by omega⟩
  have st: ∀ms',popφ s.ms s.n ms'-> ¬LS out nd->Ol L n fr (out.set nd (hf s.ms 0).x) nd ⟨s.n - 1,ms',s.p⟩ [] 0 ⟨s.n - 1,ms',s.p⟩:=fun ms' hp hns=>by
   have hc1:=E9 (by rw[hI.oo.len];exact hndn) b5 hns
   refine⟨ok1 ms' hp,by show 1<=ms'.length;rw[hp.1];exact hI.one,hb1 ms' hp _ (by omega),?_,by show s.p<=s.p+((0:Nat):Int);omega,Nat.le_refl _⟩
   rw[Sd (by rw[hI.oo.len];exact hndn) b5,Sc (by rw[hI.oo.len];exact hndn)]
   refine GL hI.dj hns ⟨_,⟨0,hpos,rfl⟩,hnd,by omega⟩ (fun v k ⟨b,⟨i,i1,i2⟩,k2,k3⟩=>?_) (q1 ms' hp) (q2 ms' hp)
   have hm:=Jr iW hI.ok.heap i i1
   rw[i2] at hm
   have: ¬dQ b (hf s.ms 0)=true:=by rw[hm];simp
   rw[nL] at this
   omega
  have hcl: ¬LS out nd->kZ (out.set nd (hf s.ms 0).x)=kZ out+1/\kZ out+1<=n:=fun hns=>by
   have hc1:=E9 (by rw[hI.oo.len];exact hndn) b5 hns
   have:=JR (out.set nd (hf s.ms 0).x)
   rw[List.length_set,hI.oo.len] at this
   exact⟨hc1,by omega⟩
  have hin: ∀ms',popφ s.ms s.n ms'-> ¬LS out nd-> ∀i:Nat × Nat × Nat,aE prog 3 (zv (hf s.ms 0).x.node) (ff 0 L) 0=some (some (i.1,tb i.2.1 i.2.2 i.2.2))->
   ai prog (ah (ah (ag f264) 1) 0) 6 82 (Db n i.2.1 i.2.2 0) (rG n L.length (ff 0 L) (aY (out.set nd (hf s.ms 0).x)) (hf s.ms 0).x (eB (bc 6 (s.n - 1) s.ms.length) s.p) (dW (aF ms') (s.ms.length*4))) 7 z zn
    (Al.R (Uf z zn n i.2.1 i.2.2 L.length (ff 0 L) (aY (out.set nd (hf s.ms 0).x)) (hf s.ms 0).x (eB (bc 6 (s.n - 1) s.ms.length) s.p) (dW (aF ms') (s.ms.length*4)) (Ol L n fr (out.set nd (hf s.ms 0).x) nd ⟨s.n - 1,ms',s.p⟩ (mB L nd) (mB L nd).length)).l):=fun ms' hp hns i hi=>by
   obtain⟨y,y1,y2,y3,y4⟩:=Qm L _ hi
   rw[hnd] at y2
   obtain⟨c1,c2⟩:=hcl hns
   have:=I7 hz L n fr hL hn (out.set nd (hf s.ms 0).x) (Es hI.oo hndn b5 b3) (by omega) y y1 (hf s.ms 0).x nd hnd hndn y2 (by rw[qA (by rw[hI.oo.len];exact hndn),if_pos rfl]) b5 b3 b4 (by omega) ⟨s.n - 1,ms',s.p⟩ (st ms' hp hns) (by show s.p<=900000;omega)
   simp only[xJ,w9,hp.1] at this
   rw[y3,y4,y2]
   exact this
  have kh: ∀ms',popφ s.ms s.n ms'-> ¬LS out nd-> ∀s2,Ol L n fr (out.set nd (hf s.ms 0).x) nd ⟨s.n - 1,ms',s.p⟩ (mB L nd) (mB L nd).length s2->
   an (fun t:List cQ × rD=>Se L n fr t.1 t.2) (fun t=>l9 n) (fun t=>[(0, .map (ff 0 L) L.length),(1,kI (aY t.1) n),(2,xJ 4 t.2),(4,w9 t.2)]) 5 (fun _=>z) (fun _=>zn) (fun t=>(n - kZ t.1)*4200+t.2.n) (Al.R (MI z zn n L.length (ff 0 L) (aY out0) (xJ 4 s0) (w9 s0) (ESφ L n fr)).l) (out,s) .normal (l9 n) [(0, .map (ff 0 L) L.length),(1,kI (aY (out.set nd (hf s.ms 0).x)) n),(2,xJ 4 s2),(4,w9 s2)] 5 z zn:=fun ms' hp hns s2 h2=>by
   obtain⟨c1,c2⟩:=hcl hns
   have hal:(mB L (nd:Int)).length<=4096:=by
    unfold mB
    cases hfd:L.find? (fun x=>x.1==(nd:Int)) with
    |none=>simp
    |some y=>exact(hL.nI y (List.mem_of_find?_eq_some hfd)).1
   have h2p:s2.p<=s.p+(((mB L (nd:Int)).length:Nat):Int):=h2.p
   have h2n:s2.n<=s.n - 1+(mB L (nd:Int)).length:=h2.n
   refine⟨(out.set nd (hf s.ms 0).x,s2),rfl,rfl,rfl,rfl,rfl,⟨Es hI.oo hndn b5 b3,h2.ok,h2.one,h2.hb,JM h2.dj (fun u w ⟨e,e1,e2,e3⟩=>?_),by show s2.p<=1+4096*((kZ (out.set nd (hf s.ms 0).x):Nat):Int);omega⟩,?_⟩
   ·exact List.mem_map.2 ⟨e,e1,by rw[e2,e3];simp⟩
   ·show(n - kZ (out.set nd (hf s.ms 0).x))*4200+s2.n<(n - kZ out)*4200+s.n
    rw[c1]
    obtain⟨m,hm⟩: ∃m,n - kZ out=m+1:=⟨n - kZ out - 1,by omega⟩
    rw[show n - (kZ out+1)=m by omega,hm]
    omega
  have nx0: ∀ms',popφ s.ms s.n ms'-> ¬LS out nd->mB L (nd:Int)=[]->an (fun t:List cQ × rD=>Se L n fr t.1 t.2) (fun t=>l9 n) (fun t=>[(0, .map (ff 0 L) L.length),(1,kI (aY t.1) n),(2,xJ 4 t.2),(4,w9 t.2)]) 5 (fun _=>z) (fun _=>zn) (fun t=>(n - kZ t.1)*4200+t.2.n) (Al.R (MI z zn n L.length (ff 0 L) (aY out0) (xJ 4 s0) (w9 s0) (ESφ L n fr)).l) (out,s) .normal (l9 n) [(0, .map (ff 0 L) L.length),(1,kI (aY (out.set nd (hf s.ms 0).x)) n),(2,eB (bc 4 (s.n - 1) s.ms.length) s.p),(4,dW (aF ms') (s.ms.length*4))] 5 z zn:=fun ms' hp hns had=>by
   have:=kh ms' hp hns ⟨s.n - 1,ms',s.p⟩ (by rw[had];exact st ms' hp hns)
   simp only[xJ,w9,hp.1] at this ⊢
   exact this
  have skp: ∀ms',popφ s.ms s.n ms'->LS out nd->an (fun t:List cQ × rD=>Se L n fr t.1 t.2) (fun t=>l9 n) (fun t=>[(0, .map (ff 0 L) L.length),(1,kI (aY t.1) n),(2,xJ 4 t.2),(4,w9 t.2)]) 5 (fun _=>z) (fun _=>zn) (fun t=>(n - kZ t.1)*4200+t.2.n) (Al.R (MI z zn n L.length (ff 0 L) (aY out0) (xJ 4 s0) (w9 s0) (ESφ L n fr)).l) (out,s) .normal (l9 n) [(0, .map (ff 0 L) L.length),(1,kI (aY out) n),(2,eB (bc 4 (s.n - 1) s.ms.length) s.p),(4,dW (aF ms') (s.ms.length*4))] 5 z zn:=fun ms' hp hS=>by
   refine⟨(out,⟨s.n - 1,ms',s.p⟩),rfl,?_,rfl,rfl,rfl,⟨hI.oo,ok1 ms' hp,by show 1<=ms'.length;rw[hp.1];exact hI.one,hb1 ms' hp _ (Nat.le_refl _),NC hI.dj hS (q1 ms' hp) (q2 ms' hp),hI.p⟩,by show(n - kZ out)*4200+(s.n - 1)<(n - kZ out)*4200+s.n;omega⟩
   simp only[xJ,w9,hp.1]
  refine t100 (lb1 z zn n s.n s.ms.length (s.ms.length*4) nd L.length s.p (fB out nd).gi (ff 0 L) (aY out) (aY (out.set nd (hf s.ms 0).x)) (aF s.ms) (hf s.ms 0).x (popφ s.ms s.n) (fun ms' _ _=>Ol L n fr (out.set nd (hf s.ms 0).x) nd ⟨s.n - 1,ms',s.p⟩ (mB L nd) (mB L nd).length) (an _ _ _ _ _ _ _ _ _) ?_)
  have ns:decide ((fB out nd).gi>=0)=false-> ¬LS out nd:=fun h=>by unfold LS;simpa using h
  (repeat' first|(with_reducible first|exact rfl|assumption|apply And.intro|exact Ty _ _|exact Tz _ _|exact cA _ _|exact gT _ _ _|exact jM _ _)|exact Jq|exact hin _ (by assumption) (ns (by assumption)) _ (by assumption)|exact Gn hz _ _ _ _ _ _ _ _ _|intro hq)
  ·have hS:LS out nd:=by unfold LS;have:decide ((fB out nd).gi>=0)=true:=(by with_reducible assumption);simpa using this
   exact skp _ (by with_reducible assumption) hS
  ·exact kh _ (by with_reducible assumption) (ns (by with_reducible assumption)) _ hq
  ·have hns:=ns (by assumption)
   have had:mB L (nd:Int)=[]:=by
    have h:aE prog 3 (zv (hf s.ms 0).x.node) (ff 0 L) 0=some none:=by with_reducible assumption
    rw[←hnd];exact Ql L _ h
   exact nx0 _ (by with_reducible assumption) hns had
theorem F2(n:Nat)(row:List Value)(h:bE row=true):bE (rep n row)=true:=by
 rw[mZ,c8];intro v hv
 obtain⟨r,hr,hv⟩:=List.mem_flatten.1 hv
 rw[List.eq_of_mem_replicate hr] at hv
 exact c8.1 h v hv
theorem P8(n:Nat):rep n [I 0,I 0,I 0]=aY (List.replicate n ⟨0,0,0⟩):=by
 rw[mZ]
 show _=((List.replicate n (⟨0,0,0⟩:cQ)).map cQ.row).flatten
 rw[List.map_replicate]
 rfl
def zc(n:Nat):List cQ:=(List.range n).map fun(i:Nat)=>⟨(i:Int),-1,-1⟩
theorem Ji{n v:Nat}(h:v<n):fB (zc n) v=⟨(v:Int),-1,-1⟩:=by
 unfold fB zc
 rw[List.getElem?_map,List.getElem?_range h];rfl
def Dh(n i:Nat):List cQ:=(zc n).take i++List.replicate (n - i) ⟨0,0,0⟩
theorem EO{n i:Nat}(h:i<=n):(Dh n i).length=n:=by simp[Dh,zc];omega
theorem Nh{n i:Nat}(hi:i<n):(Dh n i).set i ⟨(i:Int),-1,-1⟩=Dh n (i+1):=by
 unfold Dh
 rw[List.take_add_one,show(zc n)[i]? =some ⟨(i:Int),-1,-1⟩ by unfold zc;rw[List.getElem?_map,List.getElem?_range hi];rfl]
 have hl:((zc n).take i).length=i:=by simp[zc];omega
 rw[List.set_append_right _ _ (by omega),hl,Nat.sub_self]
 obtain⟨m,hm⟩: ∃m,n - i=m+1:=⟨n - i - 1,by omega⟩
 rw[hm,show n - (i+1)=m by omega,List.replicate_succ,List.set_cons_zero,List.append_assoc]
 rfl
theorem I9(hz:au z zn)(L:List oN)(n fr:Nat)(hn:n<=64):
 ai prog (ah (ag f264) 0) 2 82 (Gj n fr 0) [(0, .map (ff 0 L) L.length),(1,kI (rep n [I 0,I 0,I 0]) n)] 2 z zn (Al.R (XW z zn n fr L.length (ff 0 L) (rep n [I 0,I 0,I 0]) (aY (zc n))).l):=by
 rw[P8,show List.replicate n (⟨0,0,0⟩:cQ)=Dh n 0 by simp[Dh]]
 refine ax hD (cZ z) (α:=Nat) 2 82 2 (fun i=>i<=n) (fun i=>Gj n fr i) (fun i=>[(0, .map (ff 0 L) L.length),(1,kI (aY (Dh n i)) n)]) (fun _=>z) (fun _=>zn) (fun i=>n - i) _ (fun i hI=>?_) 0 (Nat.zero_le _)
 by_cases hi:i<n
 ·have o1:=Oz (l:=Dh n i) (i:=i) (by rw[EO hI];exact hi) ⟨(i:Int),-1,-1⟩
  have e1:=Nh hi
  rw[e1] at o1
  have l1:(aY (Dh n (i+1))).length<=n*3:=by rw[wX,EO hi];exact Nat.le_refl _
  have hc:decide ((i:Int)<(n:Int))=true:=by simp;omega
  refine t100 (lb0 z zn n fr i L.length (ff 0 L) (aY (Dh n i)) (aY (Dh n (i+1))) (an _ _ _ _ _ _ _ _ _) ⟨fun _=>?_,nC1 hc⟩)
  (repeat' first|(with_reducible first|exact rfl|assumption|apply And.intro|exact jM _ _|exact gT _ _ _|exact bF (by omega))|exact o1)
  exact⟨i+1,rfl,rfl,rfl,rfl,rfl,hi,by show n - (i+1)<n - i;omega⟩
 ·have hc:decide ((i:Int)<(n:Int))=false:=by simp;omega
  refine t100 (lb0 z zn n fr i L.length (ff 0 L) (aY (Dh n i)) [] (an _ _ _ _ _ _ _ _ _) ⟨nC1 hc,fun _=>?_⟩)
  (repeat' first|(with_reducible first|exact rfl|assumption|apply And.intro|exact jM _ _|exact gT _ _ _))
  have:i=n:=by omega
  subst this
  rw[show Dh i i=zc i by unfold Dh;rw[List.take_of_length_le (by simp[zc]),Nat.sub_self,List.replicate_zero,List.append_nil]]
  exact bu trivial
theorem Kk(hz:au z zn)(L:List oN)(n fr:Nat)(hL:Xb z zn n L)(hn:n<=64)(hfr:fr<n):
 aP prog z zn 264 [iv n,mp 0,iv fr] [(0, .map (ff 0 L) L.length)] 1 2 (ESφ L n fr) (fun _=>bc 1 n n) (fun l=>[(0, .map (ff 0 L) L.length),(1,kI (aY l) n)]):=by
 have h0:Se L n fr (zc n) ⟨1,[⟨⟨fr,0,0⟩,0⟩],1⟩:=by
  have hcn:kZ (zc n)=0:=by
   unfold kZ zc
   rw[List.countP_eq_zero]
   intro a ha
   obtain⟨i,_,rfl⟩:=List.mem_map.1 ha
   simp
  have hls: ∀v,¬LS (zc n) v:=fun v h=>by
   unfold LS at h
   by_cases hv:v<n
   ·rw[Ji hv] at h;simp at h
   ·rw[Jj (by simp[zc];omega)] at h;simp[Vx] at h
  refine⟨⟨by simp[zc],fun v hv=> .inr ?_⟩,⟨by simp,fun k h1 h2=>by simp only at h2;omega,by simp,by simp,by simp⟩,by simp,fun a ha=>?_,?_,by rw[hcn];simp⟩
  ·rw[Ji hv];exact⟨by simp,rfl⟩
  ·obtain⟨i,hi,rfl⟩:=ha
   have:i=0:=by simp only at hi;omega
   subst this
   refine⟨by show(0:Int)<=(fr:Int);omega,by show(fr:Int)<(n:Int);omega,by show(0:Int)<=0;omega,by show(0:Int)<=0*1073741824;omega,by show(0:Int)<=0;omega,by show(0:Int)<=_;omega⟩
  ·refine⟨fun v h=>(hls v h).elim,fun v l ⟨a,⟨i,hi,e⟩,h2,h3⟩=>?_,fun u x w h=>(hls u h).elim, .inr ⟨_,⟨0,by simp,rfl⟩,rfl,rfl⟩⟩
   have:i=0:=by simp only at hi;omega
   subst this
   subst e
   have h2':(fr:Int)=(v:Int):=h2
   have h3':(0:Int)=(l:Int):=h3
   have e1:v=fr:=by omega
   have e2:l=0:=by omega
   subst e1 e2
   exact .start
 have hK0:=I9 hz L n fr hn
 have hK1:=I8 hz L n fr hL hn (zc n) _ h0
 have pB:=UK hz
 have hpu:=NT hz ⟨fr,0,0⟩
 have hrp:=F2 n [I 0,I 0,I 0] rfl
 have hrp': ∀σ,aC σ (aa.ay (aR.mk (rep n [I 0,I 0,I 0]) (n*3) 3 345 true true 0 true))=some (aa.ay (aR.mk (rep n [I 0,I 0,I 0]) (n*3) 3 345 true true 0 true)):=fun σ=>bX hrp
 refine eM (cZ z) (fn:=f264) (by kernel_rfl) (by kernel_rfl) hz ⟨by decide,by decide⟩ (fun _ _=>⟨rfl,Nat.le_refl _,hz⟩) (N:=100) ?_
 refine lb z zn n fr L.length (ff 0 L) (rep n [I 0,I 0,I 0]) (aY (zc n)) (ESφ L n fr) _ ?_
 (repeat' first|(with_reducible first|exact rfl|assumption|apply And.intro|exact hrp' _|exact jM _ _|exact gT _ _ _|exact(by omega:n<=1048576))|exact hK0|exact hK1|exact hpu|intro hq)
 all_goals exact q2 _ hq rfl rfl rfl rfl rfl
end
theorem Gx{z:T aa}{a b:Nat}(h:au z a)(hab:a<=b):au z b:=fun k o hk=>⟨Nat.lt_of_lt_of_le (h k o hk).1 hab,fun σ hs=>(h k o hk).2 σ fun j hj=>hs j (by omega)⟩
theorem nD{z:T aa}{a k:Nat}(h:au z a)(hk:k<a){o:aa}(ho: ∀σ:Nat->Option Nat,(∀j,j<a->σ (256*j+510)=some (256*j+510))->aC σ o=some o):au (z.set k o) a:=fun i p hi=>by
 rw[T.aG] at hi
 split at hi
 ·cases hi;rename_i e;subst e;exact⟨hk,ho⟩
 ·exact h i p hi
theorem gY{z:T aa}{a:Nat}(h:au z a)(k:Nat):au (z.del k) a:=fun i p hi=>by
 rw[T.fq] at hi
 split at hi
 ·cases hi
 ·exact h i p hi
theorem eC{z:T aa}{a:Nat}(h:au z a){k:aR}(hp:bE k.cells=true):au (z.set a (.ay k)) (a+1):=nD (Gx h (Nat.le_succ a)) (Nat.lt_succ_self a) fun σ _=>bX hp
theorem LP(a:Int):Instr.sameBits 10000 (zv a) (zv a)=true:=by
 simp[Instr.sameBits]
theorem wW(E:List eH):(bC E).length=E.length*3:=by rw[jU (qd E),List.length_map]
theorem gy(E:List eH):bE (bC E)=true:=jQ (fun _=>rfl) E
theorem jN{σ:Nat->Option Nat}(E:List eH)(c:Nat):aC σ (aa.ay (aR.mk (bC E) c 3 329 true true 0 true))=some (aa.ay (aR.mk (bC E) c 3 329 true true 0 true)):=bX (gy E)
theorem Il{E:List eH}{i:Nat}{e:eH}(h:E[i]? =some e)(c:Nat):aq prog (aR.mk (bC E) c 3 329 true true 0 true) 329 (0+i*3)=some (.agg ⟨e.row⟩):=
 gE (rows:=E.map eH.row) rfl underlying329 rfl rfl (qd E) (by rw[List.getElem?_map,h];rfl)
structure Hp(n:Nat)(E:List eH):Prop where
 len:E.length<=4096
 ok: ∀e∈E,0<=e.fz1/\e.fz1<n/\0<=e.aB/\e.aB<n/\0<=e.wt/\e.wt<=1073741824
section
variable{z:T aa}{zn:Nat}
theorem OL(hz:au z zn)(n:Nat)(x:Int)(h0:0<=x)(h1:x<n):A1 z zn 272 [zv x,ip 0] [(0,Ht n)] 1 1 F0 [(0,Ht n)]:=by
 have d1:decide (x<0)=false:=by simp<;>omega
 have d2:decide (x>=(n:Int))=false:=by simp<;>omega
 refine aK1 (cZ T.leaf) (fn:=f272) hz (N:=100) ?_
 refine XG z zn n x _ ?_
 refine⟨nC1 d1,fun _=>⟨nC1 d2,fun _=>?_⟩⟩
 (repeat' first|(with_reducible first|exact rfl|assumption|apply And.intro)|exact q1)
theorem Kp(hz:au z zn)(n:Nat)(hn:n<=64)(E:List eH)(hE:Hp n E):A1 z zn 261 [iv n,bc 0 E.length E.length,ak] [(0,oH (bC E) E.length)] 1 1 (I 0) [(0,oH (bC E) E.length)]:=by
 have hK0:ai prog (ah (ag f261) 0) 2 57 (xv n E.length 0) [(0,oH (bC E) E.length),(1,Ht n)] 2 z zn (Al.R (Uc z zn n E.length (bC E)).l):=by
  refine ax hD (cZ T.leaf) (α:=Nat) 2 57 2 (fun j=>j<=E.length) (fun j=>xv n E.length j) (fun _=>[(0,oH (bC E) E.length),(1,Ht n)]) (fun _=>z) (fun _=>zn) (fun j=>E.length - j) _ (fun j hI=>?_) 0 (Nat.zero_le _)
  by_cases hj:j<E.length
  ·obtain⟨e,he⟩:=dh hj
   obtain⟨k1,k2,k3,k4,k5,k6⟩:=hE.ok e (List.mem_of_getElem? he)
   have hle:=hE.len
   have m1:=OL hz n e.fz1 k1 k2
   have m2:=OL hz n e.aB k3 k4
   have hc:decide ((j:Int)<(E.length:Int))=true:=by simp;omega
   have d1:decide (e.wt<0)=false:=by simp<;>omega
   have d2:decide (e.wt>1073741824)=false:=by simp<;>omega
   refine t100 (ck0 z zn n E.length j (bC E) e (an _ _ _ _ _ _ _ _ _) ⟨fun _=>?_,nC1 hc⟩)
   (repeat' first|(with_reducible first|exact rfl|assumption|apply And.intro|exact Il he _|exact jN _ _|exact bF (by omega))|exact m1|exact m2|intro hq)
   all_goals first
    |(exact⟨j+1,rfl,rfl,rfl,rfl,rfl,hj,by show E.length - (j+1)<E.length - j;omega⟩)
    |(exfalso;simp_all;done)
    |(exfalso;simp_all;omega)
  ·have hc:decide ((j:Int)<(E.length:Int))=false:=by simp<;>omega
   refine t100 (ck0 z zn n E.length j (bC E) ⟨0,0,0⟩ (an _ _ _ _ _ _ _ _ _) ⟨nC1 hc,fun _=>?_⟩)
   (repeat' first|(with_reducible first|exact rfl|assumption|apply And.intro|exact jN _ _))
   exact bu trivial
 have hK1:ai prog (ah (ag f261) 1) 2 57 xu [(0,oH (bC E) E.length),(1,Ht n)] 2 z zn (Al.R (Ub z zn n E.length (bC E)).l):=by
  refine ax hD (cZ T.leaf) (α:=Nat) 2 57 2 (fun j=>j=0) (fun _=>xu) (fun _=>[(0,oH (bC E) E.length),(1,Ht n)]) (fun _=>z) (fun _=>zn) (fun j=>1) _ (fun j hI=>?_) 0 rfl
  refine t100 (ck1 z zn n E.length (bC E) (an _ _ _ _ _ _ _ _ _) ?_)
  (repeat' first|(with_reducible first|exact rfl|assumption|apply And.intro|exact jN _ _))
  exact bu trivial
 have hle:=hE.len
 have d0:decide ((n:Int)<0)=false:=by simp<;>omega
 have d1:decide ((n:Int)>64)=false:=by simp<;>omega
 have d2:decide ((E.length:Int)>4096)=false:=by simp<;>omega
 refine aK1 (cZ T.leaf) (fn:=f261) hz (N:=100) ?_
 refine ck z zn n E.length (bC E) _ ?_
 (repeat' first|(with_reducible first|exact rfl|assumption|apply And.intro|exact jN _ _|exact q1)|exact hK0|exact hK1|intro hq)
 all_goals (exfalso;simp_all;done)
end
abbrev Uu(r:List eH):aR:=⟨bC r,r.length*3,3,329,false,false,0,true⟩
structure Hl(z0:T aa)(zn0:Nat)(E:List eH)(j:Nat)(s:o6):Prop where
 bH:au s.z s.zn
 zn:s.zn=zn0+j
 fE: ∀k,k<zn0->s.z.get k=z0.get k
 row: ∀x∈s.l,zn0<=x.2.1/\x.2.1<s.zn/\s.z.get x.2.1=some (.ay (Uu x.2.2))/\x.2.2≠[]/\x.2.2.length<=j/\ ∀e∈x.2.2,e∈E
 keys:(s.l.map (·.1)).Nodup
 Qi:(s.l.map (·.2.1)).Nodup
 mB: ∀a,mB s.l a=(E.take j).filter fun e=>e.fz1==a
theorem A2: ∀(l:List oN)(i:Nat)(x:oN),ff i (l++[x])=ff i l++[{key:=zv x.1,val:=tb x.2.1 x.2.2.length x.2.2.length,born:=i+l.length}]
 |[],i,x=>rfl
 |(a,k,r)::l,i,x=>by
  simp only[List.cons_append,ff,A2 l (i+1) x,List.length_cons]
  rw[show i+1+l.length=i+(l.length+1) by omega]
theorem EC: ∀(l:List oN)(i j:Nat)(x y:oN),l[i]? =some y->y.1=x.1->de i (zv x.1) (tb x.2.1 x.2.2.length x.2.2.length) (ff j l)=ff j (l.set i x)
 |[],i,j,x,y,h,_=>by simp at h
 |(a,k,r)::l,0,j,x,y,h,hk=>by
  simp only[List.getElem?_cons_zero,Option.some.injEq] at h
  subst h
  rfl
 |(a,k,r)::l,i+1,j,x,y,h,hk=>by
  simp only[List.getElem?_cons_succ] at h
  simp only[ff,de,List.set_cons_succ,EC l i (j+1) x y h hk]
theorem ED: ∀(l:List oN)(i j:Nat)(x:oN),l[i]? =some x->nth (ff j l) i=some {key:=zv x.1,val:=tb x.2.1 x.2.2.length x.2.2.length,born:=j+i}
 |[],i,j,x,h=>by simp at h
 |(a,k,r)::l,0,j,x,h=>by
  simp only[List.getElem?_cons_zero,Option.some.injEq] at h
  subst h;rfl
 |(a,k,r)::l,i+1,j,x,h=>by
  simp only[List.getElem?_cons_succ] at h
  simp only[ff,nth,ED l i (j+1) x h]
  rw[show j+1+i=j+(i+1) by omega]
theorem uJ{σ:Nat->Option Nat}: ∀{a a' b b':List MapEntry},gU σ a=some a'->gU σ b=some b'->gU σ (a++b)=some (a'++b')
 |[],a',b,b',h1,h2=>by simp only[gU,Option.some.injEq] at h1;subst h1;exact h2
 |e::a,a',b,b',h1,h2=>by
  simp only[gU] at h1
  split at h1
  ·rename_i k v q1 q2
   split at h1
   ·rename_i m q3
    cases h1
    simp only[List.cons_append,gU,q1,q2,uJ q3 h2]
   ·cases h1
  ·cases h1
theorem ph{σ:Nat->Option Nat}{k k' v v':Value}(hk:aJ σ k=some k')(hv:aJ σ v=some v'): ∀{es es':List MapEntry} (i:Nat),gU σ es=some es'->gU σ (de i k v es)=some (de i k' v' es')
 |[],es',i,h=>by simp only[gU,Option.some.injEq] at h;subst h;cases i<;>rfl
 |e::es,es',0,h=>by
  simp only[gU] at h
  split at h
  ·rename_i k v q1 q2
   split at h
   ·rename_i m q3
    cases h
    simp only[de,gU,hk,hv,q3]
   ·cases h
  ·cases h
 |e::es,es',i+1,h=>by
  simp only[gU] at h
  split at h
  ·rename_i k v q1 q2
   split at h
   ·rename_i m q3
    cases h
    simp only[de,gU,q1,q2,ph hk hv i q3]
   ·cases h
  ·cases h
theorem ky{σ:bb}{k b c:Nat}{o:aa}(h:b≠k):aj σ [(k,c,o)] (256*b+510)=some (256*b+510):=by
 rw[jt (by unfold cM;omega)]
 have:Nat.beq (256*k+510) (256*b+510)=false:=by
  cases e:Nat.beq (256*k+510) (256*b+510) with
  |false=>rfl
  |true=>have:=Nat.eq_of_beq_eq_true e;omega
 simp only[Cy,this]
theorem LN{σ:bb}{k c:Nat}{o:aa}:aj σ [(k,c,o)] (256*k+510)=some c:=by
 rw[jt (by unfold cM;omega)]
 have:Nat.beq (256*k+510) (256*k+510)=true:=Nat.beq_refl _
 simp only[Cy,this]
theorem fO{σ:bb}{k c n m:Nat}{o:aa}:aJ (aj σ [(k,c,o)]) (tb k n m)=some (bc c n m):=by
 simp only[aJ,LN]
theorem KF{l:List oN}{x:oN}(h:l.find? (fun y=>y.1==x.1)=none)(a:Int):mB (l++[x]) a=if a=x.1 then x.2.2 else mB l a:=by
 unfold mB
 rw[List.find?_append]
 by_cases e:a=x.1
 ·subst e;rw[h,if_pos rfl];simp
 ·rw[if_neg e]
  have:(x.1==a)=false:=by simp;exact fun q=>e q.symm
  simp[List.find?_cons,this]
theorem Fs: ∀{l:List oN} {i:Nat} {x y:oN},(l.map (·.1)).Nodup->l[i]? =some y->y.1=x.1-> ∀a,mB (l.set i x) a=if a=x.1 then x.2.2 else mB l a
 |[],i,x,y,_,h,_,a=>by simp at h
 |b::l,0,x,y,hn,h,hk,a=>by
  simp only[List.getElem?_cons_zero,Option.some.injEq] at h
  subst h
  unfold mB
  simp only[List.set_cons_zero,List.find?_cons]
  by_cases e:a=x.1
  ·subst e;simp
  ·have h1:(x.1==a)=false:=by simp;exact fun q=>e q.symm
   have h2:(b.1==a)=false:=by rw[hk];exact h1
   rw[h1,h2,if_neg e]
 |b::l,i+1,x,y,hn,h,hk,a=>by
  simp only[List.getElem?_cons_succ] at h
  simp only[List.map_cons,List.nodup_cons] at hn
  have ih:=Fs hn.2 h hk a
  have hbx:b.1≠x.1:=fun e=>hn.1 (by rw[e,←hk];exact List.mem_map.2 ⟨y,List.mem_of_getElem? h,rfl⟩)
  unfold mB at ih ⊢
  simp only[List.set_cons_succ,List.find?_cons]
  by_cases e:(b.1==a)=true
  ·have:a=b.1:=by simpa using (beq_iff_eq.1 e).symm
   rw[e,if_neg (by rw[this];exact hbx)]
  ·have e':(b.1==a)=false:=by simpa using e
   rw[e'];exact ih
theorem xb: ∀{l:List Nat} {i v:Nat},l.Nodup->v ∉ l->(l.set i v).Nodup
 |[],_,_,h,_=>by simp
 |a::l,0,v,h,hv=>by
  simp only[List.set_cons_zero,List.nodup_cons] at*
  exact⟨fun q=>hv (List.mem_cons_of_mem _ q),h.2⟩
 |a::l,i+1,v,h,hv=>by
  simp only[List.set_cons_succ,List.nodup_cons] at*
  refine⟨fun q=>?_,xb h.2 fun q=>hv (List.mem_cons_of_mem _ q)⟩
  rcases List.mem_or_eq_of_mem_set q with q|q
  ·exact h.1 q
  ·exact hv (by rw[q];exact List.mem_cons_self ..)
theorem qu{α β:Type}(f:α->β){l:List α}{i:Nat}{x y:α}(h:l[i]? =some y)(hf:f x=f y):(l.set i x).map f=l.map f:=by
 rw[List.map_set]
 apply List.ext_getElem?
 intro j
 rw[List.getElem?_set]
 by_cases e:i=j
 ·subst e
  have hlt:i<l.length:=(List.getElem?_eq_some_iff.1 h).1
  have hg:l[i]=y:=by rw[List.getElem?_eq_getElem hlt] at h;exact Option.some.inj h
  simp[hlt,hg,hf]
 ·simp[e]
section
variable{z:T aa}{zn:Nat}
theorem MY(hz:au z zn)(E:List eH)(hE:E.length<=4096):
 ai prog (ah (ag f262) 0) 2 34 (C8 E.length 0) [(0,oH (bC E) E.length),(1, .map [] 0)] 2 z zn (Al.R (XP z zn E.length (bC E) (Hl z zn E E.length)).l):=by
 refine ax hD (cZ T.leaf) (α:=Nat × o6) 2 34 2 (fun t=>t.1<=E.length/\Hl z zn E t.1 t.2) (fun t=>C8 E.length t.1) (fun t=>[(0,oH (bC E) E.length),(1,F6 t.2.l)]) (fun t=>t.2.z) (fun t=>t.2.zn) (fun t=>E.length - t.1) _ (fun t hI=>?_) (0,⟨[],z,zn⟩) ⟨Nat.zero_le _,⟨hz,rfl,fun _ _=>rfl,fun x hx=>(by cases hx),(by simp),(by simp),fun a=>(by simp[mB])⟩⟩
 obtain⟨j,s⟩:=t
 obtain⟨h1,h2⟩:=hI
 simp only at h1 h2 ⊢
 by_cases hj:j<E.length
 ·obtain⟨e,he⟩:=dh hj
  have hc:decide ((j:Int)<(E.length:Int))=true:=by simp;omega
  have htk:E.take (j+1)=E.take j++[e]:=by rw[List.take_add_one,he];rfl
  have hem:e∈E:=List.mem_of_getElem? he
  have hfr:=h2.bH
  rcases nE s.l e.fz1 0 0 with ⟨i,x,q1,q2,q3,_,q5⟩|⟨q1,q2⟩
  ·rw[Nat.sub_zero] at q5
   obtain⟨k1,k2,k3,k4,k5,k6⟩:=h2.row x q2
   have hx1:x.1=e.fz1:=by simpa using List.find?_some q3
   have hzn: ∀y∈s.l,y.2.1≠s.zn:=fun y hy=>by have:=(h2.row y hy).2.1;omega
   have hkeep:yu (ff 0 s.l) i (zv e.fz1):=⟨_,ED s.l i 0 x q5,by rw[hx1];simp only[aD,LP,Bool.and_self]⟩
   have hcells:bC x.2.2++eH.row e=bC (x.2.2++[e]):=by
    show _=((x.2.2++[e]).map eH.row).flatten
    rw[List.map_append,List.flatten_append];rfl
   have hmap: ∀o:aa,aC (aj [(0,0),(1,1)] [(s.zn,4,o)]) (aa.map (de i (zv e.fz1) (tb s.zn (x.2.2.length+1) (x.2.2.length+1)) (ff 0 s.l)) s.l.length)=some (aa.map (de i (zv e.fz1) (bc 4 (x.2.2.length+1) (x.2.2.length+1)) (ff 0 s.l)) s.l.length):=fun o=>by
    have:=ph (σ:=aj [(0,0),(1,1)] [(s.zn,4,o)]) (k:=zv e.fz1) (k':=zv e.fz1) rfl (fO (n:=x.2.2.length+1) (m:=x.2.2.length+1)) i (tN (L:=s.l) 0 fun y hy=>ky (hzn y hy))
    simp only[aC,this]
   have r1: ∀σ c,aC σ (aa.ay (aR.mk (bC x.2.2++eH.row e) c 3 329 false false 0 true))=some (aa.ay (aR.mk (bC x.2.2++eH.row e) c 3 329 false false 0 true)):=fun σ c=>by
    rw[hcells];exact bX (gy _)
   have hfd:=gY hfr x.2.1
   have hlen:=wW x.2.2
   refine t100 (nb1 s.z s.zn E.length j s.l.length i x.2.1 x.2.2.length (Uu x.2.2) (bC E) e (ff 0 s.l) (an _ _ _ _ _ _ _ _ _) ⟨fun _=>?_,nC1 hc⟩)
   (repeat' first|(with_reducible first|exact rfl|assumption|apply And.intro|exact Il he _|exact hmap _|exact r1 _ _|exact jN _ _|exact(by omega:x.2.2.length+1<=1048576)|exact Nat.le_refl _|exact Nat.lt_succ_self _|exact bF (by omega))|exact Nat.le_succ _)
   refine⟨(j+1,⟨s.l.set i (e.fz1,s.zn,x.2.2++[e]),(s.z.del x.2.1).set s.zn (.ay (Uu (x.2.2++[e]))),s.zn+1⟩),rfl,?_,rfl,?_,rfl,⟨hj,?_⟩,by show E.length - (j+1)<E.length - j;omega⟩
   ·have:=EC s.l i 0 (e.fz1,s.zn,x.2.2++[e]) x q5 hx1
    simp only[List.length_append,List.length_singleton] at this
    simp only[F6,←this,List.length_set]
   ·simp only[cF]
    have:x.2.2.length+1=(x.2.2++[e]).length:=by simp
    simp only[Uu,←hcells,←this]
   ·simp only
    have hil:i<s.l.length:=(List.getElem?_eq_some_iff.1 q5).1
    refine⟨eC hfd (gy _),by show s.zn+1=zn+(j+1);rw[h2.zn];omega,fun k hk=>?_,fun y hy=>?_,?_,?_,fun a=>?_⟩
    ·show((s.z.del x.2.1).set s.zn _).get k=_
     rw[T.aG,if_neg (by have:=h2.zn;omega),T.fq,if_neg (by omega)]
     exact h2.fE k hk
    ·show zn<=y.2.1/\y.2.1<s.zn+1/\((s.z.del x.2.1).set s.zn _).get y.2.1=_/\_
     rcases List.mem_or_eq_of_mem_set hy with hy|rfl
     ·
      obtain⟨m1,m2,m3,m4,m5,m6⟩:=h2.row y hy
      have hne:y.2.1≠x.2.1:=by
       intro hyx
       obtain⟨p,hp⟩:=List.mem_iff_getElem?.1 (by assumption:y∈s.l.set i (e.fz1,s.zn,x.2.2++[e]))
       rw[List.getElem?_set] at hp
       split at hp
       ·rename_i hip
        simp only[hil,if_true,Option.some.injEq] at hp
        rw[←hp] at hyx m2
        simp only at m2;omega
       ·rename_i hip
        have hn:=h2.Qi
        have e1:(s.l.map (·.2.1))[p]? =some y.2.1:=by rw[List.getElem?_map,hp];rfl
        have e2:(s.l.map (·.2.1))[i]? =some x.2.1:=by rw[List.getElem?_map,q5];rfl
        rw[hyx] at e1
        have hlt1:=(List.getElem?_eq_some_iff.1 e1).1
        have hlt2:=(List.getElem?_eq_some_iff.1 e2).1
        exact hip ((List.getElem?_inj hlt2 hn).1 (e2.trans e1.symm))
      refine⟨m1,by omega,?_,m4,by omega,m6⟩
      rw[T.aG,if_neg (by omega),T.fq,if_neg hne]
      exact m3
     ·refine⟨by have:=h2.zn;show zn<=s.zn;omega,Nat.lt_succ_self _,by rw[T.aG,if_pos rfl],by simp,by simp;omega,fun e' he'=>?_⟩
      rcases List.mem_append.1 he' with q|q
      ·exact k6 e' q
      ·simp at q;subst q;exact hem
    ·show((s.l.set i (e.fz1,s.zn,x.2.2++[e])).map (·.1)).Nodup
     rw[qu (·.1) q5 hx1.symm];exact h2.keys
    ·show((s.l.set i (e.fz1,s.zn,x.2.2++[e])).map (·.2.1)).Nodup
     rw[List.map_set]
     refine xb h2.Qi fun q=>?_
     obtain⟨y,y1,y2⟩:=List.mem_map.1 q
     exact hzn y y1 y2
    ·show mB (s.l.set i (e.fz1,s.zn,x.2.2++[e])) a=_
     rw[Fs h2.keys q5 hx1 a,htk,List.filter_append]
     have hax:mB s.l e.fz1=x.2.2:=by unfold mB;rw[q3];rfl
     by_cases ea:a=e.fz1
     ·subst ea
      rw[if_pos rfl,←h2.mB,hax];simp
     ·have:(e.fz1==a)=false:=by simp;exact fun q=>ea q.symm
      rw[if_neg ea,h2.mB a];simp[List.filter_cons,this]
  ·have hzn: ∀y∈s.l,y.2.1≠s.zn:=fun y hy=>by have:=(h2.row y hy).2.1;omega
   have hmap: ∀o:aa,aC (aj [(0,0),(1,1)] [(s.zn,4,o)]) (aa.map (ff 0 s.l++[MapEntry.mk (zv e.fz1) (tb s.zn 1 1) s.l.length]) (s.l.length+1))=some (aa.map (ff 0 s.l++[MapEntry.mk (zv e.fz1) (bc 4 1 1) s.l.length]) (s.l.length+1)):=fun o=>by
    have h1:gU (aj [(0,0),(1,1)] [(s.zn,4,o)]) [MapEntry.mk (zv e.fz1) (tb s.zn 1 1) s.l.length]=some [MapEntry.mk (zv e.fz1) (bc 4 1 1) s.l.length]:=by
     have h0:=fO (σ:=[(0,0),(1,1)]) (k:=s.zn) (c:=4) (n:=1) (m:=1) (o:=o)
     have QM:aJ (aj [(0,0),(1,1)] [(s.zn,4,o)]) (zv e.fz1)=some (zv e.fz1):=rfl
     simp only[gU,h0,QM]
    have:=uJ (tN (L:=s.l) 0 fun y hy=>ky (σ:=[(0,0),(1,1)]) (c:=4) (o:=o) (hzn y hy)) h1
    simp only[aC,this]
   refine t100 (nb0 s.z s.zn E.length j s.l.length (bC E) e (ff 0 s.l) (an _ _ _ _ _ _ _ _ _) ⟨fun _=>?_,nC1 hc⟩)
   (repeat' first|(with_reducible first|exact rfl|assumption|apply And.intro|exact Il he _|exact hmap _|exact jN _ _|exact Nat.le_refl _|exact Nat.lt_succ_self _|exact bF (by omega))|exact Nat.le_succ _)
   refine⟨(j+1,⟨s.l++[(e.fz1,s.zn,[e])],s.z.set s.zn (.ay (Uu [e])),s.zn+1⟩),rfl,?_,rfl,rfl,rfl,⟨hj,?_⟩,by show E.length - (j+1)<E.length - j;omega⟩
   ·simp only[F6,A2,List.length_append,List.length_singleton,Nat.zero_add]
   ·simp only
    refine⟨eC hfr (gy _),by show s.zn+1=zn+(j+1);rw[h2.zn];omega,fun k hk=>?_,fun y hy=>?_,?_,?_,fun a=>?_⟩
    ·show(s.z.set s.zn _).get k=_
     rw[T.aG,if_neg (by have:=h2.zn;omega)]
     exact h2.fE k hk
    ·show zn<=y.2.1/\y.2.1<s.zn+1/\(s.z.set s.zn _).get y.2.1=_/\_
     rcases List.mem_append.1 hy with hy|hy
     ·obtain⟨m1,m2,m3,m4,m5,m6⟩:=h2.row y hy
      refine⟨m1,by omega,?_,m4,by omega,m6⟩
      rw[T.aG,if_neg (by omega)]
      exact m3
     ·simp only[List.mem_singleton] at hy
      subst hy
      refine⟨by have:=h2.zn;show zn<=s.zn;omega,Nat.lt_succ_self _,by rw[T.aG,if_pos rfl],by simp,by simp,fun e' he'=>?_⟩
      simp at he';subst he';exact hem
    ·show((s.l++[(e.fz1,s.zn,[e])]).map (·.1)).Nodup
     rw[List.map_append,List.nodup_append]
     refine⟨h2.keys,by simp,fun a ha b hb=>?_⟩
     simp only[List.map_cons,List.map_nil,List.mem_singleton] at hb
     subst hb
     obtain⟨y,y1,y2⟩:=List.mem_map.1 ha
     intro hab
     have:=List.find?_eq_none.1 q2 y y1
     rw[y2,hab] at this;simp at this
    ·show((s.l++[(e.fz1,s.zn,[e])]).map (·.2.1)).Nodup
     rw[List.map_append,List.nodup_append]
     refine⟨h2.Qi,by simp,fun a ha b hb=>?_⟩
     simp only[List.map_cons,List.map_nil,List.mem_singleton] at hb
     subst hb
     obtain⟨y,y1,y2⟩:=List.mem_map.1 ha
     intro hab
     exact hzn y y1 (y2.trans hab)
    ·show mB (s.l++[(e.fz1,s.zn,[e])]) a=_
     rw[KF q2 a,htk,List.filter_append]
     have hax:mB s.l e.fz1=[]:=by unfold mB;rw[q2];rfl
     by_cases ea:a=e.fz1
     ·subst ea
      rw[if_pos rfl,←h2.mB,hax];simp
     ·have:(e.fz1==a)=false:=by simp;exact fun q=>ea q.symm
      rw[if_neg ea,h2.mB a];simp[List.filter_cons,this]
 ·have hje:j=E.length:=by omega
  have hc:decide ((j:Int)<(E.length:Int))=false:=by simp;omega
  have hfr:=h2.bH
  refine t100 (nb0 s.z s.zn E.length j s.l.length (bC E) ⟨0,0,0⟩ (ff 0 s.l) (an _ _ _ _ _ _ _ _ _) ⟨nC1 hc,fun _=>?_⟩)
  (repeat' first|(with_reducible first|exact rfl|assumption|apply And.intro|exact jN _ _|exact gT _ _ _))
  subst hje
  exact yh (k:=fun _=>dP) s h2 rfl
theorem ZE(hz:au z zn)(E:List eH)(hE:E.length<=4096):
 bq prog z zn 262 [bc 0 E.length E.length,F0] [(0,oH (bC E) E.length)] 1 2 (Hl z zn E E.length) (fun _=>mp 1) (fun s=>[(0,oH (bC E) E.length),(1,F6 s.l)]) (fun s=>s.z) (fun s=>s.zn):=by
 have hK:=MY hz E hE
 refine eM (cZ T.leaf) (fn:=f262) (by kernel_rfl) (by kernel_rfl) hz ⟨by decide,by decide⟩ (fun s hs=>⟨rfl,by show zn<=s.zn;rw[hs.zn];omega,hs.bH⟩) (N:=100) ?_
 refine nb z zn E.length (bC E) (Hl z zn E E.length) _ ?_
 (repeat' first|(with_reducible first|exact rfl|assumption|apply And.intro|exact Hl.bH ‹_›|exact jN _ _|exact gT _ _ _)|exact hK|intro hq)
 all_goals exact q2 _ hq rfl rfl rfl rfl rfl
end
def EE(E:List eH):bU:=fun u v w=> ∃e∈E,e.fz1=(u:Int)/\e.aB=(v:Int)/\e.wt=(w:Int)
abbrev Dm(l:List cQ)(n:Nat):aR:=⟨xE l,n*1,1,3,true,true,0,true⟩
def mH(b n:Nat)(i:Nat):List Value:=(List.range i).map fun j=>tb (b+j) n n
def gI(b n i:Nat):List Value:=mH b n i++List.replicate (n - i) ak
theorem pV(b n i:Nat):(mH b n i).length=i:=by simp[mH]
theorem pU(b n i:Nat):mH b n (i+1)=mH b n i++[tb (b+i) n n]:=by simp[mH,List.range_succ]
theorem JP{b n i:Nat}(h:i<n):(gI b n n)[i]? =some (tb (b+i) n n):=by
 unfold gI mH
 rw[List.getElem?_append_left (by simpa using h),List.getElem?_map,List.getElem?_range h];rfl
theorem NH{b n i:Nat}(h:i<=n):(gI b n i).length=n:=by simp[gI,mH];omega
theorem GN{b n i:Nat}(h:i<n):gI b n i=mH b n i++ak::List.replicate (n - (i+1)) ak:=by
 unfold gI
 obtain⟨m,hm⟩: ∃m,n - i=m+1:=⟨n - i - 1,by omega⟩
 rw[hm,show n - (i+1)=m by omega];rfl
theorem JO{b n i:Nat}:gI b n (i+1)=mH b n i++tb (b+i) n n::List.replicate (n - (i+1)) ak:=by
 unfold gI
 rw[pU,List.append_assoc];rfl
theorem nh{σ:Nat->Option Nat}: ∀{a a' b b':List Value},aT σ a=some a'->aT σ b=some b'->aT σ (a++b)=some (a'++b')
 |[],a',b,b',h1,h2=>by simp only[aT,Option.some.injEq] at h1;subst h1;exact h2
 |v::a,a',b,b',h1,h2=>by
  simp only[aT] at h1
  split at h1
  ·rename_i k q1
   split at h1
   ·rename_i m q3
    cases h1
    simp only[List.cons_append,aT,q1,nh q3 h2]
   ·cases h1
  ·cases h1
theorem qg{σ:Nat->Option Nat}{b n:Nat}: ∀{i:Nat},(∀j,j<i->σ (256*(b+j)+510)=some (256*(b+j)+510))->aT σ (mH b n i)=some (mH b n i)
 |0,_=>rfl
 |i+1,h=>by
  rw[pU]
  refine nh (qg fun j hj=>h j (by omega)) ?_
  have:=h i (Nat.lt_succ_self i)
  simp only[aT,aJ,this]
theorem px(m:Nat):bE (List.replicate m ak)=true:=by
 rw[c8];intro v hv;rw[List.eq_of_mem_replicate hv];rfl
theorem L7{σ:Nat->Option Nat}{b n i:Nat}(h: ∀j,j<i->σ (256*(b+j)+510)=some (256*(b+j)+510)):aT σ (gI b n i)=some (gI b n i):=nh (qg h) (eo (px _))
theorem D6(σ:bb)(k:Nat):sig σ (256*k+510)=some (256*k+510):=jd (by unfold cM;omega)
theorem m9(σ:bb)(b n i c:Nat):aC (aj σ []) (aa.ay (aR.mk (gI b n i) c 1 90 true true 0 true))=some (aa.ay (aR.mk (gI b n i) c 1 90 true true 0 true)):=by
 have:=L7 (σ:=aj σ []) (b:=b) (n:=n) (i:=i) fun j _=>D6 σ _
 simp only[aC,this]
structure Cv(b n:Nat)(L:List oN)(z1:T aa)(i:Nat)(zz:T aa):Prop where
 bH:au zz (b+i)
 fE: ∀k,k<b->zz.get k=z1.get k
 row: ∀j,j<i-> ∃l,ESφ L n j l/\zz.get (b+j)=some (.ay (Dm l n))
structure Ct(z:T aa)(zn n:Nat)(E:bU)(s:eg):Prop where
 bH:au s.z s.zn
 le:zn<=s.zn
 fE: ∀k,k<zn->s.z.get k=z.get k
 row: ∃b,zn<=b/\b+n<=s.zn/\s.cs=gI b n n/\ ∀i,i<n-> ∃l,s.z.get (b+i)=some (.ay (Dm l n))/\l.length=n/\ ∀j,j<n->mF E i j (fB l j).len
section
variable{z:T aa}{zn:Nat}
theorem TA{n:Nat}{E:List eH}(hE:Hp n E){s:o6}(h:Hl z zn E E.length s){zz:T aa}(hzz: ∀k,k<s.zn->zz.get k=s.z.get k)(zm:Nat):Xb zz zm n s.l:=by
 refine⟨fun x hx=>?_,fun x hx=>?_⟩
 ·obtain⟨k1,k2,k3,_⟩:=h.row x hx
  exact⟨_,(hzz _ k2).trans k3,rfl⟩
 ·obtain⟨k1,k2,k3,k4,k5,k6⟩:=h.row x hx
  refine⟨Nat.le_trans k5 hE.len,fun e he=>?_⟩
  obtain⟨m1,m2,m3,m4,m5,m6⟩:=hE.ok e (k6 e he)
  exact⟨m3,m4,m5,m6⟩
theorem Qn{E:List eH}{s:o6}(h:Hl z zn E E.length s):GE s.l=EE E:=by
 funext u v w
 apply propext
 unfold GE EE
 rw[h.mB,List.take_of_length_le (Nat.le_refl _)]
 constructor
 ·rintro⟨e,he,h1,h2⟩
  rw[List.mem_filter] at he
  exact⟨e,he.1,by simpa using he.2,h1,h2⟩
 ·rintro⟨e,he,h0,h1,h2⟩
  exact⟨e,List.mem_filter.2 ⟨he,by simpa using h0⟩,h1,h2⟩
theorem Nb(n:Nat)(hn:n<=64)(E:List eH)(hE:Hp n E)(s:o6)(hs:Hl z zn E E.length s):
 ai prog (ah (ag f253) 0) 3 35 (Bm n 0) [(1,F6 s.l),(2,ux (rep n [ak]) n)] 3 s.z s.zn (Al.R (Ug n s.l.length (ff 0 s.l) (rep n [ak]) s.z s.zn (fun r=> ∃zz,Cv s.zn n s.l s.z n zz/\r=⟨gI s.zn n n,zz,s.zn+n⟩)).l):=by
 have e0:rep n [ak]=gI s.zn n 0:=by rw[nZ n [ak] rfl];simp[gI,mH]
 rw[e0]
 refine ax hD (cZ T.leaf) (α:=Nat × T aa) 3 35 3 (fun t=>t.1<=n/\Cv s.zn n s.l s.z t.1 t.2) (fun t=>Bm n t.1) (fun t=>[(1,F6 s.l),(2,ux (gI s.zn n t.1) n)]) (fun t=>t.2) (fun t=>s.zn+t.1) (fun t=>n - t.1) _ (fun t hI=>?_) (0,s.z) ⟨Nat.zero_le _,hs.bH,fun _ _=>rfl,fun j hj=>by omega⟩
 obtain⟨i,zz⟩:=t
 obtain⟨h1,h2⟩:=hI
 simp only at h1 h2 ⊢
 have hfr:=h2.bH
 by_cases hi:i<n
 ·have hc:decide ((i:Int)<(n:Int))=true:=by simp;omega
  have hL:=TA hE hs (zz:=zz) h2.fE (s.zn+i)
  have hlab:=Kk hfr s.l n i hL hn hi
  have hlen: ∀l,ESφ s.l n i l->A1 zz (s.zn+i) 263 [bc 0 n n] [(0,kI (aY l) n)] 1 2 (bc 1 n n) [(1,Gs (wJ (aY l)) n)]:=fun l hl=>Rn hfr l n hl.1 (by omega)
  have o1:=nk (cs:=gI s.zn n i) (i:=i) (by rw[NH h1];exact hi) (bc 4 n n)
  have e1:(gI s.zn n i).set i (bc 4 n n)=mH s.zn n i++bc 4 n n::List.replicate (n - (i+1)) ak:=by
   rw[GN hi,List.set_append_right _ _ (by rw[pV];exact Nat.le_refl _),pV,Nat.sub_self,List.set_cons_zero]
  rw[e1] at o1
  have l1:(mH s.zn n i++bc 4 n n::List.replicate (n - (i+1)) ak).length<=n*1:=by simp[pV];omega
  have r1: ∀(σ:Nat->Option Nat) l c,aC σ (aa.ay (aR.mk (wJ (aY l)) c 1 3 true true 0 true))=some (aa.ay (aR.mk (wJ (aY l)) c 1 3 true true 0 true)):=fun σ l c=>by
   rw[ou];exact nc (lX (·.len) l) c
  have r2: ∀o,aC (aj [(1,1),(2,2)] [(s.zn+i,4,o)]) (aa.map (ff 0 s.l) s.l.length)=some (aa.map (ff 0 s.l) s.l.length):=fun o=>Ij (fun x hx=>ky (by have:=(hs.row x hx).2.1;omega)) _
  have r3: ∀o c,aC (aj [(1,1),(2,2)] [(s.zn+i,4,o)]) (aa.ay (aR.mk (mH s.zn n i++tb (s.zn+i) n n::List.replicate (n - (i+1)) ak) c 1 90 true true 0 true))=some (aa.ay (aR.mk (mH s.zn n i++bc 4 n n::List.replicate (n - (i+1)) ak) c 1 90 true true 0 true)):=fun o c=>by
   have q1:=qg (σ:=aj [(1,1),(2,2)] [(s.zn+i,4,o)]) (b:=s.zn) (n:=n) (i:=i) fun j hj=>ky (by omega)
   have q2:aT (aj [(1,1),(2,2)] [(s.zn+i,4,o)]) (tb (s.zn+i) n n::List.replicate (n - (i+1)) ak)=some (bc 4 n n::List.replicate (n - (i+1)) ak):=by
    have:=fO (σ:=[(1,1),(2,2)]) (k:=s.zn+i) (c:=4) (n:=n) (m:=n) (o:=o)
    simp only[aT,this,eo (px _)]
   simp only[aC,nh q1 q2]
  have nx: ∀l,ESφ s.l n i l->an (fun t:Nat × T aa=>t.1<=n/\Cv s.zn n s.l s.z t.1 t.2) (fun t=>Bm n t.1) (fun t=>[(1,F6 s.l),(2,ux (gI s.zn n t.1) n)]) 3 (fun t=>t.2) (fun t=>s.zn+t.1) (fun t=>n - t.1) (Al.R (Ug n s.l.length (ff 0 s.l) (gI s.zn n 0) s.z s.zn (fun r=> ∃zz,Cv s.zn n s.l s.z n zz/\r=⟨gI s.zn n n,zz,s.zn+n⟩)).l) (i,zz) .normal (Bm n (i+1)) [(1,F6 s.l),(2,ux (mH s.zn n i++tb (s.zn+i) n n::List.replicate (n - (i+1)) ak) n)] 3 (cF zz [(s.zn+i,4, .ay (aR.mk (wJ (aY l)) (n*1) 1 3 true true 0 true))]) (s.zn+i+1):=fun l hl=>by
   refine⟨(i+1,zz.set (s.zn+i) (.ay (Dm l n))),rfl,by simp only[JO],rfl,by simp only[cF,ou],by simp only;omega,⟨hi,?_⟩,by show n - (i+1)<n - i;omega⟩
   show Cv s.zn n s.l s.z (i+1) (zz.set (s.zn+i) (.ay (Dm l n)))
   refine⟨?_,fun k hk=>?_,fun j hj=>?_⟩
   ·have:=eC hfr (k:=Dm l n) (lX (·.len) l)
    exact this
   ·rw[T.aG,if_neg (by omega)];exact h2.fE k hk
   ·by_cases e:j=i
    ·subst e;exact⟨l,hl,by rw[T.aG,if_pos rfl]⟩
    ·obtain⟨l',k1,k2⟩:=h2.row j (by omega)
     exact⟨l',k1,by rw[T.aG,if_neg (by omega)];exact k2⟩
  refine t100 (al0 zz (s.zn+i) n i s.l.length (ff 0 s.l) (mH s.zn n i) (List.replicate (n - (i+1)) ak) (gI s.zn n i) wJ (ESφ s.l n i) (an _ _ _ _ _ _ _ _ _) ⟨fun _=>?_,nC1 hc⟩)
  (repeat' first|(with_reducible first|exact rfl|assumption|apply And.intro|exact hlen _ ‹_›|exact r1 _ _ _|exact r2 _|exact r3 _ _|exact yL _ _ _|exact jM _ _|exact Nat.le_refl _|exact Nat.lt_succ_self _|exact bF (by omega))|exact Nat.le_succ _|intro hq)
  all_goals exact nx _ (by with_reducible assumption)
 ·have hie:i=n:=by omega
  subst hie
  have hc:decide ((i:Int)<(i:Int))=false:=by simp
  refine t100 (al0 zz (s.zn+i) i i s.l.length (ff 0 s.l) [] [] (gI s.zn i i) wJ (fun _=>False) (an _ _ _ _ _ _ _ _ _) ⟨nC1 hc,fun _=>?_⟩)
  (repeat' first|(with_reducible first|exact rfl|assumption|apply And.intro|exact m9 _ _ _ _ _))
  exact yh (k:=fun _=>dP) ⟨gI s.zn i i,zz,s.zn+i⟩ ⟨zz,h2,rfl⟩ rfl
theorem UW(hz:au z zn)(n:Nat)(hn:n<=64)(E:List eH)(hE:Hp n E):
 bq prog z zn 253 [iv n,bc 0 E.length E.length] [(0,oH (bC E) E.length)] 1 2 (Ct z zn n (EE E)) (fun _=> .tuple ⟨[bc 1 n n,I 0]⟩) (fun s=>[(1,ux s.cs n)]) (fun s=>s.z) (fun s=>s.zn):=by
 have hck:=Kp hz n hn E hE
 have hnb:=ZE hz E hE.len
 have hal: ∀s,Hl z zn E E.length s->_:=fun s hs=>Nb n hn E hE s hs
 have hp:bE (rep n [ak])=true:=by rw[nZ n [ak] rfl];exact px n
 have r0: ∀σ c,aC σ (aa.ay (aR.mk (rep n [ak]) c 1 90 true true 0 true))=some (aa.ay (aR.mk (rep n [ak]) c 1 90 true true 0 true)):=fun σ c=>bX hp
 have fin: ∀s,Hl z zn E E.length s-> ∀r:eg,(∃zz,Cv s.zn n s.l s.z n zz/\r=⟨gI s.zn n n,zz,s.zn+n⟩)->Ct z zn n (EE E) r:=fun s hs r ⟨zz,h,e⟩=>by
  subst e
  have hle:=hs.zn
  refine⟨h.bH,by show zn<=s.zn+n;omega,fun k hk=>(h.fE k (by omega)).trans (hs.fE k hk),s.zn,by omega,Nat.le_refl _,rfl,fun i hi=>?_⟩
  obtain⟨l,hl,hg⟩:=h.row i hi
  refine⟨l,hg,hl.1,fun j hj=>?_⟩
  rw[←Qn hs];exact hl.2 j hj
 have rcs: ∀σ s,Hl z zn E E.length s-> ∀r:eg,(∃zz,Cv s.zn n s.l s.z n zz/\r=⟨gI s.zn n n,zz,s.zn+n⟩)-> ∀c,aC (aj σ []) (aa.ay (aR.mk r.cs c 1 90 true true 0 true))=some (aa.ay (aR.mk r.cs c 1 90 true true 0 true)):=fun σ s hs r ⟨zz,h,e⟩ c=>by
  subst e;exact m9 _ _ _ _ _
 refine eM (cZ T.leaf) (fn:=f253) (by kernel_rfl) (by kernel_rfl) hz ⟨by decide,by decide⟩ (fun s hs=>⟨rfl,hs.le,hs.bH⟩) (N:=100) ?_
 refine al z zn n E.length (bC E) (rep n [ak]) (Hl z zn E E.length) (fun s r=> ∃zz,Cv s.zn n s.l s.z n zz/\r=⟨gI s.zn n n,zz,s.zn+n⟩) _ ?_
 (repeat' first|(with_reducible first|exact rfl|assumption|apply And.intro|exact Hl.bH ‹_›|exact Ct.bH (fin _ ‹_› _ ‹_›)|exact rcs _ _ ‹_› _ ‹_› _|exact r0 _ _|exact jN _ _|exact yL _ _ _|exact gT _ _ _|exact(by omega:n<=1048576))|exact hal _ (by with_reducible assumption)|intro hq)
 all_goals exact q2 _ (fin _ (by with_reducible assumption) _ hq) rfl rfl rfl rfl rfl
end
structure nS(n:Nat)(l:List ab):Prop where
 ok: ∀p∈l,0<=p.fz1/\p.fz1<n/\0<=p.aB/\p.aB<n/\p.fz1≠p.aB/\1<=p.aI/\p.aI<=14400
def fF(b:Bool)(p:ab):Bool:= !b||p.sf
structure KY(n:Nat)(l:List ab)(b:Bool)(j:Nat)(B:List gj):Prop where
 keys:(B.map fun x=>(x.1,x.2.1)).Nodup
 sub: ∀x∈B,∃p∈l.take j,fF b p=true/\p.fz1=x.1/\p.aB=x.2.1/\p.aI=x.2.2
 all: ∀p∈l.take j,fF b p=true-> ∃x∈B,x.1=p.fz1/\x.2.1=p.aB/\x.2.2<=p.aI
theorem qE(B:List gj)(f t:Int): ∀i j,(∃p x,aE prog 302 (.agg ⟨[zv f,zv t,F0]⟩) (gK j B) i=some (some (p,zv x.2.2))/\x∈B/\x.1=f/\x.2.1=t/\i<=p/\B[p - i]? =some x)\/(aE prog 302 (.agg ⟨[zv f,zv t,F0]⟩) (gK j B) i=some none/\ ∀x∈B,¬(x.1=f/\x.2.1=t)):=by
 induction B with
 |nil=>intro i j;exact .inr ⟨rfl,fun x hx=>by cases hx⟩
 |cons y l ih=>
  intro i j
  simp only[gK,aE,show aD (Fk y)=true from rfl,JG]
  by_cases h:f=y.1/\t=y.2.1
  ·obtain⟨h1,h2⟩:=h
   refine .inl ⟨i,y,by simp[h1,h2],List.mem_cons_self ..,h1.symm,h2.symm,Nat.le_refl _,by simp⟩
  ·have hd:(decide (f=y.1) && (decide (t=y.2.1) && (false==false)))=false:=by
    by_cases h1:f=y.1
    ·have h2: ¬t=y.2.1:=fun e=>h ⟨h1,e⟩
     simp[h2]
    ·simp[h1]
   rw[hd]
   rcases ih (i+1) (j+1) with ⟨p,x,q1,q2,q3,q4,q5,q6⟩|⟨q1,q2⟩
   ·refine .inl ⟨p,x,q1,List.mem_cons_of_mem _ q2,q3,q4,by omega,?_⟩
    rw[show p - i=(p - (i+1))+1 by omega,List.getElem?_cons_succ];exact q6
   ·refine .inr ⟨q1,fun x hx=>?_⟩
    rcases List.mem_cons.1 hx with rfl|hx
    ·exact fun⟨e1,e2⟩=>h ⟨e1.symm,e2.symm⟩
    ·exact q2 x hx
theorem UX(B:List gj)(f t:Int):aE prog 302 (.agg ⟨[zv f,zv t,F0]⟩) (gK 0 B) 0≠none:=by
 rcases qE B f t 0 0 with ⟨p,x,q,_⟩|⟨q,_⟩<;>rw[q]<;>simp
theorem UY(B:List gj)(f t:Int)(p:Nat × Value)(h:aE prog 302 (.agg ⟨[zv f,zv t,F0]⟩) (gK 0 B) 0=some (some p)): ∃x:Nat × Int,p=(x.1,zv x.2):=by
 rcases qE B f t 0 0 with ⟨q,x,e,_⟩|⟨e,_⟩
 ·rw[e] at h;cases h;exact⟨(q,x.2.2),rfl⟩
 ·rw[e] at h;cases h
theorem DK{B:List gj}{f t:Int}{y:Nat × Int}(h:aE prog 302 (.agg ⟨[zv f,zv t,F0]⟩) (gK 0 B) 0=some (some (y.1,zv y.2))):B[y.1]? =some (f,t,y.2):=by
 rcases qE B f t 0 0 with ⟨q,x,e,h1,h2,h3,_,h5⟩|⟨e,_⟩
 ·rw[e] at h
  simp only[Option.some.injEq,Prod.mk.injEq,Value.int.injEq,true_and] at h
  rw[Nat.sub_zero] at h5
  rw[←h.1,h5,←h.2,←h2,←h3]
 ·rw[e] at h;cases h
theorem B7: ∀(l:List gj)(i:Nat)(x:gj),gK i (l++[x])=gK i l++[{key:=Fk x,val:=zv x.2.2,born:=i+l.length}]
 |[],i,x=>rfl
 |a::l,i,x=>by
  simp only[List.cons_append,gK,B7 l (i+1) x,List.length_cons]
  rw[show i+1+l.length=i+(l.length+1) by omega]
theorem zE: ∀(l:List gj)(i j:Nat)(x y:gj),l[i]? =some y->de i (Fk x) (zv x.2.2) (gK j l)=gK j (l.set i x)
 |[],i,j,x,y,h=>by simp at h
 |a::l,0,j,x,y,h=>rfl
 |a::l,i+1,j,x,y,h=>by
  simp only[List.getElem?_cons_succ] at h
  simp only[gK,de,List.set_cons_succ,zE l i (j+1) x y h]
theorem Fl: ∀(l:List gj)(i j:Nat)(x:gj),l[i]? =some x->nth (gK j l) i=some {key:=Fk x,val:=zv x.2.2,born:=j+i}
 |[],i,j,x,h=>by simp at h
 |a::l,0,j,x,h=>by
  simp only[List.getElem?_cons_zero,Option.some.injEq] at h
  subst h;rfl
 |a::l,i+1,j,x,h=>by
  simp only[List.getElem?_cons_succ] at h
  simp only[gK,nth,Fl l i (j+1) x h]
  rw[show j+1+i=j+(i+1) by omega]
theorem Fm: ∀(l:List gj)(j:Nat),(gK j l).length=l.length
 |[],_=>rfl
 |a::l,j=>by simp[gK,Fm l (j+1)]
theorem zF: ∀{l:List gj} {j:Nat} {e:MapEntry},e∈gK j l-> ∃i x,l[i]? =some x/\e={key:=Fk x,val:=zv x.2.2,born:=j+i}
 |[],_,_,h=>by simp[gK] at h
 |a::l,j,e,h=>by
  rcases List.mem_cons.1 h with rfl|h
  ·exact⟨0,a,rfl,rfl⟩
  ·obtain⟨i,x,h1,h2⟩:=zF h
   exact⟨i+1,x,h1,by rw[h2,show j+1+i=j+(i+1) by omega]⟩
theorem Rw{l:List gj}{j i:Nat}{x:gj}(h:l[i]? =some x):{key:=Fk x,val:=zv x.2.2,born:=j+i}∈gK j l:=by
 induction l generalizing j i with
 |nil=>simp at h
 |cons a l ih=>
  cases i with
  |zero=>simp at h;subst h;exact List.mem_cons_self ..
  |succ i=>
   simp only[List.getElem?_cons_succ] at h
   have:=ih (j:=j+1) h
   rw[show j+1+i=j+(i+1) by omega] at this
   exact List.mem_cons_of_mem _ this
theorem sW: ∀{l:List gj} {j i:Nat} {x:gj},l[i]? =some x->fI (j+i) (gK j l)=some {key:=Fk x,val:=zv x.2.2,born:=j+i}
 |[],j,i,x,h=>by simp at h
 |a::l,j,0,x,h=>by
  simp only[List.getElem?_cons_zero,Option.some.injEq] at h
  subst h
  have:Nat.beq j (j+0)=true:=Nat.beq_refl _
  simp only[gK,fI,this];rfl
 |a::l,j,i+1,x,h=>by
  simp only[List.getElem?_cons_succ] at h
  have:Nat.beq j (j+(i+1))=false:=by
   cases e:Nat.beq j (j+(i+1)) with
   |false=>rfl
   |true=>have:=Nat.eq_of_beq_eq_true e;omega
  have ih:=sW (j:=j+1) h
  rw[show j+1+i=j+(i+1) by omega] at ih
  simp only[gK,fI,this,ih]
theorem tP{σ:Nat->Option Nat}: ∀{l:List gj} (j:Nat),gU σ (gK j l)=some (gK j l)
 |[],_=>rfl
 |x::l,j=>by
  have h1:aJ σ (Fk x)=some (Fk x):=rfl
  have h2:aJ σ (zv x.2.2)=some (zv x.2.2):=rfl
  simp only[gK,gU,h1,h2,tP (l:=l) (j+1)]
theorem yM{σ:Nat->Option Nat}(l:List gj)(c:Nat):aC σ (aa.map (gK 0 l) c)=some (aa.map (gK 0 l) c):=by
 simp only[aC,tP 0]
theorem L8{σ:Nat->Option Nat}(l:List gj)(i:Nat)(f t v:Int)(c:Nat):aC σ (aa.map (de i (.agg ⟨[zv f,zv t,F0]⟩) (zv v) (gK 0 l)) c)=some (aa.map (de i (.agg ⟨[zv f,zv t,F0]⟩) (zv v) (gK 0 l)) c):=by
 have:=ph (σ:=σ) (k:= .agg ⟨[zv f,zv t,F0]⟩) (k':= .agg ⟨[zv f,zv t,F0]⟩) (v:=zv v) (v':=zv v) rfl rfl i (tP (l:=l) 0)
 simp only[aC,this]
theorem L9{σ:Nat->Option Nat}(l:List gj)(f t v:Int)(b c:Nat):aC σ (aa.map (gK 0 l++[MapEntry.mk (.agg ⟨[zv f,zv t,F0]⟩) (zv v) b]) c)=some (aa.map (gK 0 l++[MapEntry.mk (.agg ⟨[zv f,zv t,F0]⟩) (zv v) b]) c):=by
 have h1:aJ σ (.agg ⟨[zv f,zv t,F0]⟩)=some (.agg ⟨[zv f,zv t,F0]⟩):=rfl
 have h2:aJ σ (zv v)=some (zv v):=rfl
 have:=uJ (tP (σ:=σ) (l:=l) 0) (b:=[MapEntry.mk (.agg ⟨[zv f,zv t,F0]⟩) (zv v) b]) (b':=[MapEntry.mk (.agg ⟨[zv f,zv t,F0]⟩) (zv v) b]) (by simp only[gU,h1,h2])
 simp only[aC,this]
theorem Nj{B:List gj}{i:Nat}{f t v:Int}(h:B[i]? =some (f,t,v)):yu (gK 0 B) i (.agg ⟨[zv f,zv t,F0]⟩):=by
 refine⟨_,Fl B i 0 _ h,?_⟩
 show(aD (Fk (f,t,v)) && Instr.sameBits 10000 (Fk (f,t,v)) (.agg ⟨[zv f,zv t,F0]⟩))=true
 simp[aD,bE,Instr.sameBits]
theorem Fj{n:Nat}{l:List ab}{b:Bool}{j:Nat}{B:List gj}(h:KY n l b j B){x:ab}(hx:l[j]? =some x)(hs:fF b x=true-> ∃y∈B,y.1=x.fz1/\y.2.1=x.aB/\y.2.2<=x.aI):KY n l b (j+1) B:=by
 have htk:l.take (j+1)=l.take j++[x]:=by rw[List.take_add_one,hx];rfl
 refine⟨h.keys,fun y hy=>?_,fun p hp hu=>?_⟩
 ·obtain⟨p,q1,q2⟩:=h.sub y hy
  exact⟨p,by rw[htk];exact List.mem_append_left _ q1,q2⟩
 ·rw[htk] at hp
  rcases List.mem_append.1 hp with q|q
  ·exact h.all p q hu
  ·simp at q;subst q;exact hs hu
theorem Rv{n:Nat}{l:List ab}{b:Bool}{j:Nat}{B:List gj}(h:KY n l b j B){x:ab}(hx:l[j]? =some x)(hu:fF b x=true)(hn: ∀y∈B,¬(y.1=x.fz1/\y.2.1=x.aB)):KY n l b (j+1) (B++[(x.fz1,x.aB,x.aI)]):=by
 have htk:l.take (j+1)=l.take j++[x]:=by rw[List.take_add_one,hx];rfl
 refine⟨?_,fun y hy=>?_,fun p hp hu'=>?_⟩
 ·rw[List.map_append,List.nodup_append]
  refine⟨h.keys,by simp,fun a ha c hc=>?_⟩
  simp only[List.map_cons,List.map_nil,List.mem_singleton] at hc
  subst hc
  obtain⟨y,y1,y2⟩:=List.mem_map.1 ha
  intro e
  rw[←y2] at e
  simp only[Prod.mk.injEq] at e
  exact hn y y1 e
 ·rcases List.mem_append.1 hy with q|q
  ·obtain⟨p,q1,q2⟩:=h.sub y q
   exact⟨p,by rw[htk];exact List.mem_append_left _ q1,q2⟩
  ·simp at q;subst q
   exact⟨x,by rw[htk];simp,hu,rfl,rfl,rfl⟩
 ·rw[htk] at hp
  rcases List.mem_append.1 hp with q|q
  ·obtain⟨y,y1,y2⟩:=h.all p q hu'
   exact⟨y,List.mem_append_left _ y1,y2⟩
  ·simp at q;subst q
   exact⟨_,List.mem_append_right _ (List.mem_singleton.2 rfl),rfl,rfl,Int.le_refl _⟩
theorem N5{n:Nat}{l:List ab}{b:Bool}{j:Nat}{B:List gj}(h:KY n l b j B){x:ab}(hx:l[j]? =some x)(hu:fF b x=true){i:Nat}{v:Int}(hi:B[i]? =some (x.fz1,x.aB,v))(hv:x.aI<v):KY n l b (j+1) (B.set i (x.fz1,x.aB,x.aI)):=by
 have htk:l.take (j+1)=l.take j++[x]:=by rw[List.take_add_one,hx];rfl
 have hil:i<B.length:=(List.getElem?_eq_some_iff.1 hi).1
 have pB:(x.fz1,x.aB,x.aI)∈B.set i (x.fz1,x.aB,x.aI):=List.mem_set hil _
 refine⟨?_,fun y hy=>?_,fun p hp hu'=>?_⟩
 ·have e:(B.set i (x.fz1,x.aB,x.aI)).map (fun x=>(x.1,x.2.1))=B.map fun x=>(x.1,x.2.1):=qu (fun x:gj=>(x.1,x.2.1)) hi rfl
  exact e ▸ h.keys
 ·rcases List.mem_or_eq_of_mem_set hy with q|rfl
  ·obtain⟨p,q1,q2⟩:=h.sub y q
   exact⟨p,by rw[htk];exact List.mem_append_left _ q1,q2⟩
  ·exact⟨x,by rw[htk];simp,hu,rfl,rfl,rfl⟩
 ·rw[htk] at hp
  rcases List.mem_append.1 hp with q|q
  ·obtain⟨y,y1,y2,y3,y4⟩:=h.all p q hu'
   obtain⟨k,hk⟩:=List.mem_iff_getElem?.1 y1
   by_cases e:i=k
   ·subst e
    rw[hi] at hk
    cases hk
    exact⟨_,pB,y2,y3,by simp only at y4 ⊢;omega⟩
   ·exact⟨y,List.mem_iff_getElem?.2 ⟨k,by rw[List.getElem?_set,if_neg e];exact hk⟩,y2,y3,y4⟩
  ·simp at q;subst q
   exact⟨_,pB,rfl,rfl,Int.le_refl _⟩
theorem Ky{n:Nat}(hn:n<=64){l:List ab}(hl:nS n l){b:Bool}{j:Nat}{B:List gj}(h:KY n l b j B):B.length<=4096:=by
 have hr: ∀x∈B,0<=x.1/\x.1<64/\0<=x.2.1/\x.2.1<64:=fun x hx=>by
  obtain⟨p,q1,_,q2,q3,_⟩:=h.sub x hx
  obtain⟨k1,k2,k3,k4,_⟩:=hl.ok p (List.mem_of_mem_take q1)
  omega
 have:(B.map fun x=>x.1.toNat*64+x.2.1.toNat).Nodup:=by
  have hk:=h.keys
  rw[List.nodup_iff_pairwise_ne] at hk ⊢
  rw[List.pairwise_map] at hk ⊢
  refine hk.imp_of_mem fun {x y} hx hy hxy e=>hxy ?_
  obtain⟨a1,a2,a3,a4⟩:=hr x hx
  obtain⟨b1,b2,b3,b4⟩:=hr y hy
  rw[Prod.mk.injEq]
  omega
 have:=qp 4096 _ this fun v hv=>by
  obtain⟨x,hx,rfl⟩:=List.mem_map.1 hv
  have:=hr x hx
  omega
 simpa using this
structure Tb(n:Nat)(l:List ab)(b:Bool)(E:List eH):Prop where
 ok:Hp n E
 sub: ∀e∈E,∃p∈l,fF b p=true/\p.fz1=e.fz1/\p.aB=e.aB/\p.aI=e.wt
 all: ∀p∈l,fF b p=true-> ∃e∈E,e.fz1=p.fz1/\e.aB=p.aB/\e.wt<=p.aI
abbrev tB(x:gj):eH:=⟨x.1,x.2.1,x.2.2⟩
def tj(B:List gj)(E:List eH):Prop:=E.length=B.length/\ ∀e,e∈E↔ ∃x∈B,e=tB x
theorem Kz{n:Nat}(hn:n<=64){l:List ab}(hl:nS n l){b:Bool}{B:List gj}(h:KY n l b l.length B){E:List eH}(hE:tj B E):Tb n l b E:=by
 have htk:l.take l.length=l:=List.take_of_length_le (Nat.le_refl _)
 have h1:=h.sub
 have h2:=h.all
 rw[htk] at h1 h2
 have sub: ∀e∈E,∃p∈l,fF b p=true/\p.fz1=e.fz1/\p.aB=e.aB/\p.aI=e.wt:=fun e he=>by
  obtain⟨x,hx,rfl⟩:=(hE.2 e).1 he
  exact h1 x hx
 refine⟨⟨by rw[hE.1];exact Ky hn hl h,fun e he=>?_⟩,sub,fun p hp hu=>?_⟩
 ·obtain⟨p,q1,_,q2,q3,q4⟩:=sub e he
  obtain⟨k1,k2,k3,k4,_,k6,k7⟩:=hl.ok p q1
  omega
 ·obtain⟨x,x1,x2⟩:=h2 p hp hu
  exact⟨_,(hE.2 _).2 ⟨x,x1,rfl⟩,x2⟩
noncomputable def nM(b:Bool)(B:List gj)(x:ab):List gj:=if fF b x=true then (match aE prog 302 (.agg ⟨[zv x.fz1,zv x.aB,F0]⟩) (gK 0 B) 0 with
 |some (some (i, .int .i64 u))=>if x.aI<u then B.set i (x.fz1,x.aB,x.aI) else B
 |_=>B++[(x.fz1,x.aB,x.aI)]) else B
noncomputable def mu(b:Bool)(l:List ab)(j:Nat):List gj:=(l.take j).foldl (nM b) []
theorem B8{b:Bool}{l:List ab}{j:Nat}{x:ab}(hx:l[j]? =some x):mu b l (j+1)=nM b (mu b l j) x:=by
 unfold mu
 rw[List.take_add_one,hx,List.foldl_append];rfl
theorem s9{b:Bool}{B:List gj}{x:ab}(h:fF b x=false):nM b B x=B:=by
 unfold nM;rw[h];simp
theorem pK{b:Bool}{B:List gj}{x:ab}(h:fF b x=true){i:Nat}{v:Int}(hf:aE prog 302 (.agg ⟨[zv x.fz1,zv x.aB,F0]⟩) (gK 0 B) 0=some (some (i,zv v))):nM b B x=if x.aI<v then B.set i (x.fz1,x.aB,x.aI) else B:=by
 unfold nM;rw[if_pos h,hf]
theorem vR{b:Bool}{B:List gj}{x:ab}(h:fF b x=true)(hf:aE prog 302 (.agg ⟨[zv x.fz1,zv x.aB,F0]⟩) (gK 0 B) 0=some none):nM b B x=B++[(x.fz1,x.aB,x.aI)]:=by
 unfold nM;rw[if_pos h,hf]
theorem yc(B:List gj)(f t v:Int):gK 0 B++[MapEntry.mk (.agg ⟨[zv f,zv t,F0]⟩) (zv v) B.length]=gK 0 (B++[(f,t,v)]):=by
 rw[B7,Nat.zero_add]
section
variable{z:T aa}{zn:Nat}
theorem Ja(hz:au z zn)(n:Nat)(hn:n<=64)(l:List ab)(hl:nS n l)(hll:l.length<=10000)(cp:Nat)(hL:bM z 4 (l.map ab.row))(b:Bool):
 KY n l b l.length (mu b l l.length)/\ai prog (ah (ag f219) 0) 1 81 (Bj l.length cp n b 0) [(0, .map [] 0)] 1 z zn (Al.R (T9 z zn l.length cp n b (mu b l l.length)).l):=by
 have inv: ∀j,j<=l.length->KY n l b j (mu b l j):=by
  intro j
  induction j with
  |zero=>intro _;exact⟨by simp[mu],fun x hx=>(by simp[mu] at hx),fun p hp=>(by simp at hp)⟩
  |succ j ih=>
   intro hj
   obtain⟨x,hx⟩:=dh (by omega:j<l.length)
   have h:=ih (by omega)
   rw[B8 hx]
   cases hu:fF b x with
   |false=>rw[s9 hu];exact Fj h hx fun q=>by rw[hu] at q;cases q
   |true=>
    rcases qE (mu b l j) x.fz1 x.aB 0 0 with ⟨p,y,q1,q2,q3,q4,_,q6⟩|⟨q1,q2⟩
    ·rw[pK hu q1]
     rw[Nat.sub_zero] at q6
     split
     ·rename_i hlt
      exact N5 h hx hu (i:=p) (v:=y.2.2) (by rw[q6,←q3,←q4]) hlt
     ·rename_i hlt
      exact Fj h hx fun _=>⟨y,q2,q3,q4,by omega⟩
    ·rw[vR hu q1];exact Rv h hx hu q2
 refine⟨inv _ (Nat.le_refl _),?_⟩
 refine ax hD (cZ T.leaf) (α:=Nat) 1 81 1 (fun j=>j<=l.length) (fun j=>Bj l.length cp n b j) (fun j=>[(0,UZ (mu b l j))]) (fun _=>z) (fun _=>zn) (fun j=>l.length - j) _ (fun j hI=>?_) 0 (Nat.zero_le _)
 by_cases hj:j<l.length
 ·obtain⟨x,hx⟩:=dh hj
  obtain⟨el,hel⟩:=hL.ay (i:=j) (by simp;omega)
  have hrow:aq prog (bg el (l.map ab.row).flatten) 141 (0+j*4)=some (.agg ⟨x.row⟩):=bD (r:=x.row) (sz:=4) underlying141 rfl rfl (aM (row:=ab.row) (sz:=4) l fun _=>rfl) (by rw[List.getElem?_map,hx];rfl)
  have hc:decide ((j:Int)<(l.length:Int))=true:=by simp;omega
  have nx: ∀B',B'=mu b l (j+1)-> ∀es c,es=gK 0 B'->c=B'.length->an (fun j=>j<=l.length) (fun j=>Bj l.length cp n b j) (fun j=>[(0,UZ (mu b l j))]) 1 (fun _=>z) (fun _=>zn) (fun j=>l.length - j) (Al.R (T9 z zn l.length cp n b (mu b l l.length)).l) j .normal (Bj l.length cp n b (j+1)) [(0, .map es c)] 1 z zn:=fun B' h es c h1 h2=>by
   subst h h1 h2
   exact⟨j+1,rfl,rfl,rfl,rfl,rfl,hj,by show l.length - (j+1)<l.length - j;omega⟩
  have hsucc:=B8 (b:=b) hx
  have skip:fF b x=false->mu b l j=mu b l (j+1):=fun h=>by rw[hsucc,s9 h]
  have less:fF b x=true-> ∀y:Nat × Int,aE prog 302 (.agg ⟨[zv x.fz1,zv x.aB,F0]⟩) (gK 0 (mu b l j)) 0=some (some (y.1,zv y.2))->decide (x.aI<y.2)=true->(mu b l j).set y.1 (x.fz1,x.aB,x.aI)=mu b l (j+1):=fun h y hy hlt=>by rw[hsucc,pK h hy,if_pos (by simpa using hlt)]
  have more:fF b x=true-> ∀y:Nat × Int,aE prog 302 (.agg ⟨[zv x.fz1,zv x.aB,F0]⟩) (gK 0 (mu b l j)) 0=some (some (y.1,zv y.2))->decide (x.aI<y.2)=false->mu b l j=mu b l (j+1):=fun h y hy hlt=>by rw[hsucc,pK h hy,if_neg (by simpa using hlt)]
  have new:fF b x=true->aE prog 302 (.agg ⟨[zv x.fz1,zv x.aB,F0]⟩) (gK 0 (mu b l j)) 0=some none->mu b l j++[(x.fz1,x.aB,x.aI)]=mu b l (j+1):=fun h hy=>by rw[hsucc,vR h hy]
  have u1:b=true->x.sf=true->fF b x=true:=fun h1 h2=>by simp[fF,h2]
  have u2:b=false->fF b x=true:=fun h1=>by simp[fF,h1]
  have u3:b=true->x.sf=false->fF b x=false:=fun h1 h2=>by simp[fF,h1,h2]
  refine t100 (ds0 z zn l.length cp n j (mu b l j).length b (bg el (l.map ab.row).flatten) x (gK 0 (mu b l j)) (an _ _ _ _ _ _ _ _ _) ⟨fun _=>?_,nC1 hc⟩)
  (repeat' first|(with_reducible first|exact rfl|assumption|apply And.intro|exact UX _ _ _|exact UY _ _ _|exact Nj (DK ‹_›)|exact yM _ _|exact L8 _ _ _ _ _ _|exact L9 _ _ _ _ _ _|exact bF (by omega))|intro hq)
  all_goals first
   |(rename_i h1 h2 y hy
     exact nx _ (less (u1 h1 h2) y hy hq) _ _ (zE _ y.1 0 (x.fz1,x.aB,x.aI) _ (DK hy)) (List.length_set ..).symm)
   |(rename_i h1 h2 y hy
     exact nx _ (more (u1 h1 h2) y hy hq) _ _ rfl rfl)
   |(rename_i h1 y hy
     exact nx _ (less (u2 h1) y hy hq) _ _ (zE _ y.1 0 (x.fz1,x.aB,x.aI) _ (DK hy)) (List.length_set ..).symm)
   |(rename_i h1 y hy
     exact nx _ (more (u2 h1) y hy hq) _ _ rfl rfl)
   |(rename_i h1 h2
     exact nx _ (new (u1 h1 h2) hq) _ _ (yc _ _ _ _) (by simp))
   |(rename_i h1
     exact nx _ (new (u2 h1) hq) _ _ (yc _ _ _ _) (by simp))
   |(rename_i h1
     exact nx _ (skip (u3 h1 hq)) _ _ rfl rfl)
 ·have hc:decide ((j:Int)<(l.length:Int))=false:=by simp;omega
  refine t100 (ds0 z zn l.length cp n j (mu b l j).length b ⟨[],0,0,0,true,true,0,true⟩ ⟨0,0,0,true⟩ (gK 0 (mu b l j)) (an _ _ _ _ _ _ _ _ _) ⟨nC1 hc,fun _=>?_⟩)
  (repeat' first|(with_reducible first|exact rfl|assumption|apply And.intro|exact yM _ _))
  have:j=l.length:=by omega
  subst this
  exact bu trivial
theorem Ut(E F:List eH):bC E++bC F=bC (E++F):=by
 show _=((E++F).map eH.row).flatten
 rw[List.map_append,List.flatten_append]
theorem xa: ∀{l:List Nat},l.Nodup-> ∀{l':List Nat},(∀i∈l,i∈l')->l.length<=l'.length
 |[],_,_,_=>Nat.zero_le _
 |a::l,hn,l',h=>by
  have hn':=List.nodup_cons.1 hn
  have:=xa hn'.2 (l':=l'.erase a) fun i hi=>by
   have hne:i≠a:=fun e=>hn'.1 (e ▸ hi)
   exact(List.mem_erase_of_ne hne).2 (h i (List.mem_cons_of_mem _ hi))
  rw[List.length_erase_of_mem (h a (List.mem_cons_self ..))] at this
  have hp:0<l'.length:=List.length_pos_of_mem (h a (List.mem_cons_self ..))
  simp only[List.length_cons]
  omega
structure Ta(B:List gj)(E:List eH)(seen:List Nat):Prop where
 nd:seen.Nodup
 lt: ∀i∈seen,i<B.length
 len:E.length=seen.length
 mem: ∀e,e∈E↔ ∃i∈seen,∃x,B[i]? =some x/\e=tB x
theorem BA{B:List gj}{E:List eH}{seen:List Nat}(h:Ta B E seen){i:Nat}{x:gj}(hi:B[i]? =some x)(hn:i ∉ seen):Ta B (E++[tB x]) (i::seen):=by
 refine⟨List.nodup_cons.2 ⟨hn,h.nd⟩,fun j hj=>?_,by simp[h.len],fun e=>?_⟩
 ·rcases List.mem_cons.1 hj with rfl|hj
  ·exact(List.getElem?_eq_some_iff.1 hi).1
  ·exact h.lt j hj
 ·rw[List.mem_append,h.mem]
  constructor
  ·rintro (⟨j,j1,j2⟩|he)
   ·exact⟨j,List.mem_cons_of_mem _ j1,j2⟩
   ·simp at he;exact⟨i,List.mem_cons_self ..,x,hi,he⟩
  ·rintro⟨j,j1,y,j2,j3⟩
   rcases List.mem_cons.1 j1 with rfl|j1
   ·rw[hi] at j2;cases j2;right;simp[j3]
   ·exact .inl ⟨j,j1,y,j2,j3⟩
theorem Dl{B:List gj}{E:List eH}{seen:List Nat}(h:Ta B E seen):seen.length<=B.length:=qp _ _ h.nd h.lt
theorem Nl{B:List gj}{E:List eH}{seen:List Nat}(h:Ta B E seen)(ha: ∀i,i<B.length->i∈seen):tj B E:=by
 have h1:=Dl h
 have h2:B.length<=seen.length:=by
  have:=xa (List.nodup_range (n:=B.length)) (l':=seen) fun i hi=>ha i (List.mem_range.1 hi)
  simpa using this
 refine⟨by rw[h.len];omega,fun e=>(h.mem e).trans ⟨fun⟨i,i1,x,i2,i3⟩=>⟨x,List.mem_of_getElem? i2,i3⟩,fun⟨x,x1,x2⟩=>?_⟩⟩
 obtain⟨i,hi⟩:=List.mem_iff_getElem?.1 x1
 exact⟨i,ha i (List.getElem?_eq_some_iff.1 hi).1,x,hi,x2⟩
theorem Bs(hz:au z zn)(n:Nat)(B:List gj)(hB:B.length<=4096):
 ai prog (ah (ag f219) 1) 3 81 (wE n 0 B.length) (wv B.length B.length (gK 0 B) (rep B.length [I 0,I 0,I 0]) []) 3 z zn (Al.R (T7 z zn n B.length B.length (gK 0 B) (rep B.length [I 0,I 0,I 0]) (tj B)).l):=by
 refine ax hD (cZ T.leaf) (α:=List eH × List Nat) 3 81 3 (fun t=>Ta B t.1 t.2) (fun t=>wE n t.2.length B.length) (fun t=>wv B.length B.length (gK 0 B) (bC t.1++rep (B.length - t.2.length) [I 0,I 0,I 0]) t.2) (fun _=>z) (fun _=>zn) (fun t=>B.length - t.2.length) _ (fun t hI=>?_) ([],[]) ⟨by simp,by simp,rfl,by simp⟩
 obtain⟨E,seen⟩:=t
 simp only at hI ⊢
 have hle:=Dl hI
 have cells: ∀E' m,bC E'++rep m [I 0,I 0,I 0]=bC (E'++List.replicate m (⟨0,0,0⟩:eH)):=fun E' m=>by
  rw[←Ut,mZ]
  congr 1
  show _=((List.replicate m (⟨0,0,0⟩:eH)).map eH.row).flatten
  rw[List.map_replicate];rfl
 have p0: ∀x∈gK 0 B,x.born<B.length:=fun e he=>by
  obtain⟨i,x,h1,h2⟩:=zF he
  rw[h2];have:=(List.getElem?_eq_some_iff.1 h1).1;simp only;omega
 have p1: ∀e,e∈gK 0 B->lC e.born seen=false-> ∃x:Nat × gj,(B[x.1]? =some x.2/\x.1 ∉ seen)/\e=VB x:=fun e he hs=>by
  obtain⟨i,x,h1,h2⟩:=zF he
  rw[h2] at hs
  simp only[Nat.zero_add] at hs
  refine⟨(i,x),⟨h1,fun hm=>?_⟩,by rw[h2,Nat.zero_add]⟩
  rw[jD.2 hm] at hs;cases hs
 have lt: ∀x:Nat × gj,(B[x.1]? =some x.2/\x.1 ∉ seen)->seen.length+1<=B.length:=fun x hx=>by
  have:=Dl (BA hI hx.1 hx.2)
  simpa using this
 have bn: ∀x:Nat × gj,(B[x.1]? =some x.2/\x.1 ∉ seen)->fI x.1 (gK 0 B)=some (VB x):=fun x hx=>by
  have:=sW (j:=0) hx.1
  rw[Nat.zero_add] at this
  exact this
 have ov: ∀x:Nat × gj,(B[x.1]? =some x.2/\x.1 ∉ seen)->overwrite (bC E++rep (B.length - seen.length) [I 0,I 0,I 0]) (0+seen.length*3) (tB x.2).row=some (bC (E++[tB x.2])++rep (B.length - (seen.length+1)) [I 0,I 0,I 0]):=fun x hx=>by
  have hlt:=lt x hx
  rw[cells,cells]
  have:=uU (qd (E++List.replicate (B.length - seen.length) (⟨0,0,0⟩:eH))) (i:=seen.length) (by simp[hI.len];omega) (r':=(tB x.2).row) rfl
  rw[lY] at this
  refine this.trans ?_
  have:(E++List.replicate (B.length - seen.length) (⟨0,0,0⟩:eH)).set seen.length (tB x.2)=E++[tB x.2]++List.replicate (B.length - (seen.length+1)) (⟨0,0,0⟩:eH):=by
   rw[List.set_append_right _ _ (by rw[hI.len];exact Nat.le_refl _),hI.len,Nat.sub_self]
   obtain⟨m,hm⟩: ∃m,B.length - seen.length=m+1:=⟨B.length - seen.length - 1,by omega⟩
   rw[hm,show B.length - (seen.length+1)=m by omega,List.replicate_succ,List.set_cons_zero,List.append_assoc];rfl
  rw[this]
 have le3: ∀x:Nat × gj,(B[x.1]? =some x.2/\x.1 ∉ seen)->(bC (E++[tB x.2])++rep (B.length - (seen.length+1)) [I 0,I 0,I 0]).length<=B.length*3:=fun x hx=>by
  have hlt:=lt x hx
  rw[cells,wW];simp[hI.len];omega
 have rn: ∀(σ:Nat->Option Nat) E' m c,aC σ (aa.ay (aR.mk (bC E'++rep m [I 0,I 0,I 0]) c 3 329 true true 0 true))=some (aa.ay (aR.mk (bC E'++rep m [I 0,I 0,I 0]) c 3 329 true true 0 true)):=fun σ E' m c=>by
  rw[cells];exact bX (gy _)
 have mit: ∀s,aC (aj [(0,0),(1,1),(2,2)] []) (aa.dH (some 0) B.length s B.length)=some (aa.dH (some 0) B.length s B.length):=fun s=>rfl
 have nx: ∀x:Nat × gj,(B[x.1]? =some x.2/\x.1 ∉ seen)->an (fun t:List eH × List Nat=>Ta B t.1 t.2) (fun t=>wE n t.2.length B.length) (fun t=>wv B.length B.length (gK 0 B) (bC t.1++rep (B.length - t.2.length) [I 0,I 0,I 0]) t.2) 3 (fun _=>z) (fun _=>zn) (fun t=>B.length - t.2.length) (Al.R (T7 z zn n B.length B.length (gK 0 B) (rep B.length [I 0,I 0,I 0]) (tj B)).l) (E,seen) .normal (wE n (seen.length+1) B.length) (wv B.length B.length (gK 0 B) (bC (E++[tB x.2])++rep (B.length - (seen.length+1)) [I 0,I 0,I 0]) (x.1::seen)) 3 z zn:=fun x hx=>
  ⟨(E++[tB x.2],x.1::seen),rfl,rfl,rfl,rfl,rfl,BA hI hx.1 hx.2,by have:=lt x hx;show B.length - (seen.length+1)<B.length - seen.length;omega⟩
 refine t100 (ds1 z zn n seen.length B.length B.length (gK 0 B) (bC E++rep (B.length - seen.length) [I 0,I 0,I 0]) (fun x=>bC (E++[tB x.2])++rep (B.length - (seen.length+1)) [I 0,I 0,I 0]) seen (fun x=>B[x.1]? =some x.2/\x.1 ∉ seen) (an _ _ _ _ _ _ _ _ _) ?_)
 (repeat' first|(with_reducible first|exact rfl|assumption|apply And.intro|exact bn _ ‹_›|exact lt _ ‹_›|exact ov _ ‹_›|exact le3 _ ‹_›|exact rn _ _ _ _|exact yM _ _|exact Nat.le_refl _)|exact nx _ (by with_reducible assumption)|intro hq)
 have hall: ∀i,i<B.length->i∈seen:=fun i hi=>by
  obtain⟨x,hx⟩:=dh hi
  have:=hq _ (Rw (j:=0) hx)
  simp only[Nat.zero_add] at this
  exact jD.1 this
 have hE:=Nl hI hall
 have hsl:seen.length=B.length:=by rw[←hI.len];exact hE.1
 rw[hsl,Nat.sub_self,show rep 0 [I 0,I 0,I 0]=[] from rfl,List.append_nil]
 exact yh (k:=fun _=>dP) E hE rfl
theorem DD{P:Program}{f:Nat}{args:List Value}{aQ:bN}{nx eI:Nat}{α:Type}{φ ψ:α->Prop}{v:α->Value}{zo:α->bN}{zz:α->T aa}{zn':α->Nat}(h:bq P z zn f args aQ nx eI φ v zo zz zn')(hi: ∀x,φ x->ψ x)(hb: ∀x,ψ x->wj zn (zo x) (zz x) (zn' x)):bq P z zn f args aQ nx eI ψ v zo zz zn':=
 ⟨h.1,h.2.1,h.2.2.1,hb,fun ρ w args' n h1 h2 h3 h4=>(h.2.2.2.2 ρ w args' n h1 h2 h3 h4).mono fun e w' ⟨x,hx,hg⟩=>⟨x,hi x hx,hg⟩⟩
def dR(z:T aa)(zn n:Nat)(l:List ab)(b:Bool)(s:eg):Prop:= ∃E,Tb n l b E/\Ct z zn n (EE E) s
theorem Ks(hz:au z zn)(n:Nat)(hn:n<=64)(l:List ab)(b:Bool)(E:List eH)(m:Nat)(hm:m=E.length)(hE:Tb n l b E):
 bq prog z zn 253 [iv n,bc 0 m m] [(0,oH (bC E) m)] 1 2 (dR z zn n l b) (fun _=> .tuple ⟨[bc 1 n n,I 0]⟩) (fun s=>[(1,ux s.cs n)]) (fun s=>s.z) (fun s=>s.zn):=by
 subst hm
 refine DD (UW hz n hn E hE.ok) (fun s hs=>⟨E,hE,hs⟩) fun s ⟨E,_,hs⟩=>⟨tS rfl,hs.le,hs.bH⟩
theorem Km(hz:au z zn)(n:Nat)(hn:n<=64)(l:List ab)(hl:nS n l)(hll:l.length<=10000)(cp:Nat)(hL:bM z 4 (l.map ab.row))(b:Bool):
 bq prog z zn 219 [tb 4 l.length cp,iv n, .bool b] [] 0 1 (dR z zn n l b) (fun _=>bc 0 n n) (fun s=>[(0,ux s.cs n)]) (fun s=>s.z) (fun s=>s.zn):=by
 obtain⟨hB,h0⟩:=Ja hz n hn l hl hll cp hL b
 have hBl:=Ky hn hl hB
 have h1:=Bs hz n (mu b l l.length) hBl
 have hall: ∀E,tj (mu b l l.length) E->bq prog z zn 253 [iv n,bc 0 (mu b l l.length).length (mu b l l.length).length] [(0,oH (bC E) (mu b l l.length).length)] 1 2 (dR z zn n l b) (fun _=> .tuple ⟨[bc 1 n n,I 0]⟩) (fun s=>[(1,ux s.cs n)]) (fun s=>s.z) (fun s=>s.zn):=
  fun E hE=>Ks hz n hn l b E _ hE.1.symm (Kz hn hl hB hE)
 have hlen:((gK 0 (mu b l l.length)).length:Int)=((mu b l l.length).length:Int):=by rw[Fm]
 have rcs: ∀σ s,dR z zn n l b s-> ∀c,aC (aj σ []) (aa.ay (aR.mk s.cs c 1 90 true true 0 true))=some (aa.ay (aR.mk s.cs c 1 90 true true 0 true)):=fun σ s ⟨E,_,h⟩ c=>by
  obtain⟨b,_,_,h,_⟩:=h.row
  rw[h];exact m9 _ _ _ _ _
 have rcs': ∀σ s,dR z zn n l b s-> ∀c,aC (sig σ) (aa.ay (aR.mk s.cs c 1 90 true true 0 true))=some (aa.ay (aR.mk s.cs c 1 90 true true 0 true)):=rcs
 have bH: ∀s,dR z zn n l b s->au s.2 s.zn:=fun s ⟨E,_,h⟩=>h.bH
 have r0: ∀σ m c,aC σ (aa.ay (aR.mk (rep m [I 0,I 0,I 0]) c 3 329 true true 0 true))=some (aa.ay (aR.mk (rep m [I 0,I 0,I 0]) c 3 329 true true 0 true)):=fun σ m c=>bX (by
  have e:rep m [I 0,I 0,I 0]=bC (List.replicate m (⟨0,0,0⟩:eH)):=by
   rw[mZ]
   show _=((List.replicate m (⟨0,0,0⟩:eH)).map eH.row).flatten
   rw[List.map_replicate];rfl
  rw[e];exact gy _)
 refine eM (cZ T.leaf) (fn:=f219) (by kernel_rfl) (by kernel_rfl) hz ⟨by decide,by decide⟩ (fun s ⟨E,_,hs⟩=>⟨rfl,hs.le,hs.bH⟩) (N:=100) ?_
 refine ds z zn n l.length cp b (mu b l l.length) (rep (mu b l l.length).length [I 0,I 0,I 0]) (tj (mu b l l.length)) (dR z zn n l b) _ ?_
 (repeat' first|(with_reducible first|exact rfl|assumption|apply And.intro|exact hall _ ‹_›|exact bH _ ‹_›|exact rcs _ _ ‹_› _|exact rcs' _ _ ‹_› _|exact r0 _ _ _|exact yM _ _|exact jN _ _|exact Nat.zero_le _|exact(by omega:(mu b l l.length).length<=1048576))|exact(rfl:Int.ofNat _=_)|exact h0|exact h1|intro hq)
 all_goals exact q2 _ hq rfl rfl rfl rfl rfl
theorem N6(n:Nat)(b:Bool):KY n [] b 0 []:=⟨by simp,fun x hx=>by simp at hx,fun p hp=>by simp at hp⟩
theorem Gp(hz:au z zn)(n:Nat)(b:Bool):
 ai prog (ah (ag f219) 0) 1 81 (xq n b) [(0, .map [] 0)] 1 z zn (Al.R (T8 z zn n b).l):=by
 refine ax hD (cZ T.leaf) (α:=Unit) 1 81 1 (fun _=>True) (fun _=>xq n b) (fun _=>[(0, .map [] 0)]) (fun _=>z) (fun _=>zn) (fun _=>0) _ (fun _ _=>?_) () trivial
 refine t100 (ZC z zn n b (an _ _ _ _ _ _ _ _ _) ?_)
 (repeat' first|(with_reducible first|exact rfl|assumption|apply And.intro))
 exact bu trivial
theorem Fg(hz:au z zn)(n:Nat)(hn:n<=64)(b:Bool):
 bq prog z zn 219 [ak,iv n, .bool b] [] 0 1 (dR z zn n [] b) (fun _=>bc 0 n n) (fun s=>[(0,ux s.cs n)]) (fun s=>s.z) (fun s=>s.zn):=by
 have hl:nS n []:=⟨fun p hp=>by simp at hp⟩
 have h0:=Gp hz n b
 have h1:=Bs hz n [] (by simp)
 have hall: ∀E,tj [] E->bq prog z zn 253 [iv n,bc 0 0 0] [(0, .ay (aR.mk (bC E) 0 3 329 true true 0 true))] 1 2 (dR z zn n [] b) (fun _=> .tuple ⟨[bc 1 n n,I 0]⟩) (fun s=>[(1,ux s.cs n)]) (fun s=>s.z) (fun s=>s.zn):=
  fun E hE=>Ks hz n hn [] b E 0 hE.1.symm (Kz hn hl (N6 n b) hE)
 have rcs: ∀σ s,dR z zn n [] b s-> ∀c,aC (aj σ []) (aa.ay (aR.mk s.cs c 1 90 true true 0 true))=some (aa.ay (aR.mk s.cs c 1 90 true true 0 true)):=fun σ s ⟨E,_,h⟩ c=>by
  obtain⟨b,_,_,h,_⟩:=h.row
  rw[h];exact m9 _ _ _ _ _
 have rcs': ∀σ s,dR z zn n [] b s-> ∀c,aC (sig σ) (aa.ay (aR.mk s.cs c 1 90 true true 0 true))=some (aa.ay (aR.mk s.cs c 1 90 true true 0 true)):=rcs
 have bH: ∀s,dR z zn n [] b s->au s.2 s.zn:=fun s ⟨E,_,h⟩=>h.bH
 refine eM (cZ T.leaf) (fn:=f219) (by kernel_rfl) (by kernel_rfl) hz ⟨by decide,by decide⟩ (fun s ⟨E,_,hs⟩=>⟨rfl,hs.le,hs.bH⟩) (N:=100) ?_
 refine dsz z zn n b (tj []) (dR z zn n [] b) _ ?_
 (repeat' first|(with_reducible first|exact rfl|assumption|apply And.intro|exact hall _ ‹_›|exact bH _ ‹_›|exact rcs _ _ ‹_› _|exact rcs' _ _ ‹_› _|exact jN _ _)|exact h0|exact h1|intro hq)
 all_goals exact q2 _ hq rfl rfl rfl rfl rfl
end
structure mG(z0:T aa)(n0:Nat)(L:List ab)(s:bI):Prop where
 bH:au s.z s.zn
 le:n0<=s.zn
 fE: ∀k,k<n0->s.z.get k=z0.get k
 val:(L=[]/\s.oa=none/\s.k=0)\/(L≠[]/\ ∃kk,n0<=kk/\kk<s.zn/\s.oa=some ⟨256*kk+510,0,none⟩/\s.k=L.length/\s.z.get kk=some (QQ (L.map ab.row).flatten L.length))
def iX(L:List ab)(a b d:Int)(f:Bool):List ab:=if 0<d/\d<=14400 then L++[⟨a,b,d,f⟩] else L
theorem jR(L:List ab):bE (L.map ab.row).flatten=true:=jQ (row:=ab.row) (fun _=>rfl) L
theorem CW(L:List ab):(L.map ab.row).flatten.length=L.length*4:=by
 have:=jU (sz:=4) (rows:=L.map ab.row) (aM (row:=ab.row) (sz:=4) L fun _=>rfl)
 simpa using this
theorem kF(L:List ab)(x:ab):(L.map ab.row).flatten++x.row=((L++[x]).map ab.row).flatten:=by
 rw[List.map_append,List.flatten_append];simp
theorem tZ(L:List ab)(a b d:Int)(f:Bool):(iX L a b d f).length<=L.length+1:=by
 unfold iX;split<;>simp
theorem Ee{σ:bb}{k c n m:Nat}{o:aa}:aC (aj σ [(k,c,o)]) (oB (tb k n m))=some (oB (bc c n m)):=by
 have:=fO (σ:=σ) (k:=k) (c:=c) (n:=n) (m:=m) (o:=o)
 simp only[aC,aT,this]
 rfl
theorem CR{σ:Nat->Option Nat}(L:List ab)(x:ab)(c:Nat):aC σ (.ay (aR.mk ((L.map ab.row).flatten++x.row) c 4 141 false false 0 true))=some (.ay (aR.mk ((L.map ab.row).flatten++x.row) c 4 141 false false 0 true)):=bX (by
 rw[kF];exact jR _)
section
variable{z:T aa}{zn:Nat}
theorem OO(z0:T aa)(n0:Nat)(L:List ab)(hL:L.length<100000)(s:bI)(hs:mG z0 n0 L s)(a b d:Int)(f:Bool):
 bq prog s.z s.zn 220 [zv a,zv b,zv d, .bool f,ip 0] [(0,oB s.v)] 1 1 (fun s'=>mG z0 n0 (iX L a b d f) s'/\s.zn<=s'.zn) (fun _=> .tuple ⟨[]⟩) (fun s=>[(0,oB s.v)]) (fun s=>s.z) (fun s=>s.zn):=by
 obtain⟨oa,r,z,zn⟩:=s
 have hz:au z zn:=hs.bH
 have hold:=hs.fE
 have hle:=hs.le
 simp only at hold hle
 have hin: ∀d,(decide (d>0)=true->decide (d<=14400)=true->0<d/\d<=(14400:Int)):=fun d h1 h2=>by simp at h1 h2;omega
 have no1:decide (d>0)=false->iX L a b d f=L:=fun h=>by
  unfold iX;rw[if_neg];simp at h;omega
 have no2:decide (d<=14400)=false->iX L a b d f=L:=fun h=>by
  unfold iX;rw[if_neg];simp at h;omega
 have yes:decide (d>0)=true->decide (d<=14400)=true->iX L a b d f=L++[⟨a,b,d,f⟩]:=fun h1 h2=>by
  unfold iX;rw[if_pos (hin d h1 h2)]
 refine eM (cZ T.leaf) (fn:=f220) (by kernel_rfl) (by kernel_rfl) hz ⟨by decide,by decide⟩ (fun s' hs'=>⟨rfl,hs'.2,hs'.1.bH⟩) (N:=100) ?_
 rcases hs.val with ⟨h1,h2,h3⟩|⟨h1,kk,k1,k2,h2,h3,h4⟩<;>simp only at h2 h3
 ·subst h2 h3 h1
  refine ad0 z zn 0 a b d f _ ?_
  (repeat' first|(with_reducible first|exact rfl|assumption|apply And.intro|exact Nat.le_refl _|exact Nat.lt_succ_self _)|exact Ee|exact Nat.le_succ _|intro hq)
  ·refine q2 (⟨some ⟨256*zn+510,0,none⟩,1,z.set zn (QQ (([⟨a,b,d,f⟩]:List ab).map ab.row).flatten 1),zn+1⟩:bI) ⟨?_,Nat.le_succ _⟩ rfl rfl rfl rfl rfl
   rename_i h1
   rw[yes h1 hq]
   exact⟨eC hz (jR _),by show n0<=zn+1;omega,fun k hk=>by
    show(z.set zn _).get k=_
    rw[T.aG,if_neg (by omega)];exact hold k hk, .inr ⟨by simp,zn,hle,Nat.lt_succ_self _,rfl,rfl,by
    show(z.set zn _).get zn=_
    rw[T.aG,if_pos rfl];rfl⟩⟩
  ·refine q2 (⟨none,0,z,zn⟩:bI) ⟨?_,Nat.le_refl _⟩ rfl rfl rfl rfl rfl
   rw[no2 hq];exact hs
  ·refine q2 (⟨none,0,z,zn⟩:bI) ⟨?_,Nat.le_refl _⟩ rfl rfl rfl rfl rfl
   rw[no1 hq];exact hs
 ·simp only at h4
  subst h2 h3
  refine ad1 z zn kk L.length ⟨(L.map ab.row).flatten,L.length*4,4,141,false,false,0,true⟩ a b d f _ ?_
  (repeat' first|(with_reducible first|exact rfl|assumption|apply And.intro|exact CW L|exact Nat.le_refl _|exact Nat.lt_succ_self _|exact gY hz _|exact CR L ⟨a,b,d,f⟩ _|exact(by show L.length+1<=1048576;omega))|exact Nat.le_succ _|exact Ee|intro hq)
  ·refine q2 (⟨some ⟨256*zn+510,0,none⟩,L.length+1,(z.del kk).set zn (QQ ((L.map ab.row).flatten++(⟨a,b,d,f⟩:ab).row) (L.length+1)),zn+1⟩:bI) ⟨?_,Nat.le_succ _⟩ rfl rfl rfl rfl rfl
   rename_i h1
   rw[yes h1 hq]
   refine⟨eC (gY hz _) (by show bE ((L.map ab.row).flatten++(⟨a,b,d,f⟩:ab).row)=true;rw[kF];exact jR _),by show n0<=zn+1;omega,fun k hk=>?_, .inr ⟨by simp,zn,hle,Nat.lt_succ_self _,rfl,by simp,?_⟩⟩
   ·show((z.del kk).set zn _).get k=_
    rw[T.aG,if_neg (by omega),T.fq,if_neg (by omega)];exact hold k hk
   ·show((z.del kk).set zn _).get zn=_
    rw[T.aG,if_pos rfl,kF,List.length_append];rfl
  ·refine q2 (⟨some ⟨256*kk+510,0,none⟩,L.length,z,zn⟩:bI) ⟨?_,Nat.le_refl _⟩ rfl rfl rfl rfl rfl
   rw[no2 hq];exact hs
  ·refine q2 (⟨some ⟨256*kk+510,0,none⟩,L.length,z,zn⟩:bI) ⟨?_,Nat.le_refl _⟩ rfl rfl rfl rfl rfl
   rw[no1 hq];exact hs
end
def th(z:T aa)(b n:Nat)(d:Nat->Nat->Int):Prop:= ∀i,i<n-> ∃l,z.get (b+i)=some (.ay (Dm l n))/\l.length=n/\ ∀j,j<n->(fB l j).len=d i j
theorem lU{z z':T aa}{b n m:Nat}{d:Nat->Nat->Int}(h:th z b n d)(hb:b+n<=m)(hk: ∀k,k<m->z'.get k=z.get k):th z' b n d:=fun i hi=>by
 obtain⟨l,h1,h2⟩:=h i hi
 exact⟨l,by rw[hk _ (by omega)];exact h1,h2⟩
theorem uA{z:T aa}{b n:Nat}{d:Nat->Nat->Int}(h:th z b n d){i j:Nat}(hi:i<n)(hj:j<n): ∃k,z.get (b+i)=some (.ay k)/\aq prog k 3 (0+j*1)=some (zv (d i j)):=by
 obtain⟨l,h1,h2,h3⟩:=h i hi
 refine⟨_,h1,im (d:=_) underlying3 rfl ?_⟩
 show(xE l)[j]? =_
 unfold xE
 rw[List.getElem?_map,nz (by omega),←h3 j hj];rfl
theorem oq{z:T aa}{zn n:Nat}{E:bU}{s:eg}(h:Ct z zn n E s): ∃b d,zn<=b/\b+n<=s.zn/\s.cs=gI b n n/\th s.z b n d/\ ∀i j,i<n->j<n->mF E i j (d i j):=by
 obtain⟨b,h1,h2,h3,h4⟩:=h.row
 have: ∀i,∃l,i<n->s.z.get (b+i)=some (.ay (Dm l n))/\l.length=n/\ ∀j,j<n->mF E i j (fB l j).len:=fun i=>by
  by_cases hi:i<n
  ·obtain⟨l,hl⟩:=h4 i hi;exact⟨l,fun _=>hl⟩
  ·exact⟨[],fun h=>absurd h hi⟩
 obtain⟨f,hf⟩:=Classical.axiomOfChoice this
 exact⟨b,fun i j=>(fB (f i) j).len,h1,h2,h3,fun i hi=>⟨f i,(hf i hi).1,(hf i hi).2.1,fun j _=>rfl⟩,fun i j hi hj=>(hf i hi).2.2 j hj⟩
def iG(d f:Nat->Nat->Int)(a:Nat)(L:List ab)(b:Nat):List ab:=
 if a=b then L else if f a b=d a b then iX L a b (d a b) true else iX (iX L a b (d a b) false) a b (f a b) true
def cU(d f:Nat->Nat->Int)(a:Nat)(L:List ab)(m:Nat):List ab:=(List.range m).foldl (iG d f a) L
def eR(d f:Nat->Nat->Int)(n m:Nat):List ab:=(List.range m).foldl (fun L a=>cU d f a L n) []
theorem kK(d f:Nat->Nat->Int)(a:Nat)(L:List ab)(m:Nat):cU d f a L (m+1)=iG d f a (cU d f a L m) m:=by
 unfold cU;rw[List.range_succ,List.foldl_append];rfl
theorem sZ(d f:Nat->Nat->Int)(n m:Nat):eR d f n (m+1)=cU d f m (eR d f n m) n:=by
 unfold eR;rw[List.range_succ,List.foldl_append];rfl
theorem BZ(d f:Nat->Nat->Int)(a:Nat)(L:List ab)(b:Nat):(iG d f a L b).length<=L.length+2:=by
 unfold iG
 split
 ·omega
 ·split
  ·have:=tZ L a b (d a b) true;omega
  ·have h1:=tZ L a b (d a b) false
   have h2:=tZ (iX L a b (d a b) false) a b (f a b) true
   omega
theorem vI(d f:Nat->Nat->Int)(a:Nat)(L:List ab)(m:Nat):(cU d f a L m).length<=L.length+2*m:=by
 induction m with
 |zero=>exact Nat.le_refl _
 |succ m ih=>rw[kK];have:=BZ d f a (cU d f a L m) m;omega
theorem Dz(d f:Nat->Nat->Int)(n m:Nat):(eR d f n m).length<=m*(2*n):=by
 induction m with
 |zero=>exact Nat.zero_le _
 |succ m ih=>
  rw[sZ]
  have:=vI d f m (eR d f n m) n
  have e:(m+1)*(2*n)=m*(2*n)+2*n:=Nat.succ_mul ..
  omega
section
variable{z0:T aa}{n0:Nat}
theorem og{σ:bb}{L:List ab}{s:bI}(h:mG z0 n0 L s):aC (aj σ []) (oB s.v)=some (oB s.v):=by
 rcases h.val with ⟨_,e1,e2⟩|⟨_,kk,_,_,e1,e2,_⟩
 ·obtain⟨oa,k,z,zn⟩:=s
  simp only at e1 e2;subst e1 e2;rfl
 ·obtain⟨oa,k,z,zn⟩:=s
  simp only at e1 e2;subst e1 e2
  have:=jL σ kk L.length L.length
  show aC _ (oB (tb kk L.length L.length))=some (oB (tb kk L.length L.length))
  simp only[aC,aT,this]
theorem Jc(n:Nat)(hn:n<=64)(b1 b2:Nat)(d f:Nat->Nat->Int)(h1:b1+n<=n0)(h2:b2+n<=n0)(hd:th z0 b1 n d)(hf:th z0 b2 n f)(a:Nat)(ha:a<n)(L:List ab)(hL:L.length<=10000)(s0:bI)(hs0:mG z0 n0 L s0):
 ai prog (ah (ah (ag f188) 0) 0) 3 66 (Bl n a (b1+a) 0) (zX n (gI b1 n n) (gI b2 n n) s0.v) 3 s0.z s0.zn (Al.R (Ud n a (b1+a) (gI b1 n n) (gI b2 n n) s0 (fun s=>mG z0 n0 (cU d f a L n) s/\s0.zn<=s.zn)).l):=by
 refine ax hD (cZ T.leaf) (α:=Nat × bI) 3 66 3 (fun t=>t.1<=n/\mG z0 n0 (cU d f a L t.1) t.2/\s0.zn<=t.2.zn) (fun t=>Bl n a (b1+a) t.1) (fun t=>zX n (gI b1 n n) (gI b2 n n) t.2.v) (fun t=>t.2.z) (fun t=>t.2.zn) (fun t=>n - t.1) _ (fun t hI=>?_) (0,s0) ⟨Nat.zero_le _,hs0,Nat.le_refl _⟩
 obtain⟨b,s⟩:=t
 obtain⟨hb,hs,hle⟩:=hI
 simp only at hb hs hle ⊢
 have hz:=hs.bH
 have rA: ∀b,aC (aj [(0,0),(1,1),(2,2)] []) (aa.ay (aR.mk (gI b n n) (n*1) 1 90 true true 0 true))=some (aa.ay (aR.mk (gI b n n) (n*1) 1 90 true true 0 true)):=fun b=>m9 _ _ _ _ _
 by_cases hlt:b<n
 ·have hc:decide ((b:Int)<(n:Int))=true:=by simp;omega
  have hrl:=vI d f a L b
  have hd':=lU hd h1 hs.fE
  have hf':=lU hf h2 hs.fE
  obtain⟨k1,g1,r1⟩:=uA hd' ha hlt
  obtain⟨k2,g2,r2⟩:=uA hf' ha hlt
  have rB:aq prog (aR.mk (gI b2 n n) (n*1) 1 90 true true 0 true) 90 (0+a*1)=some (tb (b2+a) n n):=im underlying90 rfl (JP ha)
  have add1: ∀fl,bq prog s.z s.zn 220 [iv a,iv b,zv (d a b), .bool fl,ip 0] [(0,oB s.v)] 1 1 (fun s'=>mG z0 n0 (iX (cU d f a L b) a b (d a b) fl) s'/\s.zn<=s'.zn) (fun _=> .tuple ⟨[]⟩) (fun s=>[(0,oB s.v)]) (fun s=>s.z) (fun s=>s.zn):=fun fl=>OO z0 n0 _ (by omega) s hs _ _ _ _
  have add2: ∀fl x,(mG z0 n0 (iX (cU d f a L b) a b (d a b) fl) x/\s.zn<=x.zn)->bq prog x.z x.zn 220 [iv a,iv b,zv (f a b),T1,ip 0] [(0,oB x.v)] 1 1 (fun s'=>mG z0 n0 (iX (iX (cU d f a L b) a b (d a b) fl) a b (f a b) true) s'/\x.zn<=s'.zn) (fun _=> .tuple ⟨[]⟩) (fun s=>[(0,oB s.v)]) (fun s=>s.z) (fun s=>s.zn):=fun fl x hx=>OO z0 n0 _ (by have:=tZ (cU d f a L b) a b (d a b) fl;omega) x hx.1 _ _ _ _
  have nx: ∀s',mG z0 n0 (cU d f a L (b+1)) s'->s.zn<=s'.zn->an (fun t:Nat × bI=>t.1<=n/\mG z0 n0 (cU d f a L t.1) t.2/\s0.zn<=t.2.zn) (fun t=>Bl n a (b1+a) t.1) (fun t=>zX n (gI b1 n n) (gI b2 n n) t.2.v) 3 (fun t=>t.2.z) (fun t=>t.2.zn) (fun t=>n - t.1) (Al.R (Ud n a (b1+a) (gI b1 n n) (gI b2 n n) s0 (fun s=>mG z0 n0 (cU d f a L n) s/\s0.zn<=s.zn)).l) (b,s) .normal (Bl n a (b1+a) (b+1)) (zX n (gI b1 n n) (gI b2 n n) s'.v) 3 s'.z s'.zn:=fun s' h1 h2=>
   ⟨(b+1,s'),rfl,rfl,rfl,rfl,rfl,⟨by show b+1<=n;omega,h1,by show s0.zn<=s'.zn;omega⟩,by show n - (b+1)<n - b;omega⟩
  have add1t:(f a b==d a b)=true->bq prog s.z s.zn 220 [iv a,iv b,zv (d a b),T1,ip 0] [(0,oB s.v)] 1 1 (fun s'=>mG z0 n0 (iX (cU d f a L b) a b (d a b) (f a b==d a b)) s'/\s.zn<=s'.zn) (fun _=> .tuple ⟨[]⟩) (fun s=>[(0,oB s.v)]) (fun s=>s.z) (fun s=>s.zn):=fun h=>by
   rw[h];exact add1 true
  have add1f:(f a b==d a b)=false->bq prog s.z s.zn 220 [iv a,iv b,zv (d a b),F0,ip 0] [(0,oB s.v)] 1 1 (fun s'=>mG z0 n0 (iX (cU d f a L b) a b (d a b) (f a b==d a b)) s'/\s.zn<=s'.zn) (fun _=> .tuple ⟨[]⟩) (fun s=>[(0,oB s.v)]) (fun s=>s.z) (fun s=>s.zn):=fun h=>by
   rw[h];exact add1 false
  have w0:((a:Int)==(b:Int))=true->cU d f a L (b+1)=cU d f a L b:=fun h=>by
   rw[kK];unfold iG;rw[if_pos (by simp at h;omega)]
  have w1:((a:Int)==(b:Int))=false->(f a b !=d a b)=false->cU d f a L (b+1)=iX (cU d f a L b) a b (d a b) (f a b==d a b):=fun h h1=>by
   have e:f a b=d a b:=by simpa using h1
   rw[kK];unfold iG;rw[if_neg (by simp at h;omega),if_pos e,e];simp
  have w2:((a:Int)==(b:Int))=false->(f a b !=d a b)=true->cU d f a L (b+1)=iX (iX (cU d f a L b) a b (d a b) (f a b==d a b)) a b (f a b) true:=fun h h1=>by
   have e: ¬f a b=d a b:=by simpa using h1
   have e2:(f a b==d a b)=false:=by simpa using e
   rw[kK];unfold iG;rw[if_neg (by simp at h;omega),if_neg e,e2]
  refine t100 (cl1 s.z s.zn n a (b1+a) (b2+a) b (gI b1 n n) (gI b2 n n) s k1 k2 (d a b) (f a b) (fun s'=>mG z0 n0 (iX (cU d f a L b) a b (d a b) (f a b==d a b)) s'/\s.zn<=s'.zn) (fun x s'=>mG z0 n0 (iX (iX (cU d f a L b) a b (d a b) (f a b==d a b)) a b (f a b) true) s'/\x.zn<=s'.zn) (an _ _ _ _ _ _ _ _ _) ⟨fun _=>?_,nC1 hc⟩)
  (repeat' first|(with_reducible first|exact rfl|assumption|apply And.intro|exact rA _|exact mG.bH (And.left ‹_›)|exact bF (by omega))|exact og hs|exact og (And.left (by with_reducible assumption))|exact add1t (by with_reducible assumption)|exact add1f (by with_reducible assumption)|exact add2 _ _ (by with_reducible assumption)|intro hq)
  all_goals first
   |exact nx s (by rw[w0 hq];exact hs) (Nat.le_refl _)
   |(rename_i h1 h2 x hx h3 y
     exact nx y (by rw[w2 h1 h3];exact hq.1) (Nat.le_trans hx.2 hq.2))
   |(rename_i h1 h2 x hx
     exact nx x (by rw[w1 h1 hq];exact hx.1) hx.2)
 ·have hc:decide ((b:Int)<(n:Int))=false:=by simp;omega
  have sU:b=n:=by omega
  subst sU
  refine t100 (cl1 s.z s.zn b a (b1+a) (b2+a) b (gI b1 b b) (gI b2 b b) s ⟨[],0,0,0,true,true,0,true⟩ ⟨[],0,0,0,true,true,0,true⟩ 0 0 (fun _=>False) (fun _ _=>False) (an _ _ _ _ _ _ _ _ _) ⟨nC1 hc,fun _=>?_⟩)
  (repeat' first|(with_reducible first|exact rfl|assumption|apply And.intro|exact rA _)|exact og hs)
  exact yh (k:=fun _=>dP) s ⟨hs,hle⟩ rfl
theorem Bu(n:Nat)(hn:n<=64)(b1 b2:Nat)(d f:Nat->Nat->Int)(h1:b1+n<=n0)(h2:b2+n<=n0)(hd:th z0 b1 n d)(hf:th z0 b2 n f)(hz0:au z0 n0):
 ai prog (ah (ag f188) 0) 3 66 (wF n 0) (zX n (gI b1 n n) (gI b2 n n) ak) 3 z0 n0 (Al.R (QB n (gI b1 n n) (gI b2 n n) z0 n0 (fun s=>mG z0 n0 (eR d f n n) s)).l):=by
 refine ax hD (cZ T.leaf) (α:=Nat × bI) 3 66 3 (fun t=>t.1<=n/\mG z0 n0 (eR d f n t.1) t.2) (fun t=>wF n t.1) (fun t=>zX n (gI b1 n n) (gI b2 n n) t.2.v) (fun t=>t.2.z) (fun t=>t.2.zn) (fun t=>n - t.1) _ (fun t hI=>?_) (0,⟨none,0,z0,n0⟩) ⟨Nat.zero_le _,hz0,Nat.le_refl _,fun _ _=>rfl, .inl ⟨rfl,rfl,rfl⟩⟩
 obtain⟨a,s⟩:=t
 obtain⟨ha,hs⟩:=hI
 simp only at ha hs ⊢
 have hz:=hs.bH
 have rA: ∀b,aC (aj [(0,0),(1,1),(2,2)] []) (aa.ay (aR.mk (gI b n n) (n*1) 1 90 true true 0 true))=some (aa.ay (aR.mk (gI b n n) (n*1) 1 90 true true 0 true)):=fun b=>m9 _ _ _ _ _
 by_cases hlt:a<n
 ·have hc:decide ((a:Int)<(n:Int))=true:=by simp;omega
  have hll:(eR d f n a).length<=10000:=by
   have:=Dz d f n a
   have h2:a*(2*n)<=64*(2*64):=Nat.mul_le_mul (by omega) (by omega)
   omega
  have hlp:=Jc n hn b1 b2 d f h1 h2 hd hf a hlt _ hll s hs
  have rB:aq prog (aR.mk (gI b1 n n) (n*1) 1 90 true true 0 true) 90 (0+a*1)=some (tb (b1+a) n n):=im underlying90 rfl (JP hlt)
  refine t100 (cl0 s.z s.zn n a (b1+a) (gI b1 n n) (gI b2 n n) s (fun s'=>mG z0 n0 (cU d f a (eR d f n a) n) s'/\s.zn<=s'.zn) (an _ _ _ _ _ _ _ _ _) ⟨fun _=>?_,nC1 hc⟩)
  (repeat' first|(with_reducible first|exact rfl|assumption|apply And.intro|exact rA _|exact mG.bH (And.left ‹_›)|exact bF (by omega))|exact hlp|exact og hs|exact og (And.left (by with_reducible assumption))|intro hq)
  rename_i x
  exact⟨(a+1,x),rfl,rfl,rfl,rfl,rfl,⟨by show a+1<=n;omega,by show mG z0 n0 (eR d f n (a+1)) x;rw[sZ];exact hq.1⟩,by show n - (a+1)<n - a;omega⟩
 ·have hc:decide ((a:Int)<(n:Int))=false:=by simp;omega
  have han:a=n:=by omega
  subst han
  refine t100 (cl0 s.z s.zn a a 0 (gI b1 a a) (gI b2 a a) s (fun _=>False) (an _ _ _ _ _ _ _ _ _) ⟨nC1 hc,fun _=>?_⟩)
  (repeat' first|(with_reducible first|exact rfl|assumption|apply And.intro)|exact og hs)
  exact yh (k:=fun _=>dP) s hs rfl
end
def DF(n:Nat)(l:List ab)(d f:Nat->Nat->Int):Prop:= ∃E F,Tb n l false E/\Tb n l true F/\(∀i j,i<n->j<n->mF (EE E) i j (d i j))/\(∀i j,i<n->j<n->mF (EE F) i j (f i j))
theorem BH{z z':T aa}{a b:Nat}{L:List ab}{s:bI}(h:mG z' b L s)(hab:a<=b)(ho: ∀k,k<a->z'.get k=z.get k):mG z a L s:=by
 refine⟨h.bH,Nat.le_trans hab h.le,fun k hk=>(h.fE k (by omega)).trans (ho k hk),?_⟩
 rcases h.val with h1|⟨h1,kk,h2,h3⟩
 ·exact .inl h1
 ·exact .inr ⟨h1,kk,by omega,h3⟩
def kX(C:List ab):Prop:= ∀(z:T aa)(zn:Nat)(s:bI),mG z zn C s->aP prog s.z s.zn 221 [s.v, .func (.func 222) #[] #[]] [] 0 0 (fun _:Unit=>True) (fun _=> .tuple ⟨[]⟩) (fun _=>[])
theorem pz{P:Program}{b:Code}{base n:Nat}{live:Live}{aQ:bN}{nx:Nat}{z:T aa}{zn:Nat}{R R':aA->Prop}(h:ai P b base n live aQ nx z zn R)(hR: ∀o,R o->R' o):ai P b base n live aQ nx z zn R':=
 fun wG h0 zn0 σ0 h1 h2=>(h wG h0 zn0 σ0 h1 h2).mono fun e fr h zn' ⟨o,h1,h2⟩=>⟨o,hR o h1,h2⟩
theorem cH{z z':T aa}{zn k:Nat}{rows:List (List Value)}(h:bM z k rows)(hz:au z zn)(ho: ∀j,j<zn->z'.get j=z.get j):bM z' k rows:=
 ⟨fun hr=>by obtain⟨e,he⟩:=h.here hr;exact⟨e,by rw[ho k (hz k _ he).1];exact he⟩,h.size⟩
section
variable{z:T aa}{zn:Nat}
theorem UU(hz:au z zn)(n:Nat)(hn:n<=64)(l:List ab)(hl:nS n l)(hll:l.length<=10000)(cp:Nat)(hL:bM z 4 (l.map ab.row))(C:List ab)(hC: ∀d f,DF n l d f->eR d f n n=C)(hS:kX C):
 bq prog z zn 188 [tb 4 l.length cp,iv n] [] 0 0 (mG z zn C) (fun s=>s.v) (fun _=>[]) (fun s=>s.z) (fun s=>s.zn):=by
 have d1:=Km hz n hn l hl hll cp hL false
 have rw1: ∀{z zn b s},dR z zn n l b s-> ∀σ c,aC (aj σ []) (aa.ay (aR.mk s.cs c 1 90 true true 0 true))=some (aa.ay (aR.mk s.cs c 1 90 true true 0 true)):=fun {z zn b s} ⟨E,_,h⟩ σ c=>by
  obtain⟨b,_,_,h,_⟩:=h.row
  rw[h];exact m9 _ _ _ _ _
 have rw2: ∀{z zn b s},dR z zn n l b s-> ∀σ c,aC (sig σ) (aa.ay (aR.mk s.cs c 1 90 true true 0 true))=some (aa.ay (aR.mk s.cs c 1 90 true true 0 true)):=fun h σ c=>rw1 h σ c
 have bH: ∀{z zn b s},dR z zn n l b s->au s.2 s.zn:=fun {z zn b s} ⟨E,_,h⟩=>h.bH
 have d2: ∀s,dR z zn n l false s->bq prog s.2 s.zn 219 [tb 4 l.length cp,iv n,T1] [] 0 1 (dR s.2 s.zn n l true) (fun _=>bc 0 n n) (fun s=>[(0,ux s.cs n)]) (fun s=>s.z) (fun s=>s.zn):=fun s ⟨E,_,h⟩=>Km h.bH n hn l hl hll cp (cH hL hz h.fE) true
 have lp: ∀s1 s2,dR z zn n l false s1->dR s1.2 s1.zn n l true s2->ai prog (ah (ag f188) 0) 3 66 (wF n 0) (zX n s1.cs s2.cs ak) 3 s2.2 s2.zn (Al.R (QB n s1.cs s2.cs s2.2 s2.zn (fun s=>mG z zn C s)).l):=fun s1 s2 ⟨E,hE,h1⟩ ⟨F,hF,h2⟩=>by
  obtain⟨b1,d,p1,p2,p3,p4,p5⟩:=oq h1
  obtain⟨b2,f,q1,q2,q3,q4,q5⟩:=oq h2
  have hle:=h2.le
  have:=Bu n hn b1 b2 d f (by omega) q2 (lU p4 p2 h2.fE) q4 h2.bH
  rw[hC d f ⟨E,F,hE,hF,p5,q5⟩] at this
  rw[p3,q3]
  refine pz this fun o ho=>?_
  rcases ho with ⟨s,hs,e⟩|ho
  ·exact .inl ⟨s,BH hs (Nat.le_trans h1.le hle) fun k hk=>(h2.fE k (by have:=h1.le;omega)).trans (h1.fE k hk),e⟩
  ·exact .inr ho
 have srt: ∀s,mG z zn C s->aP prog s.3 s.zn 221 [s.v, .func (.func 222) #[] #[]] [] 0 0 (fun _:Unit=>True) (fun _=> .tuple ⟨[]⟩) (fun _=>[]):=fun s hs=>hS z zn s hs
 have rv: ∀s,mG z zn C s->aJ (aj [] []) s.v=some s.v:=fun s h=>by
  rcases h.val with ⟨_,e1,e2⟩|⟨_,kk,_,_,e1,e2,_⟩
  ·obtain⟨oa,k,z,zn⟩:=s
   simp only at e1 e2;subst e1 e2;rfl
  ·obtain⟨oa,k,z,zn⟩:=s
   simp only at e1 e2;subst e1 e2
   exact jL [] kk C.length C.length
 have rl: ∀s,mG z zn C s->aT (sig []) [s.v, .func (.func 222) #[] #[]]=some [s.v, .func (.func 222) #[] #[]]:=fun s h=>by
  have:=rv s h
  have h2:aJ (aj [] []) (.func (.func 222) #[] #[])=some (.func (.func 222) #[] #[]):=rfl
  show aT (aj [] []) _=_
  simp only[aT,this,h2]
 refine eM (cZ T.leaf) (fn:=f188) (by kernel_rfl) (by kernel_rfl) hz ⟨by decide,by decide⟩ (fun s' hs'=>⟨rfl,hs'.le,hs'.bH⟩) (N:=100) ?_
 refine cl z zn n l.length cp (dR z zn n l false) (fun s=>dR s.2 s.zn n l true) (fun _ _=>mG z zn C) _ ?_
 (repeat' first|(with_reducible first|exact rfl|assumption|apply And.intro|exact d2 _ ‹_›|exact srt _ ‹_›|exact bH ‹_›|exact mG.bH ‹_›|exact rw1 ‹_› _ _|exact rw2 ‹_› _ _|exact rv _ ‹_›|exact rl _ ‹_›)|exact lp _ _ (by with_reducible assumption) (by with_reducible assumption)|intro hq)
 rename_i x hx _
 exact q2 x hx rfl rfl rfl rfl rfl
theorem Rq(hz:au z zn)(n:Nat)(hn:n<=64)(C:List ab)(hC: ∀d f,DF n [] d f->eR d f n n=C)(hS:kX C):
 bq prog z zn 188 [ak,iv n] [] 0 0 (mG z zn C) (fun s=>s.v) (fun _=>[]) (fun s=>s.z) (fun s=>s.zn):=by
 have d1:=Fg hz n hn false
 have rw1: ∀{z zn b s},dR z zn n [] b s-> ∀σ c,aC (aj σ []) (aa.ay (aR.mk s.cs c 1 90 true true 0 true))=some (aa.ay (aR.mk s.cs c 1 90 true true 0 true)):=fun {z zn b s} ⟨E,_,h⟩ σ c=>by
  obtain⟨b,_,_,h,_⟩:=h.row
  rw[h];exact m9 _ _ _ _ _
 have rw2: ∀{z zn b s},dR z zn n [] b s-> ∀σ c,aC (sig σ) (aa.ay (aR.mk s.cs c 1 90 true true 0 true))=some (aa.ay (aR.mk s.cs c 1 90 true true 0 true)):=fun h σ c=>rw1 h σ c
 have bH: ∀{z zn b s},dR z zn n [] b s->au s.2 s.zn:=fun {z zn b s} ⟨E,_,h⟩=>h.bH
 have d2: ∀s,dR z zn n [] false s->bq prog s.2 s.zn 219 [ak,iv n,T1] [] 0 1 (dR s.2 s.zn n [] true) (fun _=>bc 0 n n) (fun s=>[(0,ux s.cs n)]) (fun s=>s.z) (fun s=>s.zn):=fun s ⟨E,_,h⟩=>Fg h.bH n hn true
 have lp: ∀s1 s2,dR z zn n [] false s1->dR s1.2 s1.zn n [] true s2->ai prog (ah (ag f188) 0) 3 66 (wF n 0) (zX n s1.cs s2.cs ak) 3 s2.2 s2.zn (Al.R (QB n s1.cs s2.cs s2.2 s2.zn (fun s=>mG z zn C s)).l):=fun s1 s2 ⟨E,hE,h1⟩ ⟨F,hF,h2⟩=>by
  obtain⟨b1,d,p1,p2,p3,p4,p5⟩:=oq h1
  obtain⟨b2,f,q1,q2,q3,q4,q5⟩:=oq h2
  have hle:=h2.le
  have:=Bu n hn b1 b2 d f (by omega) q2 (lU p4 p2 h2.fE) q4 h2.bH
  rw[hC d f ⟨E,F,hE,hF,p5,q5⟩] at this
  rw[p3,q3]
  refine pz this fun o ho=>?_
  rcases ho with ⟨s,hs,e⟩|ho
  ·exact .inl ⟨s,BH hs (Nat.le_trans h1.le hle) fun k hk=>(h2.fE k (by have:=h1.le;omega)).trans (h1.fE k hk),e⟩
  ·exact .inr ho
 have srt: ∀s,mG z zn C s->aP prog s.3 s.zn 221 [s.v, .func (.func 222) #[] #[]] [] 0 0 (fun _:Unit=>True) (fun _=> .tuple ⟨[]⟩) (fun _=>[]):=fun s hs=>hS z zn s hs
 have rv: ∀s,mG z zn C s->aJ (aj [] []) s.v=some s.v:=fun s h=>by
  rcases h.val with ⟨_,e1,e2⟩|⟨_,kk,_,_,e1,e2,_⟩
  ·obtain⟨oa,k,z,zn⟩:=s
   simp only at e1 e2;subst e1 e2;rfl
  ·obtain⟨oa,k,z,zn⟩:=s
   simp only at e1 e2;subst e1 e2
   exact jL [] kk C.length C.length
 have rl: ∀s,mG z zn C s->aT (sig []) [s.v, .func (.func 222) #[] #[]]=some [s.v, .func (.func 222) #[] #[]]:=fun s h=>by
  have:=rv s h
  have h2:aJ (aj [] []) (.func (.func 222) #[] #[])=some (.func (.func 222) #[] #[]):=rfl
  show aT (aj [] []) _=_
  simp only[aT,this,h2]
 refine eM (cZ T.leaf) (fn:=f188) (by kernel_rfl) (by kernel_rfl) hz ⟨by decide,by decide⟩ (fun s' hs'=>⟨rfl,hs'.le,hs'.bH⟩) (N:=100) ?_
 refine clz z zn n (dR z zn n [] false) (fun s=>dR s.2 s.zn n [] true) (fun _ _=>mG z zn C) _ ?_
 (repeat' first|(with_reducible first|exact rfl|assumption|apply And.intro|exact d2 _ ‹_›|exact srt _ ‹_›|exact bH ‹_›|exact mG.bH ‹_›|exact rw1 ‹_› _ _|exact rw2 ‹_› _ _|exact rv _ ‹_›|exact rl _ ‹_›)|exact lp _ _ (by with_reducible assumption) (by with_reducible assumption)|intro hq)
 rename_i x hx _
 exact q2 x hx rfl rfl rfl rfl rfl
end
def pO(C:List ab):Prop:= ∀(i j:Nat)(x y:ab),i<j->C[i]? =some x->C[j]? =some y->decide (sm y.fz1 y.aB y.aI x.fz1 x.aB x.aI<0)=false
abbrev BG(C:List ab):aR:=⟨(C.map ab.row).flatten,C.length*4,4,141,false,false,0,true⟩
theorem lF{C:List ab}{i:Nat}{x:ab}(hx:C[i]? =some x):aq prog (BG C) 141 (0+i*4)=some (.agg ⟨x.row⟩):=
 gE (rows:=C.map ab.row) rfl (r:=x.row) (sz:=4) underlying141 rfl rfl (aM (row:=ab.row) (sz:=4) C fun _=>rfl) (by rw[List.getElem?_map,hx];rfl)
theorem KH{z:T aa}{zn:Nat}(hz:au z zn){f:Nat}{args:List Value}{v:Value}(hp:bE args=true)(hv:aD v=true)(h: ∀w,Calls prog f ⟨args⟩ w fun e w'=>e= .returned v/\w'=w):A1 z zn f args [] 0 0 v []:=by
 refine⟨hz,Nat.le_refl _,by decide,fun _ _=>KB hz (fun b o h=>by cases h),fun ρ w args' n hargs hh hf hfb=>callsIn_wide.2 ?_⟩
 have e:=hargs.plain hp
 subst e
 exact(h w).mono fun e w' ⟨h1,h2⟩=>⟨(),trivial,ρ,v,h1,VR.bw hv,by rw[h2];exact hh,by rw[h2];exact hX.refl _ _ _ _ _ _ _⟩
section
variable{z:T aa}{zn kk:Nat}{C:List ab}
theorem UJ(hz:au z zn)(hk:z.get kk=some (.ay (BG C)))(hS:pO C){a b n:Nat}(hn:n=C.length)(hab:a<b)(hb:b<C.length):
 A1 z zn 284 [tb kk n n,iv a,iv b,ip 0,iU] [(0,LG)] 1 1 (.tuple ⟨[iv a,iv b]⟩) [(0,LG)]:=by
 subst hn
 obtain⟨x,hx⟩: ∃x,C[a]? =some x:=⟨_,List.getElem?_eq_getElem (by omega)⟩
 obtain⟨y,hy⟩: ∃y,C[b]? =some y:=⟨_,List.getElem?_eq_getElem hb⟩
 have hc:=hS a b x y hab hx hy
 have r1:=lF hx
 have r2:=lF hy
 have hc':Value.bool (decide (sm y.fz1 y.aB y.aI x.fz1 x.aB x.aI<0))= .bool false:=by rw[hc]
 refine aK1 (mQ z) (fn:=f284) hz (N:=100) ?_
 refine jo2 z zn kk C.length a b (BG C) x y _ ?_
 (repeat' first|(with_reducible first|exact rfl|assumption|apply And.intro|exact(by omega:a<C.length))|exact(rfl:gS _ _=_)|exact q1)
theorem UN(hz:au z zn)(hk:z.get kk=some (.ay (BG C)))(hS:pO C){a b c n:Nat}(hn:n=C.length)(hab:a<b)(hbc:b<c)(hc:c<C.length):
 A1 z zn 279 [tb kk n n,iv a,iv b,iv c,ip 0,iU] [(0,LG)] 1 1 (iv b) [(0,LG)]:=by
 have h1:=UJ hz hk hS hn hab (by omega)
 have h2:=UJ hz hk hS hn hbc hc
 refine aK1 (mQ z) (fn:=f279) hz (N:=100) ?_
 refine jmd z zn kk n a b c _ ?_
 (repeat' first|(with_reducible first|exact rfl|assumption|apply And.intro)|exact h1|exact h2|exact q1|intro hq)
theorem sH{x:Int}(h: -9223372036854775808<=x)(h2:x<=9223372036854775807):Value.int .i64 (IntKind.i64.wrap x)=Value.int .i64 x:=by
 have:IntKind.i64.wrap x=x:=by
  simp only[IntKind.wrap,IntKind.signed,IntKind.bits]
  simp
  omega
 rw[this]
theorem Rm(hz:au z zn)(hk:z.get kk=some (.ay (BG C)))(hS:pO C){a n:Nat}(hn:n=C.length)(hc:a+2<C.length)(hs:C.length<100000):
 A1 z zn 278 [tb kk n n,iv (a+1),ip 0,iU] [(0,LG)] 1 1 (iv (a+1)) [(0,LG)]:=by
 have h1:=UN hz hk hS hn (show a<a+1 by omega) (show a+1<a+2 by omega) hc
 have e:(((a+1:Nat):Int) - 1)=(a:Int):=by omega
 have w1:Value.int .i64 (IntKind.i64.wrap (((a+1:Nat):Int) - 1))=Value.int .i64 (((a+1:Nat):Int) - 1):=sH (by omega) (by omega)
 have w2:Value.int .i64 (IntKind.i64.wrap (((a+1:Nat):Int)+1))=Value.int .i64 ((a+1+1:Nat):Int):=bF (by omega)
 refine aK1 (mQ z) (fn:=f278) hz (N:=100) ?_
 refine jma z zn kk n a _ ?_
 rw[e] at w1 ⊢
 (repeat' first|(with_reducible first|exact rfl|assumption|apply And.intro)|exact h1|exact q1|intro hq)
theorem ZH(hz:au z zn)(hk:z.get kk=some (.ay (BG C)))(hS:pO C){n:Nat}(hn:n=C.length)(h8:12<n)(hs:C.length<100000):
 A1 z zn 267 [tb kk n n,I 0,iv n,iU] [] 0 1 (.tuple ⟨[iv (n / 4*2),I 1]⟩) []:=by
 have e0:((n:Int) - 0).tdiv 4=((n / 4:Nat):Int):=by rw[Int.sub_zero];rfl
 obtain⟨q,hv⟩: ∃q,n / 4=q:=⟨_,rfl⟩
 rw[hv] at e0 ⊢
 have e1:(0+(q:Int)*1)=((q:Nat):Int):=by omega
 have e2:(0+(q:Int)*2)=((q*2:Nat):Int):=by omega
 have e3:(0+(q:Int)*3)=((q*3:Nat):Int):=by omega
 have hq3:3<=q:=by omega
 have hq4:q*4<=n:=by omega
 have w0:Value.int .i64 (IntKind.i64.wrap ((n:Int) - 0))=Value.int .i64 ((n:Int) - 0):=sH (by omega) (by omega)
 have w1:Value.int .i64 (IntKind.i64.wrap (q:Int))=Value.int .i64 (q:Int):=sH (by omega) (by omega)
 have w2: ∀c:Int,0<=c->c<=3->Value.int .i64 (IntKind.i64.wrap ((q:Int)*c))=Value.int .i64 ((q:Int)*c):=fun c h1 h2=>sH (by
  have:c=0\/c=1\/c=2\/c=3:=by omega
  rcases this with rfl|rfl|rfl|rfl<;>omega) (by
  have:c=0\/c=1\/c=2\/c=3:=by omega
  rcases this with rfl|rfl|rfl|rfl<;>omega)
 have w3: ∀c:Nat,c<=3->Value.int .i64 (IntKind.i64.wrap ((q*c:Nat):Int))=Value.int .i64 ((q*c:Nat):Int):=fun c h2=>sH (by omega) (by
  have:q*c<=q*3:=Nat.mul_le_mul_left _ h2
  omega)
 have d8:Value.bool (decide ((n:Int) - 0>=8))=T1:=by rw[show decide ((n:Int) - 0>=8)=true by simp;omega]
 have m1:=UN hz hk hS hn (show q<q*2 by omega) (show q*2<q*3 by omega) (by omega)
 obtain⟨q',rfl⟩: ∃q',q=q'+1:=⟨q - 1,by omega⟩
 have g1:=Rm hz hk hS (a:=q') hn (by omega) hs
 have g2:=Rm hz hk hS (a:=(q'+1)*2 - 1) hn (by omega) hs
 have g3:=Rm hz hk hS (a:=(q'+1)*3 - 1) hn (by omega) hs
 rw[show(q'+1)*2 - 1+1=(q'+1)*2 by omega] at g2
 rw[show(q'+1)*3 - 1+1=(q'+1)*3 by omega] at g3
 have w31:=w3 1 (by omega)
 rw[Nat.mul_one] at w31
 refine aK1 (mQ z) (fn:=f267) hz (N:=100) ?_
 refine jcp z zn kk n 0 0 0 _ ?_
 rw[e0,e1,e2,e3]
 (repeat' first|(with_reducible first|exact rfl|assumption|apply And.intro|exact w2 _ (by decide) (by decide)|exact w3 _ (by decide)|exact q1)|exact m1|exact g1|exact g2|exact g3|intro hq)
theorem M5(hz:au z zn)(hk:z.get kk=some (.ay (BG C)))(hS:pO C){n:Nat}(hn:n=C.length)(i:Nat)(hi:0<i)(hin:i<n)(hs:C.length<100000):
 ai prog (ah (ah (ag f162) 0) 0) 0 53 (Gh (tb kk n n) n i i) [] 0 z zn (Al.R (XS z zn (tb kk n n) n i).l):=by
 subst hn
 obtain⟨j,rfl⟩: ∃j,i=j+1:=⟨i - 1,by omega⟩
 obtain⟨x,hx⟩: ∃x,C[j]? =some x:=⟨_,List.getElem?_eq_getElem (by omega)⟩
 obtain⟨y,hy⟩: ∃y,C[j+1]? =some y:=⟨_,List.getElem?_eq_getElem hin⟩
 have hc:=hS j (j+1) x y (by omega) hx hy
 have r1:=lF hx
 have r2:=lF hy
 have hc':Value.bool (decide (sm y.fz1 y.aB y.aI x.fz1 x.aB x.aI<0))= .bool false:=by rw[hc]
 have w1:Value.int .i64 (IntKind.i64.wrap (((j+1:Nat):Int) - 1))=Value.int .i64 (((j+1:Nat):Int) - 1):=sH (by omega) (by omega)
 refine ax hD (mQ z) (α:=Unit) 0 53 0 (fun _=>True) (fun _=>Gh (tb kk C.length C.length) C.length (j+1) (j+1)) (fun _=>[]) (fun _=>z) (fun _=>zn) (fun _=>0) _ (fun _ hI=>?_) () trivial
 refine t100 (ji1 z zn kk C.length (j+1) j (BG C) x y (an _ _ _ _ _ _ _ _ _) ?_)
 (repeat' first|(with_reducible first|exact rfl|assumption|apply And.intro|exact(by omega:j<C.length)|exact(by omega:((j+1:Nat):Int) - 1=(j:Int)))|exact(rfl:gS _ _=_)|intro hq)
 all_goals first
  |exact bu trivial
theorem M6(hz:au z zn)(hk:z.get kk=some (.ay (BG C)))(hS:pO C){n:Nat}(hn:n=C.length)(hs:C.length<100000):
 ai prog (ah (ag f162) 0) 0 53 (qx (tb kk n n) n 1) [] 0 z zn (Al.R (T6 z zn (tb kk n n) n).l):=by
 refine ax hD (mQ z) (α:=Nat) 0 53 0 (fun i=>0<i/\i<=n+1) (fun i=>qx (tb kk n n) n i) (fun _=>[]) (fun _=>z) (fun _=>zn) (fun i=>n+1 - i) _ (fun i hI=>?_) 1 ⟨by omega,by omega⟩
 obtain⟨h1,h2⟩:=hI
 refine t100 (ji0 z zn kk n i (an _ _ _ _ _ _ _ _ _) ?_)
 by_cases hi:i<n
 ·have hL:=M5 hz hk hS hn i h1 hi hs
  have d1:decide ((i:Int)<(n:Int))=true:=by simp;omega
  refine⟨fun _=>?_,nC1 d1⟩
  (repeat' first|(with_reducible first|exact rfl|assumption|apply And.intro|exact bF (by omega))|exact hL|intro hq)
  all_goals first
   |exact⟨i+1,rfl,rfl,rfl,rfl,rfl,⟨by omega,by omega⟩,by show n+1 - (i+1)<n+1 - i;omega⟩
 ·have d1:decide ((i:Int)<(n:Int))=false:=by simp;omega
  refine⟨nC1 d1,fun _=>?_⟩
  (repeat' first|(with_reducible first|exact rfl|assumption|apply And.intro))
  all_goals exact bu trivial
theorem UQ(hz:au z zn)(hk:z.get kk=some (.ay (BG C)))(hS:pO C){n:Nat}(hn:n=C.length)(hs:C.length<100000):
 A1 z zn 162 [tb kk n n,I 0,iv n,iU] [] 0 0 (.tuple ⟨[]⟩) []:=by
 have hL:=M6 hz hk hS hn hs
 refine aK1 (mQ z) (fn:=f162) hz (N:=100) ?_
 refine ji z zn kk n _ ?_
 (repeat' first|(with_reducible first|exact rfl|assumption|apply And.intro|exact q1)|exact hL|intro hq)
theorem Rp(hz:au z zn):A1 z zn 162 [ak,I 0,iv 0,iU] [] 0 0 (.tuple ⟨[]⟩) []:=by
 have hL:ai prog (ah (ag f162) 0) 0 53 (qx ak 0 1) [] 0 z zn (Al.R (T6 z zn ak 0).l):=by
  refine ax hD (mQ z) (α:=Unit) 0 53 0 (fun i=>True) (fun i=>qx ak 0 1) (fun _=>[]) (fun _=>z) (fun _=>zn) (fun i=>0) _ (fun i hI=>?_) () trivial
  refine t100 (X5 z zn (an _ _ _ _ _ _ _ _ _) ?_)
  (repeat' first|(with_reducible first|exact rfl|assumption|apply And.intro))
  all_goals exact bu trivial
 refine aK1 (mQ z) (fn:=f162) hz (N:=100) ?_
 refine jiz z zn _ ?_
 (repeat' first|(with_reducible first|exact rfl|assumption|apply And.intro|exact q1)|exact hL|intro hq)
theorem MU(hz:au z zn)(hk:z.get kk=some (.ay (BG C)))(hS:pO C){n:Nat}(hn:n=C.length)(h1n:1<=n)(hs:C.length<100000):
 ai prog (ah (ah (ag f269) 0) 0) 0 141 (jS kk n 1 0) [] 0 z zn (Al.R (TV z zn kk n).l):=by
 subst hn
 refine ax hD (mQ z) (α:=Nat) 0 141 0 (fun i=>i<C.length) (fun i=>jS kk C.length (i+1) 0) (fun _=>[]) (fun _=>z) (fun _=>zn) (fun i=>C.length - i) _ (fun i hI=>?_) 0 h1n
 obtain⟨x,hx⟩: ∃x,C[i]? =some x:=⟨_,List.getElem?_eq_getElem hI⟩
 by_cases hi:i+1<C.length
 ·obtain⟨y,hy⟩: ∃y,C[i+1]? =some y:=⟨_,List.getElem?_eq_getElem hi⟩
  have hc:=hS i (i+1) x y (by omega) hx hy
  have r1:=lF hx
  have r2:=lF hy
  have hc':Value.bool (decide (sm y.fz1 y.aB y.aI x.fz1 x.aB x.aI<0))= .bool false:=by rw[hc]
  have w1:Value.int .i64 (IntKind.i64.wrap (((i+1:Nat):Int) - 1))=Value.int .i64 (((i+1:Nat):Int) - 1):=sH (by omega) (by omega)
  have d1:decide (((i+1:Nat):Int)<(C.length:Int))=true:=by simp;omega
  refine t100 (jq1 z zn kk C.length i (BG C) x y (an _ _ _ _ _ _ _ _ _) ⟨fun _=>?_,nC1 d1⟩)
  (repeat' first|(with_reducible first|exact rfl|assumption|apply And.intro|exact(by omega:((i+1:Nat):Int) - 1=(i:Int))|exact bF (by omega))|exact(rfl:gS _ _=_))
  all_goals first
   |exact⟨i+1,rfl,rfl,rfl,rfl,rfl,hi,by show C.length - (i+1)<C.length - i;omega⟩
 ·have d1:decide (((i+1:Nat):Int)<(C.length:Int))=false:=by simp;omega
  refine t100 (jq1 z zn kk C.length i (BG C) x x (an _ _ _ _ _ _ _ _ _) ⟨nC1 d1,fun _=>?_⟩)
  have e:i+1=C.length:=by omega
  rw[←e]
  (repeat' first|(with_reducible first|exact rfl|assumption|apply And.intro))
  all_goals exact bu trivial
theorem MV(hz:au z zn)(hk:z.get kk=some (.ay (BG C)))(hS:pO C){n:Nat}(hn:n=C.length)(h1n:1<=n)(hs:C.length<100000):
 ai prog (ah (ag f269) 0) 0 141 (jS kk n 1 0) [] 0 z zn (Al.R (TW z zn kk n).l):=by
 have hL:=MU hz hk hS hn h1n hs
 refine ax hD (mQ z) (α:=Unit) 0 141 0 (fun _=>True) (fun _=>jS kk n 1 0) (fun _=>[]) (fun _=>z) (fun _=>zn) (fun _=>0) _ (fun i hI=>?_) () trivial
 have hb:Value.bool ((n:Int)==(n:Int))=Value.bool true:=by simp
 refine t100 (jq0 z zn kk n (an _ _ _ _ _ _ _ _ _) ?_)
 (repeat' first|(with_reducible first|exact rfl|assumption|apply And.intro)|exact hL|intro hq)
 all_goals first
  |exact bu trivial
theorem Rk(hz:au z zn)(hk:z.get kk=some (.ay (BG C)))(hS:pO C){n:Nat}(hn:n=C.length)(h1n:1<=n)(hs:C.length<100000):
 A1 z zn 269 [tb kk n n,I 0,iv n,iU] [] 0 0 T1 []:=by
 have hL:=MV hz hk hS hn h1n hs
 refine aK1 (mQ z) (fn:=f269) hz (N:=100) ?_
 refine jq z zn kk n _ ?_
 (repeat' first|(with_reducible first|exact rfl|assumption|apply And.intro|exact q1)|exact hL|intro hq)
theorem UH(hz:au z zn)(hk:z.get kk=some (.ay (BG C)))(hS:pO C){n:Nat}(hn:n=C.length)(hs:C.length<100000)(l:Nat)(hl:12<n->0<l):
 A1 z zn 254 [tb kk n n,I 0,iv n,iv l,iU] [] 0 0 (.tuple ⟨[]⟩) []:=by
 have hL:ai prog (ah (ag f254) 0) 0 148 (vg (tb kk n n) n l) [] 0 z zn (Al.R (TZ z zn (tb kk n n) n l).l):=by
  refine ax hD (mQ z) (α:=Unit) 0 148 0 (fun _=>True) (fun _=>vg (tb kk n n) n l) (fun _=>[]) (fun _=>z) (fun _=>zn) (fun _=>0) _ (fun i hI=>?_) () trivial
  have w0:Value.int .i64 (IntKind.i64.wrap ((n:Int) - 0))=Value.int .i64 ((n:Int) - 0):=sH (by omega) (by omega)
  refine t100 (jp0 z zn kk n l (n / 4*2) (an _ _ _ _ _ _ _ _ _) ⟨w0,?_⟩)
  by_cases h12:n<=12
  ·have d1:decide ((n:Int) - 0<=12)=true:=by simp;omega
   have h1:=UQ hz hk hS hn hs
   refine⟨fun _=>?_,nC1 d1⟩
   (repeat' first|(with_reducible first|exact rfl|assumption|apply And.intro)|intro hq)
   all_goals exact bu trivial
  ·have d1:decide ((n:Int) - 0<=12)=false:=by simp;omega
   have h1:=ZH hz hk hS hn (by omega) hs
   have h2:=Rk hz hk hS hn (by omega) hs
   have hl0:Value.bool ((l:Int)==0)=Value.bool false:=by
    have:=hl (by omega)
    rw[show((l:Int)==0)=false by simp;omega]
   refine⟨nC1 d1,fun _=>?_⟩
   (repeat' first|(with_reducible first|exact rfl|assumption|apply And.intro)|intro hq)
   all_goals exact bu trivial
 refine aK1 (mQ z) (fn:=f254) hz (N:=100) ?_
 refine jp z zn n l kk _ ?_
 (repeat' first|(with_reducible first|exact rfl|assumption|apply And.intro|exact q1)|exact hL|intro hq)
theorem Rj(hz:au z zn)(l:Nat):A1 z zn 254 [ak,I 0,iv 0,iv l,iU] [] 0 0 (.tuple ⟨[]⟩) []:=by
 have hL:ai prog (ah (ag f254) 0) 0 148 (vg ak 0 l) [] 0 z zn (Al.R (TZ z zn ak 0 l).l):=by
  refine ax hD (mQ z) (α:=Unit) 0 148 0 (fun _=>True) (fun _=>vg ak 0 l) (fun _=>[]) (fun _=>z) (fun _=>zn) (fun _=>0) _ (fun i hI=>?_) () trivial
  refine t100 (X2 z zn l (an _ _ _ _ _ _ _ _ _) ?_)
  have h1:=Rp hz
  (repeat' first|(with_reducible first|exact rfl|assumption|apply And.intro)|exact h1|intro hq)
  all_goals exact bu trivial
 refine aK1 (mQ z) (fn:=f254) hz (N:=100) ?_
 refine jpz z zn l _ ?_
 (repeat' first|(with_reducible first|exact rfl|assumption|apply And.intro|exact q1)|exact hL|intro hq)
theorem Kr(hz:au z zn){n:Nat}(h:n<100000):A1 z zn 78 [.int .u64 (IntKind.u64.wrap (n:Int))] [] 0 0 (iv (Lib.bitLen n)) []:=by
 have:IntKind.u64.wrap (n:Int)=(n:Int):=by
  simp only[IntKind.wrap,IntKind.signed,IntKind.bits]
  simp
  omega
 rw[this]
 refine KH hz rfl rfl fun w=>?_
 have:=N2 (n:Int) w (by omega) (by omega)
 rw[Int.toNat_natCast] at this
 exact this
theorem DJ{n:Nat}(h:12<n):0<Lib.bitLen n:=by
 unfold Lib.bitLen Lib.bitLenAux
 rw[if_neg (by omega)];omega
theorem Q9(hz:au z zn)(hk:z.get kk=some (.ay (BG C)))(hS:pO C){n:Nat}(hn:n=C.length)(hs:C.length<100000):
 A1 z zn 221 [tb kk n n,iU] [] 0 0 (.tuple ⟨[]⟩) []:=by
 have h1:=Kr hz (n:=n) (by omega)
 have h2:=UH hz hk hS hn hs (Lib.bitLen n) DJ
 refine aK1 (mQ z) (fn:=f221) hz (N:=100) ?_
 refine js z zn kk n (Lib.bitLen n) _ ?_
 (repeat' first|(with_reducible first|exact rfl|assumption|apply And.intro|exact q1)|intro hq)
theorem NP(hz:au z zn):A1 z zn 221 [ak,iU] [] 0 0 (.tuple ⟨[]⟩) []:=by
 have h1:A1 z zn 78 [.int .u64 0] [] 0 0 (iv (Lib.bitLen 0)) []:=Kr hz (n:=0) (by omega)
 have h2:=Rj hz (Lib.bitLen 0)
 refine aK1 (mQ z) (fn:=f221) hz (N:=100) ?_
 refine jsz z zn (Lib.bitLen 0) _ ?_
 (repeat' first|(with_reducible first|exact rfl|assumption|apply And.intro|exact q1)|exact h2|intro hq)
end
theorem wT{C:List ab}(hS:pO C)(hs:C.length<100000):kX C:=fun z zn s h=>by
 obtain⟨oa,k,z',zn'⟩:=s
 have hz:=h.bH
 rcases h.val with ⟨h1,h2,h3⟩|⟨h1,kk,k1,k2,h2,h3,h4⟩<;>simp only at h2 h3 hz
 ·subst h2 h3
  exact NP hz
 ·simp only at h4
  subst h2 h3
  exact Q9 hz h4 hS rfl hs
def Vr(pv:Value):Prop:=(∃m cp,pv=tb 4 m cp)\/pv=ak
def eW(k:Nat):List Value:=List.replicate k (I 1099511627776)
theorem B6(k:Nat):(eW k).length=k:=by simp[eW]
theorem yb(k:Nat):eW (k+1)=eW k++[I 1099511627776]:=by simp[eW,List.replicate_succ']
theorem uS(k:Nat):bE (eW k)=true:=by
 rw[c8];intro v hv;rw[(List.mem_replicate.1 hv).2];rfl
theorem jO(σ:Nat->Option Nat)(k c:Nat)(x y:Bool):aC σ (.ay (aR.mk (eW k) c 1 3 x y 0 true))=some (.ay (aR.mk (eW k) c 1 3 x y 0 true)):=bX (uS k)
abbrev AH(cs:List Value)(n:Nat):aR:=⟨cs,n*1,1,3,false,false,0,true⟩
abbrev Sk(cs:List Value)(k:Nat):aR:=⟨cs,k*1,1,90,false,false,0,true⟩
def dS(b n i:Nat):aR:=if i=0 then ⟨[],0,1,90,true,true,0,true⟩ else Sk (mH b n i) i
section
variable{z:T aa}{zn:Nat}
theorem IY(hz:au z zn)(pv:Value)(hp:Vr pv)(n:Nat)(h0:0<n)(hn:n<=64)(b:Bool)(i:Nat)(bl:aR)(hbl: ∀σ,aC (aj ((3,3)::σ) []) (.ay bl)=some (.ay bl)):
 ai prog (ah (ah (ag f189) 0) 0) 3 116 (lZ pv n b i 0) [(3, .ay bl),(4,FV)] 5 z zn (Al.R (Qt z zn pv n b i (.ay bl) (eW n)).l):=by
 refine ax hD (cZ T.leaf) (α:=Nat) 3 116 5 (fun k=>k<=n) (fun k=>lZ pv n b i k) (fun k=>[(3, .ay bl),(4,if k=0 then FV else AI (eW k) k)]) (fun _=>z) (fun _=>zn) (fun k=>n - k) _ (fun k hk=>?_) 0 (Nat.zero_le _)
 have nx: ∀k',k'=k+1->k<n->an (fun k=>k<=n) (fun k=>lZ pv n b i k) (fun k=>[(3, .ay bl),(4,if k=0 then FV else AI (eW k) k)]) 5 (fun _=>z) (fun _=>zn) (fun k=>n - k) (Al.R (Qt z zn pv n b i (.ay bl) (eW n)).l) k .normal (lZ pv n b i k') [(3, .ay bl),(4,AI (eW k') k')] 5 z zn:=fun k' e h=>by
  subst e
  exact⟨k+1,rfl,by show _=[(3,aa.ay bl),(4,if k+1=0 then FV else AI (eW (k+1)) (k+1))];rw[if_neg (Nat.succ_ne_zero _)],rfl,rfl,rfl,h,by show n - (k+1)<n - k;omega⟩
 by_cases hk0:k=0
 ·subst hk0
  have hc:decide ((0:Int)<(n:Int))=true:=by simp;omega
  rw[if_pos rfl]
  rcases hp with ⟨m,cp,rfl⟩|rfl
  ·refine t100 (Xn z zn n i m cp b bl (an _ _ _ _ _ _ _ _ _) ⟨fun _=>?_,nC1 hc⟩)
   (repeat' first|(with_reducible first|exact rfl|assumption|apply And.intro|exact hbl _))
   exact nx 1 rfl h0
  ·refine t100 (Tg z zn n i b bl (an _ _ _ _ _ _ _ _ _) ⟨fun _=>?_,nC1 hc⟩)
   (repeat' first|(with_reducible first|exact rfl|assumption|apply And.intro|exact hbl _))
   exact nx 1 rfl h0
 ·rw[if_neg hk0]
  by_cases hlt:k<n
  ·have hc:decide ((k:Int)<(n:Int))=true:=by simp;omega
   have hr: ∀σ c x y,aC σ (.ay (aR.mk (eW k++[I 1099511627776]) c 1 3 x y 0 true))=some (.ay (aR.mk (eW k++[I 1099511627776]) c 1 3 x y 0 true)):=fun σ c x y=>by rw[←yb];exact jO _ _ _ _ _
   have eI:an (fun k=>k<=n) (fun k=>lZ pv n b i k) (fun k=>[(3, .ay bl),(4,if k=0 then FV else AI (eW k) k)]) 5 (fun _=>z) (fun _=>zn) (fun k=>n - k) (Al.R (Qt z zn pv n b i (.ay bl) (eW n)).l) k .normal (lZ pv n b i (k+1)) [(3, .ay bl),(4,AI (eW k++[I 1099511627776]) (k+1))] 5 z zn:=by
    rw[←yb];exact nx (k+1) rfl hlt
   rcases hp with ⟨m,cp,rfl⟩|rfl
   ·refine t100 (rs1 z zn n i k m cp b bl (eW k) (an _ _ _ _ _ _ _ _ _) ⟨fun _=>?_,nC1 hc⟩)
    (repeat' first|(with_reducible first|exact rfl|assumption|apply And.intro|exact hbl _|exact hr _ _ _ _|exact(by rw[B6,Nat.mul_one]:(eW k).length=k*1)|exact(by omega:k+1<=1048576)|exact bF (by omega)))
    exact eI
   ·refine t100 (Th z zn n i k b bl (eW k) (an _ _ _ _ _ _ _ _ _) ⟨fun _=>?_,nC1 hc⟩)
    (repeat' first|(with_reducible first|exact rfl|assumption|apply And.intro|exact hbl _|exact hr _ _ _ _|exact(by rw[B6,Nat.mul_one]:(eW k).length=k*1)|exact(by omega:k+1<=1048576)|exact bF (by omega)))
    exact eI
  ·have hc:decide ((k:Int)<(n:Int))=false:=by simp;omega
   have:k=n:=by omega
   subst this
   rcases hp with ⟨m,cp,rfl⟩|rfl
   ·refine t100 (rs1 z zn k i k m cp b bl (eW k) (an _ _ _ _ _ _ _ _ _) ⟨nC1 hc,fun _=>?_⟩)
    (repeat' first|(with_reducible first|exact rfl|assumption|apply And.intro|exact hbl _|exact jO _ _ _ _ _))
    exact bu trivial
   ·refine t100 (Th z zn k i k b bl (eW k) (an _ _ _ _ _ _ _ _ _) ⟨nC1 hc,fun _=>?_⟩)
    (repeat' first|(with_reducible first|exact rfl|assumption|apply And.intro|exact hbl _|exact jO _ _ _ _ _))
    exact bu trivial
structure jz(z0:T aa)(n0 n i:Nat)(s:dD):Prop where
 bH:au s.z s.zn
 zn:s.zn=n0+i
 fE: ∀k,k<n0->s.z.get k=z0.get k
 row: ∀j,j<i->s.z.get (n0+j)=some (.ay (AH (eW n) n))
 bl:s.bl=dS n0 n i
theorem uF{σ:bb}(b n i c:Nat):aC (aj σ []) (.ay (aR.mk (mH b n i) c 1 90 false false 0 true))=some (.ay (aR.mk (mH b n i) c 1 90 false false 0 true)):=by
 have:=qg (σ:=aj σ []) (b:=b) (n:=n) (i:=i) fun j _=>D6 σ _
 simp only[aC,this]
theorem dE{σ:bb}(b n i:Nat):aC (aj σ []) (.ay (dS b n i))=some (.ay (dS b n i)):=by
 unfold dS
 split
 ·rfl
 ·exact uF _ _ _ _
theorem Jk{z0:T aa}{n0 n i:Nat}{z:T aa}(h:jz z0 n0 n i ⟨dS n0 n i,z,n0+i⟩):jz z0 n0 n (i+1) ⟨Sk (mH n0 n i++[tb (n0+i) n n]) (i+1),z.set (n0+i) (.ay (AH (eW n) n)),n0+i+1⟩:=by
 have hz:au z (n0+i):=h.bH
 refine⟨eC hz (uS n),rfl,fun k hk=>?_,fun j hj=>?_,?_⟩
 ·show(z.set (n0+i) _).get k=_
  rw[T.aG,if_neg (by omega)];exact h.fE k hk
 ·show(z.set (n0+i) _).get (n0+j)=_
  rw[T.aG]
  by_cases e:j=i
  ·subst e;rw[if_pos rfl]
  ·rw[if_neg (by omega)];exact h.row j (by omega)
 ·show _=dS n0 n (i+1)
  unfold dS
  rw[if_neg (Nat.succ_ne_zero _),pU]
theorem Bp(z0:T aa)(n0:Nat)(hz0:au z0 n0)(h5:5<=n0)(pv:Value)(hp:Vr pv)(n:Nat)(hn:n<=64)(b:Bool):
 ai prog (ah (ag f189) 0) 1 116 (qw pv n b 0) [(1,GI)] 2 z0 n0 (Al.R (Qu z0 n0 pv n b (jz z0 n0 n n)).l):=by
 refine ax hD (cZ T.leaf) (α:=Nat × T aa) 1 116 2 (fun t=>t.1<=n/\jz z0 n0 n t.1 ⟨dS n0 n t.1,t.2,n0+t.1⟩) (fun t=>qw pv n b t.1) (fun t=>[(1, .ay (dS n0 n t.1))]) (fun t=>t.2) (fun t=>n0+t.1) (fun t=>n - t.1) _ (fun t hI=>?_) (0,z0) ⟨Nat.zero_le _,hz0,rfl,fun _ _=>rfl,fun j hj=>absurd hj (Nat.not_lt_zero _),rfl⟩
 obtain⟨i,z⟩:=t
 obtain⟨hi,hs⟩:=hI
 simp only at hi hs ⊢
 have hz:au z (n0+i):=hs.bH
 have rX: ∀σ,aC (aj ((3,3)::σ) []) (.ay (dS n0 n i))=some (.ay (dS n0 n i)):=fun σ=>dE _ _ _
 have rT: ∀{σ:bb} {o:aa} {m cp:Nat},aJ (aj σ [(n0+i,4,o)]) (tb 4 m cp)=some (tb 4 m cp):=fun {σ o m cp}=>by
  simp only[aJ,ky (σ:=σ) (c:=4) (o:=o) (show 4≠n0+i by omega)]
 have rR: ∀σ o,aC (aj σ [(n0+i,4,o)]) (.ay (aR.mk (mH n0 n i++[tb (n0+i) n n]) ((i+1)*1) 1 90 false false 0 true))=some (.ay (aR.mk (mH n0 n i++[bc 4 n n]) ((i+1)*1) 1 90 false false 0 true)):=fun σ o=>by
  have q1:=qg (σ:=aj σ [(n0+i,4,o)]) (b:=n0) (n:=n) (i:=i) fun j hj=>ky (by omega)
  have q2:aT (aj σ [(n0+i,4,o)]) [tb (n0+i) n n]=some [bc 4 n n]:=by
   have:=fO (σ:=σ) (k:=n0+i) (c:=4) (n:=n) (m:=n) (o:=o)
   simp only[aT,this]
  simp only[aC,nh q1 q2]
 by_cases hlt:i<n
 ·have nx:an (fun t:Nat × T aa=>t.1<=n/\jz z0 n0 n t.1 ⟨dS n0 n t.1,t.2,n0+t.1⟩) (fun t=>qw pv n b t.1) (fun t=>[(1, .ay (dS n0 n t.1))]) 2 (fun t=>t.2) (fun t=>n0+t.1) (fun t=>n - t.1) (Al.R (Qu z0 n0 pv n b (jz z0 n0 n n)).l) (i,z) .normal (qw pv n b (i+1)) [(1, .ay (Sk (mH n0 n i++[tb (n0+i) n n]) (i+1)))] 2 (z.set (n0+i) (.ay (AH (eW n) n))) (n0+i+1):=by
   have e:dS n0 n (i+1)=Sk (mH n0 n i++[tb (n0+i) n n]) (i+1):=by
    unfold dS;rw[if_neg (Nat.succ_ne_zero _),pU]
   refine⟨(i+1,z.set (n0+i) (.ay (AH (eW n) n))),rfl,?_,rfl,rfl,rfl,⟨hlt,?_⟩,by show n - (i+1)<n - i;omega⟩
   ·show _=[(1,aa.ay (dS n0 n (i+1)))]
    rw[e]
   ·have:=Jk hs
    rw[←e] at this;exact this
  have hl1:=IY hz pv hp n (by omega) hn b i (dS n0 n i) rX
  by_cases hi0:i=0
  ·subst hi0
   have hc:decide ((0:Int)<(n:Int))=true:=by simp;omega
   rw[show dS n0 n 0=⟨[],0,1,90,true,true,0,true⟩ from rfl] at hl1 ⊢
   have rR':=fun σ o=>rR σ o
   rcases hp with ⟨m,cp,rfl⟩|rfl
   ·refine t100 (Ti z (n0+0) n m cp b (eW n) (an _ _ _ _ _ _ _ _ _) ⟨fun _=>?_,nC1 hc⟩)
    (repeat' first|(with_reducible first|exact rfl|assumption|apply And.intro|exact rT|exact jO _ _ _ _ _|exact Nat.le_refl _|exact Nat.lt_succ_self _)|exact hl1|exact rR _ _|exact Nat.le_succ _|intro hq)
    exact nx
   ·refine t100 (Ox z (n0+0) n b (eW n) (an _ _ _ _ _ _ _ _ _) ⟨fun _=>?_,nC1 hc⟩)
    (repeat' first|(with_reducible first|exact rfl|assumption|apply And.intro|exact jO _ _ _ _ _|exact Nat.le_refl _|exact Nat.lt_succ_self _)|exact hl1|exact rR _ _|exact Nat.le_succ _|intro hq)
    exact nx
  ·have hc:decide ((i:Int)<(n:Int))=true:=by simp;omega
   have eX:dS n0 n i=Sk (mH n0 n i) i:=by unfold dS;rw[if_neg hi0]
   rw[eX] at hl1 ⊢
   rcases hp with ⟨m,cp,rfl⟩|rfl
   ·refine t100 (rs0 z (n0+i) n i m cp b (mH n0 n i) (eW n) (an _ _ _ _ _ _ _ _ _) ⟨fun _=>?_,nC1 hc⟩)
    (repeat' first|(with_reducible first|exact rfl|assumption|apply And.intro|exact rT|exact rR _ _|exact uF _ _ _ _|exact jO _ _ _ _ _|exact(by rw[pV,Nat.mul_one]:(mH n0 n i).length=i*1)|exact(by omega:i+1<=1048576)|exact bF (by omega)|exact Nat.le_refl _|exact Nat.lt_succ_self _)|exact hl1|exact Nat.le_succ _|intro hq)
    exact nx
   ·refine t100 (Tj z (n0+i) n i b (mH n0 n i) (eW n) (an _ _ _ _ _ _ _ _ _) ⟨fun _=>?_,nC1 hc⟩)
    (repeat' first|(with_reducible first|exact rfl|assumption|apply And.intro|exact rR _ _|exact uF _ _ _ _|exact jO _ _ _ _ _|exact(by rw[pV,Nat.mul_one]:(mH n0 n i).length=i*1)|exact(by omega:i+1<=1048576)|exact bF (by omega)|exact Nat.le_refl _|exact Nat.lt_succ_self _)|exact hl1|exact Nat.le_succ _|intro hq)
    exact nx
 ·have hin:i=n:=by omega
  subst hin
  have hc:decide ((i:Int)<(i:Int))=false:=by simp
  have fin:an (fun t:Nat × T aa=>t.1<=i/\jz z0 n0 i t.1 ⟨dS n0 i t.1,t.2,n0+t.1⟩) (fun t=>qw pv i b t.1) (fun t=>[(1, .ay (dS n0 i t.1))]) 2 (fun t=>t.2) (fun t=>n0+t.1) (fun t=>i - t.1) (Al.R (Qu z0 n0 pv i b (jz z0 n0 i i)).l) (i,z) (.exit 0) [(0,pv),(1,iv i),(2, .bool b),(7,bc 1 i i)] [(1, .ay (dS n0 i i))] 2 z (n0+i):=
   yh (k:=fun _=>dP) (⟨dS n0 i i,z,n0+i⟩:dD) hs rfl
  by_cases hi0:i=0
  ·subst hi0
   have hc:decide ((0:Int)<((0:Nat):Int))=false:=by simp
   rcases hp with ⟨m,cp,rfl⟩|rfl
   ·refine t100 (Ti z (n0+0) 0 m cp b (eW 0) (an _ _ _ _ _ _ _ _ _) ⟨nC1 hc,fun _=>?_⟩)
    (repeat' first|(with_reducible first|exact rfl|assumption|apply And.intro))
    exact fin
   ·refine t100 (Ox z (n0+0) 0 b (eW 0) (an _ _ _ _ _ _ _ _ _) ⟨nC1 hc,fun _=>?_⟩)
    (repeat' first|(with_reducible first|exact rfl|assumption|apply And.intro))
    exact fin
  ·have eX:dS n0 i i=Sk (mH n0 i i) i:=by unfold dS;rw[if_neg hi0]
   rw[eX] at fin ⊢
   rcases hp with ⟨m,cp,rfl⟩|rfl
   ·refine t100 (rs0 z (n0+i) i i m cp b (mH n0 i i) (eW i) (an _ _ _ _ _ _ _ _ _) ⟨nC1 hc,fun _=>?_⟩)
    (repeat' first|(with_reducible first|exact rfl|assumption|apply And.intro|exact uF _ _ _ _))
   ·refine t100 (Tj z (n0+i) i i b (mH n0 i i) (eW i) (an _ _ _ _ _ _ _ _ _) ⟨nC1 hc,fun _=>?_⟩)
    (repeat' first|(with_reducible first|exact rfl|assumption|apply And.intro|exact uF _ _ _ _))
end
structure Hm(z0:T aa)(n0 n:Nat)(z:T aa)(M:Nat->Nat->Int):Prop where
 bH:au z (n0+n)
 fE: ∀k,k<n0->z.get k=z0.get k
 row: ∀i,i<n-> ∃l:List Int,z.get (n0+i)=some (.ay (AH (l.map zv) n))/\l.length=n/\ ∀j,j<n->l[j]? =some (M i j)
abbrev mr:Nat:=1099511627776
structure BM(n:Nat)(M:Nat->Nat->Int):Prop where
 le: ∀i j,i<n->j<n->M i j<=(mr:Int)
theorem qt{z0:T aa}{n0 n:Nat}{z:T aa}{M:Nat->Nat->Int}(h:Hm z0 n0 n z M){i j:Nat}(hi:i<n)(hj:j<n){l:List Int}(hl: ∀j,j<n->l[j]? =some (M i j)):aq prog (AH (l.map zv) n) 3 (0+j*1)=some (zv (M i j)):=
 im (d:=_) underlying3 rfl (by show(l.map zv)[j]? =_;rw[List.getElem?_map,hl j hj];rfl)
theorem Ir(l:List Int):bE (l.map zv)=true:=by
 rw[c8];intro v hv
 obtain⟨x,_,rfl⟩:=List.mem_map.1 hv;rfl
theorem EJ{z0:T aa}{n0 n:Nat}{z:T aa}{M:Nat->Nat->Int}(h:Hm z0 n0 n z M){i j:Nat}(hi:i<n)(hj:j<n){l:List Int}(hll:l.length=n)(hl: ∀j,j<n->l[j]? =some (M i j))(w:Int):Hm z0 n0 n (z.set (n0+i) (.ay (AH ((l.set j w).map zv) n))) (pQ M i j w):=by
 refine⟨nD h.bH (by omega) fun σ _=>bX (Ir _),fun k hk=>?_,fun a ha=>?_⟩
 ·rw[T.aG,if_neg (by omega)];exact h.fE k hk
 ·by_cases e:a=i
  ·subst e
   refine⟨l.set j w,by rw[T.aG,if_pos rfl],by rw[List.length_set,hll],fun b hb=>?_⟩
   rw[List.getElem?_set]
   unfold pQ
   by_cases e2:j=b
   ·subst e2;rw[if_pos rfl,if_pos (by omega),if_pos ⟨rfl,rfl⟩]
   ·rw[if_neg e2,if_neg (fun h=>e2 h.2.symm)];exact hl b hb
  ·obtain⟨l',k1,k2,k3⟩:=h.row a ha
   refine⟨l',by rw[T.aG,if_neg (by omega)];exact k1,k2,fun b hb=>?_⟩
   unfold pQ
   rw[if_neg (fun h=>e h.1)];exact k3 b hb
theorem GH(b n i:Nat):(dS b n i).cells=mH b n i:=by
 unfold dS
 split
 ·rename_i e;subst e;rfl
 ·rfl
theorem PI{b n m i:Nat}(h:i<m):(mH b n m)[i]? =some (tb (b+i) n n):=by
 unfold mH
 rw[List.getElem?_map,List.getElem?_range h];rfl
theorem qL{b n i:Nat}(h:i<n):aq prog (dS b n n) 90 (0+i*1)=some (tb (b+i) n n):=im underlying90 rfl (by rw[GH];exact PI h)
theorem Rt{n:Nat}{M:Nat->Nat->Int}(h:BM n M)(i j:Nat){w:Int}(hw:w<=(mr:Int)):BM n (pQ M i j w):=⟨fun a b ha hb=>by
 unfold pQ;split
 ·exact hw
 ·exact h.le a b ha hb⟩
section
variable{z0:T aa}{n0:Nat}
def FW(z0:T aa)(n0 n:Nat)(E:bU)(k i j:Nat)(z:T aa):Prop:= ∃M,Hm z0 n0 n z M/\BM n M/\Sb E n mr k i j M
theorem FW.bH{n:Nat}{E:bU}{k i j:Nat}{z:T aa}(h:FW z0 n0 n E k i j z):au z (n0+n):=by obtain⟨M,h,_⟩:=h;exact h.bH
theorem IU(n:Nat)(hn:n<=64)(E:bU)(k i:Nat)(hk:k<n)(hi:i<n)(z:T aa)(hz:FW z0 n0 n E k i 0 z):
 ai prog (ah (ah (ah (ag f189) 3) 0) 0) 2 116 (Ga n k i 0) [(1, .ay (dS n0 n n))] 2 z (n0+n) (Al.R (XL (n0+n) n k i (dS n0 n n) (FW z0 n0 n E k i n)).l):=by
 refine ax hD (cZ T.leaf) (α:=Nat × T aa) 2 116 2 (fun t=>t.1<=n/\FW z0 n0 n E k i t.1 t.2) (fun t=>Ga n k i t.1) (fun t=>[(1, .ay (dS n0 n n))]) (fun t=>t.2) (fun t=>n0+n) (fun t=>n - t.1) _ (fun t hI=>?_) (0,z) ⟨Nat.zero_le _,hz⟩
 obtain⟨j,z⟩:=t
 obtain⟨hj,hs⟩:=hI
 simp only at hj hs ⊢
 have hfz:=hs.bH
 obtain⟨M,h1,h2,h3⟩:=hs
 by_cases hlt:j<n
 ·have hc:decide ((j:Int)<(n:Int))=true:=by simp;omega
  obtain⟨li,i1,i2,i3⟩:=h1.row i hi
  obtain⟨lk,k1,k2,k3⟩:=h1.row k hk
  have r1:=qt h1 hi hlt i3
  have r2:=qt h1 hi hk i3
  have r3:=qt h1 hk hlt k3
  have d1:aq prog (dS n0 n n) 90 (0+i*1)=_:=qL hi
  have d2:aq prog (dS n0 n n) 90 (0+k*1)=_:=qL hk
  have b1:=h2.le i j hi hlt
  have b2:=h2.le i k hi hk
  have b3:=h2.le k j hk hlt
  have c2:=(h3.real i k hi hk).1
  have c3:=(h3.real k j hk hlt).1
  have hbig:(mr:Int)=1099511627776:=rfl
  have hwr:Value.int .i64 (IntKind.i64.wrap (M i k+M k j))=Value.int .i64 (M i k+M k j):=cX (by omega) (by omega)
  have hw:(if M i k+M k j<M i j then M i k+M k j else M i j)=min (M i j) (M i k+M k j):=by
   split<;>omega
  have ov:overwrite (AH (li.map zv) n).cells (0+j*1) [zv (if M i k+M k j<M i j then M i k+M k j else M i j)]=some ((li.set j (min (M i j) (M i k+M k j))).map zv):=by
   rw[hw,nk (cs:=li.map zv) (by simp;omega),←List.map_set]
  have hset:=EJ h1 hi hlt i2 i3 (min (M i j) (M i k+M k j))
  have hfw:FW z0 n0 n E k i (j+1) (z.set (n0+i) (.ay (AH ((li.set j (min (M i j) (M i k+M k j))).map zv) n))):=⟨_,hset,Rt h2 i j (by omega),IG h3 hk hi hlt⟩
  have hfz2:=hfw.bH
  have hl:((li.set j (min (M i j) (M i k+M k j))).map zv).length<=n*1:=by simp[i2]
  refine t100 (rs5 z (n0+n) n k i j (n0+i) (n0+k) (dS n0 n n) (AH (li.map zv) n) (AH (lk.map zv) n) (M i j) (M i k) (M k j) (min (M i j) (M i k+M k j)) ((li.set j (min (M i j) (M i k+M k j))).map zv) (an _ _ _ _ _ _ _ _ _) ⟨fun _=>?_,nC1 hc⟩)
  (repeat' first|(with_reducible first|exact rfl|assumption|apply And.intro|exact dE _ _ _|exact bF (by omega)))
  exact⟨(j+1,_),rfl,rfl,rfl,rfl,rfl,⟨hlt,hfw⟩,by show n - (j+1)<n - j;omega⟩
 ·have hjn:j=n:=by omega
  subst hjn
  have hc:decide ((j:Int)<(j:Int))=false:=by simp
  refine t100 (rs5 z (n0+j) j k i j 0 0 (dS n0 j j) ⟨[],0,0,0,true,true,0,true⟩ ⟨[],0,0,0,true,true,0,true⟩ 0 0 0 0 [] (an _ _ _ _ _ _ _ _ _) ⟨nC1 hc,fun _=>?_⟩)
  (repeat' first|(with_reducible first|exact rfl|assumption|apply And.intro|exact dE _ _ _))
  exact yh (k:=fun _=>dP) z ⟨M,h1,h2,h3⟩ rfl
theorem IW(n:Nat)(hn:n<=64)(E:bU)(k:Nat)(hk:k<n)(z:T aa)(hz:FW z0 n0 n E k 0 0 z):
 ai prog (ah (ah (ag f189) 3) 0) 2 116 (yZ n k 0) [(1, .ay (dS n0 n n))] 2 z (n0+n) (Al.R (XM (n0+n) n k (dS n0 n n) (FW z0 n0 n E k n 0)).l):=by
 refine ax hD (cZ T.leaf) (α:=Nat × T aa) 2 116 2 (fun t=>t.1<=n/\FW z0 n0 n E k t.1 0 t.2) (fun t=>yZ n k t.1) (fun t=>[(1, .ay (dS n0 n n))]) (fun t=>t.2) (fun t=>n0+n) (fun t=>n - t.1) _ (fun t hI=>?_) (0,z) ⟨Nat.zero_le _,hz⟩
 obtain⟨i,z⟩:=t
 obtain⟨hi,hs⟩:=hI
 simp only at hi hs ⊢
 have hfz:=hs.bH
 by_cases hlt:i<n
 ·have hc:decide ((i:Int)<(n:Int))=true:=by simp;omega
  have hlp:=IU n hn E k i hk hlt z hs
  refine t100 (rs4 z (n0+n) n k i (dS n0 n n) (FW z0 n0 n E k i n) (an _ _ _ _ _ _ _ _ _) ⟨fun _=>?_,nC1 hc⟩)
  (repeat' first|(with_reducible first|exact rfl|assumption|apply And.intro|exact FW.bH ‹_›|exact dE _ _ _|exact bF (by omega))|exact hlp|intro hq)
  rename_i x
  obtain⟨M,m1,m2,m3⟩:=hq
  exact⟨(i+1,x),rfl,rfl,rfl,rfl,rfl,⟨hlt,M,m1,m2,Mx m3⟩,by show n - (i+1)<n - i;omega⟩
 ·have hin:i=n:=by omega
  subst hin
  have hc:decide ((i:Int)<(i:Int))=false:=by simp
  refine t100 (rs4 z (n0+i) i k i (dS n0 i i) (fun _=>False) (an _ _ _ _ _ _ _ _ _) ⟨nC1 hc,fun _=>?_⟩)
  (repeat' first|(with_reducible first|exact rfl|assumption|apply And.intro|exact dE _ _ _))
  exact yh (k:=fun _=>dP) z hs rfl
def FH(z0:T aa)(n0 n:Nat)(E:bU)(k:Nat)(z:T aa):Prop:= ∃M,Hm z0 n0 n z M/\BM n M/\Head E n mr k M
theorem FH.bH{n:Nat}{E:bU}{k:Nat}{z:T aa}(h:FH z0 n0 n E k z):au z (n0+n):=by obtain⟨M,h,_⟩:=h;exact h.bH
theorem Bo(n:Nat)(hn:n<=64)(E:bU)(z:T aa)(hz:FH z0 n0 n E 0 z):
 ai prog (ah (ag f189) 3) 2 116 (r9 n 0) [(1, .ay (dS n0 n n))] 2 z (n0+n) (Al.R (Qs n ⟨dS n0 n n,z,n0+n⟩ (FH z0 n0 n E n)).l):=by
 refine ax hD (cZ T.leaf) (α:=Nat × T aa) 2 116 2 (fun t=>t.1<=n/\FH z0 n0 n E t.1 t.2) (fun t=>r9 n t.1) (fun t=>[(1, .ay (dS n0 n n))]) (fun t=>t.2) (fun t=>n0+n) (fun t=>n - t.1) _ (fun t hI=>?_) (0,z) ⟨Nat.zero_le _,hz⟩
 obtain⟨k,z⟩:=t
 obtain⟨hk,hs⟩:=hI
 simp only at hk hs ⊢
 have hfz:=hs.bH
 by_cases hlt:k<n
 ·have hc:decide ((k:Int)<(n:Int))=true:=by simp;omega
  have hlp:=IW (z0:=z0) (n0:=n0) n hn E k hlt z (by obtain⟨M,m1,m2,m3⟩:=hs;exact⟨M,m1,m2,F7 m3⟩)
  refine t100 (rs3 z (n0+n) n k (dS n0 n n) (FW z0 n0 n E k n 0) (an _ _ _ _ _ _ _ _ _) ⟨fun _=>?_,nC1 hc⟩)
  (repeat' first|(with_reducible first|exact rfl|assumption|apply And.intro|exact FW.bH ‹_›|exact dE _ _ _|exact bF (by omega))|exact hlp|intro hq)
  rename_i x
  obtain⟨M,m1,m2,m3⟩:=hq
  exact⟨(k+1,x),rfl,rfl,rfl,rfl,rfl,⟨hlt,M,m1,m2,My m3⟩,by show n - (k+1)<n - k;omega⟩
 ·have hkn:k=n:=by omega
  subst hkn
  have hc:decide ((k:Int)<(k:Int))=false:=by simp
  refine t100 (rs3 z (n0+k) k k (dS n0 k k) (fun _=>False) (an _ _ _ _ _ _ _ _ _) ⟨nC1 hc,fun _=>?_⟩)
  (repeat' first|(with_reducible first|exact rfl|assumption|apply And.intro|exact dE _ _ _))
  exact yh (k:=fun _=>dP) z hs rfl
end
def fm(l:List ab)(b:Bool):List (Nat × Nat × Nat):=(l.filter (fF b)).map fun p=>(p.fz1.toNat,p.aB.toNat,p.aI.toNat)
theorem IP{l:List ab}{b:Bool}{i:Nat}{x:ab}(hx:l[i]? =some x)(hu:fF b x=true):fm (l.take (i+1)) b=fm (l.take i) b++[(x.fz1.toNat,x.aB.toNat,x.aI.toNat)]:=by
 unfold fm
 rw[List.take_add_one,hx]
 simp[List.filter_append,hu]
theorem MC{l:List ab}{b:Bool}{i:Nat}{x:ab}(hx:l[i]? =some x)(hu:fF b x=false):fm (l.take (i+1)) b=fm (l.take i) b:=by
 unfold fm
 rw[List.take_add_one,hx]
 simp[List.filter_append,hu]
def FE(z0:T aa)(n0 n:Nat)(L:List (Nat × Nat × Nat))(z:T aa):Prop:= ∃M,Hm z0 n0 n z M/\Cr L n mr M
section
variable{z0:T aa}{n0:Nat}
theorem FE.bH{n:Nat}{L:List (Nat × Nat × Nat)}{z:T aa}(h:FE z0 n0 n L z):au z (n0+n):=by obtain⟨M,h,_⟩:=h;exact h.bH
theorem FE.head{n:Nat}{L:List (Nat × Nat × Nat)}{z:T aa}(h:FE z0 n0 n L z):FH z0 n0 n (db L) 0 z:=by
 obtain⟨M,h1,h2⟩:=h
 exact⟨M,h1,⟨fun i j hi hj=>(h2 i j hi hj).2.1⟩,Df h2⟩
theorem BN{n:Nat}{s:dD}(h:jz z0 n0 n n s):FE z0 n0 n [] s.z:=by
 refine⟨fun _ _=>(mr:Int),⟨?_,h.fE,fun i hi=>?_⟩,Gr n mr⟩
 ·have:=h.bH;rw[h.zn] at this;exact this
 ·refine⟨List.replicate n (mr:Int),?_,List.length_replicate ..,fun j hj=>by simp[hj]⟩
  rw[h.row i hi]
  show some (aa.ay (AH (eW n) n))=some (aa.ay (AH ((List.replicate n (mr:Int)).map zv) n))
  rw[List.map_replicate];rfl
theorem IX(n:Nat)(hn:n<=64)(l:List ab)(hl:nS n l)(hll:l.length<=10000)(cp:Nat)(hL0:bM z0 4 (l.map ab.row))(hz0:au z0 n0)(b:Bool)(s:dD)(hs:jz z0 n0 n n s):
 ai prog (ah (ag f189) 2) 2 116 (Bd l.length cp n b 0) [(1, .ay s.bl)] 2 s.z s.zn (Al.R (TH l.length cp n b s (FE z0 n0 n (fm l b))).l):=by
 have hst:=BN hs
 obtain⟨bl,z,zn⟩:=s
 have e1:zn=n0+n:=hs.zn
 have e2:bl=dS n0 n n:=hs.bl
 subst e1 e2
 refine ax hD (cZ T.leaf) (α:=Nat × T aa) 2 116 2 (fun t=>t.1<=l.length/\FE z0 n0 n (fm (l.take t.1) b) t.2) (fun t=>Bd l.length cp n b t.1) (fun t=>[(1, .ay (dS n0 n n))]) (fun t=>t.2) (fun t=>n0+n) (fun t=>l.length - t.1) _ (fun t hI=>?_) (0,z) ⟨Nat.zero_le _,hst⟩
 obtain⟨i,z⟩:=t
 obtain⟨hi,hs⟩:=hI
 simp only at hi hs ⊢
 have hfz:=hs.bH
 by_cases hlt:i<l.length
 ·obtain⟨x,hx⟩:=dh hlt
  have hc:decide ((i:Int)<(l.length:Int))=true:=by simp;omega
  obtain⟨p1,p2,p3,p4,_,p6,p7⟩:=hl.ok x (List.mem_of_getElem? hx)
  obtain⟨M,h1,h2⟩:=hs
  have hL:=cH hL0 hz0 h1.fE
  obtain⟨el,hel⟩:=hL.ay (i:=i) (by simp;omega)
  have r0:aq prog (bg el (l.map ab.row).flatten) 141 (0+i*4)=some (.agg ⟨x.row⟩):=bD (r:=x.row) (sz:=4) underlying141 rfl rfl (aM (row:=ab.row) (sz:=4) l fun _=>rfl) (by rw[List.getElem?_map,hx];rfl)
  have hf:x.fz1.toNat<n:=by omega
  have ht:x.aB.toNat<n:=by omega
  have ef:x.fz1=(x.fz1.toNat:Int):=by omega
  have et:x.aB=(x.aB.toNat:Int):=by omega
  obtain⟨li,i1,i2,i3⟩:=h1.row _ hf
  have r1:=qt h1 hf ht i3
  have d1:aq prog (dS n0 n n) 90 (0+x.fz1.toNat*1)=_:=qL hf
  have hw:(if x.aI<M x.fz1.toNat x.aB.toNat then x.aI else M x.fz1.toNat x.aB.toNat)=min (M x.fz1.toNat x.aB.toNat) (x.aI.toNat:Int):=by
   split<;>omega
  have ov:overwrite (AH (li.map zv) n).cells (0+x.aB.toNat*1) [zv (if x.aI<M x.fz1.toNat x.aB.toNat then x.aI else M x.fz1.toNat x.aB.toNat)]=some ((li.set x.aB.toNat (min (M x.fz1.toNat x.aB.toNat) (x.aI.toNat:Int))).map zv):=by
   rw[hw,nk (cs:=li.map zv) (by simp;omega),←List.map_set]
  have hset:=EJ h1 hf ht i2 i3 (min (M x.fz1.toNat x.aB.toNat) (x.aI.toNat:Int))
  have hfz2:=hset.bH
  have hlen:((li.set x.aB.toNat (min (M x.fz1.toNat x.aB.toNat) (x.aI.toNat:Int))).map zv).length<=n*1:=by simp[i2]
  have nx: ∀z',FE z0 n0 n (fm (l.take (i+1)) b) z'->an (fun t:Nat × T aa=>t.1<=l.length/\FE z0 n0 n (fm (l.take t.1) b) t.2) (fun t=>Bd l.length cp n b t.1) (fun t=>[(1, .ay (dS n0 n n))]) 2 (fun t=>t.2) (fun t=>n0+n) (fun t=>l.length - t.1) (Al.R (TH l.length cp n b ⟨dS n0 n n,z,n0+n⟩ (FE z0 n0 n (fm l b))).l) (i,z) .normal (Bd l.length cp n b (i+1)) [(1, .ay (dS n0 n n))] 2 z' (n0+n):=fun z' h=>
   ⟨(i+1,z'),rfl,rfl,rfl,rfl,rfl,⟨hlt,h⟩,by show l.length - (i+1)<l.length - i;omega⟩
  have yes:fF b x=true->FE z0 n0 n (fm (l.take (i+1)) b) (z.set (n0+x.fz1.toNat) (.ay (AH ((li.set x.aB.toNat (min (M x.fz1.toNat x.aB.toNat) (x.aI.toNat:Int))).map zv) n))):=fun h=>⟨_,hset,by rw[IP hx h];exact De h2 _ _ _⟩
  have no:fF b x=false->FE z0 n0 n (fm (l.take (i+1)) b) z:=fun h=>⟨M,h1,by rw[MC hx h];exact h2⟩
  have u1:x.sf=true->fF b x=true:=fun h=>by unfold fF;rw[h,Bool.or_true]
  have u2:x.sf=false->(!b)=true->fF b x=true:=fun h h2=>by unfold fF;rw[h2,Bool.true_or]
  have u3:x.sf=false->(!b)=false->fF b x=false:=fun h h2=>by unfold fF;rw[h,h2];rfl
  refine t100 (rs2 z (n0+n) l.length cp n i x.fz1.toNat x.aB.toNat (n0+x.fz1.toNat) b (dS n0 n n) (bg el (l.map ab.row).flatten) (AH (li.map zv) n) x (M x.fz1.toNat x.aB.toNat) 0 ((li.set x.aB.toNat (min (M x.fz1.toNat x.aB.toNat) (x.aI.toNat:Int))).map zv) (an _ _ _ _ _ _ _ _ _) ⟨fun _=>?_,nC1 hc⟩)
  (repeat' first|(with_reducible first|exact rfl|assumption|apply And.intro|exact dE _ _ _|exact bF (by omega))|intro hq)
  all_goals first
   |exact nx _ (yes (u1 (by with_reducible assumption)))
   |exact nx _ (yes (u2 (by with_reducible assumption) (by with_reducible assumption)))
   |exact nx _ (no (u3 (by with_reducible assumption) (by with_reducible assumption)))
 ·have hil:i=l.length:=by omega
  have hc:decide ((i:Int)<(l.length:Int))=false:=by simp;omega
  refine t100 (rs2 z (n0+n) l.length cp n i 0 0 0 b (dS n0 n n) ⟨[],0,0,0,true,true,0,true⟩ ⟨[],0,0,0,true,true,0,true⟩ ⟨0,0,0,true⟩ 0 0 [] (an _ _ _ _ _ _ _ _ _) ⟨nC1 hc,fun _=>?_⟩)
  (repeat' first|(with_reducible first|exact rfl|assumption|apply And.intro|exact dE _ _ _))
  refine yh (k:=fun _=>dP) z ?_ rfl
  rw[hil,List.take_of_length_le (Nat.le_refl _)] at hs
  exact hs
def oZ(z:T aa)(zn n:Nat)(l:List ab)(b:Bool)(s:dD):Prop:=s.bl=dS zn n n/\s.zn=zn+n/\FH z zn n (db (fm l b)) n s.z
theorem oZ.bH{z:T aa}{zn n:Nat}{l:List ab}{b:Bool}{s:dD}(h:oZ z zn n l b s):au s.z s.zn:=by
 rw[h.2.1];exact h.2.2.bH
theorem Ff(hz:au z0 n0)(h5:5<=n0)(n:Nat)(hn:n<=64)(l:List ab)(hl:nS n l)(hll:l.length<=10000)(cp:Nat)(hL:bM z0 4 (l.map ab.row))(b:Bool):
 bq prog z0 n0 189 [tb 4 l.length cp,iv n, .bool b] [] 0 1 (oZ z0 n0 n l b) (fun _=>bc 0 n n) (fun s=>[(0, .ay s.bl)]) (fun s=>s.z) (fun s=>s.zn):=by
 have h0:=Bp z0 n0 hz h5 (tb 4 l.length cp) (.inl ⟨_,_,rfl⟩) n hn b
 have h2: ∀s,jz z0 n0 n n s->_:=fun s hs=>IX n hn l hl hll cp hL hz b s hs
 have h3: ∀s z2,jz z0 n0 n n s->FE z0 n0 n (fm l b) z2->ai prog (ah (ag f189) 3) 2 116 (r9 n 0) [(1, .ay s.bl)] 2 z2 s.zn (Al.R (Qs n s (FH z0 n0 n (db (fm l b)) n)).l):=fun s z2 hs h=>by
  have e1:=hs.zn
  have e2:=hs.bl
  obtain⟨bl,z,zn⟩:=s
  simp only at e1 e2
  subst e1 e2
  exact Bo n hn _ z2 h.head
 have rX: ∀s σ,jz z0 n0 n n s->aC (aj σ []) (.ay s.bl)=some (.ay s.bl):=fun s σ hs=>by rw[hs.bl];exact dE _ _ _
 have fe: ∀s z2,jz z0 n0 n n s->FE z0 n0 n (fm l b) z2->au z2 s.zn:=fun s z2 hs h=>by rw[hs.zn];exact h.bH
 have fh: ∀s z2,jz z0 n0 n n s->FH z0 n0 n (db (fm l b)) n z2->au z2 s.zn:=fun s z2 hs h=>by rw[hs.zn];exact h.bH
 refine eM (cZ T.leaf) (fn:=f189) (by kernel_rfl) (by kernel_rfl) hz ⟨by decide,by decide⟩ (fun s hs=>⟨rfl,by rw[hs.2.1];omega,hs.bH⟩) (N:=100) ?_
 refine rs z0 n0 l.length cp n b (jz z0 n0 n n) (fun _=>FE z0 n0 n (fm l b)) (fun _ _=>FH z0 n0 n (db (fm l b)) n) _ ?_
 (repeat' first|(with_reducible first|exact rfl|assumption|apply And.intro|exact jz.bH ‹_›|exact fe _ _ ‹_› ‹_›|exact fh _ _ ‹_› ‹_›|exact rX _ _ ‹_›)|exact h0|exact h2 _ (by with_reducible assumption)|exact h3 _ _ (by with_reducible assumption) (by with_reducible assumption)|intro hq)
 rename_i s hs z2 _ z3
 exact q2 (⟨s.bl,z3,s.zn⟩:dD) ⟨hs.bl,hs.zn,hq⟩ rfl rfl rfl rfl rfl
theorem Gm(n:Nat)(b:Bool)(s:dD)(hs:jz z0 n0 n n s):
 ai prog (ah (ag f189) 2) 2 116 (xk n b 0) [(1, .ay s.bl)] 2 s.z s.zn (Al.R (TG n b s).l):=by
 have hfz:=hs.bH
 have rX: ∀σ,aC (aj σ []) (.ay s.bl)=some (.ay s.bl):=fun σ=>by rw[hs.bl];exact dE _ _ _
 refine ax hD (cZ T.leaf) (α:=Unit) 2 116 2 (fun _=>True) (fun _=>xk n b 0) (fun t=>[(1, .ay s.bl)]) (fun t=>s.z) (fun t=>s.zn) (fun t=>0) _ (fun t hI=>?_) () trivial
 refine t100 (Xm s.z s.zn n 0 b s.bl (an _ _ _ _ _ _ _ _ _) ?_)
 (repeat' first|(with_reducible first|exact rfl|assumption|apply And.intro|exact rX _))
 exact bu trivial
theorem B3(hz:au z0 n0)(h5:5<=n0)(n:Nat)(hn:n<=64)(b:Bool):
 bq prog z0 n0 189 [ak,iv n, .bool b] [] 0 1 (oZ z0 n0 n [] b) (fun _=>bc 0 n n) (fun s=>[(0, .ay s.bl)]) (fun s=>s.z) (fun s=>s.zn):=by
 have h0:=Bp z0 n0 hz h5 ak (.inr rfl) n hn b
 have h2: ∀s,jz z0 n0 n n s->_:=fun s hs=>Gm n b s hs
 have h3: ∀s,jz z0 n0 n n s->ai prog (ah (ag f189) 3) 2 116 (r9 n 0) [(1, .ay s.bl)] 2 s.2 s.zn (Al.R (Qs n s (FH z0 n0 n (db (fm [] b)) n)).l):=fun s hs=>by
  have h:=(BN hs).head
  have e1:=hs.zn
  have e2:=hs.bl
  obtain⟨bl,z,zn⟩:=s
  simp only at e1 e2
  subst e1 e2
  exact Bo n hn _ z h
 have rX: ∀s σ,jz z0 n0 n n s->aC (aj σ []) (.ay s.bl)=some (.ay s.bl):=fun s σ hs=>by rw[hs.bl];exact dE _ _ _
 have fh: ∀s z2,jz z0 n0 n n s->FH z0 n0 n (db (fm [] b)) n z2->au z2 s.zn:=fun s z2 hs h=>by rw[hs.zn];exact h.bH
 refine eM (cZ T.leaf) (fn:=f189) (by kernel_rfl) (by kernel_rfl) hz ⟨by decide,by decide⟩ (fun s hs=>⟨rfl,by rw[hs.2.1];omega,hs.bH⟩) (N:=100) ?_
 refine rsn z0 n0 n b (jz z0 n0 n n) (fun _=>FH z0 n0 n (db (fm [] b)) n) _ ?_
 (repeat' first|(with_reducible first|exact rfl|assumption|apply And.intro|exact jz.bH ‹_›|exact fh _ _ ‹_› ‹_›|exact rX _ _ ‹_›)|exact h0|exact h2 _ (by with_reducible assumption)|exact h3 _ (by with_reducible assumption)|intro hq)
 rename_i s hs _ _ z3
 exact q2 (⟨s.bl,z3,s.zn⟩:dD) ⟨hs.bl,hs.zn,hq⟩ rfl rfl rfl rfl rfl
end
def dB(L:List ab):aR:=if L=[] then Hu else Sj (L.map ab.row).flatten L.length
theorem wZ(L:List ab)(x:ab):dB (L++[x])=Sj ((L.map ab.row).flatten++x.row) (L.length+1):=by
 unfold dB
 rw[if_neg (by simp),kF,List.length_append];rfl
theorem Ix(L:List ab)(x y:ab):dB (L++[x]++[y])=Sj ((L.map ab.row).flatten++x.row++y.row) (L.length+1+1):=by
 rw[wZ,←kF L x,List.length_append];rfl
def ed(M F:Nat->Nat->Int)(i:Nat)(L:List ab)(j:Nat):List ab:=
 if i=j\/14400<M i j then L else if M i j<F i j/\F i j<=14400 then L++[⟨i,j,M i j,F i j==M i j⟩]++[⟨i,j,F i j,true⟩] else L++[⟨i,j,M i j,F i j==M i j⟩]
def bO(M F:Nat->Nat->Int)(i:Nat)(L:List ab)(m:Nat):List ab:=(List.range m).foldl (ed M F i) L
def bY(M F:Nat->Nat->Int)(n m:Nat):List ab:=(List.range m).foldl (fun L i=>bO M F i L n) []
theorem kC(M F:Nat->Nat->Int)(i:Nat)(L:List ab)(m:Nat):bO M F i L (m+1)=ed M F i (bO M F i L m) m:=by
 unfold bO;rw[List.range_succ,List.foldl_append];rfl
theorem iL(M F:Nat->Nat->Int)(n m:Nat):bY M F n (m+1)=bO M F m (bY M F n m) n:=by
 unfold bY;rw[List.range_succ,List.foldl_append];rfl
theorem AL(M F:Nat->Nat->Int)(i:Nat)(L:List ab)(j:Nat):(ed M F i L j).length<=L.length+2:=by
 unfold ed
 split
 ·omega
 ·split<;>simp
theorem uK(M F:Nat->Nat->Int)(i:Nat)(L:List ab)(m:Nat):(bO M F i L m).length<=L.length+2*m:=by
 induction m with
 |zero=>exact Nat.le_refl _
 |succ m ih=>rw[kC];have:=AL M F i (bO M F i L m) m;omega
theorem pn(M F:Nat->Nat->Int)(n m:Nat):(bY M F n m).length<=m*(2*n):=by
 induction m with
 |zero=>exact Nat.zero_le _
 |succ m ih=>
  rw[iL]
  have:=uK M F m (bY M F n m) n
  have e:(m+1)*(2*n)=m*(2*n)+2*n:=Nat.succ_mul ..
  omega
theorem fG{σ:Nat->Option Nat}(L:List ab):aC σ (.ay (dB L))=some (.ay (dB L)):=by
 unfold dB
 split
 ·rfl
 ·exact bX (jR L)
theorem Ed{σ:Nat->Option Nat}(L:List ab)(x y:ab)(c:Nat):aC σ (.ay (aR.mk ((L.map ab.row).flatten++x.row++y.row) c 4 141 false false 0 true))=some (.ay (aR.mk ((L.map ab.row).flatten++x.row++y.row) c 4 141 false false 0 true)):=bX (by
 rw[kF,kF];exact jR _)
def tg(z:T aa)(b n:Nat)(M:Nat->Nat->Int):Prop:= ∀i,i<n-> ∃l:List Int,z.get (b+i)=some (.ay (AH (l.map zv) n))/\l.length=n/\ ∀j,j<n->l[j]? =some (M i j)
theorem uy{z:T aa}{b n:Nat}{M:Nat->Nat->Int}(h:tg z b n M){i j:Nat}(hi:i<n)(hj:j<n): ∃k,z.get (b+i)=some (.ay k)/\aq prog k 3 (0+j*1)=some (zv (M i j)):=by
 obtain⟨l,h1,h2,h3⟩:=h i hi
 exact⟨_,h1,im (d:=_) underlying3 rfl (by show(l.map zv)[j]? =_;rw[List.getElem?_map,h3 j hj];rfl)⟩
section
variable{z:T aa}{zn:Nat}
theorem Jb(hz:au z zn)(n:Nat)(hn:n<=64)(b1 b2:Nat)(M F:Nat->Nat->Int)(hM:tg z b1 n M)(hF:tg z b2 n F)(i:Nat)(hi:i<n)(L:List ab)(hL:L.length<=10000):
 ai prog (ah (ah (ag f139) 0) 0) 4 107 (wD n L.length i 0) (rF (dS b1 n n) (dS b2 n n) (dB L)) 5 z zn (Al.R (Qw z zn n L.length i (dS b1 n n) (dS b2 n n) (dB L) (fun s=>s=⟨(bO M F i L n).length,dB (bO M F i L n)⟩)).l):=by
 refine ax hD (cZ T.leaf) (α:=Nat) 4 107 5 (fun j=>j<=n) (fun j=>wD n (bO M F i L j).length i j) (fun j=>rF (dS b1 n n) (dS b2 n n) (dB (bO M F i L j))) (fun _=>z) (fun _=>zn) (fun j=>n - j) _ (fun j hj=>?_) 0 (Nat.zero_le _)
 have hrl:=uK M F i L j
 have nx: ∀L' k' bl,bO M F i L (j+1)=L'->k'=L'.length->bl=dB L'->j<n->an (fun j=>j<=n) (fun j=>wD n (bO M F i L j).length i j) (fun j=>rF (dS b1 n n) (dS b2 n n) (dB (bO M F i L j))) 5 (fun _=>z) (fun _=>zn) (fun j=>n - j) (Al.R (Qw z zn n L.length i (dS b1 n n) (dS b2 n n) (dB L) (fun s=>s=⟨(bO M F i L n).length,dB (bO M F i L n)⟩)).l) j .normal (wD n k' i (j+1)) (rF (dS b1 n n) (dS b2 n n) bl) 5 z zn:=fun L' k' bl e1 e2 e3 h=>by
  subst e1 e2 e3
  exact⟨j+1,rfl,rfl,rfl,rfl,rfl,h,by show n - (j+1)<n - j;omega⟩
 have fin:j=n->an (fun j=>j<=n) (fun j=>wD n (bO M F i L j).length i j) (fun j=>rF (dS b1 n n) (dS b2 n n) (dB (bO M F i L j))) 5 (fun _=>z) (fun _=>zn) (fun j=>n - j) (Al.R (Qw z zn n L.length i (dS b1 n n) (dS b2 n n) (dB L) (fun s=>s=⟨(bO M F i L n).length,dB (bO M F i L n)⟩)).l) j (.exit 2) [(1,iv n),(5,bc 0 n n),(6,bc 1 n n),(7,bc 4 (bO M F i L j).length (bO M F i L j).length),(8,iv i)] (rF (dS b1 n n) (dS b2 n n) (dB (bO M F i L j))) 5 z zn:=fun e=>by
  subst e
  exact Or.inl ⟨(⟨(bO M F i L j).length,dB (bO M F i L j)⟩:rm),rfl,rfl⟩
 have hsucc:=kC M F i L j
 generalize bO M F i L j=K at hrl nx fin hsucc ⊢
 by_cases hlt:j<n
 ·have hc:decide ((j:Int)<(n:Int))=true:=by simp;omega
  obtain⟨k1,g1,r1⟩:=uy hM hi hlt
  obtain⟨k2,g2,r2⟩:=uy hF hi hlt
  have d1:aq prog (dS b1 n n) 90 (0+i*1)=_:=qL hi
  have d2:aq prog (dS b2 n n) 90 (0+i*1)=_:=qL hi
  have w0:((i:Int)==(j:Int))=true->bO M F i L (j+1)=K:=fun h=>by
   rw[hsucc];unfold ed;rw[if_pos (.inl (by simp at h;omega))]
  have w1:decide (M i j>14400)=true->bO M F i L (j+1)=K:=fun h=>by
   rw[hsucc];unfold ed;rw[if_pos (.inr (by simp at h;omega))]
  have w2:((i:Int)==(j:Int))=false->decide (M i j>14400)=false-> ∀fl,(F i j==M i j)=fl->decide (F i j>M i j)=true->decide (F i j<=14400)=true->bO M F i L (j+1)=K++[⟨i,j,M i j,fl⟩]++[⟨i,j,F i j,true⟩]:=fun h1 h2 fl h3 h4 h5=>by
   rw[hsucc];unfold ed
   rw[if_neg (by simp at h1 h2;omega),if_pos (by simp at h4 h5;omega),h3]
  have w3:((i:Int)==(j:Int))=false->decide (M i j>14400)=false-> ∀fl,(F i j==M i j)=fl->decide (F i j<=14400)=false->bO M F i L (j+1)=K++[⟨i,j,M i j,fl⟩]:=fun h1 h2 fl h3 h5=>by
   rw[hsucc];unfold ed
   rw[if_neg (by simp at h1 h2;omega),if_neg (by simp at h5;omega),h3]
  have w4:((i:Int)==(j:Int))=false->decide (M i j>14400)=false-> ∀fl,(F i j==M i j)=fl->decide (F i j>M i j)=false->bO M F i L (j+1)=K++[⟨i,j,M i j,fl⟩]:=fun h1 h2 fl h3 h5=>by
   rw[hsucc];unfold ed
   rw[if_neg (by simp at h1 h2;omega),if_neg (by simp at h5;omega),h3]
  by_cases hK:K=[]
  ·subst hK
   refine t100 (UE z zn n i j (b1+i) (b2+i) (dS b1 n n) (dS b2 n n) k1 k2 (M i j) (F i j) (an _ _ _ _ _ _ _ _ _) ⟨fun _=>?_,nC1 hc⟩)
   (repeat' first|(with_reducible first|exact rfl|assumption|apply And.intro|exact dE _ _ _|exact bF (by omega))|intro hq)
   all_goals first
    |exact nx _ _ _ (w0 (by with_reducible assumption)) rfl rfl hlt
    |exact nx _ _ _ (w1 (by with_reducible assumption)) rfl rfl hlt
    |exact nx _ _ _ (w2 (by with_reducible assumption) (by with_reducible assumption) _ (by with_reducible assumption) (by with_reducible assumption) (by with_reducible assumption)) rfl rfl hlt
    |exact nx _ _ _ (w3 (by with_reducible assumption) (by with_reducible assumption) _ (by with_reducible assumption) (by with_reducible assumption)) rfl rfl hlt
    |exact nx _ _ _ (w4 (by with_reducible assumption) (by with_reducible assumption) _ (by with_reducible assumption) (by with_reducible assumption)) rfl rfl hlt
  ·have eK:dB K=Sj (K.map ab.row).flatten K.length:=by unfold dB;rw[if_neg hK]
   have s1: ∀fl,(⟨(K.map ab.row).flatten++(⟨i,j,M i j,fl⟩:ab).row,(K.length+1)*4,4,141,false,false,0,true⟩:aR)=dB (K++[⟨i,j,M i j,fl⟩]):=fun fl=>(wZ _ _).symm
   have s2: ∀fl,(⟨(K.map ab.row).flatten++(⟨i,j,M i j,fl⟩:ab).row++(⟨i,j,F i j,true⟩:ab).row,(K.length+1+1)*4,4,141,false,false,0,true⟩:aR)=dB (K++[⟨i,j,M i j,fl⟩]++[⟨i,j,F i j,true⟩]):=fun fl=>(Ix _ _ _).symm
   have m1: ∀x:ab,K.length+1=(K++[x]).length:=fun x=>by simp
   have m2: ∀x y:ab,K.length+1+1=(K++[x]++[y]).length:=fun x y=>by simp
   have p1: ∀fl,((K.map ab.row).flatten++(⟨i,j,M i j,fl⟩:ab).row).length=(K.length+1)*4:=fun fl=>by
    rw[kF,CW];simp
   rw[eK]
   refine t100 (cq1 z zn n K.length i j (b1+i) (b2+i) (dS b1 n n) (dS b2 n n) k1 k2 (M i j) (F i j) (K.map ab.row).flatten (an _ _ _ _ _ _ _ _ _) ⟨fun _=>?_,nC1 hc⟩)
   (repeat' first|(with_reducible first|exact rfl|assumption|apply And.intro|exact CW K|exact p1 _|exact dE _ _ _|exact bX (jR K)|exact CR K ⟨i,j,M i j,true⟩ _|exact CR K ⟨i,j,M i j,false⟩ _|exact Ed K ⟨i,j,M i j,true⟩ ⟨i,j,F i j,true⟩ _|exact Ed K ⟨i,j,M i j,false⟩ ⟨i,j,F i j,true⟩ _|exact(by omega:K.length+1<=1048576)|exact(by omega:K.length+1+1<=1048576)|exact bF (by omega))|intro hq)
   all_goals first
    |exact nx _ _ _ (w0 (by with_reducible assumption)) rfl eK.symm hlt
    |exact nx _ _ _ (w1 (by with_reducible assumption)) rfl eK.symm hlt
    |exact nx _ _ _ (w2 (by with_reducible assumption) (by with_reducible assumption) _ (by with_reducible assumption) (by with_reducible assumption) (by with_reducible assumption)) (m2 _ _) (s2 _) hlt
    |exact nx _ _ _ (w3 (by with_reducible assumption) (by with_reducible assumption) _ (by with_reducible assumption) (by with_reducible assumption)) (m1 _) (s1 _) hlt
    |exact nx _ _ _ (w4 (by with_reducible assumption) (by with_reducible assumption) _ (by with_reducible assumption) (by with_reducible assumption)) (m1 _) (s1 _) hlt
 ·have hjn:j=n:=by omega
  have hc:decide ((j:Int)<(n:Int))=false:=by simp;omega
  by_cases hK:K=[]
  ·subst hK
   refine t100 (UE z zn n i j 0 0 (dS b1 n n) (dS b2 n n) Hu Hu 0 0 (an _ _ _ _ _ _ _ _ _) ⟨nC1 hc,fun _=>?_⟩)
   (repeat' first|(with_reducible first|exact rfl|assumption|apply And.intro|exact dE _ _ _))
   exact fin hjn
  ·have eK:dB K=Sj (K.map ab.row).flatten K.length:=by unfold dB;rw[if_neg hK]
   rw[eK] at fin ⊢
   refine t100 (cq1 z zn n K.length i j 0 0 (dS b1 n n) (dS b2 n n) Hu Hu 0 0 (K.map ab.row).flatten (an _ _ _ _ _ _ _ _ _) ⟨nC1 hc,fun _=>?_⟩)
   (repeat' first|(with_reducible first|exact rfl|assumption|apply And.intro|exact dE _ _ _|exact bX (jR K)))
   exact fin hjn
end
section
variable{z:T aa}{zn:Nat}
theorem Bt(hz:au z zn)(n:Nat)(hn:n<=64)(b1 b2:Nat)(M F:Nat->Nat->Int)(hM:tg z b1 n M)(hF:tg z b2 n F):
 ai prog (ah (ag f139) 0) 3 107 (Bg n 0 0) (Ot (dS b1 n n) (dS b2 n n) Hu) 4 z zn (Al.R (Qx z zn n (dS b1 n n) (dS b2 n n) (fun s=>s=⟨(bY M F n n).length,dB (bY M F n n)⟩)).l):=by
 refine ax hD (cZ T.leaf) (α:=Nat) 3 107 4 (fun i=>i<=n) (fun i=>Bg n (bY M F n i).length i) (fun i=>Ot (dS b1 n n) (dS b2 n n) (dB (bY M F n i))) (fun _=>z) (fun _=>zn) (fun i=>n - i) _ (fun i hi=>?_) 0 (Nat.zero_le _)
 by_cases hlt:i<n
 ·have hc:decide ((i:Int)<(n:Int))=true:=by simp;omega
  have hll:(bY M F n i).length<=10000:=by
   have:=pn M F n i
   have h2:i*(2*n)<=64*(2*64):=Nat.mul_le_mul (by omega) (by omega)
   omega
  have hlp:=Jb hz n hn b1 b2 M F hM hF i hlt (bY M F n i) hll
  refine t100 (cq0 z zn n (bY M F n i).length i (dS b1 n n) (dS b2 n n) (dB (bY M F n i)) (fun s=>s=⟨(bO M F i (bY M F n i) n).length,dB (bO M F i (bY M F n i) n)⟩) (an _ _ _ _ _ _ _ _ _) ⟨fun _=>?_,nC1 hc⟩)
  have rq: ∀(σ:bb)(s:rm),s=⟨(bO M F i (bY M F n i) n).length,dB (bO M F i (bY M F n i) n)⟩->aC (aj σ []) (.ay s.bl)=some (.ay s.bl):=fun σ s h=>by rw[h];exact fG _
  (repeat' first|(with_reducible first|exact rfl|assumption|apply And.intro|exact dE _ _ _|exact fG _|exact rq _ _ ‹_›|exact bF (by omega))|exact hlp|intro hq)
  rename_i x hq
  subst hq
  exact⟨i+1,by simp only[iL];rfl,by simp only[iL],rfl,rfl,rfl,hlt,by show n - (i+1)<n - i;omega⟩
 ·have hin:i=n:=by omega
  subst hin
  have hc:decide ((i:Int)<(i:Int))=false:=by simp
  refine t100 (cq0 z zn i (bY M F i i).length i (dS b1 i i) (dS b2 i i) (dB (bY M F i i)) (fun _=>False) (an _ _ _ _ _ _ _ _ _) ⟨nC1 hc,fun _=>?_⟩)
  (repeat' first|(with_reducible first|exact rfl|assumption|apply And.intro|exact fG _))
  exact Or.inl ⟨(⟨(bY M F i i).length,dB (bY M F i i)⟩:rm),rfl,rfl⟩
end
def Hn(E:bU)(n i j:Nat)(v:Int):Prop:=Cs E n mr i j v/\v<=(mr:Int)
def MF(n:Nat)(l:List ab)(M F:Nat->Nat->Int):Prop:=(∀i j,i<n->j<n->Hn (db (fm l false)) n i j (M i j))/\(∀i j,i<n->j<n->Hn (db (fm l true)) n i j (F i j))
structure CG(z:T aa)(zn:Nat)(C:List ab)(s:rE):Prop where
 k:s.k=C.length
 bl:s.bl=dB C
 bH:au s.z s.zn
 le:zn<=s.zn
 fE: ∀k,k<zn->s.z.get k=z.get k
theorem lQ{z:T aa}{zn n:Nat}{l:List ab}{b:Bool}{s:dD}(h:oZ z zn n l b s): ∀k,k<zn->s.z.get k=z.get k:=by
 obtain⟨_,_,M,h,_⟩:=h;exact h.fE
theorem p9{z:T aa}{zn n:Nat}{l:List ab}{b:Bool}{s:dD}(h:oZ z zn n l b s): ∃M,tg s.z zn n M/\ ∀i j,i<n->j<n->Hn (db (fm l b)) n i j (M i j):=by
 obtain⟨_,_,M,h1,h2,h3⟩:=h
 exact⟨M,h1.row,fun i j hi hj=>⟨Js h3 hi hj,h2.le i j hi hj⟩⟩
theorem uz{z z':T aa}{b n m:Nat}{d:Nat->Nat->Int}(h:tg z b n d)(hb:b+n<=m)(hk: ∀k,k<m->z'.get k=z.get k):tg z' b n d:=fun i hi=>by
 obtain⟨l,h1,h2⟩:=h i hi
 exact⟨l,by rw[hk _ (by omega)];exact h1,h2⟩
section
variable{z:T aa}{zn:Nat}
theorem GV(hz:au z zn)(h5:5<=zn)(n:Nat)(hn:n<=64)(l:List ab)(hl:nS n l)(hll:l.length<=10000)(cp:Nat)(hL:bM z 4 (l.map ab.row))(C:List ab)(hC: ∀M F,MF n l M F->bY M F n n=C):
 bq prog z zn 139 [tb 4 l.length cp,iv n] [] 0 1 (CG z zn C) (fun s=>bc 0 s.k s.k) (fun s=>[(0, .ay s.bl)]) (fun s=>s.z) (fun s=>s.zn):=by
 have d1:=Ff hz h5 n hn l hl hll cp hL false
 have d2: ∀s,oZ z zn n l false s->bq prog s.z s.zn 189 [tb 4 l.length cp,iv n,T1] [] 0 1 (oZ s.z s.zn n l true) (fun _=>bc 0 n n) (fun s=>[(0, .ay s.bl)]) (fun s=>s.z) (fun s=>s.zn):=fun s h=>Ff h.bH (by rw[h.2.1];omega) n hn l hl hll cp (cH hL hz (lQ h)) true
 have rb: ∀{z zn b s},oZ z zn n l b s-> ∀σ,aC (aj σ []) (.ay s.bl)=some (.ay s.bl):=fun h σ=>by rw[h.1];exact dE _ _ _
 have rb2: ∀{z zn b s},oZ z zn n l b s-> ∀σ,aC (sig σ) (.ay s.bl)=some (.ay s.bl):=fun h σ=>rb h σ
 have lp: ∀s1 s2,oZ z zn n l false s1->oZ s1.z s1.zn n l true s2->ai prog (ah (ag f139) 0) 3 107 (Bg n 0 0) (Ot s1.bl s2.bl Hu) 4 s2.z s2.zn (Al.R (Qx s2.z s2.zn n s1.bl s2.bl (fun s=>s=⟨C.length,dB C⟩)).l):=fun s1 s2 h1 h2=>by
  obtain⟨M,m1,m2⟩:=p9 h1
  obtain⟨F,f1,f2⟩:=p9 h2
  have:=Bt h2.bH n hn zn s1.zn M F (uz m1 (by rw[h1.2.1];exact Nat.le_refl _) (lQ h2)) f1
  rw[hC M F ⟨m2,f2⟩] at this
  rw[h1.1,h2.1]
  exact this
 have ro: ∀(σ:bb)(s:rm),s=⟨C.length,dB C⟩->aC (aj σ []) (.ay s.bl)=some (.ay s.bl):=fun σ s h=>by rw[h];exact fG _
 have le2: ∀s1 s2,oZ z zn n l false s1->oZ s1.z s1.zn n l true s2->zn<=s2.zn:=fun s1 s2 h1 h2=>by rw[h2.2.1,h1.2.1];omega
 have fin: ∀s1 s2,oZ z zn n l false s1->oZ s1.z s1.zn n l true s2->CG z zn C ⟨C.length,dB C,s2.z,s2.zn⟩:=fun s1 s2 h1 h2=>⟨rfl,rfl,h2.bH,le2 s1 s2 h1 h2,fun k hk=>(lQ h2 k (by rw[h1.2.1];omega)).trans (lQ h1 k hk)⟩
 refine eM (cZ T.leaf) (fn:=f139) (by kernel_rfl) (by kernel_rfl) hz ⟨by decide,by decide⟩ (fun s hs=>⟨rfl,hs.le,hs.bH⟩) (N:=100) ?_
 refine cq z zn l.length cp n (oZ z zn n l false) (fun s=>oZ s.z s.zn n l true) (fun _ _ s=>s=⟨C.length,dB C⟩) _ ?_
 (repeat' first|(with_reducible first|exact rfl|assumption|apply And.intro|exact d2 _ ‹_›|exact oZ.bH ‹_›|exact rb ‹_› _|exact rb2 ‹_› _|exact ro _ _ ‹_›)|exact lp _ _ (by with_reducible assumption) (by with_reducible assumption)|intro hq)
 rename_i s1 h1 s2 h2 s
 subst hq
 exact q2 (⟨C.length,dB C,s2.z,s2.zn⟩:rE) (fin s1 s2 h1 h2) rfl rfl rfl rfl rfl
theorem DG(hz:au z zn)(h5:5<=zn)(n:Nat)(hn:n<=64)(C:List ab)(hC: ∀M F,MF n [] M F->bY M F n n=C):
 bq prog z zn 139 [ak,iv n] [] 0 1 (CG z zn C) (fun s=>bc 0 s.k s.k) (fun s=>[(0, .ay s.bl)]) (fun s=>s.z) (fun s=>s.zn):=by
 have d1:=B3 hz h5 n hn false
 have d2: ∀s,oZ z zn n [] false s->bq prog s.z s.zn 189 [ak,iv n,T1] [] 0 1 (oZ s.z s.zn n [] true) (fun _=>bc 0 n n) (fun s=>[(0, .ay s.bl)]) (fun s=>s.z) (fun s=>s.zn):=fun s h=>B3 h.bH (by rw[h.2.1];omega) n hn true
 have rb: ∀{z zn b s},oZ z zn n [] b s-> ∀σ,aC (aj σ []) (.ay s.bl)=some (.ay s.bl):=fun h σ=>by rw[h.1];exact dE _ _ _
 have rb2: ∀{z zn b s},oZ z zn n [] b s-> ∀σ,aC (sig σ) (.ay s.bl)=some (.ay s.bl):=fun h σ=>rb h σ
 have lp: ∀s1 s2,oZ z zn n [] false s1->oZ s1.z s1.zn n [] true s2->ai prog (ah (ag f139) 0) 3 107 (Bg n 0 0) (Ot s1.bl s2.bl Hu) 4 s2.z s2.zn (Al.R (Qx s2.z s2.zn n s1.bl s2.bl (fun s=>s=⟨C.length,dB C⟩)).l):=fun s1 s2 h1 h2=>by
  obtain⟨M,m1,m2⟩:=p9 h1
  obtain⟨F,f1,f2⟩:=p9 h2
  have:=Bt h2.bH n hn zn s1.zn M F (uz m1 (by rw[h1.2.1];exact Nat.le_refl _) (lQ h2)) f1
  rw[hC M F ⟨m2,f2⟩] at this
  rw[h1.1,h2.1]
  exact this
 have ro: ∀(σ:bb)(s:rm),s=⟨C.length,dB C⟩->aC (aj σ []) (.ay s.bl)=some (.ay s.bl):=fun σ s h=>by rw[h];exact fG _
 have le2: ∀s1 s2,oZ z zn n [] false s1->oZ s1.z s1.zn n [] true s2->zn<=s2.zn:=fun s1 s2 h1 h2=>by rw[h2.2.1,h1.2.1];omega
 have fin: ∀s1 s2,oZ z zn n [] false s1->oZ s1.z s1.zn n [] true s2->CG z zn C ⟨C.length,dB C,s2.z,s2.zn⟩:=fun s1 s2 h1 h2=>⟨rfl,rfl,h2.bH,le2 s1 s2 h1 h2,fun k hk=>(lQ h2 k (by rw[h1.2.1];omega)).trans (lQ h1 k hk)⟩
 refine eM (cZ T.leaf) (fn:=f139) (by kernel_rfl) (by kernel_rfl) hz ⟨by decide,by decide⟩ (fun s hs=>⟨rfl,hs.le,hs.bH⟩) (N:=100) ?_
 refine cqn z zn n (oZ z zn n [] false) (fun s=>oZ s.z s.zn n [] true) (fun _ _ s=>s=⟨C.length,dB C⟩) _ ?_
 (repeat' first|(with_reducible first|exact rfl|assumption|apply And.intro|exact d2 _ ‹_›|exact oZ.bH ‹_›|exact rb ‹_› _|exact rb2 ‹_› _|exact ro _ _ ‹_›)|exact lp _ _ (by with_reducible assumption) (by with_reducible assumption)|intro hq)
 rename_i s1 h1 s2 h2 s
 subst hq
 exact q2 (⟨C.length,dB C,s2.z,s2.zn⟩:rE) (fin s1 s2 h1 h2) rfl rfl rfl rfl rfl
end
theorem Jf{P:Nat->Prop}: ∀n,P n-> ∃m,P m/\ ∀k,P k->m<=k:=by
 intro n
 induction n using Nat.strongRecOn with
 |ind n ih=>
  intro hn
  by_cases h: ∃k,k<n/\P k
  ·obtain⟨k,h1,h2⟩:=h
   exact ih k h1 h2
  ·exact⟨n,hn,fun k hk=>Nat.le_of_not_lt fun hlt=>h ⟨k,hlt,hk⟩⟩
theorem EU(E:bU)(n i j:Nat): ∃v,Hn E n i j v:=by
 by_cases h: ∃L,L<mr/\Wk E n i j L
 ·obtain⟨L,h1,h2⟩:=h
  obtain⟨m,m1,m2⟩:=Jf (P:=fun L=>Wk E n i j L) L h2
  have:=m2 L h2
  exact⟨(m:Int),⟨by omega,fun _=>by simpa using m1,fun k hk=>by have:=m2 k hk;omega⟩,Int.ofNat_le.2 (by omega)⟩
 ·refine⟨(mr:Int),⟨by omega,fun hlt=>absurd hlt (Int.lt_irrefl _),fun k hk=>?_⟩,Int.le_refl _⟩
  by_cases hb:k<mr
  ·exact absurd ⟨k,hb,hk⟩ h
  ·omega
theorem xH{E:bU}{n i j:Nat}{v w:Int}(h:Hn E n i j v)(k:Hn E n i j w):v=w:=by
 obtain⟨⟨a1,a2,a3⟩,a4⟩:=h
 obtain⟨⟨b1,b2,b3⟩,b4⟩:=k
 by_cases hv:v<(mr:Int)
 ·have:=b3 _ (a2 hv)
  have:=a3 _ (b2 (by omega))
  omega
 ·by_cases hw:w<(mr:Int)
  ·have:=a3 _ (b2 hw);omega
  ·omega
theorem xf(n:Nat)(l:List ab): ∃M F,MF n l M F:=by
 obtain⟨M,hM⟩:=Classical.axiomOfChoice fun i:Nat=>Classical.axiomOfChoice fun j:Nat=>EU (db (fm l false)) n i j
 obtain⟨F,hF⟩:=Classical.axiomOfChoice fun i:Nat=>Classical.axiomOfChoice fun j:Nat=>EU (db (fm l true)) n i j
 exact⟨M,F,fun i j _ _=>hM i j,fun i j _ _=>hF i j⟩
def PH(e:Nat × Nat × Int × Bool):ab:=⟨e.1,e.2.1,e.2.2.1,e.2.2.2⟩
theorem NJ{d f:Nat->Nat->Int}{a b:Nat}(L:List ab)(h:a≠b):iG d f a L b=L++(tQ a b (d a b) (f a b)).map PH:=by
 unfold iG tQ iX
 rw[if_neg h]
 by_cases e:f a b=d a b
 ·rw[if_pos e,if_pos e,decide_eq_true e,List.append_nil]
  by_cases c:0<d a b/\d a b<=14400
  ·rw[if_pos c,if_pos c];rfl
  ·rw[if_neg c,if_neg c];simp
 ·rw[if_neg e,if_neg e,decide_eq_false e]
  by_cases c:0<d a b/\d a b<=14400<;>by_cases c2:0<f a b/\f a b<=14400
  ·rw[if_pos c,if_pos c,if_pos c2,if_pos c2];simp[PH]
  ·rw[if_pos c,if_pos c,if_neg c2,if_neg c2];simp[PH]
  ·rw[if_neg c,if_neg c,if_pos c2,if_pos c2];simp[PH]
  ·rw[if_neg c,if_neg c,if_neg c2,if_neg c2];simp
theorem Mb{M F:Nat->Nat->Int}{a b:Nat}(L:List ab)(h:a≠b):ed M F a L b=L++(yN a b (M a b) (F a b)).map PH:=by
 unfold ed yN
 have hb:(F a b==M a b)=decide (F a b=M a b):=by
  by_cases e:F a b=M a b<;>simp[e]
 rw[hb]
 by_cases c:14400<M a b
 ·rw[if_pos (.inr c),if_pos c];simp
 ·rw[if_neg (by omega),if_neg c]
  by_cases c2:M a b<F a b/\F a b<=14400
  ·rw[if_pos c2,if_pos c2];simp[PH]
  ·rw[if_neg c2,if_neg c2];simp[PH]
theorem jT{α β:Type}{f g:α->β->α}: ∀(l:List β)(a:α),(∀a,∀b∈l,f a b=g a b)->l.foldl f a=l.foldl g a
 |[],_,_=>rfl
 |b::l,a,h=>by
  rw[List.foldl_cons,List.foldl_cons,h a b (List.mem_cons_self ..)]
  exact jT l _ fun a c hc=>h a c (List.mem_cons_of_mem _ hc)
theorem H7{n:Nat}{d f M F:Nat->Nat->Int}(h: ∀i j,i<n->j<n->i≠j->jA.Alike (M i j) (d i j)/\jA.Alike (F i j) (f i j)/\M i j<=F i j):eR d f n n=bY M F n n:=by
 unfold eR bY
 refine jT _ _ fun L a ha=>?_
 unfold cU bO
 refine jT _ _ fun L b hb=>?_
 by_cases e:a=b
 ·unfold iG ed
  rw[if_pos e,if_pos (.inl e)]
 ·obtain⟨h1,h2,h3⟩:=h a b (List.mem_range.1 ha) (List.mem_range.1 hb) e
  rw[NJ L e,Mb L e,JK h1 h2 h3]
theorem nw{l:List ab}{b:Bool}{u v w:Nat}:(u,v,w)∈fm l b↔ ∃p∈l,fF b p=true/\p.fz1.toNat=u/\p.aB.toNat=v/\p.aI.toNat=w:=by
 unfold fm
 simp only[List.mem_map,List.mem_filter,Prod.mk.injEq]
 constructor
 ·rintro⟨p,⟨h1,h2⟩,h3,h4,h5⟩;exact⟨p,h1,h2,h3,h4,h5⟩
 ·rintro⟨p,h1,h2,h3,h4,h5⟩;exact⟨p,⟨h1,h2⟩,h3,h4,h5⟩
theorem uw{n:Nat}{l:List ab}(hl:nS n l){b:Bool}{E:List eH}(h:Tb n l b E):yq (db (fm l b)) (EE E):=by
 refine⟨fun u v w hm=>?_,fun u v w hm=>?_⟩
 ·obtain⟨p,p1,p2,p3,p4,p5⟩:=nw.1 hm
  obtain⟨k1,k2,k3,k4,_,k6,k7⟩:=hl.ok p p1
  obtain⟨e,e1,e2,e3,e4⟩:=h.all p p1 p2
  have:=h.ok.ok e e1
  exact⟨e.wt.toNat,by omega,e,e1,by omega,by omega,by omega⟩
 ·obtain⟨e,e1,e2,e3,e4⟩:=hm
  obtain⟨p,p1,p2,p3,p4,p5⟩:=h.sub e e1
  exact⟨w,Nat.le_refl _,nw.2 ⟨p,p1,p2,by omega,by omega,by omega⟩⟩
theorem En{n:Nat}{l:List ab}(hl:nS n l){b:Bool}:Pos (db (fm l b)):=fun u v w hm=>by
 obtain⟨p,p1,p2,p3,p4,p5⟩:=nw.1 hm
 have:=hl.ok p p1
 omega
theorem OH{n:Nat}{E:List eH}(h:Hp n E): ∀a b w,EE E a b w->a<n/\b<n:=fun a b w ⟨e,e1,e2,e3,e4⟩=>by
 have:=h.ok e e1
 omega
theorem MB{l:List ab}: ∀a b w,db (fm l true) a b w-> ∃w',w'<=w/\db (fm l false) a b w':=fun a b w hm=>by
 obtain⟨p,p1,p2,p3⟩:=nw.1 hm
 exact⟨w,Nat.le_refl _,nw.2 ⟨p,p1,rfl,p3⟩⟩
theorem JS{n:Nat}{l:List ab}(hl:nS n l){d f M F:Nat->Nat->Int}(h:DF n l d f)(k:MF n l M F):eR d f n n=bY M F n n:=by
 obtain⟨E,G,hE,hG,h1,h2⟩:=h
 refine H7 fun i j hi hj hij=>⟨?_,?_,?_⟩
 ·exact Cd (uw hl hE) (En hl) (OH hE.ok) (by decide) (fun e=>hij e.symm) (k.1 i j hi hj).1 (h1 i j hi hj)
 ·exact Cd (uw hl hG) (En hl) (OH hG.ok) (by decide) (fun e=>hij e.symm) (k.2 i j hi hj).1 (h2 i j hi hj)
 ·rcases A4 MB (k.1 i j hi hj).1 (k.2 i j hi hj).1 with h|h
  ·exact h
  ·exact Int.le_trans (k.1 i j hi hj).2 h
theorem JT(n:Nat)(l:List ab): ∃C:List ab,(∃M F,MF n l M F/\C=bY M F n n)/\ ∀M F,MF n l M F->bY M F n n=C:=by
 obtain⟨M,F,h⟩:=xf n l
 refine⟨bY M F n n,⟨M,F,h,rfl⟩,fun M' F' h'=>?_⟩
 unfold bY
 refine jT _ _ fun L a ha=>?_
 unfold bO
 refine jT _ _ fun L b hb=>?_
 have ha:=List.mem_range.1 ha
 have hb:=List.mem_range.1 hb
 unfold ed
 rw[xH (h'.1 a b ha hb) (h.1 a b ha hb),xH (h'.2 a b ha hb) (h.2 a b ha hb)]
noncomputable def ic(n:Nat)(l:List ab):List ab:=Classical.choose (JT n l)
theorem lJ{n:Nat}{l:List ab}{M F:Nat->Nat->Int}(h:MF n l M F):bY M F n n=ic n l:=(Classical.choose_spec (JT n l)).2 M F h
theorem xV{n:Nat}{l:List ab}(hl:nS n l){d f:Nat->Nat->Int}(h:DF n l d f):eR d f n n=ic n l:=by
 obtain⟨M,F,hm⟩:=xf n l
 rw[JS hl h hm];exact lJ hm
open Classical in
theorem jG{P:Program}{z:T aa}{zn f:Nat}{args:List Value}{nx:Nat}{α:Type}{φ:α->Prop}{v:Value}{zz:α->T aa}{zn':α->Nat}(h:bq P z zn f args [] nx nx φ (fun _=>v) (fun _=>[]) zz zn')(hv:aD v=true)
 (ho: ∀x,φ x-> ∀k,k<zn->(zz x).get k=z.get k):aP P z zn f args [] nx nx (fun _:Unit=>True) (fun _=>v) (fun _=>[]):=by
 have hz:=h.1
 refine⟨h.1,h.2.1,h.2.2.1,fun _ _=>⟨fun b o hb=>by simp at hb,Nat.le_refl _,h.1⟩,fun ρ w args' n h1 h2 h3 h4=>(h.2.2.2.2 ρ w args' n h1 h2 h3 h4).mono fun e w' ⟨x,hx,hg⟩=>⟨(),trivial,?_⟩⟩
 obtain⟨ρ',v',e1,g1,g2,g3⟩:=hg
 have hle:=(h.2.2.2.1 x hx).le
 have hsub: ∀b o,(dI z [] nx).heap.get b=some o->(dI (zz x) [] nx).heap.get b=some o:=fun b o hb=>by
  obtain⟨k,e,hk⟩:=fg hb
  show(qf (zz x)).get b=_
  rw[e,fQ]
  show(zz x).get k=_
  rw[ho x hx k (hz k o hk).1];exact hk
 have hfr: ∀b o,(dI z [] nx).heap.get b=some o-> ∃k,b=256*k+510/\k<zn/\z.get k=some o:=fun b o hb=>by
  obtain⟨k,e,hk⟩:=fg hb
  exact⟨k,e,(hz k o hk).1,hk⟩
 have hno: ∀b,kx zn (zn' x) b->ρ b=none:=fun b ⟨k,e,k1,_⟩=>by rw[e];exact h4 k k1
 have hle':aX.le (fun b=>if kx zn (zn' x) b then none else ρ' b) ρ':=fun b L hL=>by
  simp only at hL
  split at hL
  ·cases hL
  ·exact hL
 refine⟨fun b=>if kx zn (zn' x) b then none else ρ' b,v',e1,?_,⟨fun b o hb=>?_,fun i j oi oj Li Lj hi hj hij how hLi hLj=>g2.inj i j oi oj Li Lj (hsub _ _ hi) (hsub _ _ hj) hij how (hle' _ _ hLi) (hle' _ _ hLj)⟩,⟨⟨g3.core.os,g3.core.tape,g3.core.output,g3.core.size,g3.core.same,fun b o L hb ho hL=>g3.core.own b o L (hsub _ _ hb) ho (hle' _ _ hL),fun b o L hb hL=>g3.core.any b o L (hsub _ _ hb) (hle' _ _ hL)⟩,fun b L hL=>?_,fun b hb _=>?_⟩⟩
 ·have:=g1.plain hv
  subst this
  exact VR.bw hv
 ·obtain⟨L,y,k1,k2,k3⟩:=g2.obj b o (hsub b o hb)
  obtain⟨k,e,hk,hzk⟩:=hfr b o hb
  have hnot: ∀k,k<zn-> ¬kx zn (zn' x) (256*k+510):=fun k hk ⟨j,e,j1,_⟩=>by omega
  refine⟨L,y,(if_neg (by rw[e];exact hnot k hk)).trans k1,k2,?_⟩
  have:=(hz k o hzk).2 (fun b=>if∃j,j<zn/\b=256*j+510 then some b else none) fun j hj=>by rw[if_pos ⟨j,hj,rfl⟩]
  refine(n7 this k3).mono fun c M hM=>?_
  simp only[dV] at hM
  by_cases hc: ∃j,j<zn/\c=256*j+510
  ·rw[if_pos hc] at hM
   obtain⟨j,hj,e⟩:=hc
   exact(if_neg (by rw[e];exact hnot j hj)).trans hM
  ·rw[if_neg hc] at hM;cases hM
 ·by_cases hn:kx zn (zn' x) b
  ·rw[hno b hn] at hL;cases hL
  ·exact(if_neg hn).trans (g3.ext _ _ hL)
 ·by_cases hn:kx zn (zn' x) b
  ·exact(if_pos hn).trans (hno b hn).symm
  ·exact(if_neg hn).trans (g3.uE b hb hn)
def JH(x y:ab):Bool:=decide (x.fz1=y.fz1) && (decide (x.aB=y.aB) && (decide (x.aI=y.aI) && (x.sf==y.sf)))
theorem Kx(i j:Nat)(x y:ab):pI prog .neq 141 (.tmp i) (.tmp j) (.agg ⟨x.row⟩) (.agg ⟨y.row⟩) (.bool (!JH x y)):=by
 unfold pI
 rw[prun_bind]
 have h1:prun prog (eqGuard .neq 141 (.tmp i) (.tmp j) (.agg ⟨x.row⟩) (.agg ⟨y.row⟩))=some ():=by kernel_rfl
 rw[h1,Option.bind_some]
 show prun _ (Op.equal _ _ _>>=fun b=>pure (Value.bool (!b)))=_
 rw[prun_bind,JF]
 rfl
theorem nH{x y:ab}:JH x y=true↔x=y:=by
 obtain⟨a,b,c,d⟩:=x
 obtain⟨a',b',c',d'⟩:=y
 unfold JH
 simp
instance:DecidableEq ab:=fun x y=>decidable_of_iff _ nH
section
variable{z:T aa}{zn:Nat}
theorem M4(hz:au z zn)(l C:List ab)(cp k:Nat)(hL:bM z 4 (l.map ab.row))(hk:z.get k=some (QQ (C.map ab.row).flatten C.length))(hlen:C.length=l.length)(hll:l.length<=10000)(b:Bool)(hb:b=decide (C=l)):
 ai prog (ah (ag f134) 0) 0 43 (Da k C.length l.length cp 0) [] 0 z zn (Al.R (T5 z zn k C.length l.length cp b).l):=by
 refine ax hD (cZ T.leaf) (α:=Nat) 0 43 0 (fun i=>i<=l.length/\ ∀j,j<i->C[j]? =l[j]?) (fun i=>Da k C.length l.length cp i) (fun _=>[]) (fun _=>z) (fun _=>zn) (fun i=>l.length - i) _ (fun i hI=>?_) 0 ⟨Nat.zero_le _,fun j hj=>absurd hj (Nat.not_lt_zero _)⟩
 obtain⟨hi,hs⟩:=hI
 by_cases hlt:i<l.length
 ·obtain⟨x,hx⟩:=dh hlt
  obtain⟨y,hy⟩:=dh (l:=C) (i:=i) (by omega)
  have hc:decide ((i:Int)<(C.length:Int))=true:=by simp;omega
  have hltC:i<C.length:=by omega
  obtain⟨el,hel⟩:=hL.ay (i:=i) (by simp;omega)
  have r1:aq prog (bg el (l.map ab.row).flatten) 141 (0+i*4)=some (.agg ⟨x.row⟩):=bD (r:=x.row) (sz:=4) underlying141 rfl rfl (aM (row:=ab.row) (sz:=4) l fun _=>rfl) (by rw[List.getElem?_map,hx];rfl)
  have r2:aq prog ⟨(C.map ab.row).flatten,C.length*4,4,141,false,false,0,true⟩ 141 (0+i*4)=some (.agg ⟨y.row⟩):=gE (rows:=C.map ab.row) rfl (r:=y.row) (sz:=4) underlying141 rfl rfl (aM (row:=ab.row) (sz:=4) C fun _=>rfl) (by rw[List.getElem?_map,hy];rfl)
  refine t100 (ic0 z zn k C.length l.length cp i (bg el (l.map ab.row).flatten) ⟨(C.map ab.row).flatten,C.length*4,4,141,false,false,0,true⟩ x y (!JH y x) (an _ _ _ _ _ _ _ _ _) ⟨fun _=>?_,nC1 hc⟩)
  (repeat' first|(with_reducible first|exact rfl|assumption|apply And.intro|exact Kx _ _ _ _|exact bF (by omega))|intro hq)
  ·refine bu ?_
   have hne: ¬y=x:=fun e=>by rw[nH.2 e] at hq;cases hq
   rw[hb];simp
   intro e;subst e;rw[hx] at hy;cases hy;exact hne rfl
  ·have he:y=x:=nH.1 (by simpa using hq)
   subst he
   exact⟨i+1,rfl,rfl,rfl,rfl,rfl,⟨by omega,fun j hj=>by
    by_cases e:j=i
    ·subst e;rw[hx,hy]
    ·exact hs j (by omega)⟩,by show l.length - (i+1)<l.length - i;omega⟩
 ·have hil:i=l.length:=by omega
  have hc:decide ((i:Int)<(C.length:Int))=false:=by simp;omega
  refine t100 (ic0 z zn k C.length l.length cp i ⟨[],0,0,0,true,true,0,true⟩ ⟨[],0,0,0,true,true,0,true⟩ ⟨0,0,0,true⟩ ⟨0,0,0,true⟩ true (an _ _ _ _ _ _ _ _ _) ⟨nC1 hc,fun _=>?_⟩)
  (repeat' first|(with_reducible first|exact rfl|assumption|apply And.intro))
  refine dv (bu ?_)
  have:C=l:=by
   refine List.ext_getElem? fun j=>?_
   by_cases hj:j<i
   ·exact hs j hj
   ·rw[List.getElem?_eq_none (by omega),List.getElem?_eq_none (by omega)]
  rw[hb];simp[this]
end
theorem PO{x y:ab}(h:(y.fz1==x.fz1)=false):bW x y=false:=by
 unfold bW
 have: ¬y.fz1=x.fz1:=by simpa using h
 rw[decide_eq_false this];rfl
theorem PN{x y:ab}(h:(y.aB==x.aB)=false):bW x y=false:=by
 unfold bW
 have: ¬y.aB=x.aB:=by simpa using h
 rw[decide_eq_false this];simp
theorem PM{x y:ab}(h:y.sf=true)(h2:x.sf=false):bW x y=false:=by
 unfold bW
 rw[h,h2];simp
theorem PL{x y:ab}(h:y.sf=false)(h2:x.sf=true):bW x y=false:=by
 unfold bW
 rw[h,h2];simp
theorem Ow{x y:ab}(h:(y.fz1==x.fz1)=true)(h2:(y.aB==x.aB)=true)(h3:y.sf=x.sf):bW x y=true:=by
 unfold bW
 rw[decide_eq_true (by simpa using h),decide_eq_true (by simpa using h2),h3];simp
section
variable{z:T aa}{zn:Nat}
theorem I3(hz:au z zn)(hg:eN prog z gP)(N:aw)(l:List ab)(hN:N.np=l.length)(hnet: ∀σ:bb,aC (aj σ []) (N.bZ N.p1)=some (N.bZ N.p1))(hL:bM z 4 (l.map ab.row))(i:Nat)(hi8:i<=10000)(x:ab)(hx:l[i]? =some x):
 ai prog (ah (ah (ag f91) 0) 0) 2 111 (y8 i 0) [(0,N.bZ N.p1),(1,yO x)] 2 z zn (Al.R (Qz z zn N i x ((l.take i).any (bW x))).l):=by
 have hi:i<l.length:=(List.getElem?_eq_some_iff.1 hx).1
 refine ax hD hg (α:=Nat) 2 111 2 (fun k=>k<=i/\(l.take k).any (bW x)=false) (fun k=>y8 i k) (fun k=>[(0,N.bZ N.p1),(1,yO x)]) (fun _=>z) (fun _=>zn) (fun k=>i - k) _ (fun k hI=>?_) 0 ⟨Nat.zero_le _,by simp⟩
 obtain⟨hk,hs⟩:=hI
 by_cases hlt:k<i
 ·obtain⟨y,hy⟩:=dh (l:=l) (i:=k) (by omega)
  have hc:decide ((k:Int)<(i:Int))=true:=by simp;omega
  have hkn:k<N.np:=by omega
  obtain⟨el,hel⟩:=hL.ay (i:=k) (by simp;omega)
  have r0:aq prog (bg el (l.map ab.row).flatten) 141 (0+k*4)=some (.agg ⟨y.row⟩):=bD (r:=y.row) (sz:=4) underlying141 rfl rfl (aM (row:=ab.row) (sz:=4) l fun _=>rfl) (by rw[List.getElem?_map,hy];rfl)
  have nx:bW x y=false->an (fun k=>k<=i/\(l.take k).any (bW x)=false) (fun k=>y8 i k) (fun k=>[(0,N.bZ N.p1),(1,yO x)]) 2 (fun _=>z) (fun _=>zn) (fun k=>i - k) (Al.R (Qz z zn N i x ((l.take i).any (bW x))).l) k .normal (y8 i (k+1)) [(0,N.bZ N.p1),(1,yO x)] 2 z zn:=fun h=>
   ⟨k+1,rfl,rfl,rfl,rfl,rfl,⟨hlt,by rw[jX hy,hs,h];rfl⟩,by show i - (k+1)<i - k;omega⟩
  have ret:bW x y=true->an (fun k=>k<=i/\(l.take k).any (bW x)=false) (fun k=>y8 i k) (fun k=>[(0,N.bZ N.p1),(1,yO x)]) 2 (fun _=>z) (fun _=>zn) (fun k=>i - k) (Al.R (Qz z zn N i x ((l.take i).any (bW x))).l) k .ret [(2,iv i),(3,I 6)] [] 2 z zn:=fun h=>by
   refine bu ?_
   rw[List.any_eq_true]
   exact⟨y,List.mem_of_getElem? (i:=k) (by rw[List.getElem?_take,if_pos hlt];exact hy),h⟩
  refine t100 (pp1 z zn i k N (bg el (l.map ab.row).flatten) x y (an _ _ _ _ _ _ _ _ _) ⟨fun _=>?_,nC1 hc⟩)
  (repeat' first|(with_reducible first|exact rfl|assumption|apply And.intro|exact bF (by omega))|exact hnet _|intro hq)
  all_goals first
   |exact nx (PO (by with_reducible assumption))
   |exact nx (PN (by with_reducible assumption))
   |exact ret (Ow (by with_reducible assumption) (by with_reducible assumption) (Eq.trans (by with_reducible assumption:y.sf=true) (Eq.symm (by with_reducible assumption:x.sf=true))))
   |exact ret (Ow (by with_reducible assumption) (by with_reducible assumption) (Eq.trans (by with_reducible assumption:y.sf=false) (Eq.symm (by with_reducible assumption:x.sf=false))))
   |exact nx (PM (by with_reducible assumption) (by with_reducible assumption))
   |exact nx (PL (by with_reducible assumption) (by with_reducible assumption))
 ·have hki:k=i:=by omega
  subst hki
  have hc:decide ((k:Int)<(k:Int))=false:=by simp
  refine t100 (pp1 z zn k k N ⟨[],0,0,0,true,true,0,true⟩ x ⟨0,0,0,true⟩ (an _ _ _ _ _ _ _ _ _) ⟨nC1 hc,fun _=>?_⟩)
  (repeat' first|(with_reducible first|exact rfl|assumption|apply And.intro)|exact hnet _)
  exact dv (bu hs)
theorem I2(hz:au z zn)(hg:eN prog z gP)(N:aw)(l C:List ab)(hN:N.np=l.length)(hlen:C.length=l.length)(hll:l.length<=10000)(hnet: ∀σ:bb,aC (aj σ []) (N.bZ N.p1)=some (N.bZ N.p1))(hL:bM z 4 (l.map ab.row))(s:rE)(hk:s.k=C.length)(hbl:s.bl=dB C)(hsz:s.z=z)(hszn:s.zn=zn)(b:Bool)(hb:b=decide (C=l)):
 ai prog (ah (ag f91) 2) 2 111 (tx s.k 0) [(0,N.bZ N.p1),(1, .ay s.bl)] 2 z zn (Al.R (Qy N N.p1 b s).l):=by
 obtain⟨k,bl,z',zn'⟩:=s
 simp only at hk hbl hsz hszn
 subst hk hbl hsz hszn
 have hox:(dB C).cells=(C.map ab.row).flatten:=by
  unfold dB
  split
  ·rename_i e;subst e;rfl
  ·rfl
 refine ax hD hg (α:=Nat) 2 111 2 (fun i=>i<=l.length/\ ∀j,j<i->C[j]? =l[j]?) (fun i=>tx C.length i) (fun _=>[(0,N.bZ N.p1),(1, .ay (dB C))]) (fun _=>z') (fun _=>zn') (fun i=>l.length - i) _ (fun i hI=>?_) 0 ⟨Nat.zero_le _,fun j hj=>absurd hj (Nat.not_lt_zero _)⟩
 obtain⟨hi,hs⟩:=hI
 by_cases hlt:i<l.length
 ·obtain⟨x,hx⟩:=dh hlt
  obtain⟨y,hy⟩:=dh (l:=C) (i:=i) (by omega)
  have hc:decide ((i:Int)<(C.length:Int))=true:=by simp;omega
  have hltC:i<C.length:=by omega
  have hltN:i<N.np:=by omega
  obtain⟨el,hel⟩:=hL.ay (i:=i) (by simp;omega)
  have r1:aq prog (bg el (l.map ab.row).flatten) 141 (0+i*4)=some (.agg ⟨x.row⟩):=bD (r:=x.row) (sz:=4) underlying141 rfl rfl (aM (row:=ab.row) (sz:=4) l fun _=>rfl) (by rw[List.getElem?_map,hx];rfl)
  have r2:aq prog (dB C) 141 (0+i*4)=some (.agg ⟨y.row⟩):=gE (rows:=C.map ab.row) hox (r:=y.row) (sz:=4) underlying141 rfl rfl (aM (row:=ab.row) (sz:=4) C fun _=>rfl) (by rw[List.getElem?_map,hy];rfl)
  refine t100 (pp2 z' zn' i C.length N (bg el (l.map ab.row).flatten) (dB C) x y (!JH y x) (an _ _ _ _ _ _ _ _ _) ⟨fun _=>?_,nC1 hc⟩)
  (repeat' first|(with_reducible first|exact rfl|assumption|apply And.intro|exact Kx _ _ _ _|exact fG _|exact bF (by omega))|exact hnet _|intro hq)
  ·refine bu ?_
   have hne: ¬y=x:=fun e=>by rw[nH.2 e] at hq;cases hq
   rw[hb];simp
   intro e;subst e;rw[hx] at hy;cases hy;exact hne rfl
  ·have he:y=x:=nH.1 (by simpa using hq)
   subst he
   exact⟨i+1,rfl,rfl,rfl,rfl,rfl,⟨by omega,fun j hj=>by
    by_cases e:j=i
    ·subst e;rw[hx,hy]
    ·exact hs j (by omega)⟩,by show l.length - (i+1)<l.length - i;omega⟩
 ·have hil:i=l.length:=by omega
  have hc:decide ((i:Int)<(C.length:Int))=false:=by simp;omega
  refine t100 (pp2 z' zn' i C.length N ⟨[],0,0,0,true,true,0,true⟩ (dB C) ⟨0,0,0,true⟩ ⟨0,0,0,true⟩ true (an _ _ _ _ _ _ _ _ _) ⟨nC1 hc,fun _=>?_⟩)
  (repeat' first|(with_reducible first|exact rfl|assumption|apply And.intro))
  refine dv (bu ?_)
  have:C=l:=by
   refine List.ext_getElem? fun j=>?_
   by_cases hj:j<i
   ·exact hs j hj
   ·rw[List.getElem?_eq_none (by omega),List.getElem?_eq_none (by omega)]
  rw[hb];simp[this]
end
theorem EW{a m:Int}(h:(!(decide (0<=a) && decide (a<=m - 1)))=true):a<0\/m<=a:=by
 simp at h;omega
theorem BC{a m:Int}(h:(!(decide (0<=a) && decide (a<=m - 1)))=false): ¬a<0/\ ¬m<=a:=by
 simp at h;omega
theorem Jn{a m k:Int}(h:(!(decide (k<=a) && decide (a<=m)))=true):a<k\/m<a:=by
 simp at h;omega
theorem xI{a m k:Int}(h:(!(decide (k<=a) && decide (a<=m)))=false): ¬(a<k\/m<a):=by
 simp at h;omega
section
variable{z:T aa}{zn:Nat}
theorem I4(hz:au z zn)(hg:eN prog z gP)(N:aw)(hn:N.ns<=64)(l:List ab)(hN:N.np=l.length)(hnet: ∀σ:bb,aC (aj σ []) (N.bZ N.p1)=some (N.bZ N.p1))(hL:bM z 4 (l.map ab.row))(r:Int × Int)(hr:scan (cO N.ns l) l.length 0=r):
 ai prog (ah (ag f91) 0) 1 111 (mO 0) [(0,N.bZ N.p1)] 1 z zn (Al.R (MG z zn N N.p1 r.1 r.2).l):=by
 refine ax hD hg (α:=Nat) 1 111 1 (fun i=>i<=l.length/\scan (cO N.ns l) (l.length - i) i=r/\ ∀j,j<i->cO N.ns l j=none) (fun i=>mO i) (fun i=>[(0,N.bZ N.p1)]) (fun _=>z) (fun _=>zn) (fun i=>l.length - i) _ (fun i hI=>?_) 0 ⟨Nat.zero_le _,hr,fun j hj=>absurd hj (Nat.not_lt_zero _)⟩
 obtain⟨h1,h2,h3⟩:=hI
 have hi8:=Ep (n:=N.ns) (by omega) h1 h3
 by_cases hi:i<l.length
 ·obtain⟨x,hx⟩:=dh hi
  obtain⟨el,hel⟩:=hL.ay (i:=i) (by simp;omega)
  have hrow:aq prog (bg el (l.map ab.row).flatten) 141 (0+i*4)=some (.agg ⟨x.row⟩):=bD (r:=x.row) (sz:=4) underlying141 rfl rfl (aM (row:=ab.row) (sz:=4) l fun _=>rfl) (by rw[List.getElem?_map,hx];rfl)
  have hlp:=I3 hz hg N l hN hnet hL i (by omega) x hx
  have hlk:fT N.ns l i x=if x.fz1<0\/(N.ns:Int)<=x.fz1\/x.aB<0\/(N.ns:Int)<=x.aB\/x.fz1=x.aB then 9 else if x.aI<1\/14400<x.aI then 2 else if (l.take i).any (bW x)=true then 6 else 0:=rfl
  have ret: ∀e:Int,fT N.ns l i x=e->e≠0->an (fun i=>i<=l.length/\scan (cO N.ns l) (l.length - i) i=r/\ ∀j,j<i->cO N.ns l j=none) (fun i=>mO i) (fun i=>[(0,N.bZ N.p1)]) 1 (fun _=>z) (fun _=>zn) (fun i=>l.length - i) (Al.R (MG z zn N N.p1 r.1 r.2).l) i .ret [(2,iv i),(3,zv e)] [] 1 z zn:=fun e h h0=>by
   have hb:cO N.ns l i=some e:=by unfold cO;rw[hx];simp only;rw[h,if_neg h0]
   have:r=((i:Int),e):=by rw[←h2,cY hi hb]
   rw[this]
   exact bu h0
  have kh:fT N.ns l i x=0->an (fun i=>i<=l.length/\scan (cO N.ns l) (l.length - i) i=r/\ ∀j,j<i->cO N.ns l j=none) (fun i=>mO i) (fun i=>[(0,N.bZ N.p1)]) 1 (fun _=>z) (fun _=>zn) (fun i=>l.length - i) (Al.R (MG z zn N N.p1 r.1 r.2).l) i .normal (mO (i+1)) [(0,N.bZ N.p1)] 1 z zn:=fun h0=>by
   have hb:cO N.ns l i=none:=by unfold cO;rw[hx];simp only;rw[if_pos h0]
   exact⟨i+1,rfl,rfl,rfl,rfl,rfl,⟨hi,by rw[←cD hi hb];exact h2,fun j hj=>by
    by_cases e:j=i
    ·subst e;exact hb
    ·exact h3 j (by omega)⟩,by show l.length - (i+1)<l.length - i;omega⟩
  have e9a:(!(decide (0<=x.fz1) && decide (x.fz1<=(N.ns:Int) - 1)))=true->fT N.ns l i x=9:=fun h=>by
   have:=EW h
   rw[hlk,if_pos (by omega)]
  have e9b:(!(decide (0<=x.aB) && decide (x.aB<=(N.ns:Int) - 1)))=true->fT N.ns l i x=9:=fun h=>by
   have:=EW h
   rw[hlk,if_pos (by omega)]
  have e9c:(x.fz1==x.aB)=true->fT N.ns l i x=9:=fun h=>by
   have:x.fz1=x.aB:=by simpa using h
   rw[hlk,if_pos (by omega)]
  have no9:(!(decide (0<=x.fz1) && decide (x.fz1<=(N.ns:Int) - 1)))=false->(!(decide (0<=x.aB) && decide (x.aB<=(N.ns:Int) - 1)))=false->(x.fz1==x.aB)=false-> ¬(x.fz1<0\/(N.ns:Int)<=x.fz1\/x.aB<0\/(N.ns:Int)<=x.aB\/x.fz1=x.aB):=fun h1 h2 h3=>by
   have k1:=BC h1
   have k2:=BC h2
   have k3: ¬x.fz1=x.aB:=by simpa using h3
   omega
  have e2:(!(decide (0<=x.fz1) && decide (x.fz1<=(N.ns:Int) - 1)))=false->(!(decide (0<=x.aB) && decide (x.aB<=(N.ns:Int) - 1)))=false->(x.fz1==x.aB)=false->(!(decide (1<=x.aI) && decide (x.aI<=14400)))=true->fT N.ns l i x=2:=fun a b c d=>by
   rw[hlk,if_neg (no9 a b c),if_pos (Jn d)]
  have e6:(!(decide (0<=x.fz1) && decide (x.fz1<=(N.ns:Int) - 1)))=false->(!(decide (0<=x.aB) && decide (x.aB<=(N.ns:Int) - 1)))=false->(x.fz1==x.aB)=false->(!(decide (1<=x.aI) && decide (x.aI<=14400)))=false->(l.take i).any (bW x)=true->fT N.ns l i x=6:=fun a b c d e=>by
   rw[hlk,if_neg (no9 a b c),if_neg (xI d),if_pos e]
  have e0:(!(decide (0<=x.fz1) && decide (x.fz1<=(N.ns:Int) - 1)))=false->(!(decide (0<=x.aB) && decide (x.aB<=(N.ns:Int) - 1)))=false->(x.fz1==x.aB)=false->(!(decide (1<=x.aI) && decide (x.aI<=14400)))=false->(l.take i).any (bW x)=false->fT N.ns l i x=0:=fun a b c d e=>by
   rw[hlk,if_neg (no9 a b c),if_neg (xI d),if_neg (by rw[e];decide)]
  have hc:decide ((i:Int)<(N.np:Int))=true:=by simp;omega
  have hiN:i<N.np:=by omega
  have hwr:Value.int .i64 (IntKind.i64.wrap ((N.ns:Int) - 1))=Value.int .i64 ((N.ns:Int) - 1):=cX (by omega) (by omega)
  refine t100 (pp0 z zn i N (bg el (l.map ab.row).flatten) x ((l.take i).any (bW x)) (an _ _ _ _ _ _ _ _ _) ⟨fun _=>?_,nC1 hc⟩)
  (repeat' first|(with_reducible first|exact rfl|assumption|apply And.intro|exact bF (by omega))|exact(rfl:gP _ _=_)|exact hnet _|exact hlp|intro hq)
  all_goals first
   |exact ret 9 (e9a (by with_reducible assumption)) (by decide)
   |exact ret 9 (e9b (by with_reducible assumption)) (by decide)
   |exact ret 9 (e9c (by with_reducible assumption)) (by decide)
   |exact ret 2 (e2 (by with_reducible assumption) (by with_reducible assumption) (by with_reducible assumption) (by with_reducible assumption)) (by decide)
   |exact ret 6 (e6 (by with_reducible assumption) (by with_reducible assumption) (by with_reducible assumption) (by with_reducible assumption) (by with_reducible assumption)) (by decide)
   |exact kh (e0 (by with_reducible assumption) (by with_reducible assumption) (by with_reducible assumption) (by with_reducible assumption) (by with_reducible assumption))
 ·have hc:decide ((i:Int)<(N.np:Int))=false:=by simp;omega
  rw[dL (by omega)] at h2
  refine t100 (pp0 z zn i N ⟨[],0,0,0,true,true,0,true⟩ ⟨0,0,0,true⟩ true (an _ _ _ _ _ _ _ _ _) ⟨nC1 hc,fun _=>?_⟩)
  (repeat' first|(with_reducible first|exact rfl|assumption|apply And.intro)|exact hnet _)
  refine dv (bu ?_)
  rw[←h2];exact⟨rfl,rfl⟩
end
theorem sn{P:Program}{z:T aa}{zn f:Nat}{args:List Value}{aQ:bN}{nx eI:Nat}{α β:Type}{φ:α->Prop}{v:α->Value}{zo:α->bN}{zz:α->T aa}{zn':α->Nat}{ψ:β->Prop}{u:β->Value}{yo:β->bN}{yy:β->T aa}{yn:β->Nat}(h:bq P z zn f args aQ nx eI φ v zo zz zn')
 (hm: ∀x,φ x-> ∃y,ψ y/\v x=u y/\zo x=yo y/\zz x=yy y/\zn' x=yn y) (hb: ∀y,ψ y->wj zn (yo y) (yy y) (yn y)):bq P z zn f args aQ nx eI ψ u yo yy yn:=
 ⟨h.1,h.2.1,h.2.2.1,hb,fun ρ w args' n h1 h2 h3 h4=>(h.2.2.2.2 ρ w args' n h1 h2 h3 h4).mono fun e w' ⟨x,hx,hg⟩=>by
   obtain⟨y,hy,e1,e2,e3,e4⟩:=hm x hx
   exact⟨y,hy,by rw[←e1,←e2,←e3,←e4];exact hg⟩⟩
def Am(z:T aa)(zn:Nat)(t:T aa × Nat):Prop:=au t.1 t.2/\zn<=t.2/\ ∀k,k<zn->t.1.get k=z.get k
theorem Am.bH{z:T aa}{zn:Nat}{t:T aa × Nat}(h:Am z zn t):au t.1 t.2:=h.1
theorem XD(n:Nat):(if (0:Int)>(n:Int) then 0 else (n:Int))=n:=by rw[if_neg (by omega)]
section
variable{z:T aa}{zn:Nat}
theorem Bq(hz:au z zn)(v:Value)(hv: ∀σ,aJ (aj σ []) v=some v):ai prog (ah (ag f134) 0) 0 43 (oT v) [] 0 z zn (Al.R (IQ z zn v).l):=by
 refine ax hD (cZ T.leaf) (α:=Unit) 0 43 0 (fun _=>True) (fun _=>oT v) (fun _=>[]) (fun _=>z) (fun _=>zn) (fun _=>0) _ (fun _ _=>?_) () trivial
 refine t100 (X8 z zn v (an _ _ _ _ _ _ _ _ _) ?_)
 (repeat' first|(with_reducible first|exact rfl|assumption|apply And.intro))
 exact bu trivial
theorem G1(hz:au z zn)(n:Nat)(hn:n<=64)(l:List ab)(hl:nS n l)(hll:l.length<=10000)(cp:Nat)(hL:bM z 4 (l.map ab.row))(C:List ab)(hC: ∀d f,DF n l d f->eR d f n n=C)(hS:kX C)
 (hso:A1 z zn 187 [tb 4 l.length cp,iv n] [] 0 0 (.tuple ⟨[zv 0,zv 0]⟩) []):
 bq prog z zn 134 [tb 4 l.length cp,iv n] [] 0 0 (Am z zn) (fun _=> .bool (decide (C=l))) (fun _=>[]) (fun t=>t.1) (fun t=>t.2):=by
 have hc:=UU hz n hn l hl hll cp hL C hC hS
 have hgt:decide ((n:Int)>64)=false:=by simp;omega
 by_cases hnil:C=[]
 ·have hcz:bq prog z zn 188 [tb 4 l.length cp, .int .i64 (if 0>(n:Int) then 0 else (n:Int))] [] 0 0 (Am z zn) (fun _=>ak) (fun _=>[]) (fun t=>t.1) (fun t=>t.2):=by
   rw[XD]
   refine sn hc (fun s hs=>⟨(s.z,s.zn),⟨hs.bH,hs.le,hs.fE⟩,?_,rfl,rfl,rfl⟩) fun t ht=>⟨fun b o hb=>by simp at hb,ht.2.1,ht.1⟩
   rcases hs.val with ⟨_,e1,e2⟩|⟨h,_⟩
   ·obtain⟨oa,k,z,zn⟩:=s
    simp only at e1 e2;subst e1 e2;rfl
   ·exact absurd hnil h
  have lp: ∀t,Am z zn t->ai prog (ah (ag f134) 0) 0 43 (oT (tb 4 l.length cp)) [] 0 t.1 t.2 (Al.R (IQ t.1 t.2 (tb 4 l.length cp)).l):=fun t ht=>Bq ht.1 _ fun σ=>jL σ _ _ _
  refine eM (cZ T.leaf) (fn:=f134) (by kernel_rfl) (by kernel_rfl) hz ⟨by decide,by decide⟩ (fun t ht=>⟨rfl,ht.2.1,ht.1⟩) (N:=100) ?_
  refine icz z zn n l.length cp (Am z zn) _ ⟨nC1 hgt,fun _=>?_⟩
  (repeat' first|(with_reducible first|exact rfl|assumption|apply And.intro|exact Am.bH ‹_›)|exact lp _ (by with_reducible assumption)|intro hq)
  ·rename_i t ht
   refine q2 t ht rfl ?_ rfl rfl rfl
   have: ¬C=l:=fun e=>by
    rw[←e,hnil] at hq;simp at hq
   rw[decide_eq_false this]
  ·rename_i t ht h0 _
   refine q2 t ht rfl ?_ rfl rfl rfl
   have:C=l:=by
    have:l.length=0:=by simp at h0;omega
    rw[hnil];exact(List.eq_nil_of_length_eq_zero this).symm
   rw[decide_eq_true this]
 ·have hct:bq prog z zn 188 [tb 4 l.length cp, .int .i64 (if 0>(n:Int) then 0 else (n:Int))] [] 0 0 (fun t:Nat × Nat × T aa × Nat=>Am z zn (t.2.2.1,t.2.2.2)/\t.2.1=C.length/\t.2.2.1.get t.1=some (QQ (C.map ab.row).flatten C.length)) (fun s=>tb s.1 s.2.1 s.2.1) (fun _=>[]) (fun t=>t.2.2.1) (fun t=>t.2.2.2):=by
   rw[XD]
   refine sn hc (fun s hs=>?_) fun t ht=>⟨fun b o hb=>by simp at hb,ht.1.2.1,ht.1.1⟩
   rcases hs.val with ⟨h,_⟩|⟨_,kk,_,_,e1,e2,e3⟩
   ·exact absurd h hnil
   ·refine⟨(kk,C.length,s.z,s.zn),⟨⟨hs.bH,hs.le,hs.fE⟩,rfl,e3⟩,?_,rfl,rfl,rfl⟩
    obtain⟨oa,k,z,zn⟩:=s
    simp only at e1 e2;subst e1 e2;rfl
  have lp: ∀t:Nat × Nat × T aa × Nat,(Am z zn (t.2.2.1,t.2.2.2)/\t.2.1=C.length/\t.2.2.1.get t.1=some (QQ (C.map ab.row).flatten C.length))->((t.2.1:Int) !=(l.length:Int))=false->ai prog (ah (ag f134) 0) 0 43 (Da t.1 t.2.1 l.length cp 0) [] 0 t.2.2.1 t.2.2.2 (Al.R (T5 t.2.2.1 t.2.2.2 t.1 t.2.1 l.length cp (decide (C=l))).l):=fun t ⟨ht,h1,h2⟩ h3=>by
   rw[h1] at h3 ⊢
   exact M4 ht.1 l C cp t.1 (cH hL hz ht.2.2) h2 (by simp at h3;omega) hll _ rfl
  refine eM (cZ T.leaf) (fn:=f134) (by kernel_rfl) (by kernel_rfl) hz ⟨by decide,by decide⟩ (fun t ht=>⟨rfl,ht.2.1,ht.1⟩) (N:=100) ?_
  refine ict z zn n l.length cp (decide (C=l)) (fun t:Nat × Nat × T aa × Nat=>Am z zn (t.2.2.1,t.2.2.2)/\t.2.1=C.length/\t.2.2.1.get t.1=some (QQ (C.map ab.row).flatten C.length)) _ ⟨nC1 hgt,fun _=>?_⟩
  (repeat' first|(with_reducible first|exact rfl|assumption|apply And.intro|exact Am.bH (And.left ‹_›))|exact lp _ (by with_reducible assumption) (by with_reducible assumption)|intro hq)
  ·rename_i t ht
   refine q2 (t.2.2.1,t.2.2.2) ht.1 rfl ?_ rfl rfl rfl
   have: ¬C=l:=fun e=>by
    rw[ht.2.1,e] at hq;simp at hq
   rw[decide_eq_false this]
  ·rename_i t ht _ _
   refine q2 (t.2.2.1,t.2.2.2) ht.1 rfl ?_ rfl rfl rfl
   rw[hq]
  ·rename_i t ht _ _
   refine q2 (t.2.2.1,t.2.2.2) ht.1 rfl ?_ rfl rfl rfl
   rw[hq]
theorem Kn(hz:au z zn)(n:Nat)(hn:n<=64)(l:List ab)(hl:nS n l)(hll:l.length<=10000)(cp:Nat)(hL:bM z 4 (l.map ab.row))(C:List ab)(hC: ∀d f,DF n l d f->eR d f n n=C)(hS:kX C)
 (hso:A1 z zn 187 [tb 4 l.length cp,iv n] [] 0 0 (.tuple ⟨[zv 0,zv 0]⟩) []):
 A1 z zn 134 [tb 4 l.length cp,iv n] [] 0 0 (.bool (decide (C=l))) []:=
 jG (G1 hz n hn l hl hll cp hL C hC hS hso) rfl fun t ht=>ht.2.2
theorem G0(hz:au z zn)(n:Nat)(hn:n<=64)(hC: ∀d f,DF n [] d f->eR d f n n=[])(hS:kX [])
 (hso:A1 z zn 187 [ak,iv n] [] 0 0 (.tuple ⟨[zv 0,zv 0]⟩) []):
 A1 z zn 134 [ak,iv n] [] 0 0 (.bool true) []:=by
 have hc:=Rq hz n hn [] hC hS
 have hgt:decide ((n:Int)>64)=false:=by simp;omega
 have hcz:bq prog z zn 188 [ak, .int .i64 (if 0>(n:Int) then 0 else (n:Int))] [] 0 0 (Am z zn) (fun _=>ak) (fun _=>[]) (fun t=>t.1) (fun t=>t.2):=by
  rw[XD]
  refine sn hc (fun s hs=>⟨(s.z,s.zn),⟨hs.bH,hs.le,hs.fE⟩,?_,rfl,rfl,rfl⟩) fun t ht=>⟨fun b o hb=>by simp at hb,ht.2.1,ht.1⟩
  rcases hs.val with ⟨_,e1,e2⟩|⟨h,_⟩
  ·obtain⟨oa,k,z,zn⟩:=s
   simp only at e1 e2;subst e1 e2;rfl
  ·exact absurd rfl h
 have lp: ∀t,Am z zn t->ai prog (ah (ag f134) 0) 0 43 (oT ak) [] 0 t.1 t.2 (Al.R (IQ t.1 t.2 ak).l):=fun t ht=>Bq ht.1 _ fun σ=>rfl
 refine jG (φ:=Am z zn) (zz:=fun t=>t.1) (zn':=fun t=>t.2) ?_ rfl fun t ht=>ht.2.2
 refine eM (cZ T.leaf) (fn:=f134) (by kernel_rfl) (by kernel_rfl) hz ⟨by decide,by decide⟩ (fun t ht=>⟨rfl,ht.2.1,ht.1⟩) (N:=100) ?_
 refine icn z zn n (Am z zn) _ ⟨nC1 hgt,fun _=>?_⟩
 (repeat' first|(with_reducible first|exact rfl|assumption|apply And.intro|exact Am.bH ‹_›)|exact lp _ (by with_reducible assumption)|intro hq)
 rename_i t ht _
 exact q2 t ht rfl rfl rfl rfl rfl
end
theorem vS{n:Int}{l:List ab}(i:Nat):cO n l i≠some 0:=by
 unfold cO
 split
 ·split
  ·simp
  ·rename_i h;intro e;exact h (by simpa using e)
 ·simp
theorem Iv{n:Nat}{l:List ab}(h:(aV n l).2=0):nS n l:=⟨fun p hp=>by
 obtain⟨i,hi⟩:=List.mem_iff_getElem?.1 hp
 have hlt:=(List.getElem?_eq_some_iff.1 hi).1
 have:=eZ vS l.length 0 h i (Nat.zero_le _) (by omega)
 unfold cO at this
 rw[hi] at this
 simp only at this
 split at this
 ·rename_i h0
  unfold fT at h0
  split at h0
  ·cases h0
  ·split at h0
   ·cases h0
   ·omega
 ·cases this⟩
theorem wB{n:Int}{l:List ab}(h:(aV n l).2=0):aV n l=(0,0):=by
 have hn:=eZ vS l.length 0 h
 have: ∀(m i:Nat),(∀j,i<=j->j<i+m->cO n l j=none)->scan (cO n l) m i=(0,0):=by
  intro m
  induction m with
  |zero=>intro i _;rfl
  |succ m ih=>
   intro i hb
   have:=cD (bad:=cO n l) (n:=i+(m+1)) (i:=i) (by omega) (hb i (Nat.le_refl _) (by omega))
   rw[show i+(m+1) - i=m+1 by omega,show i+(m+1) - (i+1)=m by omega] at this
   rw[this]
   exact ih (i+1) fun j h1 h2=>hb j (by omega) (by omega)
 exact this _ _ hn
section
variable{z:T aa}{zn:Nat}
theorem JU{n:Nat}(hn:n<=64)(l:List ab):(ic n l).length<=10000:=by
 obtain⟨M,F,h⟩:=xf n l
 rw[←lJ h]
 have:=pn M F n n
 have h2:n*(2*n)<=64*(2*64):=Nat.mul_le_mul (by omega) (by omega)
 omega
theorem Qf{n:Nat}(hn:n<=64){l:List ab}(h:(aV n l).2=0):l.length<=10000:=by
 have hb:=eZ vS l.length 0 h
 have:=Ep (n:=n) (by omega) (Nat.le_refl l.length) fun j hj=>hb j (Nat.zero_le _) (by omega)
 omega
theorem J6(hz:au z zn)(h5:5<=zn)(N:aw)(hn:N.ns<=64)(l:List ab)(hN:N.np=l.length)(hnet: ∀σ:bb,aC (aj σ []) (N.bZ N.p1)=some (N.bZ N.p1))(hL:bM z 4 (l.map ab.row))(p:Int × Int)
 (hp:p=if (aV N.ns l).2≠0 then aV N.ns l else if ic N.ns l=l then (0,0) else (0,18)):
 A1 z zn 91 [.agg ⟨N.iz N.p1⟩] [] 0 0 (.tuple ⟨[zv p.1,zv p.2]⟩) []:=by
 have h0:=I4 hz (fW z) N hn l hN hnet hL (aV N.ns l) rfl
 have hcl:(aV N.ns l).1=0/\(aV N.ns l).2=0->bq prog z zn 139 [tb 4 N.np N.pc,iv N.ns] [] 0 1 (CG z zn (ic N.ns l)) (fun s=>bc 0 s.k s.k) (fun s=>[(0, .ay s.bl)]) (fun s=>s.z) (fun s=>s.zn):=fun h=>by
  rw[hN]
  exact GV hz h5 N.ns hn l (Iv h.2) (Qf hn h.2) N.pc hL (ic N.ns l) fun M F hm=>lJ hm
 have lp: ∀s,CG z zn (ic N.ns l) s->((s.k:Int) !=(N.np:Int))=false->ai prog (ah (ag f91) 2) 2 111 (tx s.k 0) [(0,N.bZ N.p1),(1, .ay s.bl)] 2 s.z s.zn (Al.R (Qy N N.p1 (decide (ic N.ns l=l)) s).l):=fun s hs hk=>by
  have:s.k=N.np:=by simp at hk;omega
  exact I2 hs.bH (fW s.z) N l (ic N.ns l) hN (by rw[←hs.k,this,hN]) (by have:=hs.k;have:=JU hn l;omega) hnet (cH hL hz hs.fE) s hs.k hs.bl rfl rfl _ rfl
 have rb: ∀s σ,CG z zn (ic N.ns l) s->aC (sig σ) (.ay s.bl)=some (.ay s.bl):=fun s σ h=>by rw[h.bl];exact fG _
 have rb2: ∀s σ,CG z zn (ic N.ns l) s->aC (aj σ []) (.ay s.bl)=some (.ay s.bl):=fun s σ h=>by rw[h.bl];exact fG _
 have fz: ∀s,CG z zn (ic N.ns l) s->au s.3 s.zn:=fun s h=>h.bH
 refine jG (φ:=Am z zn) (zz:=fun t=>t.1) (zn':=fun t=>t.2) ?_ rfl fun t ht=>ht.2.2
 refine eM (fW z) (fn:=f91) (by kernel_rfl) (by kernel_rfl) hz ⟨by decide,by decide⟩ (fun t ht=>⟨rfl,ht.2.1,ht.1⟩) (N:=100) ?_
 refine pp z zn N (decide (ic N.ns l=l)) (aV N.ns l).1 (aV N.ns l).2 (CG z zn (ic N.ns l)) _ ?_
 (repeat' first|(with_reducible first|exact rfl|assumption|apply And.intro|exact hcl ‹_›|exact fz _ ‹_›|exact rb _ _ ‹_›|exact rb2 _ _ ‹_›)|exact h0|exact lp _ (by with_reducible assumption) (by with_reducible assumption)|exact hnet _|intro hq)
 ·refine q2 (z,zn) ⟨hz,Nat.le_refl _,fun _ _=>rfl⟩ rfl ?_ rfl rfl rfl
  rw[hp,if_pos hq]
 ·rename_i h s hs
  refine q2 (s.z,s.zn) ⟨hs.bH,hs.le,hs.fE⟩ rfl ?_ rfl rfl rfl
  have hne: ¬ic N.ns l=l:=fun e=>by
   have h1:=hs.k
   rw[e,←hN] at h1
   rw[h1] at hq;simp at hq
  rw[hp,if_neg (fun h'=>h' h.2),if_neg hne];rfl
 ·rename_i h s hs _ _
  refine q2 (s.z,s.zn) ⟨hs.bH,hs.le,hs.fE⟩ rfl ?_ rfl rfl rfl
  rw[hp,if_neg (fun h'=>h' h.2),if_neg (of_decide_eq_false hq)];rfl
 ·rename_i h s hs _ _
  refine q2 (s.z,s.zn) ⟨hs.bH,hs.le,hs.fE⟩ rfl ?_ rfl rfl rfl
  rw[hp,if_neg (fun h'=>h' h.2),if_pos (of_decide_eq_true hq)];rfl
end
theorem Tx{b:Bool}{k i j L:Nat}(t:Wk (db (fm [] b)) k i j L):False:=by
 have: ∀u v w,¬db (fm [] b) u v w:=fun u v w h=>by simp[db,fm] at h
 cases t with
 |nI h=>exact this _ _ _ h
 |cons h _ _=>exact this _ _ _ h
theorem Eh{n:Nat}{M F:Nat->Nat->Int}(h:MF n [] M F):bY M F n n=[]:=by
 have h1: ∀m,m<=n-> ∀i,i<n->bO M F i [] m=[]:=by
  intro m
  induction m with
  |zero=>intro _ i _;rfl
  |succ m ih=>
   intro hm i hi
   rw[kC,ih (by omega) i hi]
   unfold ed
   have:=(h.1 i m hi (by omega)).1.2.1
   have hbig: ¬M i m<(mr:Int):=fun hlt=>Tx (this hlt)
   have hb:(mr:Int)=1099511627776:=rfl
   rw[if_pos (.inr (by omega))]
 have h2: ∀m,m<=n->bY M F n m=[]:=by
  intro m
  induction m with
  |zero=>intro _;rfl
  |succ m ih=>
   intro hm
   rw[iL,ih (by omega)]
   exact h1 n (Nat.le_refl _) m (by omega)
 exact h2 n (Nat.le_refl _)
theorem vJ(n:Nat):ic n []=[]:=by
 obtain⟨M,F,h⟩:=xf n []
 rw[←lJ h];exact Eh h
section
variable{z:T aa}{zn:Nat}
theorem GS(hz:au z zn)(h5:5<=zn)(N:aw)(hn:N.ns<=64)(hnet: ∀σ:bb,aC (aj σ []) (N.bZ ak)=some (N.bZ ak)):
 A1 z zn 91 [.agg ⟨N.iz ak⟩] [] 0 0 (.tuple ⟨[zv 0,zv 0]⟩) []:=by
 have h0:ai prog (ah (ag f91) 0) 1 111 (mO 0) [(0,N.bZ ak)] 1 z zn (Al.R (MG z zn N ak 0 0).l):=by
  refine ax hD (fW z) (α:=Unit) 1 111 1 (fun _=>True) (fun _=>mO 0) (fun _=>[(0,N.bZ ak)]) (fun _=>z) (fun _=>zn) (fun _=>0) _ (fun _ _=>?_) () trivial
  refine t100 (Xz z zn N (an _ _ _ _ _ _ _ _ _) ?_)
  (repeat' first|(with_reducible first|exact rfl|assumption|apply And.intro)|exact hnet _)
  exact dv (bu ⟨rfl,rfl⟩)
 have h0':ai prog (ah (ag f91) 0) 1 111 (mO 0) [(0,N.bZ ak)] 1 z zn (Al.R (alt ((0:Nat)≠0) (aA.mk af.ret [(2,zv 0),(3,zv 0)] [] 1 z zn) (alt ((0:Nat)=0/\(0:Nat)=0) (aA.mk (af.exit 0) [(1,ip 0)] [(0,N.bZ ak)] 1 z zn) Al.nil))):=by
  refine pz h0 fun o ho=>?_
  rcases ho with ⟨_,h,_⟩|⟨_,_,h⟩|h
  ·exact absurd rfl h
  ·exact dv (h ▸ bu ⟨rfl,rfl⟩)
  ·exact h.elim
 have hcl:bq prog z zn 139 [ak,iv N.ns] [] 0 1 (CG z zn []) (fun s=>bc 0 s.k s.k) (fun s=>[(0, .ay s.bl)]) (fun s=>s.z) (fun s=>s.zn):=
  DG hz h5 N.ns hn [] fun M F hm=>Eh hm
 have lp: ∀s,CG z zn [] s->ai prog (ah (ag f91) 2) 2 111 (tx s.k 0) [(0,N.bZ ak),(1, .ay s.bl)] 2 s.z s.zn (Al.R (Qy N ak true s).l):=fun s hs=>by
  have hk:=hs.k
  have hfz:=hs.bH
  have rb: ∀σ,aC (aj σ []) (.ay s.bl)=some (.ay s.bl):=fun σ=>by rw[hs.bl];exact fG _
  obtain⟨k,bl,z',zn'⟩:=s
  simp only[List.length_nil] at hk hfz rb ⊢
  subst hk
  refine ax hD (fW z') (α:=Unit) 2 111 2 (fun _=>True) (fun _=>tx 0 0) (fun _=>[(0,N.bZ ak),(1, .ay bl)]) (fun _=>z') (fun _=>zn') (fun _=>0) _ (fun _ _=>?_) () trivial
  refine t100 (Xy z' zn' N bl (an _ _ _ _ _ _ _ _ _) ?_)
  (repeat' first|(with_reducible first|exact rfl|assumption|apply And.intro))
  exact dv (bu rfl)
 have rb: ∀s σ,CG z zn [] s->aC (sig σ) (.ay s.bl)=some (.ay s.bl):=fun s σ h=>by rw[h.bl];exact fG _
 have rb2: ∀s σ,CG z zn [] s->aC (aj σ []) (.ay s.bl)=some (.ay s.bl):=fun s σ h=>by rw[h.bl];exact fG _
 have fz: ∀s,CG z zn [] s->au s.3 s.zn:=fun s h=>h.bH
 refine jG (φ:=Am z zn) (zz:=fun t=>t.1) (zn':=fun t=>t.2) ?_ rfl fun t ht=>ht.2.2
 refine eM (fW z) (fn:=f91) (by kernel_rfl) (by kernel_rfl) hz ⟨by decide,by decide⟩ (fun t ht=>⟨rfl,ht.2.1,ht.1⟩) (N:=100) ?_
 refine ppz z zn N true (CG z zn []) _ ?_
 (repeat' first|(with_reducible first|exact rfl|assumption|apply And.intro|exact fz _ ‹_›|exact rb _ _ ‹_›|exact rb2 _ _ ‹_›)|exact lp _ (by with_reducible assumption)|exact hnet _|intro hq)
 ·exact absurd rfl hq
 ·rename_i h s hs
  rw[hs.k] at hq;simp at hq
 ·exact absurd hq (by decide)
 ·rename_i h s hs _ _
  exact q2 (s.z,s.zn) ⟨hs.bH,hs.le,hs.fE⟩ rfl rfl rfl rfl rfl
end
section
variable{z:T aa}{zn:Nat}
theorem Kh(hz:au z zn)(N:aw)(hn:N.ns<=64)(l:List ab)(hN:N.np=l.length)(hll:l.length<=10000)(hnet: ∀σ:bb,aC (aj σ []) (N.bZ N.p1)=some (N.bZ N.p1))(hL:bM z 4 (l.map ab.row))(hS:(aV N.ns l).2=0->kX (ic N.ns l))(r:Int × Int × Int)
 (hr:r=if (aV N.ns l).2≠0 then (4,aV N.ns l) else if ic N.ns l=l then (0,0,0) else (4,0,18)):
 A1 z zn 86 [.agg ⟨N.iz N.p1⟩] [] 0 0 (.agg ⟨[zv r.1,zv r.2.1,zv r.2.2]⟩) []:=by
 refine NW hz (fW z) N hn l hN hnet hL (decide (ic N.ns l=l)) (fun h=>?_) r (by rw[hr];simp only[decide_eq_true_eq])
 have hso:=NO hz (fW z) N.ns (by omega) l N.pc hL
 rw[wB h] at hso
 have:=Kn hz N.ns hn l (Iv h) hll N.pc hL (ic N.ns l) (fun d f hd=>xV (Iv h) hd) (hS h) hso
 show A1 z zn _ [tb 4 N.np N.pc,iv N.ns] [] 0 0 _ []
 rw[hN];exact this
theorem GZ(hz:au z zn)(N:aw)(hn:N.ns<=64)(hnet: ∀σ:bb,aC (aj σ []) (N.bZ ak)=some (N.bZ ak))(hS:kX []):
 A1 z zn 86 [.agg ⟨N.iz ak⟩] [] 0 0 (.agg ⟨[zv 0,zv 0,zv 0]⟩) []:=by
 have hl:nS N.ns []:=⟨fun p hp=>by simp at hp⟩
 have:=G0 hz N.ns hn (fun d f hd=>by rw[xV hl hd];exact vJ _) hS (J3 hz (fW z) N.ns)
 exact Kf hz (fW z) N hnet true this (0,0,0) rfl
end
def MA(x y:ab):Prop:=x.fz1<y.fz1\/(x.fz1=y.fz1/\(x.aB<y.aB\/(x.aB=y.aB/\x.aI<y.aI)))
theorem NI{x y:ab}(h:MA x y):decide (sm y.fz1 y.aB y.aI x.fz1 x.aB x.aI<0)=false:=by
 rw[decide_eq_false_iff_not]
 unfold sm K1 BY
 unfold MA at h
 (repeat' split)<;>omega
theorem PK{C:List ab}(h:C.Pairwise MA):pO C:=fun i j x y hij hx hy=>by
 obtain⟨h1,e1⟩:=List.getElem?_eq_some_iff.1 hx
 obtain⟨h2,e2⟩:=List.getElem?_eq_some_iff.1 hy
 have:=List.pairwise_iff_getElem.1 h i j h1 h2 hij
 rw[e1,e2] at this
 exact NI this
theorem LL{M F:Nat->Nat->Int}{i j:Nat}{L:List ab}(h:L.Pairwise MA)(hb: ∀p∈L,p.fz1<(i:Int)\/(p.fz1=(i:Int)/\p.aB<(j:Int))):
 (ed M F i L j).Pairwise MA/\ ∀p∈ed M F i L j,p.fz1<(i:Int)\/(p.fz1=(i:Int)/\p.aB<((j+1:Nat):Int)):=by
 have lt1: ∀p∈L,∀s b,MA p ⟨i,j,s,b⟩:=fun p hp s b=>by
  rcases hb p hp with q|⟨q1,q2⟩
  ·exact .inl q
  ·exact .inr ⟨q1, .inl q2⟩
 have up: ∀p∈L,p.fz1<(i:Int)\/(p.fz1=(i:Int)/\p.aB<((j+1:Nat):Int)):=fun p hp=>by
  rcases hb p hp with q|⟨q1,q2⟩
  ·exact .inl q
  ·exact .inr ⟨q1,by omega⟩
 have new: ∀s b,(⟨i,j,s,b⟩:ab).fz1<(i:Int)\/((⟨i,j,s,b⟩:ab).fz1=(i:Int)/\(⟨i,j,s,b⟩:ab).aB<((j+1:Nat):Int)):=fun s b=> .inr ⟨rfl,by show(j:Int)<_;omega⟩
 unfold ed
 split
 ·exact⟨h,up⟩
 ·split
  ·rename_i hlt
   refine⟨?_,fun p hp=>?_⟩
   ·rw[List.append_assoc,List.pairwise_append]
    refine⟨h,?_,fun a ha b hb2=>?_⟩
    ·simp only[List.cons_append,List.nil_append,List.pairwise_cons,List.mem_cons,List.not_mem_nil,or_false,forall_eq,false_implies,implies_true,List.Pairwise.nil,and_true]
     exact .inr ⟨rfl, .inr ⟨rfl,hlt.1⟩⟩
    ·simp only[List.cons_append,List.nil_append,List.mem_cons,List.not_mem_nil,or_false] at hb2
     rcases hb2 with rfl|rfl
     ·exact lt1 a ha _ _
     ·exact lt1 a ha _ _
   ·simp only[List.mem_append,List.mem_cons,List.not_mem_nil,or_false] at hp
    rcases hp with (hp|rfl)|rfl
    ·exact up p hp
    ·exact new _ _
    ·exact new _ _
  ·refine⟨?_,fun p hp=>?_⟩
   ·rw[List.pairwise_append]
    refine⟨h,by simp,fun a ha b hb2=>?_⟩
    simp only[List.mem_cons,List.not_mem_nil,or_false] at hb2
    subst hb2
    exact lt1 a ha _ _
   ·simp only[List.mem_append,List.mem_cons,List.not_mem_nil,or_false] at hp
    rcases hp with hp|rfl
    ·exact up p hp
    ·exact new _ _
theorem Ic{M F:Nat->Nat->Int}{i:Nat}{L:List ab}(h:L.Pairwise MA)(hb: ∀p∈L,p.fz1<(i:Int)): ∀m,(bO M F i L m).Pairwise MA/\ ∀p∈bO M F i L m,p.fz1<(i:Int)\/(p.fz1=(i:Int)/\p.aB<(m:Int))
 |0=>⟨h,fun p hp=> .inl (hb p hp)⟩
 |m+1=>by
  obtain⟨h1,h2⟩:=Ic h hb m
  rw[kC]
  exact LL h1 h2
theorem KD{M F:Nat->Nat->Int}{n:Nat}: ∀m,(bY M F n m).Pairwise MA/\ ∀p∈bY M F n m,p.fz1<(m:Int)
 |0=>⟨List.Pairwise.nil,fun p hp=>by cases hp⟩
 |m+1=>by
  obtain⟨h1,h2⟩:=KD m
  obtain⟨h3,h4⟩:=Ic (M:=M) (F:=F) h1 h2 n
  rw[iL]
  exact⟨h3,fun p hp=>by rcases h4 p hp with q|⟨q,_⟩<;>omega⟩
theorem H4(n:Nat)(l:List ab):pO (ic n l):=by
 obtain⟨M,F,h⟩:=xf n l
 rw[←lJ h]
 exact PK (KD n).1
theorem Aw(n:Nat)(hn:n<=64)(l:List ab):kX (ic n l):=by
 refine wT (H4 n l) ?_
 obtain⟨M,F,h⟩:=xf n l
 rw[←lJ h]
 have h1:=pn M F n n
 have h2:n*(2*n)<=64*(2*64):=Nat.mul_le_mul hn (by omega)
 omega
theorem CL:kX []:=wT (fun i j x y _ h=>by cases h) (by decide)
section
variable{z:T aa}{zn:Nat}
theorem Kg(hz:au z zn)(N:aw)(hn:N.ns<=64)(l:List ab)(hN:N.np=l.length)(hll:l.length<=10000)(hnet: ∀σ:bb,aC (aj σ []) (N.bZ N.p1)=some (N.bZ N.p1))(hL:bM z 4 (l.map ab.row))(r:Int × Int × Int)
 (hr:r=if (aV N.ns l).2≠0 then (4,aV N.ns l) else if ic N.ns l=l then (0,0,0) else (4,0,18)):
 A1 z zn 86 [.agg ⟨N.iz N.p1⟩] [] 0 0 (.agg ⟨[zv r.1,zv r.2.1,zv r.2.2]⟩) []:=
 Kh hz N hn l hN hll hnet hL (fun _=>Aw N.ns hn l) r hr
theorem GY(hz:au z zn)(N:aw)(hn:N.ns<=64)(hnet: ∀σ:bb,aC (aj σ []) (N.bZ ak)=some (N.bZ ak)):
 A1 z zn 86 [.agg ⟨N.iz ak⟩] [] 0 0 (.agg ⟨[zv 0,zv 0,zv 0]⟩) []:=GZ hz N hn hnet CL
end
end Go.Proofs.Nw
