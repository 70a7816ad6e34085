/-
  A part of the proof: lemmas of my own.
-/
import Derived.Test.YtlljgbelbfhcjaaGreatDoorPD
import Derived.Test.YtlljgbelbfhcjaaGreatDoorIA
import Derived.KernelRfl
import Derived.ChangeArms
import Derived.DataReads
import Derived.ProofKit
import Derived.ChangeMaps
set_option linter.unusedVariables false
set_option linter.unusedSimpArgs false
namespace Go.iO
inductive Rc (E:bP)(s:Nat):Nat->Nat->Prop where
 |start:Rc E s s 0
 |snoc {v x w L:Nat} (t:Rc E s v L) (h:E v x w):Rc E s x (L+w)
theorem Rc.cons{E:bP}{i m w v L:Nat}(h:E i m w)(t:Rc E m v L):Rc E i v (w+L):=by
 induction t with
 |start=>simpa using Rc.snoc .start h
 |snoc t h2 ih=>rw[←Nat.add_assoc];exact .snoc ih h2
theorem Wk.rc{E:bP}{k i j L:Nat}(t:Wk E k i j L):Rc E i j L:=by
 induction t with
 |my h=>simpa using Rc.snoc .start h
 |cons h _ _ ih=>exact .cons h ih
theorem Wk.snoc{E:bP}{n i v x w L:Nat}(t:Wk E n i v L)(hv:v<n)(h:E v x w):Wk E n i x (L+w):=t.append hv (.my h)
theorem Rc.wk{E:bP}{n s v L:Nat}(hE: ∀a b w,E a b w->a<n/\b<n)(t:Rc E s v L):(v=s/\L=0)\/Wk E n s v L:=by
 induction t with
 |start=>exact .inl ⟨rfl,rfl⟩
 | @snoc v x w L t h ih=>
   rcases ih with ⟨rfl,rfl⟩|ih
   ·exact .inr (by simpa using Wk.my h)
   ·exact .inr (ih.snoc (hE _ _ _ h).1 h)
structure Dj(E:bP)(s:Nat)(S:Nat->Prop)(d:Nat->Nat)(Q:Nat->Nat->Prop):Prop where
 set: ∀v,S v->Rc E s v (d v)/\ ∀L,Rc E s v L->d v<=L
 wait: ∀v l,Q v l->Rc E s v l
 front: ∀u x w,S u->E u x w->S x\/Q x (d u+w)
 first:S s\/Q s 0
theorem Dj.reach{E:bP}{s:Nat}{S:Nat->Prop}{d:Nat->Nat}{Q:Nat->Nat->Prop}(h:Dj E s S d Q){v L:Nat}(t:Rc E s v L):S v\/ ∃y l,Q y l/\l<=L:=by
 induction t with
 |start=>exact h.first.imp id fun q=>⟨_,_,q,Nat.le_refl _⟩
 | @snoc v x w L t hE ih=>
   rcases ih with hs|⟨y,l,q,hl⟩
   ·have:=(h.set v hs).2 L t
    rcases h.front v x w hs hE with hx|q
    ·exact .inl hx
    ·exact .inr ⟨x,_,q,by omega⟩
   ·exact .inr ⟨y,l,q,by omega⟩
theorem Ll{E:bP}{s:Nat}{S:Nat->Prop}{d:Nat->Nat}{Q Q':Nat->Nat->Prop}(h:Dj E s S d Q){x l:Nat}(hx:S x)
 (h1: ∀v k,Q' v k->Q v k) (h2: ∀v k,Q v k->Q' v k\/(v=x/\k=l)):Dj E s S d Q':=by
 refine⟨h.set,fun v k q=>h.wait v k (h1 v k q),fun u y w hu he=>?_,?_⟩
 ·rcases h.front u y w hu he with q|q
  ·exact .inl q
  ·rcases h2 _ _ q with q|⟨rfl,_⟩
   ·exact .inr q
   ·exact .inl hx
 ·rcases h.first with q|q
  ·exact .inl q
  ·rcases h2 _ _ q with q|⟨rfl,_⟩
   ·exact .inr q
   ·exact .inl hx
structure Jd(E:bP)(s:Nat)(S:Nat->Prop)(d:Nat->Nat)(Q:Nat->Nat->Prop)(x:Nat)(l:List (Nat × Nat)):Prop where
 set: ∀v,S v->Rc E s v (d v)/\ ∀L,Rc E s v L->d v<=L
 wait: ∀v l,Q v l->Rc E s v l
 front: ∀u y w,S u->E u y w->(u=x->(y,w)∈l)->S y\/Q y (d u+w)
 first:S s\/Q s 0
theorem ET{E:bP}{s:Nat}{S:Nat->Prop}{d:Nat->Nat}{Q Q':Nat->Nat->Prop}(h:Dj E s S d Q){x l:Nat}(hx: ¬S x)(hq:Q x l)
 (hmin: ∀v k,Q v k->l<=k) (h1: ∀v k,Q' v k->Q v k) (h2: ∀v k,Q v k->Q' v k\/(v=x/\k=l)):
 Jd E s (fun v=>S v\/v=x) (fun v=>if v=x then l else d v) Q' x []:=by
 refine⟨fun v hv=>?_,fun v k q=>h.wait v k (h1 v k q),fun u y w hu he hl=>?_,?_⟩
 ·by_cases hvx:v=x
  ·subst hvx
   simp only[if_true]
   refine⟨h.wait _ _ hq,fun L t=>?_⟩
   rcases h.reach t with hs|⟨y,k,q,hk⟩
   ·exact(hx hs).elim
   ·have:=hmin _ _ q;omega
  ·simp only[if_neg hvx]
   exact h.set v (hv.resolve_right hvx)
 ·by_cases hux:u=x
  ·exact absurd (hl hux) (by simp)
  ·simp only[if_neg hux]
   rcases h.front u y w (hu.resolve_right hux) he with q|q
   ·exact .inl (.inl q)
   ·rcases h2 _ _ q with q|⟨rfl,_⟩
    ·exact .inr q
    ·exact .inl (.inr rfl)
 ·rcases h.first with q|q
  ·exact .inl (.inl q)
  ·rcases h2 _ _ q with q|⟨rfl,_⟩
   ·exact .inr q
   ·exact .inl (.inr rfl)
theorem wK{E:bP}{s:Nat}{S:Nat->Prop}{d:Nat->Nat}{Q Q':Nat->Nat->Prop}{x y w:Nat}{l:List (Nat × Nat)}(h:Jd E s S d Q x l)(hx:S x)(he:E x y w)
 (h1: ∀v k,Q v k->Q' v k) (h2: ∀v k,Q' v k->Q v k\/(v=y/\k=d x+w)) (h3:S y\/Q' y (d x+w)):Jd E s S d Q' x (l++[(y,w)]):=by
 refine⟨h.set,fun v k q=>?_,fun u z v hu hz hl=>?_,h.first.imp id (h1 _ _)⟩
 ·rcases h2 v k q with q|⟨rfl,rfl⟩
  ·exact h.wait v k q
  ·exact .snoc (h.set x hx).1 he
 ·by_cases hux:u=x
  ·subst hux
   rcases List.mem_append.1 (hl rfl) with hm|hm
   ·exact(h.front u z v hu hz fun _=>hm).imp id (h1 _ _)
   ·simp at hm
    obtain⟨rfl,rfl⟩:=hm
    exact h3
  ·exact(h.front u z v hu hz fun e=>(hux e).elim).imp id (h1 _ _)
theorem H5{E:bP}{s:Nat}{S:Nat->Prop}{d:Nat->Nat}{Q:Nat->Nat->Prop}{x:Nat}{l:List (Nat × Nat)}(h:Jd E s S d Q x l)(hl: ∀y w,E x y w->(y,w)∈l):Dj E s S d Q:=
 ⟨h.set,h.wait,fun u y w hu he=>h.front u y w hu he fun e=>hl y w (e ▸ he),h.first⟩
def lC(E:bP)(s v:Nat)(x:Int):Prop:=(x= -1/\ ∀L,¬Rc E s v L)\/(0<=x/\Rc E s v x.toNat/\ ∀L,Rc E s v L->x<=(L:Int))
theorem Pt{E:bP}{s:Nat}{S:Nat->Prop}{d:Nat->Nat}{Q:Nat->Nat->Prop}(h:Dj E s S d Q)(hq: ∀v k,¬Q v k)(v:Nat):
 (S v->lC E s v (d v))/\(¬S v->lC E s v (-1)):=by
 refine⟨fun hs=> .inr ⟨by omega,by simpa using (h.set v hs).1,fun L t=>by have:=(h.set v hs).2 L t;omega⟩,fun hs=> .inl ⟨rfl,fun L t=>?_⟩⟩
 rcases h.reach t with q|⟨y,k,q,_⟩
 ·exact hs q
 ·exact hq _ _ q
abbrev gh:=Nat × Nat × Int × Bool
def rW(a b:Nat)(n f:Int):List gh:=
 (if 0<n/\n<=14400 then [(a,b,n,decide (f=n))] else [])++(if f=n then [] else if 0<f/\f<=14400 then [(a,b,f,true)] else [])
def xq(a b:Nat)(x y:Int):List gh:=
 if 14400<x then [] else (a,b,x,decide (y=x))::(if x<y/\y<=14400 then [(a,b,y,true)] else [])
def Alike(x n:Int):Prop:=(0<x/\x<=14400/\n=x)\/(14400<x/\(n<=0\/14400<n))
theorem H3{a b:Nat}{x y n f:Int}(h1:Alike x n)(h2:Alike y f)(hxy:x<=y):rW a b n f=xq a b x y:=by
 unfold rW xq
 unfold Alike at h1 h2
 rcases h1 with ⟨p1,p2,rfl⟩|⟨p1,p2⟩
 ·rw[if_pos ⟨p1,p2⟩,if_neg (show¬14400<n by omega)]
  rcases h2 with ⟨q1,q2,rfl⟩|⟨q1,q2⟩
  ·by_cases he:f=n
   ·rw[if_pos he,if_neg (show¬(n<f/\f<=14400) by omega)];rfl
   ·rw[if_neg he,if_pos ⟨q1,q2⟩,if_pos (show n<f/\f<=14400 from⟨by omega,q2⟩)];rfl
  ·have e1: ¬f=n:=by omega
   have e2: ¬y=n:=by omega
   rw[if_neg e1,if_neg (show¬(0<f/\f<=14400) by omega),if_neg (show¬(n<y/\y<=14400) by omega),decide_eq_false e1,decide_eq_false e2];rfl
 ·rw[if_neg (show¬(0<n/\n<=14400) by omega),if_pos p1]
  rcases h2 with ⟨q1,q2,rfl⟩|⟨q1,q2⟩
  ·omega
  ·by_cases he:f=n
   ·rw[if_pos he];rfl
   ·rw[if_neg he,if_neg (show¬(0<f/\f<=14400) by omega)];rfl
def Pos(E:bP):Prop:= ∀a b w,E a b w->0<w
theorem Wk.pos{E:bP}(hp:Pos E){k i j L:Nat}(t:Wk E k i j L):0<L:=by
 cases t with
 |my h=>exact hp _ _ _ h
 |cons h _ _=>have:=hp _ _ _ h;omega
structure w8(E E':bP):Prop where
 to: ∀a b w,E a b w-> ∃w',w'<=w/\E' a b w'
 fz1: ∀a b w,E' a b w-> ∃w',w'<=w/\E a b w'
theorem AT{E E':bP}{n iW i j:Nat}{x v:Int}(hs:w8 E E')(hp:Pos E)(hE: ∀a b w,E' a b w->a<n/\b<n)(hbig:14400<iW)(hij:j≠i)
 (h1:A5 E n iW i j x) (h2:lC E' i j v):Alike x v:=by
 obtain⟨a1,a2,a3⟩:=h1
 unfold Alike
 by_cases hx:x<=14400
 ·have t:=a2 (by omega)
  have hpos:=t.pos hp
  have hxp:0<x:=by omega
  obtain⟨L',hL,t'⟩:=t.mono hs.to
  rcases h2 with ⟨_,hno⟩|⟨b1,b2,b3⟩
  ·exact(hno _ t'.rc).elim
  ·have:=b3 _ t'.rc
   rcases b2.wk hE with ⟨h,_⟩|t2
   ·exact(hij h).elim
   ·obtain⟨L2,hL2,t3⟩:=t2.mono hs.fz1
    have:=a3 _ t3
    exact .inl ⟨hxp,hx,by omega⟩
 ·refine .inr ⟨by omega,?_⟩
  rcases h2 with ⟨h,_⟩|⟨b1,b2,b3⟩
  ·exact .inl (by omega)
  ·by_cases hv:v<=14400
   ·rcases b2.wk hE with ⟨h,_⟩|t2
    ·exact(hij h).elim
    ·obtain⟨L2,hL2,t3⟩:=t2.mono hs.fz1
     have:=a3 _ t3
     omega
   ·exact .inr (by omega)
theorem zx{E F:bP}{n iW i j:Nat}{x y:Int}(hsub: ∀a b w,F a b w-> ∃w',w'<=w/\E a b w')(h1:A5 E n iW i j x)(h2:A5 F n iW i j y):x<=y\/(iW:Int)<=y:=by
 by_cases hy:y<iW
 ·obtain⟨L,hL,t⟩:=(h2.2.1 hy).mono hsub
  have:=h1.2.2 _ t
  have:=h2.1
  exact .inl (by omega)
 ·exact .inr (by omega)
end Go.iO
namespace Go.Proofs.Nw
open Go Go.AV Tryz Go.iO
set_option maxHeartbeats 4000000
set_option maxRecDepth 100000
def TN:cH:=⟨0,-1,-1⟩
def eM(l:List cH)(v:Nat):cH:=l[v]?.getD TN
theorem mf{l:List cH}{v:Nat}(h:v<l.length):l[v]? =some (eM l v):=by
 unfold eM;rw[List.getElem?_eq_getElem h];rfl
theorem Hm{l:List cH}{v:Nat}(h:l.length<=v):eM l v=TN:=by
 unfold eM;rw[List.getElem?_eq_none h];rfl
theorem pr{l:List cH}{i:Nat}(h:i<l.length)(x:cH)(v:Nat):eM (l.set i x) v=if v=i then x else eM l v:=by
 unfold eM
 rw[List.getElem?_set]
 by_cases e:i=v
 ·subst e;simp[h]
 ·have e': ¬v=i:=fun q=>e q.symm
  simp[e,e']
theorem oV(l:List cH): ∀r∈l.map cH.row,r.length=3:=aM l fun _=>rfl
theorem vE(l:List cH):(aR l).length=l.length*3:=by rw[kx (oV l),List.length_map]
theorem yP(l:List cH):bA (aR l)=true:=kQ (fun _=>rfl) l
theorem jf{σ:Nat->Option Nat}(l:List cH)(c:Nat):aG σ (aa.ak (aY.mk (aR l) c 3 315 true true 0 true))=some (aa.ak (aY.mk (aR l) c 3 315 true true 0 true)):=cN (yP l)
theorem RF{l:List cH}{i:Nat}(h:i<l.length)(c:Nat):aC prog (aY.mk (aR l) c 3 315 true true 0 true) 315 (0+i*3)=some (.agg ⟨(eM l i).row⟩):=
 gL (rows:=l.map cH.row) rfl underlying315 rfl rfl (oV l) (by rw[List.getElem?_map,mf h];rfl)
theorem Gs{l:List cH}{i:Nat}(h:i<l.length)(c:Nat):aC prog (aY.mk (aR l) c 3 315 true true 0 true) 3 (0+i*3+2)=some (zv (eM l i).fM):=
 Bw (rows:=l.map cH.row) rfl underlying3 rfl (oV l) (r:=(eM l i).row) (by rw[List.getElem?_map,mf h];rfl) rfl
theorem ME{l:List cH}{i:Nat}(h:i<l.length)(a:cH):overwrite (aR l) (0+i*3) a.row=some (aR (l.set i a)):=by
 have:=tw (oV l) (i:=i) (by simpa using h) (r':=a.row) rfl
 rw[kS] at this
 exact this
def vg:List Value->List Value
 |_::b::_::r=>b::vg r
 |_=>[]
abbrev wo(l:List cH):List Value:=l.map fun a=>zv a.len
theorem na: ∀l:List cH,vg (aR l)=wo l
 |[]=>rfl
 |a::l=>by
  show zv a.len::vg (aR l)=_
  rw[na l];rfl
theorem kR(f:cH->Int)(l:List cH):bA (l.map fun a=>zv (f a))=true:=by
 rw[cQ];intro v hv
 obtain⟨a,_,rfl⟩:=List.mem_map.1 hv
 rfl
theorem mP: ∀(n:Nat)(v:List Value),v.length=1->rep n v=List.replicate n (v.headD undef)
 |0,_,_=>rfl
 |n+1,[a],h=>by
  show [a]++rep n [a]=_
  rw[mP n [a] rfl];rfl
theorem lT(row:List Value): ∀n,rep n row=(List.replicate n row).flatten
 |0=>rfl
 |n+1=>by
  show row++rep n row=_
  rw[lT row n];rfl
section
variable{z:T aa}{zn:Nat}
theorem lV{σ:Nat->Option Nat}{cs:List Value}(h:bA cs=true)(c:Nat):aG σ (aa.ak (aY.mk cs c 1 3 true true 0 true))=some (aa.ak (aY.mk cs c 1 3 true true 0 true)):=cN h
theorem KH(hz:ax z zn)(l:List cH)(n:Nat)(hl:l.length=n)(hn:n<=1000)(cs:List Value)(hcs:cs.length=n)(hp:bA cs=true):
 ai prog (ah (ag f213) 0) 2 23 (Em n 0) [(0,jM (aR l) n),(1,EA cs n)] 2 z zn (Al.R (Wl z zn n (aR l) cs (wo l)).l):=by
 refine an hD (cO z) (α:=Nat) 2 23 2 (fun i=>i<=n) (fun i=>Em n i) (fun i=>[(0,jM (aR l) n),(1,EA ((l.take i).map (fun a=>zv a.len)++cs.drop i) n)]) (fun _=>z) (fun _=>zn) (fun i=>n - i) _ (fun i hI=>?_) 0 (Nat.zero_le _)
 have hpl: ∀j,bA ((l.take j).map (fun a=>zv a.len)++cs.drop j)=true:=fun j=>by
  rw[cQ];intro v hv
  rcases List.mem_append.1 hv with q|q
  ·exact cQ.1 (kR (·.len) (l.take j)) v q
  ·exact cQ.1 hp v (List.mem_of_mem_drop q)
 by_cases hi:i<n
 ·have hlen:((l.take i).map (fun a=>zv a.len)++cs.drop i).length=n:=by simp;omega
  have o1:=o9 (cs:=(l.take i).map (fun a=>zv a.len)++cs.drop i) (i:=i) (by omega) (zv (eM l i).len)
  have e1:((l.take i).map (fun a=>zv a.len)++cs.drop i).set i (zv (eM l i).len)=(l.take (i+1)).map (fun a=>zv a.len)++cs.drop (i+1):=by
   rw[List.take_add_one,mf (by omega),List.map_append]
   rw[List.set_append_right _ _ (by simp;omega)]
   have:i - ((l.take i).map fun a=>zv a.len).length=0:=by simp;omega
   have hd:cs.drop i=cs[i]::cs.drop (i+1):=List.drop_eq_getElem_cons (by omega:i<cs.length)
   rw[this,hd,List.set_cons_zero,List.append_assoc]
   rfl
  rw[e1] at o1
  have hc:decide ((i:Int)<(n:Int))=true:=by simp;omega
  have l1:((l.take (i+1)).map (fun a=>zv a.len)++cs.drop (i+1)).length<=n*1:=by simp;omega
  have r1:=hpl i
  have r2:=hpl (i+1)
  refine t100 (Zo z zn n i (aR l) ((l.take i).map (fun a=>zv a.len)++cs.drop i) ((l.take (i+1)).map (fun a=>zv a.len)++cs.drop (i+1)) (eM l i) (aj _ _ _ _ _ _ _ _ _) ⟨fun _=>?_,nC1 hc⟩)
  (repeat' first|(with_reducible first|exact rfl|assumption|apply And.intro|exact RF (by omega) _|exact jf _ _|exact lV r2 _|exact bK (by omega)))
  exact⟨i+1,rfl,rfl,rfl,rfl,rfl,hi,by show n - (i+1)<n - i;omega⟩
 ·have hc:decide ((i:Int)<(n:Int))=false:=by simp;omega
  have r1:=hpl i
  refine t100 (Zo z zn n i (aR l) ((l.take i).map (fun a=>zv a.len)++cs.drop i) [] TN (aj _ _ _ _ _ _ _ _ _) ⟨nC1 hc,fun _=>?_⟩)
  (repeat' first|(with_reducible first|exact rfl|assumption|apply And.intro|exact lV r1 _))
  have:i=n:=by omega
  subst this
  rw[List.take_of_length_le (by omega),List.drop_eq_nil_of_le (by omega),List.append_nil]
  exact bw trivial
theorem PN(hz:ax z zn)(l:List cH)(n:Nat)(hl:l.length=n)(hn:n<=1000):
 A1 z zn 213 [aU 0 n n] [(0,jM (aR l) n)] 1 2 (aU 1 n n) [(1,EA (vg (aR l)) n)]:=by
 have e0:rep n [I 0]=List.replicate n (I 0):=mP n [I 0] rfl
 have hp:bA (rep n [I 0])=true:=by
  rw[e0,cQ];intro v hv;rw[List.eq_of_mem_replicate hv];rfl
 have hK:=KH hz l n hl hn (rep n [I 0]) (by rw[e0];simp) hp
 have r3: ∀σ,_:=fun σ=>lV (σ:=σ) (kR (·.len) l) (n*1)
 rw[na]
 refine aK1 (cO z) (fn:=f213) hz (N:=100) ?_
 refine ln z zn n (aR l) (rep n [I 0]) (wo l) _ ?_
 (repeat' first|(with_reducible first|exact rfl|assumption|apply And.intro|exact jf _ _|exact lV hp _|exact r3 _|exact(by omega:n<=1048576)|exact q1)|exact hK|intro hq)
end
abbrev nz:=Int × Nat × List dW
def lA(L:List nz)(a:Int):List dW:=((L.find? fun x=>x.1==a).map (·.2.2)).getD []
structure Ve(z:T aa)(zn n:Nat)(L:List nz):Prop where
 row: ∀x∈L,∃kb:aY,z.get x.2.1=some (.ak kb)/\kb.cells=bu x.2.2
 my: ∀x∈L,x.2.2.length<=4096/\ ∀e∈x.2.2,0<=e.aq/\e.aq<n/\0<=e.wt/\e.wt<=1073741824
def GE(L:List nz):bP:=fun u v w=> ∃e∈lA L (u:Int),e.aq=(v:Int)/\e.wt=(w:Int)
theorem mq(L:List nz)(a:Int): ∀i j,(∃p x,aA prog 3 (zv a) (eD j L) i=some (some (p,tb x.2.1 x.2.2.length x.2.2.length))/\x∈L/\L.find? (fun x=>x.1==a)=some x/\i<=p/\L[p - i]? =some x)\/(aA prog 3 (zv a) (eD j L) i=some none/\L.find? (fun x=>x.1==a)=none):=by
 induction L with
 |nil=>intro i j;exact .inr ⟨rfl,rfl⟩
 |cons y l ih=>
  intro i j
  obtain⟨b,k,r⟩:=y
  simp only[eD,aA,au,HW]
  by_cases h:a=b
  ·subst h
   refine .inl ⟨i,(a,k,r),by simp,List.mem_cons_self ..,by simp,Nat.le_refl _,by simp⟩
  ·have hd:decide (a=b)=false:=by simp[h]
   have hb:(b==a)=false:=by simp;exact fun e=>h e.symm
   rw[hd]
   simp only[List.find?_cons,hb]
   rcases ih (i+1) (j+1) with ⟨p,x,q1,q2,q3,q4,q5⟩|⟨q1,q2⟩
   ·refine .inl ⟨p,x,q1,List.mem_cons_of_mem _ q2,q3,by omega,?_⟩
    rw[show p - i=(p - (i+1))+1 by omega,List.getElem?_cons_succ];exact q5
   ·exact .inr ⟨q1,q2⟩
theorem RP(L:List nz)(a:Int):aA prog 3 (zv a) (eD 0 L) 0≠none:=by
 rcases mq L a 0 0 with ⟨p,x,q,_⟩|⟨q,_⟩<;>rw[q]<;>simp
theorem RQ(L:List nz)(a:Int)(p:Nat × Value)(h:aA prog 3 (zv a) (eD 0 L) 0=some (some p)): ∃x:Nat × Nat × Nat,p=(x.1,tb x.2.1 x.2.2 x.2.2):=by
 rcases mq L a 0 0 with ⟨q,x,e,_⟩|⟨e,_⟩
 ·rw[e] at h;cases h;exact⟨(q,x.2.1,x.2.2.length),rfl⟩
 ·rw[e] at h;cases h
theorem Ol(L:List nz)(a:Int){i:Nat × Nat × Nat}(h:aA prog 3 (zv a) (eD 0 L) 0=some (some (i.1,tb i.2.1 i.2.2 i.2.2))): ∃x∈L,lA L a=x.2.2/\i.2.1=x.2.1/\i.2.2=x.2.2.length:=by
 rcases mq L a 0 0 with ⟨q,x,e,h1,h2,_⟩|⟨e,_⟩
 ·rw[e] at h
  simp only[Option.some.injEq,Prod.mk.injEq,Value.slice.injEq,Addr.mk.injEq,and_true] at h
  obtain⟨_,h3,h4,_⟩:=h
  refine⟨x,h1,by unfold lA;rw[h2];rfl,by omega,h4.symm⟩
 ·rw[e] at h;cases h
theorem Ok(L:List nz)(a:Int)(h:aA prog 3 (zv a) (eD 0 L) 0=some none):lA L a=[]:=by
 rcases mq L a 0 0 with ⟨q,x,e,_⟩|⟨e,h2⟩
 ·rw[e] at h;cases h
 ·unfold lA;rw[h2];rfl
theorem rU{σ:Nat->Option Nat}: ∀{L:List nz} (i:Nat),(∀x∈L,σ (256*x.2.1+510)=some (256*x.2.1+510))->gp σ (eD i L)=some (eD i L)
 |[],_,_=>rfl
 |(a,k,r)::l,i,h=>by
  have hk:=h (a,k,r) (List.mem_cons_self ..)
  simp only at hk
  simp only[eD,gp,aT,hk,rU (i+1) fun x hx=>h x (List.mem_cons_of_mem _ hx)]
theorem Gq{σ:Nat->Option Nat}{L:List nz}(h: ∀x∈L,σ (256*x.2.1+510)=some (256*x.2.1+510))(c:Nat):aG σ (aa.map (eD 0 L) c)=some (aa.map (eD 0 L) c):=by
 simp only[aG,rU 0 h]
theorem xo(σ:bk)(L:List nz)(c:Nat):aG (sig σ) (aa.map (eD 0 L) c)=some (aa.map (eD 0 L) c):=Gq (fun x _=>iz (by unfold cC;omega)) c
theorem gn(σ:bk)(L:List nz)(c:Nat):aG (ay σ []) (aa.map (eD 0 L) c)=some (aa.map (eD 0 L) c):=xo σ L c
theorem oU(l:List dW): ∀r∈l.map dW.row,r.length=3:=aM l fun _=>rfl
def LQ(s:pZ)(v l:Nat):Prop:= ∃a,gg (hf s.ms) s.n a/\a.x.node=(v:Int)/\a.x.len=(l:Int)
def LS(out:List cH)(v:Nat):Prop:=0<=(eM out v).fM
def Ld(out:List cH)(v:Nat):Nat:=(eM out v).len.toNat
def j8(out:List cH):Nat:=out.countP fun a=>decide (0<=a.fM)
def HB(n c:Nat)(s:pZ):Prop:= ∀a,gg (hf s.ms) s.n a->0<=a.x.node/\a.x.node<n/\0<=a.x.len/\a.x.len<=a.x.fM*1073741824/\0<=a.x.fM/\a.x.fM<=c
structure DU(n:Nat)(out:List cH):Prop where
 len:out.length=n
 Df: ∀v,v<n->(0<=(eM out v).fM/\0<=(eM out v).len)\/((eM out v).fM<0/\(eM out v).len= -1)
abbrev V2(r:List dW):List (Nat × Nat):=r.map fun e=>(e.aq.toNat,e.wt.toNat)
structure Mg(L:List nz)(n fr:Nat)(out:List cH)(x:Nat)(s0:pZ)(l:List dW)(j:Nat)(s:pZ):Prop where
 ok:uR s
 one:1<=s.ms.length
 hb:HB n (j8 out) s
 dj:Jd (GE L) fr (LS out) (Ld out) (LQ s) x (V2 l)
 p:s.p<=s0.p+j
 n:s.n<=s0.n+j
section
variable{z:T aa}{zn:Nat}
theorem Ha(hz:ax z zn)(L:List nz)(n fr:Nat)(hL:Ve z zn n L)(hn:n<=64)(out:List cH)(ho:DU n out)(hc:j8 out<=n)(y:nz)(hy:y∈L)(a:cH)(x:Nat)(hx:a.node=(x:Int))(hxn:x<n)(hadj:lA L (x:Int)=y.2.2)(hax:eM out x=a)(ha0:0<=a.fM)(hal:0<=a.len)(hab:a.len<=a.fM*1073741824)(hac:a.fM+1<=j8 out)(s0:pZ)(hs0:Mg L n fr out x s0 [] 0 s0)(hp:s0.p<=900000):
 ai prog (ah (ah (ag f214) 1) 0) 6 82 (BS n y.2.1 y.2.2.length 0) (qa n L.length (eD 0 L) (aR out) a (wy 6 s0) (vL s0)) 7 z zn (Al.R (SA z zn n y.2.1 y.2.2.length L.length (eD 0 L) (aR out) a (wy 6 s0) (vL s0) (Mg L n fr out x s0 y.2.2 y.2.2.length)).l):=by
 obtain⟨kb,hk1,hk2⟩:=hL.row y hy
 obtain⟨hr1,hr2⟩:=hL.my y hy
 refine an hD (cO z) (α:=Nat × pZ) 6 82 7 (fun t=>t.1<=y.2.2.length/\Mg L n fr out x s0 (y.2.2.take t.1) t.1 t.2) (fun t=>BS n y.2.1 y.2.2.length t.1) (fun t=>qa n L.length (eD 0 L) (aR out) a (wy 6 t.2) (vL t.2)) (fun _=>z) (fun _=>zn) (fun t=>y.2.2.length - t.1) _ (fun t hI=>?_) (0,s0) ⟨Nat.zero_le _,hs0⟩
 obtain⟨j,s⟩:=t
 obtain⟨h1,h2⟩:=hI
 simp only at h1 h2 ⊢
 have rb:aG (ay [(0,0),(1,1),(2,2),(5,5),(6,6)] []) (dI (aD s.ms) (s.ms.length*4))=some (dI (aD s.ms) (s.ms.length*4)):=N3 _ _
 by_cases hj:j<y.2.2.length
 ·obtain⟨e,he⟩:=ez hj
  have hem:e∈y.2.2:=List.mem_of_getElem? he
  obtain⟨e1,e2,e3,e4⟩:=hr2 e hem
  have hto:e.aq=(e.aq.toNat:Int):=by omega
  have htn:e.aq.toNat<out.length:=by rw[ho.len];omega
  have hrow:aC prog kb 262 (0+j*3)=some (.agg ⟨e.row⟩):=gL (rows:=y.2.2.map dW.row) hk2 underlying262 rfl rfl (oU _) (by rw[List.getElem?_map,he];rfl)
  have hedg:=Gs (l:=out) htn (n*3)
  have htk:y.2.2.take (j+1)=y.2.2.take j++[e]:=by rw[List.take_add_one,he];rfl
  have hps:V2 (y.2.2.take (j+1))=V2 (y.2.2.take j)++[(e.aq.toNat,e.wt.toNat)]:=by rw[htk];simp
  have hpb:s.p+1<=1000000:=by have:=h2.p;omega
  have hge:GE L x e.aq.toNat e.wt.toNat:=⟨e,by rw[hadj];exact hem,hto,by omega⟩
  have hLd:Ld out x=a.len.toNat:=by unfold Ld;rw[hax]
  have hSx:LS out x:=by unfold LS;rw[hax];exact ha0
  have hpush:=PH hz s h2.ok h2.one hpb ⟨e.aq,a.len+e.wt,a.fM+1⟩
  have w1:Value.int .i64 (IntKind.i64.wrap (a.len+e.wt))=Value.int .i64 (a.len+e.wt):=iY (by omega) (by omega)
  have w2:Value.int .i64 (IntKind.i64.wrap (a.fM+1))=Value.int .i64 (a.fM+1):=iY (by omega) (by omega)
  have hcd:decide ((j:Int)<(y.2.2.length:Int))=true:=by simp;omega
  refine t100 (Zp z zn n s.n s.ms.length (s.ms.length*4) y.2.1 y.2.2.length j e.aq.toNat L.length kb s.p (eM out e.aq.toNat).fM (eD 0 L) (aR out) (aD s.ms) a e (pushφ s ⟨e.aq,a.len+e.wt,a.fM+1⟩) (aj _ _ _ _ _ _ _ _ _) ⟨fun _=>?_,nC1 hcd⟩)
  (repeat' first|(with_reducible first|exact rfl|assumption|apply And.intro|exact(by omega:e.aq.toNat<n)|exact b9 _ _|exact gn _ _ _|exact jf _ _|exact bK (by omega))|exact hpush|intro hq)
  ·
   rename_i ms'
   obtain⟨p1,p2,p3,p4⟩:=hq
   have hlp:=h2.ok.lp
   have hp0:=h2.ok.p0
   have h2p:=h2.p
   have h2n:=h2.n
   refine⟨(j+1,⟨s.n+1,ms',s.p+1⟩),rfl,rfl,rfl,rfl,rfl,⟨hj,?_⟩,by show y.2.2.length - (j+1)<y.2.2.length - j;omega⟩
   show Mg L n fr out x s0 (y.2.2.take (j+1)) (j+1) ⟨s.n+1,ms',s.p+1⟩
   have hval: ∀v,gg (hf ms') (s.n+1) v↔v=⟨⟨e.aq,a.len+e.wt,a.fM+1⟩,s.p⟩\/gg (hf s.ms) s.n v:=p4
   refine⟨⟨p1,p3,by show 0<=s.p+1;omega,hpb,by show(ms'.length:Int)<=s.p+1;omega⟩,by show 1<=ms'.length;omega,fun b hb=>?_,?_,by show s.p+1<=s0.p+((j+1:Nat):Int);omega,by show s.n+1<=s0.n+(j+1);omega⟩
   ·rcases (hval b).1 hb with rfl|hb
    ·exact⟨e1,e2,by show 0<=a.len+e.wt;omega,by show a.len+e.wt<=(a.fM+1)*1073741824;omega,by show 0<=a.fM+1;omega,hac⟩
    ·exact h2.hb b hb
   ·rw[hps]
    refine wK h2.dj hSx hge (fun v k ⟨b,q1,q2,q3⟩=>⟨b,(hval b).2 (.inr q1),q2,q3⟩) (fun v k ⟨b,q1,q2,q3⟩=>?_) (.inr ⟨_,(hval _).2 (.inl rfl),hto,?_⟩)
    ·rcases (hval b).1 q1 with rfl|q1
     ·right
      simp only at q2 q3
      rw[hLd]
      omega
     ·exact .inl ⟨b,q1,q2,q3⟩
    ·show a.len+e.wt=_
     rw[hLd];omega
  ·have hneg:decide ((eM out e.aq.toNat).fM<0)=false:=by with_reducible assumption
   have hS:LS out e.aq.toNat:=by unfold LS;simpa using hneg
   have h2p:=h2.p
   have h2n:=h2.n
   refine⟨(j+1,s),rfl,rfl,rfl,rfl,rfl,⟨hj,?_⟩,by show y.2.2.length - (j+1)<y.2.2.length - j;omega⟩
   show Mg L n fr out x s0 (y.2.2.take (j+1)) (j+1) s
   refine⟨h2.ok,h2.one,h2.hb,?_,by show s.p<=s0.p+((j+1:Nat):Int);omega,by omega⟩
   rw[hps]
   exact wK h2.dj hSx hge (fun v k q=>q) (fun v k q=> .inl q) (.inl hS)
 ·have hje:j=y.2.2.length:=by omega
  have hcd:decide ((j:Int)<(y.2.2.length:Int))=false:=by simp;omega
  refine t100 (Zp z zn n s.n s.ms.length (s.ms.length*4) y.2.1 y.2.2.length j 0 L.length kb s.p 0 (eD 0 L) (aR out) (aD s.ms) a ⟨0,0,0⟩ (fun _=>False) (aj _ _ _ _ _ _ _ _ _) ⟨nC1 hcd,fun _=>?_⟩)
  (repeat' first|(with_reducible first|exact rfl|assumption|apply And.intro|exact b9 _ _|exact gn _ _ _|exact jf _ _))
  subst hje
  rw[List.take_of_length_le (Nat.le_refl _)] at h2
  exact Cs (k:=fun _=>eh) s h2 rfl
end
end Go.Proofs.Nw
namespace Go.Proofs.Nw
open Go Go.AV Tryz Go.iO
set_option maxHeartbeats 1000000
set_option maxRecDepth 100000
theorem Qn{out:List cH}{nd:Nat}(h:nd<out.length){a:cH}(ha:0<=a.fM):LS (out.set nd a)=fun v=>LS out v\/v=nd:=by
 funext v
 apply propext
 unfold LS
 rw[pr h]
 by_cases e:v=nd
 ·simp[e,ha]
 ·simp[e]
theorem Qm{out:List cH}{nd:Nat}(h:nd<out.length)(a:cH):Ld (out.set nd a)=fun v=>if v=nd then a.len.toNat else Ld out v:=by
 funext v
 unfold Ld
 rw[pr h]
 split<;>rfl
theorem Ds{out:List cH}{nd:Nat}(h:nd<out.length){a:cH}(ha:0<=a.fM)(hn: ¬LS out nd):j8 (out.set nd a)=j8 out+1:=by
 unfold j8
 have hg:out[nd]=eM out nd:=by have:=mf h;rw[List.getElem?_eq_getElem h] at this;exact Option.some.inj this
 rw[List.countP_set h,hg]
 have h1:decide (0<=(eM out nd).fM)=false:=by unfold LS at hn;simpa using hn
 simp[h1,ha]
theorem Ia(out:List cH):j8 out<=out.length:=List.countP_le_length
theorem CX{n:Nat}{out:List cH}(ho:DU n out){nd:Nat}(h:nd<n){a:cH}(ha:0<=a.fM)(hl:0<=a.len):DU n (out.set nd a):=by
 refine⟨by rw[List.length_set];exact ho.len,fun v hv=>?_⟩
 rw[pr (by rw[ho.len];exact h)]
 by_cases e:v=nd
 ·rw[if_pos e];exact .inl ⟨ha,hl⟩
 ·rw[if_neg e];exact ho.Df v hv
structure Qo(L:List nz)(n fr:Nat)(out:List cH)(s:pZ):Prop where
 oo:DU n out
 ok:uR s
 one:1<=s.ms.length
 hb:HB n (j8 out) s
 dj:Dj (GE L) fr (LS out) (Ld out) (LQ s)
 p:s.p<=1+4096*(j8 out:Int)
def Dfφ(L:List nz)(n fr:Nat)(l:List cH):Prop:=l.length=n/\ ∀v,v<n->lC (GE L) fr v (eM l v).len
theorem K0{L:List nz}{n fr:Nat}{out:List cH}{s:pZ}(h:Qo L n fr out s)(h0:s.n=0):Dfφ L n fr out:=by
 refine⟨h.oo.len,fun v hv=>?_⟩
 have hq: ∀v k,¬LQ s v k:=fun v k ⟨a,⟨i,hi,_⟩,_⟩=>by omega
 obtain⟨q1,q2⟩:=Pt h.dj hq v
 rcases h.oo.Df v hv with ⟨e1,e2⟩|⟨e1,e2⟩
 ·have:=q1 e1
  unfold Ld at this
  rw[show((eM out v).len.toNat:Int)=(eM out v).len by omega] at this
  exact this
 ·rw[e2]
  exact q2 (by unfold LS;omega)
section
variable{z:T aa}{zn:Nat}
theorem Ev(hz:ax z zn)(L:List nz)(n:Nat)(out:List cH)(a:cH)(n' c cc:Nat)(p:Int)(ms:List bU):
 ai prog (ah (ah (ag f214) 1) 0) 6 82 (we n) (qa n L.length (eD 0 L) (aR out) a (dV (aU 6 n' c) p) (dI (aD ms) cc)) 7 z zn (Al.R (Sz z zn n L.length (eD 0 L) (aR out) a (dV (aU 6 n' c) p) (dI (aD ms) cc)).l):=by
 refine an hD (cO z) (α:=Nat) 6 82 7 (fun t=>t=0) (fun t=>we n) (fun t=>qa n L.length (eD 0 L) (aR out) a (dV (aU 6 n' c) p) (dI (aD ms) cc)) (fun _=>z) (fun _=>zn) (fun t=>1) _ (fun t hI=>?_) 0 rfl
 refine t100 (Wu z zn n n' c cc L.length p (eD 0 L) (aR out) (aD ms) a (aj _ _ _ _ _ _ _ _ _) ?_)
 (repeat' first|(with_reducible first|exact rfl|assumption|apply And.intro|exact b9 _ _|exact gn _ _ _|exact jf _ _))
 exact bw trivial
theorem Hb(hz:ax z zn)(L:List nz)(n fr:Nat)(hL:Ve z zn n L)(hn:n<=64)(out0:List cH)(s0:pZ)(h0:Qo L n fr out0 s0):
 ai prog (ah (ag f214) 1) 4 82 (kU n) [(0, .map (eD 0 L) L.length),(1,jM (aR out0) n),(2,wy 4 s0),(4,vL s0)] 5 z zn (Al.R (Kr z zn n L.length (eD 0 L) (aR out0) (wy 4 s0) (vL s0) (Dfφ L n fr)).l):=by
 refine an hD (cO z) (α:=List cH × pZ) 4 82 5 (fun t=>Qo L n fr t.1 t.2) (fun t=>kU n) (fun t=>[(0, .map (eD 0 L) L.length),(1,jM (aR t.1) n),(2,wy 4 t.2),(4,vL t.2)]) (fun _=>z) (fun _=>zn) (fun t=>(n - j8 t.1)*4200+t.2.n) _ (fun t hI=>?_) (out0,s0) h0
 obtain⟨out,s⟩:=t
 simp only at hI ⊢
 by_cases hs0:s.n=0
 ·have Hu:A1 z zn 238 [ip 0] [(0,dV (aU 1 s.n s.ms.length) s.p),(1,dI (aD s.ms) (s.ms.length*4))] 2 2 (.tuple ⟨[.agg ⟨[I 0,I 0,I 0]⟩,F0]⟩) [(0,dV (aU 1 s.n s.ms.length) s.p),(1,dI (aD s.ms) (s.ms.length*4))]:=by
   rw[hs0];exact PJ hz s.ms s.ms.length (s.ms.length*4) s.p
  refine t100 (Wv z zn n s.n s.ms.length (s.ms.length*4) L.length s.p (eD 0 L) (aR out) (aD s.ms) (aj _ _ _ _ _ _ _ _ _) ?_)
  (repeat' first|(with_reducible first|exact rfl|assumption|apply And.intro|exact b9 _ _|exact gn _ _ _|exact jf _ _)|exact Hu|intro hq)
  exact Cs (k:=fun _=>eh) out (K0 hI hs0) rfl
 ·have hpos:0<s.n:=by omega
  have hcn:j8 out<=n:=by have:=Ia out;rw[hI.oo.len] at this;exact this
  obtain⟨b1,b2,b3,b4,b5,b6⟩:=hI.hb (hf s.ms 0) ⟨0,hpos,rfl⟩
  have hpI:=hI.p
  have hlp:=hI.ok.lp
  have hlen:=hI.ok.len
  have Hu:=S5 hz s.ms s.n s.ms.length (s.ms.length*4) s.p hpos hI.ok.len hI.ok.len (Nat.le_refl _) (by have:=hI.ok.pb;omega) hI.ok.heap
  have hnd:(hf s.ms 0).x.node=((hf s.ms 0).x.node.toNat:Int):=by omega
  generalize hnd':(hf s.ms 0).x.node.toNat=nd at hnd
  have hndn:nd<n:=by omega
  have hedg:=Gs (l:=out) (i:=nd) (by rw[hI.oo.len];exact hndn) (n*3)
  have hov:=ME (l:=out) (i:=nd) (by rw[hI.oo.len];exact hndn) (hf s.ms 0).x
  have l1:(aR (out.set nd (hf s.ms 0).x)).length<=n*3:=by rw[vE,List.length_set,hI.oo.len];exact Nat.le_refl _
  have vals: ∀ms',popφ s.ms s.n ms'-> ∀b,gg (hf ms') (s.n - 1) b->gg (hf s.ms) s.n b:=fun ms' hp b hb=>by
   obtain⟨i,i1,i2,i3⟩:=(hp.2.2 b).1 hb
   exact⟨i,i2,i3⟩
  have q1: ∀ms',popφ s.ms s.n ms'-> ∀v k,LQ ⟨s.n - 1,ms',s.p⟩ v k->LQ s v k:=fun ms' hp v k ⟨b,k1,k2,k3⟩=>⟨b,vals ms' hp b k1,k2,k3⟩
  have q2: ∀ms',popφ s.ms s.n ms'-> ∀v k,LQ s v k->LQ ⟨s.n - 1,ms',s.p⟩ v k\/(v=nd/\k=(hf s.ms 0).x.len.toNat):=fun ms' hp v k ⟨b,⟨i,i1,i2⟩,k2,k3⟩=>by
   by_cases e:i=0
   ·subst e;subst i2;right;omega
   ·exact .inl ⟨b,(hp.2.2 b).2 ⟨i,by omega,i1,i2⟩,k2,k3⟩
  have ok1: ∀ms',popφ s.ms s.n ms'->uR ⟨s.n - 1,ms',s.p⟩:=fun ms' hp=>⟨by show s.n - 1<=ms'.length;rw[hp.1];omega,hp.2.1,hI.ok.p0,hI.ok.pb,by show(ms'.length:Int)<=s.p;rw[hp.1];exact hlp⟩
  have hb1: ∀ms',popφ s.ms s.n ms'-> ∀c,j8 out<=c->HB n c ⟨s.n - 1,ms',s.p⟩:=fun ms' hp c hc b hb=>by
   obtain⟨k1,k2,k3,k4,k5,k6⟩:=hI.hb b (vals ms' hp b hb)
   exact⟨k1,k2,k3,k4,k5,by omega⟩
  have st: ∀ms',popφ s.ms s.n ms'-> ¬LS out nd->Mg L n fr (out.set nd (hf s.ms 0).x) nd ⟨s.n - 1,ms',s.p⟩ [] 0 ⟨s.n - 1,ms',s.p⟩:=fun ms' hp hns=>by
   have hc1:=Ds (by rw[hI.oo.len];exact hndn) b5 hns
   refine⟨ok1 ms' hp,by show 1<=ms'.length;rw[hp.1];exact hI.one,hb1 ms' hp _ (by omega),?_,by show s.p<=s.p+((0:Nat):Int);omega,Nat.le_refl _⟩
   rw[Qn (by rw[hI.oo.len];exact hndn) b5,Qm (by rw[hI.oo.len];exact hndn)]
   refine ET hI.dj hns ⟨_,⟨0,hpos,rfl⟩,hnd,by omega⟩ (fun v k ⟨b,⟨i,i1,i2⟩,k2,k3⟩=>?_) (q1 ms' hp) (q2 ms' hp)
   have hm:=Hv ir hI.ok.heap i i1
   rw[i2] at hm
   have: ¬dC b (hf s.ms 0)=true:=by rw[hm];simp
   rw[mA] at this
   omega
  have hcl: ¬LS out nd->j8 (out.set nd (hf s.ms 0).x)=j8 out+1/\j8 out+1<=n:=fun hns=>by
   have hc1:=Ds (by rw[hI.oo.len];exact hndn) b5 hns
   have:=Ia (out.set nd (hf s.ms 0).x)
   rw[List.length_set,hI.oo.len] at this
   exact⟨hc1,by omega⟩
  have hin: ∀ms',popφ s.ms s.n ms'-> ¬LS out nd-> ∀i:Nat × Nat × Nat,aA prog 3 (zv (hf s.ms 0).x.node) (eD 0 L) 0=some (some (i.1,tb i.2.1 i.2.2 i.2.2))->
   ai prog (ah (ah (ag f214) 1) 0) 6 82 (BS n i.2.1 i.2.2 0) (qa n L.length (eD 0 L) (aR (out.set nd (hf s.ms 0).x)) (hf s.ms 0).x (dV (aU 6 (s.n - 1) s.ms.length) s.p) (dI (aD ms') (s.ms.length*4))) 7 z zn
    (Al.R (SA z zn n i.2.1 i.2.2 L.length (eD 0 L) (aR (out.set nd (hf s.ms 0).x)) (hf s.ms 0).x (dV (aU 6 (s.n - 1) s.ms.length) s.p) (dI (aD ms') (s.ms.length*4)) (Mg L n fr (out.set nd (hf s.ms 0).x) nd ⟨s.n - 1,ms',s.p⟩ (lA L nd) (lA L nd).length)).l):=fun ms' hp hns i hi=>by
   obtain⟨y,y1,y2,y3,y4⟩:=Ol L _ hi
   rw[hnd] at y2
   obtain⟨c1,c2⟩:=hcl hns
   have:=Ha hz L n fr hL hn (out.set nd (hf s.ms 0).x) (CX hI.oo hndn b5 b3) (by omega) y y1 (hf s.ms 0).x nd hnd hndn y2 (by rw[pr (by rw[hI.oo.len];exact hndn),if_pos rfl]) b5 b3 b4 (by omega) ⟨s.n - 1,ms',s.p⟩ (st ms' hp hns) (by show s.p<=900000;omega)
   simp only[wy,vL,hp.1] at this
   rw[y3,y4,y2]
   exact this
  have jC: ∀ms',popφ s.ms s.n ms'-> ¬LS out nd-> ∀s2,Mg L n fr (out.set nd (hf s.ms 0).x) nd ⟨s.n - 1,ms',s.p⟩ (lA L nd) (lA L nd).length s2->
   aj (fun t:List cH × pZ=>Qo L n fr t.1 t.2) (fun t=>kU n) (fun t=>[(0, .map (eD 0 L) L.length),(1,jM (aR t.1) n),(2,wy 4 t.2),(4,vL t.2)]) 5 (fun _=>z) (fun _=>zn) (fun t=>(n - j8 t.1)*4200+t.2.n) (Al.R (Kr z zn n L.length (eD 0 L) (aR out0) (wy 4 s0) (vL s0) (Dfφ L n fr)).l) (out,s) .normal (kU n) [(0, .map (eD 0 L) L.length),(1,jM (aR (out.set nd (hf s.ms 0).x)) n),(2,wy 4 s2),(4,vL s2)] 5 z zn:=fun ms' hp hns s2 h2=>by
   obtain⟨c1,c2⟩:=hcl hns
   have hal:(lA L (nd:Int)).length<=4096:=by
    unfold lA
    cases hfd:L.find? (fun x=>x.1==(nd:Int)) with
    |none=>simp
    |some y=>exact(hL.my y (List.mem_of_find?_eq_some hfd)).1
   have h2p:s2.p<=s.p+(((lA L (nd:Int)).length:Nat):Int):=h2.p
   have h2n:s2.n<=s.n - 1+(lA L (nd:Int)).length:=h2.n
   refine⟨(out.set nd (hf s.ms 0).x,s2),rfl,rfl,rfl,rfl,rfl,⟨CX hI.oo hndn b5 b3,h2.ok,h2.one,h2.hb,H5 h2.dj (fun u w ⟨e,e1,e2,e3⟩=>?_),by show s2.p<=1+4096*((j8 (out.set nd (hf s.ms 0).x):Nat):Int);omega⟩,?_⟩
   ·exact List.mem_map.2 ⟨e,e1,by rw[e2,e3];simp⟩
   ·show(n - j8 (out.set nd (hf s.ms 0).x))*4200+s2.n<(n - j8 out)*4200+s.n
    rw[c1]
    obtain⟨m,hm⟩: ∃m,n - j8 out=m+1:=⟨n - j8 out - 1,by omega⟩
    rw[show n - (j8 out+1)=m by omega,hm]
    omega
  have nx0: ∀ms',popφ s.ms s.n ms'-> ¬LS out nd->lA L (nd:Int)=[]->aj (fun t:List cH × pZ=>Qo L n fr t.1 t.2) (fun t=>kU n) (fun t=>[(0, .map (eD 0 L) L.length),(1,jM (aR t.1) n),(2,wy 4 t.2),(4,vL t.2)]) 5 (fun _=>z) (fun _=>zn) (fun t=>(n - j8 t.1)*4200+t.2.n) (Al.R (Kr z zn n L.length (eD 0 L) (aR out0) (wy 4 s0) (vL s0) (Dfφ L n fr)).l) (out,s) .normal (kU n) [(0, .map (eD 0 L) L.length),(1,jM (aR (out.set nd (hf s.ms 0).x)) n),(2,dV (aU 4 (s.n - 1) s.ms.length) s.p),(4,dI (aD ms') (s.ms.length*4))] 5 z zn:=fun ms' hp hns had=>by
   have:=jC ms' hp hns ⟨s.n - 1,ms',s.p⟩ (by rw[had];exact st ms' hp hns)
   simp only[wy,vL,hp.1] at this ⊢
   exact this
  have skp: ∀ms',popφ s.ms s.n ms'->LS out nd->aj (fun t:List cH × pZ=>Qo L n fr t.1 t.2) (fun t=>kU n) (fun t=>[(0, .map (eD 0 L) L.length),(1,jM (aR t.1) n),(2,wy 4 t.2),(4,vL t.2)]) 5 (fun _=>z) (fun _=>zn) (fun t=>(n - j8 t.1)*4200+t.2.n) (Al.R (Kr z zn n L.length (eD 0 L) (aR out0) (wy 4 s0) (vL s0) (Dfφ L n fr)).l) (out,s) .normal (kU n) [(0, .map (eD 0 L) L.length),(1,jM (aR out) n),(2,dV (aU 4 (s.n - 1) s.ms.length) s.p),(4,dI (aD ms') (s.ms.length*4))] 5 z zn:=fun ms' hp hS=>by
   refine⟨(out,⟨s.n - 1,ms',s.p⟩),rfl,?_,rfl,rfl,rfl,⟨hI.oo,ok1 ms' hp,by show 1<=ms'.length;rw[hp.1];exact hI.one,hb1 ms' hp _ (Nat.le_refl _),Ll hI.dj hS (q1 ms' hp) (q2 ms' hp),hI.p⟩,by show(n - j8 out)*4200+(s.n - 1)<(n - j8 out)*4200+s.n;omega⟩
   simp only[wy,vL,hp.1]
  refine t100 (lb1 z zn n s.n s.ms.length (s.ms.length*4) nd L.length s.p (eM out nd).fM (eD 0 L) (aR out) (aR (out.set nd (hf s.ms 0).x)) (aD s.ms) (hf s.ms 0).x (popφ s.ms s.n) (fun ms' _ _=>Mg L n fr (out.set nd (hf s.ms 0).x) nd ⟨s.n - 1,ms',s.p⟩ (lA L nd) (lA L nd).length) (aj _ _ _ _ _ _ _ _ _) ?_)
  have ns:decide ((eM out nd).fM>=0)=false-> ¬LS out nd:=fun h=>by unfold LS;simpa using h
  (repeat' first|(with_reducible first|exact rfl|assumption|apply And.intro|exact RP _ _|exact RQ _ _|exact b9 _ _|exact gn _ _ _|exact jf _ _)|exact Hu|exact hin _ (by assumption) (ns (by assumption)) _ (by assumption)|exact Ev hz _ _ _ _ _ _ _ _ _|intro hq)
  ·have hS:LS out nd:=by unfold LS;have:decide ((eM out nd).fM>=0)=true:=(by with_reducible assumption);simpa using this
   exact skp _ (by with_reducible assumption) hS
  ·exact jC _ (by with_reducible assumption) (ns (by with_reducible assumption)) _ hq
  ·have hns:=ns (by assumption)
   have had:lA L (nd:Int)=[]:=by
    have h:aA prog 3 (zv (hf s.ms 0).x.node) (eD 0 L) 0=some none:=by with_reducible assumption
    rw[←hnd];exact Ok L _ h
   exact nx0 _ (by with_reducible assumption) hns had
theorem D8(n:Nat)(row:List Value)(h:bA row=true):bA (rep n row)=true:=by
 rw[lT,cQ];intro v hv
 obtain⟨r,hr,hv⟩:=List.mem_flatten.1 hv
 rw[List.eq_of_mem_replicate hr] at hv
 exact cQ.1 h v hv
theorem N2(n:Nat):rep n [I 0,I 0,I 0]=aR (List.replicate n ⟨0,0,0⟩):=by
 rw[lT]
 show _=((List.replicate n (⟨0,0,0⟩:cH)).map cH.row).flatten
 rw[List.map_replicate]
 rfl
def xG(n:Nat):List cH:=(List.range n).map fun(i:Nat)=>⟨(i:Int),-1,-1⟩
theorem Hl{n v:Nat}(h:v<n):eM (xG n) v=⟨(v:Int),-1,-1⟩:=by
 unfold eM xG
 rw[List.getElem?_map,List.getElem?_range h];rfl
def BY(n i:Nat):List cH:=(xG n).take i++List.replicate (n - i) ⟨0,0,0⟩
theorem De{n i:Nat}(h:i<=n):(BY n i).length=n:=by simp[BY,xG];omega
theorem KW{n i:Nat}(hi:i<n):(BY n i).set i ⟨(i:Int),-1,-1⟩=BY n (i+1):=by
 unfold BY
 rw[List.take_add_one,show(xG n)[i]? =some ⟨(i:Int),-1,-1⟩ by unfold xG;rw[List.getElem?_map,List.getElem?_range hi];rfl]
 have hl:((xG n).take i).length=i:=by simp[xG];omega
 rw[List.set_append_right _ _ (by omega),hl,Nat.sub_self]
 obtain⟨m,hm⟩: ∃m,n - i=m+1:=⟨n - i - 1,by omega⟩
 rw[hm,show n - (i+1)=m by omega,List.replicate_succ,List.set_cons_zero,List.append_assoc]
 rfl
theorem Hc(hz:ax z zn)(L:List nz)(n fr:Nat)(hn:n<=64):
 ai prog (ah (ag f214) 0) 2 82 (Es n fr 0) [(0, .map (eD 0 L) L.length),(1,jM (rep n [I 0,I 0,I 0]) n)] 2 z zn (Al.R (Ws z zn n fr L.length (eD 0 L) (rep n [I 0,I 0,I 0]) (aR (xG n))).l):=by
 rw[N2,show List.replicate n (⟨0,0,0⟩:cH)=BY n 0 by simp[BY]]
 refine an hD (cO z) (α:=Nat) 2 82 2 (fun i=>i<=n) (fun i=>Es n fr i) (fun i=>[(0, .map (eD 0 L) L.length),(1,jM (aR (BY n i)) n)]) (fun _=>z) (fun _=>zn) (fun i=>n - i) _ (fun i hI=>?_) 0 (Nat.zero_le _)
 by_cases hi:i<n
 ·have o1:=ME (l:=BY n i) (i:=i) (by rw[De hI];exact hi) ⟨(i:Int),-1,-1⟩
  have e1:=KW hi
  rw[e1] at o1
  have l1:(aR (BY n (i+1))).length<=n*3:=by rw[vE,De hi];exact Nat.le_refl _
  have hc:decide ((i:Int)<(n:Int))=true:=by simp;omega
  refine t100 (Zq z zn n fr i L.length (eD 0 L) (aR (BY n i)) (aR (BY n (i+1))) (aj _ _ _ _ _ _ _ _ _) ⟨fun _=>?_,nC1 hc⟩)
  (repeat' first|(with_reducible first|exact rfl|assumption|apply And.intro|exact jf _ _|exact gn _ _ _|exact bK (by omega))|exact o1)
  exact⟨i+1,rfl,rfl,rfl,rfl,rfl,hi,by show n - (i+1)<n - i;omega⟩
 ·have hc:decide ((i:Int)<(n:Int))=false:=by simp;omega
  refine t100 (Zq z zn n fr i L.length (eD 0 L) (aR (BY n i)) [] (aj _ _ _ _ _ _ _ _ _) ⟨nC1 hc,fun _=>?_⟩)
  (repeat' first|(with_reducible first|exact rfl|assumption|apply And.intro|exact jf _ _|exact gn _ _ _))
  have:i=n:=by omega
  subst this
  rw[show BY i i=xG i by unfold BY;rw[List.take_of_length_le (by simp[xG]),Nat.sub_self,List.replicate_zero,List.append_nil]]
  exact bw trivial
theorem IG(hz:ax z zn)(L:List nz)(n fr:Nat)(hL:Ve z zn n L)(hn:n<=64)(hfr:fr<n):
 aQ prog z zn 214 [iv n,mp 0,iv fr] [(0, .map (eD 0 L) L.length)] 1 2 (Dfφ L n fr) (fun _=>aU 1 n n) (fun l=>[(0, .map (eD 0 L) L.length),(1,jM (aR l) n)]):=by
 have h0:Qo L n fr (xG n) ⟨1,[⟨⟨fr,0,0⟩,0⟩],1⟩:=by
  have hcn:j8 (xG n)=0:=by
   unfold j8 xG
   rw[List.countP_eq_zero]
   intro a ha
   obtain⟨i,_,rfl⟩:=List.mem_map.1 ha
   simp
  have hls: ∀v,¬LS (xG n) v:=fun v h=>by
   unfold LS at h
   by_cases hv:v<n
   ·rw[Hl hv] at h;simp at h
   ·rw[Hm (by simp[xG];omega)] at h;simp[TN] at h
  refine⟨⟨by simp[xG],fun v hv=> .inr ?_⟩,⟨by simp,fun k h1 h2=>by simp only at h2;omega,by simp,by simp,by simp⟩,by simp,fun a ha=>?_,?_,by rw[hcn];simp⟩
  ·rw[Hl hv];exact⟨by simp,rfl⟩
  ·obtain⟨i,hi,rfl⟩:=ha
   have:i=0:=by simp only at hi;omega
   subst this
   refine⟨by show(0:Int)<=(fr:Int);omega,by show(fr:Int)<(n:Int);omega,by show(0:Int)<=0;omega,by show(0:Int)<=0*1073741824;omega,by show(0:Int)<=0;omega,by show(0:Int)<=_;omega⟩
  ·refine⟨fun v h=>(hls v h).elim,fun v l ⟨a,⟨i,hi,e⟩,h2,h3⟩=>?_,fun u x w h=>(hls u h).elim, .inr ⟨_,⟨0,by simp,rfl⟩,rfl,rfl⟩⟩
   have:i=0:=by simp only at hi;omega
   subst this
   subst e
   have h2':(fr:Int)=(v:Int):=h2
   have h3':(0:Int)=(l:Int):=h3
   have e1:v=fr:=by omega
   have e2:l=0:=by omega
   subst e1 e2
   exact .start
 have hK0:=Hc hz L n fr hn
 have hK1:=Hb hz L n fr hL hn (xG n) _ h0
 have oe:=S9 hz
 have hpu:=LJ hz ⟨fr,0,0⟩
 have hrp:=D8 n [I 0,I 0,I 0] rfl
 have hrp': ∀σ,aG σ (aa.ak (aY.mk (rep n [I 0,I 0,I 0]) (n*3) 3 315 true true 0 true))=some (aa.ak (aY.mk (rep n [I 0,I 0,I 0]) (n*3) 3 315 true true 0 true)):=fun σ=>cN hrp
 refine fJ (cO z) (fn:=f214) (by kernel_rfl) (by kernel_rfl) hz ⟨by decide,by decide⟩ (fun _ _=>⟨rfl,Nat.le_refl _,hz⟩) (N:=100) ?_
 refine lb z zn n fr L.length (eD 0 L) (rep n [I 0,I 0,I 0]) (aR (xG n)) (Dfφ L n fr) _ ?_
 (repeat' first|(with_reducible first|exact rfl|assumption|apply And.intro|exact hrp' _|exact jf _ _|exact gn _ _ _|exact(by omega:n<=1048576))|exact hK0|exact hK1|exact hpu|intro hq)
 all_goals exact q2 _ hq rfl rfl rfl rfl rfl
end
theorem EH{z:T aa}{a b:Nat}(h:ax z a)(hab:a<=b):ax z b:=fun k o hk=>⟨Nat.lt_of_lt_of_le (h k o hk).1 hab,fun σ hs=>(h k o hk).2 σ fun j hj=>hs j (by omega)⟩
theorem Am{z:T aa}{a k:Nat}(h:ax z a)(hk:k<a){o:aa}(ho: ∀σ:Nat->Option Nat,(∀j,j<a->σ (256*j+510)=some (256*j+510))->aG σ o=some o):ax (z.set k o) a:=fun i p hi=>by
 rw[T.aK] at hi
 split at hi
 ·cases hi;rename_i e;subst e;exact⟨hk,ho⟩
 ·exact h i p hi
theorem ue{z:T aa}{a:Nat}(h:ax z a)(k:Nat):ax (z.del k) a:=fun i p hi=>by
 rw[T.fm] at hi
 split at hi
 ·cases hi
 ·exact h i p hi
theorem iT{z:T aa}{a:Nat}(h:ax z a){k:aY}(hp:bA k.cells=true):ax (z.set a (.ak k)) (a+1):=Am (EH h (Nat.le_succ a)) (Nat.lt_succ_self a) fun σ _=>cN hp
theorem JP(a:Int):Instr.sameBits 10000 (zv a) (zv a)=true:=by
 simp[Instr.sameBits]
theorem vD(E:List dW):(bu E).length=E.length*3:=by rw[kx (oU E),List.length_map]
theorem fW(E:List dW):bA (bu E)=true:=kQ (fun _=>rfl) E
theorem jg{σ:Nat->Option Nat}(E:List dW)(c:Nat):aG σ (aa.ak (aY.mk (bu E) c 3 262 true true 0 true))=some (aa.ak (aY.mk (bu E) c 3 262 true true 0 true)):=cN (fW E)
theorem Gt{E:List dW}{i:Nat}{e:dW}(h:E[i]? =some e)(c:Nat):aC prog (aY.mk (bu E) c 3 262 true true 0 true) 262 (0+i*3)=some (.agg ⟨e.row⟩):=
 gL (rows:=E.map dW.row) rfl underlying262 rfl rfl (oU E) (by rw[List.getElem?_map,h];rfl)
structure FC(n:Nat)(E:List dW):Prop where
 len:E.length<=4096
 ok: ∀e∈E,0<=e.fz1/\e.fz1<n/\0<=e.aq/\e.aq<n/\0<=e.wt/\e.wt<=1073741824
section
variable{z:T aa}{zn:Nat}
theorem MQ(hz:ax z zn)(n:Nat)(x:Int)(h0:0<=x)(h1:x<n):A1 z zn 234 [zv x,ip 0] [(0,FG n)] 1 1 F0 [(0,FG n)]:=by
 have d1:decide (x<0)=false:=by simp<;>omega
 have d2:decide (x>=(n:Int))=false:=by simp<;>omega
 refine aK1 (cO T.leaf) (fn:=f234) hz (N:=100) ?_
 refine Wc z zn n x _ ?_
 refine⟨nC1 d1,fun _=>⟨nC1 d2,fun _=>?_⟩⟩
 (repeat' first|(with_reducible first|exact rfl|assumption|apply And.intro)|exact q1)
theorem IK(hz:ax z zn)(n:Nat)(hn:n<=64)(E:List dW)(hE:FC n E):A1 z zn 211 [iv n,aU 0 E.length E.length,az] [(0,nv (bu E) E.length)] 1 1 (I 0) [(0,nv (bu E) E.length)]:=by
 have hK0:ai prog (ah (ag f211) 0) 2 57 (wc n E.length 0) [(0,nv (bu E) E.length),(1,FG n)] 2 z zn (Al.R (Sx z zn n E.length (bu E)).l):=by
  refine an hD (cO T.leaf) (α:=Nat) 2 57 2 (fun j=>j<=E.length) (fun j=>wc n E.length j) (fun _=>[(0,nv (bu E) E.length),(1,FG n)]) (fun _=>z) (fun _=>zn) (fun j=>E.length - j) _ (fun j hI=>?_) 0 (Nat.zero_le _)
  by_cases hj:j<E.length
  ·obtain⟨e,he⟩:=ez hj
   obtain⟨k1,k2,k3,k4,k5,k6⟩:=hE.ok e (List.mem_of_getElem? he)
   have hle:=hE.len
   have m1:=MQ hz n e.fz1 k1 k2
   have m2:=MQ hz n e.aq k3 k4
   have hc:decide ((j:Int)<(E.length:Int))=true:=by simp;omega
   have d1:decide (e.wt<0)=false:=by simp<;>omega
   have d2:decide (e.wt>1073741824)=false:=by simp<;>omega
   refine t100 (ZY z zn n E.length j (bu E) e (aj _ _ _ _ _ _ _ _ _) ⟨fun _=>?_,nC1 hc⟩)
   (repeat' first|(with_reducible first|exact rfl|assumption|apply And.intro|exact Gt he _|exact jg _ _|exact bK (by omega))|exact m1|exact m2|intro hq)
   all_goals first
    |(exact⟨j+1,rfl,rfl,rfl,rfl,rfl,hj,by show E.length - (j+1)<E.length - j;omega⟩)
    |(exfalso;simp_all;done)
    |(exfalso;simp_all;omega)
  ·have hc:decide ((j:Int)<(E.length:Int))=false:=by simp<;>omega
   refine t100 (ZY z zn n E.length j (bu E) ⟨0,0,0⟩ (aj _ _ _ _ _ _ _ _ _) ⟨nC1 hc,fun _=>?_⟩)
   (repeat' first|(with_reducible first|exact rfl|assumption|apply And.intro|exact jg _ _))
   exact bw trivial
 have hK1:ai prog (ah (ag f211) 1) 2 57 wb [(0,nv (bu E) E.length),(1,FG n)] 2 z zn (Al.R (Sw z zn n E.length (bu E)).l):=by
  refine an hD (cO T.leaf) (α:=Nat) 2 57 2 (fun j=>j=0) (fun _=>wb) (fun _=>[(0,nv (bu E) E.length),(1,FG n)]) (fun _=>z) (fun _=>zn) (fun j=>1) _ (fun j hI=>?_) 0 rfl
  refine t100 (ck1 z zn n E.length (bu E) (aj _ _ _ _ _ _ _ _ _) ?_)
  (repeat' first|(with_reducible first|exact rfl|assumption|apply And.intro|exact jg _ _))
  exact bw trivial
 have hle:=hE.len
 have d0:decide ((n:Int)<0)=false:=by simp<;>omega
 have d1:decide ((n:Int)>64)=false:=by simp<;>omega
 have d2:decide ((E.length:Int)>4096)=false:=by simp<;>omega
 refine aK1 (cO T.leaf) (fn:=f211) hz (N:=100) ?_
 refine ck z zn n E.length (bu E) _ ?_
 (repeat' first|(with_reducible first|exact rfl|assumption|apply And.intro|exact jg _ _|exact q1)|exact hK0|exact hK1|intro hq)
 all_goals (exfalso;simp_all;done)
end
abbrev SR(r:List dW):aY:=⟨bu r,r.length*3,3,262,false,false,0,true⟩
structure Fx(z0:T aa)(zn0:Nat)(E:List dW)(j:Nat)(s:nM):Prop where
 bL:ax s.z s.zn
 zn:s.zn=zn0+j
 ia: ∀k,k<zn0->s.z.get k=z0.get k
 row: ∀x∈s.l,zn0<=x.2.1/\x.2.1<s.zn/\s.z.get x.2.1=some (.ak (SR x.2.2))/\x.2.2≠[]/\x.2.2.length<=j/\ ∀e∈x.2.2,e∈E
 keys:(s.l.map (·.1)).Nodup
 Oi:(s.l.map (·.2.1)).Nodup
 lA: ∀a,lA s.l a=(E.take j).filter fun e=>e.fz1==a
theorem zq: ∀(l:List nz)(i:Nat)(x:nz),eD i (l++[x])=eD i l++[{key:=zv x.1,val:=tb x.2.1 x.2.2.length x.2.2.length,born:=i+l.length}]
 |[],i,x=>rfl
 |(a,k,r)::l,i,x=>by
  simp only[List.cons_append,eD,zq l (i+1) x,List.length_cons]
  rw[show i+1+l.length=i+(l.length+1) by omega]
theorem C6: ∀(l:List nz)(i j:Nat)(x y:nz),l[i]? =some y->y.1=x.1->cU i (zv x.1) (tb x.2.1 x.2.2.length x.2.2.length) (eD j l)=eD j (l.set i x)
 |[],i,j,x,y,h,_=>by simp at h
 |(a,k,r)::l,0,j,x,y,h,hk=>by
  simp only[List.getElem?_cons_zero,Option.some.injEq] at h
  subst h
  rfl
 |(a,k,r)::l,i+1,j,x,y,h,hk=>by
  simp only[List.getElem?_cons_succ] at h
  simp only[eD,cU,List.set_cons_succ,C6 l i (j+1) x y h hk]
theorem C7: ∀(l:List nz)(i j:Nat)(x:nz),l[i]? =some x->nth (eD j l) i=some {key:=zv x.1,val:=tb x.2.1 x.2.2.length x.2.2.length,born:=j+i}
 |[],i,j,x,h=>by simp at h
 |(a,k,r)::l,0,j,x,h=>by
  simp only[List.getElem?_cons_zero,Option.some.injEq] at h
  subst h;rfl
 |(a,k,r)::l,i+1,j,x,h=>by
  simp only[List.getElem?_cons_succ] at h
  simp only[eD,nth,C7 l i (j+1) x h]
  rw[show j+1+i=j+(i+1) by omega]
theorem te{σ:Nat->Option Nat}: ∀{a a' b b':List MapEntry},gp σ a=some a'->gp σ b=some b'->gp σ (a++b)=some (a'++b')
 |[],a',b,b',h1,h2=>by simp only[gp,Option.some.injEq] at h1;subst h1;exact h2
 |e::a,a',b,b',h1,h2=>by
  simp only[gp] at h1
  split at h1
  ·rename_i k v q1 q2
   split at h1
   ·rename_i m q3
    cases h1
    simp only[List.cons_append,gp,q1,q2,te q3 h2]
   ·cases h1
  ·cases h1
theorem nT{σ:Nat->Option Nat}{k k' v v':Value}(hk:aT σ k=some k')(hv:aT σ v=some v'): ∀{es es':List MapEntry} (i:Nat),gp σ es=some es'->gp σ (cU i k v es)=some (cU i k' v' es')
 |[],es',i,h=>by simp only[gp,Option.some.injEq] at h;subst h;cases i<;>rfl
 |e::es,es',0,h=>by
  simp only[gp] at h
  split at h
  ·rename_i k v q1 q2
   split at h
   ·rename_i m q3
    cases h
    simp only[cU,gp,hk,hv,q3]
   ·cases h
  ·cases h
 |e::es,es',i+1,h=>by
  simp only[gp] at h
  split at h
  ·rename_i k v q1 q2
   split at h
   ·rename_i m q3
    cases h
    simp only[cU,gp,q1,q2,nT hk hv i q3]
   ·cases h
  ·cases h
theorem mN{σ:bk}{k b c:Nat}{o:aa}(h:b≠k):ay σ [(k,c,o)] (256*b+510)=some (256*b+510):=by
 rw[iJ (by unfold cC;omega)]
 have:Nat.beq (256*k+510) (256*b+510)=false:=by
  cases e:Nat.beq (256*k+510) (256*b+510) with
  |false=>rfl
  |true=>have:=Nat.eq_of_beq_eq_true e;omega
 simp only[Ba,this]
theorem JN{σ:bk}{k c:Nat}{o:aa}:ay σ [(k,c,o)] (256*k+510)=some c:=by
 rw[iJ (by unfold cC;omega)]
 have:Nat.beq (256*k+510) (256*k+510)=true:=Nat.beq_refl _
 simp only[Ba,this]
theorem oY{σ:bk}{k c n m:Nat}{o:aa}:aT (ay σ [(k,c,o)]) (tb k n m)=some (aU c n m):=by
 simp only[aT,JN]
theorem I1{l:List nz}{x:nz}(h:l.find? (fun y=>y.1==x.1)=none)(a:Int):lA (l++[x]) a=if a=x.1 then x.2.2 else lA l a:=by
 unfold lA
 rw[List.find?_append]
 by_cases e:a=x.1
 ·subst e;rw[h,if_pos rfl];simp
 ·rw[if_neg e]
  have:(x.1==a)=false:=by simp;exact fun q=>e q.symm
  simp[List.find?_cons,this]
theorem DI: ∀{l:List nz} {i:Nat} {x y:nz},(l.map (·.1)).Nodup->l[i]? =some y->y.1=x.1-> ∀a,lA (l.set i x) a=if a=x.1 then x.2.2 else lA l a
 |[],i,x,y,_,h,_,a=>by simp at h
 |b::l,0,x,y,hn,h,hk,a=>by
  simp only[List.getElem?_cons_zero,Option.some.injEq] at h
  subst h
  unfold lA
  simp only[List.set_cons_zero,List.find?_cons]
  by_cases e:a=x.1
  ·subst e;simp
  ·have h1:(x.1==a)=false:=by simp;exact fun q=>e q.symm
   have h2:(b.1==a)=false:=by rw[hk];exact h1
   rw[h1,h2,if_neg e]
 |b::l,i+1,x,y,hn,h,hk,a=>by
  simp only[List.getElem?_cons_succ] at h
  simp only[List.map_cons,List.nodup_cons] at hn
  have ih:=DI hn.2 h hk a
  have hbx:b.1≠x.1:=fun e=>hn.1 (by rw[e,←hk];exact List.mem_map.2 ⟨y,List.mem_of_getElem? h,rfl⟩)
  unfold lA at ih ⊢
  simp only[List.set_cons_succ,List.find?_cons]
  by_cases e:(b.1==a)=true
  ·have:a=b.1:=by simpa using (beq_iff_eq.1 e).symm
   rw[e,if_neg (by rw[this];exact hbx)]
  ·have e':(b.1==a)=false:=by simpa using e
   rw[e'];exact ih
theorem vN: ∀{l:List Nat} {i v:Nat},l.Nodup->v ∉ l->(l.set i v).Nodup
 |[],_,_,h,_=>by simp
 |a::l,0,v,h,hv=>by
  simp only[List.set_cons_zero,List.nodup_cons] at*
  exact⟨fun q=>hv (List.mem_cons_of_mem _ q),h.2⟩
 |a::l,i+1,v,h,hv=>by
  simp only[List.set_cons_succ,List.nodup_cons] at*
  refine⟨fun q=>?_,vN h.2 fun q=>hv (List.mem_cons_of_mem _ q)⟩
  rcases List.mem_or_eq_of_mem_set q with q|q
  ·exact h.1 q
  ·exact hv (by rw[q];exact List.mem_cons_self ..)
theorem ph{α β:Type}(f:α->β){l:List α}{i:Nat}{x y:α}(h:l[i]? =some y)(hf:f x=f y):(l.set i x).map f=l.map f:=by
 rw[List.map_set]
 apply List.ext_getElem?
 intro j
 rw[List.getElem?_set]
 by_cases e:i=j
 ·subst e
  have hlt:i<l.length:=(List.getElem?_eq_some_iff.1 h).1
  have hg:l[i]=y:=by rw[List.getElem?_eq_getElem hlt] at h;exact Option.some.inj h
  simp[hlt,hg,hf]
 ·simp[e]
section
variable{z:T aa}{zn:Nat}
theorem KG(hz:ax z zn)(E:List dW)(hE:E.length<=4096):
 ai prog (ah (ag f212) 0) 2 34 (BN E.length 0) [(0,nv (bu E) E.length),(1, .map [] 0)] 2 z zn (Al.R (Wj z zn E.length (bu E) (Fx z zn E E.length)).l):=by
 refine an hD (cO T.leaf) (α:=Nat × nM) 2 34 2 (fun t=>t.1<=E.length/\Fx z zn E t.1 t.2) (fun t=>BN E.length t.1) (fun t=>[(0,nv (bu E) E.length),(1,Ee t.2.l)]) (fun t=>t.2.z) (fun t=>t.2.zn) (fun t=>E.length - t.1) _ (fun t hI=>?_) (0,⟨[],z,zn⟩) ⟨Nat.zero_le _,⟨hz,rfl,fun _ _=>rfl,fun x hx=>(by cases hx),(by simp),(by simp),fun a=>(by simp[lA])⟩⟩
 obtain⟨j,s⟩:=t
 obtain⟨h1,h2⟩:=hI
 simp only at h1 h2 ⊢
 by_cases hj:j<E.length
 ·obtain⟨e,he⟩:=ez hj
  have hc:decide ((j:Int)<(E.length:Int))=true:=by simp;omega
  have htk:E.take (j+1)=E.take j++[e]:=by rw[List.take_add_one,he];rfl
  have hem:e∈E:=List.mem_of_getElem? he
  have hfr:=h2.bL
  rcases mq s.l e.fz1 0 0 with ⟨i,x,q1,q2,q3,_,q5⟩|⟨q1,q2⟩
  ·rw[Nat.sub_zero] at q5
   obtain⟨k1,k2,k3,k4,k5,k6⟩:=h2.row x q2
   have hx1:x.1=e.fz1:=by simpa using List.find?_some q3
   have hzn: ∀y∈s.l,y.2.1≠s.zn:=fun y hy=>by have:=(h2.row y hy).2.1;omega
   have hkeep:xa (eD 0 s.l) i (zv e.fz1):=⟨_,C7 s.l i 0 x q5,by rw[hx1];simp only[au,JP,Bool.and_self]⟩
   have hcells:bu x.2.2++dW.row e=bu (x.2.2++[e]):=by
    show _=((x.2.2++[e]).map dW.row).flatten
    rw[List.map_append,List.flatten_append];rfl
   have hmap: ∀o:aa,aG (ay [(0,0),(1,1)] [(s.zn,4,o)]) (aa.map (cU i (zv e.fz1) (tb s.zn (x.2.2.length+1) (x.2.2.length+1)) (eD 0 s.l)) s.l.length)=some (aa.map (cU i (zv e.fz1) (aU 4 (x.2.2.length+1) (x.2.2.length+1)) (eD 0 s.l)) s.l.length):=fun o=>by
    have:=nT (σ:=ay [(0,0),(1,1)] [(s.zn,4,o)]) (k:=zv e.fz1) (k':=zv e.fz1) rfl (oY (n:=x.2.2.length+1) (m:=x.2.2.length+1)) i (rU (L:=s.l) 0 fun y hy=>mN (hzn y hy))
    simp only[aG,this]
   have r1: ∀σ c,aG σ (aa.ak (aY.mk (bu x.2.2++dW.row e) c 3 262 false false 0 true))=some (aa.ak (aY.mk (bu x.2.2++dW.row e) c 3 262 false false 0 true)):=fun σ c=>by
    rw[hcells];exact cN (fW _)
   have hfd:=ue hfr x.2.1
   have hlen:=vD x.2.2
   refine t100 (nb1 s.z s.zn E.length j s.l.length i x.2.1 x.2.2.length (SR x.2.2) (bu E) e (eD 0 s.l) (aj _ _ _ _ _ _ _ _ _) ⟨fun _=>?_,nC1 hc⟩)
   (repeat' first|(with_reducible first|exact rfl|assumption|apply And.intro|exact Gt he _|exact hmap _|exact r1 _ _|exact jg _ _|exact(by omega:x.2.2.length+1<=1048576)|exact Nat.le_refl _|exact Nat.lt_succ_self _|exact bK (by omega))|exact Nat.le_succ _)
   refine⟨(j+1,⟨s.l.set i (e.fz1,s.zn,x.2.2++[e]),(s.z.del x.2.1).set s.zn (.ak (SR (x.2.2++[e]))),s.zn+1⟩),rfl,?_,rfl,?_,rfl,⟨hj,?_⟩,by show E.length - (j+1)<E.length - j;omega⟩
   ·have:=C6 s.l i 0 (e.fz1,s.zn,x.2.2++[e]) x q5 hx1
    simp only[List.length_append,List.length_singleton] at this
    simp only[Ee,←this,List.length_set]
   ·simp only[jd]
    have:x.2.2.length+1=(x.2.2++[e]).length:=by simp
    simp only[SR,←hcells,←this]
   ·simp only
    have hil:i<s.l.length:=(List.getElem?_eq_some_iff.1 q5).1
    refine⟨iT hfd (fW _),by show s.zn+1=zn+(j+1);rw[h2.zn];omega,fun k hk=>?_,fun y hy=>?_,?_,?_,fun a=>?_⟩
    ·show((s.z.del x.2.1).set s.zn _).get k=_
     rw[T.aK,if_neg (by have:=h2.zn;omega),T.fm,if_neg (by omega)]
     exact h2.ia k hk
    ·show zn<=y.2.1/\y.2.1<s.zn+1/\((s.z.del x.2.1).set s.zn _).get y.2.1=_/\_
     rcases List.mem_or_eq_of_mem_set hy with hy|rfl
     ·
      obtain⟨m1,m2,m3,m4,m5,m6⟩:=h2.row y hy
      have hne:y.2.1≠x.2.1:=by
       intro hyx
       obtain⟨p,hp⟩:=List.mem_iff_getElem?.1 (by assumption:y∈s.l.set i (e.fz1,s.zn,x.2.2++[e]))
       rw[List.getElem?_set] at hp
       split at hp
       ·rename_i hip
        simp only[hil,if_true,Option.some.injEq] at hp
        rw[←hp] at hyx m2
        simp only at m2;omega
       ·rename_i hip
        have hn:=h2.Oi
        have e1:(s.l.map (·.2.1))[p]? =some y.2.1:=by rw[List.getElem?_map,hp];rfl
        have e2:(s.l.map (·.2.1))[i]? =some x.2.1:=by rw[List.getElem?_map,q5];rfl
        rw[hyx] at e1
        have hlt1:=(List.getElem?_eq_some_iff.1 e1).1
        have hlt2:=(List.getElem?_eq_some_iff.1 e2).1
        exact hip ((List.getElem?_inj hlt2 hn).1 (e2.trans e1.symm))
      refine⟨m1,by omega,?_,m4,by omega,m6⟩
      rw[T.aK,if_neg (by omega),T.fm,if_neg hne]
      exact m3
     ·refine⟨by have:=h2.zn;show zn<=s.zn;omega,Nat.lt_succ_self _,by rw[T.aK,if_pos rfl],by simp,by simp;omega,fun e' he'=>?_⟩
      rcases List.mem_append.1 he' with q|q
      ·exact k6 e' q
      ·simp at q;subst q;exact hem
    ·show((s.l.set i (e.fz1,s.zn,x.2.2++[e])).map (·.1)).Nodup
     rw[ph (·.1) q5 hx1.symm];exact h2.keys
    ·show((s.l.set i (e.fz1,s.zn,x.2.2++[e])).map (·.2.1)).Nodup
     rw[List.map_set]
     refine vN h2.Oi fun q=>?_
     obtain⟨y,y1,y2⟩:=List.mem_map.1 q
     exact hzn y y1 y2
    ·show lA (s.l.set i (e.fz1,s.zn,x.2.2++[e])) a=_
     rw[DI h2.keys q5 hx1 a,htk,List.filter_append]
     have hax:lA s.l e.fz1=x.2.2:=by unfold lA;rw[q3];rfl
     by_cases ea:a=e.fz1
     ·subst ea
      rw[if_pos rfl,←h2.lA,hax];simp
     ·have:(e.fz1==a)=false:=by simp;exact fun q=>ea q.symm
      rw[if_neg ea,h2.lA a];simp[List.filter_cons,this]
  ·have hzn: ∀y∈s.l,y.2.1≠s.zn:=fun y hy=>by have:=(h2.row y hy).2.1;omega
   have hmap: ∀o:aa,aG (ay [(0,0),(1,1)] [(s.zn,4,o)]) (aa.map (eD 0 s.l++[MapEntry.mk (zv e.fz1) (tb s.zn 1 1) s.l.length]) (s.l.length+1))=some (aa.map (eD 0 s.l++[MapEntry.mk (zv e.fz1) (aU 4 1 1) s.l.length]) (s.l.length+1)):=fun o=>by
    have h1:gp (ay [(0,0),(1,1)] [(s.zn,4,o)]) [MapEntry.mk (zv e.fz1) (tb s.zn 1 1) s.l.length]=some [MapEntry.mk (zv e.fz1) (aU 4 1 1) s.l.length]:=by
     have h0:=oY (σ:=[(0,0),(1,1)]) (k:=s.zn) (c:=4) (n:=1) (m:=1) (o:=o)
     have OP:aT (ay [(0,0),(1,1)] [(s.zn,4,o)]) (zv e.fz1)=some (zv e.fz1):=rfl
     simp only[gp,h0,OP]
    have:=te (rU (L:=s.l) 0 fun y hy=>mN (σ:=[(0,0),(1,1)]) (c:=4) (o:=o) (hzn y hy)) h1
    simp only[aG,this]
   refine t100 (Zm s.z s.zn E.length j s.l.length (bu E) e (eD 0 s.l) (aj _ _ _ _ _ _ _ _ _) ⟨fun _=>?_,nC1 hc⟩)
   (repeat' first|(with_reducible first|exact rfl|assumption|apply And.intro|exact Gt he _|exact hmap _|exact jg _ _|exact Nat.le_refl _|exact Nat.lt_succ_self _|exact bK (by omega))|exact Nat.le_succ _)
   refine⟨(j+1,⟨s.l++[(e.fz1,s.zn,[e])],s.z.set s.zn (.ak (SR [e])),s.zn+1⟩),rfl,?_,rfl,rfl,rfl,⟨hj,?_⟩,by show E.length - (j+1)<E.length - j;omega⟩
   ·simp only[Ee,zq,List.length_append,List.length_singleton,Nat.zero_add]
   ·simp only
    refine⟨iT hfr (fW _),by show s.zn+1=zn+(j+1);rw[h2.zn];omega,fun k hk=>?_,fun y hy=>?_,?_,?_,fun a=>?_⟩
    ·show(s.z.set s.zn _).get k=_
     rw[T.aK,if_neg (by have:=h2.zn;omega)]
     exact h2.ia k hk
    ·show zn<=y.2.1/\y.2.1<s.zn+1/\(s.z.set s.zn _).get y.2.1=_/\_
     rcases List.mem_append.1 hy with hy|hy
     ·obtain⟨m1,m2,m3,m4,m5,m6⟩:=h2.row y hy
      refine⟨m1,by omega,?_,m4,by omega,m6⟩
      rw[T.aK,if_neg (by omega)]
      exact m3
     ·simp only[List.mem_singleton] at hy
      subst hy
      refine⟨by have:=h2.zn;show zn<=s.zn;omega,Nat.lt_succ_self _,by rw[T.aK,if_pos rfl],by simp,by simp,fun e' he'=>?_⟩
      simp at he';subst he';exact hem
    ·show((s.l++[(e.fz1,s.zn,[e])]).map (·.1)).Nodup
     rw[List.map_append,List.nodup_append]
     refine⟨h2.keys,by simp,fun a ha b hb=>?_⟩
     simp only[List.map_cons,List.map_nil,List.mem_singleton] at hb
     subst hb
     obtain⟨y,y1,y2⟩:=List.mem_map.1 ha
     intro hab
     have:=List.find?_eq_none.1 q2 y y1
     rw[y2,hab] at this;simp at this
    ·show((s.l++[(e.fz1,s.zn,[e])]).map (·.2.1)).Nodup
     rw[List.map_append,List.nodup_append]
     refine⟨h2.Oi,by simp,fun a ha b hb=>?_⟩
     simp only[List.map_cons,List.map_nil,List.mem_singleton] at hb
     subst hb
     obtain⟨y,y1,y2⟩:=List.mem_map.1 ha
     intro hab
     exact hzn y y1 (y2.trans hab)
    ·show lA (s.l++[(e.fz1,s.zn,[e])]) a=_
     rw[I1 q2 a,htk,List.filter_append]
     have hax:lA s.l e.fz1=[]:=by unfold lA;rw[q2];rfl
     by_cases ea:a=e.fz1
     ·subst ea
      rw[if_pos rfl,←h2.lA,hax];simp
     ·have:(e.fz1==a)=false:=by simp;exact fun q=>ea q.symm
      rw[if_neg ea,h2.lA a];simp[List.filter_cons,this]
 ·have hje:j=E.length:=by omega
  have hc:decide ((j:Int)<(E.length:Int))=false:=by simp;omega
  have hfr:=h2.bL
  refine t100 (Zm s.z s.zn E.length j s.l.length (bu E) ⟨0,0,0⟩ (eD 0 s.l) (aj _ _ _ _ _ _ _ _ _) ⟨nC1 hc,fun _=>?_⟩)
  (repeat' first|(with_reducible first|exact rfl|assumption|apply And.intro|exact jg _ _|exact gn _ _ _))
  subst hje
  exact Cs (k:=fun _=>eh) s h2 rfl
theorem Xj(hz:ax z zn)(E:List dW)(hE:E.length<=4096):
 bB prog z zn 212 [aU 0 E.length E.length,F0] [(0,nv (bu E) E.length)] 1 2 (Fx z zn E E.length) (fun _=>mp 1) (fun s=>[(0,nv (bu E) E.length),(1,Ee s.l)]) (fun s=>s.z) (fun s=>s.zn):=by
 have hK:=KG hz E hE
 refine fJ (cO T.leaf) (fn:=f212) (by kernel_rfl) (by kernel_rfl) hz ⟨by decide,by decide⟩ (fun s hs=>⟨rfl,by show zn<=s.zn;rw[hs.zn];omega,hs.bL⟩) (N:=100) ?_
 refine nb z zn E.length (bu E) (Fx z zn E E.length) _ ?_
 (repeat' first|(with_reducible first|exact rfl|assumption|apply And.intro|exact Fx.bL ‹_›|exact jg _ _|exact gn _ _ _)|exact hK|intro hq)
 all_goals exact q2 _ hq rfl rfl rfl rfl rfl
end
def EE(E:List dW):bP:=fun u v w=> ∃e∈E,e.fz1=(u:Int)/\e.aq=(v:Int)/\e.wt=(w:Int)
abbrev B2(l:List cH)(n:Nat):aY:=⟨wo l,n*1,1,3,true,true,0,true⟩
def lE(b n:Nat)(i:Nat):List Value:=(List.range i).map fun j=>tb (b+j) n n
def gd(b n i:Nat):List Value:=lE b n i++List.replicate (n - i) az
theorem oM(b n i:Nat):(lE b n i).length=i:=by simp[lE]
theorem oL(b n i:Nat):lE b n (i+1)=lE b n i++[tb (b+i) n n]:=by simp[lE,List.range_succ]
theorem H8{b n i:Nat}(h:i<n):(gd b n n)[i]? =some (tb (b+i) n n):=by
 unfold gd lE
 rw[List.getElem?_append_left (by simpa using h),List.getElem?_map,List.getElem?_range h];rfl
theorem Lr{b n i:Nat}(h:i<=n):(gd b n i).length=n:=by simp[gd,lE];omega
theorem EW{b n i:Nat}(h:i<n):gd b n i=lE b n i++az::List.replicate (n - (i+1)) az:=by
 unfold gd
 obtain⟨m,hm⟩: ∃m,n - i=m+1:=⟨n - i - 1,by omega⟩
 rw[hm,show n - (i+1)=m by omega];rfl
theorem H7{b n i:Nat}:gd b n (i+1)=lE b n i++tb (b+i) n n::List.replicate (n - (i+1)) az:=by
 unfold gd
 rw[oL,List.append_assoc];rfl
theorem lW{σ:Nat->Option Nat}: ∀{a a' b b':List Value},br σ a=some a'->br σ b=some b'->br σ (a++b)=some (a'++b')
 |[],a',b,b',h1,h2=>by simp only[br,Option.some.injEq] at h1;subst h1;exact h2
 |v::a,a',b,b',h1,h2=>by
  simp only[br] at h1
  split at h1
  ·rename_i k q1
   split at h1
   ·rename_i m q3
    cases h1
    simp only[List.cons_append,br,q1,lW q3 h2]
   ·cases h1
  ·cases h1
theorem oX{σ:Nat->Option Nat}{b n:Nat}: ∀{i:Nat},(∀j,j<i->σ (256*(b+j)+510)=some (256*(b+j)+510))->br σ (lE b n i)=some (lE b n i)
 |0,_=>rfl
 |i+1,h=>by
  rw[oL]
  refine lW (oX fun j hj=>h j (by omega)) ?_
  have:=h i (Nat.lt_succ_self i)
  simp only[br,aT,this]
theorem nZ(m:Nat):bA (List.replicate m az)=true:=by
 rw[cQ];intro v hv;rw[List.eq_of_mem_replicate hv];rfl
theorem JZ{σ:Nat->Option Nat}{b n i:Nat}(h: ∀j,j<i->σ (256*(b+j)+510)=some (256*(b+j)+510)):br σ (gd b n i)=some (gd b n i):=lW (oX h) (eS (nZ _))
theorem CF(σ:bk)(k:Nat):sig σ (256*k+510)=some (256*k+510):=iz (by unfold cC;omega)
theorem lU(σ:bk)(b n i c:Nat):aG (ay σ []) (aa.ak (aY.mk (gd b n i) c 1 138 true true 0 true))=some (aa.ak (aY.mk (gd b n i) c 1 138 true true 0 true)):=by
 have:=JZ (σ:=ay σ []) (b:=b) (n:=n) (i:=i) fun j _=>CF σ _
 simp only[aG,this]
structure A7(b n:Nat)(L:List nz)(z1:T aa)(i:Nat)(zz:T aa):Prop where
 bL:ax zz (b+i)
 ia: ∀k,k<b->zz.get k=z1.get k
 row: ∀j,j<i-> ∃l,Dfφ L n j l/\zz.get (b+j)=some (.ak (B2 l n))
structure A6(z:T aa)(zn n:Nat)(E:bP)(s:dN):Prop where
 bL:ax s.z s.zn
 le:zn<=s.zn
 ia: ∀k,k<zn->s.z.get k=z.get k
 row: ∃b,zn<=b/\b+n<=s.zn/\s.cs=gd b n n/\ ∀i,i<n-> ∃l,s.z.get (b+i)=some (.ak (B2 l n))/\l.length=n/\ ∀j,j<n->lC E i j (eM l j).len
section
variable{z:T aa}{zn:Nat}
theorem RR{n:Nat}{E:List dW}(hE:FC n E){s:nM}(h:Fx z zn E E.length s){zz:T aa}(hzz: ∀k,k<s.zn->zz.get k=s.z.get k)(zm:Nat):Ve zz zm n s.l:=by
 refine⟨fun x hx=>?_,fun x hx=>?_⟩
 ·obtain⟨k1,k2,k3,_⟩:=h.row x hx
  exact⟨_,(hzz _ k2).trans k3,rfl⟩
 ·obtain⟨k1,k2,k3,k4,k5,k6⟩:=h.row x hx
  refine⟨Nat.le_trans k5 hE.len,fun e he=>?_⟩
  obtain⟨m1,m2,m3,m4,m5,m6⟩:=hE.ok e (k6 e he)
  exact⟨m3,m4,m5,m6⟩
theorem Om{E:List dW}{s:nM}(h:Fx z zn E E.length s):GE s.l=EE E:=by
 funext u v w
 apply propext
 unfold GE EE
 rw[h.lA,List.take_of_length_le (Nat.le_refl _)]
 constructor
 ·rintro⟨e,he,h1,h2⟩
  rw[List.mem_filter] at he
  exact⟨e,he.1,by simpa using he.2,h1,h2⟩
 ·rintro⟨e,he,h0,h1,h2⟩
  exact⟨e,List.mem_filter.2 ⟨he,by simpa using h0⟩,h1,h2⟩
theorem KR(n:Nat)(hn:n<=64)(E:List dW)(hE:FC n E)(s:nM)(hs:Fx z zn E E.length s):
 ai prog (ah (ag f183) 0) 3 35 (zQ n 0) [(1,Ee s.l),(2,sT (rep n [az]) n)] 3 s.z s.zn (Al.R (SB n s.l.length (eD 0 s.l) (rep n [az]) s.z s.zn (fun r=> ∃zz,A7 s.zn n s.l s.z n zz/\r=⟨gd s.zn n n,zz,s.zn+n⟩)).l):=by
 have e0:rep n [az]=gd s.zn n 0:=by rw[mP n [az] rfl];simp[gd,lE]
 rw[e0]
 refine an hD (cO T.leaf) (α:=Nat × T aa) 3 35 3 (fun t=>t.1<=n/\A7 s.zn n s.l s.z t.1 t.2) (fun t=>zQ n t.1) (fun t=>[(1,Ee s.l),(2,sT (gd s.zn n t.1) n)]) (fun t=>t.2) (fun t=>s.zn+t.1) (fun t=>n - t.1) _ (fun t hI=>?_) (0,s.z) ⟨Nat.zero_le _,hs.bL,fun _ _=>rfl,fun j hj=>by omega⟩
 obtain⟨i,zz⟩:=t
 obtain⟨h1,h2⟩:=hI
 simp only at h1 h2 ⊢
 have hfr:=h2.bL
 by_cases hi:i<n
 ·have hc:decide ((i:Int)<(n:Int))=true:=by simp;omega
  have hL:=RR hE hs (zz:=zz) h2.ia (s.zn+i)
  have hlab:=IG hfr s.l n i hL hn hi
  have hlen: ∀l,Dfφ s.l n i l->A1 zz (s.zn+i) 213 [aU 0 n n] [(0,jM (aR l) n)] 1 2 (aU 1 n n) [(1,EA (vg (aR l)) n)]:=fun l hl=>PN hfr l n hl.1 (by omega)
  have o1:=o9 (cs:=gd s.zn n i) (i:=i) (by rw[Lr h1];exact hi) (aU 4 n n)
  have e1:(gd s.zn n i).set i (aU 4 n n)=lE s.zn n i++aU 4 n n::List.replicate (n - (i+1)) az:=by
   rw[EW hi,List.set_append_right _ _ (by rw[oM];exact Nat.le_refl _),oM,Nat.sub_self,List.set_cons_zero]
  rw[e1] at o1
  have l1:(lE s.zn n i++aU 4 n n::List.replicate (n - (i+1)) az).length<=n*1:=by simp[oM];omega
  have r1: ∀(σ:Nat->Option Nat) l c,aG σ (aa.ak (aY.mk (vg (aR l)) c 1 3 true true 0 true))=some (aa.ak (aY.mk (vg (aR l)) c 1 3 true true 0 true)):=fun σ l c=>by
   rw[na];exact lV (kR (·.len) l) c
  have r2: ∀o,aG (ay [(1,1),(2,2)] [(s.zn+i,4,o)]) (aa.map (eD 0 s.l) s.l.length)=some (aa.map (eD 0 s.l) s.l.length):=fun o=>Gq (fun x hx=>mN (by have:=(hs.row x hx).2.1;omega)) _
  have r3: ∀o c,aG (ay [(1,1),(2,2)] [(s.zn+i,4,o)]) (aa.ak (aY.mk (lE s.zn n i++tb (s.zn+i) n n::List.replicate (n - (i+1)) az) c 1 138 true true 0 true))=some (aa.ak (aY.mk (lE s.zn n i++aU 4 n n::List.replicate (n - (i+1)) az) c 1 138 true true 0 true)):=fun o c=>by
   have q1:=oX (σ:=ay [(1,1),(2,2)] [(s.zn+i,4,o)]) (b:=s.zn) (n:=n) (i:=i) fun j hj=>mN (by omega)
   have q2:br (ay [(1,1),(2,2)] [(s.zn+i,4,o)]) (tb (s.zn+i) n n::List.replicate (n - (i+1)) az)=some (aU 4 n n::List.replicate (n - (i+1)) az):=by
    have:=oY (σ:=[(1,1),(2,2)]) (k:=s.zn+i) (c:=4) (n:=n) (m:=n) (o:=o)
    simp only[br,this,eS (nZ _)]
   simp only[aG,lW q1 q2]
  have nx: ∀l,Dfφ s.l n i l->aj (fun t:Nat × T aa=>t.1<=n/\A7 s.zn n s.l s.z t.1 t.2) (fun t=>zQ n t.1) (fun t=>[(1,Ee s.l),(2,sT (gd s.zn n t.1) n)]) 3 (fun t=>t.2) (fun t=>s.zn+t.1) (fun t=>n - t.1) (Al.R (SB n s.l.length (eD 0 s.l) (gd s.zn n 0) s.z s.zn (fun r=> ∃zz,A7 s.zn n s.l s.z n zz/\r=⟨gd s.zn n n,zz,s.zn+n⟩)).l) (i,zz) .normal (zQ n (i+1)) [(1,Ee s.l),(2,sT (lE s.zn n i++tb (s.zn+i) n n::List.replicate (n - (i+1)) az) n)] 3 (jd zz [(s.zn+i,4, .ak (aY.mk (vg (aR l)) (n*1) 1 3 true true 0 true))]) (s.zn+i+1):=fun l hl=>by
   refine⟨(i+1,zz.set (s.zn+i) (.ak (B2 l n))),rfl,by simp only[H7],rfl,by simp only[jd,na],by simp only;omega,⟨hi,?_⟩,by show n - (i+1)<n - i;omega⟩
   show A7 s.zn n s.l s.z (i+1) (zz.set (s.zn+i) (.ak (B2 l n)))
   refine⟨?_,fun k hk=>?_,fun j hj=>?_⟩
   ·have:=iT hfr (k:=B2 l n) (kR (·.len) l)
    exact this
   ·rw[T.aK,if_neg (by omega)];exact h2.ia k hk
   ·by_cases e:j=i
    ·subst e;exact⟨l,hl,by rw[T.aK,if_pos rfl]⟩
    ·obtain⟨l',k1,k2⟩:=h2.row j (by omega)
     exact⟨l',k1,by rw[T.aK,if_neg (by omega)];exact k2⟩
  refine t100 (Z1 zz (s.zn+i) n i s.l.length (eD 0 s.l) (lE s.zn n i) (List.replicate (n - (i+1)) az) (gd s.zn n i) vg (Dfφ s.l n i) (aj _ _ _ _ _ _ _ _ _) ⟨fun _=>?_,nC1 hc⟩)
  (repeat' first|(with_reducible first|exact rfl|assumption|apply And.intro|exact hlen _ ‹_›|exact r1 _ _ _|exact r2 _|exact r3 _ _|exact xo _ _ _|exact jf _ _|exact Nat.le_refl _|exact Nat.lt_succ_self _|exact bK (by omega))|exact Nat.le_succ _|intro hq)
  all_goals exact nx _ (by with_reducible assumption)
 ·have hie:i=n:=by omega
  subst hie
  have hc:decide ((i:Int)<(i:Int))=false:=by simp
  refine t100 (Z1 zz (s.zn+i) i i s.l.length (eD 0 s.l) [] [] (gd s.zn i i) vg (fun _=>False) (aj _ _ _ _ _ _ _ _ _) ⟨nC1 hc,fun _=>?_⟩)
  (repeat' first|(with_reducible first|exact rfl|assumption|apply And.intro|exact lU _ _ _ _ _))
  exact Cs (k:=fun _=>eh) ⟨gd s.zn i i,zz,s.zn+i⟩ ⟨zz,h2,rfl⟩ rfl
theorem Tg(hz:ax z zn)(n:Nat)(hn:n<=64)(E:List dW)(hE:FC n E):
 bB prog z zn 183 [iv n,aU 0 E.length E.length] [(0,nv (bu E) E.length)] 1 2 (A6 z zn n (EE E)) (fun _=> .tuple ⟨[aU 1 n n,I 0]⟩) (fun s=>[(1,sT s.cs n)]) (fun s=>s.z) (fun s=>s.zn):=by
 have hck:=IK hz n hn E hE
 have hnb:=Xj hz E hE.len
 have hal: ∀s,Fx z zn E E.length s->_:=fun s hs=>KR n hn E hE s hs
 have hp:bA (rep n [az])=true:=by rw[mP n [az] rfl];exact nZ n
 have r0: ∀σ c,aG σ (aa.ak (aY.mk (rep n [az]) c 1 138 true true 0 true))=some (aa.ak (aY.mk (rep n [az]) c 1 138 true true 0 true)):=fun σ c=>cN hp
 have fin: ∀s,Fx z zn E E.length s-> ∀r:dN,(∃zz,A7 s.zn n s.l s.z n zz/\r=⟨gd s.zn n n,zz,s.zn+n⟩)->A6 z zn n (EE E) r:=fun s hs r ⟨zz,h,e⟩=>by
  subst e
  have hle:=hs.zn
  refine⟨h.bL,by show zn<=s.zn+n;omega,fun k hk=>(h.ia k (by omega)).trans (hs.ia k hk),s.zn,by omega,Nat.le_refl _,rfl,fun i hi=>?_⟩
  obtain⟨l,hl,hg⟩:=h.row i hi
  refine⟨l,hg,hl.1,fun j hj=>?_⟩
  rw[←Om hs];exact hl.2 j hj
 have J5: ∀σ s,Fx z zn E E.length s-> ∀r:dN,(∃zz,A7 s.zn n s.l s.z n zz/\r=⟨gd s.zn n n,zz,s.zn+n⟩)-> ∀c,aG (ay σ []) (aa.ak (aY.mk r.cs c 1 138 true true 0 true))=some (aa.ak (aY.mk r.cs c 1 138 true true 0 true)):=fun σ s hs r ⟨zz,h,e⟩ c=>by
  subst e;exact lU _ _ _ _ _
 refine fJ (cO T.leaf) (fn:=f183) (by kernel_rfl) (by kernel_rfl) hz ⟨by decide,by decide⟩ (fun s hs=>⟨rfl,hs.le,hs.bL⟩) (N:=100) ?_
 refine al z zn n E.length (bu E) (rep n [az]) (Fx z zn E E.length) (fun s r=> ∃zz,A7 s.zn n s.l s.z n zz/\r=⟨gd s.zn n n,zz,s.zn+n⟩) _ ?_
 (repeat' first|(with_reducible first|exact rfl|assumption|apply And.intro|exact Fx.bL ‹_›|exact A6.bL (fin _ ‹_› _ ‹_›)|exact J5 _ _ ‹_› _ ‹_› _|exact r0 _ _|exact jg _ _|exact xo _ _ _|exact gn _ _ _|exact(by omega:n<=1048576))|exact hal _ (by with_reducible assumption)|intro hq)
 all_goals exact q2 _ (fin _ (by with_reducible assumption) _ hq) rfl rfl rfl rfl rfl
end
structure mJ(n:Nat)(l:List ae):Prop where
 ok: ∀p∈l,0<=p.fz1/\p.fz1<n/\0<=p.aq/\p.aq<n/\p.fz1≠p.aq/\1<=p.aH/\p.aH<=14400
def eP(b:Bool)(p:ae):Bool:= !b||p.sf
structure Jg(n:Nat)(l:List ae)(b:Bool)(j:Nat)(B:List fO):Prop where
 keys:(B.map fun x=>(x.1,x.2.1)).Nodup
 sub: ∀x∈B,∃p∈l.take j,eP b p=true/\p.fz1=x.1/\p.aq=x.2.1/\p.aH=x.2.2
 all: ∀p∈l.take j,eP b p=true-> ∃x∈B,x.1=p.fz1/\x.2.1=p.aq/\x.2.2<=p.aH
theorem py(B:List fO)(f t:Int): ∀i j,(∃p x,aA prog 217 (.agg ⟨[zv f,zv t,F0]⟩) (gf j B) i=some (some (p,zv x.2.2))/\x∈B/\x.1=f/\x.2.1=t/\i<=p/\B[p - i]? =some x)\/(aA prog 217 (.agg ⟨[zv f,zv t,F0]⟩) (gf j B) i=some none/\ ∀x∈B,¬(x.1=f/\x.2.1=t)):=by
 induction B with
 |nil=>intro i j;exact .inr ⟨rfl,fun x hx=>by cases hx⟩
 |cons y l ih=>
  intro i j
  simp only[gf,aA,show au (DB y)=true from rfl,HQ]
  by_cases h:f=y.1/\t=y.2.1
  ·obtain⟨h1,h2⟩:=h
   refine .inl ⟨i,y,by simp[h1,h2],List.mem_cons_self ..,h1.symm,h2.symm,Nat.le_refl _,by simp⟩
  ·have hd:(decide (f=y.1) && (decide (t=y.2.1) && (false==false)))=false:=by
    by_cases h1:f=y.1
    ·have h2: ¬t=y.2.1:=fun e=>h ⟨h1,e⟩
     simp[h2]
    ·simp[h1]
   rw[hd]
   rcases ih (i+1) (j+1) with ⟨p,x,q1,q2,q3,q4,q5,q6⟩|⟨q1,q2⟩
   ·refine .inl ⟨p,x,q1,List.mem_cons_of_mem _ q2,q3,q4,by omega,?_⟩
    rw[show p - i=(p - (i+1))+1 by omega,List.getElem?_cons_succ];exact q6
   ·refine .inr ⟨q1,fun x hx=>?_⟩
    rcases List.mem_cons.1 hx with rfl|hx
    ·exact fun⟨e1,e2⟩=>h ⟨e1.symm,e2.symm⟩
    ·exact q2 x hx
theorem Th(B:List fO)(f t:Int):aA prog 217 (.agg ⟨[zv f,zv t,F0]⟩) (gf 0 B) 0≠none:=by
 rcases py B f t 0 0 with ⟨p,x,q,_⟩|⟨q,_⟩<;>rw[q]<;>simp
theorem Ti(B:List fO)(f t:Int)(p:Nat × Value)(h:aA prog 217 (.agg ⟨[zv f,zv t,F0]⟩) (gf 0 B) 0=some (some p)): ∃x:Nat × Int,p=(x.1,zv x.2):=by
 rcases py B f t 0 0 with ⟨q,x,e,_⟩|⟨e,_⟩
 ·rw[e] at h;cases h;exact⟨(q,x.2.2),rfl⟩
 ·rw[e] at h;cases h
theorem Co{B:List fO}{f t:Int}{y:Nat × Int}(h:aA prog 217 (.agg ⟨[zv f,zv t,F0]⟩) (gf 0 B) 0=some (some (y.1,zv y.2))):B[y.1]? =some (f,t,y.2):=by
 rcases py B f t 0 0 with ⟨q,x,e,h1,h2,h3,_,h5⟩|⟨e,_⟩
 ·rw[e] at h
  simp only[Option.some.injEq,Prod.mk.injEq,Value.int.injEq,true_and] at h
  rw[Nat.sub_zero] at h5
  rw[←h.1,h5,←h.2,←h2,←h3]
 ·rw[e] at h;cases h
theorem AN: ∀(l:List fO)(i:Nat)(x:fO),gf i (l++[x])=gf i l++[{key:=DB x,val:=zv x.2.2,born:=i+l.length}]
 |[],i,x=>rfl
 |a::l,i,x=>by
  simp only[List.cons_append,gf,AN l (i+1) x,List.length_cons]
  rw[show i+1+l.length=i+(l.length+1) by omega]
theorem xX: ∀(l:List fO)(i j:Nat)(x y:fO),l[i]? =some y->cU i (DB x) (zv x.2.2) (gf j l)=gf j (l.set i x)
 |[],i,j,x,y,h=>by simp at h
 |a::l,0,j,x,y,h=>rfl
 |a::l,i+1,j,x,y,h=>by
  simp only[List.getElem?_cons_succ] at h
  simp only[gf,cU,List.set_cons_succ,xX l i (j+1) x y h]
theorem DC: ∀(l:List fO)(i j:Nat)(x:fO),l[i]? =some x->nth (gf j l) i=some {key:=DB x,val:=zv x.2.2,born:=j+i}
 |[],i,j,x,h=>by simp at h
 |a::l,0,j,x,h=>by
  simp only[List.getElem?_cons_zero,Option.some.injEq] at h
  subst h;rfl
 |a::l,i+1,j,x,h=>by
  simp only[List.getElem?_cons_succ] at h
  simp only[gf,nth,DC l i (j+1) x h]
  rw[show j+1+i=j+(i+1) by omega]
theorem DD: ∀(l:List fO)(j:Nat),(gf j l).length=l.length
 |[],_=>rfl
 |a::l,j=>by simp[gf,DD l (j+1)]
theorem xY: ∀{l:List fO} {j:Nat} {e:MapEntry},e∈gf j l-> ∃i x,l[i]? =some x/\e={key:=DB x,val:=zv x.2.2,born:=j+i}
 |[],_,_,h=>by simp[gf] at h
 |a::l,j,e,h=>by
  rcases List.mem_cons.1 h with rfl|h
  ·exact⟨0,a,rfl,rfl⟩
  ·obtain⟨i,x,h1,h2⟩:=xY h
   exact⟨i+1,x,h1,by rw[h2,show j+1+i=j+(i+1) by omega]⟩
theorem PW{l:List fO}{j i:Nat}{x:fO}(h:l[i]? =some x):{key:=DB x,val:=zv x.2.2,born:=j+i}∈gf j l:=by
 induction l generalizing j i with
 |nil=>simp at h
 |cons a l ih=>
  cases i with
  |zero=>simp at h;subst h;exact List.mem_cons_self ..
  |succ i=>
   simp only[List.getElem?_cons_succ] at h
   have:=ih (j:=j+1) h
   rw[show j+1+i=j+(i+1) by omega] at this
   exact List.mem_cons_of_mem _ this
theorem qX: ∀{l:List fO} {j i:Nat} {x:fO},l[i]? =some x->eU (j+i) (gf j l)=some {key:=DB x,val:=zv x.2.2,born:=j+i}
 |[],j,i,x,h=>by simp at h
 |a::l,j,0,x,h=>by
  simp only[List.getElem?_cons_zero,Option.some.injEq] at h
  subst h
  have:Nat.beq j (j+0)=true:=Nat.beq_refl _
  simp only[gf,eU,this];rfl
 |a::l,j,i+1,x,h=>by
  simp only[List.getElem?_cons_succ] at h
  have:Nat.beq j (j+(i+1))=false:=by
   cases e:Nat.beq j (j+(i+1)) with
   |false=>rfl
   |true=>have:=Nat.eq_of_beq_eq_true e;omega
  have ih:=qX (j:=j+1) h
  rw[show j+1+i=j+(i+1) by omega] at ih
  simp only[gf,eU,this,ih]
theorem rV{σ:Nat->Option Nat}: ∀{l:List fO} (j:Nat),gp σ (gf j l)=some (gf j l)
 |[],_=>rfl
 |x::l,j=>by
  have h1:aT σ (DB x)=some (DB x):=rfl
  have h2:aT σ (zv x.2.2)=some (zv x.2.2):=rfl
  simp only[gf,gp,h1,h2,rV (l:=l) (j+1)]
theorem xp{σ:Nat->Option Nat}(l:List fO)(c:Nat):aG σ (aa.map (gf 0 l) c)=some (aa.map (gf 0 l) c):=by
 simp only[aG,rV 0]
theorem J0{σ:Nat->Option Nat}(l:List fO)(i:Nat)(f t v:Int)(c:Nat):aG σ (aa.map (cU i (.agg ⟨[zv f,zv t,F0]⟩) (zv v) (gf 0 l)) c)=some (aa.map (cU i (.agg ⟨[zv f,zv t,F0]⟩) (zv v) (gf 0 l)) c):=by
 have:=nT (σ:=σ) (k:= .agg ⟨[zv f,zv t,F0]⟩) (k':= .agg ⟨[zv f,zv t,F0]⟩) (v:=zv v) (v':=zv v) rfl rfl i (rV (l:=l) 0)
 simp only[aG,this]
theorem J1{σ:Nat->Option Nat}(l:List fO)(f t v:Int)(b c:Nat):aG σ (aa.map (gf 0 l++[MapEntry.mk (.agg ⟨[zv f,zv t,F0]⟩) (zv v) b]) c)=some (aa.map (gf 0 l++[MapEntry.mk (.agg ⟨[zv f,zv t,F0]⟩) (zv v) b]) c):=by
 have h1:aT σ (.agg ⟨[zv f,zv t,F0]⟩)=some (.agg ⟨[zv f,zv t,F0]⟩):=rfl
 have h2:aT σ (zv v)=some (zv v):=rfl
 have:=te (rV (σ:=σ) (l:=l) 0) (b:=[MapEntry.mk (.agg ⟨[zv f,zv t,F0]⟩) (zv v) b]) (b':=[MapEntry.mk (.agg ⟨[zv f,zv t,F0]⟩) (zv v) b]) (by simp only[gp,h1,h2])
 simp only[aG,this]
theorem K1{B:List fO}{i:Nat}{f t v:Int}(h:B[i]? =some (f,t,v)):xa (gf 0 B) i (.agg ⟨[zv f,zv t,F0]⟩):=by
 refine⟨_,DC B i 0 _ h,?_⟩
 show(au (DB (f,t,v)) && Instr.sameBits 10000 (DB (f,t,v)) (.agg ⟨[zv f,zv t,F0]⟩))=true
 simp[au,bA,Instr.sameBits]
theorem DA{n:Nat}{l:List ae}{b:Bool}{j:Nat}{B:List fO}(h:Jg n l b j B){x:ae}(hx:l[j]? =some x)(hs:eP b x=true-> ∃y∈B,y.1=x.fz1/\y.2.1=x.aq/\y.2.2<=x.aH):Jg n l b (j+1) B:=by
 have htk:l.take (j+1)=l.take j++[x]:=by rw[List.take_add_one,hx];rfl
 refine⟨h.keys,fun y hy=>?_,fun p hp hu=>?_⟩
 ·obtain⟨p,q1,q2⟩:=h.sub y hy
  exact⟨p,by rw[htk];exact List.mem_append_left _ q1,q2⟩
 ·rw[htk] at hp
  rcases List.mem_append.1 hp with q|q
  ·exact h.all p q hu
  ·simp at q;subst q;exact hs hu
theorem PV{n:Nat}{l:List ae}{b:Bool}{j:Nat}{B:List fO}(h:Jg n l b j B){x:ae}(hx:l[j]? =some x)(hu:eP b x=true)(hn: ∀y∈B,¬(y.1=x.fz1/\y.2.1=x.aq)):Jg n l b (j+1) (B++[(x.fz1,x.aq,x.aH)]):=by
 have htk:l.take (j+1)=l.take j++[x]:=by rw[List.take_add_one,hx];rfl
 refine⟨?_,fun y hy=>?_,fun p hp hu'=>?_⟩
 ·rw[List.map_append,List.nodup_append]
  refine⟨h.keys,by simp,fun a ha c hc=>?_⟩
  simp only[List.map_cons,List.map_nil,List.mem_singleton] at hc
  subst hc
  obtain⟨y,y1,y2⟩:=List.mem_map.1 ha
  intro e
  rw[←y2] at e
  simp only[Prod.mk.injEq] at e
  exact hn y y1 e
 ·rcases List.mem_append.1 hy with q|q
  ·obtain⟨p,q1,q2⟩:=h.sub y q
   exact⟨p,by rw[htk];exact List.mem_append_left _ q1,q2⟩
  ·simp at q;subst q
   exact⟨x,by rw[htk];simp,hu,rfl,rfl,rfl⟩
 ·rw[htk] at hp
  rcases List.mem_append.1 hp with q|q
  ·obtain⟨y,y1,y2⟩:=h.all p q hu'
   exact⟨y,List.mem_append_left _ y1,y2⟩
  ·simp at q;subst q
   exact⟨_,List.mem_append_right _ (List.mem_singleton.2 rfl),rfl,rfl,Int.le_refl _⟩
theorem LX{n:Nat}{l:List ae}{b:Bool}{j:Nat}{B:List fO}(h:Jg n l b j B){x:ae}(hx:l[j]? =some x)(hu:eP b x=true){i:Nat}{v:Int}(hi:B[i]? =some (x.fz1,x.aq,v))(hv:x.aH<v):Jg n l b (j+1) (B.set i (x.fz1,x.aq,x.aH)):=by
 have htk:l.take (j+1)=l.take j++[x]:=by rw[List.take_add_one,hx];rfl
 have hil:i<B.length:=(List.getElem?_eq_some_iff.1 hi).1
 have oe:(x.fz1,x.aq,x.aH)∈B.set i (x.fz1,x.aq,x.aH):=List.mem_set hil _
 refine⟨?_,fun y hy=>?_,fun p hp hu'=>?_⟩
 ·have e:(B.set i (x.fz1,x.aq,x.aH)).map (fun x=>(x.1,x.2.1))=B.map fun x=>(x.1,x.2.1):=ph (fun x:fO=>(x.1,x.2.1)) hi rfl
  exact e ▸ h.keys
 ·rcases List.mem_or_eq_of_mem_set hy with q|rfl
  ·obtain⟨p,q1,q2⟩:=h.sub y q
   exact⟨p,by rw[htk];exact List.mem_append_left _ q1,q2⟩
  ·exact⟨x,by rw[htk];simp,hu,rfl,rfl,rfl⟩
 ·rw[htk] at hp
  rcases List.mem_append.1 hp with q|q
  ·obtain⟨y,y1,y2,y3,y4⟩:=h.all p q hu'
   obtain⟨k,hk⟩:=List.mem_iff_getElem?.1 y1
   by_cases e:i=k
   ·subst e
    rw[hi] at hk
    cases hk
    exact⟨_,oe,y2,y3,by simp only at y4 ⊢;omega⟩
   ·exact⟨y,List.mem_iff_getElem?.2 ⟨k,by rw[List.getElem?_set,if_neg e];exact hk⟩,y2,y3,y4⟩
  ·simp at q;subst q
   exact⟨_,oe,rfl,rfl,Int.le_refl _⟩
theorem IU{n:Nat}(hn:n<=64){l:List ae}(hl:mJ n l){b:Bool}{j:Nat}{B:List fO}(h:Jg n l b j B):B.length<=4096:=by
 have hr: ∀x∈B,0<=x.1/\x.1<64/\0<=x.2.1/\x.2.1<64:=fun x hx=>by
  obtain⟨p,q1,_,q2,q3,_⟩:=h.sub x hx
  obtain⟨k1,k2,k3,k4,_⟩:=hl.ok p (List.mem_of_mem_take q1)
  omega
 have:(B.map fun x=>x.1.toNat*64+x.2.1.toNat).Nodup:=by
  have hk:=h.keys
  rw[List.nodup_iff_pairwise_ne] at hk ⊢
  rw[List.pairwise_map] at hk ⊢
  refine hk.imp_of_mem fun {x y} hx hy hxy e=>hxy ?_
  obtain⟨a1,a2,a3,a4⟩:=hr x hx
  obtain⟨b1,b2,b3,b4⟩:=hr y hy
  rw[Prod.mk.injEq]
  omega
 have:=pf 4096 _ this fun v hv=>by
  obtain⟨x,hx,rfl⟩:=List.mem_map.1 hv
  have:=hr x hx
  omega
 simpa using this
structure Ro(n:Nat)(l:List ae)(b:Bool)(E:List dW):Prop where
 ok:FC n E
 sub: ∀e∈E,∃p∈l,eP b p=true/\p.fz1=e.fz1/\p.aq=e.aq/\p.aH=e.wt
 all: ∀p∈l,eP b p=true-> ∃e∈E,e.fz1=p.fz1/\e.aq=p.aq/\e.wt<=p.aH
abbrev rI(x:fO):dW:=⟨x.1,x.2.1,x.2.2⟩
def rD(B:List fO)(E:List dW):Prop:=E.length=B.length/\ ∀e,e∈E↔ ∃x∈B,e=rI x
theorem IW{n:Nat}(hn:n<=64){l:List ae}(hl:mJ n l){b:Bool}{B:List fO}(h:Jg n l b l.length B){E:List dW}(hE:rD B E):Ro n l b E:=by
 have htk:l.take l.length=l:=List.take_of_length_le (Nat.le_refl _)
 have h1:=h.sub
 have h2:=h.all
 rw[htk] at h1 h2
 have sub: ∀e∈E,∃p∈l,eP b p=true/\p.fz1=e.fz1/\p.aq=e.aq/\p.aH=e.wt:=fun e he=>by
  obtain⟨x,hx,rfl⟩:=(hE.2 e).1 he
  exact h1 x hx
 refine⟨⟨by rw[hE.1];exact IU hn hl h,fun e he=>?_⟩,sub,fun p hp hu=>?_⟩
 ·obtain⟨p,q1,_,q2,q3,q4⟩:=sub e he
  obtain⟨k1,k2,k3,k4,_,k6,k7⟩:=hl.ok p q1
  omega
 ·obtain⟨x,x1,x2⟩:=h2 p hp hu
  exact⟨_,(hE.2 _).2 ⟨x,x1,rfl⟩,x2⟩
noncomputable def mB(b:Bool)(B:List fO)(x:ae):List fO:=if eP b x=true then (match aA prog 217 (.agg ⟨[zv x.fz1,zv x.aq,F0]⟩) (gf 0 B) 0 with
 |some (some (i, .int .i64 u))=>if x.aH<u then B.set i (x.fz1,x.aq,x.aH) else B
 |_=>B++[(x.fz1,x.aq,x.aH)]) else B
noncomputable def lj(b:Bool)(l:List ae)(j:Nat):List fO:=(l.take j).foldl (mB b) []
theorem AO{b:Bool}{l:List ae}{j:Nat}{x:ae}(hx:l[j]? =some x):lj b l (j+1)=mB b (lj b l j) x:=by
 unfold lj
 rw[List.take_add_one,hx,List.foldl_append];rfl
theorem rj{b:Bool}{B:List fO}{x:ae}(h:eP b x=false):mB b B x=B:=by
 unfold mB;rw[h];simp
theorem oD{b:Bool}{B:List fO}{x:ae}(h:eP b x=true){i:Nat}{v:Int}(hf:aA prog 217 (.agg ⟨[zv x.fz1,zv x.aq,F0]⟩) (gf 0 B) 0=some (some (i,zv v))):mB b B x=if x.aH<v then B.set i (x.fz1,x.aq,x.aH) else B:=by
 unfold mB;rw[if_pos h,hf]
theorem uB{b:Bool}{B:List fO}{x:ae}(h:eP b x=true)(hf:aA prog 217 (.agg ⟨[zv x.fz1,zv x.aq,F0]⟩) (gf 0 B) 0=some none):mB b B x=B++[(x.fz1,x.aq,x.aH)]:=by
 unfold mB;rw[if_pos h,hf]
theorem wU(B:List fO)(f t v:Int):gf 0 B++[MapEntry.mk (.agg ⟨[zv f,zv t,F0]⟩) (zv v) B.length]=gf 0 (B++[(f,t,v)]):=by
 rw[AN,Nat.zero_add]
section
variable{z:T aa}{zn:Nat}
theorem Hd(hz:ax z zn)(n:Nat)(hn:n<=64)(l:List ae)(hl:mJ n l)(hll:l.length<=10000)(cp:Nat)(hL:bW z 4 (l.map ae.row))(b:Bool):
 Jg n l b l.length (lj b l l.length)/\ai prog (ah (ag f123) 0) 1 81 (zN l.length cp n b 0) [(0, .map [] 0)] 1 z zn (Al.R (Su z zn l.length cp n b (lj b l l.length)).l):=by
 have inv: ∀j,j<=l.length->Jg n l b j (lj b l j):=by
  intro j
  induction j with
  |zero=>intro _;exact⟨by simp[lj],fun x hx=>(by simp[lj] at hx),fun p hp=>(by simp at hp)⟩
  |succ j ih=>
   intro hj
   obtain⟨x,hx⟩:=ez (by omega:j<l.length)
   have h:=ih (by omega)
   rw[AO hx]
   cases hu:eP b x with
   |false=>rw[rj hu];exact DA h hx fun q=>by rw[hu] at q;cases q
   |true=>
    rcases py (lj b l j) x.fz1 x.aq 0 0 with ⟨p,y,q1,q2,q3,q4,_,q6⟩|⟨q1,q2⟩
    ·rw[oD hu q1]
     rw[Nat.sub_zero] at q6
     split
     ·rename_i hlt
      exact LX h hx hu (i:=p) (v:=y.2.2) (by rw[q6,←q3,←q4]) hlt
     ·rename_i hlt
      exact DA h hx fun _=>⟨y,q2,q3,q4,by omega⟩
    ·rw[uB hu q1];exact PV h hx hu q2
 refine⟨inv _ (Nat.le_refl _),?_⟩
 refine an hD (cO T.leaf) (α:=Nat) 1 81 1 (fun j=>j<=l.length) (fun j=>zN l.length cp n b j) (fun j=>[(0,Tj (lj b l j))]) (fun _=>z) (fun _=>zn) (fun j=>l.length - j) _ (fun j hI=>?_) 0 (Nat.zero_le _)
 by_cases hj:j<l.length
 ·obtain⟨x,hx⟩:=ez hj
  obtain⟨el,hel⟩:=hL.ak (i:=j) (by simp;omega)
  have hrow:aC prog (bc el (l.map ae.row).flatten) 82 (0+j*4)=some (.agg ⟨x.row⟩):=bC (r:=x.row) (sz:=4) underlying82 rfl rfl (aM (row:=ae.row) (sz:=4) l fun _=>rfl) (by rw[List.getElem?_map,hx];rfl)
  have hc:decide ((j:Int)<(l.length:Int))=true:=by simp;omega
  have nx: ∀B',B'=lj b l (j+1)-> ∀es c,es=gf 0 B'->c=B'.length->aj (fun j=>j<=l.length) (fun j=>zN l.length cp n b j) (fun j=>[(0,Tj (lj b l j))]) 1 (fun _=>z) (fun _=>zn) (fun j=>l.length - j) (Al.R (Su z zn l.length cp n b (lj b l l.length)).l) j .normal (zN l.length cp n b (j+1)) [(0, .map es c)] 1 z zn:=fun B' h es c h1 h2=>by
   subst h h1 h2
   exact⟨j+1,rfl,rfl,rfl,rfl,rfl,hj,by show l.length - (j+1)<l.length - j;omega⟩
  have hsucc:=AO (b:=b) hx
  have skip:eP b x=false->lj b l j=lj b l (j+1):=fun h=>by rw[hsucc,rj h]
  have less:eP b x=true-> ∀y:Nat × Int,aA prog 217 (.agg ⟨[zv x.fz1,zv x.aq,F0]⟩) (gf 0 (lj b l j)) 0=some (some (y.1,zv y.2))->decide (x.aH<y.2)=true->(lj b l j).set y.1 (x.fz1,x.aq,x.aH)=lj b l (j+1):=fun h y hy hlt=>by rw[hsucc,oD h hy,if_pos (by simpa using hlt)]
  have more:eP b x=true-> ∀y:Nat × Int,aA prog 217 (.agg ⟨[zv x.fz1,zv x.aq,F0]⟩) (gf 0 (lj b l j)) 0=some (some (y.1,zv y.2))->decide (x.aH<y.2)=false->lj b l j=lj b l (j+1):=fun h y hy hlt=>by rw[hsucc,oD h hy,if_neg (by simpa using hlt)]
  have new:eP b x=true->aA prog 217 (.agg ⟨[zv x.fz1,zv x.aq,F0]⟩) (gf 0 (lj b l j)) 0=some none->lj b l j++[(x.fz1,x.aq,x.aH)]=lj b l (j+1):=fun h hy=>by rw[hsucc,uB h hy]
  have u1:b=true->x.sf=true->eP b x=true:=fun h1 h2=>by simp[eP,h2]
  have u2:b=false->eP b x=true:=fun h1=>by simp[eP,h1]
  have u3:b=true->x.sf=false->eP b x=false:=fun h1 h2=>by simp[eP,h1,h2]
  refine t100 (ZR z zn l.length cp n j (lj b l j).length b (bc el (l.map ae.row).flatten) x (gf 0 (lj b l j)) (aj _ _ _ _ _ _ _ _ _) ⟨fun _=>?_,nC1 hc⟩)
  (repeat' first|(with_reducible first|exact rfl|assumption|apply And.intro|exact Th _ _ _|exact Ti _ _ _|exact K1 (Co ‹_›)|exact xp _ _|exact J0 _ _ _ _ _ _|exact J1 _ _ _ _ _ _|exact bK (by omega))|intro hq)
  all_goals first
   |(rename_i h1 h2 y hy
     exact nx _ (less (u1 h1 h2) y hy hq) _ _ (xX _ y.1 0 (x.fz1,x.aq,x.aH) _ (Co hy)) (List.length_set ..).symm)
   |(rename_i h1 h2 y hy
     exact nx _ (more (u1 h1 h2) y hy hq) _ _ rfl rfl)
   |(rename_i h1 y hy
     exact nx _ (less (u2 h1) y hy hq) _ _ (xX _ y.1 0 (x.fz1,x.aq,x.aH) _ (Co hy)) (List.length_set ..).symm)
   |(rename_i h1 y hy
     exact nx _ (more (u2 h1) y hy hq) _ _ rfl rfl)
   |(rename_i h1 h2
     exact nx _ (new (u1 h1 h2) hq) _ _ (wU _ _ _ _) (by simp))
   |(rename_i h1
     exact nx _ (new (u2 h1) hq) _ _ (wU _ _ _ _) (by simp))
   |(rename_i h1
     exact nx _ (skip (u3 h1 hq)) _ _ rfl rfl)
 ·have hc:decide ((j:Int)<(l.length:Int))=false:=by simp;omega
  refine t100 (ZR z zn l.length cp n j (lj b l j).length b ⟨[],0,0,0,true,true,0,true⟩ ⟨0,0,0,true⟩ (gf 0 (lj b l j)) (aj _ _ _ _ _ _ _ _ _) ⟨nC1 hc,fun _=>?_⟩)
  (repeat' first|(with_reducible first|exact rfl|assumption|apply And.intro|exact xp _ _))
  have:j=l.length:=by omega
  subst this
  exact bw trivial
theorem SP(E F:List dW):bu E++bu F=bu (E++F):=by
 show _=((E++F).map dW.row).flatten
 rw[List.map_append,List.flatten_append]
theorem vM: ∀{l:List Nat},l.Nodup-> ∀{l':List Nat},(∀i∈l,i∈l')->l.length<=l'.length
 |[],_,_,_=>Nat.zero_le _
 |a::l,hn,l',h=>by
  have hn':=List.nodup_cons.1 hn
  have:=vM hn'.2 (l':=l'.erase a) fun i hi=>by
   have hne:i≠a:=fun e=>hn'.1 (e ▸ hi)
   exact(List.mem_erase_of_ne hne).2 (h i (List.mem_cons_of_mem _ hi))
  rw[List.length_erase_of_mem (h a (List.mem_cons_self ..))] at this
  have hp:0<l'.length:=List.length_pos_of_mem (h a (List.mem_cons_self ..))
  simp only[List.length_cons]
  omega
structure Rn(B:List fO)(E:List dW)(seen:List Nat):Prop where
 nd:seen.Nodup
 lt: ∀i∈seen,i<B.length
 len:E.length=seen.length
 mem: ∀e,e∈E↔ ∃i∈seen,∃x,B[i]? =some x/\e=rI x
theorem Ae{B:List fO}{E:List dW}{seen:List Nat}(h:Rn B E seen){i:Nat}{x:fO}(hi:B[i]? =some x)(hn:i ∉ seen):Rn B (E++[rI x]) (i::seen):=by
 refine⟨List.nodup_cons.2 ⟨hn,h.nd⟩,fun j hj=>?_,by simp[h.len],fun e=>?_⟩
 ·rcases List.mem_cons.1 hj with rfl|hj
  ·exact(List.getElem?_eq_some_iff.1 hi).1
  ·exact h.lt j hj
 ·rw[List.mem_append,h.mem]
  constructor
  ·rintro (⟨j,j1,j2⟩|he)
   ·exact⟨j,List.mem_cons_of_mem _ j1,j2⟩
   ·simp at he;exact⟨i,List.mem_cons_self ..,x,hi,he⟩
  ·rintro⟨j,j1,y,j2,j3⟩
   rcases List.mem_cons.1 j1 with rfl|j1
   ·rw[hi] at j2;cases j2;right;simp[j3]
   ·exact .inl ⟨j,j1,y,j2,j3⟩
theorem B0{B:List fO}{E:List dW}{seen:List Nat}(h:Rn B E seen):seen.length<=B.length:=pf _ _ h.nd h.lt
theorem K4{B:List fO}{E:List dW}{seen:List Nat}(h:Rn B E seen)(ha: ∀i,i<B.length->i∈seen):rD B E:=by
 have h1:=B0 h
 have h2:B.length<=seen.length:=by
  have:=vM (List.nodup_range (n:=B.length)) (l':=seen) fun i hi=>ha i (List.mem_range.1 hi)
  simpa using this
 refine⟨by rw[h.len];omega,fun e=>(h.mem e).trans ⟨fun⟨i,i1,x,i2,i3⟩=>⟨x,List.mem_of_getElem? i2,i3⟩,fun⟨x,x1,x2⟩=>?_⟩⟩
 obtain⟨i,hi⟩:=List.mem_iff_getElem?.1 x1
 exact⟨i,ha i (List.getElem?_eq_some_iff.1 hi).1,x,hi,x2⟩
theorem zW(hz:ax z zn)(n:Nat)(B:List fO)(hB:B.length<=4096):
 ai prog (ah (ag f123) 1) 3 81 (vc n 0 B.length) (uY B.length B.length (gf 0 B) (rep B.length [I 0,I 0,I 0]) []) 3 z zn (Al.R (Ss z zn n B.length B.length (gf 0 B) (rep B.length [I 0,I 0,I 0]) (rD B)).l):=by
 refine an hD (cO T.leaf) (α:=List dW × List Nat) 3 81 3 (fun t=>Rn B t.1 t.2) (fun t=>vc n t.2.length B.length) (fun t=>uY B.length B.length (gf 0 B) (bu t.1++rep (B.length - t.2.length) [I 0,I 0,I 0]) t.2) (fun _=>z) (fun _=>zn) (fun t=>B.length - t.2.length) _ (fun t hI=>?_) ([],[]) ⟨by simp,by simp,rfl,by simp⟩
 obtain⟨E,seen⟩:=t
 simp only at hI ⊢
 have hle:=B0 hI
 have cells: ∀E' m,bu E'++rep m [I 0,I 0,I 0]=bu (E'++List.replicate m (⟨0,0,0⟩:dW)):=fun E' m=>by
  rw[←SP,lT]
  congr 1
  show _=((List.replicate m (⟨0,0,0⟩:dW)).map dW.row).flatten
  rw[List.map_replicate];rfl
 have p0: ∀x∈gf 0 B,x.born<B.length:=fun e he=>by
  obtain⟨i,x,h1,h2⟩:=xY he
  rw[h2];have:=(List.getElem?_eq_some_iff.1 h1).1;simp only;omega
 have p1: ∀e,e∈gf 0 B->ku e.born seen=false-> ∃x:Nat × fO,(B[x.1]? =some x.2/\x.1 ∉ seen)/\e=TU x:=fun e he hs=>by
  obtain⟨i,x,h1,h2⟩:=xY he
  rw[h2] at hs
  simp only[Nat.zero_add] at hs
  refine⟨(i,x),⟨h1,fun hm=>?_⟩,by rw[h2,Nat.zero_add]⟩
  rw[iS.2 hm] at hs;cases hs
 have lt: ∀x:Nat × fO,(B[x.1]? =some x.2/\x.1 ∉ seen)->seen.length+1<=B.length:=fun x hx=>by
  have:=B0 (Ae hI hx.1 hx.2)
  simpa using this
 have bn: ∀x:Nat × fO,(B[x.1]? =some x.2/\x.1 ∉ seen)->eU x.1 (gf 0 B)=some (TU x):=fun x hx=>by
  have:=qX (j:=0) hx.1
  rw[Nat.zero_add] at this
  exact this
 have ov: ∀x:Nat × fO,(B[x.1]? =some x.2/\x.1 ∉ seen)->overwrite (bu E++rep (B.length - seen.length) [I 0,I 0,I 0]) (0+seen.length*3) (rI x.2).row=some (bu (E++[rI x.2])++rep (B.length - (seen.length+1)) [I 0,I 0,I 0]):=fun x hx=>by
  have hlt:=lt x hx
  rw[cells,cells]
  have:=tw (oU (E++List.replicate (B.length - seen.length) (⟨0,0,0⟩:dW))) (i:=seen.length) (by simp[hI.len];omega) (r':=(rI x.2).row) rfl
  rw[kS] at this
  refine this.trans ?_
  have:(E++List.replicate (B.length - seen.length) (⟨0,0,0⟩:dW)).set seen.length (rI x.2)=E++[rI x.2]++List.replicate (B.length - (seen.length+1)) (⟨0,0,0⟩:dW):=by
   rw[List.set_append_right _ _ (by rw[hI.len];exact Nat.le_refl _),hI.len,Nat.sub_self]
   obtain⟨m,hm⟩: ∃m,B.length - seen.length=m+1:=⟨B.length - seen.length - 1,by omega⟩
   rw[hm,show B.length - (seen.length+1)=m by omega,List.replicate_succ,List.set_cons_zero,List.append_assoc];rfl
  rw[this]
 have le3: ∀x:Nat × fO,(B[x.1]? =some x.2/\x.1 ∉ seen)->(bu (E++[rI x.2])++rep (B.length - (seen.length+1)) [I 0,I 0,I 0]).length<=B.length*3:=fun x hx=>by
  have hlt:=lt x hx
  rw[cells,vD];simp[hI.len];omega
 have rn: ∀(σ:Nat->Option Nat) E' m c,aG σ (aa.ak (aY.mk (bu E'++rep m [I 0,I 0,I 0]) c 3 262 true true 0 true))=some (aa.ak (aY.mk (bu E'++rep m [I 0,I 0,I 0]) c 3 262 true true 0 true)):=fun σ E' m c=>by
  rw[cells];exact cN (fW _)
 have mit: ∀s,aG (ay [(0,0),(1,1),(2,2)] []) (aa.dt (some 0) B.length s B.length)=some (aa.dt (some 0) B.length s B.length):=fun s=>rfl
 have nx: ∀x:Nat × fO,(B[x.1]? =some x.2/\x.1 ∉ seen)->aj (fun t:List dW × List Nat=>Rn B t.1 t.2) (fun t=>vc n t.2.length B.length) (fun t=>uY B.length B.length (gf 0 B) (bu t.1++rep (B.length - t.2.length) [I 0,I 0,I 0]) t.2) 3 (fun _=>z) (fun _=>zn) (fun t=>B.length - t.2.length) (Al.R (Ss z zn n B.length B.length (gf 0 B) (rep B.length [I 0,I 0,I 0]) (rD B)).l) (E,seen) .normal (vc n (seen.length+1) B.length) (uY B.length B.length (gf 0 B) (bu (E++[rI x.2])++rep (B.length - (seen.length+1)) [I 0,I 0,I 0]) (x.1::seen)) 3 z zn:=fun x hx=>
  ⟨(E++[rI x.2],x.1::seen),rfl,rfl,rfl,rfl,rfl,Ae hI hx.1 hx.2,by have:=lt x hx;show B.length - (seen.length+1)<B.length - seen.length;omega⟩
 refine t100 (ds1 z zn n seen.length B.length B.length (gf 0 B) (bu E++rep (B.length - seen.length) [I 0,I 0,I 0]) (fun x=>bu (E++[rI x.2])++rep (B.length - (seen.length+1)) [I 0,I 0,I 0]) seen (fun x=>B[x.1]? =some x.2/\x.1 ∉ seen) (aj _ _ _ _ _ _ _ _ _) ?_)
 (repeat' first|(with_reducible first|exact rfl|assumption|apply And.intro|exact bn _ ‹_›|exact lt _ ‹_›|exact ov _ ‹_›|exact le3 _ ‹_›|exact rn _ _ _ _|exact xp _ _|exact Nat.le_refl _)|exact nx _ (by with_reducible assumption)|intro hq)
 have hall: ∀i,i<B.length->i∈seen:=fun i hi=>by
  obtain⟨x,hx⟩:=ez hi
  have:=hq _ (PW (j:=0) hx)
  simp only[Nat.zero_add] at this
  exact iS.1 this
 have hE:=K4 hI hall
 have hsl:seen.length=B.length:=by rw[←hI.len];exact hE.1
 rw[hsl,Nat.sub_self,show rep 0 [I 0,I 0,I 0]=[] from rfl,List.append_nil]
 exact Cs (k:=fun _=>eh) E hE rfl
theorem Ch{P:Program}{f:Nat}{args:List Value}{aO:bO}{nx ey:Nat}{α:Type}{φ ψ:α->Prop}{v:α->Value}{zo:α->bO}{zz:α->T aa}{zn':α->Nat}(h:bB P z zn f args aO nx ey φ v zo zz zn')(hi: ∀x,φ x->ψ x)(hb: ∀x,ψ x->uU zn (zo x) (zz x) (zn' x)):bB P z zn f args aO nx ey ψ v zo zz zn':=
 ⟨h.1,h.2.1,h.2.2.1,hb,fun ρ w args' n h1 h2 h3 h4=>(h.2.2.2.2 ρ w args' n h1 h2 h3 h4).mono fun e w' ⟨x,hx,hg⟩=>⟨x,hi x hx,hg⟩⟩
def dD(z:T aa)(zn n:Nat)(l:List ae)(b:Bool)(s:dN):Prop:= ∃E,Ro n l b E/\A6 z zn n (EE E) s
theorem IN(hz:ax z zn)(n:Nat)(hn:n<=64)(l:List ae)(b:Bool)(E:List dW)(m:Nat)(hm:m=E.length)(hE:Ro n l b E):
 bB prog z zn 183 [iv n,aU 0 m m] [(0,nv (bu E) m)] 1 2 (dD z zn n l b) (fun _=> .tuple ⟨[aU 1 n n,I 0]⟩) (fun s=>[(1,sT s.cs n)]) (fun s=>s.z) (fun s=>s.zn):=by
 subst hm
 refine Ch (Tg hz n hn E hE.ok) (fun s hs=>⟨E,hE,hs⟩) fun s ⟨E,_,hs⟩=>⟨rZ rfl,hs.le,hs.bL⟩
theorem IH(hz:ax z zn)(n:Nat)(hn:n<=64)(l:List ae)(hl:mJ n l)(hll:l.length<=10000)(cp:Nat)(hL:bW z 4 (l.map ae.row))(b:Bool):
 bB prog z zn 123 [tb 4 l.length cp,iv n, .bool b] [] 0 1 (dD z zn n l b) (fun _=>aU 0 n n) (fun s=>[(0,sT s.cs n)]) (fun s=>s.z) (fun s=>s.zn):=by
 obtain⟨hB,h0⟩:=Hd hz n hn l hl hll cp hL b
 have hBl:=IU hn hl hB
 have h1:=zW hz n (lj b l l.length) hBl
 have hall: ∀E,rD (lj b l l.length) E->bB prog z zn 183 [iv n,aU 0 (lj b l l.length).length (lj b l l.length).length] [(0,nv (bu E) (lj b l l.length).length)] 1 2 (dD z zn n l b) (fun _=> .tuple ⟨[aU 1 n n,I 0]⟩) (fun s=>[(1,sT s.cs n)]) (fun s=>s.z) (fun s=>s.zn):=
  fun E hE=>IN hz n hn l b E _ hE.1.symm (IW hn hl hB hE)
 have hlen:((gf 0 (lj b l l.length)).length:Int)=((lj b l l.length).length:Int):=by rw[DD]
 have J5: ∀σ s,dD z zn n l b s-> ∀c,aG (ay σ []) (aa.ak (aY.mk s.cs c 1 138 true true 0 true))=some (aa.ak (aY.mk s.cs c 1 138 true true 0 true)):=fun σ s ⟨E,_,h⟩ c=>by
  obtain⟨b,_,_,h,_⟩:=h.row
  rw[h];exact lU _ _ _ _ _
 have rcs': ∀σ s,dD z zn n l b s-> ∀c,aG (sig σ) (aa.ak (aY.mk s.cs c 1 138 true true 0 true))=some (aa.ak (aY.mk s.cs c 1 138 true true 0 true)):=J5
 have bL: ∀s,dD z zn n l b s->ax s.2 s.zn:=fun s ⟨E,_,h⟩=>h.bL
 have r0: ∀σ m c,aG σ (aa.ak (aY.mk (rep m [I 0,I 0,I 0]) c 3 262 true true 0 true))=some (aa.ak (aY.mk (rep m [I 0,I 0,I 0]) c 3 262 true true 0 true)):=fun σ m c=>cN (by
  have e:rep m [I 0,I 0,I 0]=bu (List.replicate m (⟨0,0,0⟩:dW)):=by
   rw[lT]
   show _=((List.replicate m (⟨0,0,0⟩:dW)).map dW.row).flatten
   rw[List.map_replicate];rfl
  rw[e];exact fW _)
 refine fJ (cO T.leaf) (fn:=f123) (by kernel_rfl) (by kernel_rfl) hz ⟨by decide,by decide⟩ (fun s ⟨E,_,hs⟩=>⟨rfl,hs.le,hs.bL⟩) (N:=100) ?_
 refine ds z zn n l.length cp b (lj b l l.length) (rep (lj b l l.length).length [I 0,I 0,I 0]) (rD (lj b l l.length)) (dD z zn n l b) _ ?_
 (repeat' first|(with_reducible first|exact rfl|assumption|apply And.intro|exact hall _ ‹_›|exact bL _ ‹_›|exact J5 _ _ ‹_› _|exact rcs' _ _ ‹_› _|exact r0 _ _ _|exact xp _ _|exact jg _ _|exact Nat.zero_le _|exact(by omega:(lj b l l.length).length<=1048576))|exact(rfl:Int.ofNat _=_)|exact h0|exact h1|intro hq)
 all_goals exact q2 _ hq rfl rfl rfl rfl rfl
theorem LY(n:Nat)(b:Bool):Jg n [] b 0 []:=⟨by simp,fun x hx=>by simp at hx,fun p hp=>by simp at hp⟩
theorem Ew(hz:ax z zn)(n:Nat)(b:Bool):
 ai prog (ah (ag f123) 0) 1 81 (vZ n b) [(0, .map [] 0)] 1 z zn (Al.R (St z zn n b).l):=by
 refine an hD (cO T.leaf) (α:=Unit) 1 81 1 (fun _=>True) (fun _=>vZ n b) (fun _=>[(0, .map [] 0)]) (fun _=>z) (fun _=>zn) (fun _=>0) _ (fun _ _=>?_) () trivial
 refine t100 (Xh z zn n b (aj _ _ _ _ _ _ _ _ _) ?_)
 (repeat' first|(with_reducible first|exact rfl|assumption|apply And.intro))
 exact bw trivial
theorem Dw(hz:ax z zn)(n:Nat)(hn:n<=64)(b:Bool):
 bB prog z zn 123 [az,iv n, .bool b] [] 0 1 (dD z zn n [] b) (fun _=>aU 0 n n) (fun s=>[(0,sT s.cs n)]) (fun s=>s.z) (fun s=>s.zn):=by
 have hl:mJ n []:=⟨fun p hp=>by simp at hp⟩
 have h0:=Ew hz n b
 have h1:=zW hz n [] (by simp)
 have hall: ∀E,rD [] E->bB prog z zn 183 [iv n,aU 0 0 0] [(0, .ak (aY.mk (bu E) 0 3 262 true true 0 true))] 1 2 (dD z zn n [] b) (fun _=> .tuple ⟨[aU 1 n n,I 0]⟩) (fun s=>[(1,sT s.cs n)]) (fun s=>s.z) (fun s=>s.zn):=
  fun E hE=>IN hz n hn [] b E 0 hE.1.symm (IW hn hl (LY n b) hE)
 have J5: ∀σ s,dD z zn n [] b s-> ∀c,aG (ay σ []) (aa.ak (aY.mk s.cs c 1 138 true true 0 true))=some (aa.ak (aY.mk s.cs c 1 138 true true 0 true)):=fun σ s ⟨E,_,h⟩ c=>by
  obtain⟨b,_,_,h,_⟩:=h.row
  rw[h];exact lU _ _ _ _ _
 have rcs': ∀σ s,dD z zn n [] b s-> ∀c,aG (sig σ) (aa.ak (aY.mk s.cs c 1 138 true true 0 true))=some (aa.ak (aY.mk s.cs c 1 138 true true 0 true)):=J5
 have bL: ∀s,dD z zn n [] b s->ax s.2 s.zn:=fun s ⟨E,_,h⟩=>h.bL
 refine fJ (cO T.leaf) (fn:=f123) (by kernel_rfl) (by kernel_rfl) hz ⟨by decide,by decide⟩ (fun s ⟨E,_,hs⟩=>⟨rfl,hs.le,hs.bL⟩) (N:=100) ?_
 refine dsz z zn n b (rD []) (dD z zn n [] b) _ ?_
 (repeat' first|(with_reducible first|exact rfl|assumption|apply And.intro|exact hall _ ‹_›|exact bL _ ‹_›|exact J5 _ _ ‹_› _|exact rcs' _ _ ‹_› _|exact jg _ _)|exact h0|exact h1|intro hq)
 all_goals exact q2 _ hq rfl rfl rfl rfl rfl
end
structure lD(z0:T aa)(n0:Nat)(L:List ae)(s:ep):Prop where
 bL:ax s.z s.zn
 le:n0<=s.zn
 ia: ∀k,k<n0->s.z.get k=z0.get k
 val:(L=[]/\s.oa=none/\s.k=0)\/(L≠[]/\ ∃kk,n0<=kk/\kk<s.zn/\s.oa=some ⟨256*kk+510,0,none⟩/\s.k=L.length/\s.z.get kk=some (OT (L.map ae.row).flatten L.length))
def iu(L:List ae)(a b d:Int)(f:Bool):List ae:=if 0<d/\d<=14400 then L++[⟨a,b,d,f⟩] else L
theorem jk(L:List ae):bA (L.map ae.row).flatten=true:=kQ (row:=ae.row) (fun _=>rfl) L
theorem BB(L:List ae):(L.map ae.row).flatten.length=L.length*4:=by
 have:=kx (sz:=4) (rows:=L.map ae.row) (aM (row:=ae.row) (sz:=4) L fun _=>rfl)
 simpa using this
theorem jK(L:List ae)(x:ae):(L.map ae.row).flatten++x.row=((L++[x]).map ae.row).flatten:=by
 rw[List.map_append,List.flatten_append];simp
theorem sq(L:List ae)(a b d:Int)(f:Bool):(iu L a b d f).length<=L.length+1:=by
 unfold iu;split<;>simp
theorem CN{σ:bk}{k c n m:Nat}{o:aa}:aG (ay σ [(k,c,o)]) (oB (tb k n m))=some (oB (aU c n m)):=by
 have:=oY (σ:=σ) (k:=k) (c:=c) (n:=n) (m:=m) (o:=o)
 simp only[aG,br,this]
 rfl
theorem Bv{σ:Nat->Option Nat}(L:List ae)(x:ae)(c:Nat):aG σ (.ak (aY.mk ((L.map ae.row).flatten++x.row) c 4 82 false false 0 true))=some (.ak (aY.mk ((L.map ae.row).flatten++x.row) c 4 82 false false 0 true)):=cN (by
 rw[jK];exact jk _)
section
variable{z:T aa}{zn:Nat}
theorem MR(z0:T aa)(n0:Nat)(L:List ae)(hL:L.length<100000)(s:ep)(hs:lD z0 n0 L s)(a b d:Int)(f:Bool):
 bB prog s.z s.zn 124 [zv a,zv b,zv d, .bool f,ip 0] [(0,oB s.v)] 1 1 (fun s'=>lD z0 n0 (iu L a b d f) s'/\s.zn<=s'.zn) (fun _=> .tuple ⟨[]⟩) (fun s=>[(0,oB s.v)]) (fun s=>s.z) (fun s=>s.zn):=by
 obtain⟨oa,r,z,zn⟩:=s
 have hz:ax z zn:=hs.bL
 have hold:=hs.ia
 have hle:=hs.le
 simp only at hold hle
 have hin: ∀d,(decide (d>0)=true->decide (d<=14400)=true->0<d/\d<=(14400:Int)):=fun d h1 h2=>by simp at h1 h2;omega
 have no1:decide (d>0)=false->iu L a b d f=L:=fun h=>by
  unfold iu;rw[if_neg];simp at h;omega
 have no2:decide (d<=14400)=false->iu L a b d f=L:=fun h=>by
  unfold iu;rw[if_neg];simp at h;omega
 have yes:decide (d>0)=true->decide (d<=14400)=true->iu L a b d f=L++[⟨a,b,d,f⟩]:=fun h1 h2=>by
  unfold iu;rw[if_pos (hin d h1 h2)]
 refine fJ (cO T.leaf) (fn:=f124) (by kernel_rfl) (by kernel_rfl) hz ⟨by decide,by decide⟩ (fun s' hs'=>⟨rfl,hs'.2,hs'.1.bL⟩) (N:=100) ?_
 rcases hs.val with ⟨h1,h2,h3⟩|⟨h1,kk,k1,k2,h2,h3,h4⟩<;>simp only at h2 h3
 ·subst h2 h3 h1
  refine ad0 z zn 0 a b d f _ ?_
  (repeat' first|(with_reducible first|exact rfl|assumption|apply And.intro|exact Nat.le_refl _|exact Nat.lt_succ_self _)|exact CN|exact Nat.le_succ _|intro hq)
  ·refine q2 (⟨some ⟨256*zn+510,0,none⟩,1,z.set zn (OT (([⟨a,b,d,f⟩]:List ae).map ae.row).flatten 1),zn+1⟩:ep) ⟨?_,Nat.le_succ _⟩ rfl rfl rfl rfl rfl
   rename_i h1
   rw[yes h1 hq]
   exact⟨iT hz (jk _),by show n0<=zn+1;omega,fun k hk=>by
    show(z.set zn _).get k=_
    rw[T.aK,if_neg (by omega)];exact hold k hk, .inr ⟨by simp,zn,hle,Nat.lt_succ_self _,rfl,rfl,by
    show(z.set zn _).get zn=_
    rw[T.aK,if_pos rfl];rfl⟩⟩
  ·refine q2 (⟨none,0,z,zn⟩:ep) ⟨?_,Nat.le_refl _⟩ rfl rfl rfl rfl rfl
   rw[no2 hq];exact hs
  ·refine q2 (⟨none,0,z,zn⟩:ep) ⟨?_,Nat.le_refl _⟩ rfl rfl rfl rfl rfl
   rw[no1 hq];exact hs
 ·simp only at h4
  subst h2 h3
  refine ad1 z zn kk L.length ⟨(L.map ae.row).flatten,L.length*4,4,82,false,false,0,true⟩ a b d f _ ?_
  (repeat' first|(with_reducible first|exact rfl|assumption|apply And.intro|exact BB L|exact Nat.le_refl _|exact Nat.lt_succ_self _|exact ue hz _|exact Bv L ⟨a,b,d,f⟩ _|exact(by show L.length+1<=1048576;omega))|exact Nat.le_succ _|exact CN|intro hq)
  ·refine q2 (⟨some ⟨256*zn+510,0,none⟩,L.length+1,(z.del kk).set zn (OT ((L.map ae.row).flatten++(⟨a,b,d,f⟩:ae).row) (L.length+1)),zn+1⟩:ep) ⟨?_,Nat.le_succ _⟩ rfl rfl rfl rfl rfl
   rename_i h1
   rw[yes h1 hq]
   refine⟨iT (ue hz _) (by show bA ((L.map ae.row).flatten++(⟨a,b,d,f⟩:ae).row)=true;rw[jK];exact jk _),by show n0<=zn+1;omega,fun k hk=>?_, .inr ⟨by simp,zn,hle,Nat.lt_succ_self _,rfl,by simp,?_⟩⟩
   ·show((z.del kk).set zn _).get k=_
    rw[T.aK,if_neg (by omega),T.fm,if_neg (by omega)];exact hold k hk
   ·show((z.del kk).set zn _).get zn=_
    rw[T.aK,if_pos rfl,jK,List.length_append];rfl
  ·refine q2 (⟨some ⟨256*kk+510,0,none⟩,L.length,z,zn⟩:ep) ⟨?_,Nat.le_refl _⟩ rfl rfl rfl rfl rfl
   rw[no2 hq];exact hs
  ·refine q2 (⟨some ⟨256*kk+510,0,none⟩,L.length,z,zn⟩:ep) ⟨?_,Nat.le_refl _⟩ rfl rfl rfl rfl rfl
   rw[no1 hq];exact hs
end
def rC(z:T aa)(b n:Nat)(d:Nat->Nat->Int):Prop:= ∀i,i<n-> ∃l,z.get (b+i)=some (.ak (B2 l n))/\l.length=n/\ ∀j,j<n->(eM l j).len=d i j
theorem kM{z z':T aa}{b n m:Nat}{d:Nat->Nat->Int}(h:rC z b n d)(hb:b+n<=m)(hk: ∀k,k<m->z'.get k=z.get k):rC z' b n d:=fun i hi=>by
 obtain⟨l,h1,h2⟩:=h i hi
 exact⟨l,by rw[hk _ (by omega)];exact h1,h2⟩
theorem sW{z:T aa}{b n:Nat}{d:Nat->Nat->Int}(h:rC z b n d){i j:Nat}(hi:i<n)(hj:j<n): ∃k,z.get (b+i)=some (.ak k)/\aC prog k 3 (0+j*1)=some (zv (d i j)):=by
 obtain⟨l,h1,h2,h3⟩:=h i hi
 refine⟨_,h1,iR (d:=_) underlying3 rfl ?_⟩
 show(wo l)[j]? =_
 unfold wo
 rw[List.getElem?_map,mf (by omega),←h3 j hj];rfl
theorem mY{z:T aa}{zn n:Nat}{E:bP}{s:dN}(h:A6 z zn n E s): ∃b d,zn<=b/\b+n<=s.zn/\s.cs=gd b n n/\rC s.z b n d/\ ∀i j,i<n->j<n->lC E i j (d i j):=by
 obtain⟨b,h1,h2,h3,h4⟩:=h.row
 have: ∀i,∃l,i<n->s.z.get (b+i)=some (.ak (B2 l n))/\l.length=n/\ ∀j,j<n->lC E i j (eM l j).len:=fun i=>by
  by_cases hi:i<n
  ·obtain⟨l,hl⟩:=h4 i hi;exact⟨l,fun _=>hl⟩
  ·exact⟨[],fun h=>absurd h hi⟩
 obtain⟨f,hf⟩:=Classical.axiomOfChoice this
 exact⟨b,fun i j=>(eM (f i) j).len,h1,h2,h3,fun i hi=>⟨f i,(hf i hi).1,(hf i hi).2.1,fun j _=>rfl⟩,fun i j hi hj=>(hf i hi).2.2 j hj⟩
def gW(d f:Nat->Nat->Int)(a:Nat)(L:List ae)(b:Nat):List ae:=
 if a=b then L else if f a b=d a b then iu L a b (d a b) true else iu (iu L a b (d a b) false) a b (f a b) true
def cL(d f:Nat->Nat->Int)(a:Nat)(L:List ae)(m:Nat):List ae:=(List.range m).foldl (gW d f a) L
def ej(d f:Nat->Nat->Int)(n m:Nat):List ae:=(List.range m).foldl (fun L a=>cL d f a L n) []
theorem jN(d f:Nat->Nat->Int)(a:Nat)(L:List ae)(m:Nat):cL d f a L (m+1)=gW d f a (cL d f a L m) m:=by
 unfold cL;rw[List.range_succ,List.foldl_append];rfl
theorem rf(d f:Nat->Nat->Int)(n m:Nat):ej d f n (m+1)=cL d f m (ej d f n m) n:=by
 unfold ej;rw[List.range_succ,List.foldl_append];rfl
theorem AD(d f:Nat->Nat->Int)(a:Nat)(L:List ae)(b:Nat):(gW d f a L b).length<=L.length+2:=by
 unfold gW
 split
 ·omega
 ·split
  ·have:=sq L a b (d a b) true;omega
  ·have h1:=sq L a b (d a b) false
   have h2:=sq (iu L a b (d a b) false) a b (f a b) true
   omega
theorem um(d f:Nat->Nat->Int)(a:Nat)(L:List ae)(m:Nat):(cL d f a L m).length<=L.length+2*m:=by
 induction m with
 |zero=>exact Nat.le_refl _
 |succ m ih=>rw[jN];have:=AD d f a (cL d f a L m) m;omega
theorem Cd(d f:Nat->Nat->Int)(n m:Nat):(ej d f n m).length<=m*(2*n):=by
 induction m with
 |zero=>exact Nat.zero_le _
 |succ m ih=>
  rw[rf]
  have:=um d f m (ej d f n m) n
  have e:(m+1)*(2*n)=m*(2*n)+2*n:=Nat.succ_mul ..
  omega
section
variable{z0:T aa}{n0:Nat}
theorem mX{σ:bk}{L:List ae}{s:ep}(h:lD z0 n0 L s):aG (ay σ []) (oB s.v)=some (oB s.v):=by
 rcases h.val with ⟨_,e1,e2⟩|⟨_,kk,_,_,e1,e2,_⟩
 ·obtain⟨oa,k,z,zn⟩:=s
  simp only at e1 e2;subst e1 e2;rfl
 ·obtain⟨oa,k,z,zn⟩:=s
  simp only at e1 e2;subst e1 e2
  have:=qg σ kk L.length L.length
  show aG _ (oB (tb kk L.length L.length))=some (oB (tb kk L.length L.length))
  simp only[aG,br,this]
theorem Hf(n:Nat)(hn:n<=64)(b1 b2:Nat)(d f:Nat->Nat->Int)(h1:b1+n<=n0)(h2:b2+n<=n0)(hd:rC z0 b1 n d)(hf:rC z0 b2 n f)(a:Nat)(ha:a<n)(L:List ae)(hL:L.length<=10000)(s0:ep)(hs0:lD z0 n0 L s0):
 ai prog (ah (ah (ag f90) 0) 0) 3 66 (zP n a (b1+a) 0) (yq n (gd b1 n n) (gd b2 n n) s0.v) 3 s0.z s0.zn (Al.R (Sy n a (b1+a) (gd b1 n n) (gd b2 n n) s0 (fun s=>lD z0 n0 (cL d f a L n) s/\s0.zn<=s.zn)).l):=by
 refine an hD (cO T.leaf) (α:=Nat × ep) 3 66 3 (fun t=>t.1<=n/\lD z0 n0 (cL d f a L t.1) t.2/\s0.zn<=t.2.zn) (fun t=>zP n a (b1+a) t.1) (fun t=>yq n (gd b1 n n) (gd b2 n n) t.2.v) (fun t=>t.2.z) (fun t=>t.2.zn) (fun t=>n - t.1) _ (fun t hI=>?_) (0,s0) ⟨Nat.zero_le _,hs0,Nat.le_refl _⟩
 obtain⟨b,s⟩:=t
 obtain⟨hb,hs,hle⟩:=hI
 simp only at hb hs hle ⊢
 have hz:=hs.bL
 have rA: ∀b,aG (ay [(0,0),(1,1),(2,2)] []) (aa.ak (aY.mk (gd b n n) (n*1) 1 138 true true 0 true))=some (aa.ak (aY.mk (gd b n n) (n*1) 1 138 true true 0 true)):=fun b=>lU _ _ _ _ _
 by_cases hlt:b<n
 ·have hc:decide ((b:Int)<(n:Int))=true:=by simp;omega
  have hrl:=um d f a L b
  have hd':=kM hd h1 hs.ia
  have hf':=kM hf h2 hs.ia
  obtain⟨k1,g1,r1⟩:=sW hd' ha hlt
  obtain⟨k2,g2,r2⟩:=sW hf' ha hlt
  have rB:aC prog (aY.mk (gd b2 n n) (n*1) 1 138 true true 0 true) 138 (0+a*1)=some (tb (b2+a) n n):=iR underlying138 rfl (H8 ha)
  have add1: ∀fl,bB prog s.z s.zn 124 [iv a,iv b,zv (d a b), .bool fl,ip 0] [(0,oB s.v)] 1 1 (fun s'=>lD z0 n0 (iu (cL d f a L b) a b (d a b) fl) s'/\s.zn<=s'.zn) (fun _=> .tuple ⟨[]⟩) (fun s=>[(0,oB s.v)]) (fun s=>s.z) (fun s=>s.zn):=fun fl=>MR z0 n0 _ (by omega) s hs _ _ _ _
  have add2: ∀fl x,(lD z0 n0 (iu (cL d f a L b) a b (d a b) fl) x/\s.zn<=x.zn)->bB prog x.z x.zn 124 [iv a,iv b,zv (f a b),T1,ip 0] [(0,oB x.v)] 1 1 (fun s'=>lD z0 n0 (iu (iu (cL d f a L b) a b (d a b) fl) a b (f a b) true) s'/\x.zn<=s'.zn) (fun _=> .tuple ⟨[]⟩) (fun s=>[(0,oB s.v)]) (fun s=>s.z) (fun s=>s.zn):=fun fl x hx=>MR z0 n0 _ (by have:=sq (cL d f a L b) a b (d a b) fl;omega) x hx.1 _ _ _ _
  have nx: ∀s',lD z0 n0 (cL d f a L (b+1)) s'->s.zn<=s'.zn->aj (fun t:Nat × ep=>t.1<=n/\lD z0 n0 (cL d f a L t.1) t.2/\s0.zn<=t.2.zn) (fun t=>zP n a (b1+a) t.1) (fun t=>yq n (gd b1 n n) (gd b2 n n) t.2.v) 3 (fun t=>t.2.z) (fun t=>t.2.zn) (fun t=>n - t.1) (Al.R (Sy n a (b1+a) (gd b1 n n) (gd b2 n n) s0 (fun s=>lD z0 n0 (cL d f a L n) s/\s0.zn<=s.zn)).l) (b,s) .normal (zP n a (b1+a) (b+1)) (yq n (gd b1 n n) (gd b2 n n) s'.v) 3 s'.z s'.zn:=fun s' h1 h2=>
   ⟨(b+1,s'),rfl,rfl,rfl,rfl,rfl,⟨by show b+1<=n;omega,h1,by show s0.zn<=s'.zn;omega⟩,by show n - (b+1)<n - b;omega⟩
  have add1t:(f a b==d a b)=true->bB prog s.z s.zn 124 [iv a,iv b,zv (d a b),T1,ip 0] [(0,oB s.v)] 1 1 (fun s'=>lD z0 n0 (iu (cL d f a L b) a b (d a b) (f a b==d a b)) s'/\s.zn<=s'.zn) (fun _=> .tuple ⟨[]⟩) (fun s=>[(0,oB s.v)]) (fun s=>s.z) (fun s=>s.zn):=fun h=>by
   rw[h];exact add1 true
  have add1f:(f a b==d a b)=false->bB prog s.z s.zn 124 [iv a,iv b,zv (d a b),F0,ip 0] [(0,oB s.v)] 1 1 (fun s'=>lD z0 n0 (iu (cL d f a L b) a b (d a b) (f a b==d a b)) s'/\s.zn<=s'.zn) (fun _=> .tuple ⟨[]⟩) (fun s=>[(0,oB s.v)]) (fun s=>s.z) (fun s=>s.zn):=fun h=>by
   rw[h];exact add1 false
  have w0:((a:Int)==(b:Int))=true->cL d f a L (b+1)=cL d f a L b:=fun h=>by
   rw[jN];unfold gW;rw[if_pos (by simp at h;omega)]
  have w1:((a:Int)==(b:Int))=false->(f a b !=d a b)=false->cL d f a L (b+1)=iu (cL d f a L b) a b (d a b) (f a b==d a b):=fun h h1=>by
   have e:f a b=d a b:=by simpa using h1
   rw[jN];unfold gW;rw[if_neg (by simp at h;omega),if_pos e,e];simp
  have w2:((a:Int)==(b:Int))=false->(f a b !=d a b)=true->cL d f a L (b+1)=iu (iu (cL d f a L b) a b (d a b) (f a b==d a b)) a b (f a b) true:=fun h h1=>by
   have e: ¬f a b=d a b:=by simpa using h1
   have e2:(f a b==d a b)=false:=by simpa using e
   rw[jN];unfold gW;rw[if_neg (by simp at h;omega),if_neg e,e2]
  refine t100 (ZW s.z s.zn n a (b1+a) (b2+a) b (gd b1 n n) (gd b2 n n) s k1 k2 (d a b) (f a b) (fun s'=>lD z0 n0 (iu (cL d f a L b) a b (d a b) (f a b==d a b)) s'/\s.zn<=s'.zn) (fun x s'=>lD z0 n0 (iu (iu (cL d f a L b) a b (d a b) (f a b==d a b)) a b (f a b) true) s'/\x.zn<=s'.zn) (aj _ _ _ _ _ _ _ _ _) ⟨fun _=>?_,nC1 hc⟩)
  (repeat' first|(with_reducible first|exact rfl|assumption|apply And.intro|exact rA _|exact lD.bL (And.left ‹_›)|exact bK (by omega))|exact mX hs|exact mX (And.left (by with_reducible assumption))|exact add1t (by with_reducible assumption)|exact add1f (by with_reducible assumption)|exact add2 _ _ (by with_reducible assumption)|intro hq)
  all_goals first
   |exact nx s (by rw[w0 hq];exact hs) (Nat.le_refl _)
   |(rename_i h1 h2 x hx h3 y
     exact nx y (by rw[w2 h1 h3];exact hq.1) (Nat.le_trans hx.2 hq.2))
   |(rename_i h1 h2 x hx
     exact nx x (by rw[w1 h1 hq];exact hx.1) hx.2)
 ·have hc:decide ((b:Int)<(n:Int))=false:=by simp;omega
  have hbn:b=n:=by omega
  subst hbn
  refine t100 (ZW s.z s.zn b a (b1+a) (b2+a) b (gd b1 b b) (gd b2 b b) s ⟨[],0,0,0,true,true,0,true⟩ ⟨[],0,0,0,true,true,0,true⟩ 0 0 (fun _=>False) (fun _ _=>False) (aj _ _ _ _ _ _ _ _ _) ⟨nC1 hc,fun _=>?_⟩)
  (repeat' first|(with_reducible first|exact rfl|assumption|apply And.intro|exact rA _)|exact mX hs)
  exact Cs (k:=fun _=>eh) s ⟨hs,hle⟩ rfl
theorem zY(n:Nat)(hn:n<=64)(b1 b2:Nat)(d f:Nat->Nat->Int)(h1:b1+n<=n0)(h2:b2+n<=n0)(hd:rC z0 b1 n d)(hf:rC z0 b2 n f)(ON:ax z0 n0):
 ai prog (ah (ag f90) 0) 3 66 (vd n 0) (yq n (gd b1 n n) (gd b2 n n) az) 3 z0 n0 (Al.R (OE n (gd b1 n n) (gd b2 n n) z0 n0 (fun s=>lD z0 n0 (ej d f n n) s)).l):=by
 refine an hD (cO T.leaf) (α:=Nat × ep) 3 66 3 (fun t=>t.1<=n/\lD z0 n0 (ej d f n t.1) t.2) (fun t=>vd n t.1) (fun t=>yq n (gd b1 n n) (gd b2 n n) t.2.v) (fun t=>t.2.z) (fun t=>t.2.zn) (fun t=>n - t.1) _ (fun t hI=>?_) (0,⟨none,0,z0,n0⟩) ⟨Nat.zero_le _,ON,Nat.le_refl _,fun _ _=>rfl, .inl ⟨rfl,rfl,rfl⟩⟩
 obtain⟨a,s⟩:=t
 obtain⟨ha,hs⟩:=hI
 simp only at ha hs ⊢
 have hz:=hs.bL
 have rA: ∀b,aG (ay [(0,0),(1,1),(2,2)] []) (aa.ak (aY.mk (gd b n n) (n*1) 1 138 true true 0 true))=some (aa.ak (aY.mk (gd b n n) (n*1) 1 138 true true 0 true)):=fun b=>lU _ _ _ _ _
 by_cases hlt:a<n
 ·have hc:decide ((a:Int)<(n:Int))=true:=by simp;omega
  have hll:(ej d f n a).length<=10000:=by
   have:=Cd d f n a
   have h2:a*(2*n)<=64*(2*64):=Nat.mul_le_mul (by omega) (by omega)
   omega
  have hlp:=Hf n hn b1 b2 d f h1 h2 hd hf a hlt _ hll s hs
  have rB:aC prog (aY.mk (gd b1 n n) (n*1) 1 138 true true 0 true) 138 (0+a*1)=some (tb (b1+a) n n):=iR underlying138 rfl (H8 hlt)
  refine t100 (ZX s.z s.zn n a (b1+a) (gd b1 n n) (gd b2 n n) s (fun s'=>lD z0 n0 (cL d f a (ej d f n a) n) s'/\s.zn<=s'.zn) (aj _ _ _ _ _ _ _ _ _) ⟨fun _=>?_,nC1 hc⟩)
  (repeat' first|(with_reducible first|exact rfl|assumption|apply And.intro|exact rA _|exact lD.bL (And.left ‹_›)|exact bK (by omega))|exact hlp|exact mX hs|exact mX (And.left (by with_reducible assumption))|intro hq)
  rename_i x
  exact⟨(a+1,x),rfl,rfl,rfl,rfl,rfl,⟨by show a+1<=n;omega,by show lD z0 n0 (ej d f n (a+1)) x;rw[rf];exact hq.1⟩,by show n - (a+1)<n - a;omega⟩
 ·have hc:decide ((a:Int)<(n:Int))=false:=by simp;omega
  have han:a=n:=by omega
  subst han
  refine t100 (ZX s.z s.zn a a 0 (gd b1 a a) (gd b2 a a) s (fun _=>False) (aj _ _ _ _ _ _ _ _ _) ⟨nC1 hc,fun _=>?_⟩)
  (repeat' first|(with_reducible first|exact rfl|assumption|apply And.intro)|exact mX hs)
  exact Cs (k:=fun _=>eh) s hs rfl
end
def DF(n:Nat)(l:List ae)(d f:Nat->Nat->Int):Prop:= ∃E F,Ro n l false E/\Ro n l true F/\(∀i j,i<n->j<n->lC (EE E) i j (d i j))/\(∀i j,i<n->j<n->lC (EE F) i j (f i j))
theorem Ap{z z':T aa}{a b:Nat}{L:List ae}{s:ep}(h:lD z' b L s)(hab:a<=b)(ho: ∀k,k<a->z'.get k=z.get k):lD z a L s:=by
 refine⟨h.bL,Nat.le_trans hab h.le,fun k hk=>(h.ia k (by omega)).trans (ho k hk),?_⟩
 rcases h.val with h1|⟨h1,kk,h2,h3⟩
 ·exact .inl h1
 ·exact .inr ⟨h1,kk,by omega,h3⟩
def j7(C:List ae):Prop:= ∀(z:T aa)(zn:Nat)(s:ep),lD z zn C s->aQ prog s.z s.zn 125 [s.v, .func (.func 126) #[] #[]] [] 0 0 (fun _:Unit=>True) (fun _=> .tuple ⟨[]⟩) (fun _=>[])
theorem ob{P:Program}{b:Code}{base n:Nat}{live:Live}{aO:bO}{nx:Nat}{z:T aa}{zn:Nat}{R R':aw->Prop}(h:ai P b base n live aO nx z zn R)(hR: ∀o,R o->R' o):ai P b base n live aO nx z zn R':=
 fun wB h0 zn0 σ0 h1 h2=>(h wB h0 zn0 σ0 h1 h2).mono fun e fr h zn' ⟨o,h1,h2⟩=>⟨o,hR o h1,h2⟩
theorem kh{z z':T aa}{zn k:Nat}{rows:List (List Value)}(h:bW z k rows)(hz:ax z zn)(ho: ∀j,j<zn->z'.get j=z.get j):bW z' k rows:=
 ⟨fun hr=>by obtain⟨e,he⟩:=h.here hr;exact⟨e,by rw[ho k (hz k _ he).1];exact he⟩,h.size⟩
section
variable{z:T aa}{zn:Nat}
theorem Tf(hz:ax z zn)(n:Nat)(hn:n<=64)(l:List ae)(hl:mJ n l)(hll:l.length<=10000)(cp:Nat)(hL:bW z 4 (l.map ae.row))(C:List ae)(hC: ∀d f,DF n l d f->ej d f n n=C)(hS:j7 C):
 bB prog z zn 90 [tb 4 l.length cp,iv n] [] 0 0 (lD z zn C) (fun s=>s.v) (fun _=>[]) (fun s=>s.z) (fun s=>s.zn):=by
 have d1:=IH hz n hn l hl hll cp hL false
 have rw1: ∀{z zn b s},dD z zn n l b s-> ∀σ c,aG (ay σ []) (aa.ak (aY.mk s.cs c 1 138 true true 0 true))=some (aa.ak (aY.mk s.cs c 1 138 true true 0 true)):=fun {z zn b s} ⟨E,_,h⟩ σ c=>by
  obtain⟨b,_,_,h,_⟩:=h.row
  rw[h];exact lU _ _ _ _ _
 have rw2: ∀{z zn b s},dD z zn n l b s-> ∀σ c,aG (sig σ) (aa.ak (aY.mk s.cs c 1 138 true true 0 true))=some (aa.ak (aY.mk s.cs c 1 138 true true 0 true)):=fun h σ c=>rw1 h σ c
 have bL: ∀{z zn b s},dD z zn n l b s->ax s.2 s.zn:=fun {z zn b s} ⟨E,_,h⟩=>h.bL
 have d2: ∀s,dD z zn n l false s->bB prog s.2 s.zn 123 [tb 4 l.length cp,iv n,T1] [] 0 1 (dD s.2 s.zn n l true) (fun _=>aU 0 n n) (fun s=>[(0,sT s.cs n)]) (fun s=>s.z) (fun s=>s.zn):=fun s ⟨E,_,h⟩=>IH h.bL n hn l hl hll cp (kh hL hz h.ia) true
 have lp: ∀s1 s2,dD z zn n l false s1->dD s1.2 s1.zn n l true s2->ai prog (ah (ag f90) 0) 3 66 (vd n 0) (yq n s1.cs s2.cs az) 3 s2.2 s2.zn (Al.R (OE n s1.cs s2.cs s2.2 s2.zn (fun s=>lD z zn C s)).l):=fun s1 s2 ⟨E,hE,h1⟩ ⟨F,hF,h2⟩=>by
  obtain⟨b1,d,p1,p2,p3,p4,p5⟩:=mY h1
  obtain⟨b2,f,q1,q2,q3,q4,q5⟩:=mY h2
  have hle:=h2.le
  have:=zY n hn b1 b2 d f (by omega) q2 (kM p4 p2 h2.ia) q4 h2.bL
  rw[hC d f ⟨E,F,hE,hF,p5,q5⟩] at this
  rw[p3,q3]
  refine ob this fun o ho=>?_
  rcases ho with ⟨s,hs,e⟩|ho
  ·exact .inl ⟨s,Ap hs (Nat.le_trans h1.le hle) fun k hk=>(h2.ia k (by have:=h1.le;omega)).trans (h1.ia k hk),e⟩
  ·exact .inr ho
 have srt: ∀s,lD z zn C s->aQ prog s.3 s.zn 125 [s.v, .func (.func 126) #[] #[]] [] 0 0 (fun _:Unit=>True) (fun _=> .tuple ⟨[]⟩) (fun _=>[]):=fun s hs=>hS z zn s hs
 have rv: ∀s,lD z zn C s->aT (ay [] []) s.v=some s.v:=fun s h=>by
  rcases h.val with ⟨_,e1,e2⟩|⟨_,kk,_,_,e1,e2,_⟩
  ·obtain⟨oa,k,z,zn⟩:=s
   simp only at e1 e2;subst e1 e2;rfl
  ·obtain⟨oa,k,z,zn⟩:=s
   simp only at e1 e2;subst e1 e2
   exact qg [] kk C.length C.length
 have rl: ∀s,lD z zn C s->br (sig []) [s.v, .func (.func 126) #[] #[]]=some [s.v, .func (.func 126) #[] #[]]:=fun s h=>by
  have:=rv s h
  have h2:aT (ay [] []) (.func (.func 126) #[] #[])=some (.func (.func 126) #[] #[]):=rfl
  show br (ay [] []) _=_
  simp only[br,this,h2]
 refine fJ (cO T.leaf) (fn:=f90) (by kernel_rfl) (by kernel_rfl) hz ⟨by decide,by decide⟩ (fun s' hs'=>⟨rfl,hs'.le,hs'.bL⟩) (N:=100) ?_
 refine cl z zn n l.length cp (dD z zn n l false) (fun s=>dD s.2 s.zn n l true) (fun _ _=>lD z zn C) _ ?_
 (repeat' first|(with_reducible first|exact rfl|assumption|apply And.intro|exact d2 _ ‹_›|exact srt _ ‹_›|exact bL ‹_›|exact lD.bL ‹_›|exact rw1 ‹_› _ _|exact rw2 ‹_› _ _|exact rv _ ‹_›|exact rl _ ‹_›)|exact lp _ _ (by with_reducible assumption) (by with_reducible assumption)|intro hq)
 rename_i x hx _
 exact q2 x hx rfl rfl rfl rfl rfl
theorem PQ(hz:ax z zn)(n:Nat)(hn:n<=64)(C:List ae)(hC: ∀d f,DF n [] d f->ej d f n n=C)(hS:j7 C):
 bB prog z zn 90 [az,iv n] [] 0 0 (lD z zn C) (fun s=>s.v) (fun _=>[]) (fun s=>s.z) (fun s=>s.zn):=by
 have d1:=Dw hz n hn false
 have rw1: ∀{z zn b s},dD z zn n [] b s-> ∀σ c,aG (ay σ []) (aa.ak (aY.mk s.cs c 1 138 true true 0 true))=some (aa.ak (aY.mk s.cs c 1 138 true true 0 true)):=fun {z zn b s} ⟨E,_,h⟩ σ c=>by
  obtain⟨b,_,_,h,_⟩:=h.row
  rw[h];exact lU _ _ _ _ _
 have rw2: ∀{z zn b s},dD z zn n [] b s-> ∀σ c,aG (sig σ) (aa.ak (aY.mk s.cs c 1 138 true true 0 true))=some (aa.ak (aY.mk s.cs c 1 138 true true 0 true)):=fun h σ c=>rw1 h σ c
 have bL: ∀{z zn b s},dD z zn n [] b s->ax s.2 s.zn:=fun {z zn b s} ⟨E,_,h⟩=>h.bL
 have d2: ∀s,dD z zn n [] false s->bB prog s.2 s.zn 123 [az,iv n,T1] [] 0 1 (dD s.2 s.zn n [] true) (fun _=>aU 0 n n) (fun s=>[(0,sT s.cs n)]) (fun s=>s.z) (fun s=>s.zn):=fun s ⟨E,_,h⟩=>Dw h.bL n hn true
 have lp: ∀s1 s2,dD z zn n [] false s1->dD s1.2 s1.zn n [] true s2->ai prog (ah (ag f90) 0) 3 66 (vd n 0) (yq n s1.cs s2.cs az) 3 s2.2 s2.zn (Al.R (OE n s1.cs s2.cs s2.2 s2.zn (fun s=>lD z zn C s)).l):=fun s1 s2 ⟨E,hE,h1⟩ ⟨F,hF,h2⟩=>by
  obtain⟨b1,d,p1,p2,p3,p4,p5⟩:=mY h1
  obtain⟨b2,f,q1,q2,q3,q4,q5⟩:=mY h2
  have hle:=h2.le
  have:=zY n hn b1 b2 d f (by omega) q2 (kM p4 p2 h2.ia) q4 h2.bL
  rw[hC d f ⟨E,F,hE,hF,p5,q5⟩] at this
  rw[p3,q3]
  refine ob this fun o ho=>?_
  rcases ho with ⟨s,hs,e⟩|ho
  ·exact .inl ⟨s,Ap hs (Nat.le_trans h1.le hle) fun k hk=>(h2.ia k (by have:=h1.le;omega)).trans (h1.ia k hk),e⟩
  ·exact .inr ho
 have srt: ∀s,lD z zn C s->aQ prog s.3 s.zn 125 [s.v, .func (.func 126) #[] #[]] [] 0 0 (fun _:Unit=>True) (fun _=> .tuple ⟨[]⟩) (fun _=>[]):=fun s hs=>hS z zn s hs
 have rv: ∀s,lD z zn C s->aT (ay [] []) s.v=some s.v:=fun s h=>by
  rcases h.val with ⟨_,e1,e2⟩|⟨_,kk,_,_,e1,e2,_⟩
  ·obtain⟨oa,k,z,zn⟩:=s
   simp only at e1 e2;subst e1 e2;rfl
  ·obtain⟨oa,k,z,zn⟩:=s
   simp only at e1 e2;subst e1 e2
   exact qg [] kk C.length C.length
 have rl: ∀s,lD z zn C s->br (sig []) [s.v, .func (.func 126) #[] #[]]=some [s.v, .func (.func 126) #[] #[]]:=fun s h=>by
  have:=rv s h
  have h2:aT (ay [] []) (.func (.func 126) #[] #[])=some (.func (.func 126) #[] #[]):=rfl
  show br (ay [] []) _=_
  simp only[br,this,h2]
 refine fJ (cO T.leaf) (fn:=f90) (by kernel_rfl) (by kernel_rfl) hz ⟨by decide,by decide⟩ (fun s' hs'=>⟨rfl,hs'.le,hs'.bL⟩) (N:=100) ?_
 refine clz z zn n (dD z zn n [] false) (fun s=>dD s.2 s.zn n [] true) (fun _ _=>lD z zn C) _ ?_
 (repeat' first|(with_reducible first|exact rfl|assumption|apply And.intro|exact d2 _ ‹_›|exact srt _ ‹_›|exact bL ‹_›|exact lD.bL ‹_›|exact rw1 ‹_› _ _|exact rw2 ‹_› _ _|exact rv _ ‹_›|exact rl _ ‹_›)|exact lp _ _ (by with_reducible assumption) (by with_reducible assumption)|intro hq)
 rename_i x hx _
 exact q2 x hx rfl rfl rfl rfl rfl
end
def oH(C:List ae):Prop:= ∀(i j:Nat)(x y:ae),i<j->C[i]? =some x->C[j]? =some y->decide (qw y.fz1 y.aq y.aH x.fz1 x.aq x.aH<0)=false
abbrev Ao(C:List ae):aY:=⟨(C.map ae.row).flatten,C.length*4,4,82,false,false,0,true⟩
theorem kv{C:List ae}{i:Nat}{x:ae}(hx:C[i]? =some x):aC prog (Ao C) 82 (0+i*4)=some (.agg ⟨x.row⟩):=
 gL (rows:=C.map ae.row) rfl (r:=x.row) (sz:=4) underlying82 rfl rfl (aM (row:=ae.row) (sz:=4) C fun _=>rfl) (by rw[List.getElem?_map,hx];rfl)
theorem I3{z:T aa}{zn:Nat}(hz:ax z zn){f:Nat}{args:List Value}{v:Value}(hp:bA args=true)(hv:au v=true)(h: ∀w,Calls prog f ⟨args⟩ w fun e w'=>e= .returned v/\w'=w):A1 z zn f args [] 0 0 v []:=by
 refine⟨hz,Nat.le_refl _,by decide,fun _ _=>MT hz (fun b o h=>by cases h),fun ρ w args' n hargs hh hf hfb=>callsIn_wide.2 ?_⟩
 have e:=hargs.plain hp
 subst e
 exact(h w).mono fun e w' ⟨h1,h2⟩=>⟨(),trivial,ρ,v,h1,VR.aW hv,by rw[h2];exact hh,by rw[h2];exact gz.refl _ _ _ _ _ _ _⟩
section
variable{z:T aa}{zn kk:Nat}{C:List ae}
theorem S8(hz:ax z zn)(hk:z.get kk=some (.ak (Ao C)))(hS:oH C){a b n:Nat}(hn:n=C.length)(hab:a<b)(hb:b<C.length):
 A1 z zn 250 [tb kk n n,iv a,iv b,ip 0,im] [(0,JH)] 1 1 (.tuple ⟨[iv a,iv b]⟩) [(0,JH)]:=by
 subst hn
 obtain⟨x,hx⟩: ∃x,C[a]? =some x:=⟨_,List.getElem?_eq_getElem (by omega)⟩
 obtain⟨y,hy⟩: ∃y,C[b]? =some y:=⟨_,List.getElem?_eq_getElem hb⟩
 have hc:=hS a b x y hab hx hy
 have r1:=kv hx
 have r2:=kv hy
 have hc':Value.bool (decide (qw y.fz1 y.aq y.aH x.fz1 x.aq x.aH<0))= .bool false:=by rw[hc]
 refine aK1 (lL z) (fn:=f250) hz (N:=100) ?_
 refine jo2 z zn kk C.length a b (Ao C) x y _ ?_
 (repeat' first|(with_reducible first|exact rfl|assumption|apply And.intro|exact(by omega:a<C.length))|exact(rfl:gS _ _=_)|exact q1)
theorem Tb(hz:ax z zn)(hk:z.get kk=some (.ak (Ao C)))(hS:oH C){a b c n:Nat}(hn:n=C.length)(hab:a<b)(hbc:b<c)(hc:c<C.length):
 A1 z zn 241 [tb kk n n,iv a,iv b,iv c,ip 0,im] [(0,JH)] 1 1 (iv b) [(0,JH)]:=by
 have h1:=S8 hz hk hS hn hab (by omega)
 have h2:=S8 hz hk hS hn hbc hc
 refine aK1 (lL z) (fn:=f241) hz (N:=100) ?_
 refine jmd z zn kk n a b c _ ?_
 (repeat' first|(with_reducible first|exact rfl|assumption|apply And.intro)|exact h1|exact h2|exact q1|intro hq)
theorem qJ{x:Int}(h: -9223372036854775808<=x)(h2:x<=9223372036854775807):Value.int .i64 (IntKind.i64.wrap x)=Value.int .i64 x:=by
 have:IntKind.i64.wrap x=x:=by
  simp only[IntKind.wrap,IntKind.signed,IntKind.bits]
  simp
  omega
 rw[this]
theorem PM(hz:ax z zn)(hk:z.get kk=some (.ak (Ao C)))(hS:oH C){a n:Nat}(hn:n=C.length)(hc:a+2<C.length)(hs:C.length<100000):
 A1 z zn 240 [tb kk n n,iv (a+1),ip 0,im] [(0,JH)] 1 1 (iv (a+1)) [(0,JH)]:=by
 have h1:=Tb hz hk hS hn (show a<a+1 by omega) (show a+1<a+2 by omega) hc
 have e:(((a+1:Nat):Int) - 1)=(a:Int):=by omega
 have w1:Value.int .i64 (IntKind.i64.wrap (((a+1:Nat):Int) - 1))=Value.int .i64 (((a+1:Nat):Int) - 1):=qJ (by omega) (by omega)
 have w2:Value.int .i64 (IntKind.i64.wrap (((a+1:Nat):Int)+1))=Value.int .i64 ((a+1+1:Nat):Int):=bK (by omega)
 refine aK1 (lL z) (fn:=f240) hz (N:=100) ?_
 refine jma z zn kk n a _ ?_
 rw[e] at w1 ⊢
 (repeat' first|(with_reducible first|exact rfl|assumption|apply And.intro)|exact h1|exact q1|intro hq)
theorem Xk(hz:ax z zn)(hk:z.get kk=some (.ak (Ao C)))(hS:oH C){n:Nat}(hn:n=C.length)(h8:12<n)(hs:C.length<100000):
 A1 z zn 218 [tb kk n n,I 0,iv n,im] [] 0 1 (.tuple ⟨[iv (n / 4*2),I 1]⟩) []:=by
 have e0:((n:Int) - 0).tdiv 4=((n / 4:Nat):Int):=by rw[Int.sub_zero];rfl
 obtain⟨q,hv⟩: ∃q,n / 4=q:=⟨_,rfl⟩
 rw[hv] at e0 ⊢
 have e1:(0+(q:Int)*1)=((q:Nat):Int):=by omega
 have e2:(0+(q:Int)*2)=((q*2:Nat):Int):=by omega
 have e3:(0+(q:Int)*3)=((q*3:Nat):Int):=by omega
 have hq3:3<=q:=by omega
 have hq4:q*4<=n:=by omega
 have w0:Value.int .i64 (IntKind.i64.wrap ((n:Int) - 0))=Value.int .i64 ((n:Int) - 0):=qJ (by omega) (by omega)
 have w1:Value.int .i64 (IntKind.i64.wrap (q:Int))=Value.int .i64 (q:Int):=qJ (by omega) (by omega)
 have w2: ∀c:Int,0<=c->c<=3->Value.int .i64 (IntKind.i64.wrap ((q:Int)*c))=Value.int .i64 ((q:Int)*c):=fun c h1 h2=>qJ (by
  have:c=0\/c=1\/c=2\/c=3:=by omega
  rcases this with rfl|rfl|rfl|rfl<;>omega) (by
  have:c=0\/c=1\/c=2\/c=3:=by omega
  rcases this with rfl|rfl|rfl|rfl<;>omega)
 have w3: ∀c:Nat,c<=3->Value.int .i64 (IntKind.i64.wrap ((q*c:Nat):Int))=Value.int .i64 ((q*c:Nat):Int):=fun c h2=>qJ (by omega) (by
  have:q*c<=q*3:=Nat.mul_le_mul_left _ h2
  omega)
 have d8:Value.bool (decide ((n:Int) - 0>=8))=T1:=by rw[show decide ((n:Int) - 0>=8)=true by simp;omega]
 have m1:=Tb hz hk hS hn (show q<q*2 by omega) (show q*2<q*3 by omega) (by omega)
 obtain⟨q',rfl⟩: ∃q',q=q'+1:=⟨q - 1,by omega⟩
 have g1:=PM hz hk hS (a:=q') hn (by omega) hs
 have g2:=PM hz hk hS (a:=(q'+1)*2 - 1) hn (by omega) hs
 have g3:=PM hz hk hS (a:=(q'+1)*3 - 1) hn (by omega) hs
 rw[show(q'+1)*2 - 1+1=(q'+1)*2 by omega] at g2
 rw[show(q'+1)*3 - 1+1=(q'+1)*3 by omega] at g3
 have w31:=w3 1 (by omega)
 rw[Nat.mul_one] at w31
 refine aK1 (lL z) (fn:=f218) hz (N:=100) ?_
 refine jcp z zn kk n 0 0 0 _ ?_
 rw[e0,e1,e2,e3]
 (repeat' first|(with_reducible first|exact rfl|assumption|apply And.intro|exact w2 _ (by decide) (by decide)|exact w3 _ (by decide)|exact q1)|exact m1|exact g1|exact g2|exact g3|intro hq)
theorem KK(hz:ax z zn)(hk:z.get kk=some (.ak (Ao C)))(hS:oH C){n:Nat}(hn:n=C.length)(i:Nat)(hi:0<i)(hin:i<n)(hs:C.length<100000):
 ai prog (ah (ah (ag f215) 0) 0) 0 53 (Ep (tb kk n n) n i i) [] 0 z zn (Al.R (Wn z zn (tb kk n n) n i).l):=by
 subst hn
 obtain⟨j,rfl⟩: ∃j,i=j+1:=⟨i - 1,by omega⟩
 obtain⟨x,hx⟩: ∃x,C[j]? =some x:=⟨_,List.getElem?_eq_getElem (by omega)⟩
 obtain⟨y,hy⟩: ∃y,C[j+1]? =some y:=⟨_,List.getElem?_eq_getElem hin⟩
 have hc:=hS j (j+1) x y (by omega) hx hy
 have r1:=kv hx
 have r2:=kv hy
 have hc':Value.bool (decide (qw y.fz1 y.aq y.aH x.fz1 x.aq x.aH<0))= .bool false:=by rw[hc]
 have w1:Value.int .i64 (IntKind.i64.wrap (((j+1:Nat):Int) - 1))=Value.int .i64 (((j+1:Nat):Int) - 1):=qJ (by omega) (by omega)
 refine an hD (lL z) (α:=Unit) 0 53 0 (fun _=>True) (fun _=>Ep (tb kk C.length C.length) C.length (j+1) (j+1)) (fun _=>[]) (fun _=>z) (fun _=>zn) (fun _=>0) _ (fun _ hI=>?_) () trivial
 refine t100 (ji1 z zn kk C.length (j+1) j (Ao C) x y (aj _ _ _ _ _ _ _ _ _) ?_)
 (repeat' first|(with_reducible first|exact rfl|assumption|apply And.intro|exact(by omega:j<C.length)|exact(by omega:((j+1:Nat):Int) - 1=(j:Int)))|exact(rfl:gS _ _=_)|intro hq)
 all_goals first
  |exact bw trivial
theorem KL(hz:ax z zn)(hk:z.get kk=some (.ak (Ao C)))(hS:oH C){n:Nat}(hn:n=C.length)(hs:C.length<100000):
 ai prog (ah (ag f215) 0) 0 53 (po (tb kk n n) n 1) [] 0 z zn (Al.R (Sr z zn (tb kk n n) n).l):=by
 refine an hD (lL z) (α:=Nat) 0 53 0 (fun i=>0<i/\i<=n+1) (fun i=>po (tb kk n n) n i) (fun _=>[]) (fun _=>z) (fun _=>zn) (fun i=>n+1 - i) _ (fun i hI=>?_) 1 ⟨by omega,by omega⟩
 obtain⟨h1,h2⟩:=hI
 refine t100 (ji0 z zn kk n i (aj _ _ _ _ _ _ _ _ _) ?_)
 by_cases hi:i<n
 ·have hL:=KK hz hk hS hn i h1 hi hs
  have d1:decide ((i:Int)<(n:Int))=true:=by simp;omega
  refine⟨fun _=>?_,nC1 d1⟩
  (repeat' first|(with_reducible first|exact rfl|assumption|apply And.intro|exact bK (by omega))|exact hL|intro hq)
  all_goals first
   |exact⟨i+1,rfl,rfl,rfl,rfl,rfl,⟨by omega,by omega⟩,by show n+1 - (i+1)<n+1 - i;omega⟩
 ·have d1:decide ((i:Int)<(n:Int))=false:=by simp;omega
  refine⟨nC1 d1,fun _=>?_⟩
  (repeat' first|(with_reducible first|exact rfl|assumption|apply And.intro))
  all_goals exact bw trivial
theorem Td(hz:ax z zn)(hk:z.get kk=some (.ak (Ao C)))(hS:oH C){n:Nat}(hn:n=C.length)(hs:C.length<100000):
 A1 z zn 215 [tb kk n n,I 0,iv n,im] [] 0 0 (.tuple ⟨[]⟩) []:=by
 have hL:=KL hz hk hS hn hs
 refine aK1 (lL z) (fn:=f215) hz (N:=100) ?_
 refine ji z zn kk n _ ?_
 (repeat' first|(with_reducible first|exact rfl|assumption|apply And.intro|exact q1)|exact hL|intro hq)
theorem PO(hz:ax z zn):A1 z zn 215 [az,I 0,iv 0,im] [] 0 0 (.tuple ⟨[]⟩) []:=by
 have hL:ai prog (ah (ag f215) 0) 0 53 (po az 0 1) [] 0 z zn (Al.R (Sr z zn az 0).l):=by
  refine an hD (lL z) (α:=Unit) 0 53 0 (fun i=>True) (fun i=>po az 0 1) (fun _=>[]) (fun _=>z) (fun _=>zn) (fun i=>0) _ (fun i hI=>?_) () trivial
  refine t100 (WC z zn (aj _ _ _ _ _ _ _ _ _) ?_)
  (repeat' first|(with_reducible first|exact rfl|assumption|apply And.intro))
  all_goals exact bw trivial
 refine aK1 (lL z) (fn:=f215) hz (N:=100) ?_
 refine jiz z zn _ ?_
 (repeat' first|(with_reducible first|exact rfl|assumption|apply And.intro|exact q1)|exact hL|intro hq)
theorem KC(hz:ax z zn)(hk:z.get kk=some (.ak (Ao C)))(hS:oH C){n:Nat}(hn:n=C.length)(h1n:1<=n)(hs:C.length<100000):
 ai prog (ah (ah (ag f220) 0) 0) 0 141 (jm kk n 1 0) [] 0 z zn (Al.R (Si z zn kk n).l):=by
 subst hn
 refine an hD (lL z) (α:=Nat) 0 141 0 (fun i=>i<C.length) (fun i=>jm kk C.length (i+1) 0) (fun _=>[]) (fun _=>z) (fun _=>zn) (fun i=>C.length - i) _ (fun i hI=>?_) 0 h1n
 obtain⟨x,hx⟩: ∃x,C[i]? =some x:=⟨_,List.getElem?_eq_getElem hI⟩
 by_cases hi:i+1<C.length
 ·obtain⟨y,hy⟩: ∃y,C[i+1]? =some y:=⟨_,List.getElem?_eq_getElem hi⟩
  have hc:=hS i (i+1) x y (by omega) hx hy
  have r1:=kv hx
  have r2:=kv hy
  have hc':Value.bool (decide (qw y.fz1 y.aq y.aH x.fz1 x.aq x.aH<0))= .bool false:=by rw[hc]
  have w1:Value.int .i64 (IntKind.i64.wrap (((i+1:Nat):Int) - 1))=Value.int .i64 (((i+1:Nat):Int) - 1):=qJ (by omega) (by omega)
  have d1:decide (((i+1:Nat):Int)<(C.length:Int))=true:=by simp;omega
  refine t100 (Zr z zn kk C.length i (Ao C) x y (aj _ _ _ _ _ _ _ _ _) ⟨fun _=>?_,nC1 d1⟩)
  (repeat' first|(with_reducible first|exact rfl|assumption|apply And.intro|exact(by omega:((i+1:Nat):Int) - 1=(i:Int))|exact bK (by omega))|exact(rfl:gS _ _=_))
  all_goals first
   |exact⟨i+1,rfl,rfl,rfl,rfl,rfl,hi,by show C.length - (i+1)<C.length - i;omega⟩
 ·have d1:decide (((i+1:Nat):Int)<(C.length:Int))=false:=by simp;omega
  refine t100 (Zr z zn kk C.length i (Ao C) x x (aj _ _ _ _ _ _ _ _ _) ⟨nC1 d1,fun _=>?_⟩)
  have e:i+1=C.length:=by omega
  rw[←e]
  (repeat' first|(with_reducible first|exact rfl|assumption|apply And.intro))
  all_goals exact bw trivial
theorem KD(hz:ax z zn)(hk:z.get kk=some (.ak (Ao C)))(hS:oH C){n:Nat}(hn:n=C.length)(h1n:1<=n)(hs:C.length<100000):
 ai prog (ah (ag f220) 0) 0 141 (jm kk n 1 0) [] 0 z zn (Al.R (Sj z zn kk n).l):=by
 have hL:=KC hz hk hS hn h1n hs
 refine an hD (lL z) (α:=Unit) 0 141 0 (fun _=>True) (fun _=>jm kk n 1 0) (fun _=>[]) (fun _=>z) (fun _=>zn) (fun _=>0) _ (fun i hI=>?_) () trivial
 have hb:Value.bool ((n:Int)==(n:Int))=Value.bool true:=by simp
 refine t100 (jq0 z zn kk n (aj _ _ _ _ _ _ _ _ _) ?_)
 (repeat' first|(with_reducible first|exact rfl|assumption|apply And.intro)|exact hL|intro hq)
 all_goals first
  |exact bw trivial
theorem PL(hz:ax z zn)(hk:z.get kk=some (.ak (Ao C)))(hS:oH C){n:Nat}(hn:n=C.length)(h1n:1<=n)(hs:C.length<100000):
 A1 z zn 220 [tb kk n n,I 0,iv n,im] [] 0 0 T1 []:=by
 have hL:=KD hz hk hS hn h1n hs
 refine aK1 (lL z) (fn:=f220) hz (N:=100) ?_
 refine jq z zn kk n _ ?_
 (repeat' first|(with_reducible first|exact rfl|assumption|apply And.intro|exact q1)|exact hL|intro hq)
theorem S6(hz:ax z zn)(hk:z.get kk=some (.ak (Ao C)))(hS:oH C){n:Nat}(hn:n=C.length)(hs:C.length<100000)(l:Nat)(hl:12<n->0<l):
 A1 z zn 184 [tb kk n n,I 0,iv n,iv l,im] [] 0 0 (.tuple ⟨[]⟩) []:=by
 have hL:ai prog (ah (ag f184) 0) 0 148 (tP (tb kk n n) n l) [] 0 z zn (Al.R (Sm z zn (tb kk n n) n l).l):=by
  refine an hD (lL z) (α:=Unit) 0 148 0 (fun _=>True) (fun _=>tP (tb kk n n) n l) (fun _=>[]) (fun _=>z) (fun _=>zn) (fun _=>0) _ (fun i hI=>?_) () trivial
  have w0:Value.int .i64 (IntKind.i64.wrap ((n:Int) - 0))=Value.int .i64 ((n:Int) - 0):=qJ (by omega) (by omega)
  refine t100 (jp0 z zn kk n l (n / 4*2) (aj _ _ _ _ _ _ _ _ _) ⟨w0,?_⟩)
  by_cases h12:n<=12
  ·have d1:decide ((n:Int) - 0<=12)=true:=by simp;omega
   have h1:=Td hz hk hS hn hs
   refine⟨fun _=>?_,nC1 d1⟩
   (repeat' first|(with_reducible first|exact rfl|assumption|apply And.intro)|intro hq)
   all_goals exact bw trivial
  ·have d1:decide ((n:Int) - 0<=12)=false:=by simp;omega
   have h1:=Xk hz hk hS hn (by omega) hs
   have h2:=PL hz hk hS hn (by omega) hs
   have hl0:Value.bool ((l:Int)==0)=Value.bool false:=by
    have:=hl (by omega)
    rw[show((l:Int)==0)=false by simp;omega]
   refine⟨nC1 d1,fun _=>?_⟩
   (repeat' first|(with_reducible first|exact rfl|assumption|apply And.intro)|intro hq)
   all_goals exact bw trivial
 refine aK1 (lL z) (fn:=f184) hz (N:=100) ?_
 refine jp z zn n l kk _ ?_
 (repeat' first|(with_reducible first|exact rfl|assumption|apply And.intro|exact q1)|exact hL|intro hq)
theorem PK(hz:ax z zn)(l:Nat):A1 z zn 184 [az,I 0,iv 0,iv l,im] [] 0 0 (.tuple ⟨[]⟩) []:=by
 have hL:ai prog (ah (ag f184) 0) 0 148 (tP az 0 l) [] 0 z zn (Al.R (Sm z zn az 0 l).l):=by
  refine an hD (lL z) (α:=Unit) 0 148 0 (fun _=>True) (fun _=>tP az 0 l) (fun _=>[]) (fun _=>z) (fun _=>zn) (fun _=>0) _ (fun i hI=>?_) () trivial
  refine t100 (Wz z zn l (aj _ _ _ _ _ _ _ _ _) ?_)
  have h1:=PO hz
  (repeat' first|(with_reducible first|exact rfl|assumption|apply And.intro)|exact h1|intro hq)
  all_goals exact bw trivial
 refine aK1 (lL z) (fn:=f184) hz (N:=100) ?_
 refine jpz z zn l _ ?_
 (repeat' first|(with_reducible first|exact rfl|assumption|apply And.intro|exact q1)|exact hL|intro hq)
theorem IM(hz:ax z zn){n:Nat}(h:n<100000):A1 z zn 108 [.int .u64 (IntKind.u64.wrap (n:Int))] [] 0 0 (iv (Lib.bitLen n)) []:=by
 have:IntKind.u64.wrap (n:Int)=(n:Int):=by
  simp only[IntKind.wrap,IntKind.signed,IntKind.bits]
  simp
  omega
 rw[this]
 refine I3 hz rfl rfl fun w=>?_
 have:=bitsLen (n:Int) w (by omega) (by omega)
 rw[Int.toNat_natCast] at this
 exact this
theorem Cl{n:Nat}(h:12<n):0<Lib.bitLen n:=by
 unfold Lib.bitLen Lib.bitLenAux
 rw[if_neg (by omega)];omega
theorem PD(hz:ax z zn)(hk:z.get kk=some (.ak (Ao C)))(hS:oH C){n:Nat}(hn:n=C.length)(hs:C.length<100000):
 A1 z zn 125 [tb kk n n,im] [] 0 0 (.tuple ⟨[]⟩) []:=by
 have h1:=IM hz (n:=n) (by omega)
 have h2:=S6 hz hk hS hn hs (Lib.bitLen n) Cl
 refine aK1 (lL z) (fn:=f125) hz (N:=100) ?_
 refine js z zn kk n (Lib.bitLen n) _ ?_
 (repeat' first|(with_reducible first|exact rfl|assumption|apply And.intro|exact q1)|intro hq)
theorem LF(hz:ax z zn):A1 z zn 125 [az,im] [] 0 0 (.tuple ⟨[]⟩) []:=by
 have h1:A1 z zn 108 [.int .u64 0] [] 0 0 (iv (Lib.bitLen 0)) []:=IM hz (n:=0) (by omega)
 have h2:=PK hz (Lib.bitLen 0)
 refine aK1 (lL z) (fn:=f125) hz (N:=100) ?_
 refine jsz z zn (Lib.bitLen 0) _ ?_
 (repeat' first|(with_reducible first|exact rfl|assumption|apply And.intro|exact q1)|exact h2|intro hq)
end
theorem vy{C:List ae}(hS:oH C)(hs:C.length<100000):j7 C:=fun z zn s h=>by
 obtain⟨oa,k,z',zn'⟩:=s
 have hz:=h.bL
 rcases h.val with ⟨h1,h2,h3⟩|⟨h1,kk,k1,k2,h2,h3,h4⟩<;>simp only at h2 h3 hz
 ·subst h2 h3
  exact LF hz
 ·simp only at h4
  subst h2 h3
  exact PD hz h4 hS rfl hs
def TI(pv:Value):Prop:=(∃m cp,pv=tb 4 m cp)\/pv=az
def eB(k:Nat):List Value:=List.replicate k (I 1099511627776)
theorem AM(k:Nat):(eB k).length=k:=by simp[eB]
theorem wT(k:Nat):eB (k+1)=eB k++[I 1099511627776]:=by simp[eB,List.replicate_succ']
theorem tv(k:Nat):bA (eB k)=true:=by
 rw[cQ];intro v hv;rw[(List.mem_replicate.1 hv).2];rfl
theorem jh(σ:Nat->Option Nat)(k c:Nat)(x y:Bool):aG σ (.ak (aY.mk (eB k) c 1 3 x y 0 true))=some (.ak (aY.mk (eB k) c 1 3 x y 0 true)):=cN (tv k)
abbrev yQ(cs:List Value)(n:Nat):aY:=⟨cs,n*1,1,3,false,false,0,true⟩
abbrev Qu(cs:List Value)(k:Nat):aY:=⟨cs,k*1,1,138,false,false,0,true⟩
def dF(b n i:Nat):aY:=if i=0 then ⟨[],0,1,138,true,true,0,true⟩ else Qu (lE b n i) i
section
variable{z:T aa}{zn:Nat}
theorem G1(hz:ax z zn)(pv:Value)(hp:TI pv)(n:Nat)(h0:0<n)(hn:n<=64)(b:Bool)(i:Nat)(bl:aY)(hbl: ∀σ,aG (ay ((3,3)::σ) []) (.ak bl)=some (.ak bl)):
 ai prog (ah (ah (ag f95) 0) 0) 3 116 (kT pv n b i 0) [(3, .ak bl),(4,D4)] 5 z zn (Al.R (Ow z zn pv n b i (.ak bl) (eB n)).l):=by
 refine an hD (cO T.leaf) (α:=Nat) 3 116 5 (fun k=>k<=n) (fun k=>kT pv n b i k) (fun k=>[(3, .ak bl),(4,if k=0 then D4 else yR (eB k) k)]) (fun _=>z) (fun _=>zn) (fun k=>n - k) _ (fun k hk=>?_) 0 (Nat.zero_le _)
 have nx: ∀k',k'=k+1->k<n->aj (fun k=>k<=n) (fun k=>kT pv n b i k) (fun k=>[(3, .ak bl),(4,if k=0 then D4 else yR (eB k) k)]) 5 (fun _=>z) (fun _=>zn) (fun k=>n - k) (Al.R (Ow z zn pv n b i (.ak bl) (eB n)).l) k .normal (kT pv n b i k') [(3, .ak bl),(4,yR (eB k') k')] 5 z zn:=fun k' e h=>by
  subst e
  exact⟨k+1,rfl,by show _=[(3,aa.ak bl),(4,if k+1=0 then D4 else yR (eB (k+1)) (k+1))];rw[if_neg (Nat.succ_ne_zero _)],rfl,rfl,rfl,h,by show n - (k+1)<n - k;omega⟩
 by_cases hk0:k=0
 ·subst hk0
  have hc:decide ((0:Int)<(n:Int))=true:=by simp;omega
  rw[if_pos rfl]
  rcases hp with ⟨m,cp,rfl⟩|rfl
  ·refine t100 (Vu z zn n i m cp b bl (aj _ _ _ _ _ _ _ _ _) ⟨fun _=>?_,nC1 hc⟩)
   (repeat' first|(with_reducible first|exact rfl|assumption|apply And.intro|exact hbl _))
   exact nx 1 rfl h0
  ·refine t100 (Rw z zn n i b bl (aj _ _ _ _ _ _ _ _ _) ⟨fun _=>?_,nC1 hc⟩)
   (repeat' first|(with_reducible first|exact rfl|assumption|apply And.intro|exact hbl _))
   exact nx 1 rfl h0
 ·rw[if_neg hk0]
  by_cases hlt:k<n
  ·have hc:decide ((k:Int)<(n:Int))=true:=by simp;omega
   have hr: ∀σ c x y,aG σ (.ak (aY.mk (eB k++[I 1099511627776]) c 1 3 x y 0 true))=some (.ak (aY.mk (eB k++[I 1099511627776]) c 1 3 x y 0 true)):=fun σ c x y=>by rw[←wT];exact jh _ _ _ _ _
   have ey:aj (fun k=>k<=n) (fun k=>kT pv n b i k) (fun k=>[(3, .ak bl),(4,if k=0 then D4 else yR (eB k) k)]) 5 (fun _=>z) (fun _=>zn) (fun k=>n - k) (Al.R (Ow z zn pv n b i (.ak bl) (eB n)).l) k .normal (kT pv n b i (k+1)) [(3, .ak bl),(4,yR (eB k++[I 1099511627776]) (k+1))] 5 z zn:=by
    rw[←wT];exact nx (k+1) rfl hlt
   rcases hp with ⟨m,cp,rfl⟩|rfl
   ·refine t100 (X1 z zn n i k m cp b bl (eB k) (aj _ _ _ _ _ _ _ _ _) ⟨fun _=>?_,nC1 hc⟩)
    (repeat' first|(with_reducible first|exact rfl|assumption|apply And.intro|exact hbl _|exact hr _ _ _ _|exact(by rw[AM,Nat.mul_one]:(eB k).length=k*1)|exact(by omega:k+1<=1048576)|exact bK (by omega)))
    exact ey
   ·refine t100 (Rx z zn n i k b bl (eB k) (aj _ _ _ _ _ _ _ _ _) ⟨fun _=>?_,nC1 hc⟩)
    (repeat' first|(with_reducible first|exact rfl|assumption|apply And.intro|exact hbl _|exact hr _ _ _ _|exact(by rw[AM,Nat.mul_one]:(eB k).length=k*1)|exact(by omega:k+1<=1048576)|exact bK (by omega)))
    exact ey
  ·have hc:decide ((k:Int)<(n:Int))=false:=by simp;omega
   have:k=n:=by omega
   subst this
   rcases hp with ⟨m,cp,rfl⟩|rfl
   ·refine t100 (X1 z zn k i k m cp b bl (eB k) (aj _ _ _ _ _ _ _ _ _) ⟨nC1 hc,fun _=>?_⟩)
    (repeat' first|(with_reducible first|exact rfl|assumption|apply And.intro|exact hbl _|exact jh _ _ _ _ _))
    exact bw trivial
   ·refine t100 (Rx z zn k i k b bl (eB k) (aj _ _ _ _ _ _ _ _ _) ⟨nC1 hc,fun _=>?_⟩)
    (repeat' first|(with_reducible first|exact rfl|assumption|apply And.intro|exact hbl _|exact jh _ _ _ _ _))
    exact bw trivial
structure iN(z0:T aa)(n0 n i:Nat)(s:dh):Prop where
 bL:ax s.z s.zn
 zn:s.zn=n0+i
 ia: ∀k,k<n0->s.z.get k=z0.get k
 row: ∀j,j<i->s.z.get (n0+j)=some (.ak (yQ (eB n) n))
 bl:s.bl=dF n0 n i
theorem s9{σ:bk}(b n i c:Nat):aG (ay σ []) (.ak (aY.mk (lE b n i) c 1 138 false false 0 true))=some (.ak (aY.mk (lE b n i) c 1 138 false false 0 true)):=by
 have:=oX (σ:=ay σ []) (b:=b) (n:=n) (i:=i) fun j _=>CF σ _
 simp only[aG,this]
theorem dp{σ:bk}(b n i:Nat):aG (ay σ []) (.ak (dF b n i))=some (.ak (dF b n i)):=by
 unfold dF
 split
 ·rfl
 ·exact s9 _ _ _ _
theorem Ho{z0:T aa}{n0 n i:Nat}{z:T aa}(h:iN z0 n0 n i ⟨dF n0 n i,z,n0+i⟩):iN z0 n0 n (i+1) ⟨Qu (lE n0 n i++[tb (n0+i) n n]) (i+1),z.set (n0+i) (.ak (yQ (eB n) n)),n0+i+1⟩:=by
 have hz:ax z (n0+i):=h.bL
 refine⟨iT hz (tv n),rfl,fun k hk=>?_,fun j hj=>?_,?_⟩
 ·show(z.set (n0+i) _).get k=_
  rw[T.aK,if_neg (by omega)];exact h.ia k hk
 ·show(z.set (n0+i) _).get (n0+j)=_
  rw[T.aK]
  by_cases e:j=i
  ·subst e;rw[if_pos rfl]
  ·rw[if_neg (by omega)];exact h.row j (by omega)
 ·show _=dF n0 n (i+1)
  unfold dF
  rw[if_neg (Nat.succ_ne_zero _),oL]
theorem zU(z0:T aa)(n0:Nat)(ON:ax z0 n0)(h5:5<=n0)(pv:Value)(hp:TI pv)(n:Nat)(hn:n<=64)(b:Bool):
 ai prog (ah (ag f95) 0) 1 116 (pn pv n b 0) [(1,EO)] 2 z0 n0 (Al.R (Ox z0 n0 pv n b (iN z0 n0 n n)).l):=by
 refine an hD (cO T.leaf) (α:=Nat × T aa) 1 116 2 (fun t=>t.1<=n/\iN z0 n0 n t.1 ⟨dF n0 n t.1,t.2,n0+t.1⟩) (fun t=>pn pv n b t.1) (fun t=>[(1, .ak (dF n0 n t.1))]) (fun t=>t.2) (fun t=>n0+t.1) (fun t=>n - t.1) _ (fun t hI=>?_) (0,z0) ⟨Nat.zero_le _,ON,rfl,fun _ _=>rfl,fun j hj=>absurd hj (Nat.not_lt_zero _),rfl⟩
 obtain⟨i,z⟩:=t
 obtain⟨hi,hs⟩:=hI
 simp only at hi hs ⊢
 have hz:ax z (n0+i):=hs.bL
 have rX: ∀σ,aG (ay ((3,3)::σ) []) (.ak (dF n0 n i))=some (.ak (dF n0 n i)):=fun σ=>dp _ _ _
 have rT: ∀{σ:bk} {o:aa} {m cp:Nat},aT (ay σ [(n0+i,4,o)]) (tb 4 m cp)=some (tb 4 m cp):=fun {σ o m cp}=>by
  simp only[aT,mN (σ:=σ) (c:=4) (o:=o) (show 4≠n0+i by omega)]
 have rR: ∀σ o,aG (ay σ [(n0+i,4,o)]) (.ak (aY.mk (lE n0 n i++[tb (n0+i) n n]) ((i+1)*1) 1 138 false false 0 true))=some (.ak (aY.mk (lE n0 n i++[aU 4 n n]) ((i+1)*1) 1 138 false false 0 true)):=fun σ o=>by
  have q1:=oX (σ:=ay σ [(n0+i,4,o)]) (b:=n0) (n:=n) (i:=i) fun j hj=>mN (by omega)
  have q2:br (ay σ [(n0+i,4,o)]) [tb (n0+i) n n]=some [aU 4 n n]:=by
   have:=oY (σ:=σ) (k:=n0+i) (c:=4) (n:=n) (m:=n) (o:=o)
   simp only[br,this]
  simp only[aG,lW q1 q2]
 by_cases hlt:i<n
 ·have nx:aj (fun t:Nat × T aa=>t.1<=n/\iN z0 n0 n t.1 ⟨dF n0 n t.1,t.2,n0+t.1⟩) (fun t=>pn pv n b t.1) (fun t=>[(1, .ak (dF n0 n t.1))]) 2 (fun t=>t.2) (fun t=>n0+t.1) (fun t=>n - t.1) (Al.R (Ox z0 n0 pv n b (iN z0 n0 n n)).l) (i,z) .normal (pn pv n b (i+1)) [(1, .ak (Qu (lE n0 n i++[tb (n0+i) n n]) (i+1)))] 2 (z.set (n0+i) (.ak (yQ (eB n) n))) (n0+i+1):=by
   have e:dF n0 n (i+1)=Qu (lE n0 n i++[tb (n0+i) n n]) (i+1):=by
    unfold dF;rw[if_neg (Nat.succ_ne_zero _),oL]
   refine⟨(i+1,z.set (n0+i) (.ak (yQ (eB n) n))),rfl,?_,rfl,rfl,rfl,⟨hlt,?_⟩,by show n - (i+1)<n - i;omega⟩
   ·show _=[(1,aa.ak (dF n0 n (i+1)))]
    rw[e]
   ·have:=Ho hs
    rw[←e] at this;exact this
  have hl1:=G1 hz pv hp n (by omega) hn b i (dF n0 n i) rX
  by_cases hi0:i=0
  ·subst hi0
   have hc:decide ((0:Int)<(n:Int))=true:=by simp;omega
   rw[show dF n0 n 0=⟨[],0,1,138,true,true,0,true⟩ from rfl] at hl1 ⊢
   have rR':=fun σ o=>rR σ o
   rcases hp with ⟨m,cp,rfl⟩|rfl
   ·refine t100 (Ry z (n0+0) n m cp b (eB n) (aj _ _ _ _ _ _ _ _ _) ⟨fun _=>?_,nC1 hc⟩)
    (repeat' first|(with_reducible first|exact rfl|assumption|apply And.intro|exact rT|exact jh _ _ _ _ _|exact Nat.le_refl _|exact Nat.lt_succ_self _)|exact hl1|exact rR _ _|exact Nat.le_succ _|intro hq)
    exact nx
   ·refine t100 (Mu z (n0+0) n b (eB n) (aj _ _ _ _ _ _ _ _ _) ⟨fun _=>?_,nC1 hc⟩)
    (repeat' first|(with_reducible first|exact rfl|assumption|apply And.intro|exact jh _ _ _ _ _|exact Nat.le_refl _|exact Nat.lt_succ_self _)|exact hl1|exact rR _ _|exact Nat.le_succ _|intro hq)
    exact nx
  ·have hc:decide ((i:Int)<(n:Int))=true:=by simp;omega
   have eX:dF n0 n i=Qu (lE n0 n i) i:=by unfold dF;rw[if_neg hi0]
   rw[eX] at hl1 ⊢
   rcases hp with ⟨m,cp,rfl⟩|rfl
   ·refine t100 (X2 z (n0+i) n i m cp b (lE n0 n i) (eB n) (aj _ _ _ _ _ _ _ _ _) ⟨fun _=>?_,nC1 hc⟩)
    (repeat' first|(with_reducible first|exact rfl|assumption|apply And.intro|exact rT|exact rR _ _|exact s9 _ _ _ _|exact jh _ _ _ _ _|exact(by rw[oM,Nat.mul_one]:(lE n0 n i).length=i*1)|exact(by omega:i+1<=1048576)|exact bK (by omega)|exact Nat.le_refl _|exact Nat.lt_succ_self _)|exact hl1|exact Nat.le_succ _|intro hq)
    exact nx
   ·refine t100 (Rz z (n0+i) n i b (lE n0 n i) (eB n) (aj _ _ _ _ _ _ _ _ _) ⟨fun _=>?_,nC1 hc⟩)
    (repeat' first|(with_reducible first|exact rfl|assumption|apply And.intro|exact rR _ _|exact s9 _ _ _ _|exact jh _ _ _ _ _|exact(by rw[oM,Nat.mul_one]:(lE n0 n i).length=i*1)|exact(by omega:i+1<=1048576)|exact bK (by omega)|exact Nat.le_refl _|exact Nat.lt_succ_self _)|exact hl1|exact Nat.le_succ _|intro hq)
    exact nx
 ·have hin:i=n:=by omega
  subst hin
  have hc:decide ((i:Int)<(i:Int))=false:=by simp
  have fin:aj (fun t:Nat × T aa=>t.1<=i/\iN z0 n0 i t.1 ⟨dF n0 i t.1,t.2,n0+t.1⟩) (fun t=>pn pv i b t.1) (fun t=>[(1, .ak (dF n0 i t.1))]) 2 (fun t=>t.2) (fun t=>n0+t.1) (fun t=>i - t.1) (Al.R (Ox z0 n0 pv i b (iN z0 n0 i i)).l) (i,z) (.exit 0) [(0,pv),(1,iv i),(2, .bool b),(7,aU 1 i i)] [(1, .ak (dF n0 i i))] 2 z (n0+i):=
   Cs (k:=fun _=>eh) (⟨dF n0 i i,z,n0+i⟩:dh) hs rfl
  by_cases hi0:i=0
  ·subst hi0
   have hc:decide ((0:Int)<((0:Nat):Int))=false:=by simp
   rcases hp with ⟨m,cp,rfl⟩|rfl
   ·refine t100 (Ry z (n0+0) 0 m cp b (eB 0) (aj _ _ _ _ _ _ _ _ _) ⟨nC1 hc,fun _=>?_⟩)
    (repeat' first|(with_reducible first|exact rfl|assumption|apply And.intro))
    exact fin
   ·refine t100 (Mu z (n0+0) 0 b (eB 0) (aj _ _ _ _ _ _ _ _ _) ⟨nC1 hc,fun _=>?_⟩)
    (repeat' first|(with_reducible first|exact rfl|assumption|apply And.intro))
    exact fin
  ·have eX:dF n0 i i=Qu (lE n0 i i) i:=by unfold dF;rw[if_neg hi0]
   rw[eX] at fin ⊢
   rcases hp with ⟨m,cp,rfl⟩|rfl
   ·refine t100 (X2 z (n0+i) i i m cp b (lE n0 i i) (eB i) (aj _ _ _ _ _ _ _ _ _) ⟨nC1 hc,fun _=>?_⟩)
    (repeat' first|(with_reducible first|exact rfl|assumption|apply And.intro|exact s9 _ _ _ _))
   ·refine t100 (Rz z (n0+i) i i b (lE n0 i i) (eB i) (aj _ _ _ _ _ _ _ _ _) ⟨nC1 hc,fun _=>?_⟩)
    (repeat' first|(with_reducible first|exact rfl|assumption|apply And.intro|exact s9 _ _ _ _))
end
structure Fy(z0:T aa)(n0 n:Nat)(z:T aa)(M:Nat->Nat->Int):Prop where
 bL:ax z (n0+n)
 ia: ∀k,k<n0->z.get k=z0.get k
 row: ∀i,i<n-> ∃l:List Int,z.get (n0+i)=some (.ak (yQ (l.map zv) n))/\l.length=n/\ ∀j,j<n->l[j]? =some (M i j)
abbrev lh:Nat:=1099511627776
structure BM(n:Nat)(M:Nat->Nat->Int):Prop where
 le: ∀i j,i<n->j<n->M i j<=(lh:Int)
theorem pg{z0:T aa}{n0 n:Nat}{z:T aa}{M:Nat->Nat->Int}(h:Fy z0 n0 n z M){i j:Nat}(hi:i<n)(hj:j<n){l:List Int}(hl: ∀j,j<n->l[j]? =some (M i j)):aC prog (yQ (l.map zv) n) 3 (0+j*1)=some (zv (M i j)):=
 iR (d:=_) underlying3 rfl (by show(l.map zv)[j]? =_;rw[List.getElem?_map,hl j hj];rfl)
theorem Gw(l:List Int):bA (l.map zv)=true:=by
 rw[cQ];intro v hv
 obtain⟨x,_,rfl⟩:=List.mem_map.1 hv;rfl
theorem Dc{z0:T aa}{n0 n:Nat}{z:T aa}{M:Nat->Nat->Int}(h:Fy z0 n0 n z M){i j:Nat}(hi:i<n)(hj:j<n){l:List Int}(hll:l.length=n)(hl: ∀j,j<n->l[j]? =some (M i j))(w:Int):Fy z0 n0 n (z.set (n0+i) (.ak (yQ ((l.set j w).map zv) n))) (nB M i j w):=by
 refine⟨Am h.bL (by omega) fun σ _=>cN (Gw _),fun k hk=>?_,fun a ha=>?_⟩
 ·rw[T.aK,if_neg (by omega)];exact h.ia k hk
 ·by_cases e:a=i
  ·subst e
   refine⟨l.set j w,by rw[T.aK,if_pos rfl],by rw[List.length_set,hll],fun b hb=>?_⟩
   rw[List.getElem?_set]
   unfold nB
   by_cases e2:j=b
   ·subst e2;rw[if_pos rfl,if_pos (by omega),if_pos ⟨rfl,rfl⟩]
   ·rw[if_neg e2,if_neg (fun h=>e2 h.2.symm)];exact hl b hb
  ·obtain⟨l',k1,k2,k3⟩:=h.row a ha
   refine⟨l',by rw[T.aK,if_neg (by omega)];exact k1,k2,fun b hb=>?_⟩
   unfold nB
   rw[if_neg (fun h=>e h.1)];exact k3 b hb
theorem EN(b n i:Nat):(dF b n i).cells=lE b n i:=by
 unfold dF
 split
 ·rename_i e;subst e;rfl
 ·rfl
theorem NQ{b n m i:Nat}(h:i<m):(lE b n m)[i]? =some (tb (b+i) n n):=by
 unfold lE
 rw[List.getElem?_map,List.getElem?_range h];rfl
theorem pF{b n i:Nat}(h:i<n):aC prog (dF b n n) 138 (0+i*1)=some (tb (b+i) n n):=iR underlying138 rfl (by rw[EN];exact NQ h)
theorem PS{n:Nat}{M:Nat->Nat->Int}(h:BM n M)(i j:Nat){w:Int}(hw:w<=(lh:Int)):BM n (nB M i j w):=⟨fun a b ha hb=>by
 unfold nB;split
 ·exact hw
 ·exact h.le a b ha hb⟩
section
variable{z0:T aa}{n0:Nat}
def FW(z0:T aa)(n0 n:Nat)(E:bP)(k i j:Nat)(z:T aa):Prop:= ∃M,Fy z0 n0 n z M/\BM n M/\Ql E n lh k i j M
theorem FW.bL{n:Nat}{E:bP}{k i j:Nat}{z:T aa}(h:FW z0 n0 n E k i j z):ax z (n0+n):=by obtain⟨M,h,_⟩:=h;exact h.bL
theorem GY(n:Nat)(hn:n<=64)(E:bP)(k i:Nat)(hk:k<n)(hi:i<n)(z:T aa)(hz:FW z0 n0 n E k i 0 z):
 ai prog (ah (ah (ah (ag f95) 3) 0) 0) 2 116 (Ei n k i 0) [(1, .ak (dF n0 n n))] 2 z (n0+n) (Al.R (Wf (n0+n) n k i (dF n0 n n) (FW z0 n0 n E k i n)).l):=by
 refine an hD (cO T.leaf) (α:=Nat × T aa) 2 116 2 (fun t=>t.1<=n/\FW z0 n0 n E k i t.1 t.2) (fun t=>Ei n k i t.1) (fun t=>[(1, .ak (dF n0 n n))]) (fun t=>t.2) (fun t=>n0+n) (fun t=>n - t.1) _ (fun t hI=>?_) (0,z) ⟨Nat.zero_le _,hz⟩
 obtain⟨j,z⟩:=t
 obtain⟨hj,hs⟩:=hI
 simp only at hj hs ⊢
 have hfz:=hs.bL
 obtain⟨M,h1,h2,h3⟩:=hs
 by_cases hlt:j<n
 ·have hc:decide ((j:Int)<(n:Int))=true:=by simp;omega
  obtain⟨li,i1,i2,i3⟩:=h1.row i hi
  obtain⟨lk,k1,k2,k3⟩:=h1.row k hk
  have r1:=pg h1 hi hlt i3
  have r2:=pg h1 hi hk i3
  have r3:=pg h1 hk hlt k3
  have d1:aC prog (dF n0 n n) 138 (0+i*1)=_:=pF hi
  have d2:aC prog (dF n0 n n) 138 (0+k*1)=_:=pF hk
  have b1:=h2.le i j hi hlt
  have b2:=h2.le i k hi hk
  have b3:=h2.le k j hk hlt
  have c2:=(h3.real i k hi hk).1
  have c3:=(h3.real k j hk hlt).1
  have hbig:(lh:Int)=1099511627776:=rfl
  have hwr:Value.int .i64 (IntKind.i64.wrap (M i k+M k j))=Value.int .i64 (M i k+M k j):=iY (by omega) (by omega)
  have hw:(if M i k+M k j<M i j then M i k+M k j else M i j)=min (M i j) (M i k+M k j):=by
   split<;>omega
  have ov:overwrite (yQ (li.map zv) n).cells (0+j*1) [zv (if M i k+M k j<M i j then M i k+M k j else M i j)]=some ((li.set j (min (M i j) (M i k+M k j))).map zv):=by
   rw[hw,o9 (cs:=li.map zv) (by simp;omega),←List.map_set]
  have hset:=Dc h1 hi hlt i2 i3 (min (M i j) (M i k+M k j))
  have hfw:FW z0 n0 n E k i (j+1) (z.set (n0+i) (.ak (yQ ((li.set j (min (M i j) (M i k+M k j))).map zv) n))):=⟨_,hset,PS h2 i j (by omega),GL h3 hk hi hlt⟩
  have hfz2:=hfw.bL
  have hl:((li.set j (min (M i j) (M i k+M k j))).map zv).length<=n*1:=by simp[i2]
  refine t100 (XX z (n0+n) n k i j (n0+i) (n0+k) (dF n0 n n) (yQ (li.map zv) n) (yQ (lk.map zv) n) (M i j) (M i k) (M k j) (min (M i j) (M i k+M k j)) ((li.set j (min (M i j) (M i k+M k j))).map zv) (aj _ _ _ _ _ _ _ _ _) ⟨fun _=>?_,nC1 hc⟩)
  (repeat' first|(with_reducible first|exact rfl|assumption|apply And.intro|exact dp _ _ _|exact bK (by omega)))
  exact⟨(j+1,_),rfl,rfl,rfl,rfl,rfl,⟨hlt,hfw⟩,by show n - (j+1)<n - j;omega⟩
 ·have hjn:j=n:=by omega
  subst hjn
  have hc:decide ((j:Int)<(j:Int))=false:=by simp
  refine t100 (XX z (n0+j) j k i j 0 0 (dF n0 j j) ⟨[],0,0,0,true,true,0,true⟩ ⟨[],0,0,0,true,true,0,true⟩ 0 0 0 0 [] (aj _ _ _ _ _ _ _ _ _) ⟨nC1 hc,fun _=>?_⟩)
  (repeat' first|(with_reducible first|exact rfl|assumption|apply And.intro|exact dp _ _ _))
  exact Cs (k:=fun _=>eh) z ⟨M,h1,h2,h3⟩ rfl
theorem GZ(n:Nat)(hn:n<=64)(E:bP)(k:Nat)(hk:k<n)(z:T aa)(hz:FW z0 n0 n E k 0 0 z):
 ai prog (ah (ah (ag f95) 3) 0) 2 116 (xB n k 0) [(1, .ak (dF n0 n n))] 2 z (n0+n) (Al.R (Wg (n0+n) n k (dF n0 n n) (FW z0 n0 n E k n 0)).l):=by
 refine an hD (cO T.leaf) (α:=Nat × T aa) 2 116 2 (fun t=>t.1<=n/\FW z0 n0 n E k t.1 0 t.2) (fun t=>xB n k t.1) (fun t=>[(1, .ak (dF n0 n n))]) (fun t=>t.2) (fun t=>n0+n) (fun t=>n - t.1) _ (fun t hI=>?_) (0,z) ⟨Nat.zero_le _,hz⟩
 obtain⟨i,z⟩:=t
 obtain⟨hi,hs⟩:=hI
 simp only at hi hs ⊢
 have hfz:=hs.bL
 by_cases hlt:i<n
 ·have hc:decide ((i:Int)<(n:Int))=true:=by simp;omega
  have hlp:=GY n hn E k i hk hlt z hs
  refine t100 (XY z (n0+n) n k i (dF n0 n n) (FW z0 n0 n E k i n) (aj _ _ _ _ _ _ _ _ _) ⟨fun _=>?_,nC1 hc⟩)
  (repeat' first|(with_reducible first|exact rfl|assumption|apply And.intro|exact FW.bL ‹_›|exact dp _ _ _|exact bK (by omega))|exact hlp|intro hq)
  rename_i x
  obtain⟨M,m1,m2,m3⟩:=hq
  exact⟨(i+1,x),rfl,rfl,rfl,rfl,rfl,⟨hlt,M,m1,m2,Kj m3⟩,by show n - (i+1)<n - i;omega⟩
 ·have hin:i=n:=by omega
  subst hin
  have hc:decide ((i:Int)<(i:Int))=false:=by simp
  refine t100 (XY z (n0+i) i k i (dF n0 i i) (fun _=>False) (aj _ _ _ _ _ _ _ _ _) ⟨nC1 hc,fun _=>?_⟩)
  (repeat' first|(with_reducible first|exact rfl|assumption|apply And.intro|exact dp _ _ _))
  exact Cs (k:=fun _=>eh) z hs rfl
def FH(z0:T aa)(n0 n:Nat)(E:bP)(k:Nat)(z:T aa):Prop:= ∃M,Fy z0 n0 n z M/\BM n M/\Head E n lh k M
theorem FH.bL{n:Nat}{E:bP}{k:Nat}{z:T aa}(h:FH z0 n0 n E k z):ax z (n0+n):=by obtain⟨M,h,_⟩:=h;exact h.bL
theorem zS(n:Nat)(hn:n<=64)(E:bP)(z:T aa)(hz:FH z0 n0 n E 0 z):
 ai prog (ah (ag f95) 3) 2 116 (qu n 0) [(1, .ak (dF n0 n n))] 2 z (n0+n) (Al.R (Ov n ⟨dF n0 n n,z,n0+n⟩ (FH z0 n0 n E n)).l):=by
 refine an hD (cO T.leaf) (α:=Nat × T aa) 2 116 2 (fun t=>t.1<=n/\FH z0 n0 n E t.1 t.2) (fun t=>qu n t.1) (fun t=>[(1, .ak (dF n0 n n))]) (fun t=>t.2) (fun t=>n0+n) (fun t=>n - t.1) _ (fun t hI=>?_) (0,z) ⟨Nat.zero_le _,hz⟩
 obtain⟨k,z⟩:=t
 obtain⟨hk,hs⟩:=hI
 simp only at hk hs ⊢
 have hfz:=hs.bL
 by_cases hlt:k<n
 ·have hc:decide ((k:Int)<(n:Int))=true:=by simp;omega
  have hlp:=GZ (z0:=z0) (n0:=n0) n hn E k hlt z (by obtain⟨M,m1,m2,m3⟩:=hs;exact⟨M,m1,m2,Ef m3⟩)
  refine t100 (XZ z (n0+n) n k (dF n0 n n) (FW z0 n0 n E k n 0) (aj _ _ _ _ _ _ _ _ _) ⟨fun _=>?_,nC1 hc⟩)
  (repeat' first|(with_reducible first|exact rfl|assumption|apply And.intro|exact FW.bL ‹_›|exact dp _ _ _|exact bK (by omega))|exact hlp|intro hq)
  rename_i x
  obtain⟨M,m1,m2,m3⟩:=hq
  exact⟨(k+1,x),rfl,rfl,rfl,rfl,rfl,⟨hlt,M,m1,m2,Kk m3⟩,by show n - (k+1)<n - k;omega⟩
 ·have hkn:k=n:=by omega
  subst hkn
  have hc:decide ((k:Int)<(k:Int))=false:=by simp
  refine t100 (XZ z (n0+k) k k (dF n0 k k) (fun _=>False) (aj _ _ _ _ _ _ _ _ _) ⟨nC1 hc,fun _=>?_⟩)
  (repeat' first|(with_reducible first|exact rfl|assumption|apply And.intro|exact dp _ _ _))
  exact Cs (k:=fun _=>eh) z hs rfl
end
def eF(l:List ae)(b:Bool):List (Nat × Nat × Nat):=(l.filter (eP b)).map fun p=>(p.fz1.toNat,p.aq.toNat,p.aH.toNat)
theorem GU{l:List ae}{b:Bool}{i:Nat}{x:ae}(hx:l[i]? =some x)(hu:eP b x=true):eF (l.take (i+1)) b=eF (l.take i) b++[(x.fz1.toNat,x.aq.toNat,x.aH.toNat)]:=by
 unfold eF
 rw[List.take_add_one,hx]
 simp[List.filter_append,hu]
theorem Ko{l:List ae}{b:Bool}{i:Nat}{x:ae}(hx:l[i]? =some x)(hu:eP b x=false):eF (l.take (i+1)) b=eF (l.take i) b:=by
 unfold eF
 rw[List.take_add_one,hx]
 simp[List.filter_append,hu]
def FE(z0:T aa)(n0 n:Nat)(L:List (Nat × Nat × Nat))(z:T aa):Prop:= ∃M,Fy z0 n0 n z M/\A4 L n lh M
section
variable{z0:T aa}{n0:Nat}
theorem FE.bL{n:Nat}{L:List (Nat × Nat × Nat)}{z:T aa}(h:FE z0 n0 n L z):ax z (n0+n):=by obtain⟨M,h,_⟩:=h;exact h.bL
theorem FE.head{n:Nat}{L:List (Nat × Nat × Nat)}{z:T aa}(h:FE z0 n0 n L z):FH z0 n0 n (cT L) 0 z:=by
 obtain⟨M,h1,h2⟩:=h
 exact⟨M,h1,⟨fun i j hi hj=>(h2 i j hi hj).2.1⟩,BW h2⟩
theorem Ar{n:Nat}{s:dh}(h:iN z0 n0 n n s):FE z0 n0 n [] s.z:=by
 refine⟨fun _ _=>(lh:Int),⟨?_,h.ia,fun i hi=>?_⟩,Ez n lh⟩
 ·have:=h.bL;rw[h.zn] at this;exact this
 ·refine⟨List.replicate n (lh:Int),?_,List.length_replicate ..,fun j hj=>by simp[hj]⟩
  rw[h.row i hi]
  show some (aa.ak (yQ (eB n) n))=some (aa.ak (yQ ((List.replicate n (lh:Int)).map zv) n))
  rw[List.map_replicate];rfl
theorem G0(n:Nat)(hn:n<=64)(l:List ae)(hl:mJ n l)(hll:l.length<=10000)(cp:Nat)(hL0:bW z0 4 (l.map ae.row))(ON:ax z0 n0)(b:Bool)(s:dh)(hs:iN z0 n0 n n s):
 ai prog (ah (ag f95) 2) 2 116 (zH l.length cp n b 0) [(1, .ak s.bl)] 2 s.z s.zn (Al.R (RX l.length cp n b s (FE z0 n0 n (eF l b))).l):=by
 have hst:=Ar hs
 obtain⟨bl,z,zn⟩:=s
 have e1:zn=n0+n:=hs.zn
 have e2:bl=dF n0 n n:=hs.bl
 subst e1 e2
 refine an hD (cO T.leaf) (α:=Nat × T aa) 2 116 2 (fun t=>t.1<=l.length/\FE z0 n0 n (eF (l.take t.1) b) t.2) (fun t=>zH l.length cp n b t.1) (fun t=>[(1, .ak (dF n0 n n))]) (fun t=>t.2) (fun t=>n0+n) (fun t=>l.length - t.1) _ (fun t hI=>?_) (0,z) ⟨Nat.zero_le _,hst⟩
 obtain⟨i,z⟩:=t
 obtain⟨hi,hs⟩:=hI
 simp only at hi hs ⊢
 have hfz:=hs.bL
 by_cases hlt:i<l.length
 ·obtain⟨x,hx⟩:=ez hlt
  have hc:decide ((i:Int)<(l.length:Int))=true:=by simp;omega
  obtain⟨p1,p2,p3,p4,_,p6,p7⟩:=hl.ok x (List.mem_of_getElem? hx)
  obtain⟨M,h1,h2⟩:=hs
  have hL:=kh hL0 ON h1.ia
  obtain⟨el,hel⟩:=hL.ak (i:=i) (by simp;omega)
  have r0:aC prog (bc el (l.map ae.row).flatten) 82 (0+i*4)=some (.agg ⟨x.row⟩):=bC (r:=x.row) (sz:=4) underlying82 rfl rfl (aM (row:=ae.row) (sz:=4) l fun _=>rfl) (by rw[List.getElem?_map,hx];rfl)
  have hf:x.fz1.toNat<n:=by omega
  have ht:x.aq.toNat<n:=by omega
  have ef:x.fz1=(x.fz1.toNat:Int):=by omega
  have et:x.aq=(x.aq.toNat:Int):=by omega
  obtain⟨li,i1,i2,i3⟩:=h1.row _ hf
  have r1:=pg h1 hf ht i3
  have d1:aC prog (dF n0 n n) 138 (0+x.fz1.toNat*1)=_:=pF hf
  have hw:(if x.aH<M x.fz1.toNat x.aq.toNat then x.aH else M x.fz1.toNat x.aq.toNat)=min (M x.fz1.toNat x.aq.toNat) (x.aH.toNat:Int):=by
   split<;>omega
  have ov:overwrite (yQ (li.map zv) n).cells (0+x.aq.toNat*1) [zv (if x.aH<M x.fz1.toNat x.aq.toNat then x.aH else M x.fz1.toNat x.aq.toNat)]=some ((li.set x.aq.toNat (min (M x.fz1.toNat x.aq.toNat) (x.aH.toNat:Int))).map zv):=by
   rw[hw,o9 (cs:=li.map zv) (by simp;omega),←List.map_set]
  have hset:=Dc h1 hf ht i2 i3 (min (M x.fz1.toNat x.aq.toNat) (x.aH.toNat:Int))
  have hfz2:=hset.bL
  have hlen:((li.set x.aq.toNat (min (M x.fz1.toNat x.aq.toNat) (x.aH.toNat:Int))).map zv).length<=n*1:=by simp[i2]
  have nx: ∀z',FE z0 n0 n (eF (l.take (i+1)) b) z'->aj (fun t:Nat × T aa=>t.1<=l.length/\FE z0 n0 n (eF (l.take t.1) b) t.2) (fun t=>zH l.length cp n b t.1) (fun t=>[(1, .ak (dF n0 n n))]) 2 (fun t=>t.2) (fun t=>n0+n) (fun t=>l.length - t.1) (Al.R (RX l.length cp n b ⟨dF n0 n n,z,n0+n⟩ (FE z0 n0 n (eF l b))).l) (i,z) .normal (zH l.length cp n b (i+1)) [(1, .ak (dF n0 n n))] 2 z' (n0+n):=fun z' h=>
   ⟨(i+1,z'),rfl,rfl,rfl,rfl,rfl,⟨hlt,h⟩,by show l.length - (i+1)<l.length - i;omega⟩
  have yes:eP b x=true->FE z0 n0 n (eF (l.take (i+1)) b) (z.set (n0+x.fz1.toNat) (.ak (yQ ((li.set x.aq.toNat (min (M x.fz1.toNat x.aq.toNat) (x.aH.toNat:Int))).map zv) n))):=fun h=>⟨_,hset,by rw[GU hx h];exact BV h2 _ _ _⟩
  have no:eP b x=false->FE z0 n0 n (eF (l.take (i+1)) b) z:=fun h=>⟨M,h1,by rw[Ko hx h];exact h2⟩
  have u1:x.sf=true->eP b x=true:=fun h=>by unfold eP;rw[h,Bool.or_true]
  have u2:x.sf=false->(!b)=true->eP b x=true:=fun h h2=>by unfold eP;rw[h2,Bool.true_or]
  have u3:x.sf=false->(!b)=false->eP b x=false:=fun h h2=>by unfold eP;rw[h,h2];rfl
  refine t100 (X0 z (n0+n) l.length cp n i x.fz1.toNat x.aq.toNat (n0+x.fz1.toNat) b (dF n0 n n) (bc el (l.map ae.row).flatten) (yQ (li.map zv) n) x (M x.fz1.toNat x.aq.toNat) 0 ((li.set x.aq.toNat (min (M x.fz1.toNat x.aq.toNat) (x.aH.toNat:Int))).map zv) (aj _ _ _ _ _ _ _ _ _) ⟨fun _=>?_,nC1 hc⟩)
  (repeat' first|(with_reducible first|exact rfl|assumption|apply And.intro|exact dp _ _ _|exact bK (by omega))|intro hq)
  all_goals first
   |exact nx _ (yes (u1 (by with_reducible assumption)))
   |exact nx _ (yes (u2 (by with_reducible assumption) (by with_reducible assumption)))
   |exact nx _ (no (u3 (by with_reducible assumption) (by with_reducible assumption)))
 ·have hil:i=l.length:=by omega
  have hc:decide ((i:Int)<(l.length:Int))=false:=by simp;omega
  refine t100 (X0 z (n0+n) l.length cp n i 0 0 0 b (dF n0 n n) ⟨[],0,0,0,true,true,0,true⟩ ⟨[],0,0,0,true,true,0,true⟩ ⟨0,0,0,true⟩ 0 0 [] (aj _ _ _ _ _ _ _ _ _) ⟨nC1 hc,fun _=>?_⟩)
  (repeat' first|(with_reducible first|exact rfl|assumption|apply And.intro|exact dp _ _ _))
  refine Cs (k:=fun _=>eh) z ?_ rfl
  rw[hil,List.take_of_length_le (Nat.le_refl _)] at hs
  exact hs
def nL(z:T aa)(zn n:Nat)(l:List ae)(b:Bool)(s:dh):Prop:=s.bl=dF zn n n/\s.zn=zn+n/\FH z zn n (cT (eF l b)) n s.z
theorem nL.bL{z:T aa}{zn n:Nat}{l:List ae}{b:Bool}{s:dh}(h:nL z zn n l b s):ax s.z s.zn:=by
 rw[h.2.1];exact h.2.2.bL
theorem Dv(hz:ax z0 n0)(h5:5<=n0)(n:Nat)(hn:n<=64)(l:List ae)(hl:mJ n l)(hll:l.length<=10000)(cp:Nat)(hL:bW z0 4 (l.map ae.row))(b:Bool):
 bB prog z0 n0 95 [tb 4 l.length cp,iv n, .bool b] [] 0 1 (nL z0 n0 n l b) (fun _=>aU 0 n n) (fun s=>[(0, .ak s.bl)]) (fun s=>s.z) (fun s=>s.zn):=by
 have h0:=zU z0 n0 hz h5 (tb 4 l.length cp) (.inl ⟨_,_,rfl⟩) n hn b
 have h2: ∀s,iN z0 n0 n n s->_:=fun s hs=>G0 n hn l hl hll cp hL hz b s hs
 have h3: ∀s z2,iN z0 n0 n n s->FE z0 n0 n (eF l b) z2->ai prog (ah (ag f95) 3) 2 116 (qu n 0) [(1, .ak s.bl)] 2 z2 s.zn (Al.R (Ov n s (FH z0 n0 n (cT (eF l b)) n)).l):=fun s z2 hs h=>by
  have e1:=hs.zn
  have e2:=hs.bl
  obtain⟨bl,z,zn⟩:=s
  simp only at e1 e2
  subst e1 e2
  exact zS n hn _ z2 h.head
 have rX: ∀s σ,iN z0 n0 n n s->aG (ay σ []) (.ak s.bl)=some (.ak s.bl):=fun s σ hs=>by rw[hs.bl];exact dp _ _ _
 have fe: ∀s z2,iN z0 n0 n n s->FE z0 n0 n (eF l b) z2->ax z2 s.zn:=fun s z2 hs h=>by rw[hs.zn];exact h.bL
 have fh: ∀s z2,iN z0 n0 n n s->FH z0 n0 n (cT (eF l b)) n z2->ax z2 s.zn:=fun s z2 hs h=>by rw[hs.zn];exact h.bL
 refine fJ (cO T.leaf) (fn:=f95) (by kernel_rfl) (by kernel_rfl) hz ⟨by decide,by decide⟩ (fun s hs=>⟨rfl,by rw[hs.2.1];omega,hs.bL⟩) (N:=100) ?_
 refine rs z0 n0 l.length cp n b (iN z0 n0 n n) (fun _=>FE z0 n0 n (eF l b)) (fun _ _=>FH z0 n0 n (cT (eF l b)) n) _ ?_
 (repeat' first|(with_reducible first|exact rfl|assumption|apply And.intro|exact iN.bL ‹_›|exact fe _ _ ‹_› ‹_›|exact fh _ _ ‹_› ‹_›|exact rX _ _ ‹_›)|exact h0|exact h2 _ (by with_reducible assumption)|exact h3 _ _ (by with_reducible assumption) (by with_reducible assumption)|intro hq)
 rename_i s hs z2 _ z3
 exact q2 (⟨s.bl,z3,s.zn⟩:dh) ⟨hs.bl,hs.zn,hq⟩ rfl rfl rfl rfl rfl
theorem Eu(n:Nat)(b:Bool)(s:dh)(hs:iN z0 n0 n n s):
 ai prog (ah (ag f95) 2) 2 116 (vT n b 0) [(1, .ak s.bl)] 2 s.z s.zn (Al.R (RW n b s).l):=by
 have hfz:=hs.bL
 have rX: ∀σ,aG (ay σ []) (.ak s.bl)=some (.ak s.bl):=fun σ=>by rw[hs.bl];exact dp _ _ _
 refine an hD (cO T.leaf) (α:=Unit) 2 116 2 (fun _=>True) (fun _=>vT n b 0) (fun t=>[(1, .ak s.bl)]) (fun t=>s.z) (fun t=>s.zn) (fun t=>0) _ (fun t hI=>?_) () trivial
 refine t100 (Vt s.z s.zn n 0 b s.bl (aj _ _ _ _ _ _ _ _ _) ?_)
 (repeat' first|(with_reducible first|exact rfl|assumption|apply And.intro|exact rX _))
 exact bw trivial
theorem AJ(hz:ax z0 n0)(h5:5<=n0)(n:Nat)(hn:n<=64)(b:Bool):
 bB prog z0 n0 95 [az,iv n, .bool b] [] 0 1 (nL z0 n0 n [] b) (fun _=>aU 0 n n) (fun s=>[(0, .ak s.bl)]) (fun s=>s.z) (fun s=>s.zn):=by
 have h0:=zU z0 n0 hz h5 az (.inr rfl) n hn b
 have h2: ∀s,iN z0 n0 n n s->_:=fun s hs=>Eu n b s hs
 have h3: ∀s,iN z0 n0 n n s->ai prog (ah (ag f95) 3) 2 116 (qu n 0) [(1, .ak s.bl)] 2 s.2 s.zn (Al.R (Ov n s (FH z0 n0 n (cT (eF [] b)) n)).l):=fun s hs=>by
  have h:=(Ar hs).head
  have e1:=hs.zn
  have e2:=hs.bl
  obtain⟨bl,z,zn⟩:=s
  simp only at e1 e2
  subst e1 e2
  exact zS n hn _ z h
 have rX: ∀s σ,iN z0 n0 n n s->aG (ay σ []) (.ak s.bl)=some (.ak s.bl):=fun s σ hs=>by rw[hs.bl];exact dp _ _ _
 have fh: ∀s z2,iN z0 n0 n n s->FH z0 n0 n (cT (eF [] b)) n z2->ax z2 s.zn:=fun s z2 hs h=>by rw[hs.zn];exact h.bL
 refine fJ (cO T.leaf) (fn:=f95) (by kernel_rfl) (by kernel_rfl) hz ⟨by decide,by decide⟩ (fun s hs=>⟨rfl,by rw[hs.2.1];omega,hs.bL⟩) (N:=100) ?_
 refine rsn z0 n0 n b (iN z0 n0 n n) (fun _=>FH z0 n0 n (cT (eF [] b)) n) _ ?_
 (repeat' first|(with_reducible first|exact rfl|assumption|apply And.intro|exact iN.bL ‹_›|exact fh _ _ ‹_› ‹_›|exact rX _ _ ‹_›)|exact h0|exact h2 _ (by with_reducible assumption)|exact h3 _ (by with_reducible assumption)|intro hq)
 rename_i s hs _ _ z3
 exact q2 (⟨s.bl,z3,s.zn⟩:dh) ⟨hs.bl,hs.zn,hq⟩ rfl rfl rfl rfl rfl
end
def da(L:List ae):aY:=if L=[] then FI else Qt (L.map ae.row).flatten L.length
theorem vH(L:List ae)(x:ae):da (L++[x])=Qt ((L.map ae.row).flatten++x.row) (L.length+1):=by
 unfold da
 rw[if_neg (by simp),jK,List.length_append];rfl
theorem GC(L:List ae)(x y:ae):da (L++[x]++[y])=Qt ((L.map ae.row).flatten++x.row++y.row) (L.length+1+1):=by
 rw[vH,←jK L x,List.length_append];rfl
def dK(M F:Nat->Nat->Int)(i:Nat)(L:List ae)(j:Nat):List ae:=
 if i=j\/14400<M i j then L else if M i j<F i j/\F i j<=14400 then L++[⟨i,j,M i j,F i j==M i j⟩]++[⟨i,j,F i j,true⟩] else L++[⟨i,j,M i j,F i j==M i j⟩]
def bI(M F:Nat->Nat->Int)(i:Nat)(L:List ae)(m:Nat):List ae:=(List.range m).foldl (dK M F i) L
def bS(M F:Nat->Nat->Int)(n m:Nat):List ae:=(List.range m).foldl (fun L i=>bI M F i L n) []
theorem jJ(M F:Nat->Nat->Int)(i:Nat)(L:List ae)(m:Nat):bI M F i L (m+1)=dK M F i (bI M F i L m) m:=by
 unfold bI;rw[List.range_succ,List.foldl_append];rfl
theorem hY(M F:Nat->Nat->Int)(n m:Nat):bS M F n (m+1)=bI M F m (bS M F n m) n:=by
 unfold bS;rw[List.range_succ,List.foldl_append];rfl
theorem yV(M F:Nat->Nat->Int)(i:Nat)(L:List ae)(j:Nat):(dK M F i L j).length<=L.length+2:=by
 unfold dK
 split
 ·omega
 ·split<;>simp
theorem tg(M F:Nat->Nat->Int)(i:Nat)(L:List ae)(m:Nat):(bI M F i L m).length<=L.length+2*m:=by
 induction m with
 |zero=>exact Nat.le_refl _
 |succ m ih=>rw[jJ];have:=yV M F i (bI M F i L m) m;omega
theorem nV(M F:Nat->Nat->Int)(n m:Nat):(bS M F n m).length<=m*(2*n):=by
 induction m with
 |zero=>exact Nat.zero_le _
 |succ m ih=>
  rw[hY]
  have:=tg M F m (bS M F n m) n
  have e:(m+1)*(2*n)=m*(2*n)+2*n:=Nat.succ_mul ..
  omega
theorem eR{σ:Nat->Option Nat}(L:List ae):aG σ (.ak (da L))=some (.ak (da L)):=by
 unfold da
 split
 ·rfl
 ·exact cN (jk L)
theorem CM{σ:Nat->Option Nat}(L:List ae)(x y:ae)(c:Nat):aG σ (.ak (aY.mk ((L.map ae.row).flatten++x.row++y.row) c 4 82 false false 0 true))=some (.ak (aY.mk ((L.map ae.row).flatten++x.row++y.row) c 4 82 false false 0 true)):=cN (by
 rw[jK,jK];exact jk _)
def rp(z:T aa)(b n:Nat)(M:Nat->Nat->Int):Prop:= ∀i,i<n-> ∃l:List Int,z.get (b+i)=some (.ak (yQ (l.map zv) n))/\l.length=n/\ ∀j,j<n->l[j]? =some (M i j)
theorem sU{z:T aa}{b n:Nat}{M:Nat->Nat->Int}(h:rp z b n M){i j:Nat}(hi:i<n)(hj:j<n): ∃k,z.get (b+i)=some (.ak k)/\aC prog k 3 (0+j*1)=some (zv (M i j)):=by
 obtain⟨l,h1,h2,h3⟩:=h i hi
 exact⟨_,h1,iR (d:=_) underlying3 rfl (by show(l.map zv)[j]? =_;rw[List.getElem?_map,h3 j hj];rfl)⟩
section
variable{z:T aa}{zn:Nat}
theorem He(hz:ax z zn)(n:Nat)(hn:n<=64)(b1 b2:Nat)(M F:Nat->Nat->Int)(hM:rp z b1 n M)(hF:rp z b2 n F)(i:Nat)(hi:i<n)(L:List ae)(hL:L.length<=10000):
 ai prog (ah (ah (ag f66) 0) 0) 4 107 (u9 n L.length i 0) (p9 (dF b1 n n) (dF b2 n n) (da L)) 5 z zn (Al.R (Oz z zn n L.length i (dF b1 n n) (dF b2 n n) (da L) (fun s=>s=⟨(bI M F i L n).length,da (bI M F i L n)⟩)).l):=by
 refine an hD (cO T.leaf) (α:=Nat) 4 107 5 (fun j=>j<=n) (fun j=>u9 n (bI M F i L j).length i j) (fun j=>p9 (dF b1 n n) (dF b2 n n) (da (bI M F i L j))) (fun _=>z) (fun _=>zn) (fun j=>n - j) _ (fun j hj=>?_) 0 (Nat.zero_le _)
 have hrl:=tg M F i L j
 have nx: ∀L' k' bl,bI M F i L (j+1)=L'->k'=L'.length->bl=da L'->j<n->aj (fun j=>j<=n) (fun j=>u9 n (bI M F i L j).length i j) (fun j=>p9 (dF b1 n n) (dF b2 n n) (da (bI M F i L j))) 5 (fun _=>z) (fun _=>zn) (fun j=>n - j) (Al.R (Oz z zn n L.length i (dF b1 n n) (dF b2 n n) (da L) (fun s=>s=⟨(bI M F i L n).length,da (bI M F i L n)⟩)).l) j .normal (u9 n k' i (j+1)) (p9 (dF b1 n n) (dF b2 n n) bl) 5 z zn:=fun L' k' bl e1 e2 e3 h=>by
  subst e1 e2 e3
  exact⟨j+1,rfl,rfl,rfl,rfl,rfl,h,by show n - (j+1)<n - j;omega⟩
 have fin:j=n->aj (fun j=>j<=n) (fun j=>u9 n (bI M F i L j).length i j) (fun j=>p9 (dF b1 n n) (dF b2 n n) (da (bI M F i L j))) 5 (fun _=>z) (fun _=>zn) (fun j=>n - j) (Al.R (Oz z zn n L.length i (dF b1 n n) (dF b2 n n) (da L) (fun s=>s=⟨(bI M F i L n).length,da (bI M F i L n)⟩)).l) j (.exit 2) [(1,iv n),(5,aU 0 n n),(6,aU 1 n n),(7,aU 4 (bI M F i L j).length (bI M F i L j).length),(8,iv i)] (p9 (dF b1 n n) (dF b2 n n) (da (bI M F i L j))) 5 z zn:=fun e=>by
  subst e
  exact Or.inl ⟨(⟨(bI M F i L j).length,da (bI M F i L j)⟩:pW),rfl,rfl⟩
 have hsucc:=jJ M F i L j
 generalize bI M F i L j=K at hrl nx fin hsucc ⊢
 by_cases hlt:j<n
 ·have hc:decide ((j:Int)<(n:Int))=true:=by simp;omega
  obtain⟨k1,g1,r1⟩:=sU hM hi hlt
  obtain⟨k2,g2,r2⟩:=sU hF hi hlt
  have d1:aC prog (dF b1 n n) 138 (0+i*1)=_:=pF hi
  have d2:aC prog (dF b2 n n) 138 (0+i*1)=_:=pF hi
  have w0:((i:Int)==(j:Int))=true->bI M F i L (j+1)=K:=fun h=>by
   rw[hsucc];unfold dK;rw[if_pos (.inl (by simp at h;omega))]
  have w1:decide (M i j>14400)=true->bI M F i L (j+1)=K:=fun h=>by
   rw[hsucc];unfold dK;rw[if_pos (.inr (by simp at h;omega))]
  have w2:((i:Int)==(j:Int))=false->decide (M i j>14400)=false-> ∀fl,(F i j==M i j)=fl->decide (F i j>M i j)=true->decide (F i j<=14400)=true->bI M F i L (j+1)=K++[⟨i,j,M i j,fl⟩]++[⟨i,j,F i j,true⟩]:=fun h1 h2 fl h3 h4 h5=>by
   rw[hsucc];unfold dK
   rw[if_neg (by simp at h1 h2;omega),if_pos (by simp at h4 h5;omega),h3]
  have w3:((i:Int)==(j:Int))=false->decide (M i j>14400)=false-> ∀fl,(F i j==M i j)=fl->decide (F i j<=14400)=false->bI M F i L (j+1)=K++[⟨i,j,M i j,fl⟩]:=fun h1 h2 fl h3 h5=>by
   rw[hsucc];unfold dK
   rw[if_neg (by simp at h1 h2;omega),if_neg (by simp at h5;omega),h3]
  have w4:((i:Int)==(j:Int))=false->decide (M i j>14400)=false-> ∀fl,(F i j==M i j)=fl->decide (F i j>M i j)=false->bI M F i L (j+1)=K++[⟨i,j,M i j,fl⟩]:=fun h1 h2 fl h3 h5=>by
   rw[hsucc];unfold dK
   rw[if_neg (by simp at h1 h2;omega),if_neg (by simp at h5;omega),h3]
  by_cases hK:K=[]
  ·subst hK
   refine t100 (S4 z zn n i j (b1+i) (b2+i) (dF b1 n n) (dF b2 n n) k1 k2 (M i j) (F i j) (aj _ _ _ _ _ _ _ _ _) ⟨fun _=>?_,nC1 hc⟩)
   (repeat' first|(with_reducible first|exact rfl|assumption|apply And.intro|exact dp _ _ _|exact bK (by omega))|intro hq)
   all_goals first
    |exact nx _ _ _ (w0 (by with_reducible assumption)) rfl rfl hlt
    |exact nx _ _ _ (w1 (by with_reducible assumption)) rfl rfl hlt
    |exact nx _ _ _ (w2 (by with_reducible assumption) (by with_reducible assumption) _ (by with_reducible assumption) (by with_reducible assumption) (by with_reducible assumption)) rfl rfl hlt
    |exact nx _ _ _ (w3 (by with_reducible assumption) (by with_reducible assumption) _ (by with_reducible assumption) (by with_reducible assumption)) rfl rfl hlt
    |exact nx _ _ _ (w4 (by with_reducible assumption) (by with_reducible assumption) _ (by with_reducible assumption) (by with_reducible assumption)) rfl rfl hlt
  ·have eK:da K=Qt (K.map ae.row).flatten K.length:=by unfold da;rw[if_neg hK]
   have s1: ∀fl,(⟨(K.map ae.row).flatten++(⟨i,j,M i j,fl⟩:ae).row,(K.length+1)*4,4,82,false,false,0,true⟩:aY)=da (K++[⟨i,j,M i j,fl⟩]):=fun fl=>(vH _ _).symm
   have s2: ∀fl,(⟨(K.map ae.row).flatten++(⟨i,j,M i j,fl⟩:ae).row++(⟨i,j,F i j,true⟩:ae).row,(K.length+1+1)*4,4,82,false,false,0,true⟩:aY)=da (K++[⟨i,j,M i j,fl⟩]++[⟨i,j,F i j,true⟩]):=fun fl=>(GC _ _ _).symm
   have m1: ∀x:ae,K.length+1=(K++[x]).length:=fun x=>by simp
   have m2: ∀x y:ae,K.length+1+1=(K++[x]++[y]).length:=fun x y=>by simp
   have p1: ∀fl,((K.map ae.row).flatten++(⟨i,j,M i j,fl⟩:ae).row).length=(K.length+1)*4:=fun fl=>by
    rw[jK,BB];simp
   rw[eK]
   refine t100 (ZS z zn n K.length i j (b1+i) (b2+i) (dF b1 n n) (dF b2 n n) k1 k2 (M i j) (F i j) (K.map ae.row).flatten (aj _ _ _ _ _ _ _ _ _) ⟨fun _=>?_,nC1 hc⟩)
   (repeat' first|(with_reducible first|exact rfl|assumption|apply And.intro|exact BB K|exact p1 _|exact dp _ _ _|exact cN (jk K)|exact Bv K ⟨i,j,M i j,true⟩ _|exact Bv K ⟨i,j,M i j,false⟩ _|exact CM K ⟨i,j,M i j,true⟩ ⟨i,j,F i j,true⟩ _|exact CM K ⟨i,j,M i j,false⟩ ⟨i,j,F i j,true⟩ _|exact(by omega:K.length+1<=1048576)|exact(by omega:K.length+1+1<=1048576)|exact bK (by omega))|intro hq)
   all_goals first
    |exact nx _ _ _ (w0 (by with_reducible assumption)) rfl eK.symm hlt
    |exact nx _ _ _ (w1 (by with_reducible assumption)) rfl eK.symm hlt
    |exact nx _ _ _ (w2 (by with_reducible assumption) (by with_reducible assumption) _ (by with_reducible assumption) (by with_reducible assumption) (by with_reducible assumption)) (m2 _ _) (s2 _) hlt
    |exact nx _ _ _ (w3 (by with_reducible assumption) (by with_reducible assumption) _ (by with_reducible assumption) (by with_reducible assumption)) (m1 _) (s1 _) hlt
    |exact nx _ _ _ (w4 (by with_reducible assumption) (by with_reducible assumption) _ (by with_reducible assumption) (by with_reducible assumption)) (m1 _) (s1 _) hlt
 ·have hjn:j=n:=by omega
  have hc:decide ((j:Int)<(n:Int))=false:=by simp;omega
  by_cases hK:K=[]
  ·subst hK
   refine t100 (S4 z zn n i j 0 0 (dF b1 n n) (dF b2 n n) FI FI 0 0 (aj _ _ _ _ _ _ _ _ _) ⟨nC1 hc,fun _=>?_⟩)
   (repeat' first|(with_reducible first|exact rfl|assumption|apply And.intro|exact dp _ _ _))
   exact fin hjn
  ·have eK:da K=Qt (K.map ae.row).flatten K.length:=by unfold da;rw[if_neg hK]
   rw[eK] at fin ⊢
   refine t100 (ZS z zn n K.length i j 0 0 (dF b1 n n) (dF b2 n n) FI FI 0 0 (K.map ae.row).flatten (aj _ _ _ _ _ _ _ _ _) ⟨nC1 hc,fun _=>?_⟩)
   (repeat' first|(with_reducible first|exact rfl|assumption|apply And.intro|exact dp _ _ _|exact cN (jk K)))
   exact fin hjn
end
section
variable{z:T aa}{zn:Nat}
theorem zX(hz:ax z zn)(n:Nat)(hn:n<=64)(b1 b2:Nat)(M F:Nat->Nat->Int)(hM:rp z b1 n M)(hF:rp z b2 n F):
 ai prog (ah (ag f66) 0) 3 107 (zK n 0 0) (Mo (dF b1 n n) (dF b2 n n) FI) 4 z zn (Al.R (OA z zn n (dF b1 n n) (dF b2 n n) (fun s=>s=⟨(bS M F n n).length,da (bS M F n n)⟩)).l):=by
 refine an hD (cO T.leaf) (α:=Nat) 3 107 4 (fun i=>i<=n) (fun i=>zK n (bS M F n i).length i) (fun i=>Mo (dF b1 n n) (dF b2 n n) (da (bS M F n i))) (fun _=>z) (fun _=>zn) (fun i=>n - i) _ (fun i hi=>?_) 0 (Nat.zero_le _)
 by_cases hlt:i<n
 ·have hc:decide ((i:Int)<(n:Int))=true:=by simp;omega
  have hll:(bS M F n i).length<=10000:=by
   have:=nV M F n i
   have h2:i*(2*n)<=64*(2*64):=Nat.mul_le_mul (by omega) (by omega)
   omega
  have hlp:=He hz n hn b1 b2 M F hM hF i hlt (bS M F n i) hll
  refine t100 (ZT z zn n (bS M F n i).length i (dF b1 n n) (dF b2 n n) (da (bS M F n i)) (fun s=>s=⟨(bI M F i (bS M F n i) n).length,da (bI M F i (bS M F n i) n)⟩) (aj _ _ _ _ _ _ _ _ _) ⟨fun _=>?_,nC1 hc⟩)
  have rq: ∀(σ:bk)(s:pW),s=⟨(bI M F i (bS M F n i) n).length,da (bI M F i (bS M F n i) n)⟩->aG (ay σ []) (.ak s.bl)=some (.ak s.bl):=fun σ s h=>by rw[h];exact eR _
  (repeat' first|(with_reducible first|exact rfl|assumption|apply And.intro|exact dp _ _ _|exact eR _|exact rq _ _ ‹_›|exact bK (by omega))|exact hlp|intro hq)
  rename_i x hq
  subst hq
  exact⟨i+1,by simp only[hY];rfl,by simp only[hY],rfl,rfl,rfl,hlt,by show n - (i+1)<n - i;omega⟩
 ·have hin:i=n:=by omega
  subst hin
  have hc:decide ((i:Int)<(i:Int))=false:=by simp
  refine t100 (ZT z zn i (bS M F i i).length i (dF b1 i i) (dF b2 i i) (da (bS M F i i)) (fun _=>False) (aj _ _ _ _ _ _ _ _ _) ⟨nC1 hc,fun _=>?_⟩)
  (repeat' first|(with_reducible first|exact rfl|assumption|apply And.intro|exact eR _))
  exact Or.inl ⟨(⟨(bS M F i i).length,da (bS M F i i)⟩:pW),rfl,rfl⟩
end
def Fz(E:bP)(n i j:Nat)(v:Int):Prop:=A5 E n lh i j v/\v<=(lh:Int)
def MF(n:Nat)(l:List ae)(M F:Nat->Nat->Int):Prop:=(∀i j,i<n->j<n->Fz (cT (eF l false)) n i j (M i j))/\(∀i j,i<n->j<n->Fz (cT (eF l true)) n i j (F i j))
structure Bj(z:T aa)(zn:Nat)(C:List ae)(s:p8):Prop where
 k:s.k=C.length
 bl:s.bl=da C
 bL:ax s.z s.zn
 le:zn<=s.zn
 ia: ∀k,k<zn->s.z.get k=z.get k
theorem kI{z:T aa}{zn n:Nat}{l:List ae}{b:Bool}{s:dh}(h:nL z zn n l b s): ∀k,k<zn->s.z.get k=z.get k:=by
 obtain⟨_,_,M,h,_⟩:=h;exact h.ia
theorem oQ{z:T aa}{zn n:Nat}{l:List ae}{b:Bool}{s:dh}(h:nL z zn n l b s): ∃M,rp s.z zn n M/\ ∀i j,i<n->j<n->Fz (cT (eF l b)) n i j (M i j):=by
 obtain⟨_,_,M,h1,h2,h3⟩:=h
 exact⟨M,h1.row,fun i j hi hj=>⟨Hw h3 hi hj,h2.le i j hi hj⟩⟩
theorem sV{z z':T aa}{b n m:Nat}{d:Nat->Nat->Int}(h:rp z b n d)(hb:b+n<=m)(hk: ∀k,k<m->z'.get k=z.get k):rp z' b n d:=fun i hi=>by
 obtain⟨l,h1,h2⟩:=h i hi
 exact⟨l,by rw[hk _ (by omega)];exact h1,h2⟩
section
variable{z:T aa}{zn:Nat}
theorem E4(hz:ax z zn)(h5:5<=zn)(n:Nat)(hn:n<=64)(l:List ae)(hl:mJ n l)(hll:l.length<=10000)(cp:Nat)(hL:bW z 4 (l.map ae.row))(C:List ae)(hC: ∀M F,MF n l M F->bS M F n n=C):
 bB prog z zn 66 [tb 4 l.length cp,iv n] [] 0 1 (Bj z zn C) (fun s=>aU 0 s.k s.k) (fun s=>[(0, .ak s.bl)]) (fun s=>s.z) (fun s=>s.zn):=by
 have d1:=Dv hz h5 n hn l hl hll cp hL false
 have d2: ∀s,nL z zn n l false s->bB prog s.z s.zn 95 [tb 4 l.length cp,iv n,T1] [] 0 1 (nL s.z s.zn n l true) (fun _=>aU 0 n n) (fun s=>[(0, .ak s.bl)]) (fun s=>s.z) (fun s=>s.zn):=fun s h=>Dv h.bL (by rw[h.2.1];omega) n hn l hl hll cp (kh hL hz (kI h)) true
 have rb: ∀{z zn b s},nL z zn n l b s-> ∀σ,aG (ay σ []) (.ak s.bl)=some (.ak s.bl):=fun h σ=>by rw[h.1];exact dp _ _ _
 have rb2: ∀{z zn b s},nL z zn n l b s-> ∀σ,aG (sig σ) (.ak s.bl)=some (.ak s.bl):=fun h σ=>rb h σ
 have lp: ∀s1 s2,nL z zn n l false s1->nL s1.z s1.zn n l true s2->ai prog (ah (ag f66) 0) 3 107 (zK n 0 0) (Mo s1.bl s2.bl FI) 4 s2.z s2.zn (Al.R (OA s2.z s2.zn n s1.bl s2.bl (fun s=>s=⟨C.length,da C⟩)).l):=fun s1 s2 h1 h2=>by
  obtain⟨M,m1,m2⟩:=oQ h1
  obtain⟨F,f1,f2⟩:=oQ h2
  have:=zX h2.bL n hn zn s1.zn M F (sV m1 (by rw[h1.2.1];exact Nat.le_refl _) (kI h2)) f1
  rw[hC M F ⟨m2,f2⟩] at this
  rw[h1.1,h2.1]
  exact this
 have ro: ∀(σ:bk)(s:pW),s=⟨C.length,da C⟩->aG (ay σ []) (.ak s.bl)=some (.ak s.bl):=fun σ s h=>by rw[h];exact eR _
 have le2: ∀s1 s2,nL z zn n l false s1->nL s1.z s1.zn n l true s2->zn<=s2.zn:=fun s1 s2 h1 h2=>by rw[h2.2.1,h1.2.1];omega
 have fin: ∀s1 s2,nL z zn n l false s1->nL s1.z s1.zn n l true s2->Bj z zn C ⟨C.length,da C,s2.z,s2.zn⟩:=fun s1 s2 h1 h2=>⟨rfl,rfl,h2.bL,le2 s1 s2 h1 h2,fun k hk=>(kI h2 k (by rw[h1.2.1];omega)).trans (kI h1 k hk)⟩
 refine fJ (cO T.leaf) (fn:=f66) (by kernel_rfl) (by kernel_rfl) hz ⟨by decide,by decide⟩ (fun s hs=>⟨rfl,hs.le,hs.bL⟩) (N:=100) ?_
 refine cq z zn l.length cp n (nL z zn n l false) (fun s=>nL s.z s.zn n l true) (fun _ _ s=>s=⟨C.length,da C⟩) _ ?_
 (repeat' first|(with_reducible first|exact rfl|assumption|apply And.intro|exact d2 _ ‹_›|exact nL.bL ‹_›|exact rb ‹_› _|exact rb2 ‹_› _|exact ro _ _ ‹_›)|exact lp _ _ (by with_reducible assumption) (by with_reducible assumption)|intro hq)
 rename_i s1 h1 s2 h2 s
 subst hq
 exact q2 (⟨C.length,da C,s2.z,s2.zn⟩:p8) (fin s1 s2 h1 h2) rfl rfl rfl rfl rfl
theorem Cj(hz:ax z zn)(h5:5<=zn)(n:Nat)(hn:n<=64)(C:List ae)(hC: ∀M F,MF n [] M F->bS M F n n=C):
 bB prog z zn 66 [az,iv n] [] 0 1 (Bj z zn C) (fun s=>aU 0 s.k s.k) (fun s=>[(0, .ak s.bl)]) (fun s=>s.z) (fun s=>s.zn):=by
 have d1:=AJ hz h5 n hn false
 have d2: ∀s,nL z zn n [] false s->bB prog s.z s.zn 95 [az,iv n,T1] [] 0 1 (nL s.z s.zn n [] true) (fun _=>aU 0 n n) (fun s=>[(0, .ak s.bl)]) (fun s=>s.z) (fun s=>s.zn):=fun s h=>AJ h.bL (by rw[h.2.1];omega) n hn true
 have rb: ∀{z zn b s},nL z zn n [] b s-> ∀σ,aG (ay σ []) (.ak s.bl)=some (.ak s.bl):=fun h σ=>by rw[h.1];exact dp _ _ _
 have rb2: ∀{z zn b s},nL z zn n [] b s-> ∀σ,aG (sig σ) (.ak s.bl)=some (.ak s.bl):=fun h σ=>rb h σ
 have lp: ∀s1 s2,nL z zn n [] false s1->nL s1.z s1.zn n [] true s2->ai prog (ah (ag f66) 0) 3 107 (zK n 0 0) (Mo s1.bl s2.bl FI) 4 s2.z s2.zn (Al.R (OA s2.z s2.zn n s1.bl s2.bl (fun s=>s=⟨C.length,da C⟩)).l):=fun s1 s2 h1 h2=>by
  obtain⟨M,m1,m2⟩:=oQ h1
  obtain⟨F,f1,f2⟩:=oQ h2
  have:=zX h2.bL n hn zn s1.zn M F (sV m1 (by rw[h1.2.1];exact Nat.le_refl _) (kI h2)) f1
  rw[hC M F ⟨m2,f2⟩] at this
  rw[h1.1,h2.1]
  exact this
 have ro: ∀(σ:bk)(s:pW),s=⟨C.length,da C⟩->aG (ay σ []) (.ak s.bl)=some (.ak s.bl):=fun σ s h=>by rw[h];exact eR _
 have le2: ∀s1 s2,nL z zn n [] false s1->nL s1.z s1.zn n [] true s2->zn<=s2.zn:=fun s1 s2 h1 h2=>by rw[h2.2.1,h1.2.1];omega
 have fin: ∀s1 s2,nL z zn n [] false s1->nL s1.z s1.zn n [] true s2->Bj z zn C ⟨C.length,da C,s2.z,s2.zn⟩:=fun s1 s2 h1 h2=>⟨rfl,rfl,h2.bL,le2 s1 s2 h1 h2,fun k hk=>(kI h2 k (by rw[h1.2.1];omega)).trans (kI h1 k hk)⟩
 refine fJ (cO T.leaf) (fn:=f66) (by kernel_rfl) (by kernel_rfl) hz ⟨by decide,by decide⟩ (fun s hs=>⟨rfl,hs.le,hs.bL⟩) (N:=100) ?_
 refine cqn z zn n (nL z zn n [] false) (fun s=>nL s.z s.zn n [] true) (fun _ _ s=>s=⟨C.length,da C⟩) _ ?_
 (repeat' first|(with_reducible first|exact rfl|assumption|apply And.intro|exact d2 _ ‹_›|exact nL.bL ‹_›|exact rb ‹_› _|exact rb2 ‹_› _|exact ro _ _ ‹_›)|exact lp _ _ (by with_reducible assumption) (by with_reducible assumption)|intro hq)
 rename_i s1 h1 s2 h2 s
 subst hq
 exact q2 (⟨C.length,da C,s2.z,s2.zn⟩:p8) (fin s1 s2 h1 h2) rfl rfl rfl rfl rfl
end
theorem Hi{P:Nat->Prop}: ∀n,P n-> ∃m,P m/\ ∀k,P k->m<=k:=by
 intro n
 induction n using Nat.strongRecOn with
 |ind n ih=>
  intro hn
  by_cases h: ∃k,k<n/\P k
  ·obtain⟨k,h1,h2⟩:=h
   exact ih k h1 h2
  ·exact⟨n,hn,fun k hk=>Nat.le_of_not_lt fun hlt=>h ⟨k,hlt,hk⟩⟩
theorem Dg(E:bP)(n i j:Nat): ∃v,Fz E n i j v:=by
 by_cases h: ∃L,L<lh/\Wk E n i j L
 ·obtain⟨L,h1,h2⟩:=h
  obtain⟨m,m1,m2⟩:=Hi (P:=fun L=>Wk E n i j L) L h2
  have:=m2 L h2
  exact⟨(m:Int),⟨by omega,fun _=>by simpa using m1,fun k hk=>by have:=m2 k hk;omega⟩,Int.ofNat_le.2 (by omega)⟩
 ·refine⟨(lh:Int),⟨by omega,fun hlt=>absurd hlt (Int.lt_irrefl _),fun k hk=>?_⟩,Int.le_refl _⟩
  by_cases hb:k<lh
  ·exact absurd ⟨k,hb,hk⟩ h
  ·omega
theorem wv{E:bP}{n i j:Nat}{v w:Int}(h:Fz E n i j v)(k:Fz E n i j w):v=w:=by
 obtain⟨⟨a1,a2,a3⟩,a4⟩:=h
 obtain⟨⟨b1,b2,b3⟩,b4⟩:=k
 by_cases hv:v<(lh:Int)
 ·have:=b3 _ (a2 hv)
  have:=a3 _ (b2 (by omega))
  omega
 ·by_cases hw:w<(lh:Int)
  ·have:=a3 _ (b2 hw);omega
  ·omega
theorem vP(n:Nat)(l:List ae): ∃M F,MF n l M F:=by
 obtain⟨M,hM⟩:=Classical.axiomOfChoice fun i:Nat=>Classical.axiomOfChoice fun j:Nat=>Dg (cT (eF l false)) n i j
 obtain⟨F,hF⟩:=Classical.axiomOfChoice fun i:Nat=>Classical.axiomOfChoice fun j:Nat=>Dg (cT (eF l true)) n i j
 exact⟨M,F,fun i j _ _=>hM i j,fun i j _ _=>hF i j⟩
def NP(e:Nat × Nat × Int × Bool):ae:=⟨e.1,e.2.1,e.2.2.1,e.2.2.2⟩
theorem Lu{d f:Nat->Nat->Int}{a b:Nat}(L:List ae)(h:a≠b):gW d f a L b=L++(rW a b (d a b) (f a b)).map NP:=by
 unfold gW rW iu
 rw[if_neg h]
 by_cases e:f a b=d a b
 ·rw[if_pos e,if_pos e,decide_eq_true e,List.append_nil]
  by_cases c:0<d a b/\d a b<=14400
  ·rw[if_pos c,if_pos c];rfl
  ·rw[if_neg c,if_neg c];simp
 ·rw[if_neg e,if_neg e,decide_eq_false e]
  by_cases c:0<d a b/\d a b<=14400<;>by_cases c2:0<f a b/\f a b<=14400
  ·rw[if_pos c,if_pos c,if_pos c2,if_pos c2];simp[NP]
  ·rw[if_pos c,if_pos c,if_neg c2,if_neg c2];simp[NP]
  ·rw[if_neg c,if_neg c,if_pos c2,if_pos c2];simp[NP]
  ·rw[if_neg c,if_neg c,if_neg c2,if_neg c2];simp
theorem J3{M F:Nat->Nat->Int}{a b:Nat}(L:List ae)(h:a≠b):dK M F a L b=L++(xq a b (M a b) (F a b)).map NP:=by
 unfold dK xq
 have hb:(F a b==M a b)=decide (F a b=M a b):=by
  by_cases e:F a b=M a b<;>simp[e]
 rw[hb]
 by_cases c:14400<M a b
 ·rw[if_pos (.inr c),if_pos c];simp
 ·rw[if_neg (by omega),if_neg c]
  by_cases c2:M a b<F a b/\F a b<=14400
  ·rw[if_pos c2,if_pos c2];simp[NP]
  ·rw[if_neg c2,if_neg c2];simp[NP]
theorem jn{α β:Type}{f g:α->β->α}: ∀(l:List β)(a:α),(∀a,∀b∈l,f a b=g a b)->l.foldl f a=l.foldl g a
 |[],_,_=>rfl
 |b::l,a,h=>by
  rw[List.foldl_cons,List.foldl_cons,h a b (List.mem_cons_self ..)]
  exact jn l _ fun a c hc=>h a c (List.mem_cons_of_mem _ hc)
theorem Gf{n:Nat}{d f M F:Nat->Nat->Int}(h: ∀i j,i<n->j<n->i≠j->iO.Alike (M i j) (d i j)/\iO.Alike (F i j) (f i j)/\M i j<=F i j):ej d f n n=bS M F n n:=by
 unfold ej bS
 refine jn _ _ fun L a ha=>?_
 unfold cL bI
 refine jn _ _ fun L b hb=>?_
 by_cases e:a=b
 ·unfold gW dK
  rw[if_pos e,if_pos (.inl e)]
 ·obtain⟨h1,h2,h3⟩:=h a b (List.mem_range.1 ha) (List.mem_range.1 hb) e
  rw[Lu L e,J3 L e,H3 h1 h2 h3]
theorem me{l:List ae}{b:Bool}{u v w:Nat}:(u,v,w)∈eF l b↔ ∃p∈l,eP b p=true/\p.fz1.toNat=u/\p.aq.toNat=v/\p.aH.toNat=w:=by
 unfold eF
 simp only[List.mem_map,List.mem_filter,Prod.mk.injEq]
 constructor
 ·rintro⟨p,⟨h1,h2⟩,h3,h4,h5⟩;exact⟨p,h1,h2,h3,h4,h5⟩
 ·rintro⟨p,h1,h2,h3,h4,h5⟩;exact⟨p,⟨h1,h2⟩,h3,h4,h5⟩
theorem sS{n:Nat}{l:List ae}(hl:mJ n l){b:Bool}{E:List dW}(h:Ro n l b E):w8 (cT (eF l b)) (EE E):=by
 refine⟨fun u v w hm=>?_,fun u v w hm=>?_⟩
 ·obtain⟨p,p1,p2,p3,p4,p5⟩:=me.1 hm
  obtain⟨k1,k2,k3,k4,_,k6,k7⟩:=hl.ok p p1
  obtain⟨e,e1,e2,e3,e4⟩:=h.all p p1 p2
  have:=h.ok.ok e e1
  exact⟨e.wt.toNat,by omega,e,e1,by omega,by omega,by omega⟩
 ·obtain⟨e,e1,e2,e3,e4⟩:=hm
  obtain⟨p,p1,p2,p3,p4,p5⟩:=h.sub e e1
  exact⟨w,Nat.le_refl _,me.2 ⟨p,p1,p2,by omega,by omega,by omega⟩⟩
theorem CT{n:Nat}{l:List ae}(hl:mJ n l){b:Bool}:Pos (cT (eF l b)):=fun u v w hm=>by
 obtain⟨p,p1,p2,p3,p4,p5⟩:=me.1 hm
 have:=hl.ok p p1
 omega
theorem MM{n:Nat}{E:List dW}(h:FC n E): ∀a b w,EE E a b w->a<n/\b<n:=fun a b w ⟨e,e1,e2,e3,e4⟩=>by
 have:=h.ok e e1
 omega
theorem Kn{l:List ae}: ∀a b w,cT (eF l true) a b w-> ∃w',w'<=w/\cT (eF l false) a b w':=fun a b w hm=>by
 obtain⟨p,p1,p2,p3⟩:=me.1 hm
 exact⟨w,Nat.le_refl _,me.2 ⟨p,p1,rfl,p3⟩⟩
theorem Ib{n:Nat}{l:List ae}(hl:mJ n l){d f M F:Nat->Nat->Int}(h:DF n l d f)(k:MF n l M F):ej d f n n=bS M F n n:=by
 obtain⟨E,G,hE,hG,h1,h2⟩:=h
 refine Gf fun i j hi hj hij=>⟨?_,?_,?_⟩
 ·exact AT (sS hl hE) (CT hl) (MM hE.ok) (by decide) (fun e=>hij e.symm) (k.1 i j hi hj).1 (h1 i j hi hj)
 ·exact AT (sS hl hG) (CT hl) (MM hG.ok) (by decide) (fun e=>hij e.symm) (k.2 i j hi hj).1 (h2 i j hi hj)
 ·rcases zx Kn (k.1 i j hi hj).1 (k.2 i j hi hj).1 with h|h
  ·exact h
  ·exact Int.le_trans (k.1 i j hi hj).2 h
theorem Ic(n:Nat)(l:List ae): ∃C:List ae,(∃M F,MF n l M F/\C=bS M F n n)/\ ∀M F,MF n l M F->bS M F n n=C:=by
 obtain⟨M,F,h⟩:=vP n l
 refine⟨bS M F n n,⟨M,F,h,rfl⟩,fun M' F' h'=>?_⟩
 unfold bS
 refine jn _ _ fun L a ha=>?_
 unfold bI
 refine jn _ _ fun L b hb=>?_
 have ha:=List.mem_range.1 ha
 have hb:=List.mem_range.1 hb
 unfold dK
 rw[wv (h'.1 a b ha hb) (h.1 a b ha hb),wv (h'.2 a b ha hb) (h.2 a b ha hb)]
noncomputable def gG(n:Nat)(l:List ae):List ae:=Classical.choose (Ic n l)
theorem kA{n:Nat}{l:List ae}{M F:Nat->Nat->Int}(h:MF n l M F):bS M F n n=gG n l:=(Classical.choose_spec (Ic n l)).2 M F h
theorem wN{n:Nat}{l:List ae}(hl:mJ n l){d f:Nat->Nat->Int}(h:DF n l d f):ej d f n n=gG n l:=by
 obtain⟨M,F,hm⟩:=vP n l
 rw[Ib hl h hm];exact kA hm
open Classical in
theorem ni{P:Program}{z:T aa}{zn f:Nat}{args:List Value}{nx:Nat}{α:Type}{φ:α->Prop}{v:Value}{zz:α->T aa}{zn':α->Nat}(h:bB P z zn f args [] nx nx φ (fun _=>v) (fun _=>[]) zz zn')(hv:au v=true)
 (ho: ∀x,φ x-> ∀k,k<zn->(zz x).get k=z.get k):aQ P z zn f args [] nx nx (fun _:Unit=>True) (fun _=>v) (fun _=>[]):=by
 have hz:=h.1
 refine⟨h.1,h.2.1,h.2.2.1,fun _ _=>⟨fun b o hb=>by simp at hb,Nat.le_refl _,h.1⟩,fun ρ w args' n h1 h2 h3 h4=>(h.2.2.2.2 ρ w args' n h1 h2 h3 h4).mono fun e w' ⟨x,hx,hg⟩=>⟨(),trivial,?_⟩⟩
 obtain⟨ρ',v',e1,g1,g2,g3⟩:=hg
 have hle:=(h.2.2.2.1 x hx).le
 have hsub: ∀b o,(fy z [] nx).heap.get b=some o->(fy (zz x) [] nx).heap.get b=some o:=fun b o hb=>by
  obtain⟨k,e,hk⟩:=eE hb
  show(oW (zz x)).get b=_
  rw[e,fj]
  show(zz x).get k=_
  rw[ho x hx k (hz k o hk).1];exact hk
 have hfr: ∀b o,(fy z [] nx).heap.get b=some o-> ∃k,b=256*k+510/\k<zn/\z.get k=some o:=fun b o hb=>by
  obtain⟨k,e,hk⟩:=eE hb
  exact⟨k,e,(hz k o hk).1,hk⟩
 have hno: ∀b,jF zn (zn' x) b->ρ b=none:=fun b ⟨k,e,k1,_⟩=>by rw[e];exact h4 k k1
 have hle':Ren.le (fun b=>if jF zn (zn' x) b then none else ρ' b) ρ':=fun b L hL=>by
  simp only at hL
  split at hL
  ·cases hL
  ·exact hL
 refine⟨fun b=>if jF zn (zn' x) b then none else ρ' b,v',e1,?_,⟨fun b o hb=>?_,fun i j oi oj Li Lj hi hj hij how hLi hLj=>g2.inj i j oi oj Li Lj (hsub _ _ hi) (hsub _ _ hj) hij how (hle' _ _ hLi) (hle' _ _ hLj)⟩,⟨⟨g3.core.os,g3.core.tape,g3.core.output,g3.core.size,g3.core.same,fun b o L hb ho hL=>g3.core.own b o L (hsub _ _ hb) ho (hle' _ _ hL),fun b o L hb hL=>g3.core.any b o L (hsub _ _ hb) (hle' _ _ hL)⟩,fun b L hL=>?_,fun b hb _=>?_⟩⟩
 ·have:=g1.plain hv
  subst this
  exact VR.aW hv
 ·obtain⟨L,y,k1,k2,k3⟩:=g2.obj b o (hsub b o hb)
  obtain⟨k,e,hk,hzk⟩:=hfr b o hb
  have hnot: ∀k,k<zn-> ¬jF zn (zn' x) (256*k+510):=fun k hk ⟨j,e,j1,_⟩=>by omega
  refine⟨L,y,(if_neg (by rw[e];exact hnot k hk)).trans k1,k2,?_⟩
  have:=(hz k o hzk).2 (fun b=>if∃j,j<zn/\b=256*j+510 then some b else none) fun j hj=>by rw[if_pos ⟨j,hj,rfl⟩]
  refine(mR this k3).mono fun c M hM=>?_
  simp only[dH] at hM
  by_cases hc: ∃j,j<zn/\c=256*j+510
  ·rw[if_pos hc] at hM
   obtain⟨j,hj,e⟩:=hc
   exact(if_neg (by rw[e];exact hnot j hj)).trans hM
  ·rw[if_neg hc] at hM;cases hM
 ·by_cases hn:jF zn (zn' x) b
  ·rw[hno b hn] at hL;cases hL
  ·exact(if_neg hn).trans (g3.ext _ _ hL)
 ·by_cases hn:jF zn (zn' x) b
  ·exact(if_pos hn).trans (hno b hn).symm
  ·exact(if_neg hn).trans (g3.s8 b hb hn)
def HU(x y:ae):Bool:=decide (x.fz1=y.fz1) && (decide (x.aq=y.aq) && (decide (x.aH=y.aH) && (x.sf==y.sf)))
theorem IT(i j:Nat)(x y:ae):Ff prog .neq 82 (.tmp i) (.tmp j) (.agg ⟨x.row⟩) (.agg ⟨y.row⟩) (.bool (!HU x y)):=by
 unfold Ff
 rw[prun_bind]
 have h1:prun prog (eqGuard .neq 82 (.tmp i) (.tmp j) (.agg ⟨x.row⟩) (.agg ⟨y.row⟩))=some ():=by kernel_rfl
 rw[h1,Option.bind_some]
 show prun _ (Op.equal _ _ _>>=fun b=>pure (Value.bool (!b)))=_
 rw[prun_bind,HP]
 rfl
theorem mw{x y:ae}:HU x y=true↔x=y:=by
 obtain⟨a,b,c,d⟩:=x
 obtain⟨a',b',c',d'⟩:=y
 unfold HU
 simp
instance:DecidableEq ae:=fun x y=>decidable_of_iff _ mw
section
variable{z:T aa}{zn:Nat}
theorem KJ(hz:ax z zn)(l C:List ae)(cp k:Nat)(hL:bW z 4 (l.map ae.row))(hk:z.get k=some (OT (C.map ae.row).flatten C.length))(hlen:C.length=l.length)(hll:l.length<=10000)(b:Bool)(hb:b=decide (C=l)):
 ai prog (ah (ag f59) 0) 0 43 (BP k C.length l.length cp 0) [] 0 z zn (Al.R (Sq z zn k C.length l.length cp b).l):=by
 refine an hD (cO T.leaf) (α:=Nat) 0 43 0 (fun i=>i<=l.length/\ ∀j,j<i->C[j]? =l[j]?) (fun i=>BP k C.length l.length cp i) (fun _=>[]) (fun _=>z) (fun _=>zn) (fun i=>l.length - i) _ (fun i hI=>?_) 0 ⟨Nat.zero_le _,fun j hj=>absurd hj (Nat.not_lt_zero _)⟩
 obtain⟨hi,hs⟩:=hI
 by_cases hlt:i<l.length
 ·obtain⟨x,hx⟩:=ez hlt
  obtain⟨y,hy⟩:=ez (l:=C) (i:=i) (by omega)
  have hc:decide ((i:Int)<(C.length:Int))=true:=by simp;omega
  have hltC:i<C.length:=by omega
  obtain⟨el,hel⟩:=hL.ak (i:=i) (by simp;omega)
  have r1:aC prog (bc el (l.map ae.row).flatten) 82 (0+i*4)=some (.agg ⟨x.row⟩):=bC (r:=x.row) (sz:=4) underlying82 rfl rfl (aM (row:=ae.row) (sz:=4) l fun _=>rfl) (by rw[List.getElem?_map,hx];rfl)
  have r2:aC prog ⟨(C.map ae.row).flatten,C.length*4,4,82,false,false,0,true⟩ 82 (0+i*4)=some (.agg ⟨y.row⟩):=gL (rows:=C.map ae.row) rfl (r:=y.row) (sz:=4) underlying82 rfl rfl (aM (row:=ae.row) (sz:=4) C fun _=>rfl) (by rw[List.getElem?_map,hy];rfl)
  refine t100 (Zs z zn k C.length l.length cp i (bc el (l.map ae.row).flatten) ⟨(C.map ae.row).flatten,C.length*4,4,82,false,false,0,true⟩ x y (!HU y x) (aj _ _ _ _ _ _ _ _ _) ⟨fun _=>?_,nC1 hc⟩)
  (repeat' first|(with_reducible first|exact rfl|assumption|apply And.intro|exact IT _ _ _ _|exact bK (by omega))|intro hq)
  ·refine bw ?_
   have hne: ¬y=x:=fun e=>by rw[mw.2 e] at hq;cases hq
   rw[hb];simp
   intro e;subst e;rw[hx] at hy;cases hy;exact hne rfl
  ·have he:y=x:=mw.1 (by simpa using hq)
   subst he
   exact⟨i+1,rfl,rfl,rfl,rfl,rfl,⟨by omega,fun j hj=>by
    by_cases e:j=i
    ·subst e;rw[hx,hy]
    ·exact hs j (by omega)⟩,by show l.length - (i+1)<l.length - i;omega⟩
 ·have hil:i=l.length:=by omega
  have hc:decide ((i:Int)<(C.length:Int))=false:=by simp;omega
  refine t100 (Zs z zn k C.length l.length cp i ⟨[],0,0,0,true,true,0,true⟩ ⟨[],0,0,0,true,true,0,true⟩ ⟨0,0,0,true⟩ ⟨0,0,0,true⟩ true (aj _ _ _ _ _ _ _ _ _) ⟨nC1 hc,fun _=>?_⟩)
  (repeat' first|(with_reducible first|exact rfl|assumption|apply And.intro))
  refine du (bw ?_)
  have:C=l:=by
   refine List.ext_getElem? fun j=>?_
   by_cases hj:j<i
   ·exact hs j hj
   ·rw[List.getElem?_eq_none (by omega),List.getElem?_eq_none (by omega)]
  rw[hb];simp[this]
end
theorem NW{x y:ae}(h:(y.fz1==x.fz1)=false):bR x y=false:=by
 unfold bR
 have: ¬y.fz1=x.fz1:=by simpa using h
 rw[decide_eq_false this];rfl
theorem NV{x y:ae}(h:(y.aq==x.aq)=false):bR x y=false:=by
 unfold bR
 have: ¬y.aq=x.aq:=by simpa using h
 rw[decide_eq_false this];simp
theorem NU{x y:ae}(h:y.sf=true)(h2:x.sf=false):bR x y=false:=by
 unfold bR
 rw[h,h2];simp
theorem NT{x y:ae}(h:y.sf=false)(h2:x.sf=true):bR x y=false:=by
 unfold bR
 rw[h,h2];simp
theorem Mt{x y:ae}(h:(y.fz1==x.fz1)=true)(h2:(y.aq==x.aq)=true)(h3:y.sf=x.sf):bR x y=true:=by
 unfold bR
 rw[decide_eq_true (by simpa using h),decide_eq_true (by simpa using h2),h3];simp
section
variable{z:T aa}{zn:Nat}
theorem G6(hz:ax z zn)(hg:eO prog z gP)(N:aJ)(l:List ae)(hN:N.np=l.length)(hnet: ∀σ:bk,aG (ay σ []) (N.bT N.p1)=some (N.bT N.p1))(hL:bW z 4 (l.map ae.row))(i:Nat)(hi8:i<=10000)(x:ae)(hx:l[i]? =some x):
 ai prog (ah (ah (ag f36) 0) 0) 2 111 (xE i 0) [(0,N.bT N.p1),(1,xr x)] 2 z zn (Al.R (OC z zn N i x ((l.take i).any (bR x))).l):=by
 have hi:i<l.length:=(List.getElem?_eq_some_iff.1 hx).1
 refine an hD hg (α:=Nat) 2 111 2 (fun k=>k<=i/\(l.take k).any (bR x)=false) (fun k=>xE i k) (fun k=>[(0,N.bT N.p1),(1,xr x)]) (fun _=>z) (fun _=>zn) (fun k=>i - k) _ (fun k hI=>?_) 0 ⟨Nat.zero_le _,by simp⟩
 obtain⟨hk,hs⟩:=hI
 by_cases hlt:k<i
 ·obtain⟨y,hy⟩:=ez (l:=l) (i:=k) (by omega)
  have hc:decide ((k:Int)<(i:Int))=true:=by simp;omega
  have hkn:k<N.np:=by omega
  obtain⟨el,hel⟩:=hL.ak (i:=k) (by simp;omega)
  have r0:aC prog (bc el (l.map ae.row).flatten) 82 (0+k*4)=some (.agg ⟨y.row⟩):=bC (r:=y.row) (sz:=4) underlying82 rfl rfl (aM (row:=ae.row) (sz:=4) l fun _=>rfl) (by rw[List.getElem?_map,hy];rfl)
  have nx:bR x y=false->aj (fun k=>k<=i/\(l.take k).any (bR x)=false) (fun k=>xE i k) (fun k=>[(0,N.bT N.p1),(1,xr x)]) 2 (fun _=>z) (fun _=>zn) (fun k=>i - k) (Al.R (OC z zn N i x ((l.take i).any (bR x))).l) k .normal (xE i (k+1)) [(0,N.bT N.p1),(1,xr x)] 2 z zn:=fun h=>
   ⟨k+1,rfl,rfl,rfl,rfl,rfl,⟨hlt,by rw[ju hy,hs,h];rfl⟩,by show i - (k+1)<i - k;omega⟩
  have ret:bR x y=true->aj (fun k=>k<=i/\(l.take k).any (bR x)=false) (fun k=>xE i k) (fun k=>[(0,N.bT N.p1),(1,xr x)]) 2 (fun _=>z) (fun _=>zn) (fun k=>i - k) (Al.R (OC z zn N i x ((l.take i).any (bR x))).l) k .ret [(2,iv i),(3,I 6)] [] 2 z zn:=fun h=>by
   refine bw ?_
   rw[List.any_eq_true]
   exact⟨y,List.mem_of_getElem? (i:=k) (by rw[List.getElem?_take,if_pos hlt];exact hy),h⟩
  refine t100 (Zj z zn i k N (bc el (l.map ae.row).flatten) x y (aj _ _ _ _ _ _ _ _ _) ⟨fun _=>?_,nC1 hc⟩)
  (repeat' first|(with_reducible first|exact rfl|assumption|apply And.intro|exact bK (by omega))|exact hnet _|intro hq)
  all_goals first
   |exact nx (NW (by with_reducible assumption))
   |exact nx (NV (by with_reducible assumption))
   |exact ret (Mt (by with_reducible assumption) (by with_reducible assumption) (Eq.trans (by with_reducible assumption:y.sf=true) (Eq.symm (by with_reducible assumption:x.sf=true))))
   |exact ret (Mt (by with_reducible assumption) (by with_reducible assumption) (Eq.trans (by with_reducible assumption:y.sf=false) (Eq.symm (by with_reducible assumption:x.sf=false))))
   |exact nx (NU (by with_reducible assumption) (by with_reducible assumption))
   |exact nx (NT (by with_reducible assumption) (by with_reducible assumption))
 ·have hki:k=i:=by omega
  subst hki
  have hc:decide ((k:Int)<(k:Int))=false:=by simp
  refine t100 (Zj z zn k k N ⟨[],0,0,0,true,true,0,true⟩ x ⟨0,0,0,true⟩ (aj _ _ _ _ _ _ _ _ _) ⟨nC1 hc,fun _=>?_⟩)
  (repeat' first|(with_reducible first|exact rfl|assumption|apply And.intro)|exact hnet _)
  exact du (bw hs)
theorem G5(hz:ax z zn)(hg:eO prog z gP)(N:aJ)(l C:List ae)(hN:N.np=l.length)(hlen:C.length=l.length)(hll:l.length<=10000)(hnet: ∀σ:bk,aG (ay σ []) (N.bT N.p1)=some (N.bT N.p1))(hL:bW z 4 (l.map ae.row))(s:p8)(hk:s.k=C.length)(hbl:s.bl=da C)(hsz:s.z=z)(hszn:s.zn=zn)(b:Bool)(hb:b=decide (C=l)):
 ai prog (ah (ag f36) 2) 2 111 (rG s.k 0) [(0,N.bT N.p1),(1, .ak s.bl)] 2 z zn (Al.R (OB N N.p1 b s).l):=by
 obtain⟨k,bl,z',zn'⟩:=s
 simp only at hk hbl hsz hszn
 subst hk hbl hsz hszn
 have hox:(da C).cells=(C.map ae.row).flatten:=by
  unfold da
  split
  ·rename_i e;subst e;rfl
  ·rfl
 refine an hD hg (α:=Nat) 2 111 2 (fun i=>i<=l.length/\ ∀j,j<i->C[j]? =l[j]?) (fun i=>rG C.length i) (fun _=>[(0,N.bT N.p1),(1, .ak (da C))]) (fun _=>z') (fun _=>zn') (fun i=>l.length - i) _ (fun i hI=>?_) 0 ⟨Nat.zero_le _,fun j hj=>absurd hj (Nat.not_lt_zero _)⟩
 obtain⟨hi,hs⟩:=hI
 by_cases hlt:i<l.length
 ·obtain⟨x,hx⟩:=ez hlt
  obtain⟨y,hy⟩:=ez (l:=C) (i:=i) (by omega)
  have hc:decide ((i:Int)<(C.length:Int))=true:=by simp;omega
  have hltC:i<C.length:=by omega
  have hltN:i<N.np:=by omega
  obtain⟨el,hel⟩:=hL.ak (i:=i) (by simp;omega)
  have r1:aC prog (bc el (l.map ae.row).flatten) 82 (0+i*4)=some (.agg ⟨x.row⟩):=bC (r:=x.row) (sz:=4) underlying82 rfl rfl (aM (row:=ae.row) (sz:=4) l fun _=>rfl) (by rw[List.getElem?_map,hx];rfl)
  have r2:aC prog (da C) 82 (0+i*4)=some (.agg ⟨y.row⟩):=gL (rows:=C.map ae.row) hox (r:=y.row) (sz:=4) underlying82 rfl rfl (aM (row:=ae.row) (sz:=4) C fun _=>rfl) (by rw[List.getElem?_map,hy];rfl)
  refine t100 (Zi z' zn' i C.length N (bc el (l.map ae.row).flatten) (da C) x y (!HU y x) (aj _ _ _ _ _ _ _ _ _) ⟨fun _=>?_,nC1 hc⟩)
  (repeat' first|(with_reducible first|exact rfl|assumption|apply And.intro|exact IT _ _ _ _|exact eR _|exact bK (by omega))|exact hnet _|intro hq)
  ·refine bw ?_
   have hne: ¬y=x:=fun e=>by rw[mw.2 e] at hq;cases hq
   rw[hb];simp
   intro e;subst e;rw[hx] at hy;cases hy;exact hne rfl
  ·have he:y=x:=mw.1 (by simpa using hq)
   subst he
   exact⟨i+1,rfl,rfl,rfl,rfl,rfl,⟨by omega,fun j hj=>by
    by_cases e:j=i
    ·subst e;rw[hx,hy]
    ·exact hs j (by omega)⟩,by show l.length - (i+1)<l.length - i;omega⟩
 ·have hil:i=l.length:=by omega
  have hc:decide ((i:Int)<(C.length:Int))=false:=by simp;omega
  refine t100 (Zi z' zn' i C.length N ⟨[],0,0,0,true,true,0,true⟩ (da C) ⟨0,0,0,true⟩ ⟨0,0,0,true⟩ true (aj _ _ _ _ _ _ _ _ _) ⟨nC1 hc,fun _=>?_⟩)
  (repeat' first|(with_reducible first|exact rfl|assumption|apply And.intro))
  refine du (bw ?_)
  have:C=l:=by
   refine List.ext_getElem? fun j=>?_
   by_cases hj:j<i
   ·exact hs j hj
   ·rw[List.getElem?_eq_none (by omega),List.getElem?_eq_none (by omega)]
  rw[hb];simp[this]
end
theorem Dh{a m:Int}(h:(!(decide (0<=a) && decide (a<=m - 1)))=true):a<0\/m<=a:=by
 simp at h;omega
theorem Ag{a m:Int}(h:(!(decide (0<=a) && decide (a<=m - 1)))=false): ¬a<0/\ ¬m<=a:=by
 simp at h;omega
theorem Hq{a m k:Int}(h:(!(decide (k<=a) && decide (a<=m)))=true):a<k\/m<a:=by
 simp at h;omega
theorem wx{a m k:Int}(h:(!(decide (k<=a) && decide (a<=m)))=false): ¬(a<k\/m<a):=by
 simp at h;omega
section
variable{z:T aa}{zn:Nat}
theorem G7(hz:ax z zn)(hg:eO prog z gP)(N:aJ)(hn:N.ns<=64)(l:List ae)(hN:N.np=l.length)(hnet: ∀σ:bk,aG (ay σ []) (N.bT N.p1)=some (N.bT N.p1))(hL:bW z 4 (l.map ae.row))(r:Int × Int)(hr:scan (cG N.ns l) l.length 0=r):
 ai prog (ah (ag f36) 0) 1 111 (lK 0) [(0,N.bT N.p1)] 1 z zn (Al.R (Kq z zn N N.p1 r.1 r.2).l):=by
 refine an hD hg (α:=Nat) 1 111 1 (fun i=>i<=l.length/\scan (cG N.ns l) (l.length - i) i=r/\ ∀j,j<i->cG N.ns l j=none) (fun i=>lK i) (fun i=>[(0,N.bT N.p1)]) (fun _=>z) (fun _=>zn) (fun i=>l.length - i) _ (fun i hI=>?_) 0 ⟨Nat.zero_le _,hr,fun j hj=>absurd hj (Nat.not_lt_zero _)⟩
 obtain⟨h1,h2,h3⟩:=hI
 have hi8:=CV (n:=N.ns) (by omega) h1 h3
 by_cases hi:i<l.length
 ·obtain⟨x,hx⟩:=ez hi
  obtain⟨el,hel⟩:=hL.ak (i:=i) (by simp;omega)
  have hrow:aC prog (bc el (l.map ae.row).flatten) 82 (0+i*4)=some (.agg ⟨x.row⟩):=bC (r:=x.row) (sz:=4) underlying82 rfl rfl (aM (row:=ae.row) (sz:=4) l fun _=>rfl) (by rw[List.getElem?_map,hx];rfl)
  have hlp:=G6 hz hg N l hN hnet hL i (by omega) x hx
  have hlk:fq N.ns l i x=if x.fz1<0\/(N.ns:Int)<=x.fz1\/x.aq<0\/(N.ns:Int)<=x.aq\/x.fz1=x.aq then 9 else if x.aH<1\/14400<x.aH then 2 else if (l.take i).any (bR x)=true then 6 else 0:=rfl
  have ret: ∀e:Int,fq N.ns l i x=e->e≠0->aj (fun i=>i<=l.length/\scan (cG N.ns l) (l.length - i) i=r/\ ∀j,j<i->cG N.ns l j=none) (fun i=>lK i) (fun i=>[(0,N.bT N.p1)]) 1 (fun _=>z) (fun _=>zn) (fun i=>l.length - i) (Al.R (Kq z zn N N.p1 r.1 r.2).l) i .ret [(2,iv i),(3,zv e)] [] 1 z zn:=fun e h h0=>by
   have hb:cG N.ns l i=some e:=by unfold cG;rw[hx];simp only;rw[h,if_neg h0]
   have:r=((i:Int),e):=by rw[←h2,c9 hi hb]
   rw[this]
   exact bw h0
  have jC:fq N.ns l i x=0->aj (fun i=>i<=l.length/\scan (cG N.ns l) (l.length - i) i=r/\ ∀j,j<i->cG N.ns l j=none) (fun i=>lK i) (fun i=>[(0,N.bT N.p1)]) 1 (fun _=>z) (fun _=>zn) (fun i=>l.length - i) (Al.R (Kq z zn N N.p1 r.1 r.2).l) i .normal (lK (i+1)) [(0,N.bT N.p1)] 1 z zn:=fun h0=>by
   have hb:cG N.ns l i=none:=by unfold cG;rw[hx];simp only;rw[if_pos h0]
   exact⟨i+1,rfl,rfl,rfl,rfl,rfl,⟨hi,by rw[←cI hi hb];exact h2,fun j hj=>by
    by_cases e:j=i
    ·subst e;exact hb
    ·exact h3 j (by omega)⟩,by show l.length - (i+1)<l.length - i;omega⟩
  have e9a:(!(decide (0<=x.fz1) && decide (x.fz1<=(N.ns:Int) - 1)))=true->fq N.ns l i x=9:=fun h=>by
   have:=Dh h
   rw[hlk,if_pos (by omega)]
  have e9b:(!(decide (0<=x.aq) && decide (x.aq<=(N.ns:Int) - 1)))=true->fq N.ns l i x=9:=fun h=>by
   have:=Dh h
   rw[hlk,if_pos (by omega)]
  have e9c:(x.fz1==x.aq)=true->fq N.ns l i x=9:=fun h=>by
   have:x.fz1=x.aq:=by simpa using h
   rw[hlk,if_pos (by omega)]
  have no9:(!(decide (0<=x.fz1) && decide (x.fz1<=(N.ns:Int) - 1)))=false->(!(decide (0<=x.aq) && decide (x.aq<=(N.ns:Int) - 1)))=false->(x.fz1==x.aq)=false-> ¬(x.fz1<0\/(N.ns:Int)<=x.fz1\/x.aq<0\/(N.ns:Int)<=x.aq\/x.fz1=x.aq):=fun h1 h2 h3=>by
   have k1:=Ag h1
   have k2:=Ag h2
   have k3: ¬x.fz1=x.aq:=by simpa using h3
   omega
  have e2:(!(decide (0<=x.fz1) && decide (x.fz1<=(N.ns:Int) - 1)))=false->(!(decide (0<=x.aq) && decide (x.aq<=(N.ns:Int) - 1)))=false->(x.fz1==x.aq)=false->(!(decide (1<=x.aH) && decide (x.aH<=14400)))=true->fq N.ns l i x=2:=fun a b c d=>by
   rw[hlk,if_neg (no9 a b c),if_pos (Hq d)]
  have e6:(!(decide (0<=x.fz1) && decide (x.fz1<=(N.ns:Int) - 1)))=false->(!(decide (0<=x.aq) && decide (x.aq<=(N.ns:Int) - 1)))=false->(x.fz1==x.aq)=false->(!(decide (1<=x.aH) && decide (x.aH<=14400)))=false->(l.take i).any (bR x)=true->fq N.ns l i x=6:=fun a b c d e=>by
   rw[hlk,if_neg (no9 a b c),if_neg (wx d),if_pos e]
  have e0:(!(decide (0<=x.fz1) && decide (x.fz1<=(N.ns:Int) - 1)))=false->(!(decide (0<=x.aq) && decide (x.aq<=(N.ns:Int) - 1)))=false->(x.fz1==x.aq)=false->(!(decide (1<=x.aH) && decide (x.aH<=14400)))=false->(l.take i).any (bR x)=false->fq N.ns l i x=0:=fun a b c d e=>by
   rw[hlk,if_neg (no9 a b c),if_neg (wx d),if_neg (by rw[e];decide)]
  have hc:decide ((i:Int)<(N.np:Int))=true:=by simp;omega
  have hiN:i<N.np:=by omega
  have hwr:Value.int .i64 (IntKind.i64.wrap ((N.ns:Int) - 1))=Value.int .i64 ((N.ns:Int) - 1):=iY (by omega) (by omega)
  refine t100 (Zk z zn i N (bc el (l.map ae.row).flatten) x ((l.take i).any (bR x)) (aj _ _ _ _ _ _ _ _ _) ⟨fun _=>?_,nC1 hc⟩)
  (repeat' first|(with_reducible first|exact rfl|assumption|apply And.intro|exact bK (by omega))|exact(rfl:gP _ _=_)|exact hnet _|exact hlp|intro hq)
  all_goals first
   |exact ret 9 (e9a (by with_reducible assumption)) (by decide)
   |exact ret 9 (e9b (by with_reducible assumption)) (by decide)
   |exact ret 9 (e9c (by with_reducible assumption)) (by decide)
   |exact ret 2 (e2 (by with_reducible assumption) (by with_reducible assumption) (by with_reducible assumption) (by with_reducible assumption)) (by decide)
   |exact ret 6 (e6 (by with_reducible assumption) (by with_reducible assumption) (by with_reducible assumption) (by with_reducible assumption) (by with_reducible assumption)) (by decide)
   |exact jC (e0 (by with_reducible assumption) (by with_reducible assumption) (by with_reducible assumption) (by with_reducible assumption) (by with_reducible assumption))
 ·have hc:decide ((i:Int)<(N.np:Int))=false:=by simp;omega
  rw[dy (by omega)] at h2
  refine t100 (Zk z zn i N ⟨[],0,0,0,true,true,0,true⟩ ⟨0,0,0,true⟩ true (aj _ _ _ _ _ _ _ _ _) ⟨nC1 hc,fun _=>?_⟩)
  (repeat' first|(with_reducible first|exact rfl|assumption|apply And.intro)|exact hnet _)
  refine du (bw ?_)
  rw[←h2];exact⟨rfl,rfl⟩
end
theorem qx{P:Program}{z:T aa}{zn f:Nat}{args:List Value}{aO:bO}{nx ey:Nat}{α β:Type}{φ:α->Prop}{v:α->Value}{zo:α->bO}{zz:α->T aa}{zn':α->Nat}{ψ:β->Prop}{u:β->Value}{yo:β->bO}{yy:β->T aa}{yn:β->Nat}(h:bB P z zn f args aO nx ey φ v zo zz zn')
 (hm: ∀x,φ x-> ∃y,ψ y/\v x=u y/\zo x=yo y/\zz x=yy y/\zn' x=yn y) (hb: ∀y,ψ y->uU zn (yo y) (yy y) (yn y)):bB P z zn f args aO nx ey ψ u yo yy yn:=
 ⟨h.1,h.2.1,h.2.2.1,hb,fun ρ w args' n h1 h2 h3 h4=>(h.2.2.2.2 ρ w args' n h1 h2 h3 h4).mono fun e w' ⟨x,hx,hg⟩=>by
   obtain⟨y,hy,e1,e2,e3,e4⟩:=hm x hx
   exact⟨y,hy,by rw[←e1,←e2,←e3,←e4];exact hg⟩⟩
def yB(z:T aa)(zn:Nat)(t:T aa × Nat):Prop:=ax t.1 t.2/\zn<=t.2/\ ∀k,k<zn->t.1.get k=z.get k
theorem yB.bL{z:T aa}{zn:Nat}{t:T aa × Nat}(h:yB z zn t):ax t.1 t.2:=h.1
theorem V8(n:Nat):(if (0:Int)>(n:Int) then 0 else (n:Int))=n:=by rw[if_neg (by omega)]
section
variable{z:T aa}{zn:Nat}
theorem zV(hz:ax z zn)(v:Value)(hv: ∀σ,aT (ay σ []) v=some v):ai prog (ah (ag f59) 0) 0 43 (nF v) [] 0 z zn (Al.R (GV z zn v).l):=by
 refine an hD (cO T.leaf) (α:=Unit) 0 43 0 (fun _=>True) (fun _=>nF v) (fun _=>[]) (fun _=>z) (fun _=>zn) (fun _=>0) _ (fun _ _=>?_) () trivial
 refine t100 (WG z zn v (aj _ _ _ _ _ _ _ _ _) ?_)
 (repeat' first|(with_reducible first|exact rfl|assumption|apply And.intro))
 exact bw trivial
theorem Fb(hz:ax z zn)(n:Nat)(hn:n<=64)(l:List ae)(hl:mJ n l)(hll:l.length<=10000)(cp:Nat)(hL:bW z 4 (l.map ae.row))(C:List ae)(hC: ∀d f,DF n l d f->ej d f n n=C)(hS:j7 C)
 (hso:A1 z zn 89 [tb 4 l.length cp,iv n] [] 0 0 (.tuple ⟨[zv 0,zv 0]⟩) []):
 bB prog z zn 59 [tb 4 l.length cp,iv n] [] 0 0 (yB z zn) (fun _=> .bool (decide (C=l))) (fun _=>[]) (fun t=>t.1) (fun t=>t.2):=by
 have hc:=Tf hz n hn l hl hll cp hL C hC hS
 have hgt:decide ((n:Int)>64)=false:=by simp;omega
 by_cases hnil:C=[]
 ·have hcz:bB prog z zn 90 [tb 4 l.length cp, .int .i64 (if 0>(n:Int) then 0 else (n:Int))] [] 0 0 (yB z zn) (fun _=>az) (fun _=>[]) (fun t=>t.1) (fun t=>t.2):=by
   rw[V8]
   refine qx hc (fun s hs=>⟨(s.z,s.zn),⟨hs.bL,hs.le,hs.ia⟩,?_,rfl,rfl,rfl⟩) fun t ht=>⟨fun b o hb=>by simp at hb,ht.2.1,ht.1⟩
   rcases hs.val with ⟨_,e1,e2⟩|⟨h,_⟩
   ·obtain⟨oa,k,z,zn⟩:=s
    simp only at e1 e2;subst e1 e2;rfl
   ·exact absurd hnil h
  have lp: ∀t,yB z zn t->ai prog (ah (ag f59) 0) 0 43 (nF (tb 4 l.length cp)) [] 0 t.1 t.2 (Al.R (GV t.1 t.2 (tb 4 l.length cp)).l):=fun t ht=>zV ht.1 _ fun σ=>qg σ _ _ _
  refine fJ (cO T.leaf) (fn:=f59) (by kernel_rfl) (by kernel_rfl) hz ⟨by decide,by decide⟩ (fun t ht=>⟨rfl,ht.2.1,ht.1⟩) (N:=100) ?_
  refine icz z zn n l.length cp (yB z zn) _ ⟨nC1 hgt,fun _=>?_⟩
  (repeat' first|(with_reducible first|exact rfl|assumption|apply And.intro|exact yB.bL ‹_›)|exact lp _ (by with_reducible assumption)|intro hq)
  ·rename_i t ht
   refine q2 t ht rfl ?_ rfl rfl rfl
   have: ¬C=l:=fun e=>by
    rw[←e,hnil] at hq;simp at hq
   rw[decide_eq_false this]
  ·rename_i t ht h0 _
   refine q2 t ht rfl ?_ rfl rfl rfl
   have:C=l:=by
    have:l.length=0:=by simp at h0;omega
    rw[hnil];exact(List.eq_nil_of_length_eq_zero this).symm
   rw[decide_eq_true this]
 ·have hct:bB prog z zn 90 [tb 4 l.length cp, .int .i64 (if 0>(n:Int) then 0 else (n:Int))] [] 0 0 (fun t:Nat × Nat × T aa × Nat=>yB z zn (t.2.2.1,t.2.2.2)/\t.2.1=C.length/\t.2.2.1.get t.1=some (OT (C.map ae.row).flatten C.length)) (fun s=>tb s.1 s.2.1 s.2.1) (fun _=>[]) (fun t=>t.2.2.1) (fun t=>t.2.2.2):=by
   rw[V8]
   refine qx hc (fun s hs=>?_) fun t ht=>⟨fun b o hb=>by simp at hb,ht.1.2.1,ht.1.1⟩
   rcases hs.val with ⟨h,_⟩|⟨_,kk,_,_,e1,e2,e3⟩
   ·exact absurd h hnil
   ·refine⟨(kk,C.length,s.z,s.zn),⟨⟨hs.bL,hs.le,hs.ia⟩,rfl,e3⟩,?_,rfl,rfl,rfl⟩
    obtain⟨oa,k,z,zn⟩:=s
    simp only at e1 e2;subst e1 e2;rfl
  have lp: ∀t:Nat × Nat × T aa × Nat,(yB z zn (t.2.2.1,t.2.2.2)/\t.2.1=C.length/\t.2.2.1.get t.1=some (OT (C.map ae.row).flatten C.length))->((t.2.1:Int) !=(l.length:Int))=false->ai prog (ah (ag f59) 0) 0 43 (BP t.1 t.2.1 l.length cp 0) [] 0 t.2.2.1 t.2.2.2 (Al.R (Sq t.2.2.1 t.2.2.2 t.1 t.2.1 l.length cp (decide (C=l))).l):=fun t ⟨ht,h1,h2⟩ h3=>by
   rw[h1] at h3 ⊢
   exact KJ ht.1 l C cp t.1 (kh hL hz ht.2.2) h2 (by simp at h3;omega) hll _ rfl
  refine fJ (cO T.leaf) (fn:=f59) (by kernel_rfl) (by kernel_rfl) hz ⟨by decide,by decide⟩ (fun t ht=>⟨rfl,ht.2.1,ht.1⟩) (N:=100) ?_
  refine ict z zn n l.length cp (decide (C=l)) (fun t:Nat × Nat × T aa × Nat=>yB z zn (t.2.2.1,t.2.2.2)/\t.2.1=C.length/\t.2.2.1.get t.1=some (OT (C.map ae.row).flatten C.length)) _ ⟨nC1 hgt,fun _=>?_⟩
  (repeat' first|(with_reducible first|exact rfl|assumption|apply And.intro|exact yB.bL (And.left ‹_›))|exact lp _ (by with_reducible assumption) (by with_reducible assumption)|intro hq)
  ·rename_i t ht
   refine q2 (t.2.2.1,t.2.2.2) ht.1 rfl ?_ rfl rfl rfl
   have: ¬C=l:=fun e=>by
    rw[ht.2.1,e] at hq;simp at hq
   rw[decide_eq_false this]
  ·rename_i t ht _ _
   refine q2 (t.2.2.1,t.2.2.2) ht.1 rfl ?_ rfl rfl rfl
   rw[hq]
  ·rename_i t ht _ _
   refine q2 (t.2.2.1,t.2.2.2) ht.1 rfl ?_ rfl rfl rfl
   rw[hq]
theorem II(hz:ax z zn)(n:Nat)(hn:n<=64)(l:List ae)(hl:mJ n l)(hll:l.length<=10000)(cp:Nat)(hL:bW z 4 (l.map ae.row))(C:List ae)(hC: ∀d f,DF n l d f->ej d f n n=C)(hS:j7 C)
 (hso:A1 z zn 89 [tb 4 l.length cp,iv n] [] 0 0 (.tuple ⟨[zv 0,zv 0]⟩) []):
 A1 z zn 59 [tb 4 l.length cp,iv n] [] 0 0 (.bool (decide (C=l))) []:=
 ni (Fb hz n hn l hl hll cp hL C hC hS hso) rfl fun t ht=>ht.2.2
theorem Fa(hz:ax z zn)(n:Nat)(hn:n<=64)(hC: ∀d f,DF n [] d f->ej d f n n=[])(hS:j7 [])
 (hso:A1 z zn 89 [az,iv n] [] 0 0 (.tuple ⟨[zv 0,zv 0]⟩) []):
 A1 z zn 59 [az,iv n] [] 0 0 (.bool true) []:=by
 have hc:=PQ hz n hn [] hC hS
 have hgt:decide ((n:Int)>64)=false:=by simp;omega
 have hcz:bB prog z zn 90 [az, .int .i64 (if 0>(n:Int) then 0 else (n:Int))] [] 0 0 (yB z zn) (fun _=>az) (fun _=>[]) (fun t=>t.1) (fun t=>t.2):=by
  rw[V8]
  refine qx hc (fun s hs=>⟨(s.z,s.zn),⟨hs.bL,hs.le,hs.ia⟩,?_,rfl,rfl,rfl⟩) fun t ht=>⟨fun b o hb=>by simp at hb,ht.2.1,ht.1⟩
  rcases hs.val with ⟨_,e1,e2⟩|⟨h,_⟩
  ·obtain⟨oa,k,z,zn⟩:=s
   simp only at e1 e2;subst e1 e2;rfl
  ·exact absurd rfl h
 have lp: ∀t,yB z zn t->ai prog (ah (ag f59) 0) 0 43 (nF az) [] 0 t.1 t.2 (Al.R (GV t.1 t.2 az).l):=fun t ht=>zV ht.1 _ fun σ=>rfl
 refine ni (φ:=yB z zn) (zz:=fun t=>t.1) (zn':=fun t=>t.2) ?_ rfl fun t ht=>ht.2.2
 refine fJ (cO T.leaf) (fn:=f59) (by kernel_rfl) (by kernel_rfl) hz ⟨by decide,by decide⟩ (fun t ht=>⟨rfl,ht.2.1,ht.1⟩) (N:=100) ?_
 refine icn z zn n (yB z zn) _ ⟨nC1 hgt,fun _=>?_⟩
 (repeat' first|(with_reducible first|exact rfl|assumption|apply And.intro|exact yB.bL ‹_›)|exact lp _ (by with_reducible assumption)|intro hq)
 rename_i t ht _
 exact q2 t ht rfl rfl rfl rfl rfl
end
theorem uC{n:Int}{l:List ae}(i:Nat):cG n l i≠some 0:=by
 unfold cG
 split
 ·split
  ·simp
  ·rename_i h;intro e;exact h (by simpa using e)
 ·simp
theorem GA{n:Nat}{l:List ae}(h:(aP n l).2=0):mJ n l:=⟨fun p hp=>by
 obtain⟨i,hi⟩:=List.mem_iff_getElem?.1 hp
 have hlt:=(List.getElem?_eq_some_iff.1 hi).1
 have:=kj uC l.length 0 h i (Nat.zero_le _) (by omega)
 unfold cG at this
 rw[hi] at this
 simp only at this
 split at this
 ·rename_i h0
  unfold fq at h0
  split at h0
  ·cases h0
  ·split at h0
   ·cases h0
   ·omega
 ·cases this⟩
theorem u6{n:Int}{l:List ae}(h:(aP n l).2=0):aP n l=(0,0):=by
 have hn:=kj uC l.length 0 h
 have: ∀(m i:Nat),(∀j,i<=j->j<i+m->cG n l j=none)->scan (cG n l) m i=(0,0):=by
  intro m
  induction m with
  |zero=>intro i _;rfl
  |succ m ih=>
   intro i hb
   have:=cI (bad:=cG n l) (n:=i+(m+1)) (i:=i) (by omega) (hb i (Nat.le_refl _) (by omega))
   rw[show i+(m+1) - i=m+1 by omega,show i+(m+1) - (i+1)=m by omega] at this
   rw[this]
   exact ih (i+1) fun j h1 h2=>hb j (by omega) (by omega)
 exact this _ _ hn
section
variable{z:T aa}{zn:Nat}
theorem Ie{n:Nat}(hn:n<=64)(l:List ae):(gG n l).length<=10000:=by
 obtain⟨M,F,h⟩:=vP n l
 rw[←kA h]
 have:=nV M F n n
 have h2:n*(2*n)<=64*(2*64):=Nat.mul_le_mul (by omega) (by omega)
 omega
theorem Of{n:Nat}(hn:n<=64){l:List ae}(h:(aP n l).2=0):l.length<=10000:=by
 have hb:=kj uC l.length 0 h
 have:=CV (n:=n) (by omega) (Nat.le_refl l.length) fun j hj=>hb j (Nat.zero_le _) (by omega)
 omega
theorem It(hz:ax z zn)(h5:5<=zn)(N:aJ)(hn:N.ns<=64)(l:List ae)(hN:N.np=l.length)(hnet: ∀σ:bk,aG (ay σ []) (N.bT N.p1)=some (N.bT N.p1))(hL:bW z 4 (l.map ae.row))(p:Int × Int)
 (hp:p=if (aP N.ns l).2≠0 then aP N.ns l else if gG N.ns l=l then (0,0) else (0,18)):
 A1 z zn 36 [.agg ⟨N.gQ N.p1⟩] [] 0 0 (.tuple ⟨[zv p.1,zv p.2]⟩) []:=by
 have h0:=G7 hz (fA z) N hn l hN hnet hL (aP N.ns l) rfl
 have hcl:(aP N.ns l).1=0/\(aP N.ns l).2=0->bB prog z zn 66 [tb 4 N.np N.pc,iv N.ns] [] 0 1 (Bj z zn (gG N.ns l)) (fun s=>aU 0 s.k s.k) (fun s=>[(0, .ak s.bl)]) (fun s=>s.z) (fun s=>s.zn):=fun h=>by
  rw[hN]
  exact E4 hz h5 N.ns hn l (GA h.2) (Of hn h.2) N.pc hL (gG N.ns l) fun M F hm=>kA hm
 have lp: ∀s,Bj z zn (gG N.ns l) s->((s.k:Int) !=(N.np:Int))=false->ai prog (ah (ag f36) 2) 2 111 (rG s.k 0) [(0,N.bT N.p1),(1, .ak s.bl)] 2 s.z s.zn (Al.R (OB N N.p1 (decide (gG N.ns l=l)) s).l):=fun s hs hk=>by
  have:s.k=N.np:=by simp at hk;omega
  exact G5 hs.bL (fA s.z) N l (gG N.ns l) hN (by rw[←hs.k,this,hN]) (by have:=hs.k;have:=Ie hn l;omega) hnet (kh hL hz hs.ia) s hs.k hs.bl rfl rfl _ rfl
 have rb: ∀s σ,Bj z zn (gG N.ns l) s->aG (sig σ) (.ak s.bl)=some (.ak s.bl):=fun s σ h=>by rw[h.bl];exact eR _
 have rb2: ∀s σ,Bj z zn (gG N.ns l) s->aG (ay σ []) (.ak s.bl)=some (.ak s.bl):=fun s σ h=>by rw[h.bl];exact eR _
 have fz: ∀s,Bj z zn (gG N.ns l) s->ax s.3 s.zn:=fun s h=>h.bL
 refine ni (φ:=yB z zn) (zz:=fun t=>t.1) (zn':=fun t=>t.2) ?_ rfl fun t ht=>ht.2.2
 refine fJ (fA z) (fn:=f36) (by kernel_rfl) (by kernel_rfl) hz ⟨by decide,by decide⟩ (fun t ht=>⟨rfl,ht.2.1,ht.1⟩) (N:=100) ?_
 refine pp z zn N (decide (gG N.ns l=l)) (aP N.ns l).1 (aP N.ns l).2 (Bj z zn (gG N.ns l)) _ ?_
 (repeat' first|(with_reducible first|exact rfl|assumption|apply And.intro|exact hcl ‹_›|exact fz _ ‹_›|exact rb _ _ ‹_›|exact rb2 _ _ ‹_›)|exact h0|exact lp _ (by with_reducible assumption) (by with_reducible assumption)|exact hnet _|intro hq)
 ·refine q2 (z,zn) ⟨hz,Nat.le_refl _,fun _ _=>rfl⟩ rfl ?_ rfl rfl rfl
  rw[hp,if_pos hq]
 ·rename_i h s hs
  refine q2 (s.z,s.zn) ⟨hs.bL,hs.le,hs.ia⟩ rfl ?_ rfl rfl rfl
  have hne: ¬gG N.ns l=l:=fun e=>by
   have h1:=hs.k
   rw[e,←hN] at h1
   rw[h1] at hq;simp at hq
  rw[hp,if_neg (fun h'=>h' h.2),if_neg hne];rfl
 ·rename_i h s hs _ _
  refine q2 (s.z,s.zn) ⟨hs.bL,hs.le,hs.ia⟩ rfl ?_ rfl rfl rfl
  rw[hp,if_neg (fun h'=>h' h.2),if_neg (of_decide_eq_false hq)];rfl
 ·rename_i h s hs _ _
  refine q2 (s.z,s.zn) ⟨hs.bL,hs.le,hs.ia⟩ rfl ?_ rfl rfl rfl
  rw[hp,if_neg (fun h'=>h' h.2),if_pos (of_decide_eq_true hq)];rfl
end
theorem RL{b:Bool}{k i j L:Nat}(t:Wk (cT (eF [] b)) k i j L):False:=by
 have: ∀u v w,¬cT (eF [] b) u v w:=fun u v w h=>by simp[cT,eF] at h
 cases t with
 |my h=>exact this _ _ _ h
 |cons h _ _=>exact this _ _ _ h
theorem CP{n:Nat}{M F:Nat->Nat->Int}(h:MF n [] M F):bS M F n n=[]:=by
 have h1: ∀m,m<=n-> ∀i,i<n->bI M F i [] m=[]:=by
  intro m
  induction m with
  |zero=>intro _ i _;rfl
  |succ m ih=>
   intro hm i hi
   rw[jJ,ih (by omega) i hi]
   unfold dK
   have:=(h.1 i m hi (by omega)).1.2.1
   have hbig: ¬M i m<(lh:Int):=fun hlt=>RL (this hlt)
   have hb:(lh:Int)=1099511627776:=rfl
   rw[if_pos (.inr (by omega))]
 have h2: ∀m,m<=n->bS M F n m=[]:=by
  intro m
  induction m with
  |zero=>intro _;rfl
  |succ m ih=>
   intro hm
   rw[hY,ih (by omega)]
   exact h1 n (Nat.le_refl _) m (by omega)
 exact h2 n (Nat.le_refl _)
theorem uo(n:Nat):gG n []=[]:=by
 obtain⟨M,F,h⟩:=vP n []
 rw[←kA h];exact CP h
section
variable{z:T aa}{zn:Nat}
theorem E1(hz:ax z zn)(h5:5<=zn)(N:aJ)(hn:N.ns<=64)(hnet: ∀σ:bk,aG (ay σ []) (N.bT az)=some (N.bT az)):
 A1 z zn 36 [.agg ⟨N.gQ az⟩] [] 0 0 (.tuple ⟨[zv 0,zv 0]⟩) []:=by
 have h0:ai prog (ah (ag f36) 0) 1 111 (lK 0) [(0,N.bT az)] 1 z zn (Al.R (Kq z zn N az 0 0).l):=by
  refine an hD (fA z) (α:=Unit) 1 111 1 (fun _=>True) (fun _=>lK 0) (fun _=>[(0,N.bT az)]) (fun _=>z) (fun _=>zn) (fun _=>0) _ (fun _ _=>?_) () trivial
  refine t100 (V4 z zn N (aj _ _ _ _ _ _ _ _ _) ?_)
  (repeat' first|(with_reducible first|exact rfl|assumption|apply And.intro)|exact hnet _)
  exact du (bw ⟨rfl,rfl⟩)
 have h0':ai prog (ah (ag f36) 0) 1 111 (lK 0) [(0,N.bT az)] 1 z zn (Al.R (alt ((0:Nat)≠0) (aw.mk af.ret [(2,zv 0),(3,zv 0)] [] 1 z zn) (alt ((0:Nat)=0/\(0:Nat)=0) (aw.mk (af.exit 0) [(1,ip 0)] [(0,N.bT az)] 1 z zn) Al.nil))):=by
  refine ob h0 fun o ho=>?_
  rcases ho with ⟨_,h,_⟩|⟨_,_,h⟩|h
  ·exact absurd rfl h
  ·exact du (h ▸ bw ⟨rfl,rfl⟩)
  ·exact h.elim
 have hcl:bB prog z zn 66 [az,iv N.ns] [] 0 1 (Bj z zn []) (fun s=>aU 0 s.k s.k) (fun s=>[(0, .ak s.bl)]) (fun s=>s.z) (fun s=>s.zn):=
  Cj hz h5 N.ns hn [] fun M F hm=>CP hm
 have lp: ∀s,Bj z zn [] s->ai prog (ah (ag f36) 2) 2 111 (rG s.k 0) [(0,N.bT az),(1, .ak s.bl)] 2 s.z s.zn (Al.R (OB N az true s).l):=fun s hs=>by
  have hk:=hs.k
  have hfz:=hs.bL
  have rb: ∀σ,aG (ay σ []) (.ak s.bl)=some (.ak s.bl):=fun σ=>by rw[hs.bl];exact eR _
  obtain⟨k,bl,z',zn'⟩:=s
  simp only[List.length_nil] at hk hfz rb ⊢
  subst hk
  refine an hD (fA z') (α:=Unit) 2 111 2 (fun _=>True) (fun _=>rG 0 0) (fun _=>[(0,N.bT az),(1, .ak bl)]) (fun _=>z') (fun _=>zn') (fun _=>0) _ (fun _ _=>?_) () trivial
  refine t100 (V3 z' zn' N bl (aj _ _ _ _ _ _ _ _ _) ?_)
  (repeat' first|(with_reducible first|exact rfl|assumption|apply And.intro))
  exact du (bw rfl)
 have rb: ∀s σ,Bj z zn [] s->aG (sig σ) (.ak s.bl)=some (.ak s.bl):=fun s σ h=>by rw[h.bl];exact eR _
 have rb2: ∀s σ,Bj z zn [] s->aG (ay σ []) (.ak s.bl)=some (.ak s.bl):=fun s σ h=>by rw[h.bl];exact eR _
 have fz: ∀s,Bj z zn [] s->ax s.3 s.zn:=fun s h=>h.bL
 refine ni (φ:=yB z zn) (zz:=fun t=>t.1) (zn':=fun t=>t.2) ?_ rfl fun t ht=>ht.2.2
 refine fJ (fA z) (fn:=f36) (by kernel_rfl) (by kernel_rfl) hz ⟨by decide,by decide⟩ (fun t ht=>⟨rfl,ht.2.1,ht.1⟩) (N:=100) ?_
 refine ppz z zn N true (Bj z zn []) _ ?_
 (repeat' first|(with_reducible first|exact rfl|assumption|apply And.intro|exact fz _ ‹_›|exact rb _ _ ‹_›|exact rb2 _ _ ‹_›)|exact lp _ (by with_reducible assumption)|exact hnet _|intro hq)
 ·exact absurd rfl hq
 ·rename_i h s hs
  rw[hs.k] at hq;simp at hq
 ·exact absurd hq (by decide)
 ·rename_i h s hs _ _
  exact q2 (s.z,s.zn) ⟨hs.bL,hs.le,hs.ia⟩ rfl rfl rfl rfl rfl
end
section
variable{z:T aa}{zn:Nat}
theorem ID(hz:ax z zn)(N:aJ)(hn:N.ns<=64)(l:List ae)(hN:N.np=l.length)(hll:l.length<=10000)(hnet: ∀σ:bk,aG (ay σ []) (N.bT N.p1)=some (N.bT N.p1))(hL:bW z 4 (l.map ae.row))(hS:(aP N.ns l).2=0->j7 (gG N.ns l))(r:Int × Int × Int)
 (hr:r=if (aP N.ns l).2≠0 then (4,aP N.ns l) else if gG N.ns l=l then (0,0,0) else (4,0,18)):
 A1 z zn 29 [.agg ⟨N.gQ N.p1⟩] [] 0 0 (.agg ⟨[zv r.1,zv r.2.1,zv r.2.2]⟩) []:=by
 refine LM hz (fA z) N hn l hN hnet hL (decide (gG N.ns l=l)) (fun h=>?_) r (by rw[hr];simp only[decide_eq_true_eq])
 have hso:=LC hz (fA z) N.ns (by omega) l N.pc hL
 rw[u6 h] at hso
 have:=II hz N.ns hn l (GA h) hll N.pc hL (gG N.ns l) (fun d f hd=>wN (GA h) hd) (hS h) hso
 show A1 z zn _ [tb 4 N.np N.pc,iv N.ns] [] 0 0 _ []
 rw[hN];exact this
theorem E9(hz:ax z zn)(N:aJ)(hn:N.ns<=64)(hnet: ∀σ:bk,aG (ay σ []) (N.bT az)=some (N.bT az))(hS:j7 []):
 A1 z zn 29 [.agg ⟨N.gQ az⟩] [] 0 0 (.agg ⟨[zv 0,zv 0,zv 0]⟩) []:=by
 have hl:mJ N.ns []:=⟨fun p hp=>by simp at hp⟩
 have:=Fa hz N.ns hn (fun d f hd=>by rw[wN hl hd];exact uo _) hS (Ir hz (fA z) N.ns)
 exact IB hz (fA z) N hnet true this (0,0,0) rfl
end
def Km(x y:ae):Prop:=x.fz1<y.fz1\/(x.fz1=y.fz1/\(x.aq<y.aq\/(x.aq=y.aq/\x.aH<y.aH)))
theorem Lt{x y:ae}(h:Km x y):decide (qw y.fz1 y.aq y.aH x.fz1 x.aq x.aH<0)=false:=by
 rw[decide_eq_false_iff_not]
 unfold qw Jj AB
 unfold Km at h
 (repeat' split)<;>omega
theorem NS{C:List ae}(h:C.Pairwise Km):oH C:=fun i j x y hij hx hy=>by
 obtain⟨h1,e1⟩:=List.getElem?_eq_some_iff.1 hx
 obtain⟨h2,e2⟩:=List.getElem?_eq_some_iff.1 hy
 have:=List.pairwise_iff_getElem.1 h i j h1 h2 hij
 rw[e1,e2] at this
 exact Lt this
theorem JL{M F:Nat->Nat->Int}{i j:Nat}{L:List ae}(h:L.Pairwise Km)(hb: ∀p∈L,p.fz1<(i:Int)\/(p.fz1=(i:Int)/\p.aq<(j:Int))):
 (dK M F i L j).Pairwise Km/\ ∀p∈dK M F i L j,p.fz1<(i:Int)\/(p.fz1=(i:Int)/\p.aq<((j+1:Nat):Int)):=by
 have lt1: ∀p∈L,∀s b,Km p ⟨i,j,s,b⟩:=fun p hp s b=>by
  rcases hb p hp with q|⟨q1,q2⟩
  ·exact .inl q
  ·exact .inr ⟨q1, .inl q2⟩
 have up: ∀p∈L,p.fz1<(i:Int)\/(p.fz1=(i:Int)/\p.aq<((j+1:Nat):Int)):=fun p hp=>by
  rcases hb p hp with q|⟨q1,q2⟩
  ·exact .inl q
  ·exact .inr ⟨q1,by omega⟩
 have new: ∀s b,(⟨i,j,s,b⟩:ae).fz1<(i:Int)\/((⟨i,j,s,b⟩:ae).fz1=(i:Int)/\(⟨i,j,s,b⟩:ae).aq<((j+1:Nat):Int)):=fun s b=> .inr ⟨rfl,by show(j:Int)<_;omega⟩
 unfold dK
 split
 ·exact⟨h,up⟩
 ·split
  ·rename_i hlt
   refine⟨?_,fun p hp=>?_⟩
   ·rw[List.append_assoc,List.pairwise_append]
    refine⟨h,?_,fun a ha b hb2=>?_⟩
    ·simp only[List.cons_append,List.nil_append,List.pairwise_cons,List.mem_cons,List.not_mem_nil,or_false,forall_eq,false_implies,implies_true,List.Pairwise.nil,and_true]
     exact .inr ⟨rfl, .inr ⟨rfl,hlt.1⟩⟩
    ·simp only[List.cons_append,List.nil_append,List.mem_cons,List.not_mem_nil,or_false] at hb2
     rcases hb2 with rfl|rfl
     ·exact lt1 a ha _ _
     ·exact lt1 a ha _ _
   ·simp only[List.mem_append,List.mem_cons,List.not_mem_nil,or_false] at hp
    rcases hp with (hp|rfl)|rfl
    ·exact up p hp
    ·exact new _ _
    ·exact new _ _
  ·refine⟨?_,fun p hp=>?_⟩
   ·rw[List.pairwise_append]
    refine⟨h,by simp,fun a ha b hb2=>?_⟩
    simp only[List.mem_cons,List.not_mem_nil,or_false] at hb2
    subst hb2
    exact lt1 a ha _ _
   ·simp only[List.mem_append,List.mem_cons,List.not_mem_nil,or_false] at hp
    rcases hp with hp|rfl
    ·exact up p hp
    ·exact new _ _
theorem Gk{M F:Nat->Nat->Int}{i:Nat}{L:List ae}(h:L.Pairwise Km)(hb: ∀p∈L,p.fz1<(i:Int)): ∀m,(bI M F i L m).Pairwise Km/\ ∀p∈bI M F i L m,p.fz1<(i:Int)\/(p.fz1=(i:Int)/\p.aq<(m:Int))
 |0=>⟨h,fun p hp=> .inl (hb p hp)⟩
 |m+1=>by
  obtain⟨h1,h2⟩:=Gk h hb m
  rw[jJ]
  exact JL h1 h2
theorem IZ{M F:Nat->Nat->Int}{n:Nat}: ∀m,(bS M F n m).Pairwise Km/\ ∀p∈bS M F n m,p.fz1<(m:Int)
 |0=>⟨List.Pairwise.nil,fun p hp=>by cases hp⟩
 |m+1=>by
  obtain⟨h1,h2⟩:=IZ m
  obtain⟨h3,h4⟩:=Gk (M:=M) (F:=F) h1 h2 n
  rw[hY]
  exact⟨h3,fun p hp=>by rcases h4 p hp with q|⟨q,_⟩<;>omega⟩
theorem Gc(n:Nat)(l:List ae):oH (gG n l):=by
 obtain⟨M,F,h⟩:=vP n l
 rw[←kA h]
 exact NS (IZ n).1
theorem yG(n:Nat)(hn:n<=64)(l:List ae):j7 (gG n l):=by
 refine vy (Gc n l) ?_
 obtain⟨M,F,h⟩:=vP n l
 rw[←kA h]
 have h1:=nV M F n n
 have h2:n*(2*n)<=64*(2*64):=Nat.mul_le_mul hn (by omega)
 omega
theorem Bp:j7 []:=vy (fun i j x y _ h=>by cases h) (by decide)
section
variable{z:T aa}{zn:Nat}
theorem IC(hz:ax z zn)(N:aJ)(hn:N.ns<=64)(l:List ae)(hN:N.np=l.length)(hll:l.length<=10000)(hnet: ∀σ:bk,aG (ay σ []) (N.bT N.p1)=some (N.bT N.p1))(hL:bW z 4 (l.map ae.row))(r:Int × Int × Int)
 (hr:r=if (aP N.ns l).2≠0 then (4,aP N.ns l) else if gG N.ns l=l then (0,0,0) else (4,0,18)):
 A1 z zn 29 [.agg ⟨N.gQ N.p1⟩] [] 0 0 (.agg ⟨[zv r.1,zv r.2.1,zv r.2.2]⟩) []:=
 ID hz N hn l hN hll hnet hL (fun _=>yG N.ns hn l) r hr
theorem E8(hz:ax z zn)(N:aJ)(hn:N.ns<=64)(hnet: ∀σ:bk,aG (ay σ []) (N.bT az)=some (N.bT az)):
 A1 z zn 29 [.agg ⟨N.gQ az⟩] [] 0 0 (.agg ⟨[zv 0,zv 0,zv 0]⟩) []:=E9 hz N hn hnet Bp
end
end Go.Proofs.Nw
namespace Go.Proofs.Nw
open Go Go.AV Tryz
set_option maxHeartbeats 1000000
set_option maxRecDepth 100000
structure Fw where
 stops:List bH
 eQ:List aV
 runs:List RunT
 dL:List aE
 paths:List ae
 h9:List bE
structure jG(z:T aa)(N:aJ)(D:Fw):Prop where
 s:Bi 2 N.sa N.ns N.sc D.stops.length
 r:Bi 3 N.ra N.nr N.rc D.eQ.length
 u:Bi 1 N.ua N.nu N.uc D.runs.length
 l:Bi 0 N.la N.nl N.lc D.dL.length
 p:Bi 4 N.pa N.np N.pc D.paths.length
 f:Bi 5 N.fa N.nf N.fc D.h9.length
 ts:bW z 2 (D.stops.map bH.row)
 tr:bW z 3 (D.eQ.map aV.row)
 tu:pT z D.runs
 tl:bW z 0 (D.dL.map aE.row)
 tp:bW z 4 (D.paths.map ae.row)
 tf:bW z 5 (D.h9.map bE.row)
theorem mQ{k:Nat}{a:Option Addr}{n c len:Nat}(h:Bi k a n c len)(σ:bk):aT (ay σ []) (.slice a n c)=some (.slice a n c):=by
 rcases h with ⟨rfl,rfl,rfl,_⟩|⟨rfl,rfl⟩
 ·rfl
 ·exact qg σ k _ _
theorem fL{k:Nat}{a:Option Addr}{n c len:Nat}(h:Bi k a n c len)(σ:bk):aT (sig σ) (.slice a n c)=some (.slice a n c):=by
 rcases h with ⟨rfl,rfl,rfl,_⟩|⟨rfl,rfl⟩
 ·rfl
 ·have:sig σ (256*k+510)=some (256*k+510):=by
   unfold sig
   rw[Nat.ble_eq_true_of_le (by unfold cC;omega)]
  simp only[aT,this]
section
variable{z:T aa}{zn:Nat}{N:aJ}{D:Fw}
theorem jG.PB(h:jG z N D)(σ:bk):br (ay σ []) N.cells=some N.cells:=by
 have e: ∀x:Int,aT (ay σ []) (zv x)=some (zv x):=fun _=>rfl
 simp only[br,mQ h.s,mQ h.r,mQ h.u,mQ h.l,mQ h.p,mQ h.f,e]
theorem jG.PA(h:jG z N D)(σ:bk):br (sig σ) N.cells=some N.cells:=by
 have e: ∀x:Int,aT (sig σ) (zv x)=some (zv x):=fun _=>rfl
 simp only[br,fL h.s,fL h.r,fL h.u,fL h.l,fL h.p,fL h.f,e]
theorem jG.box(h:jG z N D)(σ:bk):aG (ay σ []) N.box=some N.box:=by
 simp only[aG,h.PB]
theorem jG.val(h:jG z N D)(σ:bk):aT (sig σ) (.agg ⟨N.cells⟩)=some (.agg ⟨N.cells⟩):=by
 simp only[aT,h.PA]
theorem Gg(hz:ax z zn){a:Option Addr}{n c:Nat}{l:List bH}(h:Bi 2 a n c l.length)(ht:bW z 2 (l.map bH.row)):
 A1 z zn 22 [.slice a n c] [] 0 0 (.tuple ⟨[zv (cF l).1,zv (cF l).2]⟩) []/\A1 z zn 32 [.slice a n c] [] 0 0 (.tuple ⟨[zv (cF l).1,zv (cF l).2]⟩) []:=by
 rcases h with ⟨rfl,rfl,rfl,h⟩|⟨rfl,rfl⟩
 ·have:=List.length_eq_zero_iff.1 h
  subst this
  exact⟨LB hz (fA z),EZ hz (fA z)⟩
 ·exact⟨PC hz (fA z) l c ht,Is hz (fA z) l c ht⟩
theorem CH(hz:ax z zn){a:Option Addr}{n c:Nat}{l:List aV}(h:Bi 3 a n c l.length)(ht:bW z 3 (l.map aV.row)):
 A1 z zn 23 [.slice a n c] [] 0 0 (.tuple ⟨[zv (cu l).1,zv (cu l).2]⟩) []/\A1 z zn 33 [.slice a n c] [] 0 0 (.tuple ⟨[zv (cu l).1,zv (cu l).2]⟩) []:=by
 rcases h with ⟨rfl,rfl,rfl,h⟩|⟨rfl,rfl⟩
 ·have:=List.length_eq_zero_iff.1 h
  subst this
  exact⟨Iu hz (fA z),Ci hz (fA z)⟩
 ·exact⟨LH hz (fA z) l c ht,E0 hz (fA z) l c ht⟩
theorem Gi(hz:ax z zn){a:Option Addr}{n c:Nat}{l:List bE}(h:Bi 5 a n c l.length)(ht:bW z 5 (l.map bE.row))(d w cc:Int):
 A1 z zn 28 [.agg ⟨[.slice a n c,zv d,zv w,zv cc]⟩] [] 0 0 (.tuple ⟨[zv (bt d w cc l).1,zv (bt d w cc l).2]⟩) []/\A1 z zn 37 [.agg ⟨[.slice a n c,zv d,zv w,zv cc]⟩] [] 0 0 (.tuple ⟨[zv (bt d w cc l).1,zv (bt d w cc l).2]⟩) []:=by
 rcases h with ⟨rfl,rfl,rfl,h⟩|⟨rfl,rfl⟩
 ·have:=List.length_eq_zero_iff.1 h
  subst this
  exact⟨LL hz (fA z) d w cc,E2 hz (fA z) d w cc⟩
 ·exact⟨PI hz (fA z) l c ht d w cc,Ix hz (fA z) l c ht d w cc⟩
theorem LG(hz:ax z zn)(N:aJ)(hnet: ∀σ:bk,aG (ay σ []) (N.cf az N.l0)=some (N.cf az N.l0)):
 A1 z zn 26 [.agg ⟨N.dR az N.l0⟩] [] 0 0 (.agg ⟨[I 0,I 0,I 0]⟩) []:=by
 have hL:ai prog (ah (ag f26) 0) 3 96 Eh [(0,N.cf az N.l0),(1,cW 0 0 0),(2,bd [])] 3 z zn (Al.R (We z zn N).l):=by
  refine an hD (fA z) (α:=Unit) 3 96 3 (fun i=>True) (fun i=>Eh) (fun i=>[(0,N.cf az N.l0),(1,cW 0 0 0),(2,bd [])]) (fun _=>z) (fun _=>zn) (fun i=>0) _ (fun i hI=>?_) () trivial
  refine t100 (ruz z zn N (aj _ _ _ _ _ _ _ _ _) ?_)
  (repeat' first|(with_reducible first|exact rfl|assumption|apply And.intro))
  all_goals first|exact bw trivial|trace_state
 refine aK1 (fA z) (fn:=f26) hz (fuz z zn N _ ?_)
 (repeat' first|(with_reducible first|exact rfl|assumption|apply And.intro|exact q1)|exact hL|exact hnet _|intro hq)
theorem NZ(hz:ax z zn)(h:jG z N D):
 A1 z zn 26 [.agg ⟨N.cells⟩] [] 0 0 (.agg ⟨[zv (if (cY N.ns N.nr D.runs).2=0 then 0 else 2),zv (cY N.ns N.nr D.runs).1,zv (cY N.ns N.nr D.runs).2]⟩) []:=by
 obtain⟨sa,ns,sc,ra,nr,rc,ua,nu,uc,la,nl,lc,pa,np,pc,fa,nf,fc,d,w,c⟩:=N
 have hb:=h.box
 rcases h.u with ⟨h1,h2,h3,h4⟩|⟨h1,h2⟩<;>simp only at h1 h2
 ·simp only at h3
  subst h1 h2 h3
  rw[List.length_eq_zero_iff.1 h4]
  exact LG hz _ hb
 ·subst h1 h2
  exact PF hz (fA z) _ D.runs rfl h.tu hb
theorem N0(hz:ax z zn)(h:jG z N D)(hl:D.runs.length<100000)(i:Nat)(hi:i<N.nu):
 A1 z zn 34 [.agg ⟨N.cells⟩,iv i] [] 0 0 (zv ((dq N.ns N.nr D.runs i).getD 0)) []:=by
 obtain⟨sa,ns,sc,ra,nr,rc,ua,nu,uc,la,nl,lc,pa,np,pc,fa,nf,fc,d,w,c⟩:=N
 have hb:=h.box
 rcases h.u with ⟨h1,h2,h3,h4⟩|⟨h1,h2⟩<;>simp only at h1 h2
 ·simp only at hi;omega
 ·subst h1 h2
  exact PG hz (fA z) _ D.runs hl rfl h.tu hb i hi
theorem JS(hz:ax z zn)(h:jG z N D)(hU:mG D.runs):
 A1 z zn 27 [.agg ⟨N.cells⟩] [] 0 0 (.agg ⟨[zv (if (bF D.runs D.dL).2=0 then 0 else 3),zv (bF D.runs D.dL).1,zv (bF D.runs D.dL).2]⟩) []:=by
 obtain⟨sa,ns,sc,ra,nr,rc,ua,nu,uc,la,nl,lc,pa,np,pc,fa,nf,fc,d,w,c⟩:=N
 have hb:=h.box
 rcases h.l with ⟨k1,k2,k3,k4⟩|⟨k1,k2⟩<;>simp only at k1 k2
 ·simp only at k3
  subst k1 k2 k3
  rw[List.length_eq_zero_iff.1 k4]
  exact IE hz (fA z) _ hb
 ·subst k1 k2
  rcases h.u with ⟨h1,h2,h3,h4⟩|⟨h1,h2⟩<;>simp only at h1 h2
  ·simp only at h3
   subst h1 h2 h3
   rw[List.length_eq_zero_iff.1 h4]
   exact IF hz (fA z) _ D.dL rfl h.tl hb
  ·subst h1 h2
   exact LN hz (fA z) _ D.runs D.dL rfl rfl h.tl h.tu hU hb
theorem JQ(hz:ax z zn)(h:jG z N D)(hU:mG D.runs)(hl:D.dL.length<100000)(i:Nat)(hi:i<N.nl):
 A1 z zn 35 [.agg ⟨N.cells⟩,iv i] [] 0 0 (zv ((eJ D.runs D.dL i).getD 0)) []:=by
 obtain⟨sa,ns,sc,ra,nr,rc,ua,nu,uc,la,nl,lc,pa,np,pc,fa,nf,fc,d,w,c⟩:=N
 have hb:=h.box
 have hv:=h.val []
 rcases h.l with ⟨k1,k2,k3,k4⟩|⟨k1,k2⟩<;>simp only at k1 k2
 ·simp only at hi;omega
 ·subst k1 k2
  obtain⟨x,hx⟩:=ez hi
  have e:(eJ D.runs D.dL i).getD 0=ib D.runs D.dL i x:=by
   unfold eJ
   rw[hx]
   simp only
   split
   ·rename_i h0;rw[h0];rfl
   ·rfl
  rw[e]
  rcases h.u with ⟨h1,h2,h3,h4⟩|⟨h1,h2⟩<;>simp only at h1 h2
  ·simp only at h3
   subst h1 h2 h3
   rw[List.length_eq_zero_iff.1 h4]
   exact Iv hz (fA z) _ D.dL rfl h.tl i x hx
  ·subst h1 h2
   exact LI hz (fA z) _ D.runs D.dL hl rfl rfl h.tl h.tu hU hb (kP hv rfl) i x hx
noncomputable def fw(n:Nat)(l:List ae):Int × Int:=by
 classical
 exact if (aP n l).2≠0 then aP n l else if gG n l=l then (0,0) else (0,18)
theorem pH(n:Nat)(l:List ae)[Decidable (gG n l=l)]:fw n l=if (aP n l).2≠0 then aP n l else if gG n l=l then (0,0) else (0,18):=by
 unfold fw
 congr
theorem JR(hz:ax z zn)(h:jG z N D)(hn:N.ns<=64)(hll:D.paths.length<=10000):
 A1 z zn 29 [.agg ⟨N.cells⟩] [] 0 0 (.agg ⟨[zv (if (fw N.ns D.paths).2=0 then 0 else 4),zv (fw N.ns D.paths).1,zv (fw N.ns D.paths).2]⟩) []:=by
 classical
 obtain⟨sa,ns,sc,ra,nr,rc,ua,nu,uc,la,nl,lc,pa,np,pc,fa,nf,fc,d,w,c⟩:=N
 have hb:=h.box
 rcases h.p with ⟨k1,k2,k3,k4⟩|⟨k1,k2⟩<;>simp only at k1 k2
 ·simp only at k3 hn
  subst k1 k2 k3
  rw[List.length_eq_zero_iff.1 k4]
  have e:fw ns []=(0,0):=by rw[pH,if_neg (by simp[aP,scan]),if_pos (uo _)]
  show A1 z zn _ _ [] 0 0 (.agg ⟨[zv (if (fw ns []).2=0 then 0 else 4),zv (fw ns []).1,zv (fw ns []).2]⟩) []
  rw[e]
  exact E8 hz _ hn hb
 ·subst k1 k2
  refine IC hz _ hn D.paths rfl hll hb h.tp (if (fw ns D.paths).2=0 then 0 else 4,(fw ns D.paths).1,(fw ns D.paths).2) ?_
  rw[pH]
  show _=if (aP ns D.paths).2≠0 then (4,aP ns D.paths) else if gG ns D.paths=D.paths then (0,0,0) else (4,0,18)
  by_cases h1:(aP ns D.paths).2=0<;>by_cases h2:gG ns D.paths=D.paths<;>simp[h1,h2]
theorem Gh(hz:ax z zn)(h5:5<=zn)(h:jG z N D)(hn:N.ns<=64):
 A1 z zn 36 [.agg ⟨N.cells⟩] [] 0 0 (.tuple ⟨[zv (fw N.ns D.paths).1,zv (fw N.ns D.paths).2]⟩) []:=by
 classical
 obtain⟨sa,ns,sc,ra,nr,rc,ua,nu,uc,la,nl,lc,pa,np,pc,fa,nf,fc,d,w,c⟩:=N
 have hb:=h.box
 rcases h.p with ⟨k1,k2,k3,k4⟩|⟨k1,k2⟩<;>simp only at k1 k2
 ·simp only at k3 hn
  subst k1 k2 k3
  rw[List.length_eq_zero_iff.1 k4]
  have e:fw ns []=(0,0):=by rw[pH,if_neg (by simp[aP,scan]),if_pos (uo _)]
  show A1 z zn _ _ [] 0 0 (.tuple ⟨[zv (fw ns []).1,zv (fw ns []).2]⟩) []
  rw[e]
  exact E1 hz h5 _ hn hb
 ·subst k1 k2
  exact It hz h5 _ hn D.paths rfl hb h.tp (fw ns D.paths) (pH _ _)
noncomputable def jW(N:aJ)(D:Fw):Int × Int × Int:=iB (cF D.stops) (cu D.eQ) (2,cY N.ns N.nr D.runs) (3,bF D.runs D.dL) (4,fw N.ns D.paths) (bt N.d N.w N.c D.h9)
theorem xR(s r u k p f:Int × Int):iB s r (if u.2=0 then 0 else 2,u) (if k.2=0 then 0 else 3,k) (if p.2=0 then 0 else 4,p) f=iB s r (2,u) (3,k) (4,p) f:=by
 unfold iB
 by_cases h1:u.2=0<;>by_cases h2:k.2=0<;>by_cases h3:p.2=0<;>simp[h1,h2,h3]
theorem rP{k:Nat}{a:Option Addr}{n c len:Nat}(h:Bi k a n c len):n=len:=by
 rcases h with ⟨_,rfl,_,rfl⟩|⟨_,rfl⟩<;>rfl
theorem CD{l:List bH}(h:(cF l).2=0):l.length<=64:=by
 unfold cF at h
 split at h
 ·cases h
 ·omega
theorem qO{f:Nat->Option Nat}{v:Value}(h:aT f v=some v):br f [v]=some [v]:=by simp only[br,h]
theorem IJ(hz:ax z zn)(h:jG z N D)(hll:D.paths.length<=10000):
 A1 z zn 10 [.agg ⟨N.cells⟩] [] 0 0 (.tuple ⟨[zv (jW N D).1,zv (jW N D).2.1,zv (jW N D).2.2]⟩) []:=by
 have:=LR hz (fA z) N (cF D.stops) (cu D.eQ) (if (cY N.ns N.nr D.runs).2=0 then 0 else 2,cY N.ns N.nr D.runs) (if (bF D.runs D.dL).2=0 then 0 else 3,bF D.runs D.dL) (if (fw N.ns D.paths).2=0 then 0 else 4,fw N.ns D.paths) (bt N.d N.w N.c D.h9)
  (qO (h.val [])) (qO (fL h.s _)) (qO (fL h.r _)) (qO (by
    have e: ∀x:Int,aT (sig []) (zv x)=some (zv x):=fun _=>rfl
    have e2:=fL h.f []
    have e3:br (sig []) [.slice N.fa N.nf N.fc,zv N.d,zv N.w,zv N.c]=some [.slice N.fa N.nf N.fc,zv N.d,zv N.w,zv N.c]:=by simp only[br,e2,e]
    show(match br (sig []) [.slice N.fa N.nf N.fc,zv N.d,zv N.w,zv N.c] with|some m=>some (Value.agg ⟨m⟩)|none=>none)=_
    rw[e3]))
  (Gg hz h.s h.ts).1 (CH hz h.r h.tr).1 (fun _ _=>NZ hz h) (fun _ _ hu=>JS hz h (vB (ns:=N.ns) (nr:=N.nr) (by simpa using hu)))
  (fun hs _ _ _=>JR hz h (by have:=rP h.s;have:=CD hs;omega) hll) (Gi hz h.f h.tf N.d N.w N.c).1
 rw[xR] at this
 exact this
theorem E5(hz:ax z zn)(h5:5<=zn)(h:jG z N D):
 A1 z zn 13 [.agg ⟨N.cells⟩] [] 0 0 (.tuple ⟨[zv (jW N D).1,zv (jW N D).2.1,zv (jW N D).2.2]⟩) []:=by
 have hun:=rP h.u
 have hln:=rP h.l
 refine Iy hz (fA z) N (cF D.stops) (cu D.eQ) (fw N.ns D.paths) (bt N.d N.w N.c D.h9) (cY N.ns N.nr D.runs) (bF D.runs D.dL) (fun i=>(dq N.ns N.nr D.runs i).getD 0) (fun i=>(eJ D.runs D.dL i).getD 0)
  h.box (h.val []) (qO (fL h.s _)) (qO (fL h.r _)) (qO (by
   have e: ∀x:Int,aT (sig []) (zv x)=some (zv x):=fun _=>rfl
   have e2:=fL h.f []
   have e3:br (sig []) [.slice N.fa N.nf N.fc,zv N.d,zv N.w,zv N.c]=some [.slice N.fa N.nf N.fc,zv N.d,zv N.w,zv N.c]:=by simp only[br,e2,e]
   show(match br (sig []) [.slice N.fa N.nf N.fc,zv N.d,zv N.w,zv N.c] with|some m=>some (Value.agg ⟨m⟩)|none=>none)=_
   rw[e3]))
  (Gg hz h.s h.ts).2 (CH hz h.r h.tr).2 (fun _ _ h1024 i hi _=>N0 hz h (by omega) i hi) (by rw[hun];exact N1 _ _ _) (fun _ _ hu h1024 i hi _=>JQ hz h (vB (ns:=N.ns) (nr:=N.nr) hu) (by omega) i hi) (by rw[hln];exact KT _ _)
  (fun hs _ _ _=>Gh hz h5 h (by have:=rP h.s;have:=CD hs;omega)) (Gi hz h.f h.tf N.d N.w N.c).2
end
end Go.Proofs.Nw
namespace Go.Proofs.Nw
open Go Go.AV Tryz
end Go.Proofs.Nw
namespace Go.Proofs.Nw
open Go Go.AV Tryz
set_option maxRecDepth 1000000
noncomputable section
theorem qvl(z:T aa)(zn:Nat)(N:aJ)(a b c:Int)(Q:QF)(hyp:aQ prog z zn 13 [AG (wZ N)] [] 0 0 Yy (fun(x:Unit)=>TP [zv a,zv b,zv c]) cX/\Tz N/\ ∀(x:Unit),True->Rs (TP [ZV a,ZV b,ZV c])/\Br (c==0) (E6 14 z zn (YA/\Q T1 [] 0 z zn)) (E6 14 z zn (YQ/\Q F0 [] 0 z zn))):dM prog FU z Tryz.f6 [AG N.cells] z [] 0 zn Q:=K1t hyp (tA 1 (Tr.cm (Cm.mk [AG (wZ N)] [] 0 0 [] [] 1) Unit Yy (fun(x:Unit)=>TP [zv a,zv b,zv c]) cX (fun(x:Unit)=>TP [ZV a,ZV b,ZV c]) cX (fD z) (fC zn) fun(x:Unit)=>(tR [] [] T1 [] 0 z zn).fork (FT z zn)))
end
end Go.Proofs.Nw
namespace Go.Proofs.Nw
open Go Go.AV Tryz
set_option maxHeartbeats 1000000
set_option maxRecDepth 100000
section
variable{z:T aa}{N:aJ}{D:Fw}
theorem jG.run(h:jG z N D){k:Nat}{x:RunT}(hx:D.runs[k]? =some x): ∃kl,z.get 1=some (.ak kl)/\aC prog kl 38 (0+k*8)=some (.agg ⟨x.v.row⟩)/\aC prog kl 4 (0+k*8+6)=some (.bool x.v.cancelled)/\aC prog kl 36 (0+k*8+7)=some (.slice x.v.ca x.v.cn x.v.cc):=by
 obtain⟨el,hel⟩:=h.tu.JG.ak (i:=k) (by simpa using (List.getElem?_eq_some_iff.1 hx).1)
 have hlen:=aM (row:=fun r:RunT=>r.v.row) (sz:=8) D.runs fun _=>rfl
 have hr:(D.runs.map fun r:RunT=>r.v.row)[k]? =some x.v.row:=by rw[List.getElem?_map,hx];rfl
 exact⟨_,hel,bC (r:=x.v.row) (sz:=8) underlying38 rfl rfl hlen hr,aX underlying4 rfl hlen hr rfl,aX underlying36 rfl hlen hr rfl⟩
theorem jG.call(h:jG z N D){k:Nat}{x:RunT}(hx:D.runs[k]? =some x){i:Nat}{c:bm}(hc:x.calls[i]? =some c):x.v.ca=some ⟨256*(6+k)+510,0,none⟩/\x.v.cn=x.calls.length/\ ∃kl,z.get (6+k)=some (.ak kl)/\aC prog kl 3 (0+i*5+1)=some (zv c.arr)/\aC prog kl 3 (0+i*5+2)=some (zv c.dep):=by
 have hi:=(List.getElem?_eq_some_iff.1 hc).1
 obtain⟨el,hel⟩:=(h.tu.calls k x hx).ak (i:=i) (by simpa using hi)
 have hs:x.v.ca=some ⟨256*(6+k)+510,0,none⟩/\x.v.cn=x.calls.length:=by
  rcases h.tu.sl k x hx with (⟨_,_,_,h4⟩|h)|⟨_,_,_,h4⟩
  ·omega
  ·exact h
  ·omega
 have hlen:=aM (row:=bm.row) (sz:=5) x.calls fun _=>rfl
 have hr:(x.calls.map bm.row)[i]? =some c.row:=by rw[List.getElem?_map,hc];rfl
 exact⟨hs.1,hs.2,_,hel,aX underlying3 rfl hlen hr rfl,aX underlying3 rfl hlen hr rfl⟩
end
section
variable{z:T aa}{zn:Nat}{N:aJ}{D:Fw}
theorem LA(hz:ax z zn)(h5:5<=zn)(hN:jG z N D):A1 z zn 6 [.agg ⟨N.cells⟩] [] 0 0 (.bool ((jW N D).2.2==0)) []:=by
 have hv:=qO (hN.val [])
 have hb:=hN.box
 have hc:=E5 hz h5 hN
 refine aK1 (mh (zg:=z)) (fn:=Tryz.f6) hz (qvl z zn N (jW N D).1 (jW N D).2.1 (jW N D).2.2 _ ?_)
 (repeat' first|(with_reducible first|exact rfl|assumption|apply And.intro)|intro hq)
 all_goals (refine yW ?_;rw[hq])
end
end Go.Proofs.Nw
namespace Go.AV
open Go.RowKit
theorem oZ{σ:Nat->Option Nat}: ∀{a b:List Value},br σ a=some a->br σ b=some b->br σ (a++b)=some (a++b)
 |[],b,_,h=>h
 |x::a,b,h,k=>by
  simp only[br] at h
  split at h
  ·rename_i u hu
   split at h
   ·rename_i m hm
    cases h
    simp only[List.cons_append,br,hu,oZ hm k]
   ·cases h
  ·cases h
theorem td{σ:Nat->Option Nat}: ∀{rows:List (List Value)},(∀r∈rows,br σ r=some r)->br σ rows.flatten=some rows.flatten
 |[],_=>rfl
 |r::rows,h=>by rw[List.flatten_cons];exact oZ (h r (by simp)) (td fun x hx=>h x (by simp[hx]))
inductive Kd where
 |b
 |i (k:IntKind)
 |s
 |sl (t:TypeId)
def jc(S:TypeId->Option (List Kd))(P:Program):List Field->Nat->Option (List Kd)
 |[],_=>some []
 |f::l,o=>match Nat.beq f.offset o,S f.type with
  |true,some a=>match Nat.beq (P.cellsOf f.type) a.length,jc S P l (o+a.length) with
   |true,some r=>some (a++r)
   |_,_=>none
  |_,_=>none
def shapeOf(P:Program):Nat->TypeId->Option (List Kd)
 |0,_=>none
 |n+1,t=>match P.underlying t with
  |some .bool=>some [.b]
  |some (.int k)=>some [.i k]
  |some .string=>some [.s]
  |some (.slice _)=>some [.sl t]
  |some (.struct fs)=>jc (shapeOf P n) P fs.toList 0
  |_=>none
section
variable{H:Type}(enc:TypeId × Value->H)(P:Program)(w:World)(base:Nat)
def Je:Kd->Value->Prop
 | .b,v=> ∃x,v= .bool x
 | .i k,v=> ∃n,v= .int k n/\(Lit.int k n).wf=true
 | .s,v=> ∃s:ByteArray,v= .string s/\s.size<=maxLen
 | .sl t,v=> ∃n y,DataW.trod enc P w base (fun _=>true) true n t [v]=some y
def cD:List Kd->List Value->Prop
 |[],[]=>True
 |k::l,v::r=>Je enc P w base k v/\cD l r
 |_,_=>False
end
section
variable{H:Type}{enc:TypeId × Value->H}{P:Program}{w:World}{base:Nat}
theorem cD.length: ∀{ks:List Kd} {cs:List Value},cD enc P w base ks cs->cs.length=ks.length
 |[],[],_=>rfl
 |_::_,_::_,h=>by simp[cD.length h.2]
 |[],_::_,h=>h.elim
 |_::_,[],h=>h.elim
theorem cD.e{r:List Value}(h:cD enc P w base [] r):r=[]:=by
 cases r with
 |nil=>rfl
 |cons _ _=>exact h.elim
theorem cD.c{k:Kd}{ks:List Kd}{r:List Value}(h:cD enc P w base (k::ks) r): ∃v l,r=v::l/\Je enc P w base k v/\cD enc P w base ks l:=by
 cases r with
 |nil=>exact h.elim
 |cons v l=>exact⟨v,l,rfl,h.1,h.2⟩
theorem cD.i{k:IntKind}{ks:List Kd}{r:List Value}(h:cD enc P w base (.i k::ks) r): ∃n l,r= .int k n::l/\(Lit.int k n).wf=true/\cD enc P w base ks l:=by
 obtain⟨v,l,rfl,h1,h2⟩:=h.c
 obtain⟨n,rfl,h3⟩:=h1
 exact⟨n,l,rfl,h3,h2⟩
theorem cD.b{ks:List Kd}{r:List Value}(h:cD enc P w base (.b::ks) r): ∃n l,r= .bool n::l/\cD enc P w base ks l:=by
 obtain⟨v,l,rfl,h1,h2⟩:=h.c
 obtain⟨n,rfl⟩:=h1
 exact⟨n,l,rfl,h2⟩
theorem cD.s{ks:List Kd}{r:List Value}(h:cD enc P w base (.s::ks) r): ∃(n:ByteArray)(l:List Value),r= .string n::l/\n.size<=9223372036854775807/\cD enc P w base ks l:=by
 obtain⟨v,l,rfl,h1,h2⟩:=h.c
 obtain⟨n,rfl,h3⟩:=h1
 exact⟨n,l,rfl,by unfold maxLen at h3;omega,h2⟩
theorem cD.sl{t:TypeId}{ks:List Kd}{r:List Value}(h:cD enc P w base (.sl t::ks) r): ∃v l,r=v::l/\(∃n y,DataW.trod enc P w base (fun _=>true) true n t [v]=some y)/\cD enc P w base ks l:=by
 obtain⟨v,l,rfl,h1,h2⟩:=h.c
 exact⟨v,l,rfl,h1,h2⟩
theorem cD.append: ∀{ks kt:List Kd} {cs ct:List Value},cD enc P w base ks cs->cD enc P w base kt ct->cD enc P w base (ks++kt) (cs++ct)
 |[],_,[],_,_,k=>k
 |_::_,_,_::_,_,h,k=>⟨h.1,cD.append h.2 k⟩
 |[],_,_::_,_,h,_=>h.elim
 |_::_,_,[],_,h,_=>h.elim
theorem nD{S:TypeId->Option (List Kd)}{n:Nat}(hS: ∀t sh cs x,S t=some sh->cs.length=sh.length->DataW.trod enc P w base (fun _=>true) true n t cs=some x->cD enc P w base sh cs):
 ∀(fs:List Field)(o:Nat)(sh:List Kd)(cs:List Value),jc S P fs o=some sh->(∀f∈fs,∃x,DataW.trod enc P w base (fun _=>true) true n f.type ((cs.drop f.offset).take (P.cellsOf f.type))=some x)->cs.length=o+sh.length->cD enc P w base sh (cs.drop o)
 |[],o,sh,cs,h,_,hl=>by
  simp only[jc,Option.some.injEq] at h
  subst h
  rw[List.drop_eq_nil_of_le (by rw[hl];simp)]
  trivial
 |f::l,o,sh,cs,h,hf,hl=>by
  unfold jc at h
  split at h
  ·rename_i a h1 h2
   split at h
   ·rename_i r h3 h4
    cases h
    have e1:=Nat.eq_of_beq_eq_true h1
    have e3:=Nat.eq_of_beq_eq_true h3
    subst e1
    obtain⟨x,hx⟩:=hf f (by simp)
    rw[e3] at hx
    have i1:=hS _ _ _ _ h2 (by rw[List.length_take,List.length_drop,hl];simp) hx
    have i2:=nD hS l (f.offset+a.length) r cs h4 (fun g hg=>hf g (by simp[hg])) (by rw[hl];simp;omega)
    have e:cs.drop f.offset=(cs.drop f.offset).take a.length++cs.drop (f.offset+a.length):=by
     rw[←List.drop_drop,List.take_append_drop]
    rw[e]
    exact i1.append i2
   ·cases h
  ·cases h
theorem sM: ∀(fuel:Nat)(n:Nat)(t:TypeId)(sh:List Kd)(cs:List Value)(x:DataW H × List MemPlace),shapeOf P fuel t=some sh->cs.length=sh.length->DataW.trod enc P w base (fun _=>true) true n t cs=some x->cD enc P w base sh cs
 |0,_,_,_,_,_,h,_,_=>by simp[shapeOf] at h
 |fuel+1,n,t,sh,cs,x,h,hl0,hx=>by
  unfold shapeOf at h
  split at h
  ·rename_i hu;cases h
   obtain⟨v,rfl,_⟩:=DataW.trod_bool hu hx
   exact⟨⟨v,rfl⟩,trivial⟩
  ·rename_i k hu;cases h
   obtain⟨v,rfl,_,hw⟩:=DataW.trod_int hu hx
   exact⟨⟨v,rfl,hw⟩,trivial⟩
  ·rename_i hu;cases h
   obtain⟨v,rfl,_,hw⟩:=DataW.trod_string hu hx
   exact⟨⟨v,rfl,hw⟩,trivial⟩
  ·rename_i e hu;cases h
   have: ∃v,cs=[v]:=by
    rcases DataW.trod_slice hu hx with ⟨rfl,_⟩|⟨a,len,cap,_,_,_,_,rfl,_⟩<;>exact⟨_,rfl⟩
   obtain⟨v,rfl⟩:=this
   exact⟨⟨n,x,hx⟩,trivial⟩
  ·rename_i fs hu
   obtain⟨xs,m,rfl,_,hl,hlen,hf⟩:=DataW.trod_struct hu hx
   have:=nD (enc:=enc) (w:=w) (base:=base) (S:=shapeOf P fuel) (n:=m) (fun t' sh' cs' x' h1 h2 h3=>sM fuel m t' sh' cs' x' h1 h2 h3) fs.toList 0 sh cs h (fun f hf'=>?_) (by omega)
   ·simpa using this
   ·obtain⟨i,hi⟩:=List.mem_iff_getElem?.1 hf'
    have hi':fs[i]? =some f:=by simpa using hi
    have:=hf i f hi'
    have hlt:i<xs.length:=by rw[hlen];exact(Array.getElem?_eq_some_iff.1 hi').1
    exact⟨xs[i],by rw[this,List.getElem?_eq_getElem hlt]⟩
  ·cases h
theorem sJ{fuel n:Nat}{t:TypeId}{sh:List Kd}{cs:List Value}{x:DataW H × List MemPlace}{fs:Array Field}(hu:P.underlying t=some (.struct fs))(hc:P.cellsOf t=sh.length)(h:shapeOf P fuel t=some sh)(hx:DataW.trod enc P w base (fun _=>true) true n t cs=some x):cD enc P w base sh cs:=by
 obtain⟨xs,m,rfl,_,hl,_⟩:=DataW.trod_struct hu hx
 exact sM fuel _ t sh cs x h (by omega) hx
def mF(w:World)(v:Value)(sz:Nat)(rows:List (List Value)):Prop:=
 (v= .slice none 0 0/\rows=[])\/((∃g o s,v= .slice (some ⟨g,o,some s⟩) 0 0)/\rows=[])\/
 ∃g o c,v= .slice (some ⟨g,o,none⟩) rows.length c/\ ∀(i:Nat)(r:List Value),rows[i]? =some r-> ∀(j:Nat)(x:Value),r[j]? =some x->w.cell? ⟨g,o+i*sz+j,none⟩=some x
theorem GO{α β:Type}{f:α->Option β}{l:List α}{r:List β}(h:l.mapM f=some r):r.length=l.length/\ ∀(i:Nat)(x:α),l[i]? =some x->f x=r[i]? :=⟨mapM_some_length h,fun i x hx=>mapM_some_get h i x hx⟩
theorem ur{a:Addr}{n:Nat}{cs:List Value}(h:w.cells? base a n=some cs):cs.length=n/\ ∀j x,cs[j]? =some x->w.cell? (a.add j)=some x:=by
 unfold World.cells? at h
 split at h
 ·obtain⟨h1,h2⟩:=GO h
  refine⟨by simpa using h1,fun j x hx=>?_⟩
  have hj:j<n:=by
   have:=(List.getElem?_eq_some_iff.1 hx).1
   simp at h1;omega
  have:=h2 j j (by simp[hj])
  rw[this,hx]
 ·cases h
theorem AU{g o k:Nat}:(⟨g,o,none⟩:Addr).add k=⟨g,o+k,none⟩:=by
 unfold Addr.add
 split
 ·rename_i h;subst h;rfl
 ·rfl
theorem Bq{n:Nat}{t e:TypeId}{sz:Nat}{v:Value}{x:DataW H × List MemPlace}(ht:P.underlying t=some (.slice e))(hsz:P.cellsOf e=sz)(h0:0<sz)(h:DataW.trod enc P w base (fun _=>true) true n t [v]=some x):
 ∃rows,mF w v sz rows/\ ∀r∈rows,r.length=sz/\ ∃m y,DataW.trod enc P w base (fun _=>true) true m e r=some y:=by
 rcases DataW.trod_slice ht h with ⟨h1,_⟩|⟨a,len,cap,elems,rest,m,rfl,h1,rfl,hb,hl,hm,hlen,hel,hsp,_⟩
 ·simp only[List.cons.injEq,and_true] at h1
  exact⟨[], .inl ⟨h1,rfl⟩,fun r hr=>by cases hr⟩
 ·simp only[List.cons.injEq,and_true] at h1
  subst h1
  rw[hsz] at hel hsp
  have row: ∀i,i<len-> ∃r,w.cells? base (a.add (i*sz)) sz=some r/\ ∃y,DataW.trod enc P w base (fun _=>true) true m e r=some y:=fun i hi=>by
   have h2:=hel i hi
   rw[List.getElem?_eq_getElem (by omega)] at h2
   obtain⟨r,h3,h4⟩:=Option.bind_eq_some_iff.1 h2
   exact⟨r,h3,_,h4⟩
  obtain⟨rows,hrl,hrows⟩: ∃rows:List (List Value),rows.length=len/\ ∀i (hi:i<rows.length),w.cells? base (a.add (i*sz)) sz=some rows[i]/\ ∃y,DataW.trod enc P w base (fun _=>true) true m e rows[i]=some y:=by
   classical
   refine⟨List.ofFn (n:=len) fun i=>Classical.choose (row i.1 i.2),by simp,fun i hi=>?_⟩
   have:=Classical.choose_spec (row i (by simpa using hi))
   simpa using this
  have hin: ∀r∈rows,r.length=sz/\ ∃m y,DataW.trod enc P w base (fun _=>true) true m e r=some y:=fun r hr=>by
   obtain⟨i,hi,rfl⟩:=List.mem_iff_getElem.1 hr
   obtain⟨h1,h2⟩:=hrows i hi
   exact⟨(ur h1).1,m,h2⟩
  obtain⟨g,o,sp⟩:=a
  cases sp with
  |none=>
   refine⟨rows, .inr (.inr ⟨g,o,cap,by rw[hrl],fun i r hr j x hx=>?_⟩),hin⟩
   obtain⟨hi,rfl⟩:=List.getElem?_eq_some_iff.1 hr
   have:=(ur (hrows i hi).1).2 j x hx
   rw[AU,AU] at this
   exact this
  |some s=>
   have hbad: ∀x,w.cell? ⟨g,o,some s⟩=some x->False:=fun x hx=>by
    unfold World.cell? at hx
    split at hx
    ·simp at hx
    ·cases hx
   have hno: ∀r,w.cells? base ⟨g,o,some s⟩ sz=some r->False:=fun r hr=>by
    obtain⟨h1,h2⟩:=ur hr
    cases r with
    |nil=>simp at h1;omega
    |cons c r=>exact hbad c (h2 0 c rfl)
   have hz:len=0:=Nat.eq_zero_of_not_pos fun hp=>by
    obtain⟨r,h3,_⟩:=row 0 hp
    rw[Nat.zero_mul] at h3
    exact hno r h3
   have hc:cap=0:=Nat.eq_zero_of_not_pos fun hp=>by
    obtain⟨h3,h4⟩:=hsp rfl
    have h5:=h4 0 (by omega)
    rw[List.getElem?_eq_getElem (by omega)] at h5
    obtain⟨r,h6,_⟩:=Option.bind_eq_some_iff.1 h5
    rw[hz] at h6
    simp only[Nat.zero_add,Nat.zero_mul] at h6
    exact hno r h6
   subst hz hc
   exact⟨rows, .inr (.inl ⟨⟨g,o,s,rfl⟩,List.length_eq_zero_iff.1 hrl⟩),hin⟩
end
theorem EX{P:Program}{w:World}{r:Reach}{b:Nat}{t e:TypeId}{a:Addr}{n c:Nat}(ht:P.underlying t=some (.slice e))(h:Cell.okWide P w r b t (.slice (some a) n c)):a.spot=none:=by
 unfold Cell.okWide at h
 rw[ht] at h
 simp only at h
 unfold Cell.ok at h
 rw[ht] at h
 exact h.2.2.2.1
def Jc(F:FA)(zn:Nat)(w:World):Prop:= ∀k g o cs,F k=some (g,o,some cs)->(∃c e fr,w.heap[g]? =some (.cells c e fr))/\
 (∀i v,cs[i]? =some v-> ∃v',w.cell? ⟨g,o+i,none⟩=some v'/\VR (jH F) v v')/\ ∀σ:Nat->Option Nat,(∀j,j<zn->σ (256*j+510)=some (256*j+510))->br σ cs=some cs
theorem HJ(F:FA)(zn:Nat)(w:World)(hN: ∀k x,F k=some x->k<zn)(h:Jc F zn w): ∃z,Mm z (jH F) w/\ax z zn/\eY (jH F) zn/\ ∀k g o cs,F k=some (g,o,some cs)-> ∃e,z.get k=some (.ak (bc e cs)):=by
 classical
 have hE: ∃E:Nat->TypeId,∀k g o cs,F k=some (g,o,some cs)-> ∃c fr,w.heap[g]? =some (.cells c (E k) fr):=by
  refine⟨fun k=>if hk: ∃e,∃g o cs c fr,F k=some (g,o,some cs)/\w.heap[g]? =some (.cells c e fr) then Classical.choose hk else 0,fun k g o cs hF=>?_⟩
  obtain⟨⟨c,e,fr,hc⟩,_⟩:=h k g o cs hF
  have hk: ∃e,∃g o cs c fr,F k=some (g,o,some cs)/\w.heap[g]? =some (.cells c e fr):=⟨e,g,o,cs,c,fr,hF,hc⟩
  simp only[dif_pos hk]
  obtain⟨g',o',cs',c',fr',h1,h2⟩:=Classical.choose_spec hk
  rw[hF] at h1
  cases h1
  exact⟨c',fr',h2⟩
 obtain⟨E,hE⟩:=hE
 have get: ∀k o,(NJ F E zn).get k=some o->k<zn/\ ∃g o' cs,F k=some (g,o',some cs)/\o= .ak (bc (E k) cs):=by
  intro k o hk
  rw[rO] at hk
  split at hk
  ·rename_i hlt
   refine⟨hlt,?_⟩
   split at hk
   ·rename_i g o' cs hF;cases hk;exact⟨g,o',cs,hF,rfl⟩
   ·cases hk
  ·cases hk
 refine⟨NJ F E zn,⟨fun k o hk=>?_,fun k o hk=>?_,fun b hb=>?_⟩,fun k o hk=>?_,fun k hk=>?_,fun k g o cs hF=>⟨E k,?_⟩⟩
 ·obtain⟨_,g,o',cs,hF,rfl⟩:=get k o hk
  obtain⟨c,fr,hc⟩:=hE k g o' cs hF
  obtain⟨_,hcell,_⟩:=h k g o' cs hF
  refine⟨⟨g,o',0⟩,_,by rw[qf,hF],hc,?_⟩
  refine⟨rfl,Nat.le_refl _,fun hh=>(by cases hh),fun i v hv=>?_,fun _=>rfl,fun hh=>(by cases hh),fun hh=>(by cases hh),fun hh=>(by cases hh)⟩
  obtain⟨v',q1,q2⟩:=hcell i v hv
  refine⟨v',?_,q2⟩
  simp[World.cell?,hc] at q1
  exact q1
 ·obtain⟨_,g,o',cs,hF,rfl⟩:=get k o hk
  rfl
 ·unfold jH
  rw[if_neg (by unfold cC at hb;omega)]
 ·obtain⟨hlt,g,o',cs,hF,rfl⟩:=get k o hk
  refine⟨hlt,fun σ hσ=>?_⟩
  have:=(h k g o' cs hF).2.2 σ hσ
  unfold aG bc
  simp only[this]
 ·rw[qf]
  cases hF:F k with
  |none=>rfl
  |some x=>have:=hN k x hF;omega
 ·rw[rO,if_pos (hN k _ hF),hF]
def jo(v:Value)(cs:List Value):Option (Nat × Nat × Option (List Value)):=match v with
 | .slice (some ⟨g,o,none⟩) _ _=>some (g,o,match cs with|[]=>none|c::l=>some (c::l))
 |_=>none
def uM(k:Nat):Value->Option Addr
 | .slice (some ⟨_,_,none⟩) _ _=>some ⟨256*k+510,0,none⟩
 | .slice a _ _=>a
 |_=>none
def uK:Value->Nat
 | .slice _ n _=>n
 |_=>0
def uL:Value->Nat
 | .slice _ _ c=>c
 |_=>0
abbrev L4(k:Nat)(v:Value):Value:= .slice (uM k v) (uK v) (uL v)
section
variable{w:World}
theorem lB{F:FA}{k sz:Nat}{v:Value}{rows:List (List Value)}{cs:List Value}(h:mF w v sz rows)(hF:F k=jo v cs):VR (jH F) (L4 k v) v:=by
 rcases h with ⟨rfl,_⟩|⟨⟨g,o,s,rfl⟩,_⟩|⟨g,o,c,rfl,_⟩
 ·exact .sc _ rfl
 ·exact .sc _ rfl
 ·refine VR.sl (256*k+510) 0 _ c ⟨g,o,0⟩ ?_
  rw[qf,hF]
  rfl
theorem I2{k zn sz:Nat}{v:Value}{rows:List (List Value)}(h:mF w v sz rows)(hk:rows≠[]->k<zn)(hk':k<zn){σ:Nat->Option Nat}(hσ: ∀j,j<zn->σ (256*j+510)=some (256*j+510)):aT σ (L4 k v)=some (L4 k v):=by
 rcases h with ⟨rfl,_⟩|⟨⟨g,o,s,rfl⟩,_⟩|⟨g,o,c,rfl,_⟩
 ·rfl
 ·rfl
 ·simp only[L4,uM,uK,uL,aT,hσ k hk']
theorem Cf{g o:Nat}{v:Value}(h:w.cell? ⟨g,o,none⟩=some v): ∃c e fr,w.heap[g]? =some (.cells c e fr):=by
 unfold World.cell? at h
 cases hc:w.heap[g]? with
 |none=>simp[hc] at h
 |some x=>cases x<;>simp[hc] at h<;>exact⟨_,_,_,rfl⟩
theorem kY{F:FA}{zn:Nat}{v:Value}{sz:Nat}{rows arows:List (List Value)}(h:mF w v sz rows)(hl: ∀r∈arows,r.length=sz)
 (hc: ∀(i:Nat)(r:List Value)(j:Nat)(x:Value),arows[i]? =some r->r[j]? =some x-> ∃r' x',rows[i]? =some r'/\r'[j]? =some x'/\VR (jH F) x x')
 (hr: ∀σ:Nat->Option Nat,(∀j,j<zn->σ (256*j+510)=some (256*j+510))-> ∀r∈arows,br σ r=some r)
 {g o:Nat} {cs:List Value} (he:jo v arows.flatten=some (g,o,some cs)):
 (∃c e fr,w.heap[g]? =some (.cells c e fr))/\(∀i x,cs[i]? =some x-> ∃x',w.cell? ⟨g,o+i,none⟩=some x'/\VR (jH F) x x')/\ ∀σ:Nat->Option Nat,(∀j,j<zn->σ (256*j+510)=some (256*j+510))->br σ cs=some cs:=by
 rcases h with ⟨rfl,_⟩|⟨⟨g0,o0,s,rfl⟩,_⟩|⟨g0,off,cap,rfl,hrows⟩
 ·cases he
 ·cases he
 ·have hcs:arows.flatten=cs/\g0=g/\off=o/\cs≠[]:=by
   unfold jo at he
   simp only[Option.some.injEq,Prod.mk.injEq] at he
   obtain⟨h1,h2,h3⟩:=he
   split at h3
   ·cases h3
   ·rename_i heq;cases h3;exact⟨heq,h1,h2,by simp⟩
  obtain⟨h1,rfl,rfl,h4⟩:=hcs
  have cell: ∀i x,cs[i]? =some x-> ∃x',w.cell? ⟨g0,off+i,none⟩=some x'/\VR (jH F) x x':=by
   intro i x hx
   rw[←h1] at hx
   obtain⟨k,r,j,q1,q2,q3⟩:=Aq hl hx
   obtain⟨r',x',p1,p2,p3⟩:=hc k r j x q1 q2
   refine⟨x',?_,p3⟩
   rw[q3,←Nat.add_assoc]
   exact hrows k r' p1 j x' p2
  refine⟨?_,cell,fun σ hσ=>by rw[←h1];exact td (hr σ hσ)⟩
  cases hcs:cs with
  |nil=>exact(h4 hcs).elim
  |cons x l=>
   obtain⟨x',hx',_⟩:=cell 0 x (by rw[hcs];rfl)
   exact Cf hx'
end
end Go.AV
namespace Go.Proofs.Nw
open Go Go.AV Tryz Go.RowKit
set_option maxRecDepth 100000
theorem CI{α:Type}{row:α->List Value}{Q:α->Prop}: ∀{rows:List (List Value)},(∀r∈rows,∃x,r=row x/\Q x)-> ∃l:List α,rows=l.map row/\ ∀x∈l,Q x
 |[],_=>⟨[],rfl,fun x hx=>by cases hx⟩
 |r::rows,h=>by
  obtain⟨x,rfl,hx⟩:=h r (by simp)
  obtain⟨l,rfl,hl⟩:=CI (rows:=rows) fun s hs=>h s (List.mem_cons_of_mem _ hs)
  exact⟨x::l,rfl,fun y hy=>by
   rcases List.mem_cons.1 hy with rfl|hy
   ·exact hx
   ·exact hl y hy⟩
structure iy where
 sv:Value
 rv:Value
 uv:Value
 lv:Value
 pv:Value
 fv:Value
 d:Int
 w:Int
 c:Int
 stops:List bH
 eQ:List aV
 runs:List mH
 dL:List aE
 paths:List ae
 h9:List bE
def iy.cells(N:iy):List Value:=[N.sv,N.rv,N.uv,N.lv,N.pv,N.fv,zv N.d,zv N.w,zv N.c]
def mK(v:Value):Prop:= ∀a n c,v= .slice (some a) n c->a.spot=none
structure oI(w:World)(N:iy):Prop where
 stops:mF w N.sv 4 (N.stops.map bH.row)
 eQ:mF w N.rv 3 (N.eQ.map aV.row)
 runs:mF w N.uv 8 (N.runs.map fun r=>r.row r.cv)
 dL:mF w N.lv 5 (N.dL.map aE.row)
 paths:mF w N.pv 4 (N.paths.map ae.row)
 h9:mF w N.fv 6 (N.h9.map bE.row)
 calls: ∀r∈N.runs,mF w r.cv 5 (r.calls.map bm.row)
 zs: ∀x∈N.stops,x.id.size<=9223372036854775807
 zr: ∀x∈N.eQ,x.id.size<=9223372036854775807
 zu: ∀x∈N.runs,x.id.size<=9223372036854775807
 zf: ∀x∈N.h9,x.id.size<=9223372036854775807
 ns:mK N.sv
 nr:mK N.rv
 nu:mK N.uv
 nl:mK N.lv
 np:mK N.pv
 nf:mK N.fv
section
variable{H:Type}{enc:TypeId × Value->H}{W:World}{base:Nat}
section
variable{P:Program}
theorem Gj{r:List Value}(h:cD enc P W base [.s, .i .i64, .b, .i .i64] r): ∃x:bH,r=x.row/\x.id.size<=9223372036854775807:=by
 obtain⟨x0,l0,rfl,z0,h0⟩:=h.s
 obtain⟨x1,l1,rfl,_,h1⟩:=h0.i
 obtain⟨x2,l2,rfl,h2⟩:=h1.b
 obtain⟨x3,l3,rfl,_,h3⟩:=h2.i
 obtain rfl:=h3.e
 exact⟨⟨x0,x1,x2,x3⟩,rfl,z0⟩
theorem D1{r:List Value}(h:cD enc P W base [.s, .i .i64, .b] r): ∃x:aV,r=x.row/\x.id.size<=9223372036854775807:=by
 obtain⟨x0,l0,rfl,z0,h0⟩:=h.s
 obtain⟨x1,l1,rfl,_,h1⟩:=h0.i
 obtain⟨x2,l2,rfl,h2⟩:=h1.b
 obtain rfl:=h2.e
 exact⟨⟨x0,x1,x2⟩,rfl,z0⟩
theorem Gl{r:List Value}(h:cD enc P W base [.s, .i .i64, .i .i64, .i .i64, .i .i64, .i .i64] r): ∃x:bE,r=x.row/\x.id.size<=9223372036854775807:=by
 obtain⟨x0,l0,rfl,z0,h0⟩:=h.s
 obtain⟨x1,l1,rfl,_,h1⟩:=h0.i
 obtain⟨x2,l2,rfl,_,h2⟩:=h1.i
 obtain⟨x3,l3,rfl,_,h3⟩:=h2.i
 obtain⟨x4,l4,rfl,_,h4⟩:=h3.i
 obtain⟨x5,l5,rfl,_,h5⟩:=h4.i
 obtain rfl:=h5.e
 exact⟨⟨x0,x1,x2,x3,x4,x5⟩,rfl,z0⟩
theorem Gn{r:List Value}(h:cD enc P W base [.i .i64, .i .i64, .i .i64, .i .i64, .b] r): ∃x:aE,r=x.row/\True:=by
 obtain⟨x0,l0,rfl,_,h0⟩:=h.i
 obtain⟨x1,l1,rfl,_,h1⟩:=h0.i
 obtain⟨x2,l2,rfl,_,h2⟩:=h1.i
 obtain⟨x3,l3,rfl,_,h3⟩:=h2.i
 obtain⟨x4,l4,rfl,h4⟩:=h3.b
 obtain rfl:=h4.e
 exact⟨⟨x0,x1,x2,x3,x4⟩,rfl,trivial⟩
theorem Gm{r:List Value}(h:cD enc P W base [.i .i64, .i .i64, .i .i64, .b] r): ∃x:ae,r=x.row/\True:=by
 obtain⟨x0,l0,rfl,_,h0⟩:=h.i
 obtain⟨x1,l1,rfl,_,h1⟩:=h0.i
 obtain⟨x2,l2,rfl,_,h2⟩:=h1.i
 obtain⟨x3,l3,rfl,h3⟩:=h2.b
 obtain rfl:=h3.e
 exact⟨⟨x0,x1,x2,x3⟩,rfl,trivial⟩
theorem Gp{r:List Value}(h:cD enc P W base [.i .i64, .i .i64, .i .i64, .b, .b] r): ∃x:bm,r=x.row/\True:=by
 obtain⟨x0,l0,rfl,_,h0⟩:=h.i
 obtain⟨x1,l1,rfl,_,h1⟩:=h0.i
 obtain⟨x2,l2,rfl,_,h2⟩:=h1.i
 obtain⟨x3,l3,rfl,h3⟩:=h2.b
 obtain⟨x4,l4,rfl,h4⟩:=h3.b
 obtain rfl:=h4.e
 exact⟨⟨x0,x1,x2,x3,x4⟩,rfl,trivial⟩
theorem JW{t:TypeId}{r:List Value}(h:cD enc P W base [.i .i64, .i .i64, .i .i64, .s, .i .i64, .b, .b, .sl t] r): ∃(a b c:Int)(d:ByteArray)(e:Int)(f g:Bool)(v:Value)(n:Nat)(y:DataW H × List MemPlace),r=[zv a,zv b,zv c, .string d,zv e, .bool f, .bool g,v]/\d.size<=9223372036854775807/\DataW.trod enc P W base (fun _=>true) true n t [v]=some y:=by
 obtain⟨x0,l0,rfl,_,h0⟩:=h.i
 obtain⟨x1,l1,rfl,_,h1⟩:=h0.i
 obtain⟨x2,l2,rfl,_,h2⟩:=h1.i
 obtain⟨x3,l3,rfl,z3,h3⟩:=h2.s
 obtain⟨x4,l4,rfl,_,h4⟩:=h3.i
 obtain⟨x5,l5,rfl,h5⟩:=h4.b
 obtain⟨x6,l6,rfl,h6⟩:=h5.b
 obtain⟨x7,l7,rfl,g7,h7⟩:=h6.sl
 obtain rfl:=h7.e
 obtain⟨n,y,hy⟩:=g7
 exact⟨_,_,_,_,_,_,_,_,n,y,rfl,z3,hy⟩
theorem JX{t0 t1 t2 t3 t4 t5:TypeId}{r:List Value}(h:cD enc P W base [.sl t0, .sl t1, .sl t2, .sl t3, .sl t4, .sl t5, .i .i64, .i .i64, .i .i64] r): ∃(v0 v1 v2 v3 v4 v5:Value)(a b c:Int),r=[v0,v1,v2,v3,v4,v5,zv a,zv b,zv c]/\
 (∃n y,DataW.trod enc P W base (fun _=>true) true n t0 [v0]=some y)/\(∃n y,DataW.trod enc P W base (fun _=>true) true n t1 [v1]=some y)/\(∃n y,DataW.trod enc P W base (fun _=>true) true n t2 [v2]=some y)/\
 (∃n y,DataW.trod enc P W base (fun _=>true) true n t3 [v3]=some y)/\(∃n y,DataW.trod enc P W base (fun _=>true) true n t4 [v4]=some y)/\ ∃n y,DataW.trod enc P W base (fun _=>true) true n t5 [v5]=some y:=by
 obtain⟨x0,l0,rfl,g0,h0⟩:=h.sl
 obtain⟨x1,l1,rfl,g1,h1⟩:=h0.sl
 obtain⟨x2,l2,rfl,g2,h2⟩:=h1.sl
 obtain⟨x3,l3,rfl,g3,h3⟩:=h2.sl
 obtain⟨x4,l4,rfl,g4,h4⟩:=h3.sl
 obtain⟨x5,l5,rfl,g5,h5⟩:=h4.sl
 obtain⟨x6,l6,rfl,_,h6⟩:=h5.i
 obtain⟨x7,l7,rfl,_,h7⟩:=h6.i
 obtain⟨x8,l8,rfl,_,h8⟩:=h7.i
 obtain rfl:=h8.e
 exact⟨x0,x1,x2,x3,x4,x5,x6,x7,x8,rfl,g0,g1,g2,g3,g4,g5⟩
end
theorem HE{t:TypeId}(h:(match prog.underlying t with|some (.struct _)=>true|_=>false)=true): ∃fs,prog.underlying t=some (.struct fs):=by
 split at h
 ·exact⟨_,by assumption⟩
 ·cases h
theorem nN{n:Nat}{t e:TypeId}{sz:Nat}{v:Value}{x:DataW H × List MemPlace}{sh:List Kd}{α:Type}{row:α->List Value}{Q:α->Prop}(ht:prog.underlying t=some (.slice e))(hsz:prog.cellsOf e=sz)(h0:0<sz)(hst:(match prog.underlying e with|some (.struct _)=>true|_=>false)=true)(hsh:shapeOf prog 5 e=some sh)(hl:sh.length=sz)(hrow: ∀r,cD enc prog W base sh r-> ∃x,r=row x/\Q x)
 (h:DataW.trod enc prog W base (fun _=>true) true n t [v]=some x): ∃l:List α,mF W v sz (l.map row)/\ ∀x∈l,Q x:=by
 obtain⟨rows,h1,h2⟩:=Bq ht hsz h0 h
 obtain⟨fs,hfs⟩:=HE hst
 obtain⟨l,rfl,hl⟩:=CI (row:=row) (Q:=Q) (rows:=rows) fun r hr=>by
  obtain⟨_,m,y,hy⟩:=h2 r hr
  exact hrow r (sJ hfs (by rw[hsz,hl]) hsh hy)
 exact⟨l,h1,hl⟩
theorem JV{r:List Value}(h:cD enc prog W base [.i .i64, .i .i64, .i .i64, .s, .i .i64, .b, .b, .sl 36] r): ∃x:mH,r=x.row x.cv/\(x.id.size<=9223372036854775807/\mF W x.cv 5 (x.calls.map bm.row)):=by
 obtain⟨a,b,c,d,e,f,g,v,n,y,rfl,hd,hy⟩:=JW h
 ·obtain⟨l,h1,_⟩:=nN (sh:=[.i .i64, .i .i64, .i .i64, .b, .b]) (row:=bm.row) (e:=76) (sz:=5) (by kernel_rfl) (by kernel_rfl) (by decide) (by kernel_rfl) (by kernel_rfl) rfl (fun r hr=>Gp hr) hy
  exact⟨⟨a,b,c,d,e,f,g,v,l⟩,rfl,hd,h1⟩
theorem Kf{r:Reach}{b:Nat}{v0:Value}{n:Nat}{x:DataW H × List MemPlace}(hok:Value.okWide prog W r b 31 v0)(h:DataW.trod enc prog W base (fun _=>true) true n 31 v0.cells.toList=some x):
 ∃N:iy,v0= .agg ⟨N.cells⟩/\oI W N:=by
 obtain⟨fs,hfs⟩: ∃fs,prog.underlying 31=some (.struct fs):=HE (by kernel_rfl)
 unfold Value.okWide at hok
 rw[hfs] at hok
 obtain⟨cs,rfl,hsz,ts,hts,_,hcell⟩:=hok
 have hcs:(Value.agg cs).cells.toList=cs.toList:=rfl
 rw[hcs] at h
 have hr:=sJ (sh:=[.sl 22, .sl 23, .sl 24, .sl 25, .sl 26, .sl 27, .i .i64, .i .i64, .i .i64]) (fuel:=5) hfs (by kernel_rfl) (by kernel_rfl) h
 have hts':ts=[22,23,24,25,26,27,3,3,3]:=by
  have:prog.cellTypes prog.depth 31=some [22,23,24,25,26,27,3,3,3]:=by kernel_rfl
  rw[this] at hts;cases hts;rfl
 subst hts'
 obtain⟨l⟩:=cs
 obtain⟨sv,rv,uv,lv,pv,fv,d,e,f,rfl,⟨n0,y0,g0⟩,⟨n1,y1,g1⟩,⟨n2,y2,g2⟩,⟨n3,y3,g3⟩,⟨n4,y4,g4⟩,⟨n5,y5,g5⟩⟩:=JX hr
 ·obtain⟨ls,s1,s2⟩:=nN (sh:=[.s, .i .i64, .b, .i .i64]) (row:=bH.row) (e:=78) (sz:=4) (by kernel_rfl) (by kernel_rfl) (by decide) (by kernel_rfl) (by kernel_rfl) rfl (fun r hr=>Gj hr) g0
  obtain⟨lr,r1,r2⟩:=nN (sh:=[.s, .i .i64, .b]) (row:=aV.row) (e:=80) (sz:=3) (by kernel_rfl) (by kernel_rfl) (by decide) (by kernel_rfl) (by kernel_rfl) rfl (fun r hr=>D1 hr) g1
  obtain⟨lu,u1,u2⟩:=nN (sh:=[.i .i64, .i .i64, .i .i64, .s, .i .i64, .b, .b, .sl 36]) (row:=fun x:mH=>x.row x.cv) (e:=38) (sz:=8) (by kernel_rfl) (by kernel_rfl) (by decide) (by kernel_rfl) (by kernel_rfl) rfl (fun r hr=>JV hr) g2
  obtain⟨ll,l1,_⟩:=nN (sh:=[.i .i64, .i .i64, .i .i64, .i .i64, .b]) (row:=aE.row) (e:=124) (sz:=5) (by kernel_rfl) (by kernel_rfl) (by decide) (by kernel_rfl) (by kernel_rfl) rfl (fun r hr=>Gn hr) g3
  obtain⟨lp,p1,_⟩:=nN (sh:=[.i .i64, .i .i64, .i .i64, .b]) (row:=ae.row) (e:=82) (sz:=4) (by kernel_rfl) (by kernel_rfl) (by decide) (by kernel_rfl) (by kernel_rfl) rfl (fun r hr=>Gm hr) g4
  obtain⟨lf,f1,f2⟩:=nN (sh:=[.s, .i .i64, .i .i64, .i .i64, .i .i64, .i .i64]) (row:=bE.row) (e:=84) (sz:=6) (by kernel_rfl) (by kernel_rfl) (by decide) (by kernel_rfl) (by kernel_rfl) rfl (fun r hr=>Gl hr) g5
  have sp: ∀(i:Nat)(t e2:TypeId)(v:Value),[sv,rv,uv,lv,pv,fv,zv d,zv e,zv f][i]? =some v->[22,23,24,25,26,27,3,3,3][i % 9]? =some t->prog.underlying t=some (.slice e2)->mK v:=fun i t e' v hv ht hu a n c hvv=>by
   subst hvv
   obtain⟨u,h1,h2⟩:=hcell i _ (by simpa using hv)
   have:u=t:=by
    have h3:[22,23,24,25,26,27,3,3,3][i % 9]? =some u:=h1
    rw[h3] at ht;cases ht;rfl
   subst this
   exact EX hu h2
  refine⟨⟨sv,rv,uv,lv,pv,fv,d,e,f,ls,lr,lu,ll,lp,lf⟩,rfl,s1,r1,u1,l1,p1,f1,fun r hr=>(u2 r hr).2,s2,r2,fun r hr=>(u2 r hr).1,f2,sp 0 _ 78 _ rfl rfl (by kernel_rfl),sp 1 _ 80 _ rfl rfl (by kernel_rfl),sp 2 _ 38 _ rfl rfl (by kernel_rfl),sp 3 _ 124 _ rfl rfl (by kernel_rfl),sp 4 _ 82 _ rfl rfl (by kernel_rfl),sp 5 _ 84 _ rfl rfl (by kernel_rfl)⟩
end
def mH.abs(j:Nat)(r:mH):RunT:=⟨⟨r.u4,r.day,r.inst,r.id,r.je,r.sf,r.cancelled,uM (6+j) r.cv,uK r.cv,uL r.cv⟩,r.calls⟩
def iy.T(N:iy):Fw:=⟨N.stops,N.eQ,N.runs.mapIdx mH.abs,N.dL,N.paths,N.h9⟩
def iy.V(N:iy):aJ:=⟨uM 2 N.sv,uK N.sv,uL N.sv,uM 3 N.rv,uK N.rv,uL N.rv,uM 1 N.uv,uK N.uv,uL N.uv,uM 0 N.lv,uK N.lv,uL N.lv,uM 4 N.pv,uK N.pv,uL N.pv,uM 5 N.fv,uK N.fv,uL N.fv,N.d,N.w,N.c⟩
def yb(N:iy):List (List Value):=(N.runs.mapIdx mH.abs).map fun r=>r.v.row
def iy.FJ(N:iy):FA
 |0=>jo N.lv (N.dL.map aE.row).flatten
 |1=>jo N.uv (yb N).flatten
 |2=>jo N.sv (N.stops.map bH.row).flatten
 |3=>jo N.rv (N.eQ.map aV.row).flatten
 |4=>jo N.pv (N.paths.map ae.row).flatten
 |5=>jo N.fv (N.h9.map bE.row).flatten
 |j+6=>match N.runs[j]? with
  |some r=>jo r.cv (r.calls.map bm.row).flatten
  |none=>none
theorem wX{N:iy}{i:Nat}:(yb N)[i]? =(N.runs[i]?).map fun r=>(mH.abs i r).v.row:=by
 unfold yb
 rw[List.getElem?_map,List.getElem?_mapIdx,Option.map_map]
 rfl
theorem wW{N:iy}: ∀r∈yb N,r.length=8:=by
 intro r hr
 obtain⟨x,_,rfl⟩:=List.mem_map.1 hr
 rfl
theorem D9{l:List Value}(h:bA l=true){x:Value}(hx:x∈l):au x=true:=by
 induction l with
 |nil=>cases hx
 |cons v l ih=>
  simp only[bA] at h
  cases hv:au v with
  |false=>simp[hv] at h
  |true=>
   rw[hv] at h
   rcases List.mem_cons.1 hx with rfl|hx
   ·exact hv
   ·exact ih h hx
theorem ql{α:Type}{F:FA}(row:α->List Value)(l:List α)(hp: ∀x,bA (row x)=true):
 (∀(i:Nat)(r:List Value)(j:Nat)(x:Value),(l.map row)[i]? =some r->r[j]? =some x-> ∃r' x',(l.map row)[i]? =some r'/\r'[j]? =some x'/\VR (jH F) x x')/\ ∀σ,∀r∈l.map row,br σ r=some r:=by
 refine⟨fun i r j x h1 h2=>⟨r,x,h1,h2,VR.aW ?_⟩,fun σ r hr=>?_⟩
 ·obtain⟨y,_,rfl⟩:=List.mem_map.1 (List.mem_of_getElem? h1)
  exact D9 (hp y) (List.mem_of_getElem? h2)
 ·obtain⟨y,_,rfl⟩:=List.mem_map.1 hr
  exact eS (hp y)
section
variable{w:World}{N:iy}
theorem GK(h:oI w N):Jc N.FJ (N.runs.length+6) w:=by
 intro k g o cs hF
 match k with
 |0=>
  obtain⟨h1,h2⟩:=ql (F:=N.FJ) aE.row N.dL (fun _=>rfl)
  exact kY h.dL (aM _ fun _=>rfl) h1 (fun σ _=>h2 σ) hF
 |1=>
  refine kY h.runs wW (fun i r j x h1 h2=>?_) (fun σ hσ r hr=>?_) hF
  ·rw[wX] at h1
   cases hc:N.runs[i]? with
   |none=>rw[hc] at h1;cases h1
   |some y=>
    rw[hc] at h1
    simp only[Option.map_some,Option.some.injEq] at h1
    subst h1
    have hy:=List.mem_of_getElem? hc
    refine⟨y.row y.cv,?_⟩
    rw[List.getElem?_map,hc]
    match j with
    |0=>cases h2;exact⟨_,rfl,rfl, .sc _ rfl⟩
    |1=>cases h2;exact⟨_,rfl,rfl, .sc _ rfl⟩
    |2=>cases h2;exact⟨_,rfl,rfl, .sc _ rfl⟩
    |3=>cases h2;exact⟨_,rfl,rfl, .sc _ rfl⟩
    |4=>cases h2;exact⟨_,rfl,rfl, .sc _ rfl⟩
    |5=>cases h2;exact⟨_,rfl,rfl, .sc _ rfl⟩
    |6=>cases h2;exact⟨_,rfl,rfl, .sc _ rfl⟩
    |7=>
     cases h2
     refine⟨_,rfl,rfl,lB (h.calls y hy) (cs:=(y.calls.map bm.row).flatten) ?_⟩
     rw[Nat.add_comm 6 i]
     show(match N.runs[i]? with|some r=>jo r.cv (r.calls.map bm.row).flatten|none=>none)=_
     rw[hc]
    |j+8=>simp[mH.abs] at h2
  ·obtain⟨i,hi⟩:=List.mem_iff_getElem?.1 hr
   rw[wX] at hi
   cases hc:N.runs[i]? with
   |none=>rw[hc] at hi;cases hi
   |some y=>
    rw[hc] at hi
    simp only[Option.map_some,Option.some.injEq] at hi
    subst hi
    have hlt:=(List.getElem?_eq_some_iff.1 hc).1
    have:=I2 (k:=6+i) (h.calls y (List.mem_of_getElem? hc)) (fun _=>by omega) (by omega) hσ
    have e: ∀x:Int,aT σ (zv x)=some (zv x):=fun _=>rfl
    have e1: ∀s:ByteArray,aT σ (.string s)=some (.string s):=fun _=>rfl
    have e2: ∀s:Bool,aT σ (.bool s)=some (.bool s):=fun _=>rfl
    simp only[mH.abs,br,e,e1,e2,this]
 |2=>
  obtain⟨h1,h2⟩:=ql (F:=N.FJ) bH.row N.stops (fun _=>rfl)
  exact kY h.stops (aM _ fun _=>rfl) h1 (fun σ _=>h2 σ) hF
 |3=>
  obtain⟨h1,h2⟩:=ql (F:=N.FJ) aV.row N.eQ (fun _=>rfl)
  exact kY h.eQ (aM _ fun _=>rfl) h1 (fun σ _=>h2 σ) hF
 |4=>
  obtain⟨h1,h2⟩:=ql (F:=N.FJ) ae.row N.paths (fun _=>rfl)
  exact kY h.paths (aM _ fun _=>rfl) h1 (fun σ _=>h2 σ) hF
 |5=>
  obtain⟨h1,h2⟩:=ql (F:=N.FJ) bE.row N.h9 (fun _=>rfl)
  exact kY h.h9 (aM _ fun _=>rfl) h1 (fun σ _=>h2 σ) hF
 |j+6=>
  have hF':(match N.runs[j]? with|some r=>jo r.cv (r.calls.map bm.row).flatten|none=>none)=some (g,o,some cs):=hF
  split at hF'
  ·rename_i r hr
   obtain⟨h1,h2⟩:=ql (F:=N.FJ) bm.row r.calls (fun _=>rfl)
   exact kY (h.calls r (List.mem_of_getElem? hr)) (aM _ fun _=>rfl) h1 (fun σ _=>h2 σ) hF'
  ·cases hF'
theorem BI(N:iy): ∀k x,N.FJ k=some x->k<N.runs.length+6:=by
 intro k x h
 match k with
 |0|1|2|3|4|5=>omega
 |j+6=>
  have h':(match N.runs[j]? with|some r=>jo r.cv (r.calls.map bm.row).flatten|none=>none)=some x:=h
  split at h'
  ·rename_i r hr
   have:=(List.getElem?_eq_some_iff.1 hr).1
   omega
  ·cases h'
theorem qb{k sz:Nat}{v:Value}{rows:List (List Value)}{m:Nat}(h:mF w v sz rows)(hn:mK v)(hm:rows.length=m):Bi k (uM k v) (uK v) (uL v) m:=by
 subst hm
 rcases h with ⟨rfl,rfl⟩|⟨⟨g,o,s,rfl⟩,rfl⟩|⟨g,o,c,rfl,_⟩
 ·exact .inl ⟨rfl,rfl,rfl,rfl⟩
 ·have:=hn _ _ _ rfl;cases this
 ·exact .inr ⟨rfl,rfl⟩
theorem NY{k sz:Nat}{v:Value}{rows:List (List Value)}{m:Nat}(h:mF w v sz rows)(hm:rows.length=m):Rl k (uM k v) (uK v) (uL v) m:=by
 subst hm
 rcases h with ⟨rfl,rfl⟩|⟨⟨g,o,s,rfl⟩,rfl⟩|⟨g,o,c,rfl,_⟩
 ·exact .inl (.inl ⟨rfl,rfl,rfl,rfl⟩)
 ·exact .inr ⟨⟨g,o,s,rfl⟩,rfl,rfl,rfl⟩
 ·exact .inl (.inr ⟨rfl,rfl⟩)
theorem Le{sz:Nat}(hs:0<sz){rows:List (List Value)}(hl: ∀r∈rows,r.length=sz)(h:rows≠[]):rows.flatten≠[]:=by
 cases rows with
 |nil=>exact(h rfl).elim
 |cons r rows=>
  have:=hl r (by simp)
  cases r with
  |nil=>simp at this;omega
  |cons v r=>simp
theorem Bn{F:FA}{z:T aa}{k sz:Nat}{v:Value}{rows ar:List (List Value)}(hg: ∀k g o cs,F k=some (g,o,some cs)-> ∃e,z.get k=some (.ak (bc e cs)))(h:mF w v sz rows)(hn:ar.length=rows.length)(hs:0<sz)(hl: ∀r∈ar,r.length=sz)
 (hF:F k=jo v ar.flatten) (hsz: ∀r∈ar,∀s:ByteArray,Value.string s∈r->s.size<=9223372036854775807):bW z k ar:=by
 refine⟨fun hne=>?_,hsz⟩
 have hr:rows≠[]:=fun e=>by rw[e] at hn;exact hne (List.length_eq_zero_iff.1 hn)
 rcases h with ⟨_,e⟩|⟨_,e⟩|⟨g,off,cap,rfl,_⟩
 ·exact(hr e).elim
 ·exact(hr e).elim
 ·have hf:=Le hs hl hne
  cases hc:ar.flatten with
  |nil=>exact(hf hc).elim
  |cons x l=>
   rw[hc] at hF
   exact hg k g off (x::l) hF
theorem Oj(h:oI w N){F:FA}(hF: ∀k,k<N.runs.length+6->F k=N.FJ k){z:T aa}(h4: ∀k g o cs,F k=some (g,o,some cs)-> ∃e,z.get k=some (.ak (bc e cs))):jG z N.V N.T:=by
 have cc: ∀(j:Nat)(r:mH),N.runs[j]? =some r->bW z (6+j) (r.calls.map bm.row):=fun j r hr=>by
  refine Bn h4 (h.calls r (List.mem_of_getElem? hr)) rfl (by decide) (aM _ fun _=>rfl) ((hF (6+j) (by have:=(List.getElem?_eq_some_iff.1 hr).1;omega)).trans ?_) (fun r hr s hs=>?_)
  ·rw[Nat.add_comm 6 j]
   show(match N.runs[j]? with|some r=>jo r.cv (r.calls.map bm.row).flatten|none=>none)=_
   rw[hr]
  ·obtain⟨x,_,rfl⟩:=List.mem_map.1 hr
   simp at hs
 have gr: ∀(j:Nat)(r:RunT),(N.runs.mapIdx mH.abs)[j]? =some r-> ∃y,N.runs[j]? =some y/\r=mH.abs j y:=fun j r hr=>by
  rw[List.getElem?_mapIdx] at hr
  cases hc:N.runs[j]? with
  |none=>rw[hc] at hr;cases hr
  |some y=>rw[hc] at hr;cases hr;exact⟨y,rfl,rfl⟩
 exact {
  s:=qb h.stops h.ns (by simp[iy.T])
  r:=qb h.eQ h.nr (by simp[iy.T])
  u:=qb h.runs h.nu (by simp[iy.T])
  l:=qb h.dL h.nl (by simp[iy.T])
  p:=qb h.paths h.np (by simp[iy.T])
  f:=qb h.h9 h.nf (by simp[iy.T])
  ts:=Bn h4 h.stops rfl (by decide) (aM _ fun _=>rfl) (hF 2 (by omega)) (fun r hr s hs=>by
   obtain⟨x,hx,rfl⟩:=List.mem_map.1 hr
   have:=h.zs x hx
   simp at hs;subst hs;exact this)
  tr:=Bn h4 h.eQ rfl (by decide) (aM _ fun _=>rfl) (hF 3 (by omega)) (fun r hr s hs=>by
   obtain⟨x,hx,rfl⟩:=List.mem_map.1 hr
   have:=h.zr x hx
   simp at hs;subst hs;exact this)
  tu:={
   JG:=Bn h4 h.runs (by simp[iy.T]) (by decide) (wW (N:=N)) (hF 1 (by omega)) (fun r hr s hs=>by
    obtain⟨x,hx,rfl⟩:=List.mem_map.1 hr
    obtain⟨i,hi⟩:=List.mem_iff_getElem?.1 hx
    obtain⟨y,hy,rfl⟩:=gr i x hi
    have:=h.zu y (List.mem_of_getElem? hy)
    simp[mH.abs] at hs;subst hs;exact this)
   sl:=fun j r hr=>by
    obtain⟨y,hy,rfl⟩:=gr j r hr
    exact NY (h.calls y (List.mem_of_getElem? hy)) (by simp[mH.abs])
   calls:=fun j r hr=>by
    obtain⟨y,hy,rfl⟩:=gr j r hr
    exact cc j y hy}
  tl:=Bn h4 h.dL rfl (by decide) (aM _ fun _=>rfl) (hF 0 (by omega)) (fun r hr s hs=>by
   obtain⟨x,hx,rfl⟩:=List.mem_map.1 hr
   simp at hs)
  tp:=Bn h4 h.paths rfl (by decide) (aM _ fun _=>rfl) (hF 4 (by omega)) (fun r hr s hs=>by
   obtain⟨x,hx,rfl⟩:=List.mem_map.1 hr
   simp at hs)
  tf:=Bn h4 h.h9 rfl (by decide) (aM _ fun _=>rfl) (hF 5 (by omega)) (fun r hr s hs=>by
   obtain⟨x,hx,rfl⟩:=List.mem_map.1 hr
   have:=h.zf x hx
   simp at hs;subst hs;exact this)}
theorem Ke(h:oI w N){F:FA}(hF: ∀k,k<N.runs.length+6->F k=N.FJ k){l l':List Value}(hl:cP (jH F) l l'):cP (jH F) (.agg ⟨N.V.cells⟩::l) (.agg ⟨N.cells⟩::l'):=by
 exact .cons _ _ _ _ (.agg _ _ (.cons _ _ _ _ (lB h.stops (hF 2 (by omega))) (.cons _ _ _ _ (lB h.eQ (hF 3 (by omega))) (.cons _ _ _ _ (lB h.runs (hF 1 (by omega))) (.cons _ _ _ _ (lB h.dL (hF 0 (by omega))) (.cons _ _ _ _ (lB h.paths (hF 4 (by omega))) (.cons _ _ _ _ (lB h.h9 (hF 5 (by omega)))
  (.cons _ _ _ _ (.sc _ rfl) (.cons _ _ _ _ (.sc _ rfl) (.cons _ _ _ _ (.sc _ rfl) .nil)))))))))) hl
end
theorem EG{z:T aa}{ρ:Ren}{w w':World}(h:Mm z ρ w)(hb:Below w.heap.size w w'):Mm z ρ w':=
 ⟨fun k o hk=>let ⟨L,x,a,b,c⟩:=h.r k o hk;⟨L,x,a,(hb.block L.φ (Array.getElem?_eq_some_iff.1 b).1).trans b,c⟩,h.own,h.lo⟩
theorem MW{z:T aa}{zn f:Nat}{args args':List Value}{v:Value}{ρ:Ren}{w w':World}(h:A1 z zn f args [] 0 0 v [])(hp:au v=true)(hz:Mm z ρ w)(hfb:eY ρ zn)(ha:cP ρ args args')(hb:Below w.heap.size w w'):
 Calls prog f ⟨args'⟩ w' fun e w''=>e= .returned v/\Below w'.heap.size w' w'':=
 (wO h (EG hz hb) hfb ha).mono fun e w'' ⟨x,ρ',v',_,h2,h3,_,_,_,h4⟩=>⟨by rw[h2,h3.plain hp],h4⟩
theorem Ed{w:World}{N:iy}(hN:oI w N)(hll:N.paths.length<=10000): ∃a b c:Int,
 (∀w',Below w.heap.size w w'->Calls prog 10 #[.agg ⟨N.cells⟩] w' fun en w''=>en= .returned (.tuple #[.int .i64 a, .int .i64 b, .int .i64 c])/\Below w'.heap.size w' w'')/\
 (∀w',Below w.heap.size w w'->Calls prog 6 #[.agg ⟨N.cells⟩] w' fun en w''=>en= .returned (.bool (c==0))/\Below w'.heap.size w' w''):=by
 obtain⟨z,z1,z2,z3,z4⟩:=HJ N.FJ (N.runs.length+6) w (BI N) (GK hN)
 have z5:cP (jH N.FJ) [.agg ⟨N.V.cells⟩] [.agg ⟨N.cells⟩]:=Ke hN (fun _ _=>rfl) .nil
 have hz:=Oj hN (fun _ _=>rfl) z4
 exact⟨_,_,_,fun w' hb=>MW (IJ z2 hz hll) rfl z1 z3 z5 hb,fun w' hb=>MW (LA z2 (by omega) hz) rfl z1 z3 z5 hb⟩
theorem jb{w:World}{v:Value}{k:Nat}{rows:List (List Value)}(h:mF w v k rows): ∃(a:Option Addr)(n c:Nat),v= .slice a n c/\n=rows.length:=by
 rcases h with ⟨rfl,rfl⟩|⟨⟨g,o,s,rfl⟩,rfl⟩|⟨g,o,c,rfl,_⟩
 ·exact⟨_,_,_,rfl,rfl⟩
 ·exact⟨_,_,_,rfl,rfl⟩
 ·exact⟨_,_,_,rfl,rfl⟩
theorem Lw{w:World}{a:Addr}{v:Value}(h:w.cell? a=some v):a.block<w.heap.size:=by
 rcases Nat.lt_or_ge a.block w.heap.size with h'|h'
 ·exact h'
 ·unfold World.cell? at h
  rw[Array.getElem?_eq_none h'] at h
  simp at h
theorem JU{w:World}{N:iy}(hN:oI w N){a:Option Addr}{n c:Nat}(e:N.uv= .slice a n c):
 ∀i<n,∃(g f:Nat)(t d q r:Int)(id:ByteArray)(sf cx:Bool)(ca:Option Addr)(cl cc:Nat),a=some ⟨g,f,none⟩/\g<w.heap.size/\w.cell? ⟨g,f+i*8,none⟩=some (.int .i64 t)/\w.cell? ⟨g,f+i*8+1,none⟩=some (.int .i64 d)/\w.cell? ⟨g,f+i*8+2,none⟩=some (.int .i64 q)/\w.cell? ⟨g,f+i*8+3,none⟩=some (.string id)/\w.cell? ⟨g,f+i*8+4,none⟩=some (.int .i64 r)/\w.cell? ⟨g,f+i*8+5,none⟩=some (.bool sf)/\w.cell? ⟨g,f+i*8+6,none⟩=some (.bool cx)/\w.cell? ⟨g,f+i*8+7,none⟩=some (.slice ca cl cc):=by
 intro i hi
 have h:=hN.runs
 rw[e] at h
 rcases h with ⟨h,_⟩|⟨⟨g,o,s,h⟩,_⟩|⟨g,o,c',h,hc⟩
 ·cases h;omega
 ·cases h;omega
 ·have hn:n=(N.runs.map fun r=>r.row r.cv).length:=by injection h
  have ha:a=some ⟨g,o,none⟩:=by injection h
  have hi':i<N.runs.length:=by rw[hn] at hi;simpa using hi
  obtain⟨ca,cl,cc,hcv,_⟩:=jb (hN.calls _ (List.getElem_mem hi'))
  have hr:(N.runs.map fun r=>r.row r.cv)[i]? =some ((N.runs[i]).row (N.runs[i]).cv):=by simp[hi']
  have k:=hc i _ hr
  rw[hcv] at k
  exact⟨g,o,_,_,_,_,_,_,_,ca,cl,cc,ha,Lw (k 0 _ rfl),k 0 _ rfl,k 1 _ rfl,k 2 _ rfl,k 3 _ rfl,k 4 _ rfl,k 5 _ rfl,k 6 _ rfl,k 7 _ rfl⟩
end Go.Proofs.Nw
