/-
  A part of the proof: lemmas of my own.
-/
import Derived.Test.YtjpejffimncofaaPD
import Derived.Test.YtjpejffimncofaaIA
set_option linter.unusedVariables false
set_option linter.unusedSimpArgs false
namespace Go.Proofs.Nw
open Go Go.AV Go.jm
set_option maxHeartbeats 4000000
set_option maxRecDepth 100000
def upφ(ms:List cw)(m:Nat)(ms':List cw):Prop:=ms'.length=ms.length/\nn dI (hf ms') m/\ ∀v,gL (hf ms') m v↔gL (hf ms) m v
theorem M0{i:Nat}(h:0<i):((i:Int) - 1).tdiv 2=(((i - 1) / 2:Nat):Int):=by
 rw[show(i:Int) - 1=((i - 1:Nat):Int) by omega]
 rw[Int.tdiv_eq_ediv_of_nonneg (by omega)]
 omega
section
variable{z:T aa}{zn:Nat}
theorem Az(hz:an z zn)(ms:List cw)(m i c cc:Nat)(p:Int)(hi:i<m)(hm:m<=ms.length)(hc:ms.length*4<=cc)(hs:m<100000000)(hU:J8 dI (hf ms) m i):
 ai Try.prog (ah (ag Try.f81) 0) 4 54 (qN i) [(0,eG (bc 4 m c) p),(4,dW (aF ms) cc)] (4+1) z zn (Al.R (KR z zn 4 i m c cc p (aF ms) (upφ ms m)).l):=by
 refine ak hD (cZ z) (α:=Nat × List cw) 4 54 (4+1) (fun x=>x.1<m/\x.2.length=ms.length/\J8 dI (hf x.2) m x.1/\ ∀v,gL (hf x.2) m v↔gL (hf ms) m v) (fun x=>qN x.1) (fun x=>[(0,eG (bc 4 m c) p),(4,dW (aF x.2) cc)]) (fun _=>z) (fun _=>zn) (fun x=>x.1) _ (fun x hI=>?_) (i,ms) ⟨hi,rfl,hU,fun _=>Iff.rfl⟩
 obtain⟨i,ms'⟩:=x
 obtain⟨h1,h2,h3,h4⟩:=hI
 simp only at h1 h2 h3 h4 ⊢
 have out:(i=0\/dI (hf ms' i) (hf ms' ((i - 1) / 2))=false)->Al.R (KR z zn 4 i m c cc p (aF ms) (upφ ms m)).l ⟨.exit 0,[(0,ip 0)],[(0,eG (bc 4 m c) p),(4,dW (aF ms') cc)],4+1,z,zn⟩:=fun h=>yT ms' ⟨h2,C7 h3 h,h4⟩ rfl
 by_cases h0:0<i
 ·have hlt:(i - 1) / 2<i:=by omega
  have b1:=uR hz ms' i ((i - 1) / 2) m c cc p h1 (by omega) (by omega)
  have s1:=yA hz ms' i ((i - 1) / 2) m c cc p h1 (by omega) (by omega) (by omega)
  have e1:=aU (σ:=sig [(0,0),(1,4)]) ms' cc
  have w1:Value.int .i64 (IntKind.i64.wrap ((i:Int) - 1))=Value.int .i64 ((i:Int) - 1):=jx (by omega) (by omega)
  have w2:Value.int .i64 (IntKind.i64.wrap (((i - 1) / 2:Nat):Int))=Value.int .i64 (((i - 1) / 2:Nat):Int):=jx (by omega) (by omega)
  refine t100 (Sx z zn i m c cc p (fun x y=>dI (hf ms' x.toNat) (hf ms' y.toNat)) (fun x y=>aF (y8 ms' x.toNat y.toNat)) (aF ms') (aj _ _ _ _ _ _ _ _ _) ?_)
  rw[M0 h0]
  have hc0:decide ((i:Int)>0)=true:=by simp;omega
  refine⟨fun _=>?_,fun h=>(by rw[hc0] at h;cases h)⟩
  simp only[Int.toNat_natCast]
  (repeat' first|(with_reducible first|exact rfl|exact True.intro|assumption|apply And.intro|exact hz|exact w1|exact w2|exact b1|exact s1|exact e1|exact aU _ _)|exact(rfl:Int.ofNat _=_)|exact(rfl:gH _ _=_)|exact hz|exact w1|exact w2|exact b1|exact s1|exact e1|exact aU _ _|intro hq)
  ·refine⟨((i - 1) / 2,y8 ms' i ((i - 1) / 2)),rfl,rfl,rfl,rfl,rfl,⟨by simp only;omega,by simp only[lx];exact h2,?_,fun v=>?_⟩,hlt⟩
   ·simp only
    rw[mO (by omega) (by omega)]
    exact C6 iT h3 h0 h1 (by assumption)
   ·simp only
    rw[mO (by omega) (by omega),sW h1 (by omega)]
    exact h4 v
  ·exact out (.inr (by with_reducible assumption))
 ·have hi0:i=0:=by omega
  subst hi0
  refine t100 (Sx z zn 0 m c cc p (fun x y=>false) (fun x y=>[]) (aF ms') (aj _ _ _ _ _ _ _ _ _) ⟨fun h=>(by simp at h),fun _=>?_⟩)
  (repeat' first|(with_reducible first|exact rfl|exact True.intro|assumption|apply And.intro|exact hz|exact aU _ _)|exact(rfl:Int.ofNat _=_)|exact(rfl:gH _ _=_)|exact hz|exact aU _ _|intro hq)
  ·exact out (.inl rfl)
theorem Hr(hz:an z zn)(ms:List cw)(m i c cc:Nat)(p:Int)(hi:i<m)(hm:m<=ms.length)(hc:ms.length*4<=cc)(hs:m<100000000)(hU:J8 dI (hf ms) m i):
 ai Try.prog (ah (ag Try.f81) 0) 5 54 (qN i) [(0,eG (bc 5 m c) p),(5,dW (aF ms) cc)] (5+1) z zn (Al.R (KR z zn 5 i m c cc p (aF ms) (upφ ms m)).l):=by
 refine ak hD (cZ z) (α:=Nat × List cw) 5 54 (5+1) (fun x=>x.1<m/\x.2.length=ms.length/\J8 dI (hf x.2) m x.1/\ ∀v,gL (hf x.2) m v↔gL (hf ms) m v) (fun x=>qN x.1) (fun x=>[(0,eG (bc 5 m c) p),(5,dW (aF x.2) cc)]) (fun _=>z) (fun _=>zn) (fun x=>x.1) _ (fun x hI=>?_) (i,ms) ⟨hi,rfl,hU,fun _=>Iff.rfl⟩
 obtain⟨i,ms'⟩:=x
 obtain⟨h1,h2,h3,h4⟩:=hI
 simp only at h1 h2 h3 h4 ⊢
 have out:(i=0\/dI (hf ms' i) (hf ms' ((i - 1) / 2))=false)->Al.R (KR z zn 5 i m c cc p (aF ms) (upφ ms m)).l ⟨.exit 0,[(0,ip 0)],[(0,eG (bc 5 m c) p),(5,dW (aF ms') cc)],5+1,z,zn⟩:=fun h=>yT ms' ⟨h2,C7 h3 h,h4⟩ rfl
 by_cases h0:0<i
 ·have hlt:(i - 1) / 2<i:=by omega
  have b1:=uR hz ms' i ((i - 1) / 2) m c cc p h1 (by omega) (by omega)
  have s1:=yA hz ms' i ((i - 1) / 2) m c cc p h1 (by omega) (by omega) (by omega)
  have e1:=aU (σ:=sig [(0,0),(1,5)]) ms' cc
  have w1:Value.int .i64 (IntKind.i64.wrap ((i:Int) - 1))=Value.int .i64 ((i:Int) - 1):=jx (by omega) (by omega)
  have w2:Value.int .i64 (IntKind.i64.wrap (((i - 1) / 2:Nat):Int))=Value.int .i64 (((i - 1) / 2:Nat):Int):=jx (by omega) (by omega)
  refine t100 (Sw z zn i m c cc p (fun x y=>dI (hf ms' x.toNat) (hf ms' y.toNat)) (fun x y=>aF (y8 ms' x.toNat y.toNat)) (aF ms') (aj _ _ _ _ _ _ _ _ _) ?_)
  rw[M0 h0]
  have hc0:decide ((i:Int)>0)=true:=by simp;omega
  refine⟨fun _=>?_,fun h=>(by rw[hc0] at h;cases h)⟩
  simp only[Int.toNat_natCast]
  (repeat' first|(with_reducible first|exact rfl|exact True.intro|assumption|apply And.intro|exact hz|exact w1|exact w2|exact b1|exact s1|exact e1|exact aU _ _)|exact(rfl:Int.ofNat _=_)|exact(rfl:gH _ _=_)|exact hz|exact w1|exact w2|exact b1|exact s1|exact e1|exact aU _ _|intro hq)
  ·refine⟨((i - 1) / 2,y8 ms' i ((i - 1) / 2)),rfl,rfl,rfl,rfl,rfl,⟨by simp only;omega,by simp only[lx];exact h2,?_,fun v=>?_⟩,hlt⟩
   ·simp only
    rw[mO (by omega) (by omega)]
    exact C6 iT h3 h0 h1 (by assumption)
   ·simp only
    rw[mO (by omega) (by omega),sW h1 (by omega)]
    exact h4 v
  ·exact out (.inr (by with_reducible assumption))
 ·have hi0:i=0:=by omega
  subst hi0
  refine t100 (Sw z zn 0 m c cc p (fun x y=>false) (fun x y=>[]) (aF ms') (aj _ _ _ _ _ _ _ _ _) ⟨fun h=>(by simp at h),fun _=>?_⟩)
  (repeat' first|(with_reducible first|exact rfl|exact True.intro|assumption|apply And.intro|exact hz|exact aU _ _)|exact(rfl:Int.ofNat _=_)|exact(rfl:gH _ _=_)|exact hz|exact aU _ _|intro hq)
  ·exact out (.inl rfl)
def pushφ(s:qt)(x:cT)(ms':List cw):Prop:=s.n+1<=ms'.length/\ms'.length<=s.ms.length+1/\nn dI (hf ms') (s.n+1)/\ ∀v,gL (hf ms') (s.n+1) v↔v=⟨x,s.p⟩\/gL (hf s.ms) s.n v
structure vk(s:qt):Prop where
 len:s.n<=s.ms.length
 heap:nn dI (hf s.ms) s.n
 p0:0<=s.p
 pb:s.p<=1000000
 lp:(s.ms.length:Int)<=s.p
theorem C5{f g:Nat->cw}{n:Nat}{x:cw}(h: ∀k,k<n->g k=f k)(hn:g n=x)(v:cw):gL g (n+1) v↔v=x\/gL f n v:=by
 constructor
 ·rintro⟨k,hk,rfl⟩
  by_cases e:k=n
  ·subst e;exact .inl hn
  ·exact .inr ⟨k,by omega,(h k (by omega)).symm⟩
 ·rintro (rfl|⟨k,hk,rfl⟩)
  ·exact⟨n,by omega,hn⟩
  ·exact⟨k,by omega,h k hk⟩
theorem Mh(hz:an z zn)(x:cT):A1 z zn 81 [ip 0, .agg ⟨x.row⟩] [(0,eG aw 0)] 1 2 (.tuple ⟨[]⟩) [(0,eG (bc 1 1 1) 1),(1,dW (cw.row ⟨x,0⟩) 4)]:=by
 have hK:=Az hz [⟨x,0⟩] 1 0 1 4 1 (by omega) (by simp) (by simp) (by omega) ⟨fun k h0 hk=>by omega,fun k h0 hk=>by omega⟩
 have w1:Value.int .i64 (IntKind.i64.wrap ((0:Int)+1))=Value.int .i64 ((0:Int)+1):=jx (by omega) (by omega)
 refine bt (cZ z) (fn:=Try.f81) (by kernel_rfl) (by kernel_rfl) hz ⟨by decide,by decide⟩ rfl (Wl z zn x 0 (upφ [⟨x,0⟩] 1) _ ?_)
 (repeat' first|(with_reducible first|exact rfl|exact True.intro|assumption|apply And.intro|exact hz|exact w1|exact hK|exact aU _ _)|exact(rfl:Int.ofNat _=_)|exact(rfl:gH _ _=_)|exact hz|exact w1|exact hK|exact aU _ _|intro hq)
 all_goals
  rename_i ms
  obtain⟨k1,k2,k3⟩:=hq
  obtain⟨j,hj,hv⟩:=(k3 ⟨x,0⟩).2 ⟨0,by omega,rfl⟩
  have hj0:j=0:=by omega
  subst hj0
  have:ms=[⟨x,0⟩]:=by
   match ms,k1 with
   |[a],_=>exact congrArg (fun y=>[y]) hv
  subst this
  exact q1
theorem Mk(hz:an z zn)(n:Nat)(ms:List cw)(p:Int)(hs:vk ⟨n,ms,p⟩)(h1:1<=ms.length)(hp:p+1<=1000000)(x:cT):
 aQ Try.prog z zn 81 [ip 0, .agg ⟨x.row⟩] [(0,eG (bc 1 n ms.length) p),(1,dW (aF ms) (ms.length*4))] 2 3 (pushφ ⟨n,ms,p⟩ x) (fun _=> .tuple ⟨[]⟩) (fun ms=>[(0,eG (bc 2 (n+1) ms.length) (p+1)),(2,dW (aF ms) (ms.length*4))]):=by
 obtain⟨q1,q2',q3,q4,q5⟩:=hs
 simp only at q1 q2' q3 q4 q5
 have w1:Value.int .i64 (IntKind.i64.wrap (p+1))=Value.int .i64 (p+1):=jx (by omega) (by omega)
 have w2:Value.int .i64 (IntKind.i64.wrap ((↑(n+1):Int) - 1))=Value.int .i64 ((↑(n+1):Int) - 1):=jx (by omega) (by omega)
 have w3:(some (Value.int IntKind.i64 (↑n:Int)):Option Value)=some (Value.int IntKind.i64 ((↑(n+1):Int) - 1)):=by congr 2;omega
 have low: ∀ms':List cw,pushφ ⟨n,ms,p⟩ x ms'->E7 [(0,eG (bc 2 (n+1) ms'.length) (p+1)),(2,dW (aF ms') (ms'.length*4))]=true/\zn<=zn/\an z zn:=fun _ _=>⟨rfl,Nat.le_refl _,hz⟩
 by_cases hlt:n<ms.length
 ·
  have hset: ∀k,hf (ms.set n ⟨x,p⟩) k=if k=n then ⟨x,p⟩ else hf ms k:=fun k=>by
   unfold hf
   rw[List.getElem?_set]
   by_cases e:n=k
   ·subst e;simp[hlt]
   ·have e': ¬k=n:=fun h=>e h.symm
    simp[e,e']
  have hU:J8 dI (hf (ms.set n ⟨x,p⟩)) (n+1) n:=by
   rw[show hf (ms.set n ⟨x,p⟩)=fun k=>if k=n then ⟨x,p⟩ else hf ms k from funext hset]
   exact zq q2' _
  have hK:=Az hz (ms.set n ⟨x,p⟩) (n+1) n ms.length (ms.length*4) (p+1) (by omega) (by simp;omega) (by simp) (by omega) (by exact hU)
  have o1:=G8 (i:=n) hlt ⟨x,p⟩
  have l1:(aF (ms.set n ⟨x,p⟩)).length<=ms.length*4:=by rw[nv];simp
  refine dJ (cZ z) (fn:=Try.f81) (by kernel_rfl) (by kernel_rfl) hz ⟨by decide,by decide⟩ low (N:=100) ?_
  refine Wj z zn n ms.length (ms.length*4) x p (aF ms) (aF (ms.set n ⟨x,p⟩)) (upφ (ms.set n ⟨x,p⟩) (n+1)) _ ?_
  (repeat' first|(with_reducible first|exact rfl|exact True.intro|assumption|apply And.intro|exact hz|exact w1|exact w2|exact w3|exact hK|exact o1|exact l1|exact aU _ _|exact(by omega:n+1<=ms.length))|exact(rfl:Int.ofNat _=_)|exact(rfl:gH _ _=_)|exact hz|exact w1|exact w2|exact w3|exact hK|exact o1|exact l1|exact aU _ _|exact(by omega:n+1<=ms.length)|intro hq)
  all_goals
   rename_i ms'
   obtain⟨k1,k2,k3⟩:=hq
   rw[List.length_set] at k1
   have hv: ∀v,gL (hf ms') (n+1) v↔v=⟨x,p⟩\/gL (hf ms) n v:=fun v=>(k3 v).trans (C5 (fun k hk=>by rw[hset,if_neg (by omega)]) (by rw[hset,if_pos rfl]) v)
   exact q2 ms' ⟨by show n+1<=ms'.length;omega,by show ms'.length<=ms.length+1;omega,k2,hv⟩ rfl rfl (by rw[←k1];rfl) rfl rfl
 ·have hn:n=ms.length:=by omega
  have hset: ∀k,hf (ms++[⟨x,p⟩]) k=if k=n then ⟨x,p⟩ else hf ms k:=fun k=>by
   unfold hf
   rw[List.getElem?_append]
   by_cases e:k=n
   ·subst e;rw[if_neg (by omega),if_pos rfl,hn];simp
   ·rw[if_neg e]
    by_cases e2:k<ms.length
    ·rw[if_pos e2]
    ·rw[if_neg e2,List.getElem?_eq_none (by omega:ms.length<=k),List.getElem?_eq_none (by simp;omega)]
  have hU:J8 dI (hf (ms++[⟨x,p⟩])) (n+1) n:=by
   rw[show hf (ms++[⟨x,p⟩])=fun k=>if k=n then ⟨x,p⟩ else hf ms k from funext hset]
   exact zq q2' _
  have hK:=Hr hz (ms++[⟨x,p⟩]) (n+1) n (n+1) ((n+1)*4) (p+1) (by omega) (by simp;omega) (by simp;omega) (by omega) (by exact hU)
  have o1:aF ms++cw.row ⟨x,p⟩=aF (ms++[⟨x,p⟩]):=by
   show _=((ms++[(⟨x,p⟩:cw)]).map cw.row).flatten
   rw[List.map_append,List.flatten_append];rfl
  rw[←o1] at hK
  have l1:(aF ms).length=n*4:=by rw[nv,hn]
  have l2:ms.length*4=n*4:=by rw[hn]
  have r1:=aU (σ:=aq [(0,0),(5,4)] []) (ms++[⟨x,p⟩]) ((n+1)*4)
  rw[←o1] at r1
  rw[show eG (bc 1 n ms.length) p=eG (bc 1 n n) p by rw[←hn]]
  refine dJ (cZ z) (fn:=Try.f81) (by kernel_rfl) (by kernel_rfl) hz ⟨by decide,by decide⟩ low (N:=100) ?_
  refine Wi z zn n (ms.length*4) x p (aF ms) (upφ (ms++[⟨x,p⟩]) (n+1)) _ ?_
  (repeat' first|(with_reducible first|exact rfl|exact True.intro|assumption|apply And.intro|exact hz|exact w1|exact w2|exact w3|exact hK|exact o1|exact l1|exact l2|exact r1|exact aU _ _|exact(by omega:n+1<=1048576))|exact(rfl:Int.ofNat _=_)|exact(rfl:gH _ _=_)|exact hz|exact w1|exact w2|exact w3|exact hK|exact o1|exact l1|exact l2|exact r1|exact aU _ _|exact(by omega:n+1<=1048576)|intro hq)
  all_goals
   rename_i ms'
   obtain⟨k1,k2,k3⟩:=hq
   rw[List.length_append,List.length_singleton,←hn] at k1
   have hv: ∀v,gL (hf ms') (n+1) v↔v=⟨x,p⟩\/gL (hf ms) n v:=fun v=>(k3 v).trans (C5 (fun k hk=>by rw[hset,if_neg (by omega)]) (by rw[hset,if_pos rfl]) v)
   exact q2 ms' ⟨by show n+1<=ms'.length;omega,by show ms'.length<=ms.length+1;omega,k2,hv⟩ rfl rfl (by rw[←k1];rfl) rfl rfl
theorem PI(hz:an z zn)(s:qt)(hs:vk s)(h1:1<=s.ms.length)(hp:s.p+1<=1000000)(x:cT):
 aQ Try.prog z zn 81 [ip 0, .agg ⟨x.row⟩] [(0,w6 1 s),(1,wv s)] 2 3 (pushφ s x) (fun _=> .tuple ⟨[]⟩) (fun ms=>[(0,eG (bc 2 (s.n+1) ms.length) (s.p+1)),(2,dW (aF ms) (ms.length*4))]):=Mk hz s.n s.ms s.p hs h1 hp x
end
def skφ(ms:List cw)(n:Nat)(ms':List cw):Prop:=ms'.length=ms.length/\nn dI (hf ms') n/\ ∀v,gL (hf ms') n v↔gL (hf ms) n v
theorem Wf(a:cw):dI a a=false:=by
 cases h:dI a a with
 |false=>rfl
 |true=>rw[mY] at h;omega
section
variable{z:T aa}{zn:Nat}
theorem SS(hz:an z zn)(n c cc:Nat)(p:Int)(ms:List cw):A1 z zn 93 [ip 0] [(0,eG (bc 1 n c) p),(1,dW (aF ms) cc)] 2 2 (iv n) [(0,eG (bc 1 n c) p),(1,dW (aF ms) cc)]:=by
 refine bt (cZ z) (fn:=Try.f93) (by kernel_rfl) (by kernel_rfl) hz ⟨by decide,by decide⟩ rfl (N:=100) ?_
 refine hlen z zn n c cc p (aF ms) _ ?_
 (repeat' first|(with_reducible first|exact rfl|exact True.intro|assumption|apply And.intro|exact hz|exact aU _ _|exact q1)|exact(rfl:Int.ofNat _=_)|exact(rfl:gH _ _=_)|exact hz|exact aU _ _|exact q1|intro hq)
theorem Rx{ms:List cw}(h:0<ms.length)(c:Nat):aB Try.prog (aZ.mk (aF ms) c 4 168 false false 0 true) 151 0=some (.agg ⟨(hf ms 0).x.row⟩):=by
 cases ms with
 |nil=>simp at h
 |cons a l=>rfl
theorem I3(hz:an z zn)(n c cc:Nat)(p:Int)(ms:List cw)(hn:n<=ms.length)(a:cT)(ha:a=if n=0 then ⟨0,0,0⟩ else (hf ms 0).x):A1 z zn 90 [ip 0] [(0,eG (bc 1 n c) p),(1,dW (aF ms) cc)] 2 2 (.tuple ⟨[.agg ⟨a.row⟩, .bool (decide (0<n))]⟩) [(0,eG (bc 1 n c) p),(1,dW (aF ms) cc)]:=by
 have hl:=SS hz n c cc p ms
 refine bt (cZ z) (fn:=Try.f90) (by kernel_rfl) (by kernel_rfl) hz ⟨by decide,by decide⟩ rfl (N:=100) ?_
 refine hpk z zn n c cc p a (aF ms) _ ?_
 by_cases h0:n=0
 ·subst h0
  have hc:(((0:Nat):Int)==0)=true:=rfl
  (repeat' first|(with_reducible first|exact rfl|exact True.intro|assumption|apply And.intro|exact hz|exact hl|exact aU _ _)|exact(rfl:Int.ofNat _=_)|exact(rfl:gH _ _=_)|exact hz|exact hl|exact aU _ _|intro hq)
  all_goals first
   |(rw[hc] at hq;cases hq;done)
   |(refine BA ?_
     rw[ha,if_pos rfl];rfl)
 ·have hc:((n:Int)==0)=false:=by simp;omega
  have hr:a=(hf ms 0).x:=by rw[ha,if_neg h0]
  have r3:=Rx (ms:=ms) (by omega) cc
  rw[←hr] at r3
  (repeat' first|(with_reducible first|exact rfl|exact True.intro|assumption|apply And.intro|exact hz|exact hl|exact aU _ _|exact r3|exact(by omega:0<n))|exact(rfl:Int.ofNat _=_)|exact(rfl:gH _ _=_)|exact hz|exact hl|exact aU _ _|exact r3|exact(by omega:0<n)|intro hq)
  all_goals first
   |(rw[hc] at hq;cases hq;done)
   |(refine BA ?_
     rw[show decide (0<n)=true by simp;omega];done)
   |skip
theorem KW(hz:an z zn)(ms:List cw)(n c cc:Nat)(p:Int)(hn:n<=ms.length)(hc:ms.length*4<=cc)(hs:n<100000000)(hU:qn dI (hf ms) n 0):
 ai Try.prog (ah (ag Try.f91) 0) 2 41 (Am 0) [(0,eG (bc 1 n c) p),(1,dW (aF ms) cc)] 2 z zn (Al.R (OZ z zn 0 n c cc p (aF ms) (skφ ms n)).l):=by
 refine ak hD (cZ z) (α:=Nat × List cw) 2 41 2 (fun x=>(x.1<n\/(x.1=0/\n=0))/\x.2.length=ms.length/\qn dI (hf x.2) n x.1/\ ∀v,gL (hf x.2) n v↔gL (hf ms) n v) (fun x=>Am x.1) (fun x=>[(0,eG (bc 1 n c) p),(1,dW (aF x.2) cc)]) (fun _=>z) (fun _=>zn) (fun x=>n - x.1) _ (fun x hI=>?_) (0,ms) ⟨by show 0<n\/(0=0/\n=0);omega,rfl,hU,fun _=>Iff.rfl⟩
 obtain⟨i,ms'⟩:=x
 obtain⟨h1,h2,h3,h4⟩:=hI
 simp only at h1 h2 h3 h4 ⊢
 have out:(∀k,k<n->0<k->(k - 1) / 2=i->dI (hf ms' k) (hf ms' i)=false)->Al.R (OZ z zn 0 n c cc p (aF ms) (skφ ms n)).l ⟨.ret,[(0,ip 0)],[(0,eG (bc 1 n c) p),(1,dW (aF ms') cc)],2,z,zn⟩:=fun h=>yT ms' ⟨h2,Fx h3 h,h4⟩ rfl
 have w1:Value.int .i64 (IntKind.i64.wrap (2*(i:Int)))=Value.int .i64 (2*(i:Int)):=jx (by omega) (by omega)
 have w2:Value.int .i64 (IntKind.i64.wrap (2*(i:Int)+1))=Value.int .i64 (2*(i:Int)+1):=jx (by omega) (by omega)
 have w3:Value.int .i64 (IntKind.i64.wrap (2*(i:Int)+1+1))=Value.int .i64 (2*(i:Int)+1+1):=jx (by omega) (by omega)
 have e1:(2*(i:Int)+1)=((2*i+1:Nat):Int):=by omega
 have e2:(2*(i:Int)+1+1)=((2*i+2:Nat):Int):=by omega
 have jP: ∀k,0<k->k<n->(k - 1) / 2=i->dI (hf ms' k) (hf ms' i)=true->(∀j,j<n->0<j->(j - 1) / 2=i->dI (hf ms' j) (hf ms' k)=false)->
  aj (fun x:Nat × List cw=>(x.1<n\/(x.1=0/\n=0))/\x.2.length=ms.length/\qn dI (hf x.2) n x.1/\ ∀v,gL (hf x.2) n v↔gL (hf ms) n v) (fun x=>Am x.1) (fun x=>[(0,eG (bc 1 n c) p),(1,dW (aF x.2) cc)]) 2 (fun _=>z) (fun _=>zn) (fun x=>n - x.1) (Al.R (OZ z zn 0 n c cc p (aF ms) (skφ ms n)).l) (i,ms') .normal (Am k) [(0,eG (bc 1 n c) p),(1,dW (aF (y8 ms' i k)) cc)] 2 z zn:=fun k k0 kn kp kb km=>by
  refine⟨(k,y8 ms' i k),rfl,rfl,rfl,rfl,rfl,⟨.inl kn,by simp only[lx];exact h2,?_,fun v=>?_⟩,by simp only;omega⟩
  ·simp only
   rw[mO (by omega) (by omega)]
   exact Fw iT h3 k0 kn kp kb km
  ·simp only
   rw[mO (by omega) (by omega),sW (by omega) kn]
   exact h4 v
 refine t100 (Ty z zn i n c cc p (fun x y=>dI (hf ms' x.toNat) (hf ms' y.toNat)) (fun x y=>aF (y8 ms' x.toNat y.toNat)) (aF ms') (aj _ _ _ _ _ _ _ _ _) ?_)
 by_cases hA:n<=2*i+1
 ·have d1:decide ((2*(i:Int)+1)>=(n:Int))=true:=by simp;omega
  refine⟨w1,w2,fun _=>?_,fun h=>(by rw[d1] at h;cases h)⟩
  (repeat' first|(with_reducible first|exact rfl|exact True.intro|assumption|apply And.intro|exact hz|exact aU _ _)|exact(rfl:Int.ofNat _=_)|exact(rfl:gH _ _=_)|exact hz|exact aU _ _|intro hq)
  exact out fun k kn k0 kp=>by omega
 ·have d1:decide ((2*(i:Int)+1)>=(n:Int))=false:=by simp;omega
  refine⟨w1,w2,fun h=>(by rw[d1] at h;cases h),fun _=>?_⟩
  have g: ∀a b,a<n->b<n->_:=fun a b ha hb=>uR hz ms' a b n c cc p ha hb (by omega)
  have s: ∀a b,a<n->b<n->_:=fun a b ha hb=>yA hz ms' a b n c cc p ha hb (by omega) (by omega)
  have gA:=g (2*i+1) i (by omega) (by omega)
  have sA:=s i (2*i+1) (by omega) (by omega)
  rw[e1,e2] at*
  by_cases hB:2*i+2<n
  ·have gB:=g (2*i+2) (2*i+1) hB (by omega)
   have gC:=g (2*i+2) i hB (by omega)
   have sC:=s i (2*i+2) (by omega) hB
   have d2:decide (((2*i+2:Nat):Int)<(n:Int))=true:=by simp;omega
   simp only[Int.toNat_natCast]
   (repeat' first|(with_reducible first|exact rfl|exact True.intro|assumption|apply And.intro|exact hz|exact w1|exact w2|exact w3|exact gA|exact gB|exact gC|exact sA|exact sC|exact aU _ _)|exact(rfl:Int.ofNat _=_)|exact(rfl:gH _ _=_)|exact hz|exact w1|exact w2|exact w3|exact gA|exact gB|exact gC|exact sA|exact sC|exact aU _ _|intro hq)
   all_goals try (exfalso;have h':decide (((2*i+2:Nat):Int)<(n:Int))=false:=(by with_reducible assumption);rw[d2] at h';cases h';done)
   all_goals simp only[Bool.not_eq_true',Bool.not_eq_false'] at*
   ·have f1:dI (hf ms' (2*i+2)) (hf ms' (2*i+1))=true:=by with_reducible assumption
    have f2:dI (hf ms' (2*i+2)) (hf ms' i)=false:=by with_reducible assumption
    exact out fun k kn k0 kp=>by
     have:k=2*i+1\/k=2*i+2:=by omega
     rcases this with rfl|rfl
     ·exact iT.trans _ _ _ f2 (iT.asymm _ _ f1)
     ·exact f2
   ·have f1:dI (hf ms' (2*i+2)) (hf ms' (2*i+1))=true:=by with_reducible assumption
    have f2:dI (hf ms' (2*i+2)) (hf ms' i)=true:=by with_reducible assumption
    exact jP (2*i+2) (by omega) hB (by omega) f2 fun k kn k0 kp=>by
     have:k=2*i+1\/k=2*i+2:=by omega
     rcases this with rfl|rfl
     ·exact iT.asymm _ _ f1
     ·exact Wf _
   ·have f1:dI (hf ms' (2*i+2)) (hf ms' (2*i+1))=false:=by with_reducible assumption
    have f2:dI (hf ms' (2*i+1)) (hf ms' i)=false:=by with_reducible assumption
    exact out fun k kn k0 kp=>by
     have:k=2*i+1\/k=2*i+2:=by omega
     rcases this with rfl|rfl
     ·exact f2
     ·exact iT.trans _ _ _ f2 f1
   ·have f1:dI (hf ms' (2*i+2)) (hf ms' (2*i+1))=false:=by with_reducible assumption
    have f2:dI (hf ms' (2*i+1)) (hf ms' i)=true:=by with_reducible assumption
    exact jP (2*i+1) (by omega) (by omega) (by omega) f2 fun k kn k0 kp=>by
     have:k=2*i+1\/k=2*i+2:=by omega
     rcases this with rfl|rfl
     ·exact Wf _
     ·exact f1
  ·have d2:decide (((2*i+2:Nat):Int)<(n:Int))=false:=by simp;omega
   simp only[Int.toNat_natCast]
   (repeat' first|(with_reducible first|exact rfl|exact True.intro|assumption|apply And.intro|exact hz|exact w1|exact w2|exact w3|exact gA|exact sA|exact aU _ _)|exact(rfl:Int.ofNat _=_)|exact(rfl:gH _ _=_)|exact hz|exact w1|exact w2|exact w3|exact gA|exact sA|exact aU _ _|intro hq)
   all_goals try (exfalso;have h':decide (((2*i+2:Nat):Int)<(n:Int))=true:=(by with_reducible assumption);rw[d2] at h';cases h';done)
   all_goals simp only[Bool.not_eq_true',Bool.not_eq_false'] at*
   ·have f2:dI (hf ms' (2*i+1)) (hf ms' i)=false:=by with_reducible assumption
    exact out fun k kn k0 kp=>by
     have:k=2*i+1:=by omega
     subst this;exact f2
   ·have f2:dI (hf ms' (2*i+1)) (hf ms' i)=true:=by with_reducible assumption
    exact jP (2*i+1) (by omega) (by omega) (by omega) f2 fun k kn k0 kp=>by
     have:k=2*i+1:=by omega
     subst this;exact Wf _
theorem PF(hz:an z zn)(ms:List cw)(n c cc:Nat)(p:Int)(hn:n<=ms.length)(hc:ms.length*4<=cc)(hs:n<100000000)(hU:qn dI (hf ms) n 0):
 aQ Try.prog z zn 91 [ip 0] [(0,eG (bc 1 n c) p),(1,dW (aF ms) cc)] 2 2 (skφ ms n) (fun _=> .tuple ⟨[]⟩) (fun ms=>[(0,eG (bc 1 n c) p),(1,dW (aF ms) cc)]):=by
 have hK:=KW hz ms n c cc p hn hc hs hU
 refine dJ (cZ z) (fn:=Try.f91) (by kernel_rfl) (by kernel_rfl) hz ⟨by decide,by decide⟩ (fun _ _=>⟨rfl,Nat.le_refl _,hz⟩) (N:=100) ?_
 refine Sy z zn n c cc p (aF ms) (skφ ms n) _ ?_
 (repeat' first|(with_reducible first|exact rfl|exact True.intro|assumption|apply And.intro|exact hz|exact hK|exact aU _ _)|exact(rfl:Int.ofNat _=_)|exact(rfl:gH _ _=_)|exact hz|exact hK|exact aU _ _|intro hq)
 all_goals
  rename_i ms'
  exact q2 ms' hq rfl rfl rfl rfl rfl
def popφ(ms:List cw)(n:Nat)(ms':List cw):Prop:=ms'.length=ms.length/\nn dI (hf ms') (n - 1)/\ ∀v,gL (hf ms') (n - 1) v↔ ∃i,0<i/\i<n/\hf ms i=v
theorem SJ(hz:an z zn)(ms:List cw)(n c cc:Nat)(p:Int)(h0:0<n)(hn:n<=ms.length)(hcn:n<=c)(hc:ms.length*4<=cc)(hs:n<100000000)(hU:nn dI (hf ms) n):
 aQ Try.prog z zn 82 [ip 0] [(0,eG (bc 1 n c) p),(1,dW (aF ms) cc)] 2 2 (popφ ms n) (fun _=> .tuple ⟨[.agg ⟨(hf ms 0).x.row⟩,T1]⟩) (fun ms=>[(0,eG (bc 1 (n - 1) c) p),(1,dW (aF ms) cc)]):=by
 have hk:=I3 hz n c cc p ms hn (hf ms 0).x (by rw[if_neg (by omega)])
 rw[show decide (0<n)=true by simp;omega] at hk
 have hw:=yA hz ms 0 (n - 1) n c cc p h0 (by omega) hn hc
 have hd:qn dI (hf (y8 ms 0 (n - 1))) (n - 1) 0:=by
  rw[mO (by omega) (by omega)]
  obtain⟨m,rfl⟩: ∃m,n=m+1:=⟨n - 1,by omega⟩
  exact CB hU
 have Ty:=PF hz (y8 ms 0 (n - 1)) (n - 1) c cc p (by rw[lx];omega) (by rw[lx];exact hc) (by omega) (by exact hd)
 have e1:(n:Int) - 1=((n - 1:Nat):Int):=by omega
 have w1:Value.int .i64 (IntKind.i64.wrap ((n:Int) - 1))=Value.int .i64 ((n:Int) - 1):=jx (by omega) (by omega)
 refine dJ (cZ z) (fn:=Try.f82) (by kernel_rfl) (by kernel_rfl) hz ⟨by decide,by decide⟩ (fun _ _=>⟨rfl,Nat.le_refl _,hz⟩) (N:=100) ?_
 refine Cv z zn n c cc p (hf ms 0).x (fun x y=>aF (y8 ms x.toNat y.toNat)) (aF ms) (skφ (y8 ms 0 (n - 1)) (n - 1)) _ ?_
 rw[e1] at w1 ⊢
 simp only[Int.toNat_natCast,Int.toNat_zero]
 (repeat' first|(with_reducible first|exact rfl|exact True.intro|assumption|apply And.intro|exact hz|exact hk|exact hw|exact Ty|exact w1|exact Nat.zero_le _|exact aU _ _|exact(by omega:n - 1<=c)|exact(by omega:0<c))|exact(rfl:Int.ofNat _=_)|exact(rfl:gH _ _=_)|exact hz|exact hk|exact hw|exact Ty|exact w1|exact Nat.zero_le _|exact aU _ _|exact(by omega:n - 1<=c)|exact(by omega:0<c)|intro hq)
 all_goals
  rename_i ms'
  obtain⟨k1,k2,k3⟩:=hq
  rw[lx] at k1
  refine q2 ms' ⟨k1,k2,fun v=>(k3 v).trans ?_⟩ rfl rfl rfl rfl rfl
  rw[mO (by omega) (by omega)]
  obtain⟨m,rfl⟩: ∃m,n=m+1:=⟨n - 1,by omega⟩
  exact GA v
theorem PK(hz:an z zn)(ms:List cw)(c cc:Nat)(p:Int):
 A1 z zn 82 [ip 0] [(0,eG (bc 1 0 c) p),(1,dW (aF ms) cc)] 2 2 (.tuple ⟨[.agg ⟨[I 0,I 0,I 0]⟩,F0]⟩) [(0,eG (bc 1 0 c) p),(1,dW (aF ms) cc)]:=by
 have hk:=I3 hz 0 c cc p ms (Nat.zero_le _) ⟨0,0,0⟩ (by rw[if_pos rfl])
 refine bt (cZ z) (fn:=Try.f82) (by kernel_rfl) (by kernel_rfl) hz ⟨by decide,by decide⟩ rfl (N:=100) ?_
 refine Sz z zn 0 c cc p (aF ms) (fun _=>True) _ ?_
 (repeat' first|(with_reducible first|exact rfl|exact True.intro|assumption|apply And.intro|exact hz|exact hk|exact aU _ _|exact q1)|exact(rfl:Int.ofNat _=_)|exact(rfl:gH _ _=_)|exact hz|exact hk|exact aU _ _|exact q1|intro hq)
end
end Go.Proofs.Nw
namespace Go.jm
abbrev bW:=Nat->Nat->Nat->Prop
inductive Wk (E:bW)(k:Nat):Nat->Nat->Nat->Prop where
 |mV {i j w:Nat} (h:E i j w):Wk E k i j w
 |cons {i m j w L:Nat} (h:E i m w) (hm:m<k) (t:Wk E k m j L):Wk E k i j (w+L)
theorem Wk.split{E:bW}{k i j L:Nat}(t:Wk E (k+1) i j L):Wk E k i j L\/ ∃a b,Wk E k i k a/\Wk E k k j b/\a+b<=L:=by
 induction t with
 |mV h=>exact .inl (.mV h)
 | @cons i m j w L h hm t ih=>
   by_cases hk:m<k
   ·rcases ih with ih|⟨a,b,h1,h2,h3⟩
    ·exact .inl (.cons h hk ih)
    ·exact .inr ⟨w+a,b, .cons h hk h1,h2,by omega⟩
   ·have:m=k:=by omega
    subst this
    rcases ih with ih|⟨a,b,h1,h2,h3⟩
    ·exact .inr ⟨w,L, .mV h,ih,by omega⟩
    ·exact .inr ⟨w,b, .mV h,h2,by omega⟩
theorem Wk.append{E:bW}{k i m j a b:Nat}(s:Wk E k i m a)(hm:m<k)(t:Wk E k m j b):Wk E k i j (a+b):=by
 induction s with
 |mV h=>exact .cons h hm t
 |cons h1 h2 _ ih=>rw[Nat.add_assoc];exact .cons h1 h2 (ih hm t)
theorem Wk.mono{E E':bW}{k i j L:Nat}(h: ∀a b w,E a b w-> ∃w',w'<=w/\E' a b w')(t:Wk E k i j L): ∃L',L'<=L/\Wk E' k i j L':=by
 induction t with
 |mV h1=>obtain⟨w',a,b⟩:=h _ _ _ h1;exact⟨w',a, .mV b⟩
 |cons h1 h2 _ ih=>
  obtain⟨w',a,b⟩:=h _ _ _ h1
  obtain⟨L',c,d⟩:=ih
  exact⟨w'+L',by omega, .cons b h2 d⟩
def Real(E:bW)(n jt:Nat)(d:Nat->Nat->Int):Prop:= ∀i j,i<n->j<n->0<=d i j/\(d i j<jt->Wk E n i j (d i j).toNat)
def Rg(E:bW)(k:Nat)(d:Nat->Nat->Int)(i j:Nat):Prop:= ∀L,Wk E k i j L->d i j<=(L:Int)
def nY(d:Nat->Nat->Int)(i j:Nat)(v:Int):Nat->Nat->Int:=fun a b=>if a=i/\b=j then v else d a b
structure Qj(E:bW)(n jt k i j:Nat)(d:Nat->Nat->Int):Prop where
 real:Real E n jt d
 low: ∀a b,a<n->b<n->Rg E k d a b
 done: ∀a b,a<n->b<n->(a<i\/a=i/\b<j)->Rg E (k+1) d a b
theorem Rg.le{E:bW}{k:Nat}{d d':Nat->Nat->Int}{i j:Nat}(h:Rg E k d i j)(hd:d' i j<=d i j):Rg E k d' i j:=fun L t=>Int.le_trans hd (h L t)
theorem Hh{E:bW}{n jt k i j:Nat}{d:Nat->Nat->Int}(h:Qj E n jt k i j d)(hk:k<n)(hi:i<n)(hj:j<n):
 Qj E n jt k i (j+1) (nY d i j (min (d i j) (d i k+d k j))):=by
 have hle: ∀a b,(nY d i j (min (d i j) (d i k+d k j))) a b<=d a b:=fun a b=>by
  unfold nY;split
  ·rename_i hc;rw[hc.1,hc.2];omega
  ·omega
 refine⟨fun a b ha hb=>?_,fun a b ha hb=>(h.low a b ha hb).le (hle a b),fun a b ha hb hab=>?_⟩
 ·unfold nY
  split
  ·rename_i hc
   obtain⟨rfl,rfl⟩:=hc
   obtain⟨p1,q1⟩:=h.real a b ha hb
   obtain⟨p2,q2⟩:=h.real a k ha hk
   obtain⟨p3,q3⟩:=h.real k b hk hb
   refine⟨by omega,fun hlt=>?_⟩
   by_cases hm:d a b<=d a k+d k b
   ·rw[Int.min_eq_left hm] at hlt ⊢;exact q1 hlt
   ·rw[Int.min_eq_right (by omega)] at hlt ⊢
    have:=(q2 (by omega)).append hk (q3 (by omega))
    rw[show(d a k+d k b).toNat=(d a k).toNat+(d k b).toNat by omega]
    exact this
  ·exact h.real a b ha hb
 ·by_cases hc:a=i/\b=j
  ·obtain⟨rfl,rfl⟩:=hc
   intro L t
   unfold nY
   rw[if_pos ⟨rfl,rfl⟩]
   rcases t.split with t|⟨x,y,t1,t2,hs⟩
   ·have:=h.low a b ha hb _ t;omega
   ·have e1:=h.low a k ha hk _ t1
    have e2:=h.low k b hk hb _ t2
    omega
  ·exact(h.done a b ha hb (by omega)).le (hle a b)
theorem KK{E:bW}{n jt k i:Nat}{d:Nat->Nat->Int}(h:Qj E n jt k i n d):Qj E n jt k (i+1) 0 d:=
 ⟨h.real,h.low,fun a b ha hb hab=>h.done a b ha hb (by omega)⟩
structure Head(E:bW)(n jt k:Nat)(d:Nat->Nat->Int):Prop where
 real:Real E n jt d
 low: ∀a b,a<n->b<n->Rg E k d a b
theorem ES{E:bW}{n jt k:Nat}{d:Nat->Nat->Int}(h:Head E n jt k d):Qj E n jt k 0 0 d:=
 ⟨h.real,h.low,fun a b ha hb hab=>by omega⟩
theorem KL{E:bW}{n jt k:Nat}{d:Nat->Nat->Int}(h:Qj E n jt k n 0 d):Head E n jt (k+1) d:=
 ⟨h.real,fun a b ha hb=>h.done a b ha hb (.inl ha)⟩
def By(E:bW)(n jt i j:Nat)(v:Int):Prop:=0<=v/\(v<jt->Wk E n i j v.toNat)/\ ∀L:Nat,Wk E n i j L->v<=L
theorem Ia{E:bW}{n jt:Nat}{d:Nat->Nat->Int}(h:Head E n jt n d){i j:Nat}(hi:i<n)(hj:j<n):By E n jt i j (d i j):=
 ⟨(h.real i j hi hj).1,(h.real i j hi hj).2,h.low i j hi hj⟩
def da(l:List (Nat × Nat × Nat)):bW:=fun a b w=>(a,b,w)∈l
theorem wk0{E:bW}{i j L:Nat}(t:Wk E 0 i j L):E i j L:=by
 cases t with
 |mV h=>exact h
 |cons _ h _=>omega
def Bx(l:List (Nat × Nat × Nat))(n jt:Nat)(d:Nat->Nat->Int):Prop:= ∀i j,i<n->j<n->0<=d i j/\d i j<=jt/\(d i j<jt->(i,j,(d i j).toNat)∈l)/\ ∀w,(i,j,w)∈l->d i j<=(w:Int)
theorem Ff(n jt:Nat):Bx [] n jt (fun _ _=>(jt:Int)):=fun i j _ _=>⟨Int.natCast_nonneg _,Int.le_refl _,fun h=>absurd h (Int.lt_irrefl _),fun w h=>by simp at h⟩
theorem Cn{l:List (Nat × Nat × Nat)}{n jt:Nat}{d:Nat->Nat->Int}(h:Bx l n jt d)(a b w:Nat):
 Bx (l++[(a,b,w)]) n jt (nY d a b (min (d a b) w)):=by
 intro i j hi hj
 obtain⟨h1,h2,h3,h4⟩:=h i j hi hj
 unfold nY
 split
 ·rename_i hc
  obtain⟨rfl,rfl⟩:=hc
  refine⟨by omega,by omega,fun hlt=>?_,fun x hx=>?_⟩
  ·by_cases hm:d i j<=w
   ·rw[Int.min_eq_left hm] at hlt ⊢;exact List.mem_append_left _ (h3 hlt)
   ·rw[Int.min_eq_right (by omega)];simp
  ·rcases List.mem_append.1 hx with hx|hx
   ·have:=h4 x hx;omega
   ·simp at hx;subst hx;omega
 ·rename_i hc
  refine⟨h1,h2,fun hlt=>List.mem_append_left _ (h3 hlt),fun x hx=>?_⟩
  rcases List.mem_append.1 hx with hx|hx
  ·exact h4 x hx
  ·simp at hx;exact(hc ⟨hx.1,hx.2.1⟩).elim
theorem Co{l:List (Nat × Nat × Nat)}{n jt:Nat}{d:Nat->Nat->Int}(h:Bx l n jt d):Head (da l) n jt 0 d:=
 ⟨fun i j hi hj=>⟨(h i j hi hj).1,fun hlt=> .mV ((h i j hi hj).2.2.1 hlt)⟩,fun a b ha hb L t=>(h a b ha hb).2.2.2 L (wk0 t)⟩
inductive Rc (E:bW)(s:Nat):Nat->Nat->Prop where
 |start:Rc E s s 0
 |snoc {v x w L:Nat} (t:Rc E s v L) (h:E v x w):Rc E s x (L+w)
theorem Rc.cons{E:bW}{i m w v L:Nat}(h:E i m w)(t:Rc E m v L):Rc E i v (w+L):=by
 induction t with
 |start=>simpa using Rc.snoc .start h
 |snoc t h2 ih=>rw[←Nat.add_assoc];exact .snoc ih h2
theorem Wk.rc{E:bW}{k i j L:Nat}(t:Wk E k i j L):Rc E i j L:=by
 induction t with
 |mV h=>simpa using Rc.snoc .start h
 |cons h _ _ ih=>exact .cons h ih
theorem Wk.snoc{E:bW}{n i v x w L:Nat}(t:Wk E n i v L)(hv:v<n)(h:E v x w):Wk E n i x (L+w):=t.append hv (.mV h)
theorem Rc.wk{E:bW}{n s v L:Nat}(hE: ∀a b w,E a b w->a<n/\b<n)(t:Rc E s v L):(v=s/\L=0)\/Wk E n s v L:=by
 induction t with
 |start=>exact .inl ⟨rfl,rfl⟩
 | @snoc v x w L t h ih=>
   rcases ih with ⟨rfl,rfl⟩|ih
   ·exact .inr (by simpa using Wk.mV h)
   ·exact .inr (ih.snoc (hE _ _ _ h).1 h)
structure Dj(E:bW)(s:Nat)(S:Nat->Prop)(d:Nat->Nat)(Q:Nat->Nat->Prop):Prop where
 set: ∀v,S v->Rc E s v (d v)/\ ∀L,Rc E s v L->d v<=L
 wait: ∀v l,Q v l->Rc E s v l
 front: ∀u x w,S u->E u x w->S x\/Q x (d u+w)
 first:S s\/Q s 0
theorem Dj.reach{E:bW}{s:Nat}{S:Nat->Prop}{d:Nat->Nat}{Q:Nat->Nat->Prop}(h:Dj E s S d Q){v L:Nat}(t:Rc E s v L):S v\/ ∃y l,Q y l/\l<=L:=by
 induction t with
 |start=>exact h.first.imp id fun q=>⟨_,_,q,Nat.le_refl _⟩
 | @snoc v x w L t hE ih=>
   rcases ih with hs|⟨y,l,q,hl⟩
   ·have:=(h.set v hs).2 L t
    rcases h.front v x w hs hE with hx|q
    ·exact .inl hx
    ·exact .inr ⟨x,_,q,by omega⟩
   ·exact .inr ⟨y,l,q,by omega⟩
theorem LY{E:bW}{s:Nat}{S:Nat->Prop}{d:Nat->Nat}{Q Q':Nat->Nat->Prop}(h:Dj E s S d Q){x l:Nat}(hx:S x)
 (h1: ∀v k,Q' v k->Q v k) (h2: ∀v k,Q v k->Q' v k\/(v=x/\k=l)):Dj E s S d Q':=by
 refine⟨h.set,fun v k q=>h.wait v k (h1 v k q),fun u y w hu he=>?_,?_⟩
 ·rcases h.front u y w hu he with q|q
  ·exact .inl q
  ·rcases h2 _ _ q with q|⟨rfl,_⟩
   ·exact .inr q
   ·exact .inl hx
 ·rcases h.first with q|q
  ·exact .inl q
  ·rcases h2 _ _ q with q|⟨rfl,_⟩
   ·exact .inr q
   ·exact .inl hx
structure JH(E:bW)(s:Nat)(S:Nat->Prop)(d:Nat->Nat)(Q:Nat->Nat->Prop)(x:Nat)(l:List (Nat × Nat)):Prop where
 set: ∀v,S v->Rc E s v (d v)/\ ∀L,Rc E s v L->d v<=L
 wait: ∀v l,Q v l->Rc E s v l
 front: ∀u y w,S u->E u y w->(u=x->(y,w)∈l)->S y\/Q y (d u+w)
 first:S s\/Q s 0
theorem Fy{E:bW}{s:Nat}{S:Nat->Prop}{d:Nat->Nat}{Q Q':Nat->Nat->Prop}(h:Dj E s S d Q){x l:Nat}(hx: ¬S x)(hq:Q x l)
 (hmin: ∀v k,Q v k->l<=k) (h1: ∀v k,Q' v k->Q v k) (h2: ∀v k,Q v k->Q' v k\/(v=x/\k=l)):
 JH E s (fun v=>S v\/v=x) (fun v=>if v=x then l else d v) Q' x []:=by
 refine⟨fun v hv=>?_,fun v k q=>h.wait v k (h1 v k q),fun u y w hu he hl=>?_,?_⟩
 ·by_cases hvx:v=x
  ·subst hvx
   simp only[if_true]
   refine⟨h.wait _ _ hq,fun L t=>?_⟩
   rcases h.reach t with hs|⟨y,k,q,hk⟩
   ·exact(hx hs).elim
   ·have:=hmin _ _ q;omega
  ·simp only[if_neg hvx]
   exact h.set v (hv.resolve_right hvx)
 ·by_cases hux:u=x
  ·exact absurd (hl hux) (by simp)
  ·simp only[if_neg hux]
   rcases h.front u y w (hu.resolve_right hux) he with q|q
   ·exact .inl (.inl q)
   ·rcases h2 _ _ q with q|⟨rfl,_⟩
    ·exact .inr q
    ·exact .inl (.inr rfl)
 ·rcases h.first with q|q
  ·exact .inl (.inl q)
  ·rcases h2 _ _ q with q|⟨rfl,_⟩
   ·exact .inr q
   ·exact .inl (.inr rfl)
theorem xg{E:bW}{s:Nat}{S:Nat->Prop}{d:Nat->Nat}{Q Q':Nat->Nat->Prop}{x y w:Nat}{l:List (Nat × Nat)}(h:JH E s S d Q x l)(hx:S x)(he:E x y w)
 (h1: ∀v k,Q v k->Q' v k) (h2: ∀v k,Q' v k->Q v k\/(v=y/\k=d x+w)) (h3:S y\/Q' y (d x+w)):JH E s S d Q' x (l++[(y,w)]):=by
 refine⟨h.set,fun v k q=>?_,fun u z v hu hz hl=>?_,h.first.imp id (h1 _ _)⟩
 ·rcases h2 v k q with q|⟨rfl,rfl⟩
  ·exact h.wait v k q
  ·exact .snoc (h.set x hx).1 he
 ·by_cases hux:u=x
  ·subst hux
   rcases List.mem_append.1 (hl rfl) with hm|hm
   ·exact(h.front u z v hu hz fun _=>hm).imp id (h1 _ _)
   ·simp at hm
    obtain⟨rfl,rfl⟩:=hm
    exact h3
  ·exact(h.front u z v hu hz fun e=>(hux e).elim).imp id (h1 _ _)
theorem IA{E:bW}{s:Nat}{S:Nat->Prop}{d:Nat->Nat}{Q:Nat->Nat->Prop}{x:Nat}{l:List (Nat × Nat)}(h:JH E s S d Q x l)(hl: ∀y w,E x y w->(y,w)∈l):Dj E s S d Q:=
 ⟨h.set,h.wait,fun u y w hu he=>h.front u y w hu he fun e=>hl y w (e ▸ he),h.first⟩
def mg(E:bW)(s v:Nat)(x:Int):Prop:=(x= -1/\ ∀L,¬Rc E s v L)\/(0<=x/\Rc E s v x.toNat/\ ∀L,Rc E s v L->x<=(L:Int))
theorem Px{E:bW}{s:Nat}{S:Nat->Prop}{d:Nat->Nat}{Q:Nat->Nat->Prop}(h:Dj E s S d Q)(hq: ∀v k,¬Q v k)(v:Nat):
 (S v->mg E s v (d v))/\(¬S v->mg E s v (-1)):=by
 refine⟨fun hs=> .inr ⟨by omega,by simpa using (h.set v hs).1,fun L t=>by have:=(h.set v hs).2 L t;omega⟩,fun hs=> .inl ⟨rfl,fun L t=>?_⟩⟩
 rcases h.reach t with q|⟨y,k,q,_⟩
 ·exact hs q
 ·exact hq _ _ q
abbrev qm:=Nat × Nat × Int × Bool
def sF(a b:Nat)(n f:Int):List qm:=
 (if 0<n/\n<=14400 then [(a,b,n,decide (f=n))] else [])++(if f=n then [] else if 0<f/\f<=14400 then [(a,b,f,true)] else [])
def xQ(a b:Nat)(x y:Int):List qm:=
 if 14400<x then [] else (a,b,x,decide (y=x))::(if x<y/\y<=14400 then [(a,b,y,true)] else [])
def Alike(x n:Int):Prop:=(0<x/\x<=14400/\n=x)\/(14400<x/\(n<=0\/14400<n))
theorem Ix{a b:Nat}{x y n f:Int}(h1:Alike x n)(h2:Alike y f)(hxy:x<=y):sF a b n f=xQ a b x y:=by
 unfold sF xQ
 unfold Alike at h1 h2
 rcases h1 with ⟨p1,p2,rfl⟩|⟨p1,p2⟩
 ·rw[if_pos ⟨p1,p2⟩,if_neg (show¬14400<n by omega)]
  rcases h2 with ⟨q1,q2,rfl⟩|⟨q1,q2⟩
  ·by_cases he:f=n
   ·rw[if_pos he,if_neg (show¬(n<f/\f<=14400) by omega)];rfl
   ·rw[if_neg he,if_pos ⟨q1,q2⟩,if_pos (show n<f/\f<=14400 from⟨by omega,q2⟩)];rfl
  ·have e1: ¬f=n:=by omega
   have e2: ¬y=n:=by omega
   rw[if_neg e1,if_neg (show¬(0<f/\f<=14400) by omega),if_neg (show¬(n<y/\y<=14400) by omega),decide_eq_false e1,decide_eq_false e2];rfl
 ·rw[if_neg (show¬(0<n/\n<=14400) by omega),if_pos p1]
  rcases h2 with ⟨q1,q2,rfl⟩|⟨q1,q2⟩
  ·omega
  ·by_cases he:f=n
   ·rw[if_pos he];rfl
   ·rw[if_neg he,if_neg (show¬(0<f/\f<=14400) by omega)];rfl
def Pos(E:bW):Prop:= ∀a b w,E a b w->0<w
theorem Wk.pos{E:bW}(hp:Pos E){k i j L:Nat}(t:Wk E k i j L):0<L:=by
 cases t with
 |mV h=>exact hp _ _ _ h
 |cons h _ _=>have:=hp _ _ _ h;omega
structure xB(E E':bW):Prop where
 to: ∀a b w,E a b w-> ∃w',w'<=w/\E' a b w'
 from_: ∀a b w,E' a b w-> ∃w',w'<=w/\E a b w'
theorem Bk{E E':bW}{n jt i j:Nat}{x v:Int}(hs:xB E E')(hp:Pos E)(hE: ∀a b w,E' a b w->a<n/\b<n)(hbig:14400<jt)(hij:j≠i)
 (h1:By E n jt i j x) (h2:mg E' i j v):Alike x v:=by
 obtain⟨a1,a2,a3⟩:=h1
 unfold Alike
 by_cases hx:x<=14400
 ·have t:=a2 (by omega)
  have hpos:=t.pos hp
  have hxp:0<x:=by omega
  obtain⟨L',hL,t'⟩:=t.mono hs.to
  rcases h2 with ⟨_,hno⟩|⟨b1,b2,b3⟩
  ·exact(hno _ t'.rc).elim
  ·have:=b3 _ t'.rc
   rcases b2.wk hE with ⟨h,_⟩|t2
   ·exact(hij h).elim
   ·obtain⟨L2,hL2,t3⟩:=t2.mono hs.from_
    have:=a3 _ t3
    exact .inl ⟨hxp,hx,by omega⟩
 ·refine .inr ⟨by omega,?_⟩
  rcases h2 with ⟨h,_⟩|⟨b1,b2,b3⟩
  ·exact .inl (by omega)
  ·by_cases hv:v<=14400
   ·rcases b2.wk hE with ⟨h,_⟩|t2
    ·exact(hij h).elim
    ·obtain⟨L2,hL2,t3⟩:=t2.mono hs.from_
     have:=a3 _ t3
     omega
   ·exact .inr (by omega)
theorem Ae{E F:bW}{n jt i j:Nat}{x y:Int}(hsub: ∀a b w,F a b w-> ∃w',w'<=w/\E a b w')(h1:By E n jt i j x)(h2:By F n jt i j y):x<=y\/(jt:Int)<=y:=by
 by_cases hy:y<jt
 ·obtain⟨L,hL,t⟩:=(h2.2.1 hy).mono hsub
  have:=h1.2.2 _ t
  have:=h2.1
  exact .inl (by omega)
 ·exact .inr (by omega)
end Go.jm
namespace Go.Proofs.Nw
open Go Go.AV Go.jm
set_option maxHeartbeats 4000000
set_option maxRecDepth 100000
def Tx:cT:=⟨0,-1,-1⟩
def fy(l:List cT)(v:Nat):cT:=l[v]?.getD Tx
theorem mM{l:List cT}{v:Nat}(h:v<l.length):l[v]? =some (fy l v):=by
 unfold fy;rw[List.getElem?_eq_getElem h];rfl
theorem H3{l:List cT}{v:Nat}(h:l.length<=v):fy l v=Tx:=by
 unfold fy;rw[List.getElem?_eq_none h];rfl
theorem pJ{l:List cT}{i:Nat}(h:i<l.length)(x:cT)(v:Nat):fy (l.set i x) v=if v=i then x else fy l v:=by
 unfold fy
 rw[List.getElem?_set]
 by_cases e:i=v
 ·subst e;simp[h]
 ·have e': ¬v=i:=fun q=>e q.symm
  simp[e,e']
theorem pn(l:List cT): ∀r∈l.map cT.row,r.length=3:=aM l fun _=>rfl
theorem wg(l:List cT):(aX l).length=l.length*3:=by rw[jG (pn l),List.length_map]
theorem zK(l:List cT):bH (aX l)=true:=jC (fun _=>rfl) l
theorem dz{σ:Nat->Option Nat}(l:List cT)(c:Nat):aE σ (aa.ay (aZ.mk (aX l) c 3 151 true true 0 true))=some (aa.ay (aZ.mk (aX l) c 3 151 true true 0 true)):=cG (zK l)
theorem M5{l:List cT}{i:Nat}(h:i<l.length)(c:Nat):aB Try.prog (aZ.mk (aX l) c 3 151 true true 0 true) 151 (0+i*3)=some (.agg ⟨(fy l i).row⟩):=
 gE (rows:=l.map cT.row) rfl Try.underlying151 rfl rfl (pn l) (by rw[List.getElem?_map,mM h];rfl)
theorem G0{l:List cT}{i:Nat}(h:i<l.length)(c:Nat):aB Try.prog (aZ.mk (aX l) c 3 151 true true 0 true) 3 (0+i*3+2)=some (zv (fy l i).gj):=
 B2 (rows:=l.map cT.row) rfl Try.underlying3 rfl (pn l) (r:=(fy l i).row) (by rw[List.getElem?_map,mM h];rfl) rfl
theorem M7{l:List cT}{i:Nat}(h:i<l.length)(a:cT):overwrite (aX l) (0+i*3) a.row=some (aX (l.set i a)):=by
 have:=tP (pn l) (i:=i) (by simpa using h) (r':=a.row) rfl
 rw[lL] at this
 exact this
def vN:List Value->List Value
 |_::b::_::r=>b::vN r
 |_=>[]
abbrev wW(l:List cT):List Value:=l.map fun a=>zv a.len
theorem nH: ∀l:List cT,vN (aX l)=wW l
 |[]=>rfl
 |a::l=>by
  show zv a.len::vN (aX l)=_
  rw[nH l];rfl
theorem lK(f:cT->Int)(l:List cT):bH (l.map fun a=>zv (f a))=true:=by
 rw[c7];intro v hv
 obtain⟨a,_,rfl⟩:=List.mem_map.1 hv
 rfl
theorem nw: ∀(n:Nat)(v:List Value),v.length=1->rep n v=List.replicate n (v.headD undef)
 |0,_,_=>rfl
 |n+1,[a],h=>by
  show [a]++rep n [a]=_
  rw[nw n [a] rfl];rfl
theorem mD(row:List Value): ∀n,rep n row=(List.replicate n row).flatten
 |0=>rfl
 |n+1=>by
  show row++rep n row=_
  rw[mD row n];rfl
section
variable{z:T aa}{zn:Nat}
theorem gd{σ:Nat->Option Nat}{cs:List Value}(h:bH cs=true)(c:Nat):aE σ (aa.ay (aZ.mk cs c 1 3 true true 0 true))=some (aa.ay (aZ.mk cs c 1 3 true true 0 true)):=cG h
theorem Ll(hz:an z zn)(l:List cT)(n:Nat)(hl:l.length=n)(hn:n<=1000)(cs:List Value)(hcs:cs.length=n)(hp:bH cs=true):
 ai Try.prog (ah (ag Try.f66) 0) 2 23 (EZ n 0) [(0,j6 (aX l) n),(1,Fh cs n)] 2 z zn (Al.R (VW z zn n (aX l) cs (wW l)).l):=by
 refine ak hD (cZ z) (α:=Nat) 2 23 2 (fun i=>i<=n) (fun i=>EZ n i) (fun i=>[(0,j6 (aX l) n),(1,Fh ((l.take i).map (fun a=>zv a.len)++cs.drop i) n)]) (fun _=>z) (fun _=>zn) (fun i=>n - i) _ (fun i hI=>?_) 0 (Nat.zero_le _)
 have hpl: ∀j,bH ((l.take j).map (fun a=>zv a.len)++cs.drop j)=true:=fun j=>by
  rw[c7];intro v hv
  rcases List.mem_append.1 hv with q|q
  ·exact c7.1 (lK (·.len) (l.take j)) v q
  ·exact c7.1 hp v (List.mem_of_mem_drop q)
 by_cases hi:i<n
 ·have hlen:((l.take i).map (fun a=>zv a.len)++cs.drop i).length=n:=by simp;omega
  have o1:=py (cs:=(l.take i).map (fun a=>zv a.len)++cs.drop i) (i:=i) (by omega) (zv (fy l i).len)
  have e1:((l.take i).map (fun a=>zv a.len)++cs.drop i).set i (zv (fy l i).len)=(l.take (i+1)).map (fun a=>zv a.len)++cs.drop (i+1):=by
   rw[List.take_add_one,mM (by omega),List.map_append]
   rw[List.set_append_right _ _ (by simp;omega)]
   have:i - ((l.take i).map fun a=>zv a.len).length=0:=by simp;omega
   have hd:cs.drop i=cs[i]::cs.drop (i+1):=List.drop_eq_getElem_cons (by omega:i<cs.length)
   rw[this,hd,List.set_cons_zero,List.append_assoc]
   rfl
  rw[e1] at o1
  have hc:decide ((i:Int)<(n:Int))=true:=by simp;omega
  have l1:((l.take (i+1)).map (fun a=>zv a.len)++cs.drop (i+1)).length<=n*1:=by simp;omega
  have r1:=hpl i
  have r2:=hpl (i+1)
  refine t100 (Ze z zn n i (aX l) ((l.take i).map (fun a=>zv a.len)++cs.drop i) ((l.take (i+1)).map (fun a=>zv a.len)++cs.drop (i+1)) (fy l i) (aj _ _ _ _ _ _ _ _ _) ⟨fun _=>?_,fun h=>(by rw[hc] at h;cases h)⟩)
  (repeat' first|(with_reducible first|exact rfl|exact True.intro|assumption|apply And.intro|exact hz|exact hi|exact M5 (by omega) _|exact o1|exact l1|exact dz _ _|exact gd r1 _|exact gd r2 _|exact aG (by omega))|exact(rfl:Int.ofNat _=_)|exact(rfl:gH _ _=_)|exact hz|exact hi|exact M5 (by omega) _|exact o1|exact l1|exact dz _ _|exact gd r1 _|exact gd r2 _|exact aG (by omega)|intro hq)
  exact⟨i+1,rfl,rfl,rfl,rfl,rfl,hi,by show n - (i+1)<n - i;omega⟩
 ·have hc:decide ((i:Int)<(n:Int))=false:=by simp;omega
  have r1:=hpl i
  refine t100 (Ze z zn n i (aX l) ((l.take i).map (fun a=>zv a.len)++cs.drop i) [] Tx (aj _ _ _ _ _ _ _ _ _) ⟨fun h=>(by rw[hc] at h;cases h),fun _=>?_⟩)
  (repeat' first|(with_reducible first|exact rfl|exact True.intro|assumption|apply And.intro|exact hz|exact dz _ _|exact gd r1 _)|exact(rfl:Int.ofNat _=_)|exact(rfl:gH _ _=_)|exact hz|exact dz _ _|exact gd r1 _|intro hq)
  have:i=n:=by omega
  subst this
  rw[List.take_of_length_le (by omega),List.drop_eq_nil_of_le (by omega),List.append_nil]
  exact bJ trivial
theorem PQ(hz:an z zn)(l:List cT)(n:Nat)(hl:l.length=n)(hn:n<=1000):
 A1 z zn 66 [bc 0 n n] [(0,j6 (aX l) n)] 1 2 (bc 1 n n) [(1,Fh (vN (aX l)) n)]:=by
 have e0:rep n [I 0]=List.replicate n (I 0):=nw n [I 0] rfl
 have hp:bH (rep n [I 0])=true:=by
  rw[e0,c7];intro v hv;rw[List.eq_of_mem_replicate hv];rfl
 have hK:=Ll hz l n hl hn (rep n [I 0]) (by rw[e0];simp) hp
 have r3: ∀σ,_:=fun σ=>gd (σ:=σ) (lK (·.len) l) (n*1)
 rw[nH]
 refine bt (cZ z) (fn:=Try.f66) (by kernel_rfl) (by kernel_rfl) hz ⟨by decide,by decide⟩ rfl (N:=100) ?_
 refine ln z zn n (aX l) (rep n [I 0]) (wW l) _ ?_
 (repeat' first|(with_reducible first|exact rfl|exact True.intro|assumption|apply And.intro|exact hz|exact hK|exact dz _ _|exact gd hp _|exact r3 _|exact(by omega:n<=1048576)|exact q1)|exact(rfl:Int.ofNat _=_)|exact(rfl:gH _ _=_)|exact hz|exact hK|exact dz _ _|exact gd hp _|exact r3 _|exact(by omega:n<=1048576)|exact q1|intro hq)
end
abbrev nV:=Int × Nat × List eH
def lZ(L:List nV)(a:Int):List eH:=((L.find? fun x=>x.1==a).map (·.2.2)).getD []
structure U1(z:T aa)(zn n:Nat)(L:List nV):Prop where
 row: ∀x∈L,∃kb:aZ,z.get x.2.1=some (.ay kb)/\kb.cells=bN x.2.2
 mV: ∀x∈L,x.2.2.length<=4096/\ ∀e∈x.2.2,0<=e.ax/\e.ax<n/\0<=e.wt/\e.wt<=1073741824
def GE(L:List nV):bW:=fun u v w=> ∃e∈lZ L (u:Int),e.ax=(v:Int)/\e.wt=(w:Int)
theorem mR(L:List nV)(a:Int): ∀i j,(∃p x,aD Try.prog 3 (zv a) (eY j L) i=some (some (p,tb x.2.1 x.2.2.length x.2.2.length))/\x∈L/\L.find? (fun x=>x.1==a)=some x/\i<=p/\L[p - i]? =some x)\/(aD Try.prog 3 (zv a) (eY j L) i=some none/\L.find? (fun x=>x.1==a)=none):=by
 induction L with
 |nil=>intro i j;exact .inr ⟨rfl,rfl⟩
 |cons y l ih=>
  intro i j
  obtain⟨b,k,r⟩:=y
  simp only[eY,aD,az,Iv]
  by_cases h:a=b
  ·subst h
   refine .inl ⟨i,(a,k,r),by simp,List.mem_cons_self ..,by simp,Nat.le_refl _,by simp⟩
  ·have hd:decide (a=b)=false:=by simp[h]
   have hb:(b==a)=false:=by simp;exact fun e=>h e.symm
   rw[hd]
   simp only[List.find?_cons,hb]
   rcases ih (i+1) (j+1) with ⟨p,x,q1,q2,q3,q4,q5⟩|⟨q1,q2⟩
   ·refine .inl ⟨p,x,q1,List.mem_cons_of_mem _ q2,q3,by omega,?_⟩
    rw[show p - i=(p - (i+1))+1 by omega,List.getElem?_cons_succ];exact q5
   ·exact .inr ⟨q1,q2⟩
theorem M8(L:List nV)(a:Int):aD Try.prog 3 (zv a) (eY 0 L) 0≠none:=by
 rcases mR L a 0 0 with ⟨p,x,q,_⟩|⟨q,_⟩<;>rw[q]<;>simp
theorem M9(L:List nV)(a:Int)(p:Nat × Value)(h:aD Try.prog 3 (zv a) (eY 0 L) 0=some (some p)): ∃x:Nat × Nat × Nat,p=(x.1,tb x.2.1 x.2.2 x.2.2):=by
 rcases mR L a 0 0 with ⟨q,x,e,_⟩|⟨e,_⟩
 ·rw[e] at h;cases h;exact⟨(q,x.2.1,x.2.2.length),rfl⟩
 ·rw[e] at h;cases h
theorem OT(L:List nV)(a:Int){i:Nat × Nat × Nat}(h:aD Try.prog 3 (zv a) (eY 0 L) 0=some (some (i.1,tb i.2.1 i.2.2 i.2.2))): ∃x∈L,lZ L a=x.2.2/\i.2.1=x.2.1/\i.2.2=x.2.2.length:=by
 rcases mR L a 0 0 with ⟨q,x,e,h1,h2,_⟩|⟨e,_⟩
 ·rw[e] at h
  simp only[Option.some.injEq,Prod.mk.injEq,Value.slice.injEq,Addr.mk.injEq,and_true] at h
  obtain⟨_,h3,h4,_⟩:=h
  refine⟨x,h1,by unfold lZ;rw[h2];rfl,by omega,h4.symm⟩
 ·rw[e] at h;cases h
theorem OS(L:List nV)(a:Int)(h:aD Try.prog 3 (zv a) (eY 0 L) 0=some none):lZ L a=[]:=by
 rcases mR L a 0 0 with ⟨q,x,e,_⟩|⟨e,h2⟩
 ·rw[e] at h;cases h
 ·unfold lZ;rw[h2];rfl
theorem sD{σ:Nat->Option Nat}: ∀{L:List nV} (i:Nat),(∀x∈L,σ (256*x.2.1+510)=some (256*x.2.1+510))->gR σ (eY i L)=some (eY i L)
 |[],_,_=>rfl
 |(a,k,r)::l,i,h=>by
  have hk:=h (a,k,r) (List.mem_cons_self ..)
  simp only at hk
  simp only[eY,gR,aO,hk,sD (i+1) fun x hx=>h x (List.mem_cons_of_mem _ hx)]
theorem GZ{σ:Nat->Option Nat}{L:List nV}(h: ∀x∈L,σ (256*x.2.1+510)=some (256*x.2.1+510))(c:Nat):aE σ (aa.map (eY 0 L) c)=some (aa.map (eY 0 L) c):=by
 simp only[aE,sD 0 h]
theorem jh(σ:bd)(L:List nV)(c:Nat):aE (sig σ) (aa.map (eY 0 L) c)=some (aa.map (eY 0 L) c):=GZ (fun x _=>iX (by unfold cP;omega)) c
theorem cL(σ:bd)(L:List nV)(c:Nat):aE (aq σ []) (aa.map (eY 0 L) c)=some (aa.map (eY 0 L) c):=jh σ L c
theorem pj(l:List eH): ∀r∈l.map eH.row,r.length=3:=aM l fun _=>rfl
def LQ(s:qt)(v l:Nat):Prop:= ∃a,gL (hf s.ms) s.n a/\a.x.node=(v:Int)/\a.x.len=(l:Int)
def LS(out:List cT)(v:Nat):Prop:=0<=(fy out v).gj
def Ld(out:List cT)(v:Nat):Nat:=(fy out v).len.toNat
def kG(out:List cT):Nat:=out.countP fun a=>decide (0<=a.gj)
def HB(n c:Nat)(s:qt):Prop:= ∀a,gL (hf s.ms) s.n a->0<=a.x.node/\a.x.node<n/\0<=a.x.len/\a.x.len<=a.x.gj*1073741824/\0<=a.x.gj/\a.x.gj<=c
structure Ev(n:Nat)(out:List cT):Prop where
 len:out.length=n
 DP: ∀v,v<n->(0<=(fy out v).gj/\0<=(fy out v).len)\/((fy out v).gj<0/\(fy out v).len= -1)
abbrev Vt(r:List eH):List (Nat × Nat):=r.map fun e=>(e.ax.toNat,e.wt.toNat)
structure MS(L:List nV)(n fr:Nat)(out:List cT)(x:Nat)(s0:qt)(l:List eH)(j:Nat)(s:qt):Prop where
 ok:vk s
 one:1<=s.ms.length
 hb:HB n (kG out) s
 dj:JH (GE L) fr (LS out) (Ld out) (LQ s) x (Vt l)
 p:s.p<=s0.p+j
 n:s.n<=s0.n+j
section
variable{z:T aa}{zn:Nat}
theorem HJ(hz:an z zn)(L:List nV)(n fr:Nat)(hL:U1 z zn n L)(hn:n<=64)(out:List cT)(ho:Ev n out)(hc:kG out<=n)(y:nV)(hy:y∈L)(a:cT)(x:Nat)(hx:a.node=(x:Int))(hxn:x<n)(hadj:lZ L (x:Int)=y.2.2)(hax:fy out x=a)(ha0:0<=a.gj)(hal:0<=a.len)(hab:a.len<=a.gj*1073741824)(hac:a.gj+1<=kG out)(s0:qt)(hs0:MS L n fr out x s0 [] 0 s0)(hp:s0.p<=900000):
 ai Try.prog (ah (ah (ag Try.f67) 1) 0) 6 82 (Ck n y.2.1 y.2.2.length 0) (qw n L.length (eY 0 L) (aX out) a (w6 6 s0) (wv s0)) 7 z zn (Al.R (St z zn n y.2.1 y.2.2.length L.length (eY 0 L) (aX out) a (w6 6 s0) (wv s0) (MS L n fr out x s0 y.2.2 y.2.2.length)).l):=by
 obtain⟨kb,hk1,hk2⟩:=hL.row y hy
 obtain⟨hr1,hr2⟩:=hL.mV y hy
 refine ak hD (cZ z) (α:=Nat × qt) 6 82 7 (fun t=>t.1<=y.2.2.length/\MS L n fr out x s0 (y.2.2.take t.1) t.1 t.2) (fun t=>Ck n y.2.1 y.2.2.length t.1) (fun t=>qw n L.length (eY 0 L) (aX out) a (w6 6 t.2) (wv t.2)) (fun _=>z) (fun _=>zn) (fun t=>y.2.2.length - t.1) _ (fun t hI=>?_) (0,s0) ⟨Nat.zero_le _,hs0⟩
 obtain⟨j,s⟩:=t
 obtain⟨h1,h2⟩:=hI
 simp only at h1 h2 ⊢
 have rb:aE (aq [(0,0),(1,1),(2,2),(5,5),(6,6)] []) (dW (aF s.ms) (s.ms.length*4))=some (dW (aF s.ms) (s.ms.length*4)):=OH _ _
 by_cases hj:j<y.2.2.length
 ·obtain⟨e,he⟩:=ej hj
  have hem:e∈y.2.2:=List.mem_of_getElem? he
  obtain⟨e1,e2,e3,e4⟩:=hr2 e hem
  have hto:e.ax=(e.ax.toNat:Int):=by omega
  have htn:e.ax.toNat<out.length:=by rw[ho.len];omega
  have hrow:aB Try.prog kb 128 (0+j*3)=some (.agg ⟨e.row⟩):=gE (rows:=y.2.2.map eH.row) hk2 Try.underlying128 rfl rfl (pj _) (by rw[List.getElem?_map,he];rfl)
  have hedg:=G0 (l:=out) htn (n*3)
  have htk:y.2.2.take (j+1)=y.2.2.take j++[e]:=by rw[List.take_add_one,he];rfl
  have hps:Vt (y.2.2.take (j+1))=Vt (y.2.2.take j)++[(e.ax.toNat,e.wt.toNat)]:=by rw[htk];simp
  have hpb:s.p+1<=1000000:=by have:=h2.p;omega
  have hge:GE L x e.ax.toNat e.wt.toNat:=⟨e,by rw[hadj];exact hem,hto,by omega⟩
  have hLd:Ld out x=a.len.toNat:=by unfold Ld;rw[hax]
  have hSx:LS out x:=by unfold LS;rw[hax];exact ha0
  have hpush:=PI hz s h2.ok h2.one hpb ⟨e.ax,a.len+e.wt,a.gj+1⟩
  have w1:Value.int .i64 (IntKind.i64.wrap (a.len+e.wt))=Value.int .i64 (a.len+e.wt):=jx (by omega) (by omega)
  have w2:Value.int .i64 (IntKind.i64.wrap (a.gj+1))=Value.int .i64 (a.gj+1):=jx (by omega) (by omega)
  have hcd:decide ((j:Int)<(y.2.2.length:Int))=true:=by simp;omega
  refine t100 (Zf z zn n s.n s.ms.length (s.ms.length*4) y.2.1 y.2.2.length j e.ax.toNat L.length kb s.p (fy out e.ax.toNat).gj (eY 0 L) (aX out) (aF s.ms) a e (pushφ s ⟨e.ax,a.len+e.wt,a.gj+1⟩) (aj _ _ _ _ _ _ _ _ _) ⟨fun _=>?_,fun h=>(by rw[hcd] at h;cases h)⟩)
  (repeat' first|(with_reducible first|exact rfl|exact True.intro|assumption|apply And.intro|exact hz|exact hj|exact hk1|exact hrow|exact hto|exact(by omega:e.ax.toNat<n)|exact hedg|exact hpush|exact w1|exact w2|exact rb|exact aU _ _|exact cL _ _ _|exact dz _ _|exact aT _ _ _ _|exact aG (by omega))|exact(rfl:Int.ofNat _=_)|exact(rfl:gH _ _=_)|exact hz|exact hj|exact hk1|exact hrow|exact hto|exact(by omega:e.ax.toNat<n)|exact hedg|exact hpush|exact w1|exact w2|exact rb|exact aU _ _|exact cL _ _ _|exact dz _ _|exact aT _ _ _ _|exact aG (by omega)|intro hq)
  ·
   rename_i ms'
   obtain⟨p1,p2,p3,p4⟩:=hq
   have hlp:=h2.ok.lp
   have hp0:=h2.ok.p0
   have h2p:=h2.p
   have h2n:=h2.n
   refine⟨(j+1,⟨s.n+1,ms',s.p+1⟩),rfl,rfl,rfl,rfl,rfl,⟨hj,?_⟩,by show y.2.2.length - (j+1)<y.2.2.length - j;omega⟩
   show MS L n fr out x s0 (y.2.2.take (j+1)) (j+1) ⟨s.n+1,ms',s.p+1⟩
   have hval: ∀v,gL (hf ms') (s.n+1) v↔v=⟨⟨e.ax,a.len+e.wt,a.gj+1⟩,s.p⟩\/gL (hf s.ms) s.n v:=p4
   refine⟨⟨p1,p3,by show 0<=s.p+1;omega,hpb,by show(ms'.length:Int)<=s.p+1;omega⟩,by show 1<=ms'.length;omega,fun b hb=>?_,?_,by show s.p+1<=s0.p+((j+1:Nat):Int);omega,by show s.n+1<=s0.n+(j+1);omega⟩
   ·rcases (hval b).1 hb with rfl|hb
    ·exact⟨e1,e2,by show 0<=a.len+e.wt;omega,by show a.len+e.wt<=(a.gj+1)*1073741824;omega,by show 0<=a.gj+1;omega,hac⟩
    ·exact h2.hb b hb
   ·rw[hps]
    refine xg h2.dj hSx hge (fun v k ⟨b,q1,q2,q3⟩=>⟨b,(hval b).2 (.inr q1),q2,q3⟩) (fun v k ⟨b,q1,q2,q3⟩=>?_) (.inr ⟨_,(hval _).2 (.inl rfl),hto,?_⟩)
    ·rcases (hval b).1 q1 with rfl|q1
     ·right
      simp only at q2 q3
      rw[hLd]
      omega
     ·exact .inl ⟨b,q1,q2,q3⟩
    ·show a.len+e.wt=_
     rw[hLd];omega
  ·have hneg:decide ((fy out e.ax.toNat).gj<0)=false:=by with_reducible assumption
   have hS:LS out e.ax.toNat:=by unfold LS;simpa using hneg
   have h2p:=h2.p
   have h2n:=h2.n
   refine⟨(j+1,s),rfl,rfl,rfl,rfl,rfl,⟨hj,?_⟩,by show y.2.2.length - (j+1)<y.2.2.length - j;omega⟩
   show MS L n fr out x s0 (y.2.2.take (j+1)) (j+1) s
   refine⟨h2.ok,h2.one,h2.hb,?_,by show s.p<=s0.p+((j+1:Nat):Int);omega,by omega⟩
   rw[hps]
   exact xg h2.dj hSx hge (fun v k q=>q) (fun v k q=> .inl q) (.inl hS)
 ·have hje:j=y.2.2.length:=by omega
  have hcd:decide ((j:Int)<(y.2.2.length:Int))=false:=by simp;omega
  refine t100 (Zf z zn n s.n s.ms.length (s.ms.length*4) y.2.1 y.2.2.length j 0 L.length kb s.p 0 (eY 0 L) (aX out) (aF s.ms) a ⟨0,0,0⟩ (fun _=>False) (aj _ _ _ _ _ _ _ _ _) ⟨fun h=>(by rw[hcd] at h;cases h),fun _=>?_⟩)
  (repeat' first|(with_reducible first|exact rfl|exact True.intro|assumption|apply And.intro|exact hz|exact rb|exact aU _ _|exact cL _ _ _|exact dz _ _)|exact(rfl:Int.ofNat _=_)|exact(rfl:gH _ _=_)|exact hz|exact rb|exact aU _ _|exact cL _ _ _|exact dz _ _|intro hq)
  subst hje
  rw[List.take_of_length_le (Nat.le_refl _)] at h2
  exact yT (k:=fun _=>dN) s h2 rfl
end
end Go.Proofs.Nw
namespace Go.Proofs.Nw
open Go Go.AV Go.jm
set_option maxHeartbeats 1000000
set_option maxRecDepth 100000
theorem Ql{out:List cT}{nd:Nat}(h:nd<out.length){a:cT}(ha:0<=a.gj):LS (out.set nd a)=fun v=>LS out v\/v=nd:=by
 funext v
 apply propext
 unfold LS
 rw[pJ h]
 by_cases e:v=nd
 ·simp[e,ha]
 ·simp[e]
theorem Qk{out:List cT}{nd:Nat}(h:nd<out.length)(a:cT):Ld (out.set nd a)=fun v=>if v=nd then a.len.toNat else Ld out v:=by
 funext v
 unfold Ld
 rw[pJ h]
 split<;>rfl
theorem D6{out:List cT}{nd:Nat}(h:nd<out.length){a:cT}(ha:0<=a.gj)(hn: ¬LS out nd):kG (out.set nd a)=kG out+1:=by
 unfold kG
 have hg:out[nd]=fy out nd:=by have:=mM h;rw[List.getElem?_eq_getElem h] at this;exact Option.some.inj this
 rw[List.countP_set h,hg]
 have h1:decide (0<=(fy out nd).gj)=false:=by unfold LS at hn;simpa using hn
 simp[h1,ha]
theorem IF(out:List cT):kG out<=out.length:=List.countP_le_length
theorem Du{n:Nat}{out:List cT}(ho:Ev n out){nd:Nat}(h:nd<n){a:cT}(ha:0<=a.gj)(hl:0<=a.len):Ev n (out.set nd a):=by
 refine⟨by rw[List.length_set];exact ho.len,fun v hv=>?_⟩
 rw[pJ (by rw[ho.len];exact h)]
 by_cases e:v=nd
 ·rw[if_pos e];exact .inl ⟨ha,hl⟩
 ·rw[if_neg e];exact ho.DP v hv
structure Qm(L:List nV)(n fr:Nat)(out:List cT)(s:qt):Prop where
 oo:Ev n out
 ok:vk s
 one:1<=s.ms.length
 hb:HB n (kG out) s
 dj:Dj (GE L) fr (LS out) (Ld out) (LQ s)
 p:s.p<=1+4096*(kG out:Int)
def DPφ(L:List nV)(n fr:Nat)(l:List cT):Prop:=l.length=n/\ ∀v,v<n->mg (GE L) fr v (fy l v).len
theorem LF{L:List nV}{n fr:Nat}{out:List cT}{s:qt}(h:Qm L n fr out s)(h0:s.n=0):DPφ L n fr out:=by
 refine⟨h.oo.len,fun v hv=>?_⟩
 have hq: ∀v k,¬LQ s v k:=fun v k ⟨a,⟨i,hi,_⟩,_⟩=>by omega
 obtain⟨q1,q2⟩:=Px h.dj hq v
 rcases h.oo.DP v hv with ⟨e1,e2⟩|⟨e1,e2⟩
 ·have:=q1 e1
  unfold Ld at this
  rw[show((fy out v).len.toNat:Int)=(fy out v).len by omega] at this
  exact this
 ·rw[e2]
  exact q2 (by unfold LS;omega)
section
variable{z:T aa}{zn:Nat}
theorem wQ(hz:an z zn)(L:List nV)(n:Nat)(out:List cT)(a:cT)(n' c cc:Nat)(p:Int)(ms:List cw):
 ai Try.prog (ah (ah (ag Try.f67) 1) 0) 6 82 (wP n) (qw n L.length (eY 0 L) (aX out) a (eG (bc 6 n' c) p) (dW (aF ms) cc)) 7 z zn (Al.R (Ss z zn n L.length (eY 0 L) (aX out) a (eG (bc 6 n' c) p) (dW (aF ms) cc)).l):=by
 refine ak hD (cZ z) (α:=Nat) 6 82 7 (fun t=>t=0) (fun t=>wP n) (fun t=>qw n L.length (eY 0 L) (aX out) a (eG (bc 6 n' c) p) (dW (aF ms) cc)) (fun _=>z) (fun _=>zn) (fun t=>1) _ (fun t hI=>?_) 0 rfl
 refine t100 (V6 z zn n n' c cc L.length p (eY 0 L) (aX out) (aF ms) a (aj _ _ _ _ _ _ _ _ _) ?_)
 (repeat' first|(with_reducible first|exact rfl|exact True.intro|assumption|apply And.intro|exact hz|exact aU _ _|exact cL _ _ _|exact dz _ _)|exact(rfl:Int.ofNat _=_)|exact(rfl:gH _ _=_)|exact hz|exact aU _ _|exact cL _ _ _|exact dz _ _|intro hq)
 exact bJ trivial
theorem HK(hz:an z zn)(L:List nV)(n fr:Nat)(hL:U1 z zn n L)(hn:n<=64)(out0:List cT)(s0:qt)(h0:Qm L n fr out0 s0):
 ai Try.prog (ah (ag Try.f67) 1) 4 82 (lN n) [(0, .map (eY 0 L) L.length),(1,j6 (aX out0) n),(2,w6 4 s0),(4,wv s0)] 5 z zn (Al.R (KT z zn n L.length (eY 0 L) (aX out0) (w6 4 s0) (wv s0) (DPφ L n fr)).l):=by
 refine ak hD (cZ z) (α:=List cT × qt) 4 82 5 (fun t=>Qm L n fr t.1 t.2) (fun t=>lN n) (fun t=>[(0, .map (eY 0 L) L.length),(1,j6 (aX t.1) n),(2,w6 4 t.2),(4,wv t.2)]) (fun _=>z) (fun _=>zn) (fun t=>(n - kG t.1)*4200+t.2.n) _ (fun t hI=>?_) (out0,s0) h0
 obtain⟨out,s⟩:=t
 simp only at hI ⊢
 by_cases hs0:s.n=0
 ·have Cv:A1 z zn 82 [ip 0] [(0,eG (bc 1 s.n s.ms.length) s.p),(1,dW (aF s.ms) (s.ms.length*4))] 2 2 (.tuple ⟨[.agg ⟨[I 0,I 0,I 0]⟩,F0]⟩) [(0,eG (bc 1 s.n s.ms.length) s.p),(1,dW (aF s.ms) (s.ms.length*4))]:=by
   rw[hs0];exact PK hz s.ms s.ms.length (s.ms.length*4) s.p
  refine t100 (V7 z zn n s.n s.ms.length (s.ms.length*4) L.length s.p (eY 0 L) (aX out) (aF s.ms) (aj _ _ _ _ _ _ _ _ _) ?_)
  (repeat' first|(with_reducible first|exact rfl|exact True.intro|assumption|apply And.intro|exact hz|exact Cv|exact aU _ _|exact cL _ _ _|exact dz _ _)|exact(rfl:Int.ofNat _=_)|exact(rfl:gH _ _=_)|exact hz|exact Cv|exact aU _ _|exact cL _ _ _|exact dz _ _|intro hq)
  exact yT (k:=fun _=>dN) out (LF hI hs0) rfl
 ·have hpos:0<s.n:=by omega
  have hcn:kG out<=n:=by have:=IF out;rw[hI.oo.len] at this;exact this
  obtain⟨b1,b2,b3,b4,b5,b6⟩:=hI.hb (hf s.ms 0) ⟨0,hpos,rfl⟩
  have hpI:=hI.p
  have hlp:=hI.ok.lp
  have hlen:=hI.ok.len
  have Cv:=SJ hz s.ms s.n s.ms.length (s.ms.length*4) s.p hpos hI.ok.len hI.ok.len (Nat.le_refl _) (by have:=hI.ok.pb;omega) hI.ok.heap
  have hnd:(hf s.ms 0).x.node=((hf s.ms 0).x.node.toNat:Int):=by omega
  generalize hnd':(hf s.ms 0).x.node.toNat=nd at hnd
  have hndn:nd<n:=by omega
  have hedg:=G0 (l:=out) (i:=nd) (by rw[hI.oo.len];exact hndn) (n*3)
  have hov:=M7 (l:=out) (i:=nd) (by rw[hI.oo.len];exact hndn) (hf s.ms 0).x
  have l1:(aX (out.set nd (hf s.ms 0).x)).length<=n*3:=by rw[wg,List.length_set,hI.oo.len];exact Nat.le_refl _
  have vals: ∀ms',popφ s.ms s.n ms'-> ∀b,gL (hf ms') (s.n - 1) b->gL (hf s.ms) s.n b:=fun ms' hp b hb=>by
   obtain⟨i,i1,i2,i3⟩:=(hp.2.2 b).1 hb
   exact⟨i,i2,i3⟩
  have q1: ∀ms',popφ s.ms s.n ms'-> ∀v k,LQ ⟨s.n - 1,ms',s.p⟩ v k->LQ s v k:=fun ms' hp v k ⟨b,k1,k2,k3⟩=>⟨b,vals ms' hp b k1,k2,k3⟩
  have q2: ∀ms',popφ s.ms s.n ms'-> ∀v k,LQ s v k->LQ ⟨s.n - 1,ms',s.p⟩ v k\/(v=nd/\k=(hf s.ms 0).x.len.toNat):=fun ms' hp v k ⟨b,⟨i,i1,i2⟩,k2,k3⟩=>by
   by_cases e:i=0
   ·subst e;subst i2;right;omega
   ·exact .inl ⟨b,(hp.2.2 b).2 ⟨i,by omega,i1,i2⟩,k2,k3⟩
  have ok1: ∀ms',popφ s.ms s.n ms'->vk ⟨s.n - 1,ms',s.p⟩:=fun ms' hp=>⟨by show s.n - 1<=ms'.length;rw[hp.1];omega,hp.2.1,hI.ok.p0,hI.ok.pb,by show(ms'.length:Int)<=s.p;rw[hp.1];exact hlp⟩
  have hb1: ∀ms',popφ s.ms s.n ms'-> ∀c,kG out<=c->HB n c ⟨s.n - 1,ms',s.p⟩:=fun ms' hp c hc b hb=>by
   obtain⟨k1,k2,k3,k4,k5,k6⟩:=hI.hb b (vals ms' hp b hb)
   exact⟨k1,k2,k3,k4,k5,by omega⟩
  have st: ∀ms',popφ s.ms s.n ms'-> ¬LS out nd->MS L n fr (out.set nd (hf s.ms 0).x) nd ⟨s.n - 1,ms',s.p⟩ [] 0 ⟨s.n - 1,ms',s.p⟩:=fun ms' hp hns=>by
   have hc1:=D6 (by rw[hI.oo.len];exact hndn) b5 hns
   refine⟨ok1 ms' hp,by show 1<=ms'.length;rw[hp.1];exact hI.one,hb1 ms' hp _ (by omega),?_,by show s.p<=s.p+((0:Nat):Int);omega,Nat.le_refl _⟩
   rw[Ql (by rw[hI.oo.len];exact hndn) b5,Qk (by rw[hI.oo.len];exact hndn)]
   refine Fy hI.dj hns ⟨_,⟨0,hpos,rfl⟩,hnd,by omega⟩ (fun v k ⟨b,⟨i,i1,i2⟩,k2,k3⟩=>?_) (q1 ms' hp) (q2 ms' hp)
   have hm:=H9 iT hI.ok.heap i i1
   rw[i2] at hm
   have: ¬dI b (hf s.ms 0)=true:=by rw[hm];simp
   rw[mY] at this
   omega
  have hcl: ¬LS out nd->kG (out.set nd (hf s.ms 0).x)=kG out+1/\kG out+1<=n:=fun hns=>by
   have hc1:=D6 (by rw[hI.oo.len];exact hndn) b5 hns
   have:=IF (out.set nd (hf s.ms 0).x)
   rw[List.length_set,hI.oo.len] at this
   exact⟨hc1,by omega⟩
  have hin: ∀ms',popφ s.ms s.n ms'-> ¬LS out nd-> ∀i:Nat × Nat × Nat,aD Try.prog 3 (zv (hf s.ms 0).x.node) (eY 0 L) 0=some (some (i.1,tb i.2.1 i.2.2 i.2.2))->
   ai Try.prog (ah (ah (ag Try.f67) 1) 0) 6 82 (Ck n i.2.1 i.2.2 0) (qw n L.length (eY 0 L) (aX (out.set nd (hf s.ms 0).x)) (hf s.ms 0).x (eG (bc 6 (s.n - 1) s.ms.length) s.p) (dW (aF ms') (s.ms.length*4))) 7 z zn
    (Al.R (St z zn n i.2.1 i.2.2 L.length (eY 0 L) (aX (out.set nd (hf s.ms 0).x)) (hf s.ms 0).x (eG (bc 6 (s.n - 1) s.ms.length) s.p) (dW (aF ms') (s.ms.length*4)) (MS L n fr (out.set nd (hf s.ms 0).x) nd ⟨s.n - 1,ms',s.p⟩ (lZ L nd) (lZ L nd).length)).l):=fun ms' hp hns i hi=>by
   obtain⟨y,y1,y2,y3,y4⟩:=OT L _ hi
   rw[hnd] at y2
   obtain⟨c1,c2⟩:=hcl hns
   have:=HJ hz L n fr hL hn (out.set nd (hf s.ms 0).x) (Du hI.oo hndn b5 b3) (by omega) y y1 (hf s.ms 0).x nd hnd hndn y2 (by rw[pJ (by rw[hI.oo.len];exact hndn),if_pos rfl]) b5 b3 b4 (by omega) ⟨s.n - 1,ms',s.p⟩ (st ms' hp hns) (by show s.p<=900000;omega)
   simp only[w6,wv,hp.1] at this
   rw[y3,y4,y2]
   exact this
  have jP: ∀ms',popφ s.ms s.n ms'-> ¬LS out nd-> ∀s2,MS L n fr (out.set nd (hf s.ms 0).x) nd ⟨s.n - 1,ms',s.p⟩ (lZ L nd) (lZ L nd).length s2->
   aj (fun t:List cT × qt=>Qm L n fr t.1 t.2) (fun t=>lN n) (fun t=>[(0, .map (eY 0 L) L.length),(1,j6 (aX t.1) n),(2,w6 4 t.2),(4,wv t.2)]) 5 (fun _=>z) (fun _=>zn) (fun t=>(n - kG t.1)*4200+t.2.n) (Al.R (KT z zn n L.length (eY 0 L) (aX out0) (w6 4 s0) (wv s0) (DPφ L n fr)).l) (out,s) .normal (lN n) [(0, .map (eY 0 L) L.length),(1,j6 (aX (out.set nd (hf s.ms 0).x)) n),(2,w6 4 s2),(4,wv s2)] 5 z zn:=fun ms' hp hns s2 h2=>by
   obtain⟨c1,c2⟩:=hcl hns
   have hal:(lZ L (nd:Int)).length<=4096:=by
    unfold lZ
    cases hfd:L.find? (fun x=>x.1==(nd:Int)) with
    |none=>simp
    |some y=>exact(hL.mV y (List.mem_of_find?_eq_some hfd)).1
   have h2p:s2.p<=s.p+(((lZ L (nd:Int)).length:Nat):Int):=h2.p
   have h2n:s2.n<=s.n - 1+(lZ L (nd:Int)).length:=h2.n
   refine⟨(out.set nd (hf s.ms 0).x,s2),rfl,rfl,rfl,rfl,rfl,⟨Du hI.oo hndn b5 b3,h2.ok,h2.one,h2.hb,IA h2.dj (fun u w ⟨e,e1,e2,e3⟩=>?_),by show s2.p<=1+4096*((kG (out.set nd (hf s.ms 0).x):Nat):Int);omega⟩,?_⟩
   ·exact List.mem_map.2 ⟨e,e1,by rw[e2,e3];simp⟩
   ·show(n - kG (out.set nd (hf s.ms 0).x))*4200+s2.n<(n - kG out)*4200+s.n
    rw[c1]
    obtain⟨m,hm⟩: ∃m,n - kG out=m+1:=⟨n - kG out - 1,by omega⟩
    rw[show n - (kG out+1)=m by omega,hm]
    omega
  have nx0: ∀ms',popφ s.ms s.n ms'-> ¬LS out nd->lZ L (nd:Int)=[]->aj (fun t:List cT × qt=>Qm L n fr t.1 t.2) (fun t=>lN n) (fun t=>[(0, .map (eY 0 L) L.length),(1,j6 (aX t.1) n),(2,w6 4 t.2),(4,wv t.2)]) 5 (fun _=>z) (fun _=>zn) (fun t=>(n - kG t.1)*4200+t.2.n) (Al.R (KT z zn n L.length (eY 0 L) (aX out0) (w6 4 s0) (wv s0) (DPφ L n fr)).l) (out,s) .normal (lN n) [(0, .map (eY 0 L) L.length),(1,j6 (aX (out.set nd (hf s.ms 0).x)) n),(2,eG (bc 4 (s.n - 1) s.ms.length) s.p),(4,dW (aF ms') (s.ms.length*4))] 5 z zn:=fun ms' hp hns had=>by
   have:=jP ms' hp hns ⟨s.n - 1,ms',s.p⟩ (by rw[had];exact st ms' hp hns)
   simp only[w6,wv,hp.1] at this ⊢
   exact this
  have skp: ∀ms',popφ s.ms s.n ms'->LS out nd->aj (fun t:List cT × qt=>Qm L n fr t.1 t.2) (fun t=>lN n) (fun t=>[(0, .map (eY 0 L) L.length),(1,j6 (aX t.1) n),(2,w6 4 t.2),(4,wv t.2)]) 5 (fun _=>z) (fun _=>zn) (fun t=>(n - kG t.1)*4200+t.2.n) (Al.R (KT z zn n L.length (eY 0 L) (aX out0) (w6 4 s0) (wv s0) (DPφ L n fr)).l) (out,s) .normal (lN n) [(0, .map (eY 0 L) L.length),(1,j6 (aX out) n),(2,eG (bc 4 (s.n - 1) s.ms.length) s.p),(4,dW (aF ms') (s.ms.length*4))] 5 z zn:=fun ms' hp hS=>by
   refine⟨(out,⟨s.n - 1,ms',s.p⟩),rfl,?_,rfl,rfl,rfl,⟨hI.oo,ok1 ms' hp,by show 1<=ms'.length;rw[hp.1];exact hI.one,hb1 ms' hp _ (Nat.le_refl _),LY hI.dj hS (q1 ms' hp) (q2 ms' hp),hI.p⟩,by show(n - kG out)*4200+(s.n - 1)<(n - kG out)*4200+s.n;omega⟩
   simp only[w6,wv,hp.1]
  refine t100 (lb1 z zn n s.n s.ms.length (s.ms.length*4) nd L.length s.p (fy out nd).gj (eY 0 L) (aX out) (aX (out.set nd (hf s.ms 0).x)) (aF s.ms) (hf s.ms 0).x (popφ s.ms s.n) (fun ms' _ _=>MS L n fr (out.set nd (hf s.ms 0).x) nd ⟨s.n - 1,ms',s.p⟩ (lZ L nd) (lZ L nd).length) (aj _ _ _ _ _ _ _ _ _) ?_)
  have ns:decide ((fy out nd).gj>=0)=false-> ¬LS out nd:=fun h=>by unfold LS;simpa using h
  (repeat' first|(with_reducible first|exact rfl|exact True.intro|assumption|apply And.intro|exact hz|exact Cv|exact hnd|exact hndn|exact hedg|exact hov|exact l1|exact M8 _ _|exact M9 _ _|exact hin _ (by assumption) (ns (by assumption)) _ (by assumption)|exact wQ hz _ _ _ _ _ _ _ _ _|exact aU _ _|exact cL _ _ _|exact jh _ _ _|exact dz _ _)|exact(rfl:Int.ofNat _=_)|exact(rfl:gH _ _=_)|exact hz|exact Cv|exact hnd|exact hndn|exact hedg|exact hov|exact l1|exact M8 _ _|exact M9 _ _|exact hin _ (by assumption) (ns (by assumption)) _ (by assumption)|exact wQ hz _ _ _ _ _ _ _ _ _|exact aU _ _|exact cL _ _ _|exact jh _ _ _|exact dz _ _|intro hq)
  ·have hS:LS out nd:=by unfold LS;have:decide ((fy out nd).gj>=0)=true:=(by with_reducible assumption);simpa using this
   exact skp _ (by with_reducible assumption) hS
  ·exact jP _ (by with_reducible assumption) (ns (by with_reducible assumption)) _ hq
  ·have hns:=ns (by assumption)
   have had:lZ L (nd:Int)=[]:=by
    have h:aD Try.prog 3 (zv (hf s.ms 0).x.node) (eY 0 L) 0=some none:=by with_reducible assumption
    rw[←hnd];exact OS L _ h
   exact nx0 _ (by with_reducible assumption) hns had
theorem EJ(n:Nat)(row:List Value)(h:bH row=true):bH (rep n row)=true:=by
 rw[mD,c7];intro v hv
 obtain⟨r,hr,hv⟩:=List.mem_flatten.1 hv
 rw[List.eq_of_mem_replicate hr] at hv
 exact c7.1 h v hv
theorem OG(n:Nat):rep n [I 0,I 0,I 0]=aX (List.replicate n ⟨0,0,0⟩):=by
 rw[mD]
 show _=((List.replicate n (⟨0,0,0⟩:cT)).map cT.row).flatten
 rw[List.map_replicate]
 rfl
def yf(n:Nat):List cT:=(List.range n).map fun(i:Nat)=>⟨(i:Int),-1,-1⟩
theorem HZ{n v:Nat}(h:v<n):fy (yf n) v=⟨(v:Int),-1,-1⟩:=by
 unfold fy yf
 rw[List.getElem?_map,List.getElem?_range h];rfl
def Cq(n i:Nat):List cT:=(yf n).take i++List.replicate (n - i) ⟨0,0,0⟩
theorem DN{n i:Nat}(h:i<=n):(Cq n i).length=n:=by simp[Cq,yf];omega
theorem LC{n i:Nat}(hi:i<n):(Cq n i).set i ⟨(i:Int),-1,-1⟩=Cq n (i+1):=by
 unfold Cq
 rw[List.take_add_one,show(yf n)[i]? =some ⟨(i:Int),-1,-1⟩ by unfold yf;rw[List.getElem?_map,List.getElem?_range hi];rfl]
 have hl:((yf n).take i).length=i:=by simp[yf];omega
 rw[List.set_append_right _ _ (by omega),hl,Nat.sub_self]
 obtain⟨m,hm⟩: ∃m,n - i=m+1:=⟨n - i - 1,by omega⟩
 rw[hm,show n - (i+1)=m by omega,List.replicate_succ,List.set_cons_zero,List.append_assoc]
 rfl
theorem HL(hz:an z zn)(L:List nV)(n fr:Nat)(hn:n<=64):
 ai Try.prog (ah (ag Try.f67) 0) 2 82 (E5 n fr 0) [(0, .map (eY 0 L) L.length),(1,j6 (rep n [I 0,I 0,I 0]) n)] 2 z zn (Al.R (V3 z zn n fr L.length (eY 0 L) (rep n [I 0,I 0,I 0]) (aX (yf n))).l):=by
 rw[OG,show List.replicate n (⟨0,0,0⟩:cT)=Cq n 0 by simp[Cq]]
 refine ak hD (cZ z) (α:=Nat) 2 82 2 (fun i=>i<=n) (fun i=>E5 n fr i) (fun i=>[(0, .map (eY 0 L) L.length),(1,j6 (aX (Cq n i)) n)]) (fun _=>z) (fun _=>zn) (fun i=>n - i) _ (fun i hI=>?_) 0 (Nat.zero_le _)
 by_cases hi:i<n
 ·have o1:=M7 (l:=Cq n i) (i:=i) (by rw[DN hI];exact hi) ⟨(i:Int),-1,-1⟩
  have e1:=LC hi
  rw[e1] at o1
  have l1:(aX (Cq n (i+1))).length<=n*3:=by rw[wg,DN hi];exact Nat.le_refl _
  have hc:decide ((i:Int)<(n:Int))=true:=by simp;omega
  refine t100 (Zg z zn n fr i L.length (eY 0 L) (aX (Cq n i)) (aX (Cq n (i+1))) (aj _ _ _ _ _ _ _ _ _) ⟨fun _=>?_,fun h=>(by rw[hc] at h;cases h)⟩)
  (repeat' first|(with_reducible first|exact rfl|exact True.intro|assumption|apply And.intro|exact hz|exact hi|exact o1|exact l1|exact dz _ _|exact cL _ _ _|exact aG (by omega))|exact(rfl:Int.ofNat _=_)|exact(rfl:gH _ _=_)|exact hz|exact hi|exact o1|exact l1|exact dz _ _|exact cL _ _ _|exact aG (by omega)|intro hq)
  exact⟨i+1,rfl,rfl,rfl,rfl,rfl,hi,by show n - (i+1)<n - i;omega⟩
 ·have hc:decide ((i:Int)<(n:Int))=false:=by simp;omega
  refine t100 (Zg z zn n fr i L.length (eY 0 L) (aX (Cq n i)) [] (aj _ _ _ _ _ _ _ _ _) ⟨fun h=>(by rw[hc] at h;cases h),fun _=>?_⟩)
  (repeat' first|(with_reducible first|exact rfl|exact True.intro|assumption|apply And.intro|exact hz|exact dz _ _|exact cL _ _ _)|exact(rfl:Int.ofNat _=_)|exact(rfl:gH _ _=_)|exact hz|exact dz _ _|exact cL _ _ _|intro hq)
  have:i=n:=by omega
  subst this
  rw[show Cq i i=yf i by unfold Cq;rw[List.take_of_length_le (by simp[yf]),Nat.sub_self,List.replicate_zero,List.append_nil]]
  exact bJ trivial
theorem I9(hz:an z zn)(L:List nV)(n fr:Nat)(hL:U1 z zn n L)(hn:n<=64)(hfr:fr<n):
 aQ Try.prog z zn 67 [iv n,mp 0,iv fr] [(0, .map (eY 0 L) L.length)] 1 2 (DPφ L n fr) (fun _=>bc 1 n n) (fun l=>[(0, .map (eY 0 L) L.length),(1,j6 (aX l) n)]):=by
 have h0:Qm L n fr (yf n) ⟨1,[⟨⟨fr,0,0⟩,0⟩],1⟩:=by
  have hcn:kG (yf n)=0:=by
   unfold kG yf
   rw[List.countP_eq_zero]
   intro a ha
   obtain⟨i,_,rfl⟩:=List.mem_map.1 ha
   simp
  have hls: ∀v,¬LS (yf n) v:=fun v h=>by
   unfold LS at h
   by_cases hv:v<n
   ·rw[HZ hv] at h;simp at h
   ·rw[H3 (by simp[yf];omega)] at h;simp[Tx] at h
  refine⟨⟨by simp[yf],fun v hv=> .inr ?_⟩,⟨by simp,fun k h1 h2=>by simp only at h2;omega,by simp,by simp,by simp⟩,by simp,fun a ha=>?_,?_,by rw[hcn];simp⟩
  ·rw[HZ hv];exact⟨by simp,rfl⟩
  ·obtain⟨i,hi,rfl⟩:=ha
   have:i=0:=by simp only at hi;omega
   subst this
   refine⟨by show(0:Int)<=(fr:Int);omega,by show(fr:Int)<(n:Int);omega,by show(0:Int)<=0;omega,by show(0:Int)<=0*1073741824;omega,by show(0:Int)<=0;omega,by show(0:Int)<=_;omega⟩
  ·refine⟨fun v h=>(hls v h).elim,fun v l ⟨a,⟨i,hi,e⟩,h2,h3⟩=>?_,fun u x w h=>(hls u h).elim, .inr ⟨_,⟨0,by simp,rfl⟩,rfl,rfl⟩⟩
   have:i=0:=by simp only at hi;omega
   subst this
   subst e
   have h2':(fr:Int)=(v:Int):=h2
   have h3':(0:Int)=(l:Int):=h3
   have e1:v=fr:=by omega
   have e2:l=0:=by omega
   subst e1 e2
   exact .start
 have hK0:=HL hz L n fr hn
 have hK1:=HK hz L n fr hL hn (yf n) _ h0
 have mN:=SP hz
 have hpu:=Mh hz ⟨fr,0,0⟩
 have hrp:=EJ n [I 0,I 0,I 0] rfl
 have hrp': ∀σ,aE σ (aa.ay (aZ.mk (rep n [I 0,I 0,I 0]) (n*3) 3 151 true true 0 true))=some (aa.ay (aZ.mk (rep n [I 0,I 0,I 0]) (n*3) 3 151 true true 0 true)):=fun σ=>cG hrp
 refine dJ (cZ z) (fn:=Try.f67) (by kernel_rfl) (by kernel_rfl) hz ⟨by decide,by decide⟩ (fun _ _=>⟨rfl,Nat.le_refl _,hz⟩) (N:=100) ?_
 refine lb z zn n fr L.length (eY 0 L) (rep n [I 0,I 0,I 0]) (aX (yf n)) (DPφ L n fr) _ ?_
 (repeat' first|(with_reducible first|exact rfl|exact True.intro|assumption|apply And.intro|exact hz|exact hK0|exact hK1|exact mN|exact hpu|exact hrp' _|exact dz _ _|exact cL _ _ _|exact jh _ _ _|exact(by omega:n<=1048576))|exact(rfl:Int.ofNat _=_)|exact(rfl:gH _ _=_)|exact hz|exact hK0|exact hK1|exact mN|exact hpu|exact hrp' _|exact dz _ _|exact cL _ _ _|exact jh _ _ _|exact(by omega:n<=1048576)|intro hq)
 all_goals exact q2 _ hq rfl rfl rfl rfl rfl
end
theorem Fm{z:T aa}{a b:Nat}(h:an z a)(hab:a<=b):an z b:=fun k o hk=>⟨Nat.lt_of_lt_of_le (h k o hk).1 hab,fun σ hs=>(h k o hk).2 σ fun j hj=>hs j (by omega)⟩
theorem AQ{z:T aa}{a k:Nat}(h:an z a)(hk:k<a){o:aa}(ho: ∀σ:Nat->Option Nat,(∀j,j<a->σ (256*j+510)=some (256*j+510))->aE σ o=some o):an (z.set k o) a:=fun i p hi=>by
 rw[T.aK] at hi
 split at hi
 ·cases hi;rename_i e;subst e;exact⟨hk,ho⟩
 ·exact h i p hi
theorem fH{z:T aa}{a:Nat}(h:an z a)(k:Nat):an (z.del k) a:=fun i p hi=>by
 rw[T.fS] at hi
 split at hi
 ·cases hi
 ·exact h i p hi
theorem fT{z:T aa}{a:Nat}(h:an z a){k:aZ}(hp:bH k.cells=true):an (z.set a (.ay k)) (a+1):=AQ (Fm h (Nat.le_succ a)) (Nat.lt_succ_self a) fun σ _=>cG hp
theorem Kl(a:Int):Instr.sameBits 10000 (zv a) (zv a)=true:=by
 simp[Instr.sameBits]
theorem we(E:List eH):(bN E).length=E.length*3:=by rw[jG (pj E),List.length_map]
theorem gz(E:List eH):bH (bN E)=true:=jC (fun _=>rfl) E
theorem dU{σ:Nat->Option Nat}(E:List eH)(c:Nat):aE σ (aa.ay (aZ.mk (bN E) c 3 128 true true 0 true))=some (aa.ay (aZ.mk (bN E) c 3 128 true true 0 true)):=cG (gz E)
theorem wi{E:List eH}{i:Nat}{e:eH}(h:E[i]? =some e)(c:Nat):aB Try.prog (aZ.mk (bN E) c 3 128 true true 0 true) 128 (0+i*3)=some (.agg ⟨e.row⟩):=
 gE (rows:=E.map eH.row) rfl Try.underlying128 rfl rfl (pj E) (by rw[List.getElem?_map,h];rfl)
structure Gf(n:Nat)(E:List eH):Prop where
 len:E.length<=4096
 ok: ∀e∈E,0<=e.from_/\e.from_<n/\0<=e.ax/\e.ax<n/\0<=e.wt/\e.wt<=1073741824
section
variable{z:T aa}{zn:Nat}
theorem Nq(hz:an z zn)(n:Nat)(x:Int)(h0:0<=x)(h1:x<n):A1 z zn 78 [zv x,ip 0] [(0,Gg n)] 1 1 F0 [(0,Gg n)]:=by
 have d1:decide (x<0)=false:=by simp<;>omega
 have d2:decide (x>=(n:Int))=false:=by simp<;>omega
 refine bt (cZ T.leaf) (fn:=Try.f78) (by kernel_rfl) (by kernel_rfl) hz ⟨by decide,by decide⟩ rfl (N:=100) ?_
 refine VM z zn n x _ ?_
 refine⟨fun h=>(by rw[d1] at h;cases h),fun _=>⟨fun h=>(by rw[d2] at h;cases h),fun _=>?_⟩⟩
 (repeat' first|(with_reducible first|exact rfl|exact True.intro|assumption|apply And.intro|exact hz|exact q1)|exact(rfl:Int.ofNat _=_)|exact(rfl:gH _ _=_)|exact hz|exact q1|intro hq)
theorem Jc(hz:an z zn)(n:Nat)(hn:n<=64)(E:List eH)(hE:Gf n E):A1 z zn 64 [iv n,bc 0 E.length E.length,aw] [(0,nQ (bN E) E.length)] 1 1 (I 0) [(0,nQ (bN E) E.length)]:=by
 have hK0:ai Try.prog (ah (ag Try.f64) 0) 2 57 (wO n E.length 0) [(0,nQ (bN E) E.length),(1,Gg n)] 2 z zn (Al.R (Sq z zn n E.length (bN E)).l):=by
  refine ak hD (cZ T.leaf) (α:=Nat) 2 57 2 (fun j=>j<=E.length) (fun j=>wO n E.length j) (fun _=>[(0,nQ (bN E) E.length),(1,Gg n)]) (fun _=>z) (fun _=>zn) (fun j=>E.length - j) _ (fun j hI=>?_) 0 (Nat.zero_le _)
  by_cases hj:j<E.length
  ·obtain⟨e,he⟩:=ej hj
   obtain⟨k1,k2,k3,k4,k5,k6⟩:=hE.ok e (List.mem_of_getElem? he)
   have hle:=hE.len
   have m1:=Nq hz n e.from_ k1 k2
   have m2:=Nq hz n e.ax k3 k4
   have hc:decide ((j:Int)<(E.length:Int))=true:=by simp;omega
   have d1:decide (e.wt<0)=false:=by simp<;>omega
   have d2:decide (e.wt>1073741824)=false:=by simp<;>omega
   refine t100 (Zp z zn n E.length j (bN E) e (aj _ _ _ _ _ _ _ _ _) ⟨fun _=>?_,fun h=>(by rw[hc] at h;cases h)⟩)
   (repeat' first|(with_reducible first|exact rfl|exact True.intro|assumption|apply And.intro|exact hz|exact hj|exact wi he _|exact m1|exact m2|exact dU _ _|exact aG (by omega))|exact(rfl:Int.ofNat _=_)|exact(rfl:gH _ _=_)|exact hz|exact hj|exact wi he _|exact m1|exact m2|exact dU _ _|exact aG (by omega)|intro hq)
   all_goals first
    |(exact⟨j+1,rfl,rfl,rfl,rfl,rfl,hj,by show E.length - (j+1)<E.length - j;omega⟩)
    |(exfalso;simp_all;done)
    |(exfalso;simp_all;omega)
  ·have hc:decide ((j:Int)<(E.length:Int))=false:=by simp<;>omega
   refine t100 (Zp z zn n E.length j (bN E) ⟨0,0,0⟩ (aj _ _ _ _ _ _ _ _ _) ⟨fun h=>(by rw[hc] at h;cases h),fun _=>?_⟩)
   (repeat' first|(with_reducible first|exact rfl|exact True.intro|assumption|apply And.intro|exact hz|exact dU _ _)|exact(rfl:Int.ofNat _=_)|exact(rfl:gH _ _=_)|exact hz|exact dU _ _|intro hq)
   exact bJ trivial
 have hK1:ai Try.prog (ah (ag Try.f64) 1) 2 57 wN [(0,nQ (bN E) E.length),(1,Gg n)] 2 z zn (Al.R (Sp z zn n E.length (bN E)).l):=by
  refine ak hD (cZ T.leaf) (α:=Nat) 2 57 2 (fun j=>j=0) (fun _=>wN) (fun _=>[(0,nQ (bN E) E.length),(1,Gg n)]) (fun _=>z) (fun _=>zn) (fun j=>1) _ (fun j hI=>?_) 0 rfl
  refine t100 (ck1 z zn n E.length (bN E) (aj _ _ _ _ _ _ _ _ _) ?_)
  (repeat' first|(with_reducible first|exact rfl|exact True.intro|assumption|apply And.intro|exact hz|exact dU _ _)|exact(rfl:Int.ofNat _=_)|exact(rfl:gH _ _=_)|exact hz|exact dU _ _|intro hq)
  exact bJ trivial
 have hle:=hE.len
 have d0:decide ((n:Int)<0)=false:=by simp<;>omega
 have d1:decide ((n:Int)>64)=false:=by simp<;>omega
 have d2:decide ((E.length:Int)>4096)=false:=by simp<;>omega
 refine bt (cZ T.leaf) (fn:=Try.f64) (by kernel_rfl) (by kernel_rfl) hz ⟨by decide,by decide⟩ rfl (N:=100) ?_
 refine ck z zn n E.length (bN E) _ ?_
 (repeat' first|(with_reducible first|exact rfl|exact True.intro|assumption|apply And.intro|exact hz|exact hK0|exact hK1|exact dU _ _|exact q1)|exact(rfl:Int.ofNat _=_)|exact(rfl:gH _ _=_)|exact hz|exact hK0|exact hK1|exact dU _ _|exact q1|intro hq)
 all_goals (exfalso;simp_all;done)
end
abbrev SE(r:List eH):aZ:=⟨bN r,r.length*3,3,128,false,false,0,true⟩
structure C1(z0:T aa)(zn0:Nat)(E:List eH)(j:Nat)(s:oh):Prop where
 bb:an s.z s.zn
 zn:s.zn=zn0+j
 fP: ∀k,k<zn0->s.z.get k=z0.get k
 row: ∀x∈s.l,zn0<=x.2.1/\x.2.1<s.zn/\s.z.get x.2.1=some (.ay (SE x.2.2))/\x.2.2≠[]/\x.2.2.length<=j/\ ∀e∈x.2.2,e∈E
 keys:(s.l.map (·.1)).Nodup
 OO:(s.l.map (·.2.1)).Nodup
 lZ: ∀a,lZ s.l a=(E.take j).filter fun e=>e.from_==a
theorem Ab: ∀(l:List nV)(i:Nat)(x:nV),eY i (l++[x])=eY i l++[{key:=zv x.1,val:=tb x.2.1 x.2.2.length x.2.2.length,born:=i+l.length}]
 |[],i,x=>rfl
 |(a,k,r)::l,i,x=>by
  simp only[List.cons_append,eY,Ab l (i+1) x,List.length_cons]
  rw[show i+1+l.length=i+(l.length+1) by omega]
theorem DD: ∀(l:List nV)(i j:Nat)(x y:nV),l[i]? =some y->y.1=x.1->db i (zv x.1) (tb x.2.1 x.2.2.length x.2.2.length) (eY j l)=eY j (l.set i x)
 |[],i,j,x,y,h,_=>by simp at h
 |(a,k,r)::l,0,j,x,y,h,hk=>by
  simp only[List.getElem?_cons_zero,Option.some.injEq] at h
  subst h
  rfl
 |(a,k,r)::l,i+1,j,x,y,h,hk=>by
  simp only[List.getElem?_cons_succ] at h
  simp only[eY,db,List.set_cons_succ,DD l i (j+1) x y h hk]
theorem DE: ∀(l:List nV)(i j:Nat)(x:nV),l[i]? =some x->nth (eY j l) i=some {key:=zv x.1,val:=tb x.2.1 x.2.2.length x.2.2.length,born:=j+i}
 |[],i,j,x,h=>by simp at h
 |(a,k,r)::l,0,j,x,h=>by
  simp only[List.getElem?_cons_zero,Option.some.injEq] at h
  subst h;rfl
 |(a,k,r)::l,i+1,j,x,h=>by
  simp only[List.getElem?_cons_succ] at h
  simp only[eY,nth,DE l i (j+1) x h]
  rw[show j+1+i=j+(i+1) by omega]
theorem tD{σ:Nat->Option Nat}: ∀{a a' b b':List MapEntry},gR σ a=some a'->gR σ b=some b'->gR σ (a++b)=some (a'++b')
 |[],a',b,b',h1,h2=>by simp only[gR,Option.some.injEq] at h1;subst h1;exact h2
 |e::a,a',b,b',h1,h2=>by
  simp only[gR] at h1
  split at h1
  ·rename_i k v q1 q2
   split at h1
   ·rename_i m q3
    cases h1
    simp only[List.cons_append,gR,q1,q2,tD q3 h2]
   ·cases h1
  ·cases h1
theorem oD{σ:Nat->Option Nat}{k k' v v':Value}(hk:aO σ k=some k')(hv:aO σ v=some v'): ∀{es es':List MapEntry} (i:Nat),gR σ es=some es'->gR σ (db i k v es)=some (db i k' v' es')
 |[],es',i,h=>by simp only[gR,Option.some.injEq] at h;subst h;cases i<;>rfl
 |e::es,es',0,h=>by
  simp only[gR] at h
  split at h
  ·rename_i k v q1 q2
   split at h
   ·rename_i m q3
    cases h
    simp only[db,gR,hk,hv,q3]
   ·cases h
  ·cases h
 |e::es,es',i+1,h=>by
  simp only[gR] at h
  split at h
  ·rename_i k v q1 q2
   split at h
   ·rename_i m q3
    cases h
    simp only[db,gR,q1,q2,oD hk hv i q3]
   ·cases h
  ·cases h
theorem lz{σ:bd}{k b c:Nat}{o:aa}(h:b≠k):aq σ [(k,c,o)] (256*b+510)=some (256*b+510):=by
 rw[jg (by unfold cP;omega)]
 have:Nat.beq (256*k+510) (256*b+510)=false:=by
  cases e:Nat.beq (256*k+510) (256*b+510) with
  |false=>rfl
  |true=>have:=Nat.eq_of_beq_eq_true e;omega
 simp only[BD,this]
theorem Kj{σ:bd}{k c:Nat}{o:aa}:aq σ [(k,c,o)] (256*k+510)=some c:=by
 rw[jg (by unfold cP;omega)]
 have:Nat.beq (256*k+510) (256*k+510)=true:=Nat.beq_refl _
 simp only[BD,this]
theorem eA{σ:bd}{k c n m:Nat}{o:aa}:aO (aq σ [(k,c,o)]) (tb k n m)=some (bc c n m):=by
 simp only[aO,Kj]
theorem Jq{l:List nV}{x:nV}(h:l.find? (fun y=>y.1==x.1)=none)(a:Int):lZ (l++[x]) a=if a=x.1 then x.2.2 else lZ l a:=by
 unfold lZ
 rw[List.find?_append]
 by_cases e:a=x.1
 ·subst e;rw[h,if_pos rfl];simp
 ·rw[if_neg e]
  have:(x.1==a)=false:=by simp;exact fun q=>e q.symm
  simp[List.find?_cons,this]
theorem El: ∀{l:List nV} {i:Nat} {x y:nV},(l.map (·.1)).Nodup->l[i]? =some y->y.1=x.1-> ∀a,lZ (l.set i x) a=if a=x.1 then x.2.2 else lZ l a
 |[],i,x,y,_,h,_,a=>by simp at h
 |b::l,0,x,y,hn,h,hk,a=>by
  simp only[List.getElem?_cons_zero,Option.some.injEq] at h
  subst h
  unfold lZ
  simp only[List.set_cons_zero,List.find?_cons]
  by_cases e:a=x.1
  ·subst e;simp
  ·have h1:(x.1==a)=false:=by simp;exact fun q=>e q.symm
   have h2:(b.1==a)=false:=by rw[hk];exact h1
   rw[h1,h2,if_neg e]
 |b::l,i+1,x,y,hn,h,hk,a=>by
  simp only[List.getElem?_cons_succ] at h
  simp only[List.map_cons,List.nodup_cons] at hn
  have ih:=El hn.2 h hk a
  have hbx:b.1≠x.1:=fun e=>hn.1 (by rw[e,←hk];exact List.mem_map.2 ⟨y,List.mem_of_getElem? h,rfl⟩)
  unfold lZ at ih ⊢
  simp only[List.set_cons_succ,List.find?_cons]
  by_cases e:(b.1==a)=true
  ·have:a=b.1:=by simpa using (beq_iff_eq.1 e).symm
   rw[e,if_neg (by rw[this];exact hbx)]
  ·have e':(b.1==a)=false:=by simpa using e
   rw[e'];exact ih
theorem wy: ∀{l:List Nat} {i v:Nat},l.Nodup->v ∉ l->(l.set i v).Nodup
 |[],_,_,h,_=>by simp
 |a::l,0,v,h,hv=>by
  simp only[List.set_cons_zero,List.nodup_cons] at*
  exact⟨fun q=>hv (List.mem_cons_of_mem _ q),h.2⟩
 |a::l,i+1,v,h,hv=>by
  simp only[List.set_cons_succ,List.nodup_cons] at*
  refine⟨fun q=>?_,wy h.2 fun q=>hv (List.mem_cons_of_mem _ q)⟩
  rcases List.mem_or_eq_of_mem_set q with q|q
  ·exact h.1 q
  ·exact hv (by rw[q];exact List.mem_cons_self ..)
theorem pD{α β:Type}(f:α->β){l:List α}{i:Nat}{x y:α}(h:l[i]? =some y)(hf:f x=f y):(l.set i x).map f=l.map f:=by
 rw[List.map_set]
 apply List.ext_getElem?
 intro j
 rw[List.getElem?_set]
 by_cases e:i=j
 ·subst e
  have hlt:i<l.length:=(List.getElem?_eq_some_iff.1 h).1
  have hg:l[i]=y:=by rw[List.getElem?_eq_getElem hlt] at h;exact Option.some.inj h
  simp[hlt,hg,hf]
 ·simp[e]
section
variable{z:T aa}{zn:Nat}
theorem Lf(hz:an z zn)(E:List eH)(hE:E.length<=4096):
 ai Try.prog (ah (ag Try.f65) 0) 2 34 (Ch E.length 0) [(0,nQ (bN E) E.length),(1, .map [] 0)] 2 z zn (Al.R (VV z zn E.length (bN E) (C1 z zn E E.length)).l):=by
 refine ak hD (cZ T.leaf) (α:=Nat × oh) 2 34 2 (fun t=>t.1<=E.length/\C1 z zn E t.1 t.2) (fun t=>Ch E.length t.1) (fun t=>[(0,nQ (bN E) E.length),(1,EP t.2.l)]) (fun t=>t.2.z) (fun t=>t.2.zn) (fun t=>E.length - t.1) _ (fun t hI=>?_) (0,⟨[],z,zn⟩) ⟨Nat.zero_le _,⟨hz,rfl,fun _ _=>rfl,fun x hx=>(by cases hx),(by simp),(by simp),fun a=>(by simp[lZ])⟩⟩
 obtain⟨j,s⟩:=t
 obtain⟨h1,h2⟩:=hI
 simp only at h1 h2 ⊢
 by_cases hj:j<E.length
 ·obtain⟨e,he⟩:=ej hj
  have hc:decide ((j:Int)<(E.length:Int))=true:=by simp;omega
  have htk:E.take (j+1)=E.take j++[e]:=by rw[List.take_add_one,he];rfl
  have hem:e∈E:=List.mem_of_getElem? he
  have hfr:=h2.bb
  rcases mR s.l e.from_ 0 0 with ⟨i,x,q1,q2,q3,_,q5⟩|⟨q1,q2⟩
  ·rw[Nat.sub_zero] at q5
   obtain⟨k1,k2,k3,k4,k5,k6⟩:=h2.row x q2
   have hx1:x.1=e.from_:=by simpa using List.find?_some q3
   have hzn: ∀y∈s.l,y.2.1≠s.zn:=fun y hy=>by have:=(h2.row y hy).2.1;omega
   have hkeep:xC (eY 0 s.l) i (zv e.from_):=⟨_,DE s.l i 0 x q5,by rw[hx1];simp only[az,Kl,Bool.and_self]⟩
   have hcells:bN x.2.2++eH.row e=bN (x.2.2++[e]):=by
    show _=((x.2.2++[e]).map eH.row).flatten
    rw[List.map_append,List.flatten_append];rfl
   have hmap: ∀o:aa,aE (aq [(0,0),(1,1)] [(s.zn,4,o)]) (aa.map (db i (zv e.from_) (tb s.zn (x.2.2.length+1) (x.2.2.length+1)) (eY 0 s.l)) s.l.length)=some (aa.map (db i (zv e.from_) (bc 4 (x.2.2.length+1) (x.2.2.length+1)) (eY 0 s.l)) s.l.length):=fun o=>by
    have:=oD (σ:=aq [(0,0),(1,1)] [(s.zn,4,o)]) (k:=zv e.from_) (k':=zv e.from_) rfl (eA (n:=x.2.2.length+1) (m:=x.2.2.length+1)) i (sD (L:=s.l) 0 fun y hy=>lz (hzn y hy))
    simp only[aE,this]
   have r1: ∀σ c,aE σ (aa.ay (aZ.mk (bN x.2.2++eH.row e) c 3 128 false false 0 true))=some (aa.ay (aZ.mk (bN x.2.2++eH.row e) c 3 128 false false 0 true)):=fun σ c=>by
    rw[hcells];exact cG (gz _)
   have hfd:=fH hfr x.2.1
   have hlen:=we x.2.2
   refine t100 (nb1 s.z s.zn E.length j s.l.length i x.2.1 x.2.2.length (SE x.2.2) (bN E) e (eY 0 s.l) (aj _ _ _ _ _ _ _ _ _) ⟨fun _=>?_,fun h=>(by rw[hc] at h;cases h)⟩)
   (repeat' first|(with_reducible first|exact rfl|exact True.intro|assumption|apply And.intro|exact hfr|exact hfd|exact hj|exact wi he _|exact q1|exact k3|exact hlen|exact hkeep|exact hmap _|exact r1 _ _|exact dU _ _|exact(by omega:x.2.2.length+1<=1048576)|exact Nat.le_succ _|exact Nat.le_refl _|exact Nat.lt_succ_self _|exact aG (by omega))|exact(rfl:Int.ofNat _=_)|exact(rfl:gH _ _=_)|exact hfr|exact hfd|exact hj|exact wi he _|exact q1|exact k3|exact hlen|exact hkeep|exact hmap _|exact r1 _ _|exact dU _ _|exact(by omega:x.2.2.length+1<=1048576)|exact Nat.le_succ _|exact Nat.le_refl _|exact Nat.lt_succ_self _|exact aG (by omega)|intro hq)
   refine⟨(j+1,⟨s.l.set i (e.from_,s.zn,x.2.2++[e]),(s.z.del x.2.1).set s.zn (.ay (SE (x.2.2++[e]))),s.zn+1⟩),rfl,?_,rfl,?_,rfl,⟨hj,?_⟩,by show E.length - (j+1)<E.length - j;omega⟩
   ·have:=DD s.l i 0 (e.from_,s.zn,x.2.2++[e]) x q5 hx1
    simp only[List.length_append,List.length_singleton] at this
    simp only[EP,←this,List.length_set]
   ·simp only[ez]
    have:x.2.2.length+1=(x.2.2++[e]).length:=by simp
    simp only[SE,←hcells,←this]
   ·simp only
    have hil:i<s.l.length:=(List.getElem?_eq_some_iff.1 q5).1
    refine⟨fT hfd (gz _),by show s.zn+1=zn+(j+1);rw[h2.zn];omega,fun k hk=>?_,fun y hy=>?_,?_,?_,fun a=>?_⟩
    ·show((s.z.del x.2.1).set s.zn _).get k=_
     rw[T.aK,if_neg (by have:=h2.zn;omega),T.fS,if_neg (by omega)]
     exact h2.fP k hk
    ·show zn<=y.2.1/\y.2.1<s.zn+1/\((s.z.del x.2.1).set s.zn _).get y.2.1=_/\_
     rcases List.mem_or_eq_of_mem_set hy with hy|rfl
     ·
      obtain⟨m1,m2,m3,m4,m5,m6⟩:=h2.row y hy
      have hne:y.2.1≠x.2.1:=by
       intro hyx
       obtain⟨p,hp⟩:=List.mem_iff_getElem?.1 (by assumption:y∈s.l.set i (e.from_,s.zn,x.2.2++[e]))
       rw[List.getElem?_set] at hp
       split at hp
       ·rename_i hip
        simp only[hil,if_true,Option.some.injEq] at hp
        rw[←hp] at hyx m2
        simp only at m2;omega
       ·rename_i hip
        have hn:=h2.OO
        have e1:(s.l.map (·.2.1))[p]? =some y.2.1:=by rw[List.getElem?_map,hp];rfl
        have e2:(s.l.map (·.2.1))[i]? =some x.2.1:=by rw[List.getElem?_map,q5];rfl
        rw[hyx] at e1
        have hlt1:=(List.getElem?_eq_some_iff.1 e1).1
        have hlt2:=(List.getElem?_eq_some_iff.1 e2).1
        exact hip ((List.getElem?_inj hlt2 hn).1 (e2.trans e1.symm))
      refine⟨m1,by omega,?_,m4,by omega,m6⟩
      rw[T.aK,if_neg (by omega),T.fS,if_neg hne]
      exact m3
     ·refine⟨by have:=h2.zn;show zn<=s.zn;omega,Nat.lt_succ_self _,by rw[T.aK,if_pos rfl],by simp,by simp;omega,fun e' he'=>?_⟩
      rcases List.mem_append.1 he' with q|q
      ·exact k6 e' q
      ·simp at q;subst q;exact hem
    ·show((s.l.set i (e.from_,s.zn,x.2.2++[e])).map (·.1)).Nodup
     rw[pD (·.1) q5 hx1.symm];exact h2.keys
    ·show((s.l.set i (e.from_,s.zn,x.2.2++[e])).map (·.2.1)).Nodup
     rw[List.map_set]
     refine wy h2.OO fun q=>?_
     obtain⟨y,y1,y2⟩:=List.mem_map.1 q
     exact hzn y y1 y2
    ·show lZ (s.l.set i (e.from_,s.zn,x.2.2++[e])) a=_
     rw[El h2.keys q5 hx1 a,htk,List.filter_append]
     have hax:lZ s.l e.from_=x.2.2:=by unfold lZ;rw[q3];rfl
     by_cases ea:a=e.from_
     ·subst ea
      rw[if_pos rfl,←h2.lZ,hax];simp
     ·have:(e.from_==a)=false:=by simp;exact fun q=>ea q.symm
      rw[if_neg ea,h2.lZ a];simp[List.filter_cons,this]
  ·have hzn: ∀y∈s.l,y.2.1≠s.zn:=fun y hy=>by have:=(h2.row y hy).2.1;omega
   have hmap: ∀o:aa,aE (aq [(0,0),(1,1)] [(s.zn,4,o)]) (aa.map (eY 0 s.l++[MapEntry.mk (zv e.from_) (tb s.zn 1 1) s.l.length]) (s.l.length+1))=some (aa.map (eY 0 s.l++[MapEntry.mk (zv e.from_) (bc 4 1 1) s.l.length]) (s.l.length+1)):=fun o=>by
    have h1:gR (aq [(0,0),(1,1)] [(s.zn,4,o)]) [MapEntry.mk (zv e.from_) (tb s.zn 1 1) s.l.length]=some [MapEntry.mk (zv e.from_) (bc 4 1 1) s.l.length]:=by
     have h0:=eA (σ:=[(0,0),(1,1)]) (k:=s.zn) (c:=4) (n:=1) (m:=1) (o:=o)
     have Pj:aO (aq [(0,0),(1,1)] [(s.zn,4,o)]) (zv e.from_)=some (zv e.from_):=rfl
     simp only[gR,h0,Pj]
    have:=tD (sD (L:=s.l) 0 fun y hy=>lz (σ:=[(0,0),(1,1)]) (c:=4) (o:=o) (hzn y hy)) h1
    simp only[aE,this]
   refine t100 (Zc s.z s.zn E.length j s.l.length (bN E) e (eY 0 s.l) (aj _ _ _ _ _ _ _ _ _) ⟨fun _=>?_,fun h=>(by rw[hc] at h;cases h)⟩)
   (repeat' first|(with_reducible first|exact rfl|exact True.intro|assumption|apply And.intro|exact hfr|exact hj|exact wi he _|exact q1|exact hmap _|exact dU _ _|exact Nat.le_succ _|exact Nat.le_refl _|exact Nat.lt_succ_self _|exact aG (by omega))|exact(rfl:Int.ofNat _=_)|exact(rfl:gH _ _=_)|exact hfr|exact hj|exact wi he _|exact q1|exact hmap _|exact dU _ _|exact Nat.le_succ _|exact Nat.le_refl _|exact Nat.lt_succ_self _|exact aG (by omega)|intro hq)
   refine⟨(j+1,⟨s.l++[(e.from_,s.zn,[e])],s.z.set s.zn (.ay (SE [e])),s.zn+1⟩),rfl,?_,rfl,rfl,rfl,⟨hj,?_⟩,by show E.length - (j+1)<E.length - j;omega⟩
   ·simp only[EP,Ab,List.length_append,List.length_singleton,Nat.zero_add]
   ·simp only
    refine⟨fT hfr (gz _),by show s.zn+1=zn+(j+1);rw[h2.zn];omega,fun k hk=>?_,fun y hy=>?_,?_,?_,fun a=>?_⟩
    ·show(s.z.set s.zn _).get k=_
     rw[T.aK,if_neg (by have:=h2.zn;omega)]
     exact h2.fP k hk
    ·show zn<=y.2.1/\y.2.1<s.zn+1/\(s.z.set s.zn _).get y.2.1=_/\_
     rcases List.mem_append.1 hy with hy|hy
     ·obtain⟨m1,m2,m3,m4,m5,m6⟩:=h2.row y hy
      refine⟨m1,by omega,?_,m4,by omega,m6⟩
      rw[T.aK,if_neg (by omega)]
      exact m3
     ·simp only[List.mem_singleton] at hy
      subst hy
      refine⟨by have:=h2.zn;show zn<=s.zn;omega,Nat.lt_succ_self _,by rw[T.aK,if_pos rfl],by simp,by simp,fun e' he'=>?_⟩
      simp at he';subst he';exact hem
    ·show((s.l++[(e.from_,s.zn,[e])]).map (·.1)).Nodup
     rw[List.map_append,List.nodup_append]
     refine⟨h2.keys,by simp,fun a ha b hb=>?_⟩
     simp only[List.map_cons,List.map_nil,List.mem_singleton] at hb
     subst hb
     obtain⟨y,y1,y2⟩:=List.mem_map.1 ha
     intro hab
     have:=List.find?_eq_none.1 q2 y y1
     rw[y2,hab] at this;simp at this
    ·show((s.l++[(e.from_,s.zn,[e])]).map (·.2.1)).Nodup
     rw[List.map_append,List.nodup_append]
     refine⟨h2.OO,by simp,fun a ha b hb=>?_⟩
     simp only[List.map_cons,List.map_nil,List.mem_singleton] at hb
     subst hb
     obtain⟨y,y1,y2⟩:=List.mem_map.1 ha
     intro hab
     exact hzn y y1 (y2.trans hab)
    ·show lZ (s.l++[(e.from_,s.zn,[e])]) a=_
     rw[Jq q2 a,htk,List.filter_append]
     have hax:lZ s.l e.from_=[]:=by unfold lZ;rw[q2];rfl
     by_cases ea:a=e.from_
     ·subst ea
      rw[if_pos rfl,←h2.lZ,hax];simp
     ·have:(e.from_==a)=false:=by simp;exact fun q=>ea q.symm
      rw[if_neg ea,h2.lZ a];simp[List.filter_cons,this]
 ·have hje:j=E.length:=by omega
  have hc:decide ((j:Int)<(E.length:Int))=false:=by simp;omega
  have hfr:=h2.bb
  refine t100 (Zc s.z s.zn E.length j s.l.length (bN E) ⟨0,0,0⟩ (eY 0 s.l) (aj _ _ _ _ _ _ _ _ _) ⟨fun h=>(by rw[hc] at h;cases h),fun _=>?_⟩)
  (repeat' first|(with_reducible first|exact rfl|exact True.intro|assumption|apply And.intro|exact hfr|exact dU _ _|exact cL _ _ _)|exact(rfl:Int.ofNat _=_)|exact(rfl:gH _ _=_)|exact hfr|exact dU _ _|exact cL _ _ _|intro hq)
  subst hje
  exact yT (k:=fun _=>dN) s h2 rfl
theorem WU(hz:an z zn)(E:List eH)(hE:E.length<=4096):
 aV Try.prog z zn 65 [bc 0 E.length E.length,F0] [(0,nQ (bN E) E.length)] 1 2 (C1 z zn E E.length) (fun _=>mp 1) (fun s=>[(0,nQ (bN E) E.length),(1,EP s.l)]) (fun s=>s.z) (fun s=>s.zn):=by
 have hK:=Lf hz E hE
 refine dJ (cZ T.leaf) (fn:=Try.f65) (by kernel_rfl) (by kernel_rfl) hz ⟨by decide,by decide⟩ (fun s hs=>⟨rfl,by show zn<=s.zn;rw[hs.zn];omega,hs.bb⟩) (N:=100) ?_
 refine nb z zn E.length (bN E) (C1 z zn E E.length) _ ?_
 (repeat' first|(with_reducible first|exact rfl|exact True.intro|assumption|apply And.intro|exact hz|exact hK|exact C1.bb (by with_reducible assumption)|exact dU _ _|exact cL _ _ _)|exact(rfl:Int.ofNat _=_)|exact(rfl:gH _ _=_)|exact hz|exact hK|exact C1.bb (by with_reducible assumption)|exact dU _ _|exact cL _ _ _|intro hq)
 all_goals exact q2 _ hq rfl rfl rfl rfl rfl
end
def EE(E:List eH):bW:=fun u v w=> ∃e∈E,e.from_=(u:Int)/\e.ax=(v:Int)/\e.wt=(w:Int)
abbrev Cu(l:List cT)(n:Nat):aZ:=⟨wW l,n*1,1,3,true,true,0,true⟩
def k9(b n:Nat)(i:Nat):List Value:=(List.range i).map fun j=>tb (b+j) n n
def gJ(b n i:Nat):List Value:=k9 b n i++List.replicate (n - i) aw
theorem lq(b n i:Nat):(k9 b n i).length=i:=by simp[k9]
theorem oZ(b n i:Nat):k9 b n (i+1)=k9 b n i++[tb (b+i) n n]:=by simp[k9,List.range_succ]
theorem ID{b n i:Nat}(h:i<n):(gJ b n n)[i]? =some (tb (b+i) n n):=by
 unfold gJ k9
 rw[List.getElem?_append_left (by simpa using h),List.getElem?_map,List.getElem?_range h];rfl
theorem L6{b n i:Nat}(h:i<=n):(gJ b n i).length=n:=by simp[gJ,k9];omega
theorem FA{b n i:Nat}(h:i<n):gJ b n i=k9 b n i++aw::List.replicate (n - (i+1)) aw:=by
 unfold gJ
 obtain⟨m,hm⟩: ∃m,n - i=m+1:=⟨n - i - 1,by omega⟩
 rw[hm,show n - (i+1)=m by omega];rfl
theorem IC{b n i:Nat}:gJ b n (i+1)=k9 b n i++tb (b+i) n n::List.replicate (n - (i+1)) aw:=by
 unfold gJ
 rw[oZ,List.append_assoc];rfl
theorem mE{σ:Nat->Option Nat}: ∀{a a' b b':List Value},bh σ a=some a'->bh σ b=some b'->bh σ (a++b)=some (a'++b')
 |[],a',b,b',h1,h2=>by simp only[bh,Option.some.injEq] at h1;subst h1;exact h2
 |v::a,a',b,b',h1,h2=>by
  simp only[bh] at h1
  split at h1
  ·rename_i k q1
   split at h1
   ·rename_i m q3
    cases h1
    simp only[List.cons_append,bh,q1,mE q3 h2]
   ·cases h1
  ·cases h1
theorem pq{σ:Nat->Option Nat}{b n:Nat}: ∀{i:Nat},(∀j,j<i->σ (256*(b+j)+510)=some (256*(b+j)+510))->bh σ (k9 b n i)=some (k9 b n i)
 |0,_=>rfl
 |i+1,h=>by
  rw[oZ]
  refine mE (pq fun j hj=>h j (by omega)) ?_
  have:=h i (Nat.lt_succ_self i)
  simp only[bh,aO,this]
theorem oJ(m:Nat):bH (List.replicate m aw)=true:=by
 rw[c7];intro v hv;rw[List.eq_of_mem_replicate hv];rfl
theorem Ku{σ:Nat->Option Nat}{b n i:Nat}(h: ∀j,j<i->σ (256*(b+j)+510)=some (256*(b+j)+510)):bh σ (gJ b n i)=some (gJ b n i):=mE (pq h) (fF (oJ _))
theorem Da(σ:bd)(k:Nat):sig σ (256*k+510)=some (256*k+510):=iX (by unfold cP;omega)
theorem lG(σ:bd)(b n i c:Nat):aE (aq σ []) (aa.ay (aZ.mk (gJ b n i) c 1 117 true true 0 true))=some (aa.ay (aZ.mk (gJ b n i) c 1 117 true true 0 true)):=by
 have:=Ku (σ:=aq σ []) (b:=b) (n:=n) (i:=i) fun j _=>Da σ _
 simp only[aE,this]
structure Bz(b n:Nat)(L:List nV)(z1:T aa)(i:Nat)(zz:T aa):Prop where
 bb:an zz (b+i)
 fP: ∀k,k<b->zz.get k=z1.get k
 row: ∀j,j<i-> ∃l,DPφ L n j l/\zz.get (b+j)=some (.ay (Cu l n))
structure xF(z:T aa)(zn n:Nat)(E:bW)(s:ek):Prop where
 bb:an s.z s.zn
 le:zn<=s.zn
 fP: ∀k,k<zn->s.z.get k=z.get k
 row: ∃b,zn<=b/\b+n<=s.zn/\s.cs=gJ b n n/\ ∀i,i<n-> ∃l,s.z.get (b+i)=some (.ay (Cu l n))/\l.length=n/\ ∀j,j<n->mg E i j (fy l j).len
section
variable{z:T aa}{zn:Nat}
theorem RG{n:Nat}{E:List eH}(hE:Gf n E){s:oh}(h:C1 z zn E E.length s){zz:T aa}(hzz: ∀k,k<s.zn->zz.get k=s.z.get k)(zm:Nat):U1 zz zm n s.l:=by
 refine⟨fun x hx=>?_,fun x hx=>?_⟩
 ·obtain⟨k1,k2,k3,_⟩:=h.row x hx
  exact⟨_,(hzz _ k2).trans k3,rfl⟩
 ·obtain⟨k1,k2,k3,k4,k5,k6⟩:=h.row x hx
  refine⟨Nat.le_trans k5 hE.len,fun e he=>?_⟩
  obtain⟨m1,m2,m3,m4,m5,m6⟩:=hE.ok e (k6 e he)
  exact⟨m3,m4,m5,m6⟩
theorem OU{E:List eH}{s:oh}(h:C1 z zn E E.length s):GE s.l=EE E:=by
 funext u v w
 apply propext
 unfold GE EE
 rw[h.lZ,List.take_of_length_le (Nat.le_refl _)]
 constructor
 ·rintro⟨e,he,h1,h2⟩
  rw[List.mem_filter] at he
  exact⟨e,he.1,by simpa using he.2,h1,h2⟩
 ·rintro⟨e,he,h0,h1,h2⟩
  exact⟨e,List.mem_filter.2 ⟨he,by simpa using h0⟩,h1,h2⟩
theorem Lv(n:Nat)(hn:n<=64)(E:List eH)(hE:Gf n E)(s:oh)(hs:C1 z zn E E.length s):
 ai Try.prog (ah (ag Try.f60) 0) 3 35 (Ay n 0) [(1,EP s.l),(2,th (rep n [aw]) n)] 3 s.z s.zn (Al.R (Su n s.l.length (eY 0 s.l) (rep n [aw]) s.z s.zn (fun r=> ∃zz,Bz s.zn n s.l s.z n zz/\r=⟨gJ s.zn n n,zz,s.zn+n⟩)).l):=by
 have e0:rep n [aw]=gJ s.zn n 0:=by rw[nw n [aw] rfl];simp[gJ,k9]
 rw[e0]
 refine ak hD (cZ T.leaf) (α:=Nat × T aa) 3 35 3 (fun t=>t.1<=n/\Bz s.zn n s.l s.z t.1 t.2) (fun t=>Ay n t.1) (fun t=>[(1,EP s.l),(2,th (gJ s.zn n t.1) n)]) (fun t=>t.2) (fun t=>s.zn+t.1) (fun t=>n - t.1) _ (fun t hI=>?_) (0,s.z) ⟨Nat.zero_le _,hs.bb,fun _ _=>rfl,fun j hj=>by omega⟩
 obtain⟨i,zz⟩:=t
 obtain⟨h1,h2⟩:=hI
 simp only at h1 h2 ⊢
 have hfr:=h2.bb
 by_cases hi:i<n
 ·have hc:decide ((i:Int)<(n:Int))=true:=by simp;omega
  have hL:=RG hE hs (zz:=zz) h2.fP (s.zn+i)
  have hlab:=I9 hfr s.l n i hL hn hi
  have hlen: ∀l,DPφ s.l n i l->A1 zz (s.zn+i) 66 [bc 0 n n] [(0,j6 (aX l) n)] 1 2 (bc 1 n n) [(1,Fh (vN (aX l)) n)]:=fun l hl=>PQ hfr l n hl.1 (by omega)
  have o1:=py (cs:=gJ s.zn n i) (i:=i) (by rw[L6 h1];exact hi) (bc 4 n n)
  have e1:(gJ s.zn n i).set i (bc 4 n n)=k9 s.zn n i++bc 4 n n::List.replicate (n - (i+1)) aw:=by
   rw[FA hi,List.set_append_right _ _ (by rw[lq];exact Nat.le_refl _),lq,Nat.sub_self,List.set_cons_zero]
  rw[e1] at o1
  have l1:(k9 s.zn n i++bc 4 n n::List.replicate (n - (i+1)) aw).length<=n*1:=by simp[lq];omega
  have r1: ∀(σ:Nat->Option Nat) l c,aE σ (aa.ay (aZ.mk (vN (aX l)) c 1 3 true true 0 true))=some (aa.ay (aZ.mk (vN (aX l)) c 1 3 true true 0 true)):=fun σ l c=>by
   rw[nH];exact gd (lK (·.len) l) c
  have r2: ∀o,aE (aq [(1,1),(2,2)] [(s.zn+i,4,o)]) (aa.map (eY 0 s.l) s.l.length)=some (aa.map (eY 0 s.l) s.l.length):=fun o=>GZ (fun x hx=>lz (by have:=(hs.row x hx).2.1;omega)) _
  have r3: ∀o c,aE (aq [(1,1),(2,2)] [(s.zn+i,4,o)]) (aa.ay (aZ.mk (k9 s.zn n i++tb (s.zn+i) n n::List.replicate (n - (i+1)) aw) c 1 117 true true 0 true))=some (aa.ay (aZ.mk (k9 s.zn n i++bc 4 n n::List.replicate (n - (i+1)) aw) c 1 117 true true 0 true)):=fun o c=>by
   have q1:=pq (σ:=aq [(1,1),(2,2)] [(s.zn+i,4,o)]) (b:=s.zn) (n:=n) (i:=i) fun j hj=>lz (by omega)
   have q2:bh (aq [(1,1),(2,2)] [(s.zn+i,4,o)]) (tb (s.zn+i) n n::List.replicate (n - (i+1)) aw)=some (bc 4 n n::List.replicate (n - (i+1)) aw):=by
    have:=eA (σ:=[(1,1),(2,2)]) (k:=s.zn+i) (c:=4) (n:=n) (m:=n) (o:=o)
    simp only[bh,this,fF (oJ _)]
   simp only[aE,mE q1 q2]
  have nx: ∀l,DPφ s.l n i l->aj (fun t:Nat × T aa=>t.1<=n/\Bz s.zn n s.l s.z t.1 t.2) (fun t=>Ay n t.1) (fun t=>[(1,EP s.l),(2,th (gJ s.zn n t.1) n)]) 3 (fun t=>t.2) (fun t=>s.zn+t.1) (fun t=>n - t.1) (Al.R (Su n s.l.length (eY 0 s.l) (gJ s.zn n 0) s.z s.zn (fun r=> ∃zz,Bz s.zn n s.l s.z n zz/\r=⟨gJ s.zn n n,zz,s.zn+n⟩)).l) (i,zz) .normal (Ay n (i+1)) [(1,EP s.l),(2,th (k9 s.zn n i++tb (s.zn+i) n n::List.replicate (n - (i+1)) aw) n)] 3 (ez zz [(s.zn+i,4, .ay (aZ.mk (vN (aX l)) (n*1) 1 3 true true 0 true))]) (s.zn+i+1):=fun l hl=>by
   refine⟨(i+1,zz.set (s.zn+i) (.ay (Cu l n))),rfl,by simp only[IC],rfl,by simp only[ez,nH],by simp only;omega,⟨hi,?_⟩,by show n - (i+1)<n - i;omega⟩
   show Bz s.zn n s.l s.z (i+1) (zz.set (s.zn+i) (.ay (Cu l n)))
   refine⟨?_,fun k hk=>?_,fun j hj=>?_⟩
   ·have:=fT hfr (k:=Cu l n) (lK (·.len) l)
    exact this
   ·rw[T.aK,if_neg (by omega)];exact h2.fP k hk
   ·by_cases e:j=i
    ·subst e;exact⟨l,hl,by rw[T.aK,if_pos rfl]⟩
    ·obtain⟨l',k1,k2⟩:=h2.row j (by omega)
     exact⟨l',k1,by rw[T.aK,if_neg (by omega)];exact k2⟩
  refine t100 (Zr zz (s.zn+i) n i s.l.length (eY 0 s.l) (k9 s.zn n i) (List.replicate (n - (i+1)) aw) (gJ s.zn n i) vN (DPφ s.l n i) (aj _ _ _ _ _ _ _ _ _) ⟨fun _=>?_,fun h=>(by rw[hc] at h;cases h)⟩)
  (repeat' first|(with_reducible first|exact rfl|exact True.intro|assumption|apply And.intro|exact hfr|exact hi|exact hlab|exact hlen _ (by with_reducible assumption)|exact o1|exact l1|exact r1 _ _ _|exact r2 _|exact r3 _ _|exact jh _ _ _|exact dz _ _|exact Nat.le_succ _|exact Nat.le_refl _|exact Nat.lt_succ_self _|exact aG (by omega))|exact(rfl:Int.ofNat _=_)|exact(rfl:gH _ _=_)|exact hfr|exact hi|exact hlab|exact hlen _ (by with_reducible assumption)|exact o1|exact l1|exact r1 _ _ _|exact r2 _|exact r3 _ _|exact jh _ _ _|exact dz _ _|exact Nat.le_succ _|exact Nat.le_refl _|exact Nat.lt_succ_self _|exact aG (by omega)|intro hq)
  all_goals exact nx _ (by with_reducible assumption)
 ·have hie:i=n:=by omega
  subst hie
  have hc:decide ((i:Int)<(i:Int))=false:=by simp
  refine t100 (Zr zz (s.zn+i) i i s.l.length (eY 0 s.l) [] [] (gJ s.zn i i) vN (fun _=>False) (aj _ _ _ _ _ _ _ _ _) ⟨fun h=>(by rw[hc] at h;cases h),fun _=>?_⟩)
  (repeat' first|(with_reducible first|exact rfl|exact True.intro|assumption|apply And.intro|exact hfr|exact lG _ _ _ _ _|exact cL _ _ _)|exact(rfl:Int.ofNat _=_)|exact(rfl:gH _ _=_)|exact hfr|exact lG _ _ _ _ _|exact cL _ _ _|intro hq)
  exact yT (k:=fun _=>dN) ⟨gJ s.zn i i,zz,s.zn+i⟩ ⟨zz,h2,rfl⟩ rfl
theorem SZ(hz:an z zn)(n:Nat)(hn:n<=64)(E:List eH)(hE:Gf n E):
 aV Try.prog z zn 60 [iv n,bc 0 E.length E.length] [(0,nQ (bN E) E.length)] 1 2 (xF z zn n (EE E)) (fun _=> .tuple ⟨[bc 1 n n,I 0]⟩) (fun s=>[(1,th s.cs n)]) (fun s=>s.z) (fun s=>s.zn):=by
 have hck:=Jc hz n hn E hE
 have hnb:=WU hz E hE.len
 have hal: ∀s,C1 z zn E E.length s->_:=fun s hs=>Lv n hn E hE s hs
 have hp:bH (rep n [aw])=true:=by rw[nw n [aw] rfl];exact oJ n
 have r0: ∀σ c,aE σ (aa.ay (aZ.mk (rep n [aw]) c 1 117 true true 0 true))=some (aa.ay (aZ.mk (rep n [aw]) c 1 117 true true 0 true)):=fun σ c=>cG hp
 have fin: ∀s,C1 z zn E E.length s-> ∀r:ek,(∃zz,Bz s.zn n s.l s.z n zz/\r=⟨gJ s.zn n n,zz,s.zn+n⟩)->xF z zn n (EE E) r:=fun s hs r ⟨zz,h,e⟩=>by
  subst e
  have hle:=hs.zn
  refine⟨h.bb,by show zn<=s.zn+n;omega,fun k hk=>(h.fP k (by omega)).trans (hs.fP k hk),s.zn,by omega,Nat.le_refl _,rfl,fun i hi=>?_⟩
  obtain⟨l,hl,hg⟩:=h.row i hi
  refine⟨l,hg,hl.1,fun j hj=>?_⟩
  rw[←OU hs];exact hl.2 j hj
 have rcs: ∀σ s,C1 z zn E E.length s-> ∀r:ek,(∃zz,Bz s.zn n s.l s.z n zz/\r=⟨gJ s.zn n n,zz,s.zn+n⟩)-> ∀c,aE (aq σ []) (aa.ay (aZ.mk r.cs c 1 117 true true 0 true))=some (aa.ay (aZ.mk r.cs c 1 117 true true 0 true)):=fun σ s hs r ⟨zz,h,e⟩ c=>by
  subst e;exact lG _ _ _ _ _
 refine dJ (cZ T.leaf) (fn:=Try.f60) (by kernel_rfl) (by kernel_rfl) hz ⟨by decide,by decide⟩ (fun s hs=>⟨rfl,hs.le,hs.bb⟩) (N:=100) ?_
 refine al z zn n E.length (bN E) (rep n [aw]) (C1 z zn E E.length) (fun s r=> ∃zz,Bz s.zn n s.l s.z n zz/\r=⟨gJ s.zn n n,zz,s.zn+n⟩) _ ?_
 (repeat' first|(with_reducible first|exact rfl|exact True.intro|assumption|apply And.intro|exact hz|exact hck|exact hnb|exact hal _ (by with_reducible assumption)|exact C1.bb (by with_reducible assumption)|exact xF.bb (fin _ (by with_reducible assumption) _ (by with_reducible assumption))|exact rcs _ _ (by with_reducible assumption) _ (by with_reducible assumption) _|exact r0 _ _|exact dU _ _|exact jh _ _ _|exact cL _ _ _|exact(by omega:n<=1048576))|exact(rfl:Int.ofNat _=_)|exact(rfl:gH _ _=_)|exact hz|exact hck|exact hnb|exact hal _ (by with_reducible assumption)|exact C1.bb (by with_reducible assumption)|exact xF.bb (fin _ (by with_reducible assumption) _ (by with_reducible assumption))|exact rcs _ _ (by with_reducible assumption) _ (by with_reducible assumption) _|exact r0 _ _|exact dU _ _|exact jh _ _ _|exact cL _ _ _|exact(by omega:n<=1048576)|intro hq)
 all_goals exact q2 _ (fin _ (by with_reducible assumption) _ hq) rfl rfl rfl rfl rfl
end
structure nk(n:Nat)(l:List ae):Prop where
 ok: ∀p∈l,0<=p.from_/\p.from_<n/\0<=p.ax/\p.ax<n/\p.from_≠p.ax/\1<=p.aI/\p.aI<=14400
def fE(b:Bool)(p:ae):Bool:= !b||p.sf
structure JK(n:Nat)(l:List ae)(b:Bool)(j:Nat)(B:List gn):Prop where
 keys:(B.map fun x=>(x.1,x.2.1)).Nodup
 sub: ∀x∈B,∃p∈l.take j,fE b p=true/\p.from_=x.1/\p.ax=x.2.1/\p.aI=x.2.2
 all: ∀p∈l.take j,fE b p=true-> ∃x∈B,x.1=p.from_/\x.2.1=p.ax/\x.2.2<=p.aI
theorem pN(B:List gn)(f t:Int): ∀i j,(∃p x,aD Try.prog 113 (.agg ⟨[zv f,zv t,F0]⟩) (gK j B) i=some (some (p,zv x.2.2))/\x∈B/\x.1=f/\x.2.1=t/\i<=p/\B[p - i]? =some x)\/(aD Try.prog 113 (.agg ⟨[zv f,zv t,F0]⟩) (gK j B) i=some none/\ ∀x∈B,¬(x.1=f/\x.2.1=t)):=by
 induction B with
 |nil=>intro i j;exact .inr ⟨rfl,fun x hx=>by cases hx⟩
 |cons y l ih=>
  intro i j
  simp only[gK,aD,show az (Ef y)=true from rfl,It]
  by_cases h:f=y.1/\t=y.2.1
  ·obtain⟨h1,h2⟩:=h
   refine .inl ⟨i,y,by simp[h1,h2],List.mem_cons_self ..,h1.symm,h2.symm,Nat.le_refl _,by simp⟩
  ·have hd:(decide (f=y.1) && (decide (t=y.2.1) && (false==false)))=false:=by
    by_cases h1:f=y.1
    ·have h2: ¬t=y.2.1:=fun e=>h ⟨h1,e⟩
     simp[h2]
    ·simp[h1]
   rw[hd]
   rcases ih (i+1) (j+1) with ⟨p,x,q1,q2,q3,q4,q5,q6⟩|⟨q1,q2⟩
   ·refine .inl ⟨p,x,q1,List.mem_cons_of_mem _ q2,q3,q4,by omega,?_⟩
    rw[show p - i=(p - (i+1))+1 by omega,List.getElem?_cons_succ];exact q6
   ·refine .inr ⟨q1,fun x hx=>?_⟩
    rcases List.mem_cons.1 hx with rfl|hx
    ·exact fun⟨e1,e2⟩=>h ⟨e1.symm,e2.symm⟩
    ·exact q2 x hx
theorem Nt(B:List gn)(f t:Int):aD Try.prog 113 (.agg ⟨[zv f,zv t,F0]⟩) (gK 0 B) 0≠none:=by
 rcases pN B f t 0 0 with ⟨p,x,q,_⟩|⟨q,_⟩<;>rw[q]<;>simp
theorem Nu(B:List gn)(f t:Int)(p:Nat × Value)(h:aD Try.prog 113 (.agg ⟨[zv f,zv t,F0]⟩) (gK 0 B) 0=some (some p)): ∃x:Nat × Int,p=(x.1,zv x.2):=by
 rcases pN B f t 0 0 with ⟨q,x,e,_⟩|⟨e,_⟩
 ·rw[e] at h;cases h;exact⟨(q,x.2.2),rfl⟩
 ·rw[e] at h;cases h
theorem yG{B:List gn}{f t:Int}{y:Nat × Int}(h:aD Try.prog 113 (.agg ⟨[zv f,zv t,F0]⟩) (gK 0 B) 0=some (some (y.1,zv y.2))):B[y.1]? =some (f,t,y.2):=by
 rcases pN B f t 0 0 with ⟨q,x,e,h1,h2,h3,_,h5⟩|⟨e,_⟩
 ·rw[e] at h
  simp only[Option.some.injEq,Prod.mk.injEq,Value.int.injEq,true_and] at h
  rw[Nat.sub_zero] at h5
  rw[←h.1,h5,←h.2,←h2,←h3]
 ·rw[e] at h;cases h
theorem Bc: ∀(l:List gn)(i:Nat)(x:gn),gK i (l++[x])=gK i l++[{key:=Ef x,val:=zv x.2.2,born:=i+l.length}]
 |[],i,x=>rfl
 |a::l,i,x=>by
  simp only[List.cons_append,gK,Bc l (i+1) x,List.length_cons]
  rw[show i+1+l.length=i+(l.length+1) by omega]
theorem yH: ∀(l:List gn)(i j:Nat)(x y:gn),l[i]? =some y->db i (Ef x) (zv x.2.2) (gK j l)=gK j (l.set i x)
 |[],i,j,x,y,h=>by simp at h
 |a::l,0,j,x,y,h=>rfl
 |a::l,i+1,j,x,y,h=>by
  simp only[List.getElem?_cons_succ] at h
  simp only[gK,db,List.set_cons_succ,yH l i (j+1) x y h]
theorem Eg: ∀(l:List gn)(i j:Nat)(x:gn),l[i]? =some x->nth (gK j l) i=some {key:=Ef x,val:=zv x.2.2,born:=j+i}
 |[],i,j,x,h=>by simp at h
 |a::l,0,j,x,h=>by
  simp only[List.getElem?_cons_zero,Option.some.injEq] at h
  subst h;rfl
 |a::l,i+1,j,x,h=>by
  simp only[List.getElem?_cons_succ] at h
  simp only[gK,nth,Eg l i (j+1) x h]
  rw[show j+1+i=j+(i+1) by omega]
theorem Eh: ∀(l:List gn)(j:Nat),(gK j l).length=l.length
 |[],_=>rfl
 |a::l,j=>by simp[gK,Eh l (j+1)]
theorem yI: ∀{l:List gn} {j:Nat} {e:MapEntry},e∈gK j l-> ∃i x,l[i]? =some x/\e={key:=Ef x,val:=zv x.2.2,born:=j+i}
 |[],_,_,h=>by simp[gK] at h
 |a::l,j,e,h=>by
  rcases List.mem_cons.1 h with rfl|h
  ·exact⟨0,a,rfl,rfl⟩
  ·obtain⟨i,x,h1,h2⟩:=yI h
   exact⟨i+1,x,h1,by rw[h2,show j+1+i=j+(i+1) by omega]⟩
theorem PZ{l:List gn}{j i:Nat}{x:gn}(h:l[i]? =some x):{key:=Ef x,val:=zv x.2.2,born:=j+i}∈gK j l:=by
 induction l generalizing j i with
 |nil=>simp at h
 |cons a l ih=>
  cases i with
  |zero=>simp at h;subst h;exact List.mem_cons_self ..
  |succ i=>
   simp only[List.getElem?_cons_succ] at h
   have:=ih (j:=j+1) h
   rw[show j+1+i=j+(i+1) by omega] at this
   exact List.mem_cons_of_mem _ this
theorem rJ: ∀{l:List gn} {j i:Nat} {x:gn},l[i]? =some x->fI (j+i) (gK j l)=some {key:=Ef x,val:=zv x.2.2,born:=j+i}
 |[],j,i,x,h=>by simp at h
 |a::l,j,0,x,h=>by
  simp only[List.getElem?_cons_zero,Option.some.injEq] at h
  subst h
  have:Nat.beq j (j+0)=true:=Nat.beq_refl _
  simp only[gK,fI,this];rfl
 |a::l,j,i+1,x,h=>by
  simp only[List.getElem?_cons_succ] at h
  have:Nat.beq j (j+(i+1))=false:=by
   cases e:Nat.beq j (j+(i+1)) with
   |false=>rfl
   |true=>have:=Nat.eq_of_beq_eq_true e;omega
  have ih:=rJ (j:=j+1) h
  rw[show j+1+i=j+(i+1) by omega] at ih
  simp only[gK,fI,this,ih]
theorem sE{σ:Nat->Option Nat}: ∀{l:List gn} (j:Nat),gR σ (gK j l)=some (gK j l)
 |[],_=>rfl
 |x::l,j=>by
  have h1:aO σ (Ef x)=some (Ef x):=rfl
  have h2:aO σ (zv x.2.2)=some (zv x.2.2):=rfl
  simp only[gK,gR,h1,h2,sE (l:=l) (j+1)]
theorem kv{σ:Nat->Option Nat}(l:List gn)(c:Nat):aE σ (aa.map (gK 0 l) c)=some (aa.map (gK 0 l) c):=by
 simp only[aE,sE 0]
theorem Dh{σ:Nat->Option Nat}(l:List gn)(i:Nat)(f t v:Int)(c:Nat):aE σ (aa.map (db i (.agg ⟨[zv f,zv t,F0]⟩) (zv v) (gK 0 l)) c)=some (aa.map (db i (.agg ⟨[zv f,zv t,F0]⟩) (zv v) (gK 0 l)) c):=by
 have:=oD (σ:=σ) (k:= .agg ⟨[zv f,zv t,F0]⟩) (k':= .agg ⟨[zv f,zv t,F0]⟩) (v:=zv v) (v':=zv v) rfl rfl i (sE (l:=l) 0)
 simp only[aE,this]
theorem Di{σ:Nat->Option Nat}(l:List gn)(f t v:Int)(b c:Nat):aE σ (aa.map (gK 0 l++[MapEntry.mk (.agg ⟨[zv f,zv t,F0]⟩) (zv v) b]) c)=some (aa.map (gK 0 l++[MapEntry.mk (.agg ⟨[zv f,zv t,F0]⟩) (zv v) b]) c):=by
 have h1:aO σ (.agg ⟨[zv f,zv t,F0]⟩)=some (.agg ⟨[zv f,zv t,F0]⟩):=rfl
 have h2:aO σ (zv v)=some (zv v):=rfl
 have:=tD (sE (σ:=σ) (l:=l) 0) (b:=[MapEntry.mk (.agg ⟨[zv f,zv t,F0]⟩) (zv v) b]) (b':=[MapEntry.mk (.agg ⟨[zv f,zv t,F0]⟩) (zv v) b]) (by simp only[gR,h1,h2])
 simp only[aE,this]
theorem DQ{B:List gn}{i:Nat}{f t v:Int}(h:B[i]? =some (f,t,v)):xC (gK 0 B) i (.agg ⟨[zv f,zv t,F0]⟩):=by
 refine⟨_,Eg B i 0 _ h,?_⟩
 show(az (Ef (f,t,v)) && Instr.sameBits 10000 (Ef (f,t,v)) (.agg ⟨[zv f,zv t,F0]⟩))=true
 simp[az,bH,Instr.sameBits]
theorem Ee{n:Nat}{l:List ae}{b:Bool}{j:Nat}{B:List gn}(h:JK n l b j B){x:ae}(hx:l[j]? =some x)(hs:fE b x=true-> ∃y∈B,y.1=x.from_/\y.2.1=x.ax/\y.2.2<=x.aI):JK n l b (j+1) B:=by
 have htk:l.take (j+1)=l.take j++[x]:=by rw[List.take_add_one,hx];rfl
 refine⟨h.keys,fun y hy=>?_,fun p hp hu=>?_⟩
 ·obtain⟨p,q1,q2⟩:=h.sub y hy
  exact⟨p,by rw[htk];exact List.mem_append_left _ q1,q2⟩
 ·rw[htk] at hp
  rcases List.mem_append.1 hp with q|q
  ·exact h.all p q hu
  ·simp at q;subst q;exact hs hu
theorem PY{n:Nat}{l:List ae}{b:Bool}{j:Nat}{B:List gn}(h:JK n l b j B){x:ae}(hx:l[j]? =some x)(hu:fE b x=true)(hn: ∀y∈B,¬(y.1=x.from_/\y.2.1=x.ax)):JK n l b (j+1) (B++[(x.from_,x.ax,x.aI)]):=by
 have htk:l.take (j+1)=l.take j++[x]:=by rw[List.take_add_one,hx];rfl
 refine⟨?_,fun y hy=>?_,fun p hp hu'=>?_⟩
 ·rw[List.map_append,List.nodup_append]
  refine⟨h.keys,by simp,fun a ha c hc=>?_⟩
  simp only[List.map_cons,List.map_nil,List.mem_singleton] at hc
  subst hc
  obtain⟨y,y1,y2⟩:=List.mem_map.1 ha
  intro e
  rw[←y2] at e
  simp only[Prod.mk.injEq] at e
  exact hn y y1 e
 ·rcases List.mem_append.1 hy with q|q
  ·obtain⟨p,q1,q2⟩:=h.sub y q
   exact⟨p,by rw[htk];exact List.mem_append_left _ q1,q2⟩
  ·simp at q;subst q
   exact⟨x,by rw[htk];simp,hu,rfl,rfl,rfl⟩
 ·rw[htk] at hp
  rcases List.mem_append.1 hp with q|q
  ·obtain⟨y,y1,y2⟩:=h.all p q hu'
   exact⟨y,List.mem_append_left _ y1,y2⟩
  ·simp at q;subst q
   exact⟨_,List.mem_append_right _ (List.mem_singleton.2 rfl),rfl,rfl,Int.le_refl _⟩
theorem Mu{n:Nat}{l:List ae}{b:Bool}{j:Nat}{B:List gn}(h:JK n l b j B){x:ae}(hx:l[j]? =some x)(hu:fE b x=true){i:Nat}{v:Int}(hi:B[i]? =some (x.from_,x.ax,v))(hv:x.aI<v):JK n l b (j+1) (B.set i (x.from_,x.ax,x.aI)):=by
 have htk:l.take (j+1)=l.take j++[x]:=by rw[List.take_add_one,hx];rfl
 have hil:i<B.length:=(List.getElem?_eq_some_iff.1 hi).1
 have mN:(x.from_,x.ax,x.aI)∈B.set i (x.from_,x.ax,x.aI):=List.mem_set hil _
 refine⟨?_,fun y hy=>?_,fun p hp hu'=>?_⟩
 ·have e:(B.set i (x.from_,x.ax,x.aI)).map (fun x=>(x.1,x.2.1))=B.map fun x=>(x.1,x.2.1):=pD (fun x:gn=>(x.1,x.2.1)) hi rfl
  exact e ▸ h.keys
 ·rcases List.mem_or_eq_of_mem_set hy with q|rfl
  ·obtain⟨p,q1,q2⟩:=h.sub y q
   exact⟨p,by rw[htk];exact List.mem_append_left _ q1,q2⟩
  ·exact⟨x,by rw[htk];simp,hu,rfl,rfl,rfl⟩
 ·rw[htk] at hp
  rcases List.mem_append.1 hp with q|q
  ·obtain⟨y,y1,y2,y3,y4⟩:=h.all p q hu'
   obtain⟨k,hk⟩:=List.mem_iff_getElem?.1 y1
   by_cases e:i=k
   ·subst e
    rw[hi] at hk
    cases hk
    exact⟨_,mN,y2,y3,by simp only at y4 ⊢;omega⟩
   ·exact⟨y,List.mem_iff_getElem?.2 ⟨k,by rw[List.getElem?_set,if_neg e];exact hk⟩,y2,y3,y4⟩
  ·simp at q;subst q
   exact⟨_,mN,rfl,rfl,Int.le_refl _⟩
theorem Jk{n:Nat}(hn:n<=64){l:List ae}(hl:nk n l){b:Bool}{j:Nat}{B:List gn}(h:JK n l b j B):B.length<=4096:=by
 have hr: ∀x∈B,0<=x.1/\x.1<64/\0<=x.2.1/\x.2.1<64:=fun x hx=>by
  obtain⟨p,q1,_,q2,q3,_⟩:=h.sub x hx
  obtain⟨k1,k2,k3,k4,_⟩:=hl.ok p (List.mem_of_mem_take q1)
  omega
 have:(B.map fun x=>x.1.toNat*64+x.2.1.toNat).Nodup:=by
  have hk:=h.keys
  rw[List.nodup_iff_pairwise_ne] at hk ⊢
  rw[List.pairwise_map] at hk ⊢
  refine hk.imp_of_mem fun {x y} hx hy hxy e=>hxy ?_
  obtain⟨a1,a2,a3,a4⟩:=hr x hx
  obtain⟨b1,b2,b3,b4⟩:=hr y hy
  rw[Prod.mk.injEq]
  omega
 have:=pB 4096 _ this fun v hv=>by
  obtain⟨x,hx,rfl⟩:=List.mem_map.1 hv
  have:=hr x hx
  omega
 simpa using this
structure Ri(n:Nat)(l:List ae)(b:Bool)(E:List eH):Prop where
 ok:Gf n E
 sub: ∀e∈E,∃p∈l,fE b p=true/\p.from_=e.from_/\p.ax=e.ax/\p.aI=e.wt
 all: ∀p∈l,fE b p=true-> ∃e∈E,e.from_=p.from_/\e.ax=p.ax/\e.wt<=p.aI
abbrev si(x:gn):eH:=⟨x.1,x.2.1,x.2.2⟩
def rY(B:List gn)(E:List eH):Prop:=E.length=B.length/\ ∀e,e∈E↔ ∃x∈B,e=si x
theorem Jl{n:Nat}(hn:n<=64){l:List ae}(hl:nk n l){b:Bool}{B:List gn}(h:JK n l b l.length B){E:List eH}(hE:rY B E):Ri n l b E:=by
 have htk:l.take l.length=l:=List.take_of_length_le (Nat.le_refl _)
 have h1:=h.sub
 have h2:=h.all
 rw[htk] at h1 h2
 have sub: ∀e∈E,∃p∈l,fE b p=true/\p.from_=e.from_/\p.ax=e.ax/\p.aI=e.wt:=fun e he=>by
  obtain⟨x,hx,rfl⟩:=(hE.2 e).1 he
  exact h1 x hx
 refine⟨⟨by rw[hE.1];exact Jk hn hl h,fun e he=>?_⟩,sub,fun p hp hu=>?_⟩
 ·obtain⟨p,q1,_,q2,q3,q4⟩:=sub e he
  obtain⟨k1,k2,k3,k4,_,k6,k7⟩:=hl.ok p q1
  omega
 ·obtain⟨x,x1,x2⟩:=h2 p hp hu
  exact⟨_,(hE.2 _).2 ⟨x,x1,rfl⟩,x2⟩
noncomputable def mZ(b:Bool)(B:List gn)(x:ae):List gn:=if fE b x=true then (match aD Try.prog 113 (.agg ⟨[zv x.from_,zv x.ax,F0]⟩) (gK 0 B) 0 with
 |some (some (i, .int .i64 u))=>if x.aI<u then B.set i (x.from_,x.ax,x.aI) else B
 |_=>B++[(x.from_,x.ax,x.aI)]) else B
noncomputable def lh(b:Bool)(l:List ae)(j:Nat):List gn:=(l.take j).foldl (mZ b) []
theorem Bd{b:Bool}{l:List ae}{j:Nat}{x:ae}(hx:l[j]? =some x):lh b l (j+1)=mZ b (lh b l j) x:=by
 unfold lh
 rw[List.take_add_one,hx,List.foldl_append];rfl
theorem rP{b:Bool}{B:List gn}{x:ae}(h:fE b x=false):mZ b B x=B:=by
 unfold mZ;rw[h];simp
theorem oU{b:Bool}{B:List gn}{x:ae}(h:fE b x=true){i:Nat}{v:Int}(hf:aD Try.prog 113 (.agg ⟨[zv x.from_,zv x.ax,F0]⟩) (gK 0 B) 0=some (some (i,zv v))):mZ b B x=if x.aI<v then B.set i (x.from_,x.ax,x.aI) else B:=by
 unfold mZ;rw[if_pos h,hf]
theorem uW{b:Bool}{B:List gn}{x:ae}(h:fE b x=true)(hf:aD Try.prog 113 (.agg ⟨[zv x.from_,zv x.ax,F0]⟩) (gK 0 B) 0=some none):mZ b B x=B++[(x.from_,x.ax,x.aI)]:=by
 unfold mZ;rw[if_pos h,hf]
theorem xu(B:List gn)(f t v:Int):gK 0 B++[MapEntry.mk (.agg ⟨[zv f,zv t,F0]⟩) (zv v) B.length]=gK 0 (B++[(f,t,v)]):=by
 rw[Bc,Nat.zero_add]
section
variable{z:T aa}{zn:Nat}
theorem HM(hz:an z zn)(n:Nat)(hn:n<=64)(l:List ae)(hl:nk n l)(hll:l.length<=10000)(cp:Nat)(hL:cy z 4 (l.map ae.row))(b:Bool):
 JK n l b l.length (lh b l l.length)/\ai Try.prog (ah (ag Try.f51) 0) 1 81 (Av l.length cp n b 0) [(0, .map [] 0)] 1 z zn (Al.R (Sn z zn l.length cp n b (lh b l l.length)).l):=by
 have inv: ∀j,j<=l.length->JK n l b j (lh b l j):=by
  intro j
  induction j with
  |zero=>intro _;exact⟨by simp[lh],fun x hx=>(by simp[lh] at hx),fun p hp=>(by simp at hp)⟩
  |succ j ih=>
   intro hj
   obtain⟨x,hx⟩:=ej (by omega:j<l.length)
   have h:=ih (by omega)
   rw[Bd hx]
   cases hu:fE b x with
   |false=>rw[rP hu];exact Ee h hx fun q=>by rw[hu] at q;cases q
   |true=>
    rcases pN (lh b l j) x.from_ x.ax 0 0 with ⟨p,y,q1,q2,q3,q4,_,q6⟩|⟨q1,q2⟩
    ·rw[oU hu q1]
     rw[Nat.sub_zero] at q6
     split
     ·rename_i hlt
      exact Mu h hx hu (i:=p) (v:=y.2.2) (by rw[q6,←q3,←q4]) hlt
     ·rename_i hlt
      exact Ee h hx fun _=>⟨y,q2,q3,q4,by omega⟩
    ·rw[uW hu q1];exact PY h hx hu q2
 refine⟨inv _ (Nat.le_refl _),?_⟩
 refine ak hD (cZ T.leaf) (α:=Nat) 1 81 1 (fun j=>j<=l.length) (fun j=>Av l.length cp n b j) (fun j=>[(0,S1 (lh b l j))]) (fun _=>z) (fun _=>zn) (fun j=>l.length - j) _ (fun j hI=>?_) 0 (Nat.zero_le _)
 by_cases hj:j<l.length
 ·obtain⟨x,hx⟩:=ej hj
  obtain⟨el,hel⟩:=hL.ay (i:=j) (by simp;omega)
  have hrow:aB Try.prog (bC el (l.map ae.row).flatten) 89 (0+j*4)=some (.agg ⟨x.row⟩):=bO (r:=x.row) (sz:=4) Try.underlying89 rfl rfl (aM (row:=ae.row) (sz:=4) l fun _=>rfl) (by rw[List.getElem?_map,hx];rfl)
  have hc:decide ((j:Int)<(l.length:Int))=true:=by simp;omega
  have nx: ∀B',B'=lh b l (j+1)-> ∀es c,es=gK 0 B'->c=B'.length->aj (fun j=>j<=l.length) (fun j=>Av l.length cp n b j) (fun j=>[(0,S1 (lh b l j))]) 1 (fun _=>z) (fun _=>zn) (fun j=>l.length - j) (Al.R (Sn z zn l.length cp n b (lh b l l.length)).l) j .normal (Av l.length cp n b (j+1)) [(0, .map es c)] 1 z zn:=fun B' h es c h1 h2=>by
   subst h h1 h2
   exact⟨j+1,rfl,rfl,rfl,rfl,rfl,hj,by show l.length - (j+1)<l.length - j;omega⟩
  have hsucc:=Bd (b:=b) hx
  have skip:fE b x=false->lh b l j=lh b l (j+1):=fun h=>by rw[hsucc,rP h]
  have less:fE b x=true-> ∀y:Nat × Int,aD Try.prog 113 (.agg ⟨[zv x.from_,zv x.ax,F0]⟩) (gK 0 (lh b l j)) 0=some (some (y.1,zv y.2))->decide (x.aI<y.2)=true->(lh b l j).set y.1 (x.from_,x.ax,x.aI)=lh b l (j+1):=fun h y hy hlt=>by rw[hsucc,oU h hy,if_pos (by simpa using hlt)]
  have more:fE b x=true-> ∀y:Nat × Int,aD Try.prog 113 (.agg ⟨[zv x.from_,zv x.ax,F0]⟩) (gK 0 (lh b l j)) 0=some (some (y.1,zv y.2))->decide (x.aI<y.2)=false->lh b l j=lh b l (j+1):=fun h y hy hlt=>by rw[hsucc,oU h hy,if_neg (by simpa using hlt)]
  have new:fE b x=true->aD Try.prog 113 (.agg ⟨[zv x.from_,zv x.ax,F0]⟩) (gK 0 (lh b l j)) 0=some none->lh b l j++[(x.from_,x.ax,x.aI)]=lh b l (j+1):=fun h hy=>by rw[hsucc,uW h hy]
  have u1:b=true->x.sf=true->fE b x=true:=fun h1 h2=>by simp[fE,h2]
  have u2:b=false->fE b x=true:=fun h1=>by simp[fE,h1]
  have u3:b=true->x.sf=false->fE b x=false:=fun h1 h2=>by simp[fE,h1,h2]
  refine t100 (WS z zn l.length cp n j (lh b l j).length b (bC el (l.map ae.row).flatten) x (gK 0 (lh b l j)) (aj _ _ _ _ _ _ _ _ _) ⟨fun _=>?_,fun h=>(by rw[hc] at h;cases h)⟩)
  (repeat' first|(with_reducible first|exact rfl|exact True.intro|assumption|apply And.intro|exact hz|exact hj|exact hel|exact hrow|exact Nt _ _ _|exact Nu _ _ _|exact DQ (yG (by with_reducible assumption))|exact kv _ _|exact Dh _ _ _ _ _ _|exact Di _ _ _ _ _ _|exact aT _ _ _ _|exact aG (by omega))|exact(rfl:Int.ofNat _=_)|exact(rfl:gH _ _=_)|exact hz|exact hj|exact hel|exact hrow|exact Nt _ _ _|exact Nu _ _ _|exact DQ (yG (by with_reducible assumption))|exact kv _ _|exact Dh _ _ _ _ _ _|exact Di _ _ _ _ _ _|exact aT _ _ _ _|exact aG (by omega)|intro hq)
  all_goals first
   |(rename_i h1 h2 y hy
     exact nx _ (less (u1 h1 h2) y hy hq) _ _ (yH _ y.1 0 (x.from_,x.ax,x.aI) _ (yG hy)) (List.length_set ..).symm)
   |(rename_i h1 h2 y hy
     exact nx _ (more (u1 h1 h2) y hy hq) _ _ rfl rfl)
   |(rename_i h1 y hy
     exact nx _ (less (u2 h1) y hy hq) _ _ (yH _ y.1 0 (x.from_,x.ax,x.aI) _ (yG hy)) (List.length_set ..).symm)
   |(rename_i h1 y hy
     exact nx _ (more (u2 h1) y hy hq) _ _ rfl rfl)
   |(rename_i h1 h2
     exact nx _ (new (u1 h1 h2) hq) _ _ (xu _ _ _ _) (by simp))
   |(rename_i h1
     exact nx _ (new (u2 h1) hq) _ _ (xu _ _ _ _) (by simp))
   |(rename_i h1
     exact nx _ (skip (u3 h1 hq)) _ _ rfl rfl)
 ·have hc:decide ((j:Int)<(l.length:Int))=false:=by simp;omega
  refine t100 (WS z zn l.length cp n j (lh b l j).length b ⟨[],0,0,0,true,true,0,true⟩ ⟨0,0,0,true⟩ (gK 0 (lh b l j)) (aj _ _ _ _ _ _ _ _ _) ⟨fun h=>(by rw[hc] at h;cases h),fun _=>?_⟩)
  (repeat' first|(with_reducible first|exact rfl|exact True.intro|assumption|apply And.intro|exact hz|exact kv _ _)|exact(rfl:Int.ofNat _=_)|exact(rfl:gH _ _=_)|exact hz|exact kv _ _|intro hq)
  have:j=l.length:=by omega
  subst this
  exact bJ trivial
theorem SD(E F:List eH):bN E++bN F=bN (E++F):=by
 show _=((E++F).map eH.row).flatten
 rw[List.map_append,List.flatten_append]
theorem wx: ∀{l:List Nat},l.Nodup-> ∀{l':List Nat},(∀i∈l,i∈l')->l.length<=l'.length
 |[],_,_,_=>Nat.zero_le _
 |a::l,hn,l',h=>by
  have hn':=List.nodup_cons.1 hn
  have:=wx hn'.2 (l':=l'.erase a) fun i hi=>by
   have hne:i≠a:=fun e=>hn'.1 (e ▸ hi)
   exact(List.mem_erase_of_ne hne).2 (h i (List.mem_cons_of_mem _ hi))
  rw[List.length_erase_of_mem (h a (List.mem_cons_self ..))] at this
  have hp:0<l'.length:=List.length_pos_of_mem (h a (List.mem_cons_self ..))
  simp only[List.length_cons]
  omega
structure Rh(B:List gn)(E:List eH)(seen:List Nat):Prop where
 nd:seen.Nodup
 lt: ∀i∈seen,i<B.length
 len:E.length=seen.length
 mem: ∀e,e∈E↔ ∃i∈seen,∃x,B[i]? =some x/\e=si x
theorem AK{B:List gn}{E:List eH}{seen:List Nat}(h:Rh B E seen){i:Nat}{x:gn}(hi:B[i]? =some x)(hn:i ∉ seen):Rh B (E++[si x]) (i::seen):=by
 refine⟨List.nodup_cons.2 ⟨hn,h.nd⟩,fun j hj=>?_,by simp[h.len],fun e=>?_⟩
 ·rcases List.mem_cons.1 hj with rfl|hj
  ·exact(List.getElem?_eq_some_iff.1 hi).1
  ·exact h.lt j hj
 ·rw[List.mem_append,h.mem]
  constructor
  ·rintro (⟨j,j1,j2⟩|he)
   ·exact⟨j,List.mem_cons_of_mem _ j1,j2⟩
   ·simp at he;exact⟨i,List.mem_cons_self ..,x,hi,he⟩
  ·rintro⟨j,j1,y,j2,j3⟩
   rcases List.mem_cons.1 j1 with rfl|j1
   ·rw[hi] at j2;cases j2;right;simp[j3]
   ·exact .inl ⟨j,j1,y,j2,j3⟩
theorem Cs{B:List gn}{E:List eH}{seen:List Nat}(h:Rh B E seen):seen.length<=B.length:=pB _ _ h.nd h.lt
theorem LG{B:List gn}{E:List eH}{seen:List Nat}(h:Rh B E seen)(ha: ∀i,i<B.length->i∈seen):rY B E:=by
 have h1:=Cs h
 have h2:B.length<=seen.length:=by
  have:=wx (List.nodup_range (n:=B.length)) (l':=seen) fun i hi=>ha i (List.mem_range.1 hi)
  simpa using this
 refine⟨by rw[h.len];omega,fun e=>(h.mem e).trans ⟨fun⟨i,i1,x,i2,i3⟩=>⟨x,List.mem_of_getElem? i2,i3⟩,fun⟨x,x1,x2⟩=>?_⟩⟩
 obtain⟨i,hi⟩:=List.mem_iff_getElem?.1 x1
 exact⟨i,ha i (List.getElem?_eq_some_iff.1 hi).1,x,hi,x2⟩
theorem AE(hz:an z zn)(n:Nat)(B:List gn)(hB:B.length<=4096):
 ai Try.prog (ah (ag Try.f51) 1) 3 81 (vJ n 0 B.length) (vz B.length B.length (gK 0 B) (rep B.length [I 0,I 0,I 0]) []) 3 z zn (Al.R (Sl z zn n B.length B.length (gK 0 B) (rep B.length [I 0,I 0,I 0]) (rY B)).l):=by
 refine ak hD (cZ T.leaf) (α:=List eH × List Nat) 3 81 3 (fun t=>Rh B t.1 t.2) (fun t=>vJ n t.2.length B.length) (fun t=>vz B.length B.length (gK 0 B) (bN t.1++rep (B.length - t.2.length) [I 0,I 0,I 0]) t.2) (fun _=>z) (fun _=>zn) (fun t=>B.length - t.2.length) _ (fun t hI=>?_) ([],[]) ⟨by simp,by simp,rfl,by simp⟩
 obtain⟨E,seen⟩:=t
 simp only at hI ⊢
 have hle:=Cs hI
 have cells: ∀E' m,bN E'++rep m [I 0,I 0,I 0]=bN (E'++List.replicate m (⟨0,0,0⟩:eH)):=fun E' m=>by
  rw[←SD,mD]
  congr 1
  show _=((List.replicate m (⟨0,0,0⟩:eH)).map eH.row).flatten
  rw[List.map_replicate];rfl
 have p0: ∀x∈gK 0 B,x.born<B.length:=fun e he=>by
  obtain⟨i,x,h1,h2⟩:=yI he
  rw[h2];have:=(List.getElem?_eq_some_iff.1 h1).1;simp only;omega
 have p1: ∀e,e∈gK 0 B->kN e.born seen=false-> ∃x:Nat × gn,(B[x.1]? =some x.2/\x.1 ∉ seen)/\e=TB x:=fun e he hs=>by
  obtain⟨i,x,h1,h2⟩:=yI he
  rw[h2] at hs
  simp only[Nat.zero_add] at hs
  refine⟨(i,x),⟨h1,fun hm=>?_⟩,by rw[h2,Nat.zero_add]⟩
  rw[jr.2 hm] at hs;cases hs
 have lt: ∀x:Nat × gn,(B[x.1]? =some x.2/\x.1 ∉ seen)->seen.length+1<=B.length:=fun x hx=>by
  have:=Cs (AK hI hx.1 hx.2)
  simpa using this
 have bn: ∀x:Nat × gn,(B[x.1]? =some x.2/\x.1 ∉ seen)->fI x.1 (gK 0 B)=some (TB x):=fun x hx=>by
  have:=rJ (j:=0) hx.1
  rw[Nat.zero_add] at this
  exact this
 have ov: ∀x:Nat × gn,(B[x.1]? =some x.2/\x.1 ∉ seen)->overwrite (bN E++rep (B.length - seen.length) [I 0,I 0,I 0]) (0+seen.length*3) (si x.2).row=some (bN (E++[si x.2])++rep (B.length - (seen.length+1)) [I 0,I 0,I 0]):=fun x hx=>by
  have hlt:=lt x hx
  rw[cells,cells]
  have:=tP (pj (E++List.replicate (B.length - seen.length) (⟨0,0,0⟩:eH))) (i:=seen.length) (by simp[hI.len];omega) (r':=(si x.2).row) rfl
  rw[lL] at this
  refine this.trans ?_
  have:(E++List.replicate (B.length - seen.length) (⟨0,0,0⟩:eH)).set seen.length (si x.2)=E++[si x.2]++List.replicate (B.length - (seen.length+1)) (⟨0,0,0⟩:eH):=by
   rw[List.set_append_right _ _ (by rw[hI.len];exact Nat.le_refl _),hI.len,Nat.sub_self]
   obtain⟨m,hm⟩: ∃m,B.length - seen.length=m+1:=⟨B.length - seen.length - 1,by omega⟩
   rw[hm,show B.length - (seen.length+1)=m by omega,List.replicate_succ,List.set_cons_zero,List.append_assoc];rfl
  rw[this]
 have le3: ∀x:Nat × gn,(B[x.1]? =some x.2/\x.1 ∉ seen)->(bN (E++[si x.2])++rep (B.length - (seen.length+1)) [I 0,I 0,I 0]).length<=B.length*3:=fun x hx=>by
  have hlt:=lt x hx
  rw[cells,we];simp[hI.len];omega
 have rn: ∀(σ:Nat->Option Nat) E' m c,aE σ (aa.ay (aZ.mk (bN E'++rep m [I 0,I 0,I 0]) c 3 128 true true 0 true))=some (aa.ay (aZ.mk (bN E'++rep m [I 0,I 0,I 0]) c 3 128 true true 0 true)):=fun σ E' m c=>by
  rw[cells];exact cG (gz _)
 have mit: ∀s,aE (aq [(0,0),(1,1),(2,2)] []) (aa.dB (some 0) B.length s B.length)=some (aa.dB (some 0) B.length s B.length):=fun s=>rfl
 have nx: ∀x:Nat × gn,(B[x.1]? =some x.2/\x.1 ∉ seen)->aj (fun t:List eH × List Nat=>Rh B t.1 t.2) (fun t=>vJ n t.2.length B.length) (fun t=>vz B.length B.length (gK 0 B) (bN t.1++rep (B.length - t.2.length) [I 0,I 0,I 0]) t.2) 3 (fun _=>z) (fun _=>zn) (fun t=>B.length - t.2.length) (Al.R (Sl z zn n B.length B.length (gK 0 B) (rep B.length [I 0,I 0,I 0]) (rY B)).l) (E,seen) .normal (vJ n (seen.length+1) B.length) (vz B.length B.length (gK 0 B) (bN (E++[si x.2])++rep (B.length - (seen.length+1)) [I 0,I 0,I 0]) (x.1::seen)) 3 z zn:=fun x hx=>
  ⟨(E++[si x.2],x.1::seen),rfl,rfl,rfl,rfl,rfl,AK hI hx.1 hx.2,by have:=lt x hx;show B.length - (seen.length+1)<B.length - seen.length;omega⟩
 refine t100 (ds1 z zn n seen.length B.length B.length (gK 0 B) (bN E++rep (B.length - seen.length) [I 0,I 0,I 0]) (fun x=>bN (E++[si x.2])++rep (B.length - (seen.length+1)) [I 0,I 0,I 0]) seen (fun x=>B[x.1]? =some x.2/\x.1 ∉ seen) (aj _ _ _ _ _ _ _ _ _) ?_)
 (repeat' first|(with_reducible first|exact rfl|exact True.intro|assumption|apply And.intro|exact hz|exact p0|exact p1|exact bn _ (by with_reducible assumption)|exact lt _ (by with_reducible assumption)|exact ov _ (by with_reducible assumption)|exact le3 _ (by with_reducible assumption)|exact rn _ _ _ _|exact mit _|exact kv _ _|exact nx _ (by with_reducible assumption)|exact Nat.le_refl _)|exact(rfl:Int.ofNat _=_)|exact(rfl:gH _ _=_)|exact hz|exact p0|exact p1|exact bn _ (by with_reducible assumption)|exact lt _ (by with_reducible assumption)|exact ov _ (by with_reducible assumption)|exact le3 _ (by with_reducible assumption)|exact rn _ _ _ _|exact mit _|exact kv _ _|exact nx _ (by with_reducible assumption)|exact Nat.le_refl _|intro hq)
 have hall: ∀i,i<B.length->i∈seen:=fun i hi=>by
  obtain⟨x,hx⟩:=ej hi
  have:=hq _ (PZ (j:=0) hx)
  simp only[Nat.zero_add] at this
  exact jr.1 this
 have hE:=LG hI hall
 have hsl:seen.length=B.length:=by rw[←hI.len];exact hE.1
 rw[hsl,Nat.sub_self,show rep 0 [I 0,I 0,I 0]=[] from rfl,List.append_nil]
 exact yT (k:=fun _=>dN) E hE rfl
theorem CK{P:Program}{f:Nat}{args:List Value}{aS:bX}{nx fC:Nat}{α:Type}{φ ψ:α->Prop}{v:α->Value}{zo:α->bX}{zz:α->T aa}{zn':α->Nat}(h:aV P z zn f args aS nx fC φ v zo zz zn')(hi: ∀x,φ x->ψ x)(hb: ∀x,ψ x->vn zn (zo x) (zz x) (zn' x)):aV P z zn f args aS nx fC ψ v zo zz zn':=
 ⟨h.1,h.2.1,h.2.2.1,hb,fun ρ w args' n h1 h2 h3 h4=>(h.2.2.2.2 ρ w args' n h1 h2 h3 h4).mono fun e w' ⟨x,hx,hg⟩=>⟨x,hi x hx,hg⟩⟩
def dL(z:T aa)(zn n:Nat)(l:List ae)(b:Bool)(s:ek):Prop:= ∃E,Ri n l b E/\xF z zn n (EE E) s
theorem Jf(hz:an z zn)(n:Nat)(hn:n<=64)(l:List ae)(b:Bool)(E:List eH)(m:Nat)(hm:m=E.length)(hE:Ri n l b E):
 aV Try.prog z zn 60 [iv n,bc 0 m m] [(0,nQ (bN E) m)] 1 2 (dL z zn n l b) (fun _=> .tuple ⟨[bc 1 n n,I 0]⟩) (fun s=>[(1,th s.cs n)]) (fun s=>s.z) (fun s=>s.zn):=by
 subst hm
 refine CK (SZ hz n hn E hE.ok) (fun s hs=>⟨E,hE,hs⟩) fun s ⟨E,_,hs⟩=>⟨sG rfl,hs.le,hs.bb⟩
theorem Ja(hz:an z zn)(n:Nat)(hn:n<=64)(l:List ae)(hl:nk n l)(hll:l.length<=10000)(cp:Nat)(hL:cy z 4 (l.map ae.row))(b:Bool):
 aV Try.prog z zn 51 [tb 4 l.length cp,iv n, .bool b] [] 0 1 (dL z zn n l b) (fun _=>bc 0 n n) (fun s=>[(0,th s.cs n)]) (fun s=>s.z) (fun s=>s.zn):=by
 obtain⟨hB,h0⟩:=HM hz n hn l hl hll cp hL b
 have hBl:=Jk hn hl hB
 have h1:=AE hz n (lh b l l.length) hBl
 have hall: ∀E,rY (lh b l l.length) E->aV Try.prog z zn 60 [iv n,bc 0 (lh b l l.length).length (lh b l l.length).length] [(0,nQ (bN E) (lh b l l.length).length)] 1 2 (dL z zn n l b) (fun _=> .tuple ⟨[bc 1 n n,I 0]⟩) (fun s=>[(1,th s.cs n)]) (fun s=>s.z) (fun s=>s.zn):=
  fun E hE=>Jf hz n hn l b E _ hE.1.symm (Jl hn hl hB hE)
 have hlen:((gK 0 (lh b l l.length)).length:Int)=((lh b l l.length).length:Int):=by rw[Eh]
 have rcs: ∀σ s,dL z zn n l b s-> ∀c,aE (aq σ []) (aa.ay (aZ.mk s.cs c 1 117 true true 0 true))=some (aa.ay (aZ.mk s.cs c 1 117 true true 0 true)):=fun σ s ⟨E,_,h⟩ c=>by
  obtain⟨b,_,_,h,_⟩:=h.row
  rw[h];exact lG _ _ _ _ _
 have rcs': ∀σ s,dL z zn n l b s-> ∀c,aE (sig σ) (aa.ay (aZ.mk s.cs c 1 117 true true 0 true))=some (aa.ay (aZ.mk s.cs c 1 117 true true 0 true)):=rcs
 have bb: ∀s,dL z zn n l b s->an s.2 s.zn:=fun s ⟨E,_,h⟩=>h.bb
 have r0: ∀σ m c,aE σ (aa.ay (aZ.mk (rep m [I 0,I 0,I 0]) c 3 128 true true 0 true))=some (aa.ay (aZ.mk (rep m [I 0,I 0,I 0]) c 3 128 true true 0 true)):=fun σ m c=>cG (by
  have e:rep m [I 0,I 0,I 0]=bN (List.replicate m (⟨0,0,0⟩:eH)):=by
   rw[mD]
   show _=((List.replicate m (⟨0,0,0⟩:eH)).map eH.row).flatten
   rw[List.map_replicate];rfl
  rw[e];exact gz _)
 refine dJ (cZ T.leaf) (fn:=Try.f51) (by kernel_rfl) (by kernel_rfl) hz ⟨by decide,by decide⟩ (fun s ⟨E,_,hs⟩=>⟨rfl,hs.le,hs.bb⟩) (N:=100) ?_
 refine ds z zn n l.length cp b (lh b l l.length) (rep (lh b l l.length).length [I 0,I 0,I 0]) (rY (lh b l l.length)) (dL z zn n l b) _ ?_
 (repeat' first|(with_reducible first|exact rfl|exact True.intro|assumption|apply And.intro|exact hz|exact h0|exact h1|exact hlen|exact hall _ (by with_reducible assumption)|exact bb _ (by with_reducible assumption)|exact rcs _ _ (by with_reducible assumption) _|exact rcs' _ _ (by with_reducible assumption) _|exact r0 _ _ _|exact kv _ _|exact dU _ _|exact Nat.zero_le _|exact(by omega:(lh b l l.length).length<=1048576))|exact(rfl:Int.ofNat _=_)|exact(rfl:gH _ _=_)|exact hz|exact h0|exact h1|exact hlen|exact hall _ (by with_reducible assumption)|exact bb _ (by with_reducible assumption)|exact rcs _ _ (by with_reducible assumption) _|exact rcs' _ _ (by with_reducible assumption) _|exact r0 _ _ _|exact kv _ _|exact dU _ _|exact Nat.zero_le _|exact(by omega:(lh b l l.length).length<=1048576)|intro hq)
 all_goals exact q2 _ hq rfl rfl rfl rfl rfl
theorem Mw(n:Nat)(b:Bool):JK n [] b 0 []:=⟨by simp,fun x hx=>by simp at hx,fun p hp=>by simp at hp⟩
theorem Fa(hz:an z zn)(n:Nat)(b:Bool):
 ai Try.prog (ah (ag Try.f51) 0) 1 81 (wL n b) [(0, .map [] 0)] 1 z zn (Al.R (Sm z zn n b).l):=by
 refine ak hD (cZ T.leaf) (α:=Unit) 1 81 1 (fun _=>True) (fun _=>wL n b) (fun _=>[(0, .map [] 0)]) (fun _=>z) (fun _=>zn) (fun _=>0) _ (fun _ _=>?_) () trivial
 refine t100 (WR z zn n b (aj _ _ _ _ _ _ _ _ _) ?_)
 (repeat' first|(with_reducible first|exact rfl|exact True.intro|assumption|apply And.intro|exact hz)|exact(rfl:Int.ofNat _=_)|exact(rfl:gH _ _=_)|exact hz|intro hq)
 exact bJ trivial
theorem Eb(hz:an z zn)(n:Nat)(hn:n<=64)(b:Bool):
 aV Try.prog z zn 51 [aw,iv n, .bool b] [] 0 1 (dL z zn n [] b) (fun _=>bc 0 n n) (fun s=>[(0,th s.cs n)]) (fun s=>s.z) (fun s=>s.zn):=by
 have hl:nk n []:=⟨fun p hp=>by simp at hp⟩
 have h0:=Fa hz n b
 have h1:=AE hz n [] (by simp)
 have hall: ∀E,rY [] E->aV Try.prog z zn 60 [iv n,bc 0 0 0] [(0, .ay (aZ.mk (bN E) 0 3 128 true true 0 true))] 1 2 (dL z zn n [] b) (fun _=> .tuple ⟨[bc 1 n n,I 0]⟩) (fun s=>[(1,th s.cs n)]) (fun s=>s.z) (fun s=>s.zn):=
  fun E hE=>Jf hz n hn [] b E 0 hE.1.symm (Jl hn hl (Mw n b) hE)
 have rcs: ∀σ s,dL z zn n [] b s-> ∀c,aE (aq σ []) (aa.ay (aZ.mk s.cs c 1 117 true true 0 true))=some (aa.ay (aZ.mk s.cs c 1 117 true true 0 true)):=fun σ s ⟨E,_,h⟩ c=>by
  obtain⟨b,_,_,h,_⟩:=h.row
  rw[h];exact lG _ _ _ _ _
 have rcs': ∀σ s,dL z zn n [] b s-> ∀c,aE (sig σ) (aa.ay (aZ.mk s.cs c 1 117 true true 0 true))=some (aa.ay (aZ.mk s.cs c 1 117 true true 0 true)):=rcs
 have bb: ∀s,dL z zn n [] b s->an s.2 s.zn:=fun s ⟨E,_,h⟩=>h.bb
 refine dJ (cZ T.leaf) (fn:=Try.f51) (by kernel_rfl) (by kernel_rfl) hz ⟨by decide,by decide⟩ (fun s ⟨E,_,hs⟩=>⟨rfl,hs.le,hs.bb⟩) (N:=100) ?_
 refine dsz z zn n b (rY []) (dL z zn n [] b) _ ?_
 (repeat' first|(with_reducible first|exact rfl|exact True.intro|assumption|apply And.intro|exact hz|exact h0|exact h1|exact hall _ (by with_reducible assumption)|exact bb _ (by with_reducible assumption)|exact rcs _ _ (by with_reducible assumption) _|exact rcs' _ _ (by with_reducible assumption) _|exact kv _ _|exact dU _ _|exact Nat.zero_le _)|exact(rfl:Int.ofNat _=_)|exact(rfl:gH _ _=_)|exact hz|exact h0|exact h1|exact hall _ (by with_reducible assumption)|exact bb _ (by with_reducible assumption)|exact rcs _ _ (by with_reducible assumption) _|exact rcs' _ _ (by with_reducible assumption) _|exact kv _ _|exact dU _ _|exact Nat.zero_le _|intro hq)
 all_goals exact q2 _ hq rfl rfl rfl rfl rfl
end
structure kF(z0:T aa)(n0:Nat)(L:List ae)(s:bg):Prop where
 bb:an s.z s.zn
 le:n0<=s.zn
 fP: ∀k,k<n0->s.z.get k=z0.get k
 val:(L=[]/\s.oa=none/\s.k=0)\/(L≠[]/\ ∃kk,n0<=kk/\kk<s.zn/\s.oa=some ⟨256*kk+510,0,none⟩/\s.k=L.length/\s.z.get kk=some (Pm (L.map ae.row).flatten L.length))
def iU(L:List ae)(a b d:Int)(f:Bool):List ae:=if 0<d/\d<=14400 then L++[⟨a,b,d,f⟩] else L
theorem gT(L:List ae):bH (L.map ae.row).flatten=true:=jC (row:=ae.row) (fun _=>rfl) L
theorem tN(L:List ae):(L.map ae.row).flatten.length=L.length*4:=by
 have:=jG (sz:=4) (rows:=L.map ae.row) (aM (row:=ae.row) (sz:=4) L fun _=>rfl)
 simpa using this
theorem jZ(L:List ae)(x:ae):(L.map ae.row).flatten++x.row=((L++[x]).map ae.row).flatten:=by
 rw[List.map_append,List.flatten_append];simp
theorem sM(L:List ae)(a b d:Int)(f:Bool):(iU L a b d f).length<=L.length+1:=by
 unfold iU;split<;>simp
theorem sB{σ:bd}{k c n m:Nat}{o:aa}:aE (aq σ [(k,c,o)]) (oB (tb k n m))=some (oB (bc c n m)):=by
 have:=eA (σ:=σ) (k:=k) (c:=c) (n:=n) (m:=m) (o:=o)
 simp only[aE,bh,this]
 rfl
theorem qD{σ:Nat->Option Nat}(L:List ae)(x:ae)(c:Nat):aE σ (.ay (aZ.mk ((L.map ae.row).flatten++x.row) c 4 89 false false 0 true))=some (.ay (aZ.mk ((L.map ae.row).flatten++x.row) c 4 89 false false 0 true)):=cG (by
 rw[jZ];exact gT _)
section
variable{z:T aa}{zn:Nat}
theorem Nr(z0:T aa)(n0:Nat)(L:List ae)(hL:L.length<100000)(s:bg)(hs:kF z0 n0 L s)(a b d:Int)(f:Bool):
 aV Try.prog s.z s.zn 52 [zv a,zv b,zv d, .bool f,ip 0] [(0,oB s.v)] 1 1 (fun s'=>kF z0 n0 (iU L a b d f) s'/\s.zn<=s'.zn) (fun _=> .tuple ⟨[]⟩) (fun s=>[(0,oB s.v)]) (fun s=>s.z) (fun s=>s.zn):=by
 obtain⟨oa,r,z,zn⟩:=s
 have hz:an z zn:=hs.bb
 have hold:=hs.fP
 have hle:=hs.le
 simp only at hold hle
 have hin: ∀d,(decide (d>0)=true->decide (d<=14400)=true->0<d/\d<=(14400:Int)):=fun d h1 h2=>by simp at h1 h2;omega
 have no1:decide (d>0)=false->iU L a b d f=L:=fun h=>by
  unfold iU;rw[if_neg];simp at h;omega
 have no2:decide (d<=14400)=false->iU L a b d f=L:=fun h=>by
  unfold iU;rw[if_neg];simp at h;omega
 have yes:decide (d>0)=true->decide (d<=14400)=true->iU L a b d f=L++[⟨a,b,d,f⟩]:=fun h1 h2=>by
  unfold iU;rw[if_pos (hin d h1 h2)]
 refine dJ (cZ T.leaf) (fn:=Try.f52) (by kernel_rfl) (by kernel_rfl) hz ⟨by decide,by decide⟩ (fun s' hs'=>⟨rfl,hs'.2,hs'.1.bb⟩) (N:=100) ?_
 rcases hs.val with ⟨h1,h2,h3⟩|⟨h1,kk,k1,k2,h2,h3,h4⟩<;>simp only at h2 h3
 ·subst h2 h3 h1
  refine ad0 z zn 0 a b d f _ ?_
  (repeat' first|(with_reducible first|exact rfl|exact True.intro|assumption|apply And.intro|exact hz|exact sB|exact Nat.le_succ _|exact Nat.le_refl _|exact Nat.lt_succ_self _)|exact(rfl:Int.ofNat _=_)|exact(rfl:gH _ _=_)|exact hz|exact sB|exact Nat.le_succ _|exact Nat.le_refl _|exact Nat.lt_succ_self _|intro hq)
  ·refine q2 (⟨some ⟨256*zn+510,0,none⟩,1,z.set zn (Pm (([⟨a,b,d,f⟩]:List ae).map ae.row).flatten 1),zn+1⟩:bg) ⟨?_,Nat.le_succ _⟩ rfl rfl rfl rfl rfl
   rename_i h1
   rw[yes h1 hq]
   exact⟨fT hz (gT _),by show n0<=zn+1;omega,fun k hk=>by
    show(z.set zn _).get k=_
    rw[T.aK,if_neg (by omega)];exact hold k hk, .inr ⟨by simp,zn,hle,Nat.lt_succ_self _,rfl,rfl,by
    show(z.set zn _).get zn=_
    rw[T.aK,if_pos rfl];rfl⟩⟩
  ·refine q2 (⟨none,0,z,zn⟩:bg) ⟨?_,Nat.le_refl _⟩ rfl rfl rfl rfl rfl
   rw[no2 hq];exact hs
  ·refine q2 (⟨none,0,z,zn⟩:bg) ⟨?_,Nat.le_refl _⟩ rfl rfl rfl rfl rfl
   rw[no1 hq];exact hs
 ·simp only at h4
  subst h2 h3
  refine ad1 z zn kk L.length ⟨(L.map ae.row).flatten,L.length*4,4,89,false,false,0,true⟩ a b d f _ ?_
  (repeat' first|(with_reducible first|exact rfl|exact True.intro|assumption|apply And.intro|exact hz|exact h4|exact tN L|exact Nat.le_succ _|exact Nat.le_refl _|exact Nat.lt_succ_self _|exact fH hz _|exact sB|exact qD L ⟨a,b,d,f⟩ _|exact(by show L.length+1<=1048576;omega))|exact(rfl:Int.ofNat _=_)|exact(rfl:gH _ _=_)|exact hz|exact h4|exact tN L|exact Nat.le_succ _|exact Nat.le_refl _|exact Nat.lt_succ_self _|exact fH hz _|exact sB|exact qD L ⟨a,b,d,f⟩ _|exact(by show L.length+1<=1048576;omega)|intro hq)
  ·refine q2 (⟨some ⟨256*zn+510,0,none⟩,L.length+1,(z.del kk).set zn (Pm ((L.map ae.row).flatten++(⟨a,b,d,f⟩:ae).row) (L.length+1)),zn+1⟩:bg) ⟨?_,Nat.le_succ _⟩ rfl rfl rfl rfl rfl
   rename_i h1
   rw[yes h1 hq]
   refine⟨fT (fH hz _) (by show bH ((L.map ae.row).flatten++(⟨a,b,d,f⟩:ae).row)=true;rw[jZ];exact gT _),by show n0<=zn+1;omega,fun k hk=>?_, .inr ⟨by simp,zn,hle,Nat.lt_succ_self _,rfl,by simp,?_⟩⟩
   ·show((z.del kk).set zn _).get k=_
    rw[T.aK,if_neg (by omega),T.fS,if_neg (by omega)];exact hold k hk
   ·show((z.del kk).set zn _).get zn=_
    rw[T.aK,if_pos rfl,jZ,List.length_append];rfl
  ·refine q2 (⟨some ⟨256*kk+510,0,none⟩,L.length,z,zn⟩:bg) ⟨?_,Nat.le_refl _⟩ rfl rfl rfl rfl rfl
   rw[no2 hq];exact hs
  ·refine q2 (⟨some ⟨256*kk+510,0,none⟩,L.length,z,zn⟩:bg) ⟨?_,Nat.le_refl _⟩ rfl rfl rfl rfl rfl
   rw[no1 hq];exact hs
end
def rW(z:T aa)(b n:Nat)(d:Nat->Nat->Int):Prop:= ∀i,i<n-> ∃l,z.get (b+i)=some (.ay (Cu l n))/\l.length=n/\ ∀j,j<n->(fy l j).len=d i j
theorem lE{z z':T aa}{b n m:Nat}{d:Nat->Nat->Int}(h:rW z b n d)(hb:b+n<=m)(hk: ∀k,k<m->z'.get k=z.get k):rW z' b n d:=fun i hi=>by
 obtain⟨l,h1,h2⟩:=h i hi
 exact⟨l,by rw[hk _ (by omega)];exact h1,h2⟩
theorem tq{z:T aa}{b n:Nat}{d:Nat->Nat->Int}(h:rW z b n d){i j:Nat}(hi:i<n)(hj:j<n): ∃k,z.get (b+i)=some (.ay k)/\aB Try.prog k 3 (0+j*1)=some (zv (d i j)):=by
 obtain⟨l,h1,h2,h3⟩:=h i hi
 refine⟨_,h1,jo (d:=_) Try.underlying3 rfl ?_⟩
 show(wW l)[j]? =_
 unfold wW
 rw[List.getElem?_map,mM (by omega),←h3 j hj];rfl
theorem nF{z:T aa}{zn n:Nat}{E:bW}{s:ek}(h:xF z zn n E s): ∃b d,zn<=b/\b+n<=s.zn/\s.cs=gJ b n n/\rW s.z b n d/\ ∀i j,i<n->j<n->mg E i j (d i j):=by
 obtain⟨b,h1,h2,h3,h4⟩:=h.row
 have: ∀i,∃l,i<n->s.z.get (b+i)=some (.ay (Cu l n))/\l.length=n/\ ∀j,j<n->mg E i j (fy l j).len:=fun i=>by
  by_cases hi:i<n
  ·obtain⟨l,hl⟩:=h4 i hi;exact⟨l,fun _=>hl⟩
  ·exact⟨[],fun h=>absurd h hi⟩
 obtain⟨f,hf⟩:=Classical.axiomOfChoice this
 exact⟨b,fun i j=>(fy (f i) j).len,h1,h2,h3,fun i hi=>⟨f i,(hf i hi).1,(hf i hi).2.1,fun j _=>rfl⟩,fun i j hi hj=>(hf i hi).2.2 j hj⟩
def iG(d f:Nat->Nat->Int)(a:Nat)(L:List ae)(b:Nat):List ae:=
 if a=b then L else if f a b=d a b then iU L a b (d a b) true else iU (iU L a b (d a b) false) a b (f a b) true
def cW(d f:Nat->Nat->Int)(a:Nat)(L:List ae)(m:Nat):List ae:=(List.range m).foldl (iG d f a) L
def eP(d f:Nat->Nat->Int)(n m:Nat):List ae:=(List.range m).foldl (fun L a=>cW d f a L n) []
theorem j8(d f:Nat->Nat->Int)(a:Nat)(L:List ae)(m:Nat):cW d f a L (m+1)=iG d f a (cW d f a L m) m:=by
 unfold cW;rw[List.range_succ,List.foldl_append];rfl
theorem rN(d f:Nat->Nat->Int)(n m:Nat):eP d f n (m+1)=cW d f m (eP d f n m) n:=by
 unfold eP;rw[List.range_succ,List.foldl_append];rfl
theorem A4(d f:Nat->Nat->Int)(a:Nat)(L:List ae)(b:Nat):(iG d f a L b).length<=L.length+2:=by
 unfold iG
 split
 ·omega
 ·split
  ·have:=sM L a b (d a b) true;omega
  ·have h1:=sM L a b (d a b) false
   have h2:=sM (iU L a b (d a b) false) a b (f a b) true
   omega
theorem uK(d f:Nat->Nat->Int)(a:Nat)(L:List ae)(m:Nat):(cW d f a L m).length<=L.length+2*m:=by
 induction m with
 |zero=>exact Nat.le_refl _
 |succ m ih=>rw[j8];have:=A4 d f a (cW d f a L m) m;omega
theorem CF(d f:Nat->Nat->Int)(n m:Nat):(eP d f n m).length<=m*(2*n):=by
 induction m with
 |zero=>exact Nat.zero_le _
 |succ m ih=>
  rw[rN]
  have:=uK d f m (eP d f n m) n
  have e:(m+1)*(2*n)=m*(2*n)+2*n:=Nat.succ_mul ..
  omega
section
variable{z0:T aa}{n0:Nat}
theorem eB{σ:bd}{L:List ae}{s:bg}(h:kF z0 n0 L s):aE (aq σ []) (oB s.v)=some (oB s.v):=by
 rcases h.val with ⟨_,e1,e2⟩|⟨_,kk,_,_,e1,e2,_⟩
 ·obtain⟨oa,k,z,zn⟩:=s
  simp only at e1 e2;subst e1 e2;rfl
 ·obtain⟨oa,k,z,zn⟩:=s
  simp only at e1 e2;subst e1 e2
  have:=aT σ kk L.length L.length
  show aE _ (oB (tb kk L.length L.length))=some (oB (tb kk L.length L.length))
  simp only[aE,bh,this]
theorem HO(n:Nat)(hn:n<=64)(b1 b2:Nat)(d f:Nat->Nat->Int)(h1:b1+n<=n0)(h2:b2+n<=n0)(hd:rW z0 b1 n d)(hf:rW z0 b2 n f)(a:Nat)(ha:a<n)(L:List ae)(hL:L.length<=10000)(s0:bg)(hs0:kF z0 n0 L s0):
 ai Try.prog (ah (ah (ag Try.f43) 0) 0) 3 66 (Ax n a (b1+a) 0) (y7 n (gJ b1 n n) (gJ b2 n n) s0.v) 3 s0.z s0.zn (Al.R (Sr n a (b1+a) (gJ b1 n n) (gJ b2 n n) s0 (fun s=>kF z0 n0 (cW d f a L n) s/\s0.zn<=s.zn)).l):=by
 refine ak hD (cZ T.leaf) (α:=Nat × bg) 3 66 3 (fun t=>t.1<=n/\kF z0 n0 (cW d f a L t.1) t.2/\s0.zn<=t.2.zn) (fun t=>Ax n a (b1+a) t.1) (fun t=>y7 n (gJ b1 n n) (gJ b2 n n) t.2.v) (fun t=>t.2.z) (fun t=>t.2.zn) (fun t=>n - t.1) _ (fun t hI=>?_) (0,s0) ⟨Nat.zero_le _,hs0,Nat.le_refl _⟩
 obtain⟨b,s⟩:=t
 obtain⟨hb,hs,hle⟩:=hI
 simp only at hb hs hle ⊢
 have hz:=hs.bb
 have rA: ∀b,aE (aq [(0,0),(1,1),(2,2)] []) (aa.ay (aZ.mk (gJ b n n) (n*1) 1 117 true true 0 true))=some (aa.ay (aZ.mk (gJ b n n) (n*1) 1 117 true true 0 true)):=fun b=>lG _ _ _ _ _
 by_cases hlt:b<n
 ·have hc:decide ((b:Int)<(n:Int))=true:=by simp;omega
  have hrl:=uK d f a L b
  have hd':=lE hd h1 hs.fP
  have hf':=lE hf h2 hs.fP
  obtain⟨k1,g1,r1⟩:=tq hd' ha hlt
  obtain⟨k2,g2,r2⟩:=tq hf' ha hlt
  have rB:aB Try.prog (aZ.mk (gJ b2 n n) (n*1) 1 117 true true 0 true) 117 (0+a*1)=some (tb (b2+a) n n):=jo Try.underlying117 rfl (ID ha)
  have add1: ∀fl,aV Try.prog s.z s.zn 52 [iv a,iv b,zv (d a b), .bool fl,ip 0] [(0,oB s.v)] 1 1 (fun s'=>kF z0 n0 (iU (cW d f a L b) a b (d a b) fl) s'/\s.zn<=s'.zn) (fun _=> .tuple ⟨[]⟩) (fun s=>[(0,oB s.v)]) (fun s=>s.z) (fun s=>s.zn):=fun fl=>Nr z0 n0 _ (by omega) s hs _ _ _ _
  have add2: ∀fl x,(kF z0 n0 (iU (cW d f a L b) a b (d a b) fl) x/\s.zn<=x.zn)->aV Try.prog x.z x.zn 52 [iv a,iv b,zv (f a b),T1,ip 0] [(0,oB x.v)] 1 1 (fun s'=>kF z0 n0 (iU (iU (cW d f a L b) a b (d a b) fl) a b (f a b) true) s'/\x.zn<=s'.zn) (fun _=> .tuple ⟨[]⟩) (fun s=>[(0,oB s.v)]) (fun s=>s.z) (fun s=>s.zn):=fun fl x hx=>Nr z0 n0 _ (by have:=sM (cW d f a L b) a b (d a b) fl;omega) x hx.1 _ _ _ _
  have nx: ∀s',kF z0 n0 (cW d f a L (b+1)) s'->s.zn<=s'.zn->aj (fun t:Nat × bg=>t.1<=n/\kF z0 n0 (cW d f a L t.1) t.2/\s0.zn<=t.2.zn) (fun t=>Ax n a (b1+a) t.1) (fun t=>y7 n (gJ b1 n n) (gJ b2 n n) t.2.v) 3 (fun t=>t.2.z) (fun t=>t.2.zn) (fun t=>n - t.1) (Al.R (Sr n a (b1+a) (gJ b1 n n) (gJ b2 n n) s0 (fun s=>kF z0 n0 (cW d f a L n) s/\s0.zn<=s.zn)).l) (b,s) .normal (Ax n a (b1+a) (b+1)) (y7 n (gJ b1 n n) (gJ b2 n n) s'.v) 3 s'.z s'.zn:=fun s' h1 h2=>
   ⟨(b+1,s'),rfl,rfl,rfl,rfl,rfl,⟨by show b+1<=n;omega,h1,by show s0.zn<=s'.zn;omega⟩,by show n - (b+1)<n - b;omega⟩
  have add1t:(f a b==d a b)=true->aV Try.prog s.z s.zn 52 [iv a,iv b,zv (d a b),T1,ip 0] [(0,oB s.v)] 1 1 (fun s'=>kF z0 n0 (iU (cW d f a L b) a b (d a b) (f a b==d a b)) s'/\s.zn<=s'.zn) (fun _=> .tuple ⟨[]⟩) (fun s=>[(0,oB s.v)]) (fun s=>s.z) (fun s=>s.zn):=fun h=>by
   rw[h];exact add1 true
  have add1f:(f a b==d a b)=false->aV Try.prog s.z s.zn 52 [iv a,iv b,zv (d a b),F0,ip 0] [(0,oB s.v)] 1 1 (fun s'=>kF z0 n0 (iU (cW d f a L b) a b (d a b) (f a b==d a b)) s'/\s.zn<=s'.zn) (fun _=> .tuple ⟨[]⟩) (fun s=>[(0,oB s.v)]) (fun s=>s.z) (fun s=>s.zn):=fun h=>by
   rw[h];exact add1 false
  have w0:((a:Int)==(b:Int))=true->cW d f a L (b+1)=cW d f a L b:=fun h=>by
   rw[j8];unfold iG;rw[if_pos (by simp at h;omega)]
  have w1:((a:Int)==(b:Int))=false->(f a b !=d a b)=false->cW d f a L (b+1)=iU (cW d f a L b) a b (d a b) (f a b==d a b):=fun h h1=>by
   have e:f a b=d a b:=by simpa using h1
   rw[j8];unfold iG;rw[if_neg (by simp at h;omega),if_pos e,e];simp
  have w2:((a:Int)==(b:Int))=false->(f a b !=d a b)=true->cW d f a L (b+1)=iU (iU (cW d f a L b) a b (d a b) (f a b==d a b)) a b (f a b) true:=fun h h1=>by
   have e: ¬f a b=d a b:=by simpa using h1
   have e2:(f a b==d a b)=false:=by simpa using e
   rw[j8];unfold iG;rw[if_neg (by simp at h;omega),if_neg e,e2]
  refine t100 (Zn s.z s.zn n a (b1+a) (b2+a) b (gJ b1 n n) (gJ b2 n n) s k1 k2 (d a b) (f a b) (fun s'=>kF z0 n0 (iU (cW d f a L b) a b (d a b) (f a b==d a b)) s'/\s.zn<=s'.zn) (fun x s'=>kF z0 n0 (iU (iU (cW d f a L b) a b (d a b) (f a b==d a b)) a b (f a b) true) s'/\x.zn<=s'.zn) (aj _ _ _ _ _ _ _ _ _) ⟨fun _=>?_,fun h=>(by rw[hc] at h;cases h)⟩)
  (repeat' first|(with_reducible first|exact rfl|exact True.intro|assumption|apply And.intro|exact hz|exact hlt|exact ha|exact g1|exact g2|exact r1|exact r2|exact rB|exact rA _|exact eB hs|exact eB (And.left (by with_reducible assumption))|exact add1t (by with_reducible assumption)|exact add1f (by with_reducible assumption)|exact add2 _ _ (by with_reducible assumption)|exact kF.bb (And.left (by with_reducible assumption))|exact aG (by omega))|exact(rfl:Int.ofNat _=_)|exact(rfl:gH _ _=_)|exact hz|exact hlt|exact ha|exact g1|exact g2|exact r1|exact r2|exact rB|exact rA _|exact eB hs|exact eB (And.left (by with_reducible assumption))|exact add1t (by with_reducible assumption)|exact add1f (by with_reducible assumption)|exact add2 _ _ (by with_reducible assumption)|exact kF.bb (And.left (by with_reducible assumption))|exact aG (by omega)|intro hq)
  all_goals first
   |exact nx s (by rw[w0 hq];exact hs) (Nat.le_refl _)
   |(rename_i h1 h2 x hx h3 y
     exact nx y (by rw[w2 h1 h3];exact hq.1) (Nat.le_trans hx.2 hq.2))
   |(rename_i h1 h2 x hx
     exact nx x (by rw[w1 h1 hq];exact hx.1) hx.2)
 ·have hc:decide ((b:Int)<(n:Int))=false:=by simp;omega
  have hbn:b=n:=by omega
  subst hbn
  refine t100 (Zn s.z s.zn b a (b1+a) (b2+a) b (gJ b1 b b) (gJ b2 b b) s ⟨[],0,0,0,true,true,0,true⟩ ⟨[],0,0,0,true,true,0,true⟩ 0 0 (fun _=>False) (fun _ _=>False) (aj _ _ _ _ _ _ _ _ _) ⟨fun h=>(by rw[hc] at h;cases h),fun _=>?_⟩)
  (repeat' first|(with_reducible first|exact rfl|exact True.intro|assumption|apply And.intro|exact hz|exact rA _|exact eB hs)|exact(rfl:Int.ofNat _=_)|exact(rfl:gH _ _=_)|exact hz|exact rA _|exact eB hs|intro hq)
  exact yT (k:=fun _=>dN) s ⟨hs,hle⟩ rfl
theorem AH(n:Nat)(hn:n<=64)(b1 b2:Nat)(d f:Nat->Nat->Int)(h1:b1+n<=n0)(h2:b2+n<=n0)(hd:rW z0 b1 n d)(hf:rW z0 b2 n f)(hz0:an z0 n0):
 ai Try.prog (ah (ag Try.f43) 0) 3 66 (vK n 0) (y7 n (gJ b1 n n) (gJ b2 n n) aw) 3 z0 n0 (Al.R (O9 n (gJ b1 n n) (gJ b2 n n) z0 n0 (fun s=>kF z0 n0 (eP d f n n) s)).l):=by
 refine ak hD (cZ T.leaf) (α:=Nat × bg) 3 66 3 (fun t=>t.1<=n/\kF z0 n0 (eP d f n t.1) t.2) (fun t=>vK n t.1) (fun t=>y7 n (gJ b1 n n) (gJ b2 n n) t.2.v) (fun t=>t.2.z) (fun t=>t.2.zn) (fun t=>n - t.1) _ (fun t hI=>?_) (0,⟨none,0,z0,n0⟩) ⟨Nat.zero_le _,hz0,Nat.le_refl _,fun _ _=>rfl, .inl ⟨rfl,rfl,rfl⟩⟩
 obtain⟨a,s⟩:=t
 obtain⟨ha,hs⟩:=hI
 simp only at ha hs ⊢
 have hz:=hs.bb
 have rA: ∀b,aE (aq [(0,0),(1,1),(2,2)] []) (aa.ay (aZ.mk (gJ b n n) (n*1) 1 117 true true 0 true))=some (aa.ay (aZ.mk (gJ b n n) (n*1) 1 117 true true 0 true)):=fun b=>lG _ _ _ _ _
 by_cases hlt:a<n
 ·have hc:decide ((a:Int)<(n:Int))=true:=by simp;omega
  have hll:(eP d f n a).length<=10000:=by
   have:=CF d f n a
   have h2:a*(2*n)<=64*(2*64):=Nat.mul_le_mul (by omega) (by omega)
   omega
  have hlp:=HO n hn b1 b2 d f h1 h2 hd hf a hlt _ hll s hs
  have rB:aB Try.prog (aZ.mk (gJ b1 n n) (n*1) 1 117 true true 0 true) 117 (0+a*1)=some (tb (b1+a) n n):=jo Try.underlying117 rfl (ID hlt)
  refine t100 (Zo s.z s.zn n a (b1+a) (gJ b1 n n) (gJ b2 n n) s (fun s'=>kF z0 n0 (cW d f a (eP d f n a) n) s'/\s.zn<=s'.zn) (aj _ _ _ _ _ _ _ _ _) ⟨fun _=>?_,fun h=>(by rw[hc] at h;cases h)⟩)
  (repeat' first|(with_reducible first|exact rfl|exact True.intro|assumption|apply And.intro|exact hz|exact hlt|exact rB|exact rA _|exact hlp|exact eB hs|exact eB (And.left (by with_reducible assumption))|exact kF.bb (And.left (by with_reducible assumption))|exact aG (by omega))|exact(rfl:Int.ofNat _=_)|exact(rfl:gH _ _=_)|exact hz|exact hlt|exact rB|exact rA _|exact hlp|exact eB hs|exact eB (And.left (by with_reducible assumption))|exact kF.bb (And.left (by with_reducible assumption))|exact aG (by omega)|intro hq)
  rename_i x
  exact⟨(a+1,x),rfl,rfl,rfl,rfl,rfl,⟨by show a+1<=n;omega,by show kF z0 n0 (eP d f n (a+1)) x;rw[rN];exact hq.1⟩,by show n - (a+1)<n - a;omega⟩
 ·have hc:decide ((a:Int)<(n:Int))=false:=by simp;omega
  have han:a=n:=by omega
  subst han
  refine t100 (Zo s.z s.zn a a 0 (gJ b1 a a) (gJ b2 a a) s (fun _=>False) (aj _ _ _ _ _ _ _ _ _) ⟨fun h=>(by rw[hc] at h;cases h),fun _=>?_⟩)
  (repeat' first|(with_reducible first|exact rfl|exact True.intro|assumption|apply And.intro|exact hz|exact eB hs)|exact(rfl:Int.ofNat _=_)|exact(rfl:gH _ _=_)|exact hz|exact eB hs|intro hq)
  exact yT (k:=fun _=>dN) s hs rfl
end
def DF(n:Nat)(l:List ae)(d f:Nat->Nat->Int):Prop:= ∃E F,Ri n l false E/\Ri n l true F/\(∀i j,i<n->j<n->mg (EE E) i j (d i j))/\(∀i j,i<n->j<n->mg (EE F) i j (f i j))
theorem AS{z z':T aa}{a b:Nat}{L:List ae}{s:bg}(h:kF z' b L s)(hab:a<=b)(ho: ∀k,k<a->z'.get k=z.get k):kF z a L s:=by
 refine⟨h.bb,Nat.le_trans hab h.le,fun k hk=>(h.fP k (by omega)).trans (ho k hk),?_⟩
 rcases h.val with h1|⟨h1,kk,h2,h3⟩
 ·exact .inl h1
 ·exact .inr ⟨h1,kk,by omega,h3⟩
def kE(C:List ae):Prop:= ∀(z:T aa)(zn:Nat)(s:bg),kF z zn C s->aQ Try.prog s.z s.zn 53 [s.v, .func (.func 54) #[] #[]] [] 0 0 (fun _:Unit=>True) (fun _=> .tuple ⟨[]⟩) (fun _=>[])
theorem oL{P:Program}{b:Code}{base n:Nat}{live:Live}{aS:bX}{nx:Nat}{z:T aa}{zn:Nat}{R R':au->Prop}(h:ai P b base n live aS nx z zn R)(hR: ∀o,R o->R' o):ai P b base n live aS nx z zn R':=
 fun yk h0 zn0 σ0 h1 h2=>(h yk h0 zn0 σ0 h1 h2).mono fun e fr h zn' ⟨o,h1,h2⟩=>⟨o,hR o h1,h2⟩
theorem dX{z z':T aa}{zn k:Nat}{rows:List (List Value)}(h:cy z k rows)(hz:an z zn)(ho: ∀j,j<zn->z'.get j=z.get j):cy z' k rows:=
 ⟨fun hr=>by obtain⟨e,he⟩:=h.here hr;exact⟨e,by rw[ho k (hz k _ he).1];exact he⟩,h.size⟩
section
variable{z:T aa}{zn:Nat}
theorem SY(hz:an z zn)(n:Nat)(hn:n<=64)(l:List ae)(hl:nk n l)(hll:l.length<=10000)(cp:Nat)(hL:cy z 4 (l.map ae.row))(C:List ae)(hC: ∀d f,DF n l d f->eP d f n n=C)(hS:kE C):
 aV Try.prog z zn 43 [tb 4 l.length cp,iv n] [] 0 0 (kF z zn C) (fun s=>s.v) (fun _=>[]) (fun s=>s.z) (fun s=>s.zn):=by
 have d1:=Ja hz n hn l hl hll cp hL false
 have rw1: ∀{z zn b s},dL z zn n l b s-> ∀σ c,aE (aq σ []) (aa.ay (aZ.mk s.cs c 1 117 true true 0 true))=some (aa.ay (aZ.mk s.cs c 1 117 true true 0 true)):=fun {z zn b s} ⟨E,_,h⟩ σ c=>by
  obtain⟨b,_,_,h,_⟩:=h.row
  rw[h];exact lG _ _ _ _ _
 have rw2: ∀{z zn b s},dL z zn n l b s-> ∀σ c,aE (sig σ) (aa.ay (aZ.mk s.cs c 1 117 true true 0 true))=some (aa.ay (aZ.mk s.cs c 1 117 true true 0 true)):=fun h σ c=>rw1 h σ c
 have bb: ∀{z zn b s},dL z zn n l b s->an s.2 s.zn:=fun {z zn b s} ⟨E,_,h⟩=>h.bb
 have d2: ∀s,dL z zn n l false s->aV Try.prog s.2 s.zn 51 [tb 4 l.length cp,iv n,T1] [] 0 1 (dL s.2 s.zn n l true) (fun _=>bc 0 n n) (fun s=>[(0,th s.cs n)]) (fun s=>s.z) (fun s=>s.zn):=fun s ⟨E,_,h⟩=>Ja h.bb n hn l hl hll cp (dX hL hz h.fP) true
 have lp: ∀s1 s2,dL z zn n l false s1->dL s1.2 s1.zn n l true s2->ai Try.prog (ah (ag Try.f43) 0) 3 66 (vK n 0) (y7 n s1.cs s2.cs aw) 3 s2.2 s2.zn (Al.R (O9 n s1.cs s2.cs s2.2 s2.zn (fun s=>kF z zn C s)).l):=fun s1 s2 ⟨E,hE,h1⟩ ⟨F,hF,h2⟩=>by
  obtain⟨b1,d,p1,p2,p3,p4,p5⟩:=nF h1
  obtain⟨b2,f,q1,q2,q3,q4,q5⟩:=nF h2
  have hle:=h2.le
  have:=AH n hn b1 b2 d f (by omega) q2 (lE p4 p2 h2.fP) q4 h2.bb
  rw[hC d f ⟨E,F,hE,hF,p5,q5⟩] at this
  rw[p3,q3]
  refine oL this fun o ho=>?_
  rcases ho with ⟨s,hs,e⟩|ho
  ·exact .inl ⟨s,AS hs (Nat.le_trans h1.le hle) fun k hk=>(h2.fP k (by have:=h1.le;omega)).trans (h1.fP k hk),e⟩
  ·exact .inr ho
 have srt: ∀s,kF z zn C s->aQ Try.prog s.3 s.zn 53 [s.v, .func (.func 54) #[] #[]] [] 0 0 (fun _:Unit=>True) (fun _=> .tuple ⟨[]⟩) (fun _=>[]):=fun s hs=>hS z zn s hs
 have rv: ∀s,kF z zn C s->aO (aq [] []) s.v=some s.v:=fun s h=>by
  rcases h.val with ⟨_,e1,e2⟩|⟨_,kk,_,_,e1,e2,_⟩
  ·obtain⟨oa,k,z,zn⟩:=s
   simp only at e1 e2;subst e1 e2;rfl
  ·obtain⟨oa,k,z,zn⟩:=s
   simp only at e1 e2;subst e1 e2
   exact aT [] kk C.length C.length
 have rl: ∀s,kF z zn C s->bh (sig []) [s.v, .func (.func 54) #[] #[]]=some [s.v, .func (.func 54) #[] #[]]:=fun s h=>by
  have:=rv s h
  have h2:aO (aq [] []) (.func (.func 54) #[] #[])=some (.func (.func 54) #[] #[]):=rfl
  show bh (aq [] []) _=_
  simp only[bh,this,h2]
 refine dJ (cZ T.leaf) (fn:=Try.f43) (by kernel_rfl) (by kernel_rfl) hz ⟨by decide,by decide⟩ (fun s' hs'=>⟨rfl,hs'.le,hs'.bb⟩) (N:=100) ?_
 refine cl z zn n l.length cp (dL z zn n l false) (fun s=>dL s.2 s.zn n l true) (fun _ _=>kF z zn C) _ ?_
 (repeat' first|(with_reducible first|exact rfl|exact True.intro|assumption|apply And.intro|exact hz|exact d1|exact d2 _ (by with_reducible assumption)|exact lp _ _ (by with_reducible assumption) (by with_reducible assumption)|exact srt _ (by with_reducible assumption)|exact bb (by with_reducible assumption)|exact kF.bb (by with_reducible assumption)|exact rw1 (by with_reducible assumption) _ _|exact rw2 (by with_reducible assumption) _ _|exact rv _ (by with_reducible assumption)|exact rl _ (by with_reducible assumption)|exact eB (by with_reducible assumption))|exact(rfl:Int.ofNat _=_)|exact(rfl:gH _ _=_)|exact hz|exact d1|exact d2 _ (by with_reducible assumption)|exact lp _ _ (by with_reducible assumption) (by with_reducible assumption)|exact srt _ (by with_reducible assumption)|exact bb (by with_reducible assumption)|exact kF.bb (by with_reducible assumption)|exact rw1 (by with_reducible assumption) _ _|exact rw2 (by with_reducible assumption) _ _|exact rv _ (by with_reducible assumption)|exact rl _ (by with_reducible assumption)|exact eB (by with_reducible assumption)|intro hq)
 rename_i x hx _
 exact q2 x hx rfl rfl rfl rfl rfl
theorem PU(hz:an z zn)(n:Nat)(hn:n<=64)(C:List ae)(hC: ∀d f,DF n [] d f->eP d f n n=C)(hS:kE C):
 aV Try.prog z zn 43 [aw,iv n] [] 0 0 (kF z zn C) (fun s=>s.v) (fun _=>[]) (fun s=>s.z) (fun s=>s.zn):=by
 have d1:=Eb hz n hn false
 have rw1: ∀{z zn b s},dL z zn n [] b s-> ∀σ c,aE (aq σ []) (aa.ay (aZ.mk s.cs c 1 117 true true 0 true))=some (aa.ay (aZ.mk s.cs c 1 117 true true 0 true)):=fun {z zn b s} ⟨E,_,h⟩ σ c=>by
  obtain⟨b,_,_,h,_⟩:=h.row
  rw[h];exact lG _ _ _ _ _
 have rw2: ∀{z zn b s},dL z zn n [] b s-> ∀σ c,aE (sig σ) (aa.ay (aZ.mk s.cs c 1 117 true true 0 true))=some (aa.ay (aZ.mk s.cs c 1 117 true true 0 true)):=fun h σ c=>rw1 h σ c
 have bb: ∀{z zn b s},dL z zn n [] b s->an s.2 s.zn:=fun {z zn b s} ⟨E,_,h⟩=>h.bb
 have d2: ∀s,dL z zn n [] false s->aV Try.prog s.2 s.zn 51 [aw,iv n,T1] [] 0 1 (dL s.2 s.zn n [] true) (fun _=>bc 0 n n) (fun s=>[(0,th s.cs n)]) (fun s=>s.z) (fun s=>s.zn):=fun s ⟨E,_,h⟩=>Eb h.bb n hn true
 have lp: ∀s1 s2,dL z zn n [] false s1->dL s1.2 s1.zn n [] true s2->ai Try.prog (ah (ag Try.f43) 0) 3 66 (vK n 0) (y7 n s1.cs s2.cs aw) 3 s2.2 s2.zn (Al.R (O9 n s1.cs s2.cs s2.2 s2.zn (fun s=>kF z zn C s)).l):=fun s1 s2 ⟨E,hE,h1⟩ ⟨F,hF,h2⟩=>by
  obtain⟨b1,d,p1,p2,p3,p4,p5⟩:=nF h1
  obtain⟨b2,f,q1,q2,q3,q4,q5⟩:=nF h2
  have hle:=h2.le
  have:=AH n hn b1 b2 d f (by omega) q2 (lE p4 p2 h2.fP) q4 h2.bb
  rw[hC d f ⟨E,F,hE,hF,p5,q5⟩] at this
  rw[p3,q3]
  refine oL this fun o ho=>?_
  rcases ho with ⟨s,hs,e⟩|ho
  ·exact .inl ⟨s,AS hs (Nat.le_trans h1.le hle) fun k hk=>(h2.fP k (by have:=h1.le;omega)).trans (h1.fP k hk),e⟩
  ·exact .inr ho
 have srt: ∀s,kF z zn C s->aQ Try.prog s.3 s.zn 53 [s.v, .func (.func 54) #[] #[]] [] 0 0 (fun _:Unit=>True) (fun _=> .tuple ⟨[]⟩) (fun _=>[]):=fun s hs=>hS z zn s hs
 have rv: ∀s,kF z zn C s->aO (aq [] []) s.v=some s.v:=fun s h=>by
  rcases h.val with ⟨_,e1,e2⟩|⟨_,kk,_,_,e1,e2,_⟩
  ·obtain⟨oa,k,z,zn⟩:=s
   simp only at e1 e2;subst e1 e2;rfl
  ·obtain⟨oa,k,z,zn⟩:=s
   simp only at e1 e2;subst e1 e2
   exact aT [] kk C.length C.length
 have rl: ∀s,kF z zn C s->bh (sig []) [s.v, .func (.func 54) #[] #[]]=some [s.v, .func (.func 54) #[] #[]]:=fun s h=>by
  have:=rv s h
  have h2:aO (aq [] []) (.func (.func 54) #[] #[])=some (.func (.func 54) #[] #[]):=rfl
  show bh (aq [] []) _=_
  simp only[bh,this,h2]
 refine dJ (cZ T.leaf) (fn:=Try.f43) (by kernel_rfl) (by kernel_rfl) hz ⟨by decide,by decide⟩ (fun s' hs'=>⟨rfl,hs'.le,hs'.bb⟩) (N:=100) ?_
 refine clz z zn n (dL z zn n [] false) (fun s=>dL s.2 s.zn n [] true) (fun _ _=>kF z zn C) _ ?_
 (repeat' first|(with_reducible first|exact rfl|exact True.intro|assumption|apply And.intro|exact hz|exact d1|exact d2 _ (by with_reducible assumption)|exact lp _ _ (by with_reducible assumption) (by with_reducible assumption)|exact srt _ (by with_reducible assumption)|exact bb (by with_reducible assumption)|exact kF.bb (by with_reducible assumption)|exact rw1 (by with_reducible assumption) _ _|exact rw2 (by with_reducible assumption) _ _|exact rv _ (by with_reducible assumption)|exact rl _ (by with_reducible assumption)|exact eB (by with_reducible assumption))|exact(rfl:Int.ofNat _=_)|exact(rfl:gH _ _=_)|exact hz|exact d1|exact d2 _ (by with_reducible assumption)|exact lp _ _ (by with_reducible assumption) (by with_reducible assumption)|exact srt _ (by with_reducible assumption)|exact bb (by with_reducible assumption)|exact kF.bb (by with_reducible assumption)|exact rw1 (by with_reducible assumption) _ _|exact rw2 (by with_reducible assumption) _ _|exact rv _ (by with_reducible assumption)|exact rl _ (by with_reducible assumption)|exact eB (by with_reducible assumption)|intro hq)
 rename_i x hx _
 exact q2 x hx rfl rfl rfl rfl rfl
end
def oX(C:List ae):Prop:= ∀(i j:Nat)(x y:ae),i<j->C[i]? =some x->C[j]? =some y->decide (qR y.from_ y.ax y.aI x.from_ x.ax x.aI<0)=false
abbrev AR(C:List ae):aZ:=⟨(C.map ae.row).flatten,C.length*4,4,89,false,false,0,true⟩
theorem kO{C:List ae}{i:Nat}{x:ae}(hx:C[i]? =some x):aB Try.prog (AR C) 89 (0+i*4)=some (.agg ⟨x.row⟩):=
 gE (rows:=C.map ae.row) rfl (r:=x.row) (sz:=4) Try.underlying89 rfl rfl (aM (row:=ae.row) (sz:=4) C fun _=>rfl) (by rw[List.getElem?_map,hx];rfl)
theorem Js{z:T aa}{zn:Nat}(hz:an z zn){f:Nat}{args:List Value}{v:Value}(hp:bH args=true)(hv:az v=true)(h: ∀w,Calls Try.prog f ⟨args⟩ w fun e w'=>e= .returned v/\w'=w):A1 z zn f args [] 0 0 v []:=by
 refine⟨hz,Nat.le_refl _,by decide,fun _ _=>Jm hz (fun b o h=>by cases h),fun ρ w args' n hargs hh hf hfb=>callsIn_wide.2 ?_⟩
 have e:=hargs.plain hp
 subst e
 exact(h w).mono fun e w' ⟨h1,h2⟩=>⟨(),trivial,ρ,v,h1,VR.bq hv,by rw[h2];exact hh,by rw[h2];exact g6.refl _ _ _ _ _ _ _⟩
section
variable{z:T aa}{zn kk:Nat}{C:List ae}
theorem SO(hz:an z zn)(hk:z.get kk=some (.ay (AR C)))(hS:oX C){a b n:Nat}(hn:n=C.length)(hab:a<b)(hb:b<C.length):
 A1 z zn 92 [tb kk n n,iv a,iv b,ip 0,iR] [(0,Kc)] 1 1 (.tuple ⟨[iv a,iv b]⟩) [(0,Kc)]:=by
 subst hn
 obtain⟨x,hx⟩: ∃x,C[a]? =some x:=⟨_,List.getElem?_eq_getElem (by omega)⟩
 obtain⟨y,hy⟩: ∃y,C[b]? =some y:=⟨_,List.getElem?_eq_getElem hb⟩
 have hc:=hS a b x y hab hx hy
 have r1:=kO hx
 have r2:=kO hy
 have hc':Value.bool (decide (qR y.from_ y.ax y.aI x.from_ x.ax x.aI<0))= .bool false:=by rw[hc]
 refine bt (my z) (fn:=Try.f92) (by kernel_rfl) (by kernel_rfl) hz ⟨by decide,by decide⟩ rfl (N:=100) ?_
 refine jo2 z zn kk C.length a b (AR C) x y _ ?_
 (repeat' first|(with_reducible first|exact rfl|exact True.intro|assumption|apply And.intro|exact hz|exact hk|exact r1|exact r2|exact hb|exact(by omega:a<C.length)|exact hc'|exact q1)|exact(rfl:Int.ofNat _=_)|exact(rfl:gS _ _=_)|exact hz|exact hk|exact r1|exact r2|exact hb|exact(by omega:a<C.length)|exact hc'|exact q1|intro hq)
theorem SQ(hz:an z zn)(hk:z.get kk=some (.ay (AR C)))(hS:oX C){a b c n:Nat}(hn:n=C.length)(hab:a<b)(hbc:b<c)(hc:c<C.length):
 A1 z zn 87 [tb kk n n,iv a,iv b,iv c,ip 0,iR] [(0,Kc)] 1 1 (iv b) [(0,Kc)]:=by
 have h1:=SO hz hk hS hn hab (by omega)
 have h2:=SO hz hk hS hn hbc hc
 refine bt (my z) (fn:=Try.f87) (by kernel_rfl) (by kernel_rfl) hz ⟨by decide,by decide⟩ rfl (N:=100) ?_
 refine jmd z zn kk n a b c _ ?_
 (repeat' first|(with_reducible first|exact rfl|exact True.intro|assumption|apply And.intro|exact hz|exact h1|exact h2|exact q1)|exact(rfl:Int.ofNat _=_)|exact(rfl:gS _ _=_)|exact hz|exact h1|exact h2|exact q1|intro hq)
theorem nX{x:Int}(h: -9223372036854775808<=x)(h2:x<=9223372036854775807):Value.int .i64 (IntKind.i64.wrap x)=Value.int .i64 x:=by
 have:IntKind.i64.wrap x=x:=by
  simp only[IntKind.wrap,IntKind.signed,IntKind.bits]
  simp
  omega
 rw[this]
theorem PO(hz:an z zn)(hk:z.get kk=some (.ay (AR C)))(hS:oX C){a n:Nat}(hn:n=C.length)(hc:a+2<C.length)(hs:C.length<100000):
 A1 z zn 86 [tb kk n n,iv (a+1),ip 0,iR] [(0,Kc)] 1 1 (iv (a+1)) [(0,Kc)]:=by
 have h1:=SQ hz hk hS hn (show a<a+1 by omega) (show a+1<a+2 by omega) hc
 have e:(((a+1:Nat):Int) - 1)=(a:Int):=by omega
 have w1:Value.int .i64 (IntKind.i64.wrap (((a+1:Nat):Int) - 1))=Value.int .i64 (((a+1:Nat):Int) - 1):=nX (by omega) (by omega)
 have w2:Value.int .i64 (IntKind.i64.wrap (((a+1:Nat):Int)+1))=Value.int .i64 ((a+1+1:Nat):Int):=aG (by omega)
 refine bt (my z) (fn:=Try.f86) (by kernel_rfl) (by kernel_rfl) hz ⟨by decide,by decide⟩ rfl (N:=100) ?_
 refine jma z zn kk n a _ ?_
 rw[e] at w1 ⊢
 (repeat' first|(with_reducible first|exact rfl|exact True.intro|assumption|apply And.intro|exact hz|exact h1|exact w1|exact w2|exact q1)|exact(rfl:Int.ofNat _=_)|exact(rfl:gS _ _=_)|exact hz|exact h1|exact w1|exact w2|exact q1|intro hq)
theorem WX(hz:an z zn)(hk:z.get kk=some (.ay (AR C)))(hS:oX C){n:Nat}(hn:n=C.length)(h8:12<n)(hs:C.length<100000):
 A1 z zn 71 [tb kk n n,I 0,iv n,iR] [] 0 1 (.tuple ⟨[iv (n / 4*2),I 1]⟩) []:=by
 have e0:((n:Int) - 0).tdiv 4=((n / 4:Nat):Int):=by rw[Int.sub_zero];rfl
 obtain⟨q,hv⟩: ∃q,n / 4=q:=⟨_,rfl⟩
 rw[hv] at e0 ⊢
 have e1:(0+(q:Int)*1)=((q:Nat):Int):=by omega
 have e2:(0+(q:Int)*2)=((q*2:Nat):Int):=by omega
 have e3:(0+(q:Int)*3)=((q*3:Nat):Int):=by omega
 have hq3:3<=q:=by omega
 have hq4:q*4<=n:=by omega
 have w0:Value.int .i64 (IntKind.i64.wrap ((n:Int) - 0))=Value.int .i64 ((n:Int) - 0):=nX (by omega) (by omega)
 have w1:Value.int .i64 (IntKind.i64.wrap (q:Int))=Value.int .i64 (q:Int):=nX (by omega) (by omega)
 have w2: ∀c:Int,0<=c->c<=3->Value.int .i64 (IntKind.i64.wrap ((q:Int)*c))=Value.int .i64 ((q:Int)*c):=fun c h1 h2=>nX (by
  have:c=0\/c=1\/c=2\/c=3:=by omega
  rcases this with rfl|rfl|rfl|rfl<;>omega) (by
  have:c=0\/c=1\/c=2\/c=3:=by omega
  rcases this with rfl|rfl|rfl|rfl<;>omega)
 have w3: ∀c:Nat,c<=3->Value.int .i64 (IntKind.i64.wrap ((q*c:Nat):Int))=Value.int .i64 ((q*c:Nat):Int):=fun c h2=>nX (by omega) (by
  have:q*c<=q*3:=Nat.mul_le_mul_left _ h2
  omega)
 have d8:Value.bool (decide ((n:Int) - 0>=8))=T1:=by rw[show decide ((n:Int) - 0>=8)=true by simp;omega]
 have m1:=SQ hz hk hS hn (show q<q*2 by omega) (show q*2<q*3 by omega) (by omega)
 obtain⟨q',rfl⟩: ∃q',q=q'+1:=⟨q - 1,by omega⟩
 have g1:=PO hz hk hS (a:=q') hn (by omega) hs
 have g2:=PO hz hk hS (a:=(q'+1)*2 - 1) hn (by omega) hs
 have g3:=PO hz hk hS (a:=(q'+1)*3 - 1) hn (by omega) hs
 rw[show(q'+1)*2 - 1+1=(q'+1)*2 by omega] at g2
 rw[show(q'+1)*3 - 1+1=(q'+1)*3 by omega] at g3
 have w31:=w3 1 (by omega)
 rw[Nat.mul_one] at w31
 refine bt (my z) (fn:=Try.f71) (by kernel_rfl) (by kernel_rfl) hz ⟨by decide,by decide⟩ rfl (N:=100) ?_
 refine jcp z zn kk n 0 0 0 _ ?_
 rw[e0,e1,e2,e3]
 (repeat' first|(with_reducible first|exact rfl|exact True.intro|assumption|apply And.intro|exact hz|exact w0|exact w1|exact w2 _ (by decide) (by decide)|exact w3 _ (by decide)|exact w31|exact d8|exact m1|exact g1|exact g2|exact g3|exact q1)|exact(rfl:Int.ofNat _=_)|exact(rfl:gS _ _=_)|exact hz|exact w0|exact w1|exact w2 _ (by decide) (by decide)|exact w3 _ (by decide)|exact w31|exact d8|exact m1|exact g1|exact g2|exact g3|exact q1|intro hq)
theorem Lp(hz:an z zn)(hk:z.get kk=some (.ay (AR C)))(hS:oX C){n:Nat}(hn:n=C.length)(i:Nat)(hi:0<i)(hin:i<n)(hs:C.length<100000):
 ai Try.prog (ah (ah (ag Try.f68) 0) 0) 0 53 (E2 (tb kk n n) n i i) [] 0 z zn (Al.R (VZ z zn (tb kk n n) n i).l):=by
 subst hn
 obtain⟨j,rfl⟩: ∃j,i=j+1:=⟨i - 1,by omega⟩
 obtain⟨x,hx⟩: ∃x,C[j]? =some x:=⟨_,List.getElem?_eq_getElem (by omega)⟩
 obtain⟨y,hy⟩: ∃y,C[j+1]? =some y:=⟨_,List.getElem?_eq_getElem hin⟩
 have hc:=hS j (j+1) x y (by omega) hx hy
 have r1:=kO hx
 have r2:=kO hy
 have hc':Value.bool (decide (qR y.from_ y.ax y.aI x.from_ x.ax x.aI<0))= .bool false:=by rw[hc]
 have w1:Value.int .i64 (IntKind.i64.wrap (((j+1:Nat):Int) - 1))=Value.int .i64 (((j+1:Nat):Int) - 1):=nX (by omega) (by omega)
 refine ak hD (my z) (α:=Unit) 0 53 0 (fun _=>True) (fun _=>E2 (tb kk C.length C.length) C.length (j+1) (j+1)) (fun _=>[]) (fun _=>z) (fun _=>zn) (fun _=>0) _ (fun _ hI=>?_) () trivial
 refine t100 (ji1 z zn kk C.length (j+1) j (AR C) x y (aj _ _ _ _ _ _ _ _ _) ?_)
 (repeat' first|(with_reducible first|exact rfl|exact True.intro|assumption|apply And.intro|exact hz|exact hk|exact r1|exact r2|exact hin|exact(by omega:j<C.length)|exact hc'|exact w1|exact(by omega:((j+1:Nat):Int) - 1=(j:Int)))|exact(rfl:Int.ofNat _=_)|exact(rfl:gS _ _=_)|exact hz|exact hk|exact r1|exact r2|exact hin|exact(by omega:j<C.length)|exact hc'|exact w1|exact(by omega:((j+1:Nat):Int) - 1=(j:Int))|intro hq)
 all_goals first
  |exact bJ trivial
theorem Lq(hz:an z zn)(hk:z.get kk=some (.ay (AR C)))(hS:oX C){n:Nat}(hn:n=C.length)(hs:C.length<100000):
 ai Try.prog (ah (ag Try.f68) 0) 0 53 (pG (tb kk n n) n 1) [] 0 z zn (Al.R (Sk z zn (tb kk n n) n).l):=by
 refine ak hD (my z) (α:=Nat) 0 53 0 (fun i=>0<i/\i<=n+1) (fun i=>pG (tb kk n n) n i) (fun _=>[]) (fun _=>z) (fun _=>zn) (fun i=>n+1 - i) _ (fun i hI=>?_) 1 ⟨by omega,by omega⟩
 obtain⟨h1,h2⟩:=hI
 refine t100 (ji0 z zn kk n i (aj _ _ _ _ _ _ _ _ _) ?_)
 by_cases hi:i<n
 ·have hL:=Lp hz hk hS hn i h1 hi hs
  have d1:decide ((i:Int)<(n:Int))=true:=by simp;omega
  refine⟨fun _=>?_,fun h=>(by rw[d1] at h;cases h)⟩
  (repeat' first|(with_reducible first|exact rfl|exact True.intro|assumption|apply And.intro|exact hz|exact hL|exact aG (by omega))|exact(rfl:Int.ofNat _=_)|exact(rfl:gS _ _=_)|exact hz|exact hL|exact aG (by omega)|intro hq)
  all_goals first
   |exact⟨i+1,rfl,rfl,rfl,rfl,rfl,⟨by omega,by omega⟩,by show n+1 - (i+1)<n+1 - i;omega⟩
 ·have d1:decide ((i:Int)<(n:Int))=false:=by simp;omega
  refine⟨fun h=>(by rw[d1] at h;cases h),fun _=>?_⟩
  (repeat' first|(with_reducible first|exact rfl|exact True.intro|assumption|apply And.intro|exact hz)|exact(rfl:Int.ofNat _=_)|exact(rfl:gS _ _=_)|exact hz|intro hq)
  all_goals exact bJ trivial
theorem SV(hz:an z zn)(hk:z.get kk=some (.ay (AR C)))(hS:oX C){n:Nat}(hn:n=C.length)(hs:C.length<100000):
 A1 z zn 68 [tb kk n n,I 0,iv n,iR] [] 0 0 (.tuple ⟨[]⟩) []:=by
 have hL:=Lq hz hk hS hn hs
 refine bt (my z) (fn:=Try.f68) (by kernel_rfl) (by kernel_rfl) hz ⟨by decide,by decide⟩ rfl (N:=100) ?_
 refine ji z zn kk n _ ?_
 (repeat' first|(with_reducible first|exact rfl|exact True.intro|assumption|apply And.intro|exact hz|exact hL|exact q1)|exact(rfl:Int.ofNat _=_)|exact(rfl:gS _ _=_)|exact hz|exact hL|exact q1|intro hq)
theorem PR(hz:an z zn):A1 z zn 68 [aw,I 0,iv 0,iR] [] 0 0 (.tuple ⟨[]⟩) []:=by
 have hL:ai Try.prog (ah (ag Try.f68) 0) 0 53 (pG aw 0 1) [] 0 z zn (Al.R (Sk z zn aw 0).l):=by
  refine ak hD (my z) (α:=Unit) 0 53 0 (fun i=>True) (fun i=>pG aw 0 1) (fun _=>[]) (fun _=>z) (fun _=>zn) (fun i=>0) _ (fun i hI=>?_) () trivial
  refine t100 (Wd z zn (aj _ _ _ _ _ _ _ _ _) ?_)
  (repeat' first|(with_reducible first|exact rfl|exact True.intro|assumption|apply And.intro|exact hz)|exact(rfl:Int.ofNat _=_)|exact(rfl:gS _ _=_)|exact hz|intro hq)
  all_goals exact bJ trivial
 refine bt (my z) (fn:=Try.f68) (by kernel_rfl) (by kernel_rfl) hz ⟨by decide,by decide⟩ rfl (N:=100) ?_
 refine jiz z zn _ ?_
 (repeat' first|(with_reducible first|exact rfl|exact True.intro|assumption|apply And.intro|exact hz|exact hL|exact q1)|exact(rfl:Int.ofNat _=_)|exact(rfl:gS _ _=_)|exact hz|exact hL|exact q1|intro hq)
theorem K8(hz:an z zn)(hk:z.get kk=some (.ay (AR C)))(hS:oX C){n:Nat}(hn:n=C.length)(h1n:1<=n)(hs:C.length<100000):
 ai Try.prog (ah (ah (ag Try.f73) 0) 0) 0 141 (jE kk n 1 0) [] 0 z zn (Al.R (RZ z zn kk n).l):=by
 subst hn
 refine ak hD (my z) (α:=Nat) 0 141 0 (fun i=>i<C.length) (fun i=>jE kk C.length (i+1) 0) (fun _=>[]) (fun _=>z) (fun _=>zn) (fun i=>C.length - i) _ (fun i hI=>?_) 0 h1n
 obtain⟨x,hx⟩: ∃x,C[i]? =some x:=⟨_,List.getElem?_eq_getElem hI⟩
 by_cases hi:i+1<C.length
 ·obtain⟨y,hy⟩: ∃y,C[i+1]? =some y:=⟨_,List.getElem?_eq_getElem hi⟩
  have hc:=hS i (i+1) x y (by omega) hx hy
  have r1:=kO hx
  have r2:=kO hy
  have hc':Value.bool (decide (qR y.from_ y.ax y.aI x.from_ x.ax x.aI<0))= .bool false:=by rw[hc]
  have w1:Value.int .i64 (IntKind.i64.wrap (((i+1:Nat):Int) - 1))=Value.int .i64 (((i+1:Nat):Int) - 1):=nX (by omega) (by omega)
  have d1:decide (((i+1:Nat):Int)<(C.length:Int))=true:=by simp;omega
  refine t100 (Zh z zn kk C.length i (AR C) x y (aj _ _ _ _ _ _ _ _ _) ⟨fun _=>?_,fun h=>(by rw[d1] at h;cases h)⟩)
  (repeat' first|(with_reducible first|exact rfl|exact True.intro|assumption|apply And.intro|exact hz|exact hk|exact r1|exact r2|exact hi|exact hI|exact hc'|exact w1|exact(by omega:((i+1:Nat):Int) - 1=(i:Int))|exact aG (by omega))|exact(rfl:Int.ofNat _=_)|exact(rfl:gS _ _=_)|exact hz|exact hk|exact r1|exact r2|exact hi|exact hI|exact hc'|exact w1|exact(by omega:((i+1:Nat):Int) - 1=(i:Int))|exact aG (by omega)|intro hq)
  all_goals first
   |exact⟨i+1,rfl,rfl,rfl,rfl,rfl,hi,by show C.length - (i+1)<C.length - i;omega⟩
 ·have d1:decide (((i+1:Nat):Int)<(C.length:Int))=false:=by simp;omega
  refine t100 (Zh z zn kk C.length i (AR C) x x (aj _ _ _ _ _ _ _ _ _) ⟨fun h=>(by rw[d1] at h;cases h),fun _=>?_⟩)
  have e:i+1=C.length:=by omega
  rw[←e]
  (repeat' first|(with_reducible first|exact rfl|exact True.intro|assumption|apply And.intro|exact hz)|exact(rfl:Int.ofNat _=_)|exact(rfl:gS _ _=_)|exact hz|intro hq)
  all_goals exact bJ trivial
theorem K9(hz:an z zn)(hk:z.get kk=some (.ay (AR C)))(hS:oX C){n:Nat}(hn:n=C.length)(h1n:1<=n)(hs:C.length<100000):
 ai Try.prog (ah (ag Try.f73) 0) 0 141 (jE kk n 1 0) [] 0 z zn (Al.R (R0 z zn kk n).l):=by
 have hL:=K8 hz hk hS hn h1n hs
 refine ak hD (my z) (α:=Unit) 0 141 0 (fun _=>True) (fun _=>jE kk n 1 0) (fun _=>[]) (fun _=>z) (fun _=>zn) (fun _=>0) _ (fun i hI=>?_) () trivial
 have hb:Value.bool ((n:Int)==(n:Int))=Value.bool true:=by simp
 refine t100 (jq0 z zn kk n (aj _ _ _ _ _ _ _ _ _) ?_)
 (repeat' first|(with_reducible first|exact rfl|exact True.intro|assumption|apply And.intro|exact hz|exact hL|exact hb)|exact(rfl:Int.ofNat _=_)|exact(rfl:gS _ _=_)|exact hz|exact hL|exact hb|intro hq)
 all_goals first
  |exact bJ trivial
theorem PM(hz:an z zn)(hk:z.get kk=some (.ay (AR C)))(hS:oX C){n:Nat}(hn:n=C.length)(h1n:1<=n)(hs:C.length<100000):
 A1 z zn 73 [tb kk n n,I 0,iv n,iR] [] 0 0 T1 []:=by
 have hL:=K9 hz hk hS hn h1n hs
 refine bt (my z) (fn:=Try.f73) (by kernel_rfl) (by kernel_rfl) hz ⟨by decide,by decide⟩ rfl (N:=100) ?_
 refine jq z zn kk n _ ?_
 (repeat' first|(with_reducible first|exact rfl|exact True.intro|assumption|apply And.intro|exact hz|exact hL|exact q1)|exact(rfl:Int.ofNat _=_)|exact(rfl:gS _ _=_)|exact hz|exact hL|exact q1|intro hq)
theorem SK(hz:an z zn)(hk:z.get kk=some (.ay (AR C)))(hS:oX C){n:Nat}(hn:n=C.length)(hs:C.length<100000)(l:Nat)(hl:12<n->0<l):
 A1 z zn 61 [tb kk n n,I 0,iv n,iv l,iR] [] 0 0 (.tuple ⟨[]⟩) []:=by
 have hL:ai Try.prog (ah (ag Try.f61) 0) 0 148 (uj (tb kk n n) n l) [] 0 z zn (Al.R (Sb z zn (tb kk n n) n l).l):=by
  refine ak hD (my z) (α:=Unit) 0 148 0 (fun _=>True) (fun _=>uj (tb kk n n) n l) (fun _=>[]) (fun _=>z) (fun _=>zn) (fun _=>0) _ (fun i hI=>?_) () trivial
  have w0:Value.int .i64 (IntKind.i64.wrap ((n:Int) - 0))=Value.int .i64 ((n:Int) - 0):=nX (by omega) (by omega)
  refine t100 (jp0 z zn kk n l (n / 4*2) (aj _ _ _ _ _ _ _ _ _) ⟨w0,?_⟩)
  by_cases h12:n<=12
  ·have d1:decide ((n:Int) - 0<=12)=true:=by simp;omega
   have h1:=SV hz hk hS hn hs
   refine⟨fun _=>?_,fun h=>(by rw[d1] at h;cases h)⟩
   (repeat' first|(with_reducible first|exact rfl|exact True.intro|assumption|apply And.intro|exact hz|exact h1)|exact(rfl:Int.ofNat _=_)|exact(rfl:gS _ _=_)|exact hz|exact h1|intro hq)
   all_goals exact bJ trivial
  ·have d1:decide ((n:Int) - 0<=12)=false:=by simp;omega
   have h1:=WX hz hk hS hn (by omega) hs
   have h2:=PM hz hk hS hn (by omega) hs
   have hl0:Value.bool ((l:Int)==0)=Value.bool false:=by
    have:=hl (by omega)
    rw[show((l:Int)==0)=false by simp;omega]
   refine⟨fun h=>(by rw[d1] at h;cases h),fun _=>?_⟩
   (repeat' first|(with_reducible first|exact rfl|exact True.intro|assumption|apply And.intro|exact hz|exact h1|exact h2|exact hl0)|exact(rfl:Int.ofNat _=_)|exact(rfl:gS _ _=_)|exact hz|exact h1|exact h2|exact hl0|intro hq)
   all_goals exact bJ trivial
 refine bt (my z) (fn:=Try.f61) (by kernel_rfl) (by kernel_rfl) hz ⟨by decide,by decide⟩ rfl (N:=100) ?_
 refine jp z zn n l kk _ ?_
 (repeat' first|(with_reducible first|exact rfl|exact True.intro|assumption|apply And.intro|exact hz|exact hL|exact q1)|exact(rfl:Int.ofNat _=_)|exact(rfl:gS _ _=_)|exact hz|exact hL|exact q1|intro hq)
theorem PL(hz:an z zn)(l:Nat):A1 z zn 61 [aw,I 0,iv 0,iv l,iR] [] 0 0 (.tuple ⟨[]⟩) []:=by
 have hL:ai Try.prog (ah (ag Try.f61) 0) 0 148 (uj aw 0 l) [] 0 z zn (Al.R (Sb z zn aw 0 l).l):=by
  refine ak hD (my z) (α:=Unit) 0 148 0 (fun _=>True) (fun _=>uj aw 0 l) (fun _=>[]) (fun _=>z) (fun _=>zn) (fun _=>0) _ (fun i hI=>?_) () trivial
  refine t100 (Wa z zn l (aj _ _ _ _ _ _ _ _ _) ?_)
  have h1:=PR hz
  (repeat' first|(with_reducible first|exact rfl|exact True.intro|assumption|apply And.intro|exact hz|exact h1)|exact(rfl:Int.ofNat _=_)|exact(rfl:gS _ _=_)|exact hz|exact h1|intro hq)
  all_goals exact bJ trivial
 refine bt (my z) (fn:=Try.f61) (by kernel_rfl) (by kernel_rfl) hz ⟨by decide,by decide⟩ rfl (N:=100) ?_
 refine jpz z zn l _ ?_
 (repeat' first|(with_reducible first|exact rfl|exact True.intro|assumption|apply And.intro|exact hz|exact hL|exact q1)|exact(rfl:Int.ofNat _=_)|exact(rfl:gS _ _=_)|exact hz|exact hL|exact q1|intro hq)
theorem Je(hz:an z zn){n:Nat}(h:n<100000):A1 z zn 62 [.int .u64 (IntKind.u64.wrap (n:Int))] [] 0 0 (iv (Lib.bitLen n)) []:=by
 have:IntKind.u64.wrap (n:Int)=(n:Int):=by
  simp only[IntKind.wrap,IntKind.signed,IntKind.bits]
  simp
  omega
 rw[this]
 refine Js hz rfl rfl fun w=>?_
 have:=Ms (n:Int) w (by omega) (by omega)
 rw[Int.toNat_natCast] at this
 exact this
theorem CO{n:Nat}(h:12<n):0<Lib.bitLen n:=by
 unfold Lib.bitLen Lib.bitLenAux
 rw[if_neg (by omega)];omega
theorem PE(hz:an z zn)(hk:z.get kk=some (.ay (AR C)))(hS:oX C){n:Nat}(hn:n=C.length)(hs:C.length<100000):
 A1 z zn 53 [tb kk n n,iR] [] 0 0 (.tuple ⟨[]⟩) []:=by
 have h1:=Je hz (n:=n) (by omega)
 have h2:=SK hz hk hS hn hs (Lib.bitLen n) CO
 refine bt (my z) (fn:=Try.f53) (by kernel_rfl) (by kernel_rfl) hz ⟨by decide,by decide⟩ rfl (N:=100) ?_
 refine js z zn kk n (Lib.bitLen n) _ ?_
 (repeat' first|(with_reducible first|exact rfl|exact True.intro|assumption|apply And.intro|exact hz|exact h1|exact h2|exact q1)|exact(rfl:Int.ofNat _=_)|exact(rfl:gS _ _=_)|exact hz|exact h1|exact h2|exact q1|intro hq)
theorem Mc(hz:an z zn):A1 z zn 53 [aw,iR] [] 0 0 (.tuple ⟨[]⟩) []:=by
 have h1:A1 z zn 62 [.int .u64 0] [] 0 0 (iv (Lib.bitLen 0)) []:=Je hz (n:=0) (by omega)
 have h2:=PL hz (Lib.bitLen 0)
 refine bt (my z) (fn:=Try.f53) (by kernel_rfl) (by kernel_rfl) hz ⟨by decide,by decide⟩ rfl (N:=100) ?_
 refine jsz z zn (Lib.bitLen 0) _ ?_
 (repeat' first|(with_reducible first|exact rfl|exact True.intro|assumption|apply And.intro|exact hz|exact h1|exact h2|exact q1)|exact(rfl:Int.ofNat _=_)|exact(rfl:gS _ _=_)|exact hz|exact h1|exact h2|exact q1|intro hq)
end
theorem v9{C:List ae}(hS:oX C)(hs:C.length<100000):kE C:=fun z zn s h=>by
 obtain⟨oa,k,z',zn'⟩:=s
 have hz:=h.bb
 rcases h.val with ⟨h1,h2,h3⟩|⟨h1,kk,k1,k2,h2,h3,h4⟩<;>simp only at h2 h3 hz
 ·subst h2 h3
  exact Mc hz
 ·simp only at h4
  subst h2 h3
  exact PE hz h4 hS rfl hs
def Ts(pv:Value):Prop:=(∃m cp,pv=tb 4 m cp)\/pv=aw
def eJ(k:Nat):List Value:=List.replicate k (I 1099511627776)
theorem qb(k:Nat):(eJ k).length=k:=by simp[eJ]
theorem xr(k:Nat):eJ (k+1)=eJ k++[I 1099511627776]:=by simp[eJ,List.replicate_succ']
theorem tM(k:Nat):bH (eJ k)=true:=by
 rw[c7];intro v hv;rw[(List.mem_replicate.1 hv).2];rfl
theorem eF(σ:Nat->Option Nat)(k c:Nat)(x y:Bool):aE σ (.ay (aZ.mk (eJ k) c 1 3 x y 0 true))=some (.ay (aZ.mk (eJ k) c 1 3 x y 0 true)):=cG (tM k)
abbrev zL(cs:List Value)(n:Nat):aZ:=⟨cs,n*1,1,3,false,false,0,true⟩
abbrev Qt(cs:List Value)(k:Nat):aZ:=⟨cs,k*1,1,117,false,false,0,true⟩
def dO(b n i:Nat):aZ:=if i=0 then ⟨[],0,1,117,true,true,0,true⟩ else Qt (k9 b n i) i
section
variable{z:T aa}{zn:Nat}
theorem Hx(hz:an z zn)(pv:Value)(hp:Ts pv)(n:Nat)(h0:0<n)(hn:n<=64)(b:Bool)(i:Nat)(bl:aZ)(hbl: ∀σ,aE (aq ((3,3)::σ) []) (.ay bl)=some (.ay bl)):
 ai Try.prog (ah (ah (ag Try.f57) 0) 0) 3 116 (lM pv n b i 0) [(3, .ay bl),(4,EG)] 5 z zn (Al.R (O1 z zn pv n b i (.ay bl) (eJ n)).l):=by
 refine ak hD (cZ T.leaf) (α:=Nat) 3 116 5 (fun k=>k<=n) (fun k=>lM pv n b i k) (fun k=>[(3, .ay bl),(4,if k=0 then EG else zM (eJ k) k)]) (fun _=>z) (fun _=>zn) (fun k=>n - k) _ (fun k hk=>?_) 0 (Nat.zero_le _)
 have nx: ∀k',k'=k+1->k<n->aj (fun k=>k<=n) (fun k=>lM pv n b i k) (fun k=>[(3, .ay bl),(4,if k=0 then EG else zM (eJ k) k)]) 5 (fun _=>z) (fun _=>zn) (fun k=>n - k) (Al.R (O1 z zn pv n b i (.ay bl) (eJ n)).l) k .normal (lM pv n b i k') [(3, .ay bl),(4,zM (eJ k') k')] 5 z zn:=fun k' e h=>by
  subst e
  exact⟨k+1,rfl,by show _=[(3,aa.ay bl),(4,if k+1=0 then EG else zM (eJ (k+1)) (k+1))];rw[if_neg (Nat.succ_ne_zero _)],rfl,rfl,rfl,h,by show n - (k+1)<n - k;omega⟩
 by_cases hk0:k=0
 ·subst hk0
  have hc:decide ((0:Int)<(n:Int))=true:=by simp;omega
  rw[if_pos rfl]
  rcases hp with ⟨m,cp,rfl⟩|rfl
  ·refine t100 (Vg z zn n i m cp b bl (aj _ _ _ _ _ _ _ _ _) ⟨fun _=>?_,fun h=>(by rw[hc] at h;cases h)⟩)
   (repeat' first|(with_reducible first|exact rfl|exact True.intro|assumption|apply And.intro|exact hz|exact hbl _)|exact(rfl:Int.ofNat _=_)|exact(rfl:gH _ _=_)|exact hz|exact hbl _|intro hq)
   exact nx 1 rfl h0
  ·refine t100 (Rn z zn n i b bl (aj _ _ _ _ _ _ _ _ _) ⟨fun _=>?_,fun h=>(by rw[hc] at h;cases h)⟩)
   (repeat' first|(with_reducible first|exact rfl|exact True.intro|assumption|apply And.intro|exact hz|exact hbl _)|exact(rfl:Int.ofNat _=_)|exact(rfl:gH _ _=_)|exact hz|exact hbl _|intro hq)
   exact nx 1 rfl h0
 ·rw[if_neg hk0]
  by_cases hlt:k<n
  ·have hc:decide ((k:Int)<(n:Int))=true:=by simp;omega
   have hr: ∀σ c x y,aE σ (.ay (aZ.mk (eJ k++[I 1099511627776]) c 1 3 x y 0 true))=some (.ay (aZ.mk (eJ k++[I 1099511627776]) c 1 3 x y 0 true)):=fun σ c x y=>by rw[←xr];exact eF _ _ _ _ _
   have fC:aj (fun k=>k<=n) (fun k=>lM pv n b i k) (fun k=>[(3, .ay bl),(4,if k=0 then EG else zM (eJ k) k)]) 5 (fun _=>z) (fun _=>zn) (fun k=>n - k) (Al.R (O1 z zn pv n b i (.ay bl) (eJ n)).l) k .normal (lM pv n b i (k+1)) [(3, .ay bl),(4,zM (eJ k++[I 1099511627776]) (k+1))] 5 z zn:=by
    rw[←xr];exact nx (k+1) rfl hlt
   rcases hp with ⟨m,cp,rfl⟩|rfl
   ·refine t100 (XP z zn n i k m cp b bl (eJ k) (aj _ _ _ _ _ _ _ _ _) ⟨fun _=>?_,fun h=>(by rw[hc] at h;cases h)⟩)
    (repeat' first|(with_reducible first|exact rfl|exact True.intro|assumption|apply And.intro|exact hz|exact hbl _|exact hr _ _ _ _|exact(by rw[qb,Nat.mul_one]:(eJ k).length=k*1)|exact(by omega:k+1<=1048576)|exact aG (by omega))|exact(rfl:Int.ofNat _=_)|exact(rfl:gH _ _=_)|exact hz|exact hbl _|exact hr _ _ _ _|exact(by rw[qb,Nat.mul_one]:(eJ k).length=k*1)|exact(by omega:k+1<=1048576)|exact aG (by omega)|intro hq)
    exact fC
   ·refine t100 (Ro z zn n i k b bl (eJ k) (aj _ _ _ _ _ _ _ _ _) ⟨fun _=>?_,fun h=>(by rw[hc] at h;cases h)⟩)
    (repeat' first|(with_reducible first|exact rfl|exact True.intro|assumption|apply And.intro|exact hz|exact hbl _|exact hr _ _ _ _|exact(by rw[qb,Nat.mul_one]:(eJ k).length=k*1)|exact(by omega:k+1<=1048576)|exact aG (by omega))|exact(rfl:Int.ofNat _=_)|exact(rfl:gH _ _=_)|exact hz|exact hbl _|exact hr _ _ _ _|exact(by rw[qb,Nat.mul_one]:(eJ k).length=k*1)|exact(by omega:k+1<=1048576)|exact aG (by omega)|intro hq)
    exact fC
  ·have hc:decide ((k:Int)<(n:Int))=false:=by simp;omega
   have:k=n:=by omega
   subst this
   rcases hp with ⟨m,cp,rfl⟩|rfl
   ·refine t100 (XP z zn k i k m cp b bl (eJ k) (aj _ _ _ _ _ _ _ _ _) ⟨fun h=>(by rw[hc] at h;cases h),fun _=>?_⟩)
    (repeat' first|(with_reducible first|exact rfl|exact True.intro|assumption|apply And.intro|exact hz|exact hbl _|exact eF _ _ _ _ _)|exact(rfl:Int.ofNat _=_)|exact(rfl:gH _ _=_)|exact hz|exact hbl _|exact eF _ _ _ _ _|intro hq)
    exact bJ trivial
   ·refine t100 (Ro z zn k i k b bl (eJ k) (aj _ _ _ _ _ _ _ _ _) ⟨fun h=>(by rw[hc] at h;cases h),fun _=>?_⟩)
    (repeat' first|(with_reducible first|exact rfl|exact True.intro|assumption|apply And.intro|exact hz|exact hbl _|exact eF _ _ _ _ _)|exact(rfl:Int.ofNat _=_)|exact(rfl:gH _ _=_)|exact hz|exact hbl _|exact eF _ _ _ _ _|intro hq)
    exact bJ trivial
structure iW(z0:T aa)(n0 n i:Nat)(s:dy):Prop where
 bb:an s.z s.zn
 zn:s.zn=n0+i
 fP: ∀k,k<n0->s.z.get k=z0.get k
 row: ∀j,j<i->s.z.get (n0+j)=some (.ay (zL (eJ n) n))
 bl:s.bl=dO n0 n i
theorem lH{σ:bd}(b n i c:Nat):aE (aq σ []) (.ay (aZ.mk (k9 b n i) c 1 117 false false 0 true))=some (.ay (aZ.mk (k9 b n i) c 1 117 false false 0 true)):=by
 have:=pq (σ:=aq σ []) (b:=b) (n:=n) (i:=i) fun j _=>Da σ _
 simp only[aE,this]
theorem bR{σ:bd}(b n i:Nat):aE (aq σ []) (.ay (dO b n i))=some (.ay (dO b n i)):=by
 unfold dO
 split
 ·rfl
 ·exact lH _ _ _ _
theorem H4{z0:T aa}{n0 n i:Nat}{z:T aa}(h:iW z0 n0 n i ⟨dO n0 n i,z,n0+i⟩):iW z0 n0 n (i+1) ⟨Qt (k9 n0 n i++[tb (n0+i) n n]) (i+1),z.set (n0+i) (.ay (zL (eJ n) n)),n0+i+1⟩:=by
 have hz:an z (n0+i):=h.bb
 refine⟨fT hz (tM n),rfl,fun k hk=>?_,fun j hj=>?_,?_⟩
 ·show(z.set (n0+i) _).get k=_
  rw[T.aK,if_neg (by omega)];exact h.fP k hk
 ·show(z.set (n0+i) _).get (n0+j)=_
  rw[T.aK]
  by_cases e:j=i
  ·subst e;rw[if_pos rfl]
  ·rw[if_neg (by omega)];exact h.row j (by omega)
 ·show _=dO n0 n (i+1)
  unfold dO
  rw[if_neg (Nat.succ_ne_zero _),oZ]
theorem AB(z0:T aa)(n0:Nat)(hz0:an z0 n0)(h5:5<=n0)(pv:Value)(hp:Ts pv)(n:Nat)(hn:n<=64)(b:Bool):
 ai Try.prog (ah (ag Try.f57) 0) 1 116 (pF pv n b 0) [(1,Fv)] 2 z0 n0 (Al.R (O2 z0 n0 pv n b (iW z0 n0 n n)).l):=by
 refine ak hD (cZ T.leaf) (α:=Nat × T aa) 1 116 2 (fun t=>t.1<=n/\iW z0 n0 n t.1 ⟨dO n0 n t.1,t.2,n0+t.1⟩) (fun t=>pF pv n b t.1) (fun t=>[(1, .ay (dO n0 n t.1))]) (fun t=>t.2) (fun t=>n0+t.1) (fun t=>n - t.1) _ (fun t hI=>?_) (0,z0) ⟨Nat.zero_le _,hz0,rfl,fun _ _=>rfl,fun j hj=>absurd hj (Nat.not_lt_zero _),rfl⟩
 obtain⟨i,z⟩:=t
 obtain⟨hi,hs⟩:=hI
 simp only at hi hs ⊢
 have hz:an z (n0+i):=hs.bb
 have rX: ∀σ,aE (aq ((3,3)::σ) []) (.ay (dO n0 n i))=some (.ay (dO n0 n i)):=fun σ=>bR _ _ _
 have rT: ∀{σ:bd} {o:aa} {m cp:Nat},aO (aq σ [(n0+i,4,o)]) (tb 4 m cp)=some (tb 4 m cp):=fun {σ o m cp}=>by
  simp only[aO,lz (σ:=σ) (c:=4) (o:=o) (show 4≠n0+i by omega)]
 have rR: ∀σ o,aE (aq σ [(n0+i,4,o)]) (.ay (aZ.mk (k9 n0 n i++[tb (n0+i) n n]) ((i+1)*1) 1 117 false false 0 true))=some (.ay (aZ.mk (k9 n0 n i++[bc 4 n n]) ((i+1)*1) 1 117 false false 0 true)):=fun σ o=>by
  have q1:=pq (σ:=aq σ [(n0+i,4,o)]) (b:=n0) (n:=n) (i:=i) fun j hj=>lz (by omega)
  have q2:bh (aq σ [(n0+i,4,o)]) [tb (n0+i) n n]=some [bc 4 n n]:=by
   have:=eA (σ:=σ) (k:=n0+i) (c:=4) (n:=n) (m:=n) (o:=o)
   simp only[bh,this]
  simp only[aE,mE q1 q2]
 by_cases hlt:i<n
 ·have nx:aj (fun t:Nat × T aa=>t.1<=n/\iW z0 n0 n t.1 ⟨dO n0 n t.1,t.2,n0+t.1⟩) (fun t=>pF pv n b t.1) (fun t=>[(1, .ay (dO n0 n t.1))]) 2 (fun t=>t.2) (fun t=>n0+t.1) (fun t=>n - t.1) (Al.R (O2 z0 n0 pv n b (iW z0 n0 n n)).l) (i,z) .normal (pF pv n b (i+1)) [(1, .ay (Qt (k9 n0 n i++[tb (n0+i) n n]) (i+1)))] 2 (z.set (n0+i) (.ay (zL (eJ n) n))) (n0+i+1):=by
   have e:dO n0 n (i+1)=Qt (k9 n0 n i++[tb (n0+i) n n]) (i+1):=by
    unfold dO;rw[if_neg (Nat.succ_ne_zero _),oZ]
   refine⟨(i+1,z.set (n0+i) (.ay (zL (eJ n) n))),rfl,?_,rfl,rfl,rfl,⟨hlt,?_⟩,by show n - (i+1)<n - i;omega⟩
   ·show _=[(1,aa.ay (dO n0 n (i+1)))]
    rw[e]
   ·have:=H4 hs
    rw[←e] at this;exact this
  have hl1:=Hx hz pv hp n (by omega) hn b i (dO n0 n i) rX
  by_cases hi0:i=0
  ·subst hi0
   have hc:decide ((0:Int)<(n:Int))=true:=by simp;omega
   rw[show dO n0 n 0=⟨[],0,1,117,true,true,0,true⟩ from rfl] at hl1 ⊢
   have rR':=fun σ o=>rR σ o
   rcases hp with ⟨m,cp,rfl⟩|rfl
   ·refine t100 (Rp z (n0+0) n m cp b (eJ n) (aj _ _ _ _ _ _ _ _ _) ⟨fun _=>?_,fun h=>(by rw[hc] at h;cases h)⟩)
    (repeat' first|(with_reducible first|exact rfl|exact True.intro|assumption|apply And.intro|exact hz|exact hl1|exact rT|exact rR _ _|exact eF _ _ _ _ _|exact Nat.le_succ _|exact Nat.le_refl _|exact Nat.lt_succ_self _)|exact(rfl:Int.ofNat _=_)|exact(rfl:gH _ _=_)|exact hz|exact hl1|exact rT|exact rR _ _|exact eF _ _ _ _ _|exact Nat.le_succ _|exact Nat.le_refl _|exact Nat.lt_succ_self _|intro hq)
    exact nx
   ·refine t100 (M4 z (n0+0) n b (eJ n) (aj _ _ _ _ _ _ _ _ _) ⟨fun _=>?_,fun h=>(by rw[hc] at h;cases h)⟩)
    (repeat' first|(with_reducible first|exact rfl|exact True.intro|assumption|apply And.intro|exact hz|exact hl1|exact rT|exact rR _ _|exact eF _ _ _ _ _|exact Nat.le_succ _|exact Nat.le_refl _|exact Nat.lt_succ_self _)|exact(rfl:Int.ofNat _=_)|exact(rfl:gH _ _=_)|exact hz|exact hl1|exact rT|exact rR _ _|exact eF _ _ _ _ _|exact Nat.le_succ _|exact Nat.le_refl _|exact Nat.lt_succ_self _|intro hq)
    exact nx
  ·have hc:decide ((i:Int)<(n:Int))=true:=by simp;omega
   have eX:dO n0 n i=Qt (k9 n0 n i) i:=by unfold dO;rw[if_neg hi0]
   rw[eX] at hl1 ⊢
   rcases hp with ⟨m,cp,rfl⟩|rfl
   ·refine t100 (XQ z (n0+i) n i m cp b (k9 n0 n i) (eJ n) (aj _ _ _ _ _ _ _ _ _) ⟨fun _=>?_,fun h=>(by rw[hc] at h;cases h)⟩)
    (repeat' first|(with_reducible first|exact rfl|exact True.intro|assumption|apply And.intro|exact hz|exact hl1|exact rT|exact rR _ _|exact lH _ _ _ _|exact eF _ _ _ _ _|exact(by rw[lq,Nat.mul_one]:(k9 n0 n i).length=i*1)|exact(by omega:i+1<=1048576)|exact aG (by omega)|exact Nat.le_succ _|exact Nat.le_refl _|exact Nat.lt_succ_self _)|exact(rfl:Int.ofNat _=_)|exact(rfl:gH _ _=_)|exact hz|exact hl1|exact rT|exact rR _ _|exact lH _ _ _ _|exact eF _ _ _ _ _|exact(by rw[lq,Nat.mul_one]:(k9 n0 n i).length=i*1)|exact(by omega:i+1<=1048576)|exact aG (by omega)|exact Nat.le_succ _|exact Nat.le_refl _|exact Nat.lt_succ_self _|intro hq)
    exact nx
   ·refine t100 (Rq z (n0+i) n i b (k9 n0 n i) (eJ n) (aj _ _ _ _ _ _ _ _ _) ⟨fun _=>?_,fun h=>(by rw[hc] at h;cases h)⟩)
    (repeat' first|(with_reducible first|exact rfl|exact True.intro|assumption|apply And.intro|exact hz|exact hl1|exact rT|exact rR _ _|exact lH _ _ _ _|exact eF _ _ _ _ _|exact(by rw[lq,Nat.mul_one]:(k9 n0 n i).length=i*1)|exact(by omega:i+1<=1048576)|exact aG (by omega)|exact Nat.le_succ _|exact Nat.le_refl _|exact Nat.lt_succ_self _)|exact(rfl:Int.ofNat _=_)|exact(rfl:gH _ _=_)|exact hz|exact hl1|exact rT|exact rR _ _|exact lH _ _ _ _|exact eF _ _ _ _ _|exact(by rw[lq,Nat.mul_one]:(k9 n0 n i).length=i*1)|exact(by omega:i+1<=1048576)|exact aG (by omega)|exact Nat.le_succ _|exact Nat.le_refl _|exact Nat.lt_succ_self _|intro hq)
    exact nx
 ·have hin:i=n:=by omega
  subst hin
  have hc:decide ((i:Int)<(i:Int))=false:=by simp
  have fin:aj (fun t:Nat × T aa=>t.1<=i/\iW z0 n0 i t.1 ⟨dO n0 i t.1,t.2,n0+t.1⟩) (fun t=>pF pv i b t.1) (fun t=>[(1, .ay (dO n0 i t.1))]) 2 (fun t=>t.2) (fun t=>n0+t.1) (fun t=>i - t.1) (Al.R (O2 z0 n0 pv i b (iW z0 n0 i i)).l) (i,z) (.exit 0) [(0,pv),(1,iv i),(2, .bool b),(7,bc 1 i i)] [(1, .ay (dO n0 i i))] 2 z (n0+i):=
   yT (k:=fun _=>dN) (⟨dO n0 i i,z,n0+i⟩:dy) hs rfl
  by_cases hi0:i=0
  ·subst hi0
   have hc:decide ((0:Int)<((0:Nat):Int))=false:=by simp
   rcases hp with ⟨m,cp,rfl⟩|rfl
   ·refine t100 (Rp z (n0+0) 0 m cp b (eJ 0) (aj _ _ _ _ _ _ _ _ _) ⟨fun h=>(by rw[hc] at h;cases h),fun _=>?_⟩)
    (repeat' first|(with_reducible first|exact rfl|exact True.intro|assumption|apply And.intro|exact hz)|exact(rfl:Int.ofNat _=_)|exact(rfl:gH _ _=_)|exact hz|intro hq)
    exact fin
   ·refine t100 (M4 z (n0+0) 0 b (eJ 0) (aj _ _ _ _ _ _ _ _ _) ⟨fun h=>(by rw[hc] at h;cases h),fun _=>?_⟩)
    (repeat' first|(with_reducible first|exact rfl|exact True.intro|assumption|apply And.intro|exact hz)|exact(rfl:Int.ofNat _=_)|exact(rfl:gH _ _=_)|exact hz|intro hq)
    exact fin
  ·have eX:dO n0 i i=Qt (k9 n0 i i) i:=by unfold dO;rw[if_neg hi0]
   rw[eX] at fin ⊢
   rcases hp with ⟨m,cp,rfl⟩|rfl
   ·refine t100 (XQ z (n0+i) i i m cp b (k9 n0 i i) (eJ i) (aj _ _ _ _ _ _ _ _ _) ⟨fun h=>(by rw[hc] at h;cases h),fun _=>?_⟩)
    (repeat' first|(with_reducible first|exact rfl|exact True.intro|assumption|apply And.intro|exact hz|exact lH _ _ _ _|exact aT _ _ _ _)|exact(rfl:Int.ofNat _=_)|exact(rfl:gH _ _=_)|exact hz|exact lH _ _ _ _|exact aT _ _ _ _|intro hq)
   ·refine t100 (Rq z (n0+i) i i b (k9 n0 i i) (eJ i) (aj _ _ _ _ _ _ _ _ _) ⟨fun h=>(by rw[hc] at h;cases h),fun _=>?_⟩)
    (repeat' first|(with_reducible first|exact rfl|exact True.intro|assumption|apply And.intro|exact hz|exact lH _ _ _ _)|exact(rfl:Int.ofNat _=_)|exact(rfl:gH _ _=_)|exact hz|exact lH _ _ _ _|intro hq)
end
structure Gc(z0:T aa)(n0 n:Nat)(z:T aa)(M:Nat->Nat->Int):Prop where
 bb:an z (n0+n)
 fP: ∀k,k<n0->z.get k=z0.get k
 row: ∀i,i<n-> ∃l:List Int,z.get (n0+i)=some (.ay (zL (l.map zv) n))/\l.length=n/\ ∀j,j<n->l[j]? =some (M i j)
abbrev lU:Nat:=1099511627776
structure BM(n:Nat)(M:Nat->Nat->Int):Prop where
 le: ∀i j,i<n->j<n->M i j<=(lU:Int)
theorem pC{z0:T aa}{n0 n:Nat}{z:T aa}{M:Nat->Nat->Int}(h:Gc z0 n0 n z M){i j:Nat}(hi:i<n)(hj:j<n){l:List Int}(hl: ∀j,j<n->l[j]? =some (M i j)):aB Try.prog (zL (l.map zv) n) 3 (0+j*1)=some (zv (M i j)):=
 jo (d:=_) Try.underlying3 rfl (by show(l.map zv)[j]? =_;rw[List.getElem?_map,hl j hj];rfl)
theorem G3(l:List Int):bH (l.map zv)=true:=by
 rw[c7];intro v hv
 obtain⟨x,_,rfl⟩:=List.mem_map.1 hv;rfl
theorem DK{z0:T aa}{n0 n:Nat}{z:T aa}{M:Nat->Nat->Int}(h:Gc z0 n0 n z M){i j:Nat}(hi:i<n)(hj:j<n){l:List Int}(hll:l.length=n)(hl: ∀j,j<n->l[j]? =some (M i j))(w:Int):Gc z0 n0 n (z.set (n0+i) (.ay (zL ((l.set j w).map zv) n))) (nY M i j w):=by
 refine⟨AQ h.bb (by omega) fun σ _=>cG (G3 _),fun k hk=>?_,fun a ha=>?_⟩
 ·rw[T.aK,if_neg (by omega)];exact h.fP k hk
 ·by_cases e:a=i
  ·subst e
   refine⟨l.set j w,by rw[T.aK,if_pos rfl],by rw[List.length_set,hll],fun b hb=>?_⟩
   rw[List.getElem?_set]
   unfold nY
   by_cases e2:j=b
   ·subst e2;rw[if_pos rfl,if_pos (by omega),if_pos ⟨rfl,rfl⟩]
   ·rw[if_neg e2,if_neg (fun h=>e2 h.2.symm)];exact hl b hb
  ·obtain⟨l',k1,k2,k3⟩:=h.row a ha
   refine⟨l',by rw[T.aK,if_neg (by omega)];exact k1,k2,fun b hb=>?_⟩
   unfold nY
   rw[if_neg (fun h=>e h.1)];exact k3 b hb
theorem Fu(b n i:Nat):(dO b n i).cells=k9 b n i:=by
 unfold dO
 split
 ·rename_i e;subst e;rfl
 ·rfl
theorem Ou{b n m i:Nat}(h:i<m):(k9 b n m)[i]? =some (tb (b+i) n n):=by
 unfold k9
 rw[List.getElem?_map,List.getElem?_range h];rfl
theorem pW{b n i:Nat}(h:i<n):aB Try.prog (dO b n n) 117 (0+i*1)=some (tb (b+i) n n):=jo Try.underlying117 rfl (by rw[Fu];exact Ou h)
theorem PW{n:Nat}{M:Nat->Nat->Int}(h:BM n M)(i j:Nat){w:Int}(hw:w<=(lU:Int)):BM n (nY M i j w):=⟨fun a b ha hb=>by
 unfold nY;split
 ·exact hw
 ·exact h.le a b ha hb⟩
section
variable{z0:T aa}{n0:Nat}
def FW(z0:T aa)(n0 n:Nat)(E:bW)(k i j:Nat)(z:T aa):Prop:= ∃M,Gc z0 n0 n z M/\BM n M/\Qj E n lU k i j M
theorem FW.bb{n:Nat}{E:bW}{k i j:Nat}{z:T aa}(h:FW z0 n0 n E k i j z):an z (n0+n):=by obtain⟨M,h,_⟩:=h;exact h.bb
theorem Hu(n:Nat)(hn:n<=64)(E:bW)(k i:Nat)(hk:k<n)(hi:i<n)(z:T aa)(hz:FW z0 n0 n E k i 0 z):
 ai Try.prog (ah (ah (ah (ag Try.f57) 3) 0) 0) 2 116 (EV n k i 0) [(1, .ay (dO n0 n n))] 2 z (n0+n) (Al.R (VQ (n0+n) n k i (dO n0 n n) (FW z0 n0 n E k i n)).l):=by
 refine ak hD (cZ T.leaf) (α:=Nat × T aa) 2 116 2 (fun t=>t.1<=n/\FW z0 n0 n E k i t.1 t.2) (fun t=>EV n k i t.1) (fun t=>[(1, .ay (dO n0 n n))]) (fun t=>t.2) (fun t=>n0+n) (fun t=>n - t.1) _ (fun t hI=>?_) (0,z) ⟨Nat.zero_le _,hz⟩
 obtain⟨j,z⟩:=t
 obtain⟨hj,hs⟩:=hI
 simp only at hj hs ⊢
 have hfz:=hs.bb
 obtain⟨M,h1,h2,h3⟩:=hs
 by_cases hlt:j<n
 ·have hc:decide ((j:Int)<(n:Int))=true:=by simp;omega
  obtain⟨li,i1,i2,i3⟩:=h1.row i hi
  obtain⟨lk,k1,k2,k3⟩:=h1.row k hk
  have r1:=pC h1 hi hlt i3
  have r2:=pC h1 hi hk i3
  have r3:=pC h1 hk hlt k3
  have d1:aB Try.prog (dO n0 n n) 117 (0+i*1)=_:=pW hi
  have d2:aB Try.prog (dO n0 n n) 117 (0+k*1)=_:=pW hk
  have b1:=h2.le i j hi hlt
  have b2:=h2.le i k hi hk
  have b3:=h2.le k j hk hlt
  have c2:=(h3.real i k hi hk).1
  have c3:=(h3.real k j hk hlt).1
  have hbig:(lU:Int)=1099511627776:=rfl
  have hwr:Value.int .i64 (IntKind.i64.wrap (M i k+M k j))=Value.int .i64 (M i k+M k j):=jx (by omega) (by omega)
  have hw:(if M i k+M k j<M i j then M i k+M k j else M i j)=min (M i j) (M i k+M k j):=by
   split<;>omega
  have ov:overwrite (zL (li.map zv) n).cells (0+j*1) [zv (if M i k+M k j<M i j then M i k+M k j else M i j)]=some ((li.set j (min (M i j) (M i k+M k j))).map zv):=by
   rw[hw,py (cs:=li.map zv) (by simp;omega),←List.map_set]
  have hset:=DK h1 hi hlt i2 i3 (min (M i j) (M i k+M k j))
  have hfw:FW z0 n0 n E k i (j+1) (z.set (n0+i) (.ay (zL ((li.set j (min (M i j) (M i k+M k j))).map zv) n))):=⟨_,hset,PW h2 i j (by omega),Hh h3 hk hi hlt⟩
  have hfz2:=hfw.bb
  have hl:((li.set j (min (M i j) (M i k+M k j))).map zv).length<=n*1:=by simp[i2]
  refine t100 (XL z (n0+n) n k i j (n0+i) (n0+k) (dO n0 n n) (zL (li.map zv) n) (zL (lk.map zv) n) (M i j) (M i k) (M k j) (min (M i j) (M i k+M k j)) ((li.set j (min (M i j) (M i k+M k j))).map zv) (aj _ _ _ _ _ _ _ _ _) ⟨fun _=>?_,fun h=>(by rw[hc] at h;cases h)⟩)
  (repeat' first|(with_reducible first|exact rfl|exact True.intro|assumption|apply And.intro|exact hfz|exact hfz2|exact hlt|exact hi|exact hk|exact i1|exact k1|exact r1|exact r2|exact r3|exact d1|exact d2|exact ov|exact hl|exact bR _ _ _|exact aG (by omega)|exact hwr)|exact(rfl:Int.ofNat _=_)|exact(rfl:gH _ _=_)|exact hfz|exact hfz2|exact hlt|exact hi|exact hk|exact i1|exact k1|exact r1|exact r2|exact r3|exact d1|exact d2|exact ov|exact hl|exact bR _ _ _|exact aG (by omega)|exact hwr|intro hq)
  exact⟨(j+1,_),rfl,rfl,rfl,rfl,rfl,⟨hlt,hfw⟩,by show n - (j+1)<n - j;omega⟩
 ·have hjn:j=n:=by omega
  subst hjn
  have hc:decide ((j:Int)<(j:Int))=false:=by simp
  refine t100 (XL z (n0+j) j k i j 0 0 (dO n0 j j) ⟨[],0,0,0,true,true,0,true⟩ ⟨[],0,0,0,true,true,0,true⟩ 0 0 0 0 [] (aj _ _ _ _ _ _ _ _ _) ⟨fun h=>(by rw[hc] at h;cases h),fun _=>?_⟩)
  (repeat' first|(with_reducible first|exact rfl|exact True.intro|assumption|apply And.intro|exact hfz|exact bR _ _ _)|exact(rfl:Int.ofNat _=_)|exact(rfl:gH _ _=_)|exact hfz|exact bR _ _ _|intro hq)
  exact yT (k:=fun _=>dN) z ⟨M,h1,h2,h3⟩ rfl
theorem Hv(n:Nat)(hn:n<=64)(E:bW)(k:Nat)(hk:k<n)(z:T aa)(hz:FW z0 n0 n E k 0 0 z):
 ai Try.prog (ah (ah (ag Try.f57) 3) 0) 2 116 (xZ n k 0) [(1, .ay (dO n0 n n))] 2 z (n0+n) (Al.R (VS (n0+n) n k (dO n0 n n) (FW z0 n0 n E k n 0)).l):=by
 refine ak hD (cZ T.leaf) (α:=Nat × T aa) 2 116 2 (fun t=>t.1<=n/\FW z0 n0 n E k t.1 0 t.2) (fun t=>xZ n k t.1) (fun t=>[(1, .ay (dO n0 n n))]) (fun t=>t.2) (fun t=>n0+n) (fun t=>n - t.1) _ (fun t hI=>?_) (0,z) ⟨Nat.zero_le _,hz⟩
 obtain⟨i,z⟩:=t
 obtain⟨hi,hs⟩:=hI
 simp only at hi hs ⊢
 have hfz:=hs.bb
 by_cases hlt:i<n
 ·have hc:decide ((i:Int)<(n:Int))=true:=by simp;omega
  have hlp:=Hu n hn E k i hk hlt z hs
  refine t100 (XM z (n0+n) n k i (dO n0 n n) (FW z0 n0 n E k i n) (aj _ _ _ _ _ _ _ _ _) ⟨fun _=>?_,fun h=>(by rw[hc] at h;cases h)⟩)
  (repeat' first|(with_reducible first|exact rfl|exact True.intro|assumption|apply And.intro|exact hfz|exact hlt|exact hlp|exact FW.bb (by with_reducible assumption)|exact bR _ _ _|exact aG (by omega))|exact(rfl:Int.ofNat _=_)|exact(rfl:gH _ _=_)|exact hfz|exact hlt|exact hlp|exact FW.bb (by with_reducible assumption)|exact bR _ _ _|exact aG (by omega)|intro hq)
  rename_i x
  obtain⟨M,m1,m2,m3⟩:=hq
  exact⟨(i+1,x),rfl,rfl,rfl,rfl,rfl,⟨hlt,M,m1,m2,KK m3⟩,by show n - (i+1)<n - i;omega⟩
 ·have hin:i=n:=by omega
  subst hin
  have hc:decide ((i:Int)<(i:Int))=false:=by simp
  refine t100 (XM z (n0+i) i k i (dO n0 i i) (fun _=>False) (aj _ _ _ _ _ _ _ _ _) ⟨fun h=>(by rw[hc] at h;cases h),fun _=>?_⟩)
  (repeat' first|(with_reducible first|exact rfl|exact True.intro|assumption|apply And.intro|exact hfz|exact bR _ _ _)|exact(rfl:Int.ofNat _=_)|exact(rfl:gH _ _=_)|exact hfz|exact bR _ _ _|intro hq)
  exact yT (k:=fun _=>dN) z hs rfl
def FH(z0:T aa)(n0 n:Nat)(E:bW)(k:Nat)(z:T aa):Prop:= ∃M,Gc z0 n0 n z M/\BM n M/\Head E n lU k M
theorem FH.bb{n:Nat}{E:bW}{k:Nat}{z:T aa}(h:FH z0 n0 n E k z):an z (n0+n):=by obtain⟨M,h,_⟩:=h;exact h.bb
theorem AA(n:Nat)(hn:n<=64)(E:bW)(z:T aa)(hz:FH z0 n0 n E 0 z):
 ai Try.prog (ah (ag Try.f57) 3) 2 116 (qO n 0) [(1, .ay (dO n0 n n))] 2 z (n0+n) (Al.R (O0 n ⟨dO n0 n n,z,n0+n⟩ (FH z0 n0 n E n)).l):=by
 refine ak hD (cZ T.leaf) (α:=Nat × T aa) 2 116 2 (fun t=>t.1<=n/\FH z0 n0 n E t.1 t.2) (fun t=>qO n t.1) (fun t=>[(1, .ay (dO n0 n n))]) (fun t=>t.2) (fun t=>n0+n) (fun t=>n - t.1) _ (fun t hI=>?_) (0,z) ⟨Nat.zero_le _,hz⟩
 obtain⟨k,z⟩:=t
 obtain⟨hk,hs⟩:=hI
 simp only at hk hs ⊢
 have hfz:=hs.bb
 by_cases hlt:k<n
 ·have hc:decide ((k:Int)<(n:Int))=true:=by simp;omega
  have hlp:=Hv (z0:=z0) (n0:=n0) n hn E k hlt z (by obtain⟨M,m1,m2,m3⟩:=hs;exact⟨M,m1,m2,ES m3⟩)
  refine t100 (XN z (n0+n) n k (dO n0 n n) (FW z0 n0 n E k n 0) (aj _ _ _ _ _ _ _ _ _) ⟨fun _=>?_,fun h=>(by rw[hc] at h;cases h)⟩)
  (repeat' first|(with_reducible first|exact rfl|exact True.intro|assumption|apply And.intro|exact hfz|exact hlt|exact hlp|exact FW.bb (by with_reducible assumption)|exact bR _ _ _|exact aG (by omega))|exact(rfl:Int.ofNat _=_)|exact(rfl:gH _ _=_)|exact hfz|exact hlt|exact hlp|exact FW.bb (by with_reducible assumption)|exact bR _ _ _|exact aG (by omega)|intro hq)
  rename_i x
  obtain⟨M,m1,m2,m3⟩:=hq
  exact⟨(k+1,x),rfl,rfl,rfl,rfl,rfl,⟨hlt,M,m1,m2,KL m3⟩,by show n - (k+1)<n - k;omega⟩
 ·have hkn:k=n:=by omega
  subst hkn
  have hc:decide ((k:Int)<(k:Int))=false:=by simp
  refine t100 (XN z (n0+k) k k (dO n0 k k) (fun _=>False) (aj _ _ _ _ _ _ _ _ _) ⟨fun h=>(by rw[hc] at h;cases h),fun _=>?_⟩)
  (repeat' first|(with_reducible first|exact rfl|exact True.intro|assumption|apply And.intro|exact hfz|exact bR _ _ _)|exact(rfl:Int.ofNat _=_)|exact(rfl:gH _ _=_)|exact hfz|exact bR _ _ _|intro hq)
  exact yT (k:=fun _=>dN) z hs rfl
end
def fg(l:List ae)(b:Bool):List (Nat × Nat × Nat):=(l.filter (fE b)).map fun p=>(p.from_.toNat,p.ax.toNat,p.aI.toNat)
theorem Hp{l:List ae}{b:Bool}{i:Nat}{x:ae}(hx:l[i]? =some x)(hu:fE b x=true):fg (l.take (i+1)) b=fg (l.take i) b++[(x.from_.toNat,x.ax.toNat,x.aI.toNat)]:=by
 unfold fg
 rw[List.take_add_one,hx]
 simp[List.filter_append,hu]
theorem KQ{l:List ae}{b:Bool}{i:Nat}{x:ae}(hx:l[i]? =some x)(hu:fE b x=false):fg (l.take (i+1)) b=fg (l.take i) b:=by
 unfold fg
 rw[List.take_add_one,hx]
 simp[List.filter_append,hu]
def FE(z0:T aa)(n0 n:Nat)(L:List (Nat × Nat × Nat))(z:T aa):Prop:= ∃M,Gc z0 n0 n z M/\Bx L n lU M
section
variable{z0:T aa}{n0:Nat}
theorem FE.bb{n:Nat}{L:List (Nat × Nat × Nat)}{z:T aa}(h:FE z0 n0 n L z):an z (n0+n):=by obtain⟨M,h,_⟩:=h;exact h.bb
theorem FE.head{n:Nat}{L:List (Nat × Nat × Nat)}{z:T aa}(h:FE z0 n0 n L z):FH z0 n0 n (da L) 0 z:=by
 obtain⟨M,h1,h2⟩:=h
 exact⟨M,h1,⟨fun i j hi hj=>(h2 i j hi hj).2.1⟩,Co h2⟩
theorem AU{n:Nat}{s:dy}(h:iW z0 n0 n n s):FE z0 n0 n [] s.z:=by
 refine⟨fun _ _=>(lU:Int),⟨?_,h.fP,fun i hi=>?_⟩,Ff n lU⟩
 ·have:=h.bb;rw[h.zn] at this;exact this
 ·refine⟨List.replicate n (lU:Int),?_,List.length_replicate ..,fun j hj=>by simp[hj]⟩
  rw[h.row i hi]
  show some (aa.ay (zL (eJ n) n))=some (aa.ay (zL ((List.replicate n (lU:Int)).map zv) n))
  rw[List.map_replicate];rfl
theorem Hw(n:Nat)(hn:n<=64)(l:List ae)(hl:nk n l)(hll:l.length<=10000)(cp:Nat)(hL0:cy z0 4 (l.map ae.row))(hz0:an z0 n0)(b:Bool)(s:dy)(hs:iW z0 n0 n n s):
 ai Try.prog (ah (ag Try.f57) 2) 2 116 (Ao l.length cp n b 0) [(1, .ay s.bl)] 2 s.z s.zn (Al.R (RN l.length cp n b s (FE z0 n0 n (fg l b))).l):=by
 have hst:=AU hs
 obtain⟨bl,z,zn⟩:=s
 have e1:zn=n0+n:=hs.zn
 have e2:bl=dO n0 n n:=hs.bl
 subst e1 e2
 refine ak hD (cZ T.leaf) (α:=Nat × T aa) 2 116 2 (fun t=>t.1<=l.length/\FE z0 n0 n (fg (l.take t.1) b) t.2) (fun t=>Ao l.length cp n b t.1) (fun t=>[(1, .ay (dO n0 n n))]) (fun t=>t.2) (fun t=>n0+n) (fun t=>l.length - t.1) _ (fun t hI=>?_) (0,z) ⟨Nat.zero_le _,hst⟩
 obtain⟨i,z⟩:=t
 obtain⟨hi,hs⟩:=hI
 simp only at hi hs ⊢
 have hfz:=hs.bb
 by_cases hlt:i<l.length
 ·obtain⟨x,hx⟩:=ej hlt
  have hc:decide ((i:Int)<(l.length:Int))=true:=by simp;omega
  obtain⟨p1,p2,p3,p4,_,p6,p7⟩:=hl.ok x (List.mem_of_getElem? hx)
  obtain⟨M,h1,h2⟩:=hs
  have hL:=dX hL0 hz0 h1.fP
  obtain⟨el,hel⟩:=hL.ay (i:=i) (by simp;omega)
  have r0:aB Try.prog (bC el (l.map ae.row).flatten) 89 (0+i*4)=some (.agg ⟨x.row⟩):=bO (r:=x.row) (sz:=4) Try.underlying89 rfl rfl (aM (row:=ae.row) (sz:=4) l fun _=>rfl) (by rw[List.getElem?_map,hx];rfl)
  have hf:x.from_.toNat<n:=by omega
  have ht:x.ax.toNat<n:=by omega
  have ef:x.from_=(x.from_.toNat:Int):=by omega
  have et:x.ax=(x.ax.toNat:Int):=by omega
  obtain⟨li,i1,i2,i3⟩:=h1.row _ hf
  have r1:=pC h1 hf ht i3
  have d1:aB Try.prog (dO n0 n n) 117 (0+x.from_.toNat*1)=_:=pW hf
  have hw:(if x.aI<M x.from_.toNat x.ax.toNat then x.aI else M x.from_.toNat x.ax.toNat)=min (M x.from_.toNat x.ax.toNat) (x.aI.toNat:Int):=by
   split<;>omega
  have ov:overwrite (zL (li.map zv) n).cells (0+x.ax.toNat*1) [zv (if x.aI<M x.from_.toNat x.ax.toNat then x.aI else M x.from_.toNat x.ax.toNat)]=some ((li.set x.ax.toNat (min (M x.from_.toNat x.ax.toNat) (x.aI.toNat:Int))).map zv):=by
   rw[hw,py (cs:=li.map zv) (by simp;omega),←List.map_set]
  have hset:=DK h1 hf ht i2 i3 (min (M x.from_.toNat x.ax.toNat) (x.aI.toNat:Int))
  have hfz2:=hset.bb
  have hlen:((li.set x.ax.toNat (min (M x.from_.toNat x.ax.toNat) (x.aI.toNat:Int))).map zv).length<=n*1:=by simp[i2]
  have nx: ∀z',FE z0 n0 n (fg (l.take (i+1)) b) z'->aj (fun t:Nat × T aa=>t.1<=l.length/\FE z0 n0 n (fg (l.take t.1) b) t.2) (fun t=>Ao l.length cp n b t.1) (fun t=>[(1, .ay (dO n0 n n))]) 2 (fun t=>t.2) (fun t=>n0+n) (fun t=>l.length - t.1) (Al.R (RN l.length cp n b ⟨dO n0 n n,z,n0+n⟩ (FE z0 n0 n (fg l b))).l) (i,z) .normal (Ao l.length cp n b (i+1)) [(1, .ay (dO n0 n n))] 2 z' (n0+n):=fun z' h=>
   ⟨(i+1,z'),rfl,rfl,rfl,rfl,rfl,⟨hlt,h⟩,by show l.length - (i+1)<l.length - i;omega⟩
  have yes:fE b x=true->FE z0 n0 n (fg (l.take (i+1)) b) (z.set (n0+x.from_.toNat) (.ay (zL ((li.set x.ax.toNat (min (M x.from_.toNat x.ax.toNat) (x.aI.toNat:Int))).map zv) n))):=fun h=>⟨_,hset,by rw[Hp hx h];exact Cn h2 _ _ _⟩
  have no:fE b x=false->FE z0 n0 n (fg (l.take (i+1)) b) z:=fun h=>⟨M,h1,by rw[KQ hx h];exact h2⟩
  have u1:x.sf=true->fE b x=true:=fun h=>by unfold fE;rw[h,Bool.or_true]
  have u2:x.sf=false->(!b)=true->fE b x=true:=fun h h2=>by unfold fE;rw[h2,Bool.true_or]
  have u3:x.sf=false->(!b)=false->fE b x=false:=fun h h2=>by unfold fE;rw[h,h2];rfl
  refine t100 (XO z (n0+n) l.length cp n i x.from_.toNat x.ax.toNat (n0+x.from_.toNat) b (dO n0 n n) (bC el (l.map ae.row).flatten) (zL (li.map zv) n) x (M x.from_.toNat x.ax.toNat) 0 ((li.set x.ax.toNat (min (M x.from_.toNat x.ax.toNat) (x.aI.toNat:Int))).map zv) (aj _ _ _ _ _ _ _ _ _) ⟨fun _=>?_,fun h=>(by rw[hc] at h;cases h)⟩)
  (repeat' first|(with_reducible first|exact rfl|exact True.intro|assumption|apply And.intro|exact hfz|exact hfz2|exact hlt|exact hf|exact ht|exact ef|exact et|exact hel|exact r0|exact i1|exact r1|exact d1|exact ov|exact hlen|exact bR _ _ _|exact aT _ _ _ _|exact aG (by omega))|exact(rfl:Int.ofNat _=_)|exact(rfl:gH _ _=_)|exact hfz|exact hfz2|exact hlt|exact hf|exact ht|exact ef|exact et|exact hel|exact r0|exact i1|exact r1|exact d1|exact ov|exact hlen|exact bR _ _ _|exact aT _ _ _ _|exact aG (by omega)|intro hq)
  all_goals first
   |exact nx _ (yes (u1 (by with_reducible assumption)))
   |exact nx _ (yes (u2 (by with_reducible assumption) (by with_reducible assumption)))
   |exact nx _ (no (u3 (by with_reducible assumption) (by with_reducible assumption)))
 ·have hil:i=l.length:=by omega
  have hc:decide ((i:Int)<(l.length:Int))=false:=by simp;omega
  refine t100 (XO z (n0+n) l.length cp n i 0 0 0 b (dO n0 n n) ⟨[],0,0,0,true,true,0,true⟩ ⟨[],0,0,0,true,true,0,true⟩ ⟨0,0,0,true⟩ 0 0 [] (aj _ _ _ _ _ _ _ _ _) ⟨fun h=>(by rw[hc] at h;cases h),fun _=>?_⟩)
  (repeat' first|(with_reducible first|exact rfl|exact True.intro|assumption|apply And.intro|exact hfz|exact bR _ _ _)|exact(rfl:Int.ofNat _=_)|exact(rfl:gH _ _=_)|exact hfz|exact bR _ _ _|intro hq)
  refine yT (k:=fun _=>dN) z ?_ rfl
  rw[hil,List.take_of_length_le (Nat.le_refl _)] at hs
  exact hs
def nO(z:T aa)(zn n:Nat)(l:List ae)(b:Bool)(s:dy):Prop:=s.bl=dO zn n n/\s.zn=zn+n/\FH z zn n (da (fg l b)) n s.z
theorem nO.bb{z:T aa}{zn n:Nat}{l:List ae}{b:Bool}{s:dy}(h:nO z zn n l b s):an s.z s.zn:=by
 rw[h.2.1];exact h.2.2.bb
theorem D9(hz:an z0 n0)(h5:5<=n0)(n:Nat)(hn:n<=64)(l:List ae)(hl:nk n l)(hll:l.length<=10000)(cp:Nat)(hL:cy z0 4 (l.map ae.row))(b:Bool):
 aV Try.prog z0 n0 57 [tb 4 l.length cp,iv n, .bool b] [] 0 1 (nO z0 n0 n l b) (fun _=>bc 0 n n) (fun s=>[(0, .ay s.bl)]) (fun s=>s.z) (fun s=>s.zn):=by
 have h0:=AB z0 n0 hz h5 (tb 4 l.length cp) (.inl ⟨_,_,rfl⟩) n hn b
 have h2: ∀s,iW z0 n0 n n s->_:=fun s hs=>Hw n hn l hl hll cp hL hz b s hs
 have h3: ∀s z2,iW z0 n0 n n s->FE z0 n0 n (fg l b) z2->ai Try.prog (ah (ag Try.f57) 3) 2 116 (qO n 0) [(1, .ay s.bl)] 2 z2 s.zn (Al.R (O0 n s (FH z0 n0 n (da (fg l b)) n)).l):=fun s z2 hs h=>by
  have e1:=hs.zn
  have e2:=hs.bl
  obtain⟨bl,z,zn⟩:=s
  simp only at e1 e2
  subst e1 e2
  exact AA n hn _ z2 h.head
 have rX: ∀s σ,iW z0 n0 n n s->aE (aq σ []) (.ay s.bl)=some (.ay s.bl):=fun s σ hs=>by rw[hs.bl];exact bR _ _ _
 have fe: ∀s z2,iW z0 n0 n n s->FE z0 n0 n (fg l b) z2->an z2 s.zn:=fun s z2 hs h=>by rw[hs.zn];exact h.bb
 have fh: ∀s z2,iW z0 n0 n n s->FH z0 n0 n (da (fg l b)) n z2->an z2 s.zn:=fun s z2 hs h=>by rw[hs.zn];exact h.bb
 refine dJ (cZ T.leaf) (fn:=Try.f57) (by kernel_rfl) (by kernel_rfl) hz ⟨by decide,by decide⟩ (fun s hs=>⟨rfl,by rw[hs.2.1];omega,hs.bb⟩) (N:=100) ?_
 refine rs z0 n0 l.length cp n b (iW z0 n0 n n) (fun _=>FE z0 n0 n (fg l b)) (fun _ _=>FH z0 n0 n (da (fg l b)) n) _ ?_
 (repeat' first|(with_reducible first|exact rfl|exact True.intro|assumption|apply And.intro|exact hz|exact h0|exact h2 _ (by with_reducible assumption)|exact h3 _ _ (by with_reducible assumption) (by with_reducible assumption)|exact iW.bb (by with_reducible assumption)|exact fe _ _ (by with_reducible assumption) (by with_reducible assumption)|exact fh _ _ (by with_reducible assumption) (by with_reducible assumption)|exact rX _ _ (by with_reducible assumption)|exact aT _ _ _ _)|exact(rfl:Int.ofNat _=_)|exact(rfl:gH _ _=_)|exact hz|exact h0|exact h2 _ (by with_reducible assumption)|exact h3 _ _ (by with_reducible assumption) (by with_reducible assumption)|exact iW.bb (by with_reducible assumption)|exact fe _ _ (by with_reducible assumption) (by with_reducible assumption)|exact fh _ _ (by with_reducible assumption) (by with_reducible assumption)|exact rX _ _ (by with_reducible assumption)|exact aT _ _ _ _|intro hq)
 rename_i s hs z2 _ z3
 exact q2 (⟨s.bl,z3,s.zn⟩:dy) ⟨hs.bl,hs.zn,hq⟩ rfl rfl rfl rfl rfl
theorem E9(n:Nat)(b:Bool)(s:dy)(hs:iW z0 n0 n n s):
 ai Try.prog (ah (ag Try.f57) 2) 2 116 (wF n b 0) [(1, .ay s.bl)] 2 s.z s.zn (Al.R (RM n b s).l):=by
 have hfz:=hs.bb
 have rX: ∀σ,aE (aq σ []) (.ay s.bl)=some (.ay s.bl):=fun σ=>by rw[hs.bl];exact bR _ _ _
 refine ak hD (cZ T.leaf) (α:=Unit) 2 116 2 (fun _=>True) (fun _=>wF n b 0) (fun t=>[(1, .ay s.bl)]) (fun t=>s.z) (fun t=>s.zn) (fun t=>0) _ (fun t hI=>?_) () trivial
 refine t100 (Vf s.z s.zn n 0 b s.bl (aj _ _ _ _ _ _ _ _ _) ?_)
 (repeat' first|(with_reducible first|exact rfl|exact True.intro|assumption|apply And.intro|exact hfz|exact rX _)|exact(rfl:Int.ofNat _=_)|exact(rfl:gH _ _=_)|exact hfz|exact rX _|intro hq)
 exact bJ trivial
theorem A9(hz:an z0 n0)(h5:5<=n0)(n:Nat)(hn:n<=64)(b:Bool):
 aV Try.prog z0 n0 57 [aw,iv n, .bool b] [] 0 1 (nO z0 n0 n [] b) (fun _=>bc 0 n n) (fun s=>[(0, .ay s.bl)]) (fun s=>s.z) (fun s=>s.zn):=by
 have h0:=AB z0 n0 hz h5 aw (.inr rfl) n hn b
 have h2: ∀s,iW z0 n0 n n s->_:=fun s hs=>E9 n b s hs
 have h3: ∀s,iW z0 n0 n n s->ai Try.prog (ah (ag Try.f57) 3) 2 116 (qO n 0) [(1, .ay s.bl)] 2 s.2 s.zn (Al.R (O0 n s (FH z0 n0 n (da (fg [] b)) n)).l):=fun s hs=>by
  have h:=(AU hs).head
  have e1:=hs.zn
  have e2:=hs.bl
  obtain⟨bl,z,zn⟩:=s
  simp only at e1 e2
  subst e1 e2
  exact AA n hn _ z h
 have rX: ∀s σ,iW z0 n0 n n s->aE (aq σ []) (.ay s.bl)=some (.ay s.bl):=fun s σ hs=>by rw[hs.bl];exact bR _ _ _
 have fh: ∀s z2,iW z0 n0 n n s->FH z0 n0 n (da (fg [] b)) n z2->an z2 s.zn:=fun s z2 hs h=>by rw[hs.zn];exact h.bb
 refine dJ (cZ T.leaf) (fn:=Try.f57) (by kernel_rfl) (by kernel_rfl) hz ⟨by decide,by decide⟩ (fun s hs=>⟨rfl,by rw[hs.2.1];omega,hs.bb⟩) (N:=100) ?_
 refine rsn z0 n0 n b (iW z0 n0 n n) (fun _=>FH z0 n0 n (da (fg [] b)) n) _ ?_
 (repeat' first|(with_reducible first|exact rfl|exact True.intro|assumption|apply And.intro|exact hz|exact h0|exact h2 _ (by with_reducible assumption)|exact h3 _ (by with_reducible assumption)|exact iW.bb (by with_reducible assumption)|exact fh _ _ (by with_reducible assumption) (by with_reducible assumption)|exact rX _ _ (by with_reducible assumption))|exact(rfl:Int.ofNat _=_)|exact(rfl:gH _ _=_)|exact hz|exact h0|exact h2 _ (by with_reducible assumption)|exact h3 _ (by with_reducible assumption)|exact iW.bb (by with_reducible assumption)|exact fh _ _ (by with_reducible assumption) (by with_reducible assumption)|exact rX _ _ (by with_reducible assumption)|intro hq)
 rename_i s hs _ _ z3
 exact q2 (⟨s.bl,z3,s.zn⟩:dy) ⟨hs.bl,hs.zn,hq⟩ rfl rfl rfl rfl rfl
end
def dt(L:List ae):aZ:=if L=[] then Gh else Qs (L.map ae.row).flatten L.length
theorem wm(L:List ae)(x:ae):dt (L++[x])=Qs ((L.map ae.row).flatten++x.row) (L.length+1):=by
 unfold dt
 rw[if_neg (by simp),jZ,List.length_append];rfl
theorem G9(L:List ae)(x y:ae):dt (L++[x]++[y])=Qs ((L.map ae.row).flatten++x.row++y.row) (L.length+1+1):=by
 rw[wm,←jZ L x,List.length_append];rfl
def eh(M F:Nat->Nat->Int)(i:Nat)(L:List ae)(j:Nat):List ae:=
 if i=j\/14400<M i j then L else if M i j<F i j/\F i j<=14400 then L++[⟨i,j,M i j,F i j==M i j⟩]++[⟨i,j,F i j,true⟩] else L++[⟨i,j,M i j,F i j==M i j⟩]
def bT(M F:Nat->Nat->Int)(i:Nat)(L:List ae)(m:Nat):List ae:=(List.range m).foldl (eh M F i) L
def cg(M F:Nat->Nat->Int)(n m:Nat):List ae:=(List.range m).foldl (fun L i=>bT M F i L n) []
theorem jX(M F:Nat->Nat->Int)(i:Nat)(L:List ae)(m:Nat):bT M F i L (m+1)=eh M F i (bT M F i L m) m:=by
 unfold bT;rw[List.range_succ,List.foldl_append];rfl
theorem iJ(M F:Nat->Nat->Int)(n m:Nat):cg M F n (m+1)=bT M F m (cg M F n m) n:=by
 unfold cg;rw[List.range_succ,List.foldl_append];rfl
theorem zO(M F:Nat->Nat->Int)(i:Nat)(L:List ae)(j:Nat):(eh M F i L j).length<=L.length+2:=by
 unfold eh
 split
 ·omega
 ·split<;>simp
theorem tG(M F:Nat->Nat->Int)(i:Nat)(L:List ae)(m:Nat):(bT M F i L m).length<=L.length+2*m:=by
 induction m with
 |zero=>exact Nat.le_refl _
 |succ m ih=>rw[jX];have:=zO M F i (bT M F i L m) m;omega
theorem tH(M F:Nat->Nat->Int)(n m:Nat):(cg M F n m).length<=m*(2*n):=by
 induction m with
 |zero=>exact Nat.zero_le _
 |succ m ih=>
  rw[iJ]
  have:=tG M F m (cg M F n m) n
  have e:(m+1)*(2*n)=m*(2*n)+2*n:=Nat.succ_mul ..
  omega
theorem eg{σ:Nat->Option Nat}(L:List ae):aE σ (.ay (dt L))=some (.ay (dt L)):=by
 unfold dt
 split
 ·rfl
 ·exact cG (gT L)
theorem sy{σ:Nat->Option Nat}(L:List ae)(x y:ae)(c:Nat):aE σ (.ay (aZ.mk ((L.map ae.row).flatten++x.row++y.row) c 4 89 false false 0 true))=some (.ay (aZ.mk ((L.map ae.row).flatten++x.row++y.row) c 4 89 false false 0 true)):=cG (by
 rw[jZ,jZ];exact gT _)
def rV(z:T aa)(b n:Nat)(M:Nat->Nat->Int):Prop:= ∀i,i<n-> ∃l:List Int,z.get (b+i)=some (.ay (zL (l.map zv) n))/\l.length=n/\ ∀j,j<n->l[j]? =some (M i j)
theorem tj{z:T aa}{b n:Nat}{M:Nat->Nat->Int}(h:rV z b n M){i j:Nat}(hi:i<n)(hj:j<n): ∃k,z.get (b+i)=some (.ay k)/\aB Try.prog k 3 (0+j*1)=some (zv (M i j)):=by
 obtain⟨l,h1,h2,h3⟩:=h i hi
 exact⟨_,h1,jo (d:=_) Try.underlying3 rfl (by show(l.map zv)[j]? =_;rw[List.getElem?_map,h3 j hj];rfl)⟩
section
variable{z:T aa}{zn:Nat}
theorem HN(hz:an z zn)(n:Nat)(hn:n<=64)(b1 b2:Nat)(M F:Nat->Nat->Int)(hM:rV z b1 n M)(hF:rV z b2 n F)(i:Nat)(hi:i<n)(L:List ae)(hL:L.length<=10000):
 ai Try.prog (ah (ah (ag Try.f48) 0) 0) 4 107 (vG n L.length i 0) (qv (dO b1 n n) (dO b2 n n) (dt L)) 5 z zn (Al.R (O4 z zn n L.length i (dO b1 n n) (dO b2 n n) (dt L) (fun s=>s=⟨(bT M F i L n).length,dt (bT M F i L n)⟩)).l):=by
 refine ak hD (cZ T.leaf) (α:=Nat) 4 107 5 (fun j=>j<=n) (fun j=>vG n (bT M F i L j).length i j) (fun j=>qv (dO b1 n n) (dO b2 n n) (dt (bT M F i L j))) (fun _=>z) (fun _=>zn) (fun j=>n - j) _ (fun j hj=>?_) 0 (Nat.zero_le _)
 have hrl:=tG M F i L j
 have nx: ∀L' k' bl,bT M F i L (j+1)=L'->k'=L'.length->bl=dt L'->j<n->aj (fun j=>j<=n) (fun j=>vG n (bT M F i L j).length i j) (fun j=>qv (dO b1 n n) (dO b2 n n) (dt (bT M F i L j))) 5 (fun _=>z) (fun _=>zn) (fun j=>n - j) (Al.R (O4 z zn n L.length i (dO b1 n n) (dO b2 n n) (dt L) (fun s=>s=⟨(bT M F i L n).length,dt (bT M F i L n)⟩)).l) j .normal (vG n k' i (j+1)) (qv (dO b1 n n) (dO b2 n n) bl) 5 z zn:=fun L' k' bl e1 e2 e3 h=>by
  subst e1 e2 e3
  exact⟨j+1,rfl,rfl,rfl,rfl,rfl,h,by show n - (j+1)<n - j;omega⟩
 have fin:j=n->aj (fun j=>j<=n) (fun j=>vG n (bT M F i L j).length i j) (fun j=>qv (dO b1 n n) (dO b2 n n) (dt (bT M F i L j))) 5 (fun _=>z) (fun _=>zn) (fun j=>n - j) (Al.R (O4 z zn n L.length i (dO b1 n n) (dO b2 n n) (dt L) (fun s=>s=⟨(bT M F i L n).length,dt (bT M F i L n)⟩)).l) j (.exit 2) [(1,iv n),(5,bc 0 n n),(6,bc 1 n n),(7,bc 4 (bT M F i L j).length (bT M F i L j).length),(8,iv i)] (qv (dO b1 n n) (dO b2 n n) (dt (bT M F i L j))) 5 z zn:=fun e=>by
  subst e
  exact Or.inl ⟨(⟨(bT M F i L j).length,dt (bT M F i L j)⟩:qo),rfl,rfl⟩
 have hsucc:=jX M F i L j
 generalize bT M F i L j=K at hrl nx fin hsucc ⊢
 by_cases hlt:j<n
 ·have hc:decide ((j:Int)<(n:Int))=true:=by simp;omega
  obtain⟨k1,g1,r1⟩:=tj hM hi hlt
  obtain⟨k2,g2,r2⟩:=tj hF hi hlt
  have d1:aB Try.prog (dO b1 n n) 117 (0+i*1)=_:=pW hi
  have d2:aB Try.prog (dO b2 n n) 117 (0+i*1)=_:=pW hi
  have w0:((i:Int)==(j:Int))=true->bT M F i L (j+1)=K:=fun h=>by
   rw[hsucc];unfold eh;rw[if_pos (.inl (by simp at h;omega))]
  have w1:decide (M i j>14400)=true->bT M F i L (j+1)=K:=fun h=>by
   rw[hsucc];unfold eh;rw[if_pos (.inr (by simp at h;omega))]
  have w2:((i:Int)==(j:Int))=false->decide (M i j>14400)=false-> ∀fl,(F i j==M i j)=fl->decide (F i j>M i j)=true->decide (F i j<=14400)=true->bT M F i L (j+1)=K++[⟨i,j,M i j,fl⟩]++[⟨i,j,F i j,true⟩]:=fun h1 h2 fl h3 h4 h5=>by
   rw[hsucc];unfold eh
   rw[if_neg (by simp at h1 h2;omega),if_pos (by simp at h4 h5;omega),h3]
  have w3:((i:Int)==(j:Int))=false->decide (M i j>14400)=false-> ∀fl,(F i j==M i j)=fl->decide (F i j<=14400)=false->bT M F i L (j+1)=K++[⟨i,j,M i j,fl⟩]:=fun h1 h2 fl h3 h5=>by
   rw[hsucc];unfold eh
   rw[if_neg (by simp at h1 h2;omega),if_neg (by simp at h5;omega),h3]
  have w4:((i:Int)==(j:Int))=false->decide (M i j>14400)=false-> ∀fl,(F i j==M i j)=fl->decide (F i j>M i j)=false->bT M F i L (j+1)=K++[⟨i,j,M i j,fl⟩]:=fun h1 h2 fl h3 h5=>by
   rw[hsucc];unfold eh
   rw[if_neg (by simp at h1 h2;omega),if_neg (by simp at h5;omega),h3]
  by_cases hK:K=[]
  ·subst hK
   refine t100 (SI z zn n i j (b1+i) (b2+i) (dO b1 n n) (dO b2 n n) k1 k2 (M i j) (F i j) (aj _ _ _ _ _ _ _ _ _) ⟨fun _=>?_,fun h=>(by rw[hc] at h;cases h)⟩)
   (repeat' first|(with_reducible first|exact rfl|exact True.intro|assumption|apply And.intro|exact hz|exact hi|exact hlt|exact g1|exact g2|exact r1|exact r2|exact d1|exact d2|exact bR _ _ _|exact aG (by omega))|exact(rfl:Int.ofNat _=_)|exact(rfl:gH _ _=_)|exact hz|exact hi|exact hlt|exact g1|exact g2|exact r1|exact r2|exact d1|exact d2|exact bR _ _ _|exact aG (by omega)|intro hq)
   all_goals first
    |exact nx _ _ _ (w0 (by with_reducible assumption)) rfl rfl hlt
    |exact nx _ _ _ (w1 (by with_reducible assumption)) rfl rfl hlt
    |exact nx _ _ _ (w2 (by with_reducible assumption) (by with_reducible assumption) _ (by with_reducible assumption) (by with_reducible assumption) (by with_reducible assumption)) rfl rfl hlt
    |exact nx _ _ _ (w3 (by with_reducible assumption) (by with_reducible assumption) _ (by with_reducible assumption) (by with_reducible assumption)) rfl rfl hlt
    |exact nx _ _ _ (w4 (by with_reducible assumption) (by with_reducible assumption) _ (by with_reducible assumption) (by with_reducible assumption)) rfl rfl hlt
  ·have eK:dt K=Qs (K.map ae.row).flatten K.length:=by unfold dt;rw[if_neg hK]
   have s1: ∀fl,(⟨(K.map ae.row).flatten++(⟨i,j,M i j,fl⟩:ae).row,(K.length+1)*4,4,89,false,false,0,true⟩:aZ)=dt (K++[⟨i,j,M i j,fl⟩]):=fun fl=>(wm _ _).symm
   have s2: ∀fl,(⟨(K.map ae.row).flatten++(⟨i,j,M i j,fl⟩:ae).row++(⟨i,j,F i j,true⟩:ae).row,(K.length+1+1)*4,4,89,false,false,0,true⟩:aZ)=dt (K++[⟨i,j,M i j,fl⟩]++[⟨i,j,F i j,true⟩]):=fun fl=>(G9 _ _ _).symm
   have m1: ∀x:ae,K.length+1=(K++[x]).length:=fun x=>by simp
   have m2: ∀x y:ae,K.length+1+1=(K++[x]++[y]).length:=fun x y=>by simp
   have p1: ∀fl,((K.map ae.row).flatten++(⟨i,j,M i j,fl⟩:ae).row).length=(K.length+1)*4:=fun fl=>by
    rw[jZ,tN];simp
   rw[eK]
   refine t100 (Zl z zn n K.length i j (b1+i) (b2+i) (dO b1 n n) (dO b2 n n) k1 k2 (M i j) (F i j) (K.map ae.row).flatten (aj _ _ _ _ _ _ _ _ _) ⟨fun _=>?_,fun h=>(by rw[hc] at h;cases h)⟩)
   (repeat' first|(with_reducible first|exact rfl|exact True.intro|assumption|apply And.intro|exact hz|exact hi|exact hlt|exact g1|exact g2|exact r1|exact r2|exact d1|exact d2|exact tN K|exact p1 _|exact bR _ _ _|exact cG (gT K)|exact qD K ⟨i,j,M i j,true⟩ _|exact qD K ⟨i,j,M i j,false⟩ _|exact sy K ⟨i,j,M i j,true⟩ ⟨i,j,F i j,true⟩ _|exact sy K ⟨i,j,M i j,false⟩ ⟨i,j,F i j,true⟩ _|exact(by omega:K.length+1<=1048576)|exact(by omega:K.length+1+1<=1048576)|exact aG (by omega))|exact(rfl:Int.ofNat _=_)|exact(rfl:gH _ _=_)|exact hz|exact hi|exact hlt|exact g1|exact g2|exact r1|exact r2|exact d1|exact d2|exact tN K|exact p1 _|exact bR _ _ _|exact cG (gT K)|exact qD K ⟨i,j,M i j,true⟩ _|exact qD K ⟨i,j,M i j,false⟩ _|exact sy K ⟨i,j,M i j,true⟩ ⟨i,j,F i j,true⟩ _|exact sy K ⟨i,j,M i j,false⟩ ⟨i,j,F i j,true⟩ _|exact(by omega:K.length+1<=1048576)|exact(by omega:K.length+1+1<=1048576)|exact aG (by omega)|intro hq)
   all_goals first
    |exact nx _ _ _ (w0 (by with_reducible assumption)) rfl eK.symm hlt
    |exact nx _ _ _ (w1 (by with_reducible assumption)) rfl eK.symm hlt
    |exact nx _ _ _ (w2 (by with_reducible assumption) (by with_reducible assumption) _ (by with_reducible assumption) (by with_reducible assumption) (by with_reducible assumption)) (m2 _ _) (s2 _) hlt
    |exact nx _ _ _ (w3 (by with_reducible assumption) (by with_reducible assumption) _ (by with_reducible assumption) (by with_reducible assumption)) (m1 _) (s1 _) hlt
    |exact nx _ _ _ (w4 (by with_reducible assumption) (by with_reducible assumption) _ (by with_reducible assumption) (by with_reducible assumption)) (m1 _) (s1 _) hlt
 ·have hjn:j=n:=by omega
  have hc:decide ((j:Int)<(n:Int))=false:=by simp;omega
  by_cases hK:K=[]
  ·subst hK
   refine t100 (SI z zn n i j 0 0 (dO b1 n n) (dO b2 n n) Gh Gh 0 0 (aj _ _ _ _ _ _ _ _ _) ⟨fun h=>(by rw[hc] at h;cases h),fun _=>?_⟩)
   (repeat' first|(with_reducible first|exact rfl|exact True.intro|assumption|apply And.intro|exact hz|exact bR _ _ _)|exact(rfl:Int.ofNat _=_)|exact(rfl:gH _ _=_)|exact hz|exact bR _ _ _|intro hq)
   exact fin hjn
  ·have eK:dt K=Qs (K.map ae.row).flatten K.length:=by unfold dt;rw[if_neg hK]
   rw[eK] at fin ⊢
   refine t100 (Zl z zn n K.length i j 0 0 (dO b1 n n) (dO b2 n n) Gh Gh 0 0 (K.map ae.row).flatten (aj _ _ _ _ _ _ _ _ _) ⟨fun h=>(by rw[hc] at h;cases h),fun _=>?_⟩)
   (repeat' first|(with_reducible first|exact rfl|exact True.intro|assumption|apply And.intro|exact hz|exact bR _ _ _|exact cG (gT K))|exact(rfl:Int.ofNat _=_)|exact(rfl:gH _ _=_)|exact hz|exact bR _ _ _|exact cG (gT K)|intro hq)
   exact fin hjn
end
section
variable{z:T aa}{zn:Nat}
theorem AF(hz:an z zn)(n:Nat)(hn:n<=64)(b1 b2:Nat)(M F:Nat->Nat->Int)(hM:rV z b1 n M)(hF:rV z b2 n F):
 ai Try.prog (ah (ag Try.f48) 0) 3 107 (Ar n 0 0) (MX (dO b1 n n) (dO b2 n n) Gh) 4 z zn (Al.R (O5 z zn n (dO b1 n n) (dO b2 n n) (fun s=>s=⟨(cg M F n n).length,dt (cg M F n n)⟩)).l):=by
 refine ak hD (cZ T.leaf) (α:=Nat) 3 107 4 (fun i=>i<=n) (fun i=>Ar n (cg M F n i).length i) (fun i=>MX (dO b1 n n) (dO b2 n n) (dt (cg M F n i))) (fun _=>z) (fun _=>zn) (fun i=>n - i) _ (fun i hi=>?_) 0 (Nat.zero_le _)
 by_cases hlt:i<n
 ·have hc:decide ((i:Int)<(n:Int))=true:=by simp;omega
  have hll:(cg M F n i).length<=10000:=by
   have:=tH M F n i
   have h2:i*(2*n)<=64*(2*64):=Nat.mul_le_mul (by omega) (by omega)
   omega
  have hlp:=HN hz n hn b1 b2 M F hM hF i hlt (cg M F n i) hll
  refine t100 (Zm z zn n (cg M F n i).length i (dO b1 n n) (dO b2 n n) (dt (cg M F n i)) (fun s=>s=⟨(bT M F i (cg M F n i) n).length,dt (bT M F i (cg M F n i) n)⟩) (aj _ _ _ _ _ _ _ _ _) ⟨fun _=>?_,fun h=>(by rw[hc] at h;cases h)⟩)
  have rq: ∀(σ:bd)(s:qo),s=⟨(bT M F i (cg M F n i) n).length,dt (bT M F i (cg M F n i) n)⟩->aE (aq σ []) (.ay s.bl)=some (.ay s.bl):=fun σ s h=>by rw[h];exact eg _
  (repeat' first|(with_reducible first|exact rfl|exact True.intro|assumption|apply And.intro|exact hz|exact hlt|exact hlp|exact bR _ _ _|exact eg _|exact rq _ _ (by with_reducible assumption)|exact aG (by omega))|exact(rfl:Int.ofNat _=_)|exact(rfl:gH _ _=_)|exact hz|exact hlt|exact hlp|exact bR _ _ _|exact eg _|exact rq _ _ (by with_reducible assumption)|exact aG (by omega)|intro hq)
  rename_i x hq
  subst hq
  exact⟨i+1,by simp only[iJ];rfl,by simp only[iJ],rfl,rfl,rfl,hlt,by show n - (i+1)<n - i;omega⟩
 ·have hin:i=n:=by omega
  subst hin
  have hc:decide ((i:Int)<(i:Int))=false:=by simp
  refine t100 (Zm z zn i (cg M F i i).length i (dO b1 i i) (dO b2 i i) (dt (cg M F i i)) (fun _=>False) (aj _ _ _ _ _ _ _ _ _) ⟨fun h=>(by rw[hc] at h;cases h),fun _=>?_⟩)
  (repeat' first|(with_reducible first|exact rfl|exact True.intro|assumption|apply And.intro|exact hz|exact eg _)|exact(rfl:Int.ofNat _=_)|exact(rfl:gH _ _=_)|exact hz|exact eg _|intro hq)
  exact Or.inl ⟨(⟨(cg M F i i).length,dt (cg M F i i)⟩:qo),rfl,rfl⟩
end
def Gd(E:bW)(n i j:Nat)(v:Int):Prop:=By E n lU i j v/\v<=(lU:Int)
def MF(n:Nat)(l:List ae)(M F:Nat->Nat->Int):Prop:=(∀i j,i<n->j<n->Gd (da (fg l false)) n i j (M i j))/\(∀i j,i<n->j<n->Gd (da (fg l true)) n i j (F i j))
structure BN(z:T aa)(zn:Nat)(C:List ae)(s:qu):Prop where
 k:s.k=C.length
 bl:s.bl=dt C
 bb:an s.z s.zn
 le:zn<=s.zn
 fP: ∀k,k<zn->s.z.get k=z.get k
theorem lA{z:T aa}{zn n:Nat}{l:List ae}{b:Bool}{s:dy}(h:nO z zn n l b s): ∀k,k<zn->s.z.get k=z.get k:=by
 obtain⟨_,_,M,h,_⟩:=h;exact h.fP
theorem pe{z:T aa}{zn n:Nat}{l:List ae}{b:Bool}{s:dy}(h:nO z zn n l b s): ∃M,rV s.z zn n M/\ ∀i j,i<n->j<n->Gd (da (fg l b)) n i j (M i j):=by
 obtain⟨_,_,M,h1,h2,h3⟩:=h
 exact⟨M,h1.row,fun i j hi hj=>⟨Ia h3 hi hj,h2.le i j hi hj⟩⟩
theorem tk{z z':T aa}{b n m:Nat}{d:Nat->Nat->Int}(h:rV z b n d)(hb:b+n<=m)(hk: ∀k,k<m->z'.get k=z.get k):rV z' b n d:=fun i hi=>by
 obtain⟨l,h1,h2⟩:=h i hi
 exact⟨l,by rw[hk _ (by omega)];exact h1,h2⟩
section
variable{z:T aa}{zn:Nat}
theorem FJ(hz:an z zn)(h5:5<=zn)(n:Nat)(hn:n<=64)(l:List ae)(hl:nk n l)(hll:l.length<=10000)(cp:Nat)(hL:cy z 4 (l.map ae.row))(C:List ae)(hC: ∀M F,MF n l M F->cg M F n n=C):
 aV Try.prog z zn 48 [tb 4 l.length cp,iv n] [] 0 1 (BN z zn C) (fun s=>bc 0 s.k s.k) (fun s=>[(0, .ay s.bl)]) (fun s=>s.z) (fun s=>s.zn):=by
 have d1:=D9 hz h5 n hn l hl hll cp hL false
 have d2: ∀s,nO z zn n l false s->aV Try.prog s.z s.zn 57 [tb 4 l.length cp,iv n,T1] [] 0 1 (nO s.z s.zn n l true) (fun _=>bc 0 n n) (fun s=>[(0, .ay s.bl)]) (fun s=>s.z) (fun s=>s.zn):=fun s h=>D9 h.bb (by rw[h.2.1];omega) n hn l hl hll cp (dX hL hz (lA h)) true
 have rb: ∀{z zn b s},nO z zn n l b s-> ∀σ,aE (aq σ []) (.ay s.bl)=some (.ay s.bl):=fun h σ=>by rw[h.1];exact bR _ _ _
 have rb2: ∀{z zn b s},nO z zn n l b s-> ∀σ,aE (sig σ) (.ay s.bl)=some (.ay s.bl):=fun h σ=>rb h σ
 have lp: ∀s1 s2,nO z zn n l false s1->nO s1.z s1.zn n l true s2->ai Try.prog (ah (ag Try.f48) 0) 3 107 (Ar n 0 0) (MX s1.bl s2.bl Gh) 4 s2.z s2.zn (Al.R (O5 s2.z s2.zn n s1.bl s2.bl (fun s=>s=⟨C.length,dt C⟩)).l):=fun s1 s2 h1 h2=>by
  obtain⟨M,m1,m2⟩:=pe h1
  obtain⟨F,f1,f2⟩:=pe h2
  have:=AF h2.bb n hn zn s1.zn M F (tk m1 (by rw[h1.2.1];exact Nat.le_refl _) (lA h2)) f1
  rw[hC M F ⟨m2,f2⟩] at this
  rw[h1.1,h2.1]
  exact this
 have ro: ∀(σ:bd)(s:qo),s=⟨C.length,dt C⟩->aE (aq σ []) (.ay s.bl)=some (.ay s.bl):=fun σ s h=>by rw[h];exact eg _
 have le2: ∀s1 s2,nO z zn n l false s1->nO s1.z s1.zn n l true s2->zn<=s2.zn:=fun s1 s2 h1 h2=>by rw[h2.2.1,h1.2.1];omega
 have fin: ∀s1 s2,nO z zn n l false s1->nO s1.z s1.zn n l true s2->BN z zn C ⟨C.length,dt C,s2.z,s2.zn⟩:=fun s1 s2 h1 h2=>⟨rfl,rfl,h2.bb,le2 s1 s2 h1 h2,fun k hk=>(lA h2 k (by rw[h1.2.1];omega)).trans (lA h1 k hk)⟩
 refine dJ (cZ T.leaf) (fn:=Try.f48) (by kernel_rfl) (by kernel_rfl) hz ⟨by decide,by decide⟩ (fun s hs=>⟨rfl,hs.le,hs.bb⟩) (N:=100) ?_
 refine cq z zn l.length cp n (nO z zn n l false) (fun s=>nO s.z s.zn n l true) (fun _ _ s=>s=⟨C.length,dt C⟩) _ ?_
 (repeat' first|(with_reducible first|exact rfl|exact True.intro|assumption|apply And.intro|exact hz|exact d1|exact d2 _ (by with_reducible assumption)|exact lp _ _ (by with_reducible assumption) (by with_reducible assumption)|exact nO.bb (by with_reducible assumption)|exact rb (by with_reducible assumption) _|exact rb2 (by with_reducible assumption) _|exact ro _ _ (by with_reducible assumption)|exact aT _ _ _ _)|exact(rfl:Int.ofNat _=_)|exact(rfl:gH _ _=_)|exact hz|exact d1|exact d2 _ (by with_reducible assumption)|exact lp _ _ (by with_reducible assumption) (by with_reducible assumption)|exact nO.bb (by with_reducible assumption)|exact rb (by with_reducible assumption) _|exact rb2 (by with_reducible assumption) _|exact ro _ _ (by with_reducible assumption)|exact aT _ _ _ _|intro hq)
 rename_i s1 h1 s2 h2 s
 subst hq
 exact q2 (⟨C.length,dt C,s2.z,s2.zn⟩:qu) (fin s1 s2 h1 h2) rfl rfl rfl rfl rfl
theorem CM(hz:an z zn)(h5:5<=zn)(n:Nat)(hn:n<=64)(C:List ae)(hC: ∀M F,MF n [] M F->cg M F n n=C):
 aV Try.prog z zn 48 [aw,iv n] [] 0 1 (BN z zn C) (fun s=>bc 0 s.k s.k) (fun s=>[(0, .ay s.bl)]) (fun s=>s.z) (fun s=>s.zn):=by
 have d1:=A9 hz h5 n hn false
 have d2: ∀s,nO z zn n [] false s->aV Try.prog s.z s.zn 57 [aw,iv n,T1] [] 0 1 (nO s.z s.zn n [] true) (fun _=>bc 0 n n) (fun s=>[(0, .ay s.bl)]) (fun s=>s.z) (fun s=>s.zn):=fun s h=>A9 h.bb (by rw[h.2.1];omega) n hn true
 have rb: ∀{z zn b s},nO z zn n [] b s-> ∀σ,aE (aq σ []) (.ay s.bl)=some (.ay s.bl):=fun h σ=>by rw[h.1];exact bR _ _ _
 have rb2: ∀{z zn b s},nO z zn n [] b s-> ∀σ,aE (sig σ) (.ay s.bl)=some (.ay s.bl):=fun h σ=>rb h σ
 have lp: ∀s1 s2,nO z zn n [] false s1->nO s1.z s1.zn n [] true s2->ai Try.prog (ah (ag Try.f48) 0) 3 107 (Ar n 0 0) (MX s1.bl s2.bl Gh) 4 s2.z s2.zn (Al.R (O5 s2.z s2.zn n s1.bl s2.bl (fun s=>s=⟨C.length,dt C⟩)).l):=fun s1 s2 h1 h2=>by
  obtain⟨M,m1,m2⟩:=pe h1
  obtain⟨F,f1,f2⟩:=pe h2
  have:=AF h2.bb n hn zn s1.zn M F (tk m1 (by rw[h1.2.1];exact Nat.le_refl _) (lA h2)) f1
  rw[hC M F ⟨m2,f2⟩] at this
  rw[h1.1,h2.1]
  exact this
 have ro: ∀(σ:bd)(s:qo),s=⟨C.length,dt C⟩->aE (aq σ []) (.ay s.bl)=some (.ay s.bl):=fun σ s h=>by rw[h];exact eg _
 have le2: ∀s1 s2,nO z zn n [] false s1->nO s1.z s1.zn n [] true s2->zn<=s2.zn:=fun s1 s2 h1 h2=>by rw[h2.2.1,h1.2.1];omega
 have fin: ∀s1 s2,nO z zn n [] false s1->nO s1.z s1.zn n [] true s2->BN z zn C ⟨C.length,dt C,s2.z,s2.zn⟩:=fun s1 s2 h1 h2=>⟨rfl,rfl,h2.bb,le2 s1 s2 h1 h2,fun k hk=>(lA h2 k (by rw[h1.2.1];omega)).trans (lA h1 k hk)⟩
 refine dJ (cZ T.leaf) (fn:=Try.f48) (by kernel_rfl) (by kernel_rfl) hz ⟨by decide,by decide⟩ (fun s hs=>⟨rfl,hs.le,hs.bb⟩) (N:=100) ?_
 refine cqn z zn n (nO z zn n [] false) (fun s=>nO s.z s.zn n [] true) (fun _ _ s=>s=⟨C.length,dt C⟩) _ ?_
 (repeat' first|(with_reducible first|exact rfl|exact True.intro|assumption|apply And.intro|exact hz|exact d1|exact d2 _ (by with_reducible assumption)|exact lp _ _ (by with_reducible assumption) (by with_reducible assumption)|exact nO.bb (by with_reducible assumption)|exact rb (by with_reducible assumption) _|exact rb2 (by with_reducible assumption) _|exact ro _ _ (by with_reducible assumption)|exact aT _ _ _ _)|exact(rfl:Int.ofNat _=_)|exact(rfl:gH _ _=_)|exact hz|exact d1|exact d2 _ (by with_reducible assumption)|exact lp _ _ (by with_reducible assumption) (by with_reducible assumption)|exact nO.bb (by with_reducible assumption)|exact rb (by with_reducible assumption) _|exact rb2 (by with_reducible assumption) _|exact ro _ _ (by with_reducible assumption)|exact aT _ _ _ _|intro hq)
 rename_i s1 h1 s2 h2 s
 subst hq
 exact q2 (⟨C.length,dt C,s2.z,s2.zn⟩:qu) (fin s1 s2 h1 h2) rfl rfl rfl rfl rfl
end
theorem HW{P:Nat->Prop}: ∀n,P n-> ∃m,P m/\ ∀k,P k->m<=k:=by
 intro n
 induction n using Nat.strongRecOn with
 |ind n ih=>
  intro hn
  by_cases h: ∃k,k<n/\P k
  ·obtain⟨k,h1,h2⟩:=h
   exact ih k h1 h2
  ·exact⟨n,hn,fun k hk=>Nat.le_of_not_lt fun hlt=>h ⟨k,hlt,hk⟩⟩
theorem DT(E:bW)(n i j:Nat): ∃v,Gd E n i j v:=by
 by_cases h: ∃L,L<lU/\Wk E n i j L
 ·obtain⟨L,h1,h2⟩:=h
  obtain⟨m,m1,m2⟩:=HW (P:=fun L=>Wk E n i j L) L h2
  have:=m2 L h2
  exact⟨(m:Int),⟨by omega,fun _=>by simpa using m1,fun k hk=>by have:=m2 k hk;omega⟩,Int.ofNat_le.2 (by omega)⟩
 ·refine⟨(lU:Int),⟨by omega,fun hlt=>absurd hlt (Int.lt_irrefl _),fun k hk=>?_⟩,Int.le_refl _⟩
  by_cases hb:k<lU
  ·exact absurd ⟨k,hb,hk⟩ h
  ·omega
theorem wY{E:bW}{n i j:Nat}{v w:Int}(h:Gd E n i j v)(k:Gd E n i j w):v=w:=by
 obtain⟨⟨a1,a2,a3⟩,a4⟩:=h
 obtain⟨⟨b1,b2,b3⟩,b4⟩:=k
 by_cases hv:v<(lU:Int)
 ·have:=b3 _ (a2 hv)
  have:=a3 _ (b2 (by omega))
  omega
 ·by_cases hw:w<(lU:Int)
  ·have:=a3 _ (b2 hw);omega
  ·omega
theorem Af(n:Nat)(l:List ae): ∃M F,MF n l M F:=by
 obtain⟨M,hM⟩:=Classical.axiomOfChoice fun i:Nat=>Classical.axiomOfChoice fun j:Nat=>DT (da (fg l false)) n i j
 obtain⟨F,hF⟩:=Classical.axiomOfChoice fun i:Nat=>Classical.axiomOfChoice fun j:Nat=>DT (da (fg l true)) n i j
 exact⟨M,F,fun i j _ _=>hM i j,fun i j _ _=>hF i j⟩
def Ot(e:Nat × Nat × Int × Bool):ae:=⟨e.1,e.2.1,e.2.2.1,e.2.2.2⟩
theorem L8{d f:Nat->Nat->Int}{a b:Nat}(L:List ae)(h:a≠b):iG d f a L b=L++(sF a b (d a b) (f a b)).map Ot:=by
 unfold iG sF iU
 rw[if_neg h]
 by_cases e:f a b=d a b
 ·rw[if_pos e,if_pos e,decide_eq_true e,List.append_nil]
  by_cases c:0<d a b/\d a b<=14400
  ·rw[if_pos c,if_pos c];rfl
  ·rw[if_neg c,if_neg c];simp
 ·rw[if_neg e,if_neg e,decide_eq_false e]
  by_cases c:0<d a b/\d a b<=14400<;>by_cases c2:0<f a b/\f a b<=14400
  ·rw[if_pos c,if_pos c,if_pos c2,if_pos c2];simp[Ot]
  ·rw[if_pos c,if_pos c,if_neg c2,if_neg c2];simp[Ot]
  ·rw[if_neg c,if_neg c,if_pos c2,if_pos c2];simp[Ot]
  ·rw[if_neg c,if_neg c,if_neg c2,if_neg c2];simp
theorem Kw{M F:Nat->Nat->Int}{a b:Nat}(L:List ae)(h:a≠b):eh M F a L b=L++(xQ a b (M a b) (F a b)).map Ot:=by
 unfold eh xQ
 have hb:(F a b==M a b)=decide (F a b=M a b):=by
  by_cases e:F a b=M a b<;>simp[e]
 rw[hb]
 by_cases c:14400<M a b
 ·rw[if_pos (.inr c),if_pos c];simp
 ·rw[if_neg (by omega),if_neg c]
  by_cases c2:M a b<F a b/\F a b<=14400
  ·rw[if_pos c2,if_pos c2];simp[Ot]
  ·rw[if_neg c2,if_neg c2];simp[Ot]
theorem jF{α β:Type}{f g:α->β->α}: ∀(l:List β)(a:α),(∀a,∀b∈l,f a b=g a b)->l.foldl f a=l.foldl g a
 |[],_,_=>rfl
 |b::l,a,h=>by
  rw[List.foldl_cons,List.foldl_cons,h a b (List.mem_cons_self ..)]
  exact jF l _ fun a c hc=>h a c (List.mem_cons_of_mem _ hc)
theorem GM{n:Nat}{d f M F:Nat->Nat->Int}(h: ∀i j,i<n->j<n->i≠j->jm.Alike (M i j) (d i j)/\jm.Alike (F i j) (f i j)/\M i j<=F i j):eP d f n n=cg M F n n:=by
 unfold eP cg
 refine jF _ _ fun L a ha=>?_
 unfold cW bT
 refine jF _ _ fun L b hb=>?_
 by_cases e:a=b
 ·unfold iG eh
  rw[if_pos e,if_pos (.inl e)]
 ·obtain⟨h1,h2,h3⟩:=h a b (List.mem_range.1 ha) (List.mem_range.1 hb) e
  rw[L8 L e,Kw L e,Ix h1 h2 h3]
theorem mK{l:List ae}{b:Bool}{u v w:Nat}:(u,v,w)∈fg l b↔ ∃p∈l,fE b p=true/\p.from_.toNat=u/\p.ax.toNat=v/\p.aI.toNat=w:=by
 unfold fg
 simp only[List.mem_map,List.mem_filter,Prod.mk.injEq]
 constructor
 ·rintro⟨p,⟨h1,h2⟩,h3,h4,h5⟩;exact⟨p,h1,h2,h3,h4,h5⟩
 ·rintro⟨p,h1,h2,h3,h4,h5⟩;exact⟨p,⟨h1,h2⟩,h3,h4,h5⟩
theorem tg{n:Nat}{l:List ae}(hl:nk n l){b:Bool}{E:List eH}(h:Ri n l b E):xB (da (fg l b)) (EE E):=by
 refine⟨fun u v w hm=>?_,fun u v w hm=>?_⟩
 ·obtain⟨p,p1,p2,p3,p4,p5⟩:=mK.1 hm
  obtain⟨k1,k2,k3,k4,_,k6,k7⟩:=hl.ok p p1
  obtain⟨e,e1,e2,e3,e4⟩:=h.all p p1 p2
  have:=h.ok.ok e e1
  exact⟨e.wt.toNat,by omega,e,e1,by omega,by omega,by omega⟩
 ·obtain⟨e,e1,e2,e3,e4⟩:=hm
  obtain⟨p,p1,p2,p3,p4,p5⟩:=h.sub e e1
  exact⟨w,Nat.le_refl _,mK.2 ⟨p,p1,p2,by omega,by omega,by omega⟩⟩
theorem Dr{n:Nat}{l:List ae}(hl:nk n l){b:Bool}:Pos (da (fg l b)):=fun u v w hm=>by
 obtain⟨p,p1,p2,p3,p4,p5⟩:=mK.1 hm
 have:=hl.ok p p1
 omega
theorem Nm{n:Nat}{E:List eH}(h:Gf n E): ∀a b w,EE E a b w->a<n/\b<n:=fun a b w ⟨e,e1,e2,e3,e4⟩=>by
 have:=h.ok e e1
 omega
theorem KP{l:List ae}: ∀a b w,da (fg l true) a b w-> ∃w',w'<=w/\da (fg l false) a b w':=fun a b w hm=>by
 obtain⟨p,p1,p2,p3⟩:=mK.1 hm
 exact⟨w,Nat.le_refl _,mK.2 ⟨p,p1,rfl,p3⟩⟩
theorem IG{n:Nat}{l:List ae}(hl:nk n l){d f M F:Nat->Nat->Int}(h:DF n l d f)(k:MF n l M F):eP d f n n=cg M F n n:=by
 obtain⟨E,G,hE,hG,h1,h2⟩:=h
 refine GM fun i j hi hj hij=>⟨?_,?_,?_⟩
 ·exact Bk (tg hl hE) (Dr hl) (Nm hE.ok) (by decide) (fun e=>hij e.symm) (k.1 i j hi hj).1 (h1 i j hi hj)
 ·exact Bk (tg hl hG) (Dr hl) (Nm hG.ok) (by decide) (fun e=>hij e.symm) (k.2 i j hi hj).1 (h2 i j hi hj)
 ·rcases Ae KP (k.1 i j hi hj).1 (k.2 i j hi hj).1 with h|h
  ·exact h
  ·exact Int.le_trans (k.1 i j hi hj).2 h
theorem IH(n:Nat)(l:List ae): ∃C:List ae,(∃M F,MF n l M F/\C=cg M F n n)/\ ∀M F,MF n l M F->cg M F n n=C:=by
 obtain⟨M,F,h⟩:=Af n l
 refine⟨cg M F n n,⟨M,F,h,rfl⟩,fun M' F' h'=>?_⟩
 unfold cg
 refine jF _ _ fun L a ha=>?_
 unfold bT
 refine jF _ _ fun L b hb=>?_
 have ha:=List.mem_range.1 ha
 have hb:=List.mem_range.1 hb
 unfold eh
 rw[wY (h'.1 a b ha hb) (h.1 a b ha hb),wY (h'.2 a b ha hb) (h.2 a b ha hb)]
noncomputable def im(n:Nat)(l:List ae):List ae:=Classical.choose (IH n l)
theorem mX{n:Nat}{l:List ae}{M F:Nat->Nat->Int}(h:MF n l M F):cg M F n n=im n l:=(Classical.choose_spec (IH n l)).2 M F h
theorem xk{n:Nat}{l:List ae}(hl:nk n l){d f:Nat->Nat->Int}(h:DF n l d f):eP d f n n=im n l:=by
 obtain⟨M,F,hm⟩:=Af n l
 rw[IG hl h hm];exact mX hm
open Classical in
theorem nL{P:Program}{z:T aa}{zn f:Nat}{args:List Value}{nx:Nat}{α:Type}{φ:α->Prop}{v:Value}{zz:α->T aa}{zn':α->Nat}(h:aV P z zn f args [] nx nx φ (fun _=>v) (fun _=>[]) zz zn')(hv:az v=true)
 (ho: ∀x,φ x-> ∀k,k<zn->(zz x).get k=z.get k):aQ P z zn f args [] nx nx (fun _:Unit=>True) (fun _=>v) (fun _=>[]):=by
 have hz:=h.1
 refine⟨h.1,h.2.1,h.2.2.1,fun _ _=>⟨fun b o hb=>by simp at hb,Nat.le_refl _,h.1⟩,fun ρ w args' n h1 h2 h3 h4=>(h.2.2.2.2 ρ w args' n h1 h2 h3 h4).mono fun e w' ⟨x,hx,hg⟩=>⟨(),trivial,?_⟩⟩
 obtain⟨ρ',v',e1,g1,g2,g3⟩:=hg
 have hle:=(h.2.2.2.1 x hx).le
 have hsub: ∀b o,(fY z [] nx).heap.get b=some o->(fY (zz x) [] nx).heap.get b=some o:=fun b o hb=>by
  obtain⟨k,e,hk⟩:=eZ hb
  show(po (zz x)).get b=_
  rw[e,fR]
  show(zz x).get k=_
  rw[ho x hx k (hz k o hk).1];exact hk
 have hfr: ∀b o,(fY z [] nx).heap.get b=some o-> ∃k,b=256*k+510/\k<zn/\z.get k=some o:=fun b o hb=>by
  obtain⟨k,e,hk⟩:=eZ hb
  exact⟨k,e,(hz k o hk).1,hk⟩
 have hno: ∀b,jS zn (zn' x) b->ρ b=none:=fun b ⟨k,e,k1,_⟩=>by rw[e];exact h4 k k1
 have hle':aW.le (fun b=>if jS zn (zn' x) b then none else ρ' b) ρ':=fun b L hL=>by
  simp only at hL
  split at hL
  ·cases hL
  ·exact hL
 refine⟨fun b=>if jS zn (zn' x) b then none else ρ' b,v',e1,?_,⟨fun b o hb=>?_,fun i j oi oj Li Lj hi hj hij how hLi hLj=>g2.inj i j oi oj Li Lj (hsub _ _ hi) (hsub _ _ hj) hij how (hle' _ _ hLi) (hle' _ _ hLj)⟩,⟨⟨g3.core.os,g3.core.tape,g3.core.output,g3.core.size,g3.core.same,fun b o L hb ho hL=>g3.core.own b o L (hsub _ _ hb) ho (hle' _ _ hL),fun b o L hb hL=>g3.core.any b o L (hsub _ _ hb) (hle' _ _ hL)⟩,fun b L hL=>?_,fun b hb _=>?_⟩⟩
 ·have:=g1.plain hv
  subst this
  exact VR.bq hv
 ·obtain⟨L,y,k1,k2,k3⟩:=g2.obj b o (hsub b o hb)
  obtain⟨k,e,hk,hzk⟩:=hfr b o hb
  have hnot: ∀k,k<zn-> ¬jS zn (zn' x) (256*k+510):=fun k hk ⟨j,e,j1,_⟩=>by omega
  refine⟨L,y,(if_neg (by rw[e];exact hnot k hk)).trans k1,k2,?_⟩
  have:=(hz k o hzk).2 (fun b=>if∃j,j<zn/\b=256*j+510 then some b else none) fun j hj=>by rw[if_pos ⟨j,hj,rfl⟩]
  refine(nz this k3).mono fun c M hM=>?_
  simp only[dV] at hM
  by_cases hc: ∃j,j<zn/\c=256*j+510
  ·rw[if_pos hc] at hM
   obtain⟨j,hj,e⟩:=hc
   exact(if_neg (by rw[e];exact hnot j hj)).trans hM
  ·rw[if_neg hc] at hM;cases hM
 ·by_cases hn:jS zn (zn' x) b
  ·rw[hno b hn] at hL;cases hL
  ·exact(if_neg hn).trans (g3.ext _ _ hL)
 ·by_cases hn:jS zn (zn' x) b
  ·exact(if_pos hn).trans (hno b hn).symm
  ·exact(if_neg hn).trans (g3.tz b hb hn)
def Iu(x y:ae):Bool:=decide (x.from_=y.from_) && (decide (x.ax=y.ax) && (decide (x.aI=y.aI) && (x.sf==y.sf)))
theorem yD(i j:Nat)(x y:ae):yE Try.prog .neq 89 (.tmp i) (.tmp j) (.agg ⟨x.row⟩) (.agg ⟨y.row⟩) (.bool (!Iu x y)):=by
 unfold yE
 rw[prun_bind]
 have h1:prun Try.prog (eqGuard .neq 89 (.tmp i) (.tmp j) (.agg ⟨x.row⟩) (.agg ⟨y.row⟩))=some ():=by kernel_rfl
 rw[h1,Option.bind_some]
 show prun _ (Op.equal _ _ _>>=fun b=>pure (Value.bool (!b)))=_
 rw[prun_bind,Is]
 rfl
theorem mU{x y:ae}:Iu x y=true↔x=y:=by
 obtain⟨a,b,c,d⟩:=x
 obtain⟨a',b',c',d'⟩:=y
 unfold Iu
 simp
instance:DecidableEq ae:=fun x y=>decidable_of_iff _ mU
section
variable{z:T aa}{zn:Nat}
theorem Lo(hz:an z zn)(l C:List ae)(cp k:Nat)(hL:cy z 4 (l.map ae.row))(hk:z.get k=some (Pm (C.map ae.row).flatten C.length))(hlen:C.length=l.length)(hll:l.length<=10000)(b:Bool)(hb:b=decide (C=l)):
 ai Try.prog (ah (ag Try.f30) 0) 0 43 (Cj k C.length l.length cp 0) [] 0 z zn (Al.R (Sj z zn k C.length l.length cp b).l):=by
 refine ak hD (cZ T.leaf) (α:=Nat) 0 43 0 (fun i=>i<=l.length/\ ∀j,j<i->C[j]? =l[j]?) (fun i=>Cj k C.length l.length cp i) (fun _=>[]) (fun _=>z) (fun _=>zn) (fun i=>l.length - i) _ (fun i hI=>?_) 0 ⟨Nat.zero_le _,fun j hj=>absurd hj (Nat.not_lt_zero _)⟩
 obtain⟨hi,hs⟩:=hI
 by_cases hlt:i<l.length
 ·obtain⟨x,hx⟩:=ej hlt
  obtain⟨y,hy⟩:=ej (l:=C) (i:=i) (by omega)
  have hc:decide ((i:Int)<(C.length:Int))=true:=by simp;omega
  have hltC:i<C.length:=by omega
  obtain⟨el,hel⟩:=hL.ay (i:=i) (by simp;omega)
  have r1:aB Try.prog (bC el (l.map ae.row).flatten) 89 (0+i*4)=some (.agg ⟨x.row⟩):=bO (r:=x.row) (sz:=4) Try.underlying89 rfl rfl (aM (row:=ae.row) (sz:=4) l fun _=>rfl) (by rw[List.getElem?_map,hx];rfl)
  have r2:aB Try.prog ⟨(C.map ae.row).flatten,C.length*4,4,89,false,false,0,true⟩ 89 (0+i*4)=some (.agg ⟨y.row⟩):=gE (rows:=C.map ae.row) rfl (r:=y.row) (sz:=4) Try.underlying89 rfl rfl (aM (row:=ae.row) (sz:=4) C fun _=>rfl) (by rw[List.getElem?_map,hy];rfl)
  refine t100 (Zi z zn k C.length l.length cp i (bC el (l.map ae.row).flatten) ⟨(C.map ae.row).flatten,C.length*4,4,89,false,false,0,true⟩ x y (!Iu y x) (aj _ _ _ _ _ _ _ _ _) ⟨fun _=>?_,fun h=>(by rw[hc] at h;cases h)⟩)
  (repeat' first|(with_reducible first|exact rfl|exact True.intro|assumption|apply And.intro|exact hz|exact hlt|exact hltC|exact hk|exact hel|exact r1|exact r2|exact yD _ _ _ _|exact aT _ _ _ _|exact aG (by omega))|exact(rfl:Int.ofNat _=_)|exact(rfl:gH _ _=_)|exact hz|exact hlt|exact hltC|exact hk|exact hel|exact r1|exact r2|exact yD _ _ _ _|exact aT _ _ _ _|exact aG (by omega)|intro hq)
  ·refine bJ ?_
   have hne: ¬y=x:=fun e=>by rw[mU.2 e] at hq;cases hq
   rw[hb];simp
   intro e;subst e;rw[hx] at hy;cases hy;exact hne rfl
  ·have he:y=x:=mU.1 (by simpa using hq)
   subst he
   exact⟨i+1,rfl,rfl,rfl,rfl,rfl,⟨by omega,fun j hj=>by
    by_cases e:j=i
    ·subst e;rw[hx,hy]
    ·exact hs j (by omega)⟩,by show l.length - (i+1)<l.length - i;omega⟩
 ·have hil:i=l.length:=by omega
  have hc:decide ((i:Int)<(C.length:Int))=false:=by simp;omega
  refine t100 (Zi z zn k C.length l.length cp i ⟨[],0,0,0,true,true,0,true⟩ ⟨[],0,0,0,true,true,0,true⟩ ⟨0,0,0,true⟩ ⟨0,0,0,true⟩ true (aj _ _ _ _ _ _ _ _ _) ⟨fun h=>(by rw[hc] at h;cases h),fun _=>?_⟩)
  (repeat' first|(with_reducible first|exact rfl|exact True.intro|assumption|apply And.intro|exact hz)|exact(rfl:Int.ofNat _=_)|exact(rfl:gH _ _=_)|exact hz|intro hq)
  refine dw (bJ ?_)
  have:C=l:=by
   refine List.ext_getElem? fun j=>?_
   by_cases hj:j<i
   ·exact hs j hj
   ·rw[List.getElem?_eq_none (by omega),List.getElem?_eq_none (by omega)]
  rw[hb];simp[this]
end
theorem OA{x y:ae}(h:(y.from_==x.from_)=false):cf x y=false:=by
 unfold cf
 have: ¬y.from_=x.from_:=by simpa using h
 rw[decide_eq_false this];rfl
theorem Oz{x y:ae}(h:(y.ax==x.ax)=false):cf x y=false:=by
 unfold cf
 have: ¬y.ax=x.ax:=by simpa using h
 rw[decide_eq_false this];simp
theorem Oy{x y:ae}(h:y.sf=true)(h2:x.sf=false):cf x y=false:=by
 unfold cf
 rw[h,h2];simp
theorem Ox{x y:ae}(h:y.sf=false)(h2:x.sf=true):cf x y=false:=by
 unfold cf
 rw[h,h2];simp
theorem M3{x y:ae}(h:(y.from_==x.from_)=true)(h2:(y.ax==x.ax)=true)(h3:y.sf=x.sf):cf x y=true:=by
 unfold cf
 rw[decide_eq_true (by simpa using h),decide_eq_true (by simpa using h2),h3];simp
section
variable{z:T aa}{zn:Nat}
theorem HE(hz:an z zn)(hg:fD Try.prog z gP)(N:aA)(l:List ae)(hN:N.np=l.length)(hll:l.length<=10000)(hnet: ∀σ:bd,aE (aq σ []) (N.cu N.p1)=some (N.cu N.p1))(hL:cy z 4 (l.map ae.row))(i:Nat)(x:ae)(hx:l[i]? =some x):
 ai Try.prog (ah (ah (ag Try.f36) 0) 0) 2 111 (yb i 0) [(0,N.cu N.p1),(1,xR x)] 2 z zn (Al.R (O7 z zn N i x ((l.take i).any (cf x))).l):=by
 have hi:i<l.length:=(List.getElem?_eq_some_iff.1 hx).1
 refine ak hD hg (α:=Nat) 2 111 2 (fun k=>k<=i/\(l.take k).any (cf x)=false) (fun k=>yb i k) (fun k=>[(0,N.cu N.p1),(1,xR x)]) (fun _=>z) (fun _=>zn) (fun k=>i - k) _ (fun k hI=>?_) 0 ⟨Nat.zero_le _,by simp⟩
 obtain⟨hk,hs⟩:=hI
 by_cases hlt:k<i
 ·obtain⟨y,hy⟩:=ej (l:=l) (i:=k) (by omega)
  have hc:decide ((k:Int)<(i:Int))=true:=by simp;omega
  have hkn:k<N.np:=by omega
  obtain⟨el,hel⟩:=hL.ay (i:=k) (by simp;omega)
  have r0:aB Try.prog (bC el (l.map ae.row).flatten) 89 (0+k*4)=some (.agg ⟨y.row⟩):=bO (r:=y.row) (sz:=4) Try.underlying89 rfl rfl (aM (row:=ae.row) (sz:=4) l fun _=>rfl) (by rw[List.getElem?_map,hy];rfl)
  have nx:cf x y=false->aj (fun k=>k<=i/\(l.take k).any (cf x)=false) (fun k=>yb i k) (fun k=>[(0,N.cu N.p1),(1,xR x)]) 2 (fun _=>z) (fun _=>zn) (fun k=>i - k) (Al.R (O7 z zn N i x ((l.take i).any (cf x))).l) k .normal (yb i (k+1)) [(0,N.cu N.p1),(1,xR x)] 2 z zn:=fun h=>
   ⟨k+1,rfl,rfl,rfl,rfl,rfl,⟨hlt,by rw[jJ hy,hs,h];rfl⟩,by show i - (k+1)<i - k;omega⟩
  have ret:cf x y=true->aj (fun k=>k<=i/\(l.take k).any (cf x)=false) (fun k=>yb i k) (fun k=>[(0,N.cu N.p1),(1,xR x)]) 2 (fun _=>z) (fun _=>zn) (fun k=>i - k) (Al.R (O7 z zn N i x ((l.take i).any (cf x))).l) k .ret [(2,iv i),(3,I 6)] [] 2 z zn:=fun h=>by
   refine bJ ?_
   rw[List.any_eq_true]
   exact⟨y,List.mem_of_getElem? (i:=k) (by rw[List.getElem?_take,if_pos hlt];exact hy),h⟩
  refine t100 (X7 z zn i k N (bC el (l.map ae.row).flatten) x y (aj _ _ _ _ _ _ _ _ _) ⟨fun _=>?_,fun h=>(by rw[hc] at h;cases h)⟩)
  (repeat' first|(with_reducible first|exact rfl|exact True.intro|assumption|apply And.intro|exact hz|exact hkn|exact hel|exact r0|exact hnet _|exact aG (by omega))|exact(rfl:Int.ofNat _=_)|exact(rfl:gP _ _=_)|exact hz|exact hkn|exact hel|exact r0|exact hnet _|exact aG (by omega)|intro hq)
  all_goals first
   |exact nx (OA (by with_reducible assumption))
   |exact nx (Oz (by with_reducible assumption))
   |exact ret (M3 (by with_reducible assumption) (by with_reducible assumption) (Eq.trans (by with_reducible assumption:y.sf=true) (Eq.symm (by with_reducible assumption:x.sf=true))))
   |exact ret (M3 (by with_reducible assumption) (by with_reducible assumption) (Eq.trans (by with_reducible assumption:y.sf=false) (Eq.symm (by with_reducible assumption:x.sf=false))))
   |exact nx (Oy (by with_reducible assumption) (by with_reducible assumption))
   |exact nx (Ox (by with_reducible assumption) (by with_reducible assumption))
 ·have hki:k=i:=by omega
  subst hki
  have hc:decide ((k:Int)<(k:Int))=false:=by simp
  refine t100 (X7 z zn k k N ⟨[],0,0,0,true,true,0,true⟩ x ⟨0,0,0,true⟩ (aj _ _ _ _ _ _ _ _ _) ⟨fun h=>(by rw[hc] at h;cases h),fun _=>?_⟩)
  (repeat' first|(with_reducible first|exact rfl|exact True.intro|assumption|apply And.intro|exact hz|exact hnet _)|exact(rfl:Int.ofNat _=_)|exact(rfl:gP _ _=_)|exact hz|exact hnet _|intro hq)
  exact dw (bJ hs)
theorem HC(hz:an z zn)(hg:fD Try.prog z gP)(N:aA)(l C:List ae)(hN:N.np=l.length)(hlen:C.length=l.length)(hll:l.length<=10000)(hnet: ∀σ:bd,aE (aq σ []) (N.cu N.p1)=some (N.cu N.p1))(hL:cy z 4 (l.map ae.row))(s:qu)(hk:s.k=C.length)(hbl:s.bl=dt C)(hsz:s.z=z)(hszn:s.zn=zn)(b:Bool)(hb:b=decide (C=l)):
 ai Try.prog (ah (ag Try.f36) 2) 2 111 (se s.k 0) [(0,N.cu N.p1),(1, .ay s.bl)] 2 z zn (Al.R (O6 N N.p1 b s).l):=by
 obtain⟨k,bl,z',zn'⟩:=s
 simp only at hk hbl hsz hszn
 subst hk hbl hsz hszn
 have hox:(dt C).cells=(C.map ae.row).flatten:=by
  unfold dt
  split
  ·rename_i e;subst e;rfl
  ·rfl
 refine ak hD hg (α:=Nat) 2 111 2 (fun i=>i<=l.length/\ ∀j,j<i->C[j]? =l[j]?) (fun i=>se C.length i) (fun _=>[(0,N.cu N.p1),(1, .ay (dt C))]) (fun _=>z') (fun _=>zn') (fun i=>l.length - i) _ (fun i hI=>?_) 0 ⟨Nat.zero_le _,fun j hj=>absurd hj (Nat.not_lt_zero _)⟩
 obtain⟨hi,hs⟩:=hI
 by_cases hlt:i<l.length
 ·obtain⟨x,hx⟩:=ej hlt
  obtain⟨y,hy⟩:=ej (l:=C) (i:=i) (by omega)
  have hc:decide ((i:Int)<(C.length:Int))=true:=by simp;omega
  have hltC:i<C.length:=by omega
  have hltN:i<N.np:=by omega
  obtain⟨el,hel⟩:=hL.ay (i:=i) (by simp;omega)
  have r1:aB Try.prog (bC el (l.map ae.row).flatten) 89 (0+i*4)=some (.agg ⟨x.row⟩):=bO (r:=x.row) (sz:=4) Try.underlying89 rfl rfl (aM (row:=ae.row) (sz:=4) l fun _=>rfl) (by rw[List.getElem?_map,hx];rfl)
  have r2:aB Try.prog (dt C) 89 (0+i*4)=some (.agg ⟨y.row⟩):=gE (rows:=C.map ae.row) hox (r:=y.row) (sz:=4) Try.underlying89 rfl rfl (aM (row:=ae.row) (sz:=4) C fun _=>rfl) (by rw[List.getElem?_map,hy];rfl)
  refine t100 (X6 z' zn' i C.length N (bC el (l.map ae.row).flatten) (dt C) x y (!Iu y x) (aj _ _ _ _ _ _ _ _ _) ⟨fun _=>?_,fun h=>(by rw[hc] at h;cases h)⟩)
  (repeat' first|(with_reducible first|exact rfl|exact True.intro|assumption|apply And.intro|exact hz|exact hlt|exact hltC|exact hltN|exact hel|exact r1|exact r2|exact yD _ _ _ _|exact hnet _|exact eg _|exact aG (by omega))|exact(rfl:Int.ofNat _=_)|exact(rfl:gP _ _=_)|exact hz|exact hlt|exact hltC|exact hltN|exact hel|exact r1|exact r2|exact yD _ _ _ _|exact hnet _|exact eg _|exact aG (by omega)|intro hq)
  ·refine bJ ?_
   have hne: ¬y=x:=fun e=>by rw[mU.2 e] at hq;cases hq
   rw[hb];simp
   intro e;subst e;rw[hx] at hy;cases hy;exact hne rfl
  ·have he:y=x:=mU.1 (by simpa using hq)
   subst he
   exact⟨i+1,rfl,rfl,rfl,rfl,rfl,⟨by omega,fun j hj=>by
    by_cases e:j=i
    ·subst e;rw[hx,hy]
    ·exact hs j (by omega)⟩,by show l.length - (i+1)<l.length - i;omega⟩
 ·have hil:i=l.length:=by omega
  have hc:decide ((i:Int)<(C.length:Int))=false:=by simp;omega
  refine t100 (X6 z' zn' i C.length N ⟨[],0,0,0,true,true,0,true⟩ (dt C) ⟨0,0,0,true⟩ ⟨0,0,0,true⟩ true (aj _ _ _ _ _ _ _ _ _) ⟨fun h=>(by rw[hc] at h;cases h),fun _=>?_⟩)
  (repeat' first|(with_reducible first|exact rfl|exact True.intro|assumption|apply And.intro|exact hz)|exact(rfl:Int.ofNat _=_)|exact(rfl:gP _ _=_)|exact hz|intro hq)
  refine dw (bJ ?_)
  have:C=l:=by
   refine List.ext_getElem? fun j=>?_
   by_cases hj:j<i
   ·exact hs j hj
   ·rw[List.getElem?_eq_none (by omega),List.getElem?_eq_none (by omega)]
  rw[hb];simp[this]
end
theorem DU{a m:Int}(h:(!(decide (0<=a) && decide (a<=m - 1)))=true):a<0\/m<=a:=by
 simp at h;omega
theorem AM{a m:Int}(h:(!(decide (0<=a) && decide (a<=m - 1)))=false): ¬a<0/\ ¬m<=a:=by
 simp at h;omega
theorem H6{a m k:Int}(h:(!(decide (k<=a) && decide (a<=m)))=true):a<k\/m<a:=by
 simp at h;omega
theorem wZ{a m k:Int}(h:(!(decide (k<=a) && decide (a<=m)))=false): ¬(a<k\/m<a):=by
 simp at h;omega
section
variable{z:T aa}{zn:Nat}
theorem HG(hz:an z zn)(hg:fD Try.prog z gP)(N:aA)(hn:N.ns<=64)(l:List ae)(hN:N.np=l.length)(hll:l.length<=10000)(hnet: ∀σ:bd,aE (aq σ []) (N.cu N.p1)=some (N.cu N.p1))(hL:cy z 4 (l.map ae.row))(r:Int × Int)(hr:scan (c8 N.ns l) l.length 0=r):
 ai Try.prog (ah (ag Try.f36) 0) 1 111 (mw 0) [(0,N.cu N.p1)] 1 z zn (Al.R (KS z zn N N.p1 r.1 r.2).l):=by
 refine ak hD hg (α:=Nat) 1 111 1 (fun i=>i<=l.length/\scan (c8 N.ns l) (l.length - i) i=r) (fun i=>mw i) (fun i=>[(0,N.cu N.p1)]) (fun _=>z) (fun _=>zn) (fun i=>l.length - i) _ (fun i hI=>?_) 0 ⟨Nat.zero_le _,hr⟩
 obtain⟨h1,h2⟩:=hI
 by_cases hi:i<l.length
 ·obtain⟨x,hx⟩:=ej hi
  obtain⟨el,hel⟩:=hL.ay (i:=i) (by simp;omega)
  have hrow:aB Try.prog (bC el (l.map ae.row).flatten) 89 (0+i*4)=some (.agg ⟨x.row⟩):=bO (r:=x.row) (sz:=4) Try.underlying89 rfl rfl (aM (row:=ae.row) (sz:=4) l fun _=>rfl) (by rw[List.getElem?_map,hx];rfl)
  have hlp:=HE hz hg N l hN hll hnet hL i x hx
  have hlk:fV N.ns l i x=if x.from_<0\/(N.ns:Int)<=x.from_\/x.ax<0\/(N.ns:Int)<=x.ax\/x.from_=x.ax then 9 else if x.aI<1\/14400<x.aI then 2 else if (l.take i).any (cf x)=true then 6 else 0:=rfl
  have ret: ∀e:Int,fV N.ns l i x=e->e≠0->aj (fun i=>i<=l.length/\scan (c8 N.ns l) (l.length - i) i=r) (fun i=>mw i) (fun i=>[(0,N.cu N.p1)]) 1 (fun _=>z) (fun _=>zn) (fun i=>l.length - i) (Al.R (KS z zn N N.p1 r.1 r.2).l) i .ret [(2,iv i),(3,zv e)] [] 1 z zn:=fun e h h0=>by
   have hb:c8 N.ns l i=some e:=by unfold c8;rw[hx];simp only;rw[h,if_neg h0]
   have:r=((i:Int),e):=by rw[←h2,dq hi hb]
   rw[this]
   exact bJ h0
  have jP:fV N.ns l i x=0->aj (fun i=>i<=l.length/\scan (c8 N.ns l) (l.length - i) i=r) (fun i=>mw i) (fun i=>[(0,N.cu N.p1)]) 1 (fun _=>z) (fun _=>zn) (fun i=>l.length - i) (Al.R (KS z zn N N.p1 r.1 r.2).l) i .normal (mw (i+1)) [(0,N.cu N.p1)] 1 z zn:=fun h0=>by
   have hb:c8 N.ns l i=none:=by unfold c8;rw[hx];simp only;rw[if_pos h0]
   exact⟨i+1,rfl,rfl,rfl,rfl,rfl,⟨hi,by rw[←cU hi hb];exact h2⟩,by show l.length - (i+1)<l.length - i;omega⟩
  have e9a:(!(decide (0<=x.from_) && decide (x.from_<=(N.ns:Int) - 1)))=true->fV N.ns l i x=9:=fun h=>by
   have:=DU h
   rw[hlk,if_pos (by omega)]
  have e9b:(!(decide (0<=x.ax) && decide (x.ax<=(N.ns:Int) - 1)))=true->fV N.ns l i x=9:=fun h=>by
   have:=DU h
   rw[hlk,if_pos (by omega)]
  have e9c:(x.from_==x.ax)=true->fV N.ns l i x=9:=fun h=>by
   have:x.from_=x.ax:=by simpa using h
   rw[hlk,if_pos (by omega)]
  have no9:(!(decide (0<=x.from_) && decide (x.from_<=(N.ns:Int) - 1)))=false->(!(decide (0<=x.ax) && decide (x.ax<=(N.ns:Int) - 1)))=false->(x.from_==x.ax)=false-> ¬(x.from_<0\/(N.ns:Int)<=x.from_\/x.ax<0\/(N.ns:Int)<=x.ax\/x.from_=x.ax):=fun h1 h2 h3=>by
   have k1:=AM h1
   have k2:=AM h2
   have k3: ¬x.from_=x.ax:=by simpa using h3
   omega
  have e2:(!(decide (0<=x.from_) && decide (x.from_<=(N.ns:Int) - 1)))=false->(!(decide (0<=x.ax) && decide (x.ax<=(N.ns:Int) - 1)))=false->(x.from_==x.ax)=false->(!(decide (1<=x.aI) && decide (x.aI<=14400)))=true->fV N.ns l i x=2:=fun a b c d=>by
   rw[hlk,if_neg (no9 a b c),if_pos (H6 d)]
  have e6:(!(decide (0<=x.from_) && decide (x.from_<=(N.ns:Int) - 1)))=false->(!(decide (0<=x.ax) && decide (x.ax<=(N.ns:Int) - 1)))=false->(x.from_==x.ax)=false->(!(decide (1<=x.aI) && decide (x.aI<=14400)))=false->(l.take i).any (cf x)=true->fV N.ns l i x=6:=fun a b c d e=>by
   rw[hlk,if_neg (no9 a b c),if_neg (wZ d),if_pos e]
  have e0:(!(decide (0<=x.from_) && decide (x.from_<=(N.ns:Int) - 1)))=false->(!(decide (0<=x.ax) && decide (x.ax<=(N.ns:Int) - 1)))=false->(x.from_==x.ax)=false->(!(decide (1<=x.aI) && decide (x.aI<=14400)))=false->(l.take i).any (cf x)=false->fV N.ns l i x=0:=fun a b c d e=>by
   rw[hlk,if_neg (no9 a b c),if_neg (wZ d),if_neg (by rw[e];decide)]
  have hc:decide ((i:Int)<(N.np:Int))=true:=by simp;omega
  have hiN:i<N.np:=by omega
  have hwr:Value.int .i64 (IntKind.i64.wrap ((N.ns:Int) - 1))=Value.int .i64 ((N.ns:Int) - 1):=jx (by omega) (by omega)
  refine t100 (X8 z zn i N (bC el (l.map ae.row).flatten) x ((l.take i).any (cf x)) (aj _ _ _ _ _ _ _ _ _) ⟨fun _=>?_,fun h=>(by rw[hc] at h;cases h)⟩)
  (repeat' first|(with_reducible first|exact rfl|exact True.intro|assumption|apply And.intro|exact hz|exact hiN|exact hnet _|exact hel|exact hrow|exact hlp|exact hwr|exact aG (by omega))|exact(rfl:Int.ofNat _=_)|exact(rfl:gP _ _=_)|exact hz|exact hiN|exact hnet _|exact hel|exact hrow|exact hlp|exact hwr|exact aG (by omega)|intro hq)
  all_goals first
   |exact ret 9 (e9a (by with_reducible assumption)) (by decide)
   |exact ret 9 (e9b (by with_reducible assumption)) (by decide)
   |exact ret 9 (e9c (by with_reducible assumption)) (by decide)
   |exact ret 2 (e2 (by with_reducible assumption) (by with_reducible assumption) (by with_reducible assumption) (by with_reducible assumption)) (by decide)
   |exact ret 6 (e6 (by with_reducible assumption) (by with_reducible assumption) (by with_reducible assumption) (by with_reducible assumption) (by with_reducible assumption)) (by decide)
   |exact jP (e0 (by with_reducible assumption) (by with_reducible assumption) (by with_reducible assumption) (by with_reducible assumption) (by with_reducible assumption))
 ·have hc:decide ((i:Int)<(N.np:Int))=false:=by simp;omega
  rw[dD (by omega)] at h2
  refine t100 (X8 z zn i N ⟨[],0,0,0,true,true,0,true⟩ ⟨0,0,0,true⟩ true (aj _ _ _ _ _ _ _ _ _) ⟨fun h=>(by rw[hc] at h;cases h),fun _=>?_⟩)
  (repeat' first|(with_reducible first|exact rfl|exact True.intro|assumption|apply And.intro|exact hz|exact hnet _)|exact(rfl:Int.ofNat _=_)|exact(rfl:gP _ _=_)|exact hz|exact hnet _|intro hq)
  refine dw (bJ ?_)
  rw[←h2];exact⟨rfl,rfl⟩
end
theorem qS{P:Program}{z:T aa}{zn f:Nat}{args:List Value}{aS:bX}{nx fC:Nat}{α β:Type}{φ:α->Prop}{v:α->Value}{zo:α->bX}{zz:α->T aa}{zn':α->Nat}{ψ:β->Prop}{u:β->Value}{yo:β->bX}{yy:β->T aa}{yn:β->Nat}(h:aV P z zn f args aS nx fC φ v zo zz zn')
 (hm: ∀x,φ x-> ∃y,ψ y/\v x=u y/\zo x=yo y/\zz x=yy y/\zn' x=yn y) (hb: ∀y,ψ y->vn zn (yo y) (yy y) (yn y)):aV P z zn f args aS nx fC ψ u yo yy yn:=
 ⟨h.1,h.2.1,h.2.2.1,hb,fun ρ w args' n h1 h2 h3 h4=>(h.2.2.2.2 ρ w args' n h1 h2 h3 h4).mono fun e w' ⟨x,hx,hg⟩=>by
   obtain⟨y,hy,e1,e2,e3,e4⟩:=hm x hx
   exact⟨y,hy,by rw[←e1,←e2,←e3,←e4];exact hg⟩⟩
def vY(z:T aa)(zn:Nat)(t:T aa × Nat):Prop:=an t.1 t.2/\zn<=t.2/\ ∀k,k<zn->t.1.get k=z.get k
theorem vY.bb{z:T aa}{zn:Nat}{t:T aa × Nat}(h:vY z zn t):an t.1 t.2:=h.1
theorem VF(n:Nat):(if (0:Int)>(n:Int) then 0 else (n:Int))=n:=by rw[if_neg (by omega)]
section
variable{z:T aa}{zn:Nat}
theorem AD(hz:an z zn)(v:Value)(hv: ∀σ,aO (aq σ []) v=some v):ai Try.prog (ah (ag Try.f30) 0) 0 43 (n8 v) [] 0 z zn (Al.R (Hq z zn v).l):=by
 refine ak hD (cZ T.leaf) (α:=Unit) 0 43 0 (fun _=>True) (fun _=>n8 v) (fun _=>[]) (fun _=>z) (fun _=>zn) (fun _=>0) _ (fun _ _=>?_) () trivial
 refine t100 (Wg z zn v (aj _ _ _ _ _ _ _ _ _) ?_)
 (repeat' first|(with_reducible first|exact rfl|exact True.intro|assumption|apply And.intro|exact hz)|exact(rfl:Int.ofNat _=_)|exact(rfl:gH _ _=_)|exact hz|intro hq)
 exact bJ trivial
theorem FQ(hz:an z zn)(n:Nat)(hn:n<=64)(l:List ae)(hl:nk n l)(hll:l.length<=10000)(cp:Nat)(hL:cy z 4 (l.map ae.row))(C:List ae)(hC: ∀d f,DF n l d f->eP d f n n=C)(hS:kE C)
 (hso:A1 z zn 42 [tb 4 l.length cp,iv n] [] 0 0 (.tuple ⟨[zv 0,zv 0]⟩) []):
 aV Try.prog z zn 30 [tb 4 l.length cp,iv n] [] 0 0 (vY z zn) (fun _=> .bool (decide (C=l))) (fun _=>[]) (fun t=>t.1) (fun t=>t.2):=by
 have hc:=SY hz n hn l hl hll cp hL C hC hS
 have hgt:decide ((n:Int)>64)=false:=by simp;omega
 by_cases hnil:C=[]
 ·have hcz:aV Try.prog z zn 43 [tb 4 l.length cp, .int .i64 (if 0>(n:Int) then 0 else (n:Int))] [] 0 0 (vY z zn) (fun _=>aw) (fun _=>[]) (fun t=>t.1) (fun t=>t.2):=by
   rw[VF]
   refine qS hc (fun s hs=>⟨(s.z,s.zn),⟨hs.bb,hs.le,hs.fP⟩,?_,rfl,rfl,rfl⟩) fun t ht=>⟨fun b o hb=>by simp at hb,ht.2.1,ht.1⟩
   rcases hs.val with ⟨_,e1,e2⟩|⟨h,_⟩
   ·obtain⟨oa,k,z,zn⟩:=s
    simp only at e1 e2;subst e1 e2;rfl
   ·exact absurd hnil h
  have lp: ∀t,vY z zn t->ai Try.prog (ah (ag Try.f30) 0) 0 43 (n8 (tb 4 l.length cp)) [] 0 t.1 t.2 (Al.R (Hq t.1 t.2 (tb 4 l.length cp)).l):=fun t ht=>AD ht.1 _ fun σ=>aT σ _ _ _
  refine dJ (cZ T.leaf) (fn:=Try.f30) (by kernel_rfl) (by kernel_rfl) hz ⟨by decide,by decide⟩ (fun t ht=>⟨rfl,ht.2.1,ht.1⟩) (N:=100) ?_
  refine icz z zn n l.length cp (vY z zn) _ ⟨fun h=>(by rw[hgt] at h;cases h),fun _=>?_⟩
  (repeat' first|(with_reducible first|exact rfl|exact True.intro|assumption|apply And.intro|exact hz|exact hso|exact hcz|exact lp _ (by with_reducible assumption)|exact vY.bb (by with_reducible assumption)|exact aT _ _ _ _)|exact(rfl:Int.ofNat _=_)|exact(rfl:gH _ _=_)|exact hz|exact hso|exact hcz|exact lp _ (by with_reducible assumption)|exact vY.bb (by with_reducible assumption)|exact aT _ _ _ _|intro hq)
  ·rename_i t ht
   refine q2 t ht rfl ?_ rfl rfl rfl
   have: ¬C=l:=fun e=>by
    rw[←e,hnil] at hq;simp at hq
   rw[decide_eq_false this]
  ·rename_i t ht h0 _
   refine q2 t ht rfl ?_ rfl rfl rfl
   have:C=l:=by
    have:l.length=0:=by simp at h0;omega
    rw[hnil];exact(List.eq_nil_of_length_eq_zero this).symm
   rw[decide_eq_true this]
 ·have hct:aV Try.prog z zn 43 [tb 4 l.length cp, .int .i64 (if 0>(n:Int) then 0 else (n:Int))] [] 0 0 (fun t:Nat × Nat × T aa × Nat=>vY z zn (t.2.2.1,t.2.2.2)/\t.2.1=C.length/\t.2.2.1.get t.1=some (Pm (C.map ae.row).flatten C.length)) (fun s=>tb s.1 s.2.1 s.2.1) (fun _=>[]) (fun t=>t.2.2.1) (fun t=>t.2.2.2):=by
   rw[VF]
   refine qS hc (fun s hs=>?_) fun t ht=>⟨fun b o hb=>by simp at hb,ht.1.2.1,ht.1.1⟩
   rcases hs.val with ⟨h,_⟩|⟨_,kk,_,_,e1,e2,e3⟩
   ·exact absurd h hnil
   ·refine⟨(kk,C.length,s.z,s.zn),⟨⟨hs.bb,hs.le,hs.fP⟩,rfl,e3⟩,?_,rfl,rfl,rfl⟩
    obtain⟨oa,k,z,zn⟩:=s
    simp only at e1 e2;subst e1 e2;rfl
  have lp: ∀t:Nat × Nat × T aa × Nat,(vY z zn (t.2.2.1,t.2.2.2)/\t.2.1=C.length/\t.2.2.1.get t.1=some (Pm (C.map ae.row).flatten C.length))->((t.2.1:Int) !=(l.length:Int))=false->ai Try.prog (ah (ag Try.f30) 0) 0 43 (Cj t.1 t.2.1 l.length cp 0) [] 0 t.2.2.1 t.2.2.2 (Al.R (Sj t.2.2.1 t.2.2.2 t.1 t.2.1 l.length cp (decide (C=l))).l):=fun t ⟨ht,h1,h2⟩ h3=>by
   rw[h1] at h3 ⊢
   exact Lo ht.1 l C cp t.1 (dX hL hz ht.2.2) h2 (by simp at h3;omega) hll _ rfl
  refine dJ (cZ T.leaf) (fn:=Try.f30) (by kernel_rfl) (by kernel_rfl) hz ⟨by decide,by decide⟩ (fun t ht=>⟨rfl,ht.2.1,ht.1⟩) (N:=100) ?_
  refine ict z zn n l.length cp (decide (C=l)) (fun t:Nat × Nat × T aa × Nat=>vY z zn (t.2.2.1,t.2.2.2)/\t.2.1=C.length/\t.2.2.1.get t.1=some (Pm (C.map ae.row).flatten C.length)) _ ⟨fun h=>(by rw[hgt] at h;cases h),fun _=>?_⟩
  (repeat' first|(with_reducible first|exact rfl|exact True.intro|assumption|apply And.intro|exact hz|exact hso|exact hct|exact lp _ (by with_reducible assumption) (by with_reducible assumption)|exact vY.bb (And.left (by with_reducible assumption))|exact aT _ _ _ _)|exact(rfl:Int.ofNat _=_)|exact(rfl:gH _ _=_)|exact hz|exact hso|exact hct|exact lp _ (by with_reducible assumption) (by with_reducible assumption)|exact vY.bb (And.left (by with_reducible assumption))|exact aT _ _ _ _|intro hq)
  ·rename_i t ht
   refine q2 (t.2.2.1,t.2.2.2) ht.1 rfl ?_ rfl rfl rfl
   have: ¬C=l:=fun e=>by
    rw[ht.2.1,e] at hq;simp at hq
   rw[decide_eq_false this]
  ·rename_i t ht _ _
   refine q2 (t.2.2.1,t.2.2.2) ht.1 rfl ?_ rfl rfl rfl
   rw[hq]
  ·rename_i t ht _ _
   refine q2 (t.2.2.1,t.2.2.2) ht.1 rfl ?_ rfl rfl rfl
   rw[hq]
theorem Jb(hz:an z zn)(n:Nat)(hn:n<=64)(l:List ae)(hl:nk n l)(hll:l.length<=10000)(cp:Nat)(hL:cy z 4 (l.map ae.row))(C:List ae)(hC: ∀d f,DF n l d f->eP d f n n=C)(hS:kE C)
 (hso:A1 z zn 42 [tb 4 l.length cp,iv n] [] 0 0 (.tuple ⟨[zv 0,zv 0]⟩) []):
 A1 z zn 30 [tb 4 l.length cp,iv n] [] 0 0 (.bool (decide (C=l))) []:=
 nL (FQ hz n hn l hl hll cp hL C hC hS hso) rfl fun t ht=>ht.2.2
theorem FP(hz:an z zn)(n:Nat)(hn:n<=64)(hC: ∀d f,DF n [] d f->eP d f n n=[])(hS:kE [])
 (hso:A1 z zn 42 [aw,iv n] [] 0 0 (.tuple ⟨[zv 0,zv 0]⟩) []):
 A1 z zn 30 [aw,iv n] [] 0 0 (.bool true) []:=by
 have hc:=PU hz n hn [] hC hS
 have hgt:decide ((n:Int)>64)=false:=by simp;omega
 have hcz:aV Try.prog z zn 43 [aw, .int .i64 (if 0>(n:Int) then 0 else (n:Int))] [] 0 0 (vY z zn) (fun _=>aw) (fun _=>[]) (fun t=>t.1) (fun t=>t.2):=by
  rw[VF]
  refine qS hc (fun s hs=>⟨(s.z,s.zn),⟨hs.bb,hs.le,hs.fP⟩,?_,rfl,rfl,rfl⟩) fun t ht=>⟨fun b o hb=>by simp at hb,ht.2.1,ht.1⟩
  rcases hs.val with ⟨_,e1,e2⟩|⟨h,_⟩
  ·obtain⟨oa,k,z,zn⟩:=s
   simp only at e1 e2;subst e1 e2;rfl
  ·exact absurd rfl h
 have lp: ∀t,vY z zn t->ai Try.prog (ah (ag Try.f30) 0) 0 43 (n8 aw) [] 0 t.1 t.2 (Al.R (Hq t.1 t.2 aw).l):=fun t ht=>AD ht.1 _ fun σ=>rfl
 refine nL (φ:=vY z zn) (zz:=fun t=>t.1) (zn':=fun t=>t.2) ?_ rfl fun t ht=>ht.2.2
 refine dJ (cZ T.leaf) (fn:=Try.f30) (by kernel_rfl) (by kernel_rfl) hz ⟨by decide,by decide⟩ (fun t ht=>⟨rfl,ht.2.1,ht.1⟩) (N:=100) ?_
 refine icn z zn n (vY z zn) _ ⟨fun h=>(by rw[hgt] at h;cases h),fun _=>?_⟩
 (repeat' first|(with_reducible first|exact rfl|exact True.intro|assumption|apply And.intro|exact hz|exact hso|exact hcz|exact lp _ (by with_reducible assumption)|exact vY.bb (by with_reducible assumption))|exact(rfl:Int.ofNat _=_)|exact(rfl:gH _ _=_)|exact hz|exact hso|exact hcz|exact lp _ (by with_reducible assumption)|exact vY.bb (by with_reducible assumption)|intro hq)
 rename_i t ht _
 exact q2 t ht rfl rfl rfl rfl rfl
end
theorem Be{n:Int}{l:List ae}(i:Nat):c8 n l i≠some 0:=by
 unfold c8
 split
 ·split
  ·simp
  ·rename_i h;intro e;exact h (by simpa using e)
 ·simp
theorem G7{n:Nat}{l:List ae}(h:(aY n l).2=0):nk n l:=⟨fun p hp=>by
 obtain⟨i,hi⟩:=List.mem_iff_getElem?.1 hp
 have hlt:=(List.getElem?_eq_some_iff.1 hi).1
 have:=ig Be l.length 0 h i (Nat.zero_le _) (by omega)
 unfold c8 at this
 rw[hi] at this
 simp only at this
 split at this
 ·rename_i h0
  unfold fV at h0
  split at h0
  ·cases h0
  ·split at h0
   ·cases h0
   ·omega
 ·cases this⟩
theorem vE{n:Int}{l:List ae}(h:(aY n l).2=0):aY n l=(0,0):=by
 have hn:=ig Be l.length 0 h
 have: ∀(m i:Nat),(∀j,i<=j->j<i+m->c8 n l j=none)->scan (c8 n l) m i=(0,0):=by
  intro m
  induction m with
  |zero=>intro i _;rfl
  |succ m ih=>
   intro i hb
   have:=cU (bad:=c8 n l) (n:=i+(m+1)) (i:=i) (by omega) (hb i (Nat.le_refl _) (by omega))
   rw[show i+(m+1) - i=m+1 by omega,show i+(m+1) - (i+1)=m by omega] at this
   rw[this]
   exact ih (i+1) fun j h1 h2=>hb j (by omega) (by omega)
 exact this _ _ hn
section
variable{z:T aa}{zn:Nat}
theorem IW(hz:an z zn)(h5:5<=zn)(N:aA)(hn:N.ns<=64)(l:List ae)(hN:N.np=l.length)(hll:l.length<=10000)(hnet: ∀σ:bd,aE (aq σ []) (N.cu N.p1)=some (N.cu N.p1))(hL:cy z 4 (l.map ae.row))(p:Int × Int)
 (hp:p=if (aY N.ns l).2≠0 then aY N.ns l else if im N.ns l=l then (0,0) else (0,18)):
 A1 z zn 36 [.agg ⟨N.ir N.p1⟩] [] 0 0 (.tuple ⟨[zv p.1,zv p.2]⟩) []:=by
 have h0:=HG hz (fZ z) N hn l hN hll hnet hL (aY N.ns l) rfl
 have hcl:(aY N.ns l).1=0/\(aY N.ns l).2=0->aV Try.prog z zn 48 [tb 4 N.np N.pc,iv N.ns] [] 0 1 (BN z zn (im N.ns l)) (fun s=>bc 0 s.k s.k) (fun s=>[(0, .ay s.bl)]) (fun s=>s.z) (fun s=>s.zn):=fun h=>by
  rw[hN]
  exact FJ hz h5 N.ns hn l (G7 h.2) hll N.pc hL (im N.ns l) fun M F hm=>mX hm
 have lp: ∀s,BN z zn (im N.ns l) s->((s.k:Int) !=(N.np:Int))=false->ai Try.prog (ah (ag Try.f36) 2) 2 111 (se s.k 0) [(0,N.cu N.p1),(1, .ay s.bl)] 2 s.z s.zn (Al.R (O6 N N.p1 (decide (im N.ns l=l)) s).l):=fun s hs hk=>by
  have:s.k=N.np:=by simp at hk;omega
  exact HC hs.bb (fZ s.z) N l (im N.ns l) hN (by rw[←hs.k,this,hN]) hll hnet (dX hL hz hs.fP) s hs.k hs.bl rfl rfl _ rfl
 have rb: ∀s σ,BN z zn (im N.ns l) s->aE (sig σ) (.ay s.bl)=some (.ay s.bl):=fun s σ h=>by rw[h.bl];exact eg _
 have rb2: ∀s σ,BN z zn (im N.ns l) s->aE (aq σ []) (.ay s.bl)=some (.ay s.bl):=fun s σ h=>by rw[h.bl];exact eg _
 have fz: ∀s,BN z zn (im N.ns l) s->an s.3 s.zn:=fun s h=>h.bb
 refine nL (φ:=vY z zn) (zz:=fun t=>t.1) (zn':=fun t=>t.2) ?_ rfl fun t ht=>ht.2.2
 refine dJ (fZ z) (fn:=Try.f36) (by kernel_rfl) (by kernel_rfl) hz ⟨by decide,by decide⟩ (fun t ht=>⟨rfl,ht.2.1,ht.1⟩) (N:=100) ?_
 refine pp z zn N (decide (im N.ns l=l)) (aY N.ns l).1 (aY N.ns l).2 (BN z zn (im N.ns l)) _ ?_
 (repeat' first|(with_reducible first|exact rfl|exact True.intro|assumption|apply And.intro|exact hz|exact h0|exact hcl (by with_reducible assumption)|exact lp _ (by with_reducible assumption) (by with_reducible assumption)|exact fz _ (by with_reducible assumption)|exact rb _ _ (by with_reducible assumption)|exact rb2 _ _ (by with_reducible assumption)|exact hnet _|exact aT _ _ _ _)|exact(rfl:Int.ofNat _=_)|exact hz|exact h0|exact hcl (by with_reducible assumption)|exact lp _ (by with_reducible assumption) (by with_reducible assumption)|exact fz _ (by with_reducible assumption)|exact rb _ _ (by with_reducible assumption)|exact rb2 _ _ (by with_reducible assumption)|exact hnet _|exact aT _ _ _ _|intro hq)
 ·refine q2 (z,zn) ⟨hz,Nat.le_refl _,fun _ _=>rfl⟩ rfl ?_ rfl rfl rfl
  rw[hp,if_pos hq]
 ·rename_i h s hs
  refine q2 (s.z,s.zn) ⟨hs.bb,hs.le,hs.fP⟩ rfl ?_ rfl rfl rfl
  have hne: ¬im N.ns l=l:=fun e=>by
   have h1:=hs.k
   rw[e,←hN] at h1
   rw[h1] at hq;simp at hq
  rw[hp,if_neg (fun h'=>h' h.2),if_neg hne];rfl
 ·rename_i h s hs _ _
  refine q2 (s.z,s.zn) ⟨hs.bb,hs.le,hs.fP⟩ rfl ?_ rfl rfl rfl
  rw[hp,if_neg (fun h'=>h' h.2),if_neg (of_decide_eq_false hq)];rfl
 ·rename_i h s hs _ _
  refine q2 (s.z,s.zn) ⟨hs.bb,hs.le,hs.fP⟩ rfl ?_ rfl rfl rfl
  rw[hp,if_neg (fun h'=>h' h.2),if_pos (of_decide_eq_true hq)];rfl
end
theorem RC{b:Bool}{k i j L:Nat}(t:Wk (da (fg [] b)) k i j L):False:=by
 have: ∀u v w,¬da (fg [] b) u v w:=fun u v w h=>by simp[da,fg] at h
 cases t with
 |mV h=>exact this _ _ _ h
 |cons h _ _=>exact this _ _ _ h
theorem Dl{n:Nat}{M F:Nat->Nat->Int}(h:MF n [] M F):cg M F n n=[]:=by
 have h1: ∀m,m<=n-> ∀i,i<n->bT M F i [] m=[]:=by
  intro m
  induction m with
  |zero=>intro _ i _;rfl
  |succ m ih=>
   intro hm i hi
   rw[jX,ih (by omega) i hi]
   unfold eh
   have:=(h.1 i m hi (by omega)).1.2.1
   have hbig: ¬M i m<(lU:Int):=fun hlt=>RC (this hlt)
   have hb:(lU:Int)=1099511627776:=rfl
   rw[if_pos (.inr (by omega))]
 have h2: ∀m,m<=n->cg M F n m=[]:=by
  intro m
  induction m with
  |zero=>intro _;rfl
  |succ m ih=>
   intro hm
   rw[iJ,ih (by omega)]
   exact h1 n (Nat.le_refl _) m (by omega)
 exact h2 n (Nat.le_refl _)
theorem uL(n:Nat):im n []=[]:=by
 obtain⟨M,F,h⟩:=Af n []
 rw[←mX h];exact Dl h
section
variable{z:T aa}{zn:Nat}
theorem FG(hz:an z zn)(h5:5<=zn)(N:aA)(hn:N.ns<=64)(hnet: ∀σ:bd,aE (aq σ []) (N.cu aw)=some (N.cu aw)):
 A1 z zn 36 [.agg ⟨N.ir aw⟩] [] 0 0 (.tuple ⟨[zv 0,zv 0]⟩) []:=by
 have h0:ai Try.prog (ah (ag Try.f36) 0) 1 111 (mw 0) [(0,N.cu aw)] 1 z zn (Al.R (KS z zn N aw 0 0).l):=by
  refine ak hD (fZ z) (α:=Unit) 1 111 1 (fun _=>True) (fun _=>mw 0) (fun _=>[(0,N.cu aw)]) (fun _=>z) (fun _=>zn) (fun _=>0) _ (fun _ _=>?_) () trivial
  refine t100 (Vv z zn N (aj _ _ _ _ _ _ _ _ _) ?_)
  (repeat' first|(with_reducible first|exact rfl|exact True.intro|assumption|apply And.intro|exact hz|exact hnet _)|exact(rfl:Int.ofNat _=_)|exact hz|exact hnet _|intro hq)
  exact dw (bJ ⟨rfl,rfl⟩)
 have h0':ai Try.prog (ah (ag Try.f36) 0) 1 111 (mw 0) [(0,N.cu aw)] 1 z zn (Al.R (alt ((0:Nat)≠0) (au.mk af.ret [(2,zv 0),(3,zv 0)] [] 1 z zn) (alt ((0:Nat)=0/\(0:Nat)=0) (au.mk (af.exit 0) [(1,ip 0)] [(0,N.cu aw)] 1 z zn) Al.nil))):=by
  refine oL h0 fun o ho=>?_
  rcases ho with ⟨_,h,_⟩|⟨_,_,h⟩|h
  ·exact absurd rfl h
  ·exact dw (h ▸ bJ ⟨rfl,rfl⟩)
  ·exact h.elim
 have hcl:aV Try.prog z zn 48 [aw,iv N.ns] [] 0 1 (BN z zn []) (fun s=>bc 0 s.k s.k) (fun s=>[(0, .ay s.bl)]) (fun s=>s.z) (fun s=>s.zn):=
  CM hz h5 N.ns hn [] fun M F hm=>Dl hm
 have lp: ∀s,BN z zn [] s->ai Try.prog (ah (ag Try.f36) 2) 2 111 (se s.k 0) [(0,N.cu aw),(1, .ay s.bl)] 2 s.z s.zn (Al.R (O6 N aw true s).l):=fun s hs=>by
  have hk:=hs.k
  have hfz:=hs.bb
  have rb: ∀σ,aE (aq σ []) (.ay s.bl)=some (.ay s.bl):=fun σ=>by rw[hs.bl];exact eg _
  obtain⟨k,bl,z',zn'⟩:=s
  simp only[List.length_nil] at hk hfz rb ⊢
  subst hk
  refine ak hD (fZ z') (α:=Unit) 2 111 2 (fun _=>True) (fun _=>se 0 0) (fun _=>[(0,N.cu aw),(1, .ay bl)]) (fun _=>z') (fun _=>zn') (fun _=>0) _ (fun _ _=>?_) () trivial
  refine t100 (Vu z' zn' N bl (aj _ _ _ _ _ _ _ _ _) ?_)
  (repeat' first|(with_reducible first|exact rfl|exact True.intro|assumption|apply And.intro|exact hfz|exact hnet _|exact rb _)|exact(rfl:Int.ofNat _=_)|exact hfz|exact hnet _|exact rb _|intro hq)
  exact dw (bJ rfl)
 have rb: ∀s σ,BN z zn [] s->aE (sig σ) (.ay s.bl)=some (.ay s.bl):=fun s σ h=>by rw[h.bl];exact eg _
 have rb2: ∀s σ,BN z zn [] s->aE (aq σ []) (.ay s.bl)=some (.ay s.bl):=fun s σ h=>by rw[h.bl];exact eg _
 have fz: ∀s,BN z zn [] s->an s.3 s.zn:=fun s h=>h.bb
 refine nL (φ:=vY z zn) (zz:=fun t=>t.1) (zn':=fun t=>t.2) ?_ rfl fun t ht=>ht.2.2
 refine dJ (fZ z) (fn:=Try.f36) (by kernel_rfl) (by kernel_rfl) hz ⟨by decide,by decide⟩ (fun t ht=>⟨rfl,ht.2.1,ht.1⟩) (N:=100) ?_
 refine ppz z zn N true (BN z zn []) _ ?_
 (repeat' first|(with_reducible first|exact rfl|exact True.intro|assumption|apply And.intro|exact hz|exact h0|exact h0'|exact hcl|exact lp _ (by with_reducible assumption)|exact fz _ (by with_reducible assumption)|exact rb _ _ (by with_reducible assumption)|exact rb2 _ _ (by with_reducible assumption)|exact hnet _)|exact(rfl:Int.ofNat _=_)|exact hz|exact h0|exact h0'|exact hcl|exact lp _ (by with_reducible assumption)|exact fz _ (by with_reducible assumption)|exact rb _ _ (by with_reducible assumption)|exact rb2 _ _ (by with_reducible assumption)|exact hnet _|intro hq)
 ·exact absurd rfl hq
 ·rename_i h s hs
  rw[hs.k] at hq;simp at hq
 ·exact absurd hq (by decide)
 ·rename_i h s hs _ _
  exact q2 (s.z,s.zn) ⟨hs.bb,hs.le,hs.fP⟩ rfl rfl rfl rfl rfl
end
section
variable{z:T aa}{zn:Nat}
theorem I6(hz:an z zn)(N:aA)(hn:N.ns<=64)(l:List ae)(hN:N.np=l.length)(hll:l.length<=10000)(hnet: ∀σ:bd,aE (aq σ []) (N.cu N.p1)=some (N.cu N.p1))(hL:cy z 4 (l.map ae.row))(hS:(aY N.ns l).2=0->kE (im N.ns l))(r:Int × Int × Int)
 (hr:r=if (aY N.ns l).2≠0 then (4,aY N.ns l) else if im N.ns l=l then (0,0,0) else (4,0,18)):
 A1 z zn 18 [.agg ⟨N.ir N.p1⟩] [] 0 0 (.agg ⟨[zv r.1,zv r.2.1,zv r.2.2]⟩) []:=by
 refine Mm hz (fZ z) N hn l hN hnet hL (decide (im N.ns l=l)) (fun h=>?_) r (by rw[hr];simp only[decide_eq_true_eq])
 have hso:=Mb hz (fZ z) N.ns (by omega) l N.pc hL
 rw[vE h] at hso
 have:=Jb hz N.ns hn l (G7 h) hll N.pc hL (im N.ns l) (fun d f hd=>xk (G7 h) hd) (hS h) hso
 show A1 z zn _ [tb 4 N.np N.pc,iv N.ns] [] 0 0 _ []
 rw[hN];exact this
theorem FN(hz:an z zn)(N:aA)(hn:N.ns<=64)(hnet: ∀σ:bd,aE (aq σ []) (N.cu aw)=some (N.cu aw))(hS:kE []):
 A1 z zn 18 [.agg ⟨N.ir aw⟩] [] 0 0 (.agg ⟨[zv 0,zv 0,zv 0]⟩) []:=by
 have hl:nk N.ns []:=⟨fun p hp=>by simp at hp⟩
 have:=FP hz N.ns hn (fun d f hd=>by rw[xk hl hd];exact uL _) hS (IS hz (fZ z) N.ns)
 exact I4 hz (fZ z) N hnet true this (0,0,0) rfl
end
end Go.Proofs.Nw
