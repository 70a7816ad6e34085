/-
  A part of the proof: lemmas of my own.
-/
import Derived.Test.YtlljgbelbfhcjaaGreatDoorPB
import Derived.Lib.Hide
import Derived.KernelRfl
set_option linter.unusedVariables false
set_option linter.unusedSimpArgs false
namespace Go.AV
open Classical in
noncomputable def uH(ε:Nat->FB)(k b:Nat):Option (Option aa):=if (ε k).U b then some ((ε k).h1.heap.get b) else none
def uT(ops:Array Oper)(ε:Nat->FB)(k t:Nat):Option Value:=if (ops[k]?).bind (·.dst)=some t then some (ε k).v else none
def gw(ops:Array Oper)(ε:Nat->FB)(S:Nat->Bool)(tm0:Tm):Nat->Tm
 |0=>tm0
 |n+1=>if S n then (match (ops[n]?).bind (·.dst) with
   |some d=>(gw ops ε S tm0 n).set d (ε n).v
   |none=>gw ops ε S tm0 n) else gw ops ε S tm0 n
theorem ko(ops:Array Oper)(ε:Nat->FB)(S:Nat->Bool)(tm0:Tm)(t:Nat): ∀n,rd (gw ops ε S tm0 n) t=dB S (uT ops ε) n (rd tm0) t
 |0=>rfl
 |n+1=>by
  have ih:=ko ops ε S tm0 t n
  simp only[gw,dB,uT]
  split
  ·split
   ·rename_i d hd
    rw[qh,ih,hd]
    by_cases ht:t=d
    ·subst ht;simp
    ·rw[if_neg ht,if_neg (by simpa using fun h=>ht h.symm)];rfl
   ·rename_i hd
    rw[ih,hd,if_neg (by simp)];rfl
  ·exact ih
theorem Fr.yX{fr fr':Fr}{d:Option Tmp}{v:Value}(h:fr.put d v=some fr'):fr'.n=fr.n/\fr'.fI=fr.fI/\(∀t,rd fr'.tm t=if d=some t then v else rd fr.tm t)/\ ∀t,d=some t->t<fr.n:=by
 unfold Fr.put at h
 split at h
 ·split at h
  ·rename_i d hd
   cases h
   refine⟨rfl,rfl,fun t=>?_,fun t ht=>by cases ht;rw[Nat.blt_eq] at hd;exact hd⟩
   simp only[qh,Option.some.injEq,eq_comm]
  ·cases h
 ·cases h
  exact⟨rfl,rfl,fun t=>by rw[if_neg (by simp)],fun t ht=>by cases ht⟩
section
variable{P:Program}{call round:cy}{ops:Array Oper}{ms:List Nat}{σ:Nat->DS}{ε:Nat->FB}
theorem kF{k b:Nat}:uH ε k b=none↔ ¬(ε k).U b:=by
 unfold uH
 split
 ·rename_i h;simp[h]
 ·rename_i h;simp[h]
theorem Seq.wz(h:Seq P call round ops ms σ ε)(b:Nat): ∀{k:Nat},k<=ops.size->(σ k).h.heap.get b=dB (fun _=>true) (uH ε) k (σ 0).h.heap.get b
 |0,_=>rfl
 |k+1,hk=>by
  have ih:=h.wz b (k:=k) (by omega)
  simp only[dB,if_true]
  by_cases hu:(ε k).U b
  ·rw[(h.heap (by omega) b).1 hu]
   unfold uH;rw[if_pos hu];rfl
  ·rw[(h.heap (by omega) b).2 hu,kF.2 hu,ih];rfl
theorem Seq.Qs(h:Seq P call round ops ms σ ε): ∀{k:Nat},k<=ops.size->(σ k).fr.n=(σ 0).fr.n/\(σ k).fr.fI=(σ 0).fr.fI/\ ∀t,rd (σ k).fr.tm t=dB (fun _=>true) (uT ops ε) k (rd (σ 0).fr.tm) t
 |0,_=>⟨rfl,rfl,fun _=>rfl⟩
 |k+1,hk=>by
  obtain⟨i1,i2,i3⟩:=h.Qs (k:=k) (by omega)
  obtain⟨m,_,hf⟩:=h.getM (k:=k) (by omega)
  obtain⟨p1,p2,p3,_⟩:=Fr.yX hf.put
  refine⟨p1.trans i1,p2.trans i2,fun t=>?_⟩
  rw[p3 t,i3 t]
  have hk':ops[k]? =some ops[k]:=by simp[show k<ops.size by omega]
  simp only[dB,if_true,uT,hk',Option.bind_some]
  split<;>rfl
def j8(S:Nat->Bool):Nat->Nat
 |0=>0
 |n+1=>j8 S n+if S n then 0 else 1
theorem AA{S:Nat->Bool}: ∀{n:Nat},j8 S n=0-> ∀k,k<n->S k=true
 |0,_,k,hk=>by omega
 |n+1,h,k,hk=>by
  simp only[j8] at h
  by_cases he:k=n
  ·subst he
   cases hs:S k with
   |true=>rfl
   |false=>rw[hs] at h;simp at h
  ·exact AA (n:=n) (by omega) k (by omega)
theorem uk{S S':Nat->Bool}{i:Nat}(hS:S i=false)(hS': ∀k,S' k=(k==i||S k)): ∀{n:Nat},(n<=i->j8 S' n=j8 S n)/\(i<n->j8 S' n+1=j8 S n)
 |0=>⟨fun _=>rfl,fun h=>by omega⟩
 |n+1=>by
  obtain⟨h1,h2⟩:=uk hS hS' (n:=n)
  refine⟨fun h=>?_,fun h=>?_⟩
  ·have:(n==i)=false:=by simp;omega
   simp only[j8,hS',this,Bool.false_or,h1 (by omega)]
  ·by_cases he:n=i
   ·subst he
    simp only[j8,hS',h1 (Nat.le_refl _),hS,BEq.rfl,Bool.true_or,if_true]
    simp
   ·have:(n==i)=false:=by simpa using he
    have:=h2 (by omega)
    simp only[j8,hS',‹(n==i)=false›,Bool.false_or]
    omega
def Mn(ops:Array Oper)(σ:Nat->DS)(ε:Nat->FB)(ρ0:Ren)(w0:World)(S:Nat->Bool)(a:Act)(w:World):Prop:=
 ∃ρ,ew ρ {(σ 0).fr with tm:=gw ops ε S (σ 0).fr.tm ops.size} a/\aF ρ (dB S (uH ε) ops.size (σ 0).h.heap.get) w/\
  Step ρ0 (σ 0).h.heap.get w0 ρ (dB S (uH ε) ops.size (σ 0).h.heap.get) w (σ 0).h.next (σ ops.size).h.next/\
  ∀k,k<ops.size->S k=false->bq ρ (σ k).h.next (σ (k+1)).h.next
theorem S3(h:Seq P call round ops ms σ ε)(plan:Fv ops ms){rdd:Option Nat}{F:Fence}{ρ0:Ren}{w0:World}(hF:bX ρ0 rdd F)
 (h0: ∀b,(σ 0).h.next<=b->b<(σ ops.size).h.next->(σ 0).h.heap.get b=none) {S S':Nat->Bool} {k:Nat} (hk:k<ops.size) (hS:S k=false) (hS':S'=fun i=>i==k||S i)
 (hcl:Cz ms S) (hcov: ∀m,ms[k]? =some m-> ∀b,m.testBit b=true->S b=true) {a:Act} {w:World} (hi:Mn ops σ ε ρ0 w0 S a w) {n:Nat} {Q:Exit->Act->World->Prop} {K:Act->World->Prop}
 (hK: ∀a' w',Mn ops σ ε ρ0 w0 S' a' w'->K a' w'):wpOpIn F n P ops Q k K a w:=by
 obtain⟨ρ,i1,i2,i3,i4⟩:=hi
 obtain⟨m,hm,hf⟩:=h.getM hk
 have hok:ops[k]? =some ops[k]:=by simp[hk]
 have lt: ∀j,j<k->S j=false->m.testBit j=false:=fun j _ hj=>by
  cases hb:m.testBit j with
  |false=>rfl
  |true=>rw[hcov m hm j hb] at hj;cases hj
 have gt: ∀j,k<j->j<ops.size->S j=true-> ∃mj,ms[j]? =some mj/\mj.testBit k=false:=fun j _ hj hsj=>by
  obtain⟨mj,hmj,_⟩:=h.getM hj
  refine⟨mj,hmj,?_⟩
  cases hb:mj.testBit k with
  |false=>rfl
  |true=>rw[hcl j mj hsj hmj k hb] at hS;cases hS
 have tlt: ∀j,j<k->S j=false->(∀d,(ops[j]?).bind (·.dst)=some d->d ∉ eI ops ops[k]):=fun j hj hsj d hd=>by
  have hjo:ops[j]? =some ops[j]:=by simp[show j<ops.size by omega]
  obtain⟨m',h1,h2⟩:=plan.tmps k ops[k] j ops[j] hok hjo hj
  rw[hm] at h1;cases h1
  rcases h2 with q|q
  ·rw[lt j hj hsj] at q;cases q
  ·exact q.1 d (by simpa[hjo] using hd)
 have tgt: ∀j,k<j->j<ops.size->S j=true->(∀d,(ops[j]?).bind (·.dst)=some d->d ∉ eI ops ops[k])/\ ∀d,ops[k].dst=some d->(ops[j]?).bind (·.dst)≠some d:=fun j hj hjn hsj=>by
  have hjo:ops[j]? =some ops[j]:=by simp[hjn]
  obtain⟨mj,hmj,hbit⟩:=gt j hj hjn hsj
  obtain⟨m',h1,h2⟩:=plan.tmps j ops[j] k ops[k] hjo hok hj
  rw[hmj] at h1;cases h1
  rcases h2 with q|q
  ·rw[hbit] at q;cases q
  ·refine⟨fun d hd=>q.2 d (by simpa[hjo] using hd),fun d hd he=>q.1 d hd ?_⟩
   unfold eI
   refine List.mem_append_left _ (List.mem_append_right _ ?_)
   have:ops[j].dst=some d:=by simpa[hjo] using he
   rw[this];simp
 have names: ∀t,t∈eI ops ops[k]->rd (gw ops ε S (σ 0).fr.tm ops.size) t=rd (σ k).fr.tm t:=fun t ht=>by
  rw[ko,(h.Qs (k:=k) (by omega)).2.2 t]
  refine pw (by omega) (fun j hj hu=>?_) fun j hj hjn hsj=>?_
  ·cases hsj:S j with
   |true=>rfl
   |false=>
    unfold uT at hu
    split at hu
    ·rename_i hd;exact(tlt j hj hsj t hd ht).elim
    ·exact(hu rfl).elim
  ·have:j≠k:=fun he=>by subst he;rw[hS] at hsj;cases hsj
   unfold uT
   rw[if_neg fun hd=>(tgt j (by omega) hjn hsj).1 t hd ht]
 have want:fK ops (gw ops ε S (σ 0).fr.tm ops.size) ops[k]=some (ε k).on:=by
  rw[uZ names];exact hf.want
 have wok:=iZ i1.tr want
 obtain⟨p1,p2,p3,p4⟩:=Fr.yX hf.put
 have hdn: ∀t,ops[k].dst=some t->t<(σ 0).fr.n:=fun t ht=>by rw[←(h.Qs (k:=k) (by omega)).1];exact p4 t ht
 have tms: ∀t,rd (gw ops ε S' (σ 0).fr.tm ops.size) t=if ops[k].dst=some t then (ε k).v else rd (gw ops ε S (σ 0).fr.tm ops.size) t:=fun t=>by
  rw[ko,ko,hS',iK hS hk fun j hj hjn hsj hu=>?_]
  ·simp only[uT,hok,Option.bind_some]
   split<;>rfl
  ·unfold uT at hu ⊢
   simp only[hok,Option.bind_some] at hu
   split at hu
   ·rename_i hd;rw[if_neg ((tgt j hj hjn hsj).2 t hd)]
   ·exact(hu rfl).elim
 have frel: ∀{ρ':Ren} {a':Act},(∀fr1,Fr.put {(σ 0).fr with tm:=gw ops ε S (σ 0).fr.tm ops.size} ops[k].dst (ε k).v=some fr1->ew ρ' fr1 a')->ew ρ' {(σ 0).fr with tm:=gw ops ε S' (σ 0).fr.tm ops.size} a':=by
  intro ρ' a' hfr
  cases hd:ops[k].dst with
  |none=>
   have:=hfr _ (by rw[hd];rfl)
   refine⟨⟨this.tr.1,fun t=>?_⟩,this.ds⟩
   show VJ ρ' (rd (gw ops ε S' (σ 0).fr.tm ops.size) t) _
   rw[tms t,hd,if_neg (by simp)];exact this.tr.2 t
  |some d=>
   have hb:Nat.blt d (σ 0).fr.n=true:=by rw[Nat.blt_eq];exact hdn d hd
   have:=hfr {(σ 0).fr with tm:=(gw ops ε S (σ 0).fr.tm ops.size).set d (ε k).v} (by rw[hd];simp[Fr.put,hb])
   refine⟨⟨this.tr.1,fun t=>?_⟩,this.ds⟩
   have ht:=this.tr.2 t
   simp only[qh] at ht
   show VJ ρ' (rd (gw ops ε S' (σ 0).fr.tm ops.size) t) _
   rw[tms t,hd]
   simp only[Option.some.injEq]
   by_cases he:d=t
   ·subst he;rw[if_pos rfl] at ht ⊢;exact ht
   ·rw[if_neg he];rw[if_neg fun q=>he q.symm] at ht;exact ht
 have putok: ∃fr1,Fr.put {(σ 0).fr with tm:=gw ops ε S (σ 0).fr.tm ops.size} ops[k].dst (ε k).v=some fr1:=by
  cases hd:ops[k].dst with
  |none=>exact⟨_,rfl⟩
  |some d=>
   have hb:Nat.blt d (σ 0).fr.n=true:=by rw[Nat.blt_eq];exact hdn d hd
   exact⟨_,by simp[Fr.put,hb];rfl⟩
 obtain⟨fr1,hfr1⟩:=putok
 have fresh': ∀{ρ':Ren},(∀b,b<(σ k).h.next\/(σ (k+1)).h.next<=b->ρ' b=ρ b)-> ∀j,j<ops.size->S' j=false->bq ρ' (σ j).h.next (σ (j+1)).h.next:=by
  intro ρ' hrng j hj hsj b hb1 hb2
  rw[hS'] at hsj
  simp only[Bool.or_eq_false_iff,beq_eq_false_iff_ne,ne_eq] at hsj
  have hout:b<(σ k).h.next\/(σ (k+1)).h.next<=b:=by
   rcases Nat.lt_or_gt_of_ne hsj.1 with q|q
   ·left;have:=h.next (k:=j+1) (j:=k) (by omega) (by omega);omega
   ·right;have:=h.next (k:=k+1) (j:=j) (by omega) (by omega);omega
  rw[hrng b hout]
  exact i4 j hj hsj.2 b hb1 hb2
 unfold wpOpIn
 simp only[hok]
 rw[wok]
 cases ho:(ε k).on with
 |false=>
  simp only[Bool.false_eq_true,if_false]
  refine⟨fun f _=>hF.fn f,hK _ _ ?_⟩
  have heap:dB S' (uH ε) ops.size (σ 0).h.heap.get=dB S (uH ε) ops.size (σ 0).h.heap.get:=by
   funext b
   have hn:uH ε k b=none:=kF.2 fun q=>by have:=q.1;rw[ho] at this;cases this
   rw[hS',iK hS hk fun j _ _ _ hu=>(hu hn).elim,hn];rfl
  refine⟨ρ,frel fun fr1 hp=>?_,by rw[heap];exact i2,by rw[heap];exact i3,fresh' fun _ _=>rfl⟩
  rw[(hf.off ho).1] at hp
  exact Fr.jU i1 .undef hp
 |true=>
  simp only[if_true]
  have O:=hf.A8 ho
  have view: ∀b x,(ε k).V.get b=some x->dB S (uH ε) ops.size (σ 0).h.heap.get b=some x:=by
   intro b x hb
   rw[←O.view b x hb,h.wz b (k:=k) (by omega)]
   refine pw (by omega) (fun j hj hu=>?_) fun j hj hjn hsj=>?_
   ·cases hsj:S j with
    |true=>rfl
    |false=>
     have huj:(ε j).U b:=Classical.byContradiction fun q=>hu (kF.2 q)
     have:=(h.apart h0 (Nat.le_refl _) hj hk hm (lt j hj hsj) huj.1 ho b).1 huj
     rw[hb] at this;cases this
   ·have hne:j≠k:=fun he=>by subst he;rw[hS] at hsj;cases hsj
    refine kF.2 fun huj=>?_
    obtain⟨mj,hmj,hbit⟩:=gt j (by omega) hjn hsj
    have:=(h.apart h0 (Nat.le_refl _) (j:=k) (k:=j) (by omega) hjn hmj hbit ho huj.1 b).2.1 huj
    rw[hb] at this;cases this
  have wz: ∀b,((ε k).U b->dB S' (uH ε) ops.size (σ 0).h.heap.get b=(ε k).h1.heap.get b)/\(¬(ε k).U b->dB S' (uH ε) ops.size (σ 0).h.heap.get b=dB S (uH ε) ops.size (σ 0).h.heap.get b):=by
   intro b
   have ins:=iK (f:=(σ 0).h.heap.get) (u:=uH ε) (b:=b) hS hk fun j hj hjn hsj hu=>by
    have huk:(ε k).U b:=Classical.byContradiction fun q=>hu (kF.2 q)
    refine kF.2 fun huj=>?_
    obtain⟨mj,hmj,hbit⟩:=gt j hj hjn hsj
    exact(h.apart h0 (Nat.le_refl _) (j:=k) (k:=j) hj hjn hmj hbit ho huj.1 b).2.2 ⟨huk,huj⟩
   rw[hS',ins]
   refine⟨fun q=>?_,fun q=>?_⟩
   ·unfold uH;rw[if_pos q];rfl
   ·rw[kF.2 q];rfl
  have hview:aF ρ (ε k).V.get w:=i2.sub view
  have hnx:=O.next
  have hfr:bq ρ (σ k).h.next (ε k).h1.next:=by rw[←hnx];exact i4 k hk hS
  have done: ∀a' w',uX ρ {heap:=(ε k).V,next:=(σ k).h.next,log:=[]} w fr1 (ε k).h1 a' w'->K a' w':=by
   rintro a' w' ⟨ρ',y1,y2,y3⟩
   obtain⟨z1,z2⟩:=frame (H2:=dB S' (uH ε) ops.size (σ 0).h.heap.get) (U:=(ε k).U) view (fun b hb=>h.kept hk ho hb) (fun b hb=>(wz b).1 hb) (fun b hb=>(wz b).2 hb) i2 y2 y3
   refine hK _ _ ⟨ρ',frel fun fr2 hp=>by rw[hfr1] at hp;cases hp;exact y1,z1,?_,fresh' fun b hb=>y3.s8 b (by simp only;rw[←hnx];exact hb)⟩
   have n1:=h.next (k:=0) (j:=k) (by omega) (by omega)
   have n2:=h.next (k:=k+1) (j:=ops.size) (by omega) (Nat.le_refl _)
   exact i3.NO z2 (Nat.le_refl _) (Nat.le_refl _) n1 (by rw[←hnx];exact n2)
  have cong: ∀g:Hs,dE P (gw ops ε S (σ 0).fr.tm ops.size) g ops[k]=dE P (σ k).fr.tm g ops[k]:=fun g=>Fi (HK names)
  have hF':bX ρ rdd F:=hF.mono i3.ext
  have hempty:aF ρ ({heap:= .leaf,next:=0,log:=[]}:Hs).heap.get w:=⟨fun b o hb=>absurd hb (by simp[T.dA]),fun i j oi oj Li Lj hi=>absurd hi (by simp[T.dA])⟩
  have Qq:=O.Qq
  generalize hv:(ε k).v=v at Qq hfr1
  generalize hh1:(ε k).h1=h1 at Qq done hfr
  cases Qq with
  |val _ _ hr=>exact BE (h:={heap:=(ε k).V,next:=(σ k).h.next,log:=[]}) hF'.fn i1 hview hfr (by rw[←hr];exact cong _) hfr1 done
  |skip _ hr=>exact xv (h:={heap:=(ε k).V,next:=(σ k).h.next,log:=[]}) hF'.fn i1 hview hfr (by rw[←hr];exact cong _) hfr1 done
  |call f args _ _ hr hc=>exact C1 h.hc (h:={heap:=(ε k).V,next:=(σ k).h.next,log:=[]}) hF' i1 hview hfr hempty (by rw[←hr];exact cong _) hc hfr1 done
  |round f args _ _ hr hc=>exact ze h.hr (h:={heap:=(ε k).V,next:=(σ k).h.next,log:=[]}) hF' i1 hview hfr hempty (by rw[←hr];exact cong _) hc hfr1 done
theorem HA{listed:Array Bool}{i:Nat}(hi:i<listed.size)(k:Nat):(listed.setIfInBounds i true).getD k false=(k==i||listed.getD k false):=by
 by_cases h:k=i
 ·subst h;simp[hi]
 ·rw[getD_set_ne false (fun he=>h he.symm)]
  have:(k==i)=false:=by simpa using h
  rw[this];rfl
theorem D7{md:Region.Mode}{listed:Array Bool}(plan:Fv ops ms)(hmd:md= .any)(hsz:listed.size=ops.size)(hr:Region.ready md ops listed=[]): ∀k,k<ops.size->listed.getD k false=true:=by
 intro k
 induction k using Nat.strongRecOn with
 |_ k ih=>
  intro hk
  cases hl:listed.getD k false with
  |true=>rfl
  |false=>
   exfalso
   have:k∈Region.ready md ops listed:=by
    have hok:ops[k]? =some ops[k]:=by simp[hk]
    refine mem_ready.2 ⟨?_,ops[k],hok,fun e he hb=>?_⟩
    ·have hlt:k<listed.size:=by omega
     simp[hlt] at hl ⊢;exact hl
    ·obtain⟨m,_,h2⟩:=plan.mask k ops[k] hok
     subst hmd
     have:=h2.before e (by simpa using he) hb
     exact ih e.on this (by omega)
   rw[hr] at this;cases this
theorem Pv(h:Seq P call round ops ms σ ε)(plan:Fv ops ms){rdd:Option Nat}{F:Fence}{ρ0:Ren}{w0:World}(hF:bX ρ0 rdd F)
 (h0: ∀b,(σ 0).h.next<=b->b<(σ ops.size).h.next->(σ 0).h.heap.get b=none) {n:Nat} {Q:Exit->Act->World->Prop}
 (hQ: ∀a' w',uX ρ0 (σ 0).h w0 (σ ops.size).fr (σ ops.size).h a' w'->Q .normal a' w'): ∀(fuel:Nat)(listed:Array Bool)(a:Act)(w:World),listed.size=ops.size->j8 (fun k=>listed.getD k false) ops.size<=fuel->
   Cz ms (fun k=>listed.getD k false)->Mn ops σ ε ρ0 w0 (fun k=>listed.getD k false) a w->wpAnyIn F n P .any ops Q fuel listed a w:=by
 have last: ∀(listed:Array Bool)(a:Act)(w:World),(∀k,k<ops.size->listed.getD k false=true)->Mn ops σ ε ρ0 w0 (fun k=>listed.getD k false) a w->Q .normal a w:=by
  intro listed a w hall hi
  obtain⟨ρ,i1,i2,i3,i4⟩:=hi
  have hh:dB (fun k=>listed.getD k false) (uH ε) ops.size (σ 0).h.heap.get=(σ ops.size).h.heap.get:=by
   funext b
   rw[h.wz b (Nat.le_refl _)]
   exact ik fun k hk _=>hall k hk
  obtain⟨f1,f2,f3⟩:=h.Qs (k:=ops.size) (Nat.le_refl _)
  refine hQ a w ⟨ρ,⟨⟨by rw[f1];exact i1.tr.1,fun t=>?_⟩,by rw[f2];exact i1.ds⟩,by rw[←hh];exact i2,by rw[←hh];exact i3⟩
  have:=i1.tr.2 t
  have he:rd (σ ops.size).fr.tm t=rd (gw ops ε (fun k=>listed.getD k false) (σ 0).fr.tm ops.size) t:=by
   rw[ko,f3 t]
   exact(ik fun k hk _=>hall k hk).symm
  rw[he];exact this
 intro fuel
 induction fuel with
 |zero=>
  intro listed a w hsz hcnt hcl hi
  have hall:=AA (S:=fun k=>listed.getD k false) (n:=ops.size) (by omega)
  rw[wpAnyIn]
  refine⟨?_,last listed a w hall hi⟩
  cases hr:Region.ready .any ops listed with
  |nil=>rfl
  |cons j l=>
   have hj:j∈Region.ready .any ops listed:=by rw[hr];exact List.mem_cons_self ..
   obtain⟨h1,o,h2,_⟩:=mem_ready.1 hj
   have hlt:j<ops.size:=(Array.getElem?_eq_some_iff.1 h2).1
   have:=hall j hlt
   have hlt':j<listed.size:=by omega
   simp[hlt'] at h1 this
   rw[h1] at this;cases this
 |succ fuel ih=>
  intro listed a w hsz hcnt hcl hi
  rw[wpAnyIn]
  refine⟨fun hr=>last listed a w (D7 plan rfl hsz hr) hi,fun k hk=>?_⟩
  obtain⟨h1,o,h2,h3⟩:=mem_ready.1 hk
  have hlt:k<ops.size:=(Array.getElem?_eq_some_iff.1 h2).1
  have hlt':k<listed.size:=by omega
  have hS:listed.getD k false=false:=by
   simp[hlt'] at h1 ⊢;exact h1
  have hcov: ∀m,ms[k]? =some m-> ∀b,m.testBit b=true->listed.getD b false=true:=fun m hm=>plan.Px hcl h2 (fun e he hb=>h3 e (by simpa using he) hb) hm
  have hS':(fun i=>(listed.setIfInBounds k true).getD i false)=fun i=>i==k||listed.getD i false:=funext fun i=>HA hlt' i
  refine S3 h plan hF h0 hlt (S:=fun k=>listed.getD k false) hS hS' hcl hcov hi fun a' w' hi'=>?_
  refine ih _ a' w' (by rw[Array.size_setIfInBounds];exact hsz) ?_ ?_ hi'
  ·have:=(uk (S:=fun k=>listed.getD k false) (S':=fun i=>(listed.setIfInBounds k true).getD i false) hS (fun i=>congrFun hS' i) (n:=ops.size)).2 hlt
   omega
  ·intro j m hj hm b hb
   have e1:=congrFun hS' j
   have e2:=congrFun hS' b
   dsimp only at e1 e2 hj ⊢
   rw[e1] at hj
   rw[e2]
   simp only[Bool.or_eq_true,beq_iff_eq] at hj ⊢
   rcases hj with rfl|hj
   ·exact .inr (hcov m hm b hb)
   ·exact .inr (hcl j m hj hm b hb)
end
theorem oz{P:Program}(hP:P.follows .mixedOrders=true):eH P:=by
 intro call round hc hr rdd ops ms fr h fr' h' hplan hs
 have plan:=zc hplan
 obtain⟨σ,ε,s0,s1,s2,s3⟩:=pD hc hr hs (fun r hr=>by cases hr)
 have hl:ops.toList.length=ops.size:=by simp
 rw[hl] at s1 s2
 have seq:Seq P call round ops ms σ ε:=⟨hc,hr,by rw[s0],fun k o ho=>by
  obtain⟨m,q1,q2⟩:=s3 k o (by simpa using ho)
  rw[Nat.zero_add] at q2
  exact⟨m,q1,q2⟩⟩
 have mod: ∀k,k<=ops.size->Mod (σ 0).h (σ k).h:=by
  intro k
  induction k with
  |zero=>intro _;exact Mod.refl _
  |succ k ih=>
   intro hk
   refine(ih (by omega)).trans ?_
   obtain⟨m,_,hf⟩:=seq.getM (k:=k) (by omega)
   cases ho:(ε k).on with
   |false=>rw[(hf.off ho).2.1];exact Mod.refl _
   |true=>
    have O:=hf.A8 ho
    have hmod:=seq.C8 (k:=k) (by omega) ho
    obtain⟨l,l1,l2,l3⟩:=hmod.log
    simp only[List.append_nil] at l1
    subst l1
    refine⟨seq.tH (by omega),_,O.log,fun b hb=>?_,fun b hb hn=>?_⟩
    ·rcases l2 b hb with q|q
     ·left
      intro hnone
      cases hv:(ε k).V.get b with
      |none=>exact q hv
      |some x=>rw[O.view b x hv] at hnone;cases hnone
     ·right;rw[O.next];exact q
    ·refine(seq.heap (by omega) b).2 fun q=>?_
     obtain⟨q1,q2⟩:=seq.lo (k:=k) (by omega) ho
     rcases q.2 with q|q
     ·exact hn q
     ·omega
 have mtop:=mod ops.size (Nat.le_refl _)
 rw[s2] at mtop
 have hs0:(σ 0).h=h:=by rw[s0]
 have hf0:(σ 0).fr=fr:=by rw[s0]
 rw[hs0] at mtop
 refine⟨mtop,fun ρ w a n F hF hfr hh hf Q id hQ=>wpIn_region_any hP ?_⟩
 have hw1:aF ρ h.heap.get {w with drawn:=w.drawn+1}:=hh.world rfl
 have h0: ∀b,(σ 0).h.next<=b->b<(σ ops.size).h.next->(σ 0).h.heap.get b=none:=by
  intro b hb1 hb2
  rw[hs0] at hb1 ⊢
  rw[s2] at hb2
  cases hv:h.heap.get b with
  |none=>rfl
  |some x=>
   obtain⟨L,_,hL,_⟩:=hh.obj b x hv
   rw[hf b hb1 hb2] at hL;cases hL
 have none0: ∀k,(Array.replicate ops.size false).getD k false=false:=fun k=>by
  rw[Array.getD_eq_getD_getElem?,Array.getElem?_replicate]
  split<;>rfl
 have hfold:dB (fun k=>(Array.replicate ops.size false).getD k false) (uH ε) ops.size (σ 0).h.heap.get=h.heap.get:=by
  funext b;rw[oq fun k _=>none0 k,hs0]
 have cle: ∀(S:Nat->Bool) m,j8 S m<=m:=fun S m=>by
  induction m with
  |zero=>exact Nat.le_refl _
  |succ m ih=>simp only[j8];split<;>omega
 refine Pv (ρ0:=ρ) (w0:=w) seq plan hF h0 (fun a' w' q=>hQ a' w' (by rw[s1,s2,hs0] at q;exact q)) ops.size _ a _ (by simp) (cle _ _) (fun k m hk=>absurd ((none0 k).symm.trans hk) (by decide)) ?_
 refine⟨ρ,?_,by rw[hfold];exact hw1,?_,fun k hk _=>?_⟩
 ·refine⟨⟨by rw[hf0];exact hfr.tr.1,fun t=>?_⟩,by rw[hf0];exact hfr.ds⟩
  show VJ ρ (rd (gw ops ε _ (σ 0).fr.tm ops.size) t) _
  rw[ko,oq fun k _=>none0 k,hf0];exact hfr.tr.2 t
 ·rw[hfold,hs0]
  exact Step.world (ρ:=ρ) (H:=h.heap.get) (w:=w) (w':={w with drawn:=w.drawn+1}) rfl rfl rfl rfl _ _
 ·refine hf.sub ?_ ?_
  ·rw[←hs0];exact seq.next (k:=0) (j:=k) (by omega) (by omega)
  ·rw[←s2];exact seq.next (k:=k+1) (j:=ops.size) (by omega) (Nat.le_refl _)
end Go.AV
namespace Go.Proofs.Nw
open Go Go.AV Tryz Go.iO
set_option maxRecDepth 100000
theorem hD:eH prog:=oz (by kernel_rfl)
def BT:bO->Bool
 |[]=>true
 |(b,_)::l=>match Nat.blt b cC with|true=>BT l|false=>false
theorem rZ: ∀{l:bO},BT l=true-> ∀b o,(b,o)∈l->b<cC
 |(b0,o0)::l,h,b,o,hm=>by
  simp only[BT] at h
  split at h
  ·rename_i hb
   rcases List.mem_cons.1 hm with e|e
   ·cases e;rw[Nat.blt_eq] at hb;exact hb
   ·exact rZ h b o e
  ·cases h
abbrev A1(z:T aa)(zn f:Nat)(args:List Value)(aO:bO)(nx ey:Nat)(v:Value)(zo:bO):Prop:=
 aQ prog z zn f args aO nx ey (fun _:Unit=>True) (fun _=>v) (fun _=>zo)
def Q1(z:T aa)(zn ey:Nat)(v:Value)(zo:bO):Value->bO->Nat->T aa->Nat->Prop:=Jf ey (fun _:Unit=>True) (fun _=>v) (fun _=>zo) (fun _=>z) (fun _=>zn)
theorem q1{z:T aa}{zn ey:Nat}{v:Value}{zo:bO}:Q1 z zn ey v zo v zo ey z zn:=⟨rfl,(),trivial,rfl,rfl,rfl,rfl⟩
theorem bw{φ:Prop}{o:aw}{l:Al}(h:φ):Al.R (alt φ o l) o:= .inl ⟨(),h,rfl⟩
theorem du{φ:Prop}{o o':aw}{l:Al}(h:Al.R l o'):Al.R (alt φ o l) o':= .inr h
theorem OQ{z:T aa}:eO prog z (fun _ _=>none):=fun _ _ _ h=>by cases h
theorem cS{z zg:T aa}{zn:Nat}{g:Nat->List Value->Option Value}(hg:eO prog zg g){f:Nat}{fn:Func}(hfn:prog.funcs[f]? =some fn)(hb:fn.body=some (ag fn)){args:List Value}{aO:bO}(hz:ax z zn){nx ey:Nat}(hnx:nx<=ey/\ey<=cC){v:Value}{zo:bO}(hlow:BT zo=true){N:Nat}
 (h: ∃t,ft prog g zg N (ag fn) (wB fn args) (fy z aO nx) zn (D5 prog nx fn (Q1 z zn ey v zo)) t):A1 z zn f args aO nx ey v zo:=by
 obtain⟨t,ht⟩:=h
 exact AI hD hg hfn hb hz nx ey hnx _ _ _ _ _ (fun _ _=>MT hz (rZ hlow)) ht
theorem aK1{z zg:T aa}{zn:Nat}{g:Nat->List Value->Option Value}(hg:eO prog zg g){f:Nat}{fn:Func}{args:List Value}{aO:bO}(hz:ax z zn){nx ey:Nat}{v:Value}{zo:bO}{N:Nat}
 (h: ∃t,ft prog g zg N (ag fn) (wB fn args) (fy z aO nx) zn (D5 prog nx fn (Q1 z zn ey v zo)) t) (hfn:prog.funcs[f]? =some fn:=by kernel_rfl) (hb:fn.body=some (ag fn):=by kernel_rfl) (hnx:nx<=ey/\ey<=cC:=by decide) (hlow:BT zo=true:=by rfl):A1 z zn f args aO nx ey v zo:=cS hg hfn hb hz hnx hlow h
structure uQ(es:List MapEntry)(nx:Int->Option Int):Prop where
 find: ∀a,∃r:Option (Nat × Int),aA prog 3 (zv a) es 0=some (r.map fun p=>(p.1,zv p.2))/\r.map (·.2)=nx a
 FD: ∀σ c,aG σ (.map es c)=some (.map es c)
theorem uQ.no{es:List MapEntry}{nx:Int->Option Int}(h:uQ es nx)(a:Int):aA prog 3 (zv a) es 0≠none:=by
 obtain⟨r,h1,_⟩:=h.find a
 rw[h1];simp
theorem uQ.ex{es:List MapEntry}{nx:Int->Option Int}(h:uQ es nx)(a:Int)(p:Nat × Value)(hp:aA prog 3 (zv a) es 0=some (some p)): ∃x:Nat × Int,p=(x.1,zv x.2):=by
 obtain⟨r,h1,_⟩:=h.find a
 rw[h1] at hp
 cases r with
 |none=>cases hp
 |some q=>cases hp;exact⟨q,rfl⟩
theorem uQ.Dk{es:List MapEntry}{nx:Int->Option Int}(h:uQ es nx){a:Int}{i:Nat × Int}(hp:aA prog 3 (zv a) es 0=some (some (i.1,zv i.2))):nx a=some i.2:=by
 obtain⟨r,h1,h2⟩:=h.find a
 rw[h1] at hp
 cases r with
 |none=>cases hp
 |some q=>
  simp only[Option.map_some,Option.some.injEq,Prod.mk.injEq,Value.int.injEq,true_and] at hp
  rw[←h2,←hp.2];rfl
theorem uQ.none{es:List MapEntry}{nx:Int->Option Int}(h:uQ es nx){a:Int}(hp:aA prog 3 (zv a) es 0=some none):nx a=none:=by
 obtain⟨r,h1,h2⟩:=h.find a
 rw[h1] at hp
 cases r with
 |none=>rw[←h2];rfl
 |some q=>cases hp
section
variable{z:T aa}{zn:Nat}
structure At where
 a:Int
 ok:Bool
 d:Nat
theorem tT(hz:ax z zn){es:List MapEntry}{c:Nat}{nx:Int->Option Int}(hm:uQ es nx)(hdep: ∀f,∃d,vp nx f d)(b:Int)(l:Bool)(a:Int)(ok:Bool)
 (hl:ok=true->(l=true↔a=b\/jy nx b a)) (hl0:ok=false->l=false):
 ai prog (ah (ag f57) 0) 1 25 (lvl b a ok) [(0, .map es c)] 1 z zn (Al.R (lpl z zn b a ok l es c).l):=by
 obtain⟨d,hd⟩:=hdep a
 refine an hD (OQ (z:=z)) (α:=At) 1 25 1 (fun x=>(x.ok=true->(l=true↔x.a=b\/jy nx b x.a)/\vp nx x.a x.d)/\(x.ok=false->l=false)) (fun x=>lvl b x.a x.ok) (fun _=>[(0, .map es c)]) (fun _=>z) (fun _=>zn) (fun x=>if x.ok then x.d+1 else 0) _ (fun x hx=>?_) ⟨a,ok,d⟩ ⟨fun h=>⟨hl h,hd⟩,hl0⟩
 obtain⟨a,ok,d⟩:=x
 obtain⟨h1,h2⟩:=hx
 simp only at h1 h2
 cases ok with
 |false=>
  refine t100 (rl0 z zn (fun _ _=>none) a b es c (aj _ _ _ _ _ _ _ _ _) ?_)
  (repeat' first|(with_reducible first|exact rfl|assumption|apply And.intro|exact hm.FD _ _))
  exact du (bw (h2 rfl))
 |true=>
  obtain⟨h3,h4⟩:=h1 rfl
  refine t100 (rl1 z zn (fun _ _=>none) a b es c (aj _ _ _ _ _ _ _ _ _) ⟨fun e=>?_,fun e=>⟨hm.no a,hm.ex a,fun i hi=>?_,fun hi=>?_⟩⟩)
  ·have e:a=b:=by simpa using e
   (repeat' first|(with_reducible first|exact rfl|assumption|apply And.intro|exact hm.FD _ _))
   exact bw (h3.2 (.inl e))
  ·have e: ¬a=b:=by simpa using e
   have hn:=hm.Dk hi
   (repeat' first|(with_reducible first|exact rfl|assumption|apply And.intro|exact hm.FD _ _))
   cases h4 with
   |nil h0=>rw[hn] at h0;cases h0
   | @cons _ x d h0 t=>
     rw[hn] at h0
     cases h0
     refine⟨⟨i.2,true,d⟩,rfl,rfl,rfl,rfl,rfl,⟨fun _=>⟨?_,t⟩,fun h=>by cases h⟩,by simp⟩
     rw[h3,tW hn]
     simp[e]
  ·have e: ¬a=b:=by simpa using e
   have hn:=hm.none hi
   (repeat' first|(with_reducible first|exact rfl|assumption|apply And.intro|exact hm.FD _ _))
   refine⟨⟨0,false,0⟩,rfl,rfl,rfl,rfl,rfl,⟨fun h=>(by cases h),fun _=>?_⟩,by simp⟩
   cases hl:l with
   |false=>rfl
   |true=>
    rcases h3.1 hl with q|q
    ·exact(e q).elim
    ·exact(oc hn q).elim
theorem LO(hz:ax z zn){es:List MapEntry}{c:Nat}{nx:Int->Option Int}(hm:uQ es nx)(hdep: ∀f,∃d,vp nx f d)(a b:Int)(l:Bool)(hl:l=true↔jy nx b a):
 A1 z zn 57 [mp 0,zv a,zv b] [(0, .map es c)] 1 1 (.bool l) [(0, .map es c)]:=by
 refine cS (OQ (z:=z)) (fn:=f57) (by kernel_rfl) (by kernel_rfl) hz ⟨by decide,by decide⟩ rfl (ll z zn (fun _ _=>none) a b l es c _ ⟨hm.no a,hm.ex a,fun i hi=>?_,fun hi=>?_⟩)
 ·have hn:=hm.Dk hi
  have hL:=tT (c:=c) hz hm hdep b l i.2 true (fun _=>by rw[hl,tW hn]) (fun h=>by cases h)
  (repeat' first|(with_reducible first|exact rfl|assumption|apply And.intro|exact hm.FD _ _)|exact hL|intro hq)
  all_goals (cases hq;exact q1)
 ·have hn:=hm.none hi
  have hL:=tT (c:=c) hz hm hdep b l 0 false (fun h=>by cases h) (fun _=>by
   cases h:l with
   |false=>rfl
   |true=>exact(oc hn (hl.1 h)).elim)
  (repeat' first|(with_reducible first|exact rfl|assumption|apply And.intro|exact hm.FD _ _)|exact hL|intro hq)
  all_goals (cases hq;exact q1)
end
end Go.Proofs.Nw
namespace Go.Proofs.Nw
open Go Go.AV Tryz
def lG(c:UInt8):Bool:=(97<=c.toNat && c.toNat<=122)||(65<=c.toNat && c.toNat<=90)||(48<=c.toNat && c.toNat<=57)||c.toNat==45||c.toNat==95||c.toNat==46
def bM(s:ByteArray):Bool:=s.data.toList.all lG && decide (0<s.size) && decide (s.size<=32)
structure bH where
 id:ByteArray
 aO:Int
 sf:Bool
 change:Int
abbrev bH.row(s:bH):List Value:=[.string s.id,zv s.aO, .bool s.sf,zv s.change]
structure aV where
 id:ByteArray
 mode:Int
 Z0:Bool
abbrev aV.row(s:aV):List Value:=[.string s.id,zv s.mode, .bool s.Z0]
structure bE where
 id:ByteArray
 cd:Int
 bZ:Int
 bY:Int
 aH:Int
 lH:Int
abbrev bE.row(s:bE):List Value:=[.string s.id,zv s.cd,zv s.bZ,zv s.bY,zv s.aH,zv s.lH]
structure bm where
 stop:Int
 arr:Int
 dep:Int
 MS:Bool
 I0:Bool
abbrev bm.row(s:bm):List Value:=[zv s.stop,zv s.arr,zv s.dep, .bool s.MS, .bool s.I0]
structure mH where
 u4:Int
 day:Int
 inst:Int
 id:ByteArray
 je:Int
 sf:Bool
 cancelled:Bool
 cv:Value
 calls:List bm
abbrev mH.row(r:mH)(cv:Value):List Value:=[zv r.u4,zv r.day,zv r.inst, .string r.id,zv r.je, .bool r.sf, .bool r.cancelled,cv]
structure aE where
 fz1:Int
 fc:Int
 aq:Int
 tc:Int
 stay:Bool
abbrev aE.row(s:aE):List Value:=[zv s.fz1,zv s.fc,zv s.aq,zv s.tc, .bool s.stay]
structure ae where
 fz1:Int
 aq:Int
 aH:Int
 sf:Bool
abbrev ae.row(p:ae):List Value:=[zv p.fz1,zv p.aq,zv p.aH, .bool p.sf]
def scan(bad:Nat->Option Int):Nat->Nat->Int × Int
 |0,_=>(0,0)
 |m+1,i=>match bad i with|some e=>(i,e)|none=>scan bad m (i+1)
theorem c9{bad:Nat->Option Int}{n i:Nat}{e:Int}(hi:i<n)(h:bad i=some e):scan bad (n - i) i=((i:Int),e):=by
 obtain⟨m,hm⟩: ∃m,n - i=m+1:=⟨n - i - 1,by omega⟩
 rw[hm]
 simp only[scan,h]
theorem cI{bad:Nat->Option Int}{n i:Nat}(hi:i<n)(h:bad i=none):scan bad (n - i) i=scan bad (n - (i+1)) (i+1):=by
 obtain⟨m,hm⟩: ∃m,n - i=m+1:=⟨n - i - 1,by omega⟩
 rw[hm,show n - (i+1)=m by omega]
 simp only[scan,h]
theorem dy{bad:Nat->Option Int}{n i:Nat}(hi:n<=i):scan bad (n - i) i=(0,0):=by
 rw[show n - i=0 by omega];rfl
theorem eqStr(a b:ByteArray):prun prog (Op.equal 9 (.string a) (.string b))=some (a.data==b.data):=by kernel_rfl
theorem HW(a b:Int):prun prog (Op.equal 3 (zv a) (zv b))=some (decide (a=b)):=by kernel_rfl
mutual
theorem ta{σ:Nat->Option Nat}: ∀{v:Value},au v=true->aT σ v=some v
 | .bool _,_=>rfl
 | .int _ _,_=>rfl
 | .string _,_=>rfl
 | .float _ _,_=>rfl
 | .nilFunc,_=>rfl
 | .nilIface,_=>rfl
 | .pointer none,_=>rfl
 | .slice none _ _,_=>rfl
 | .map none,_=>rfl
 | .agg ⟨l⟩,h=>by simp only[aT,eS (by simpa[au] using h)]
 | .tuple ⟨l⟩,h=>by simp only[aT,eS (by simpa[au] using h)]
 | .pointer (some _),h=>by simp[au] at h
 | .slice (some _) _ _,h=>by simp[au] at h
 | .map (some _),h=>by simp[au] at h
 | .complex _ _ _,h=>by simp[au] at h
 | .chan _,h=>by simp[au] at h
 | .func _ _ _,h=>by simp[au] at h
 | .iface _ _,h=>by simp[au] at h
theorem eS{σ:Nat->Option Nat}: ∀{l:List Value},bA l=true->br σ l=some l
 |[],_=>rfl
 |v::l,h=>by
  simp only[bA] at h
  cases hv:au v with
  |false=>simp[hv] at h
  |true=>rw[hv] at h;simp only[br,ta hv,eS h]
end
def jR:Nat->List Value->List MapEntry
 |_,[]=>[]
 |i,k::l=>{key:=k,val:=T1,born:=i}::jR (i+1) l
abbrev bd(ks:List Value):aa:= .map (jR 0 ks) ks.length
theorem yM: ∀(l m:List Value)(i:Nat),jR i (l++m)=jR i l++jR (i+l.length) m
 |[],m,i=>rfl
 |k::l,m,i=>by
  simp only[List.cons_append,jR,yM l m (i+1),List.length_cons]
  rw[show i+1+l.length=i+(l.length+1) by omega]
theorem ff(ks:List Value)(k:Value):aa.map (jR 0 ks++[{key:=k,val:=T1,born:=ks.length}]) (ks.length+1)=bd (ks++[k]):=by
 unfold bd
 rw[yM,List.length_append]
 simp[jR]
structure kE(kt:Nat)(k:Value)(ks:List Value):Prop where
 eq: ∀k',k'∈ks->au k'=true/\ ∃b,prun prog (Op.equal kt k k')=some b/\(b=true↔k=k')
theorem ky{kt:Nat}{k:Value}: ∀{ks:List Value} (i j:Nat),kE kt k ks->
 ((∃p,aA prog kt k (jR j ks) i=some (some (p,T1)))/\k∈ks)\/(aA prog kt k (jR j ks) i=some none/\k ∉ ks)
 |[],i,j,_=> .inr ⟨rfl,by simp⟩
 |a::l,i,j,h=>by
  obtain⟨h1,b,h2,h3⟩:=h.eq a (by simp)
  simp only[jR,aA,h1,h2]
  cases b with
  |true=>exact .inl ⟨⟨i,rfl⟩,by rw[h3.1 rfl];simp⟩
  |false=>
   have hne:k≠a:=fun e=>by have:=h3.2 e;cases this
   have hl:kE kt k l:=⟨fun k' hk'=>h.eq k' (List.mem_cons_of_mem _ hk')⟩
   rcases ky (i+1) (j+1) hl with ⟨q1,q2⟩|⟨q1,q2⟩
   ·exact .inl ⟨q1,by simp[q2]⟩
   ·exact .inr ⟨q1,by simp[hne,q2]⟩
section
variable{kt:Nat}{k:Value}{ks:List Value}
theorem kE.no(h:kE kt k ks):aA prog kt k (jR 0 ks) 0≠none:=by
 rcases ky 0 0 h with ⟨⟨p,q⟩,_⟩|⟨q,_⟩<;>rw[q]<;>simp
theorem kE.ex(h:kE kt k ks)(p:Nat × Value)(hp:aA prog kt k (jR 0 ks) 0=some (some p)): ∃x:Nat,p=(x,T1):=by
 rcases ky 0 0 h with ⟨⟨x,q⟩,_⟩|⟨q,_⟩
 ·rw[q] at hp;cases hp;exact⟨x,rfl⟩
 ·rw[q] at hp;cases hp
theorem kE.Dk(h:kE kt k ks){x:Nat}(hp:aA prog kt k (jR 0 ks) 0=some (some (x,T1))):k∈ks:=by
 rcases ky 0 0 h with ⟨_,q⟩|⟨q,_⟩
 ·exact q
 ·rw[q] at hp;cases hp
theorem kE.Jk(h:kE kt k ks)(hp:aA prog kt k (jR 0 ks) 0=some none):k ∉ ks:=by
 rcases ky 0 0 h with ⟨⟨x,q⟩,_⟩|⟨_,q⟩
 ·rw[q] at hp;cases hp
 ·exact q
end
theorem jt(a b:ByteArray):(a.data==b.data)=true↔a=b:=by
 rw[beq_iff_eq]
 exact⟨fun h=>by cases a;cases b;simp at h;rw[h],fun h=>by rw[h]⟩
theorem BZ(s:ByteArray)(l:List ByteArray):kE 9 (.string s) (l.map .string):=⟨fun k' hk'=>by
 obtain⟨t,_,rfl⟩:=List.mem_map.1 hk'
 exact⟨rfl,_,eqStr s t,by rw[jt];simp⟩⟩
theorem CL{σ:Nat->Option Nat}: ∀{ks:List Value} (i:Nat),(∀k,k∈ks->au k=true)->gp σ (jR i ks)=some (jR i ks)
 |[],_,_=>rfl
 |k::l,i,h=>by
  have hl: ∀x,x∈l->au x=true:=fun x hx=>h x (List.mem_cons_of_mem _ hx)
  simp only[jR,gp,ta (h k (by simp)),CL (σ:=σ) (i+1) hl,aT]
theorem yS{σ:Nat->Option Nat}{ks:List Value}(h: ∀k,k∈ks->au k=true):aG σ (bd ks)=some (bd ks):=by
 simp only[aG,CL 0 h]
theorem gZ(σ:Nat->Option Nat){ks:List Value}{k:Value}(h: ∀k,k∈ks->au k=true)(hk:au k=true):
 aG σ (aa.map (jR 0 ks++[{key:=k,val:= .bool true,born:=ks.length}]) (ks.length+1))=some (aa.map (jR 0 ks++[{key:=k,val:= .bool true,born:=ks.length}]) (ks.length+1)):=by
 have e:=ff ks k
 rw[e]
 exact yS fun x hx=>by
  rcases List.mem_append.1 hx with q|q
  ·exact h x q
  ·simp at q;subst q;exact hk
theorem nY(l:List ByteArray): ∀k,k∈l.map Value.string->au k=true:=fun k hk=>by
 obtain⟨t,_,rfl⟩:=List.mem_map.1 hk
 rfl
abbrev iE(z:T aa)(zn nx:Nat)(s1 s2:Nat)(e:Nat)(r1 r2:Int):Al:=alt True ⟨.ret,[(s1,zv r1),(s2,zv r2)],[],nx,z,zn⟩ (alt (r1=0/\r2=0) ⟨.exit e,[],[],nx,z,zn⟩ .nil)
def GP(n cp i:Nat):Live:=[(4,mp 0),(11,tb 2 n cp),(12,iv n),(13,iv i)]
def RU(z:T aa)(zn n cp:Nat)(r1 r2:Int):fp:=⟨1,54,[],GP n cp 0,[(0,bd [])],1,none,iE z zn 1 2 3 0 r1 r2⟩
def vR:Live:=[(4,mp 0),(11,az),(12,iv 0),(13,iv 0)]
def RT(z:T aa)(zn:Nat):fp:=⟨1,54,[],vR,[(0,bd [])],1,none,alt True ⟨.exit 0,[],[],1,z,zn⟩ .nil⟩
def xC(n cp i:Nat):Live:=[(0,tb 2 n cp),(4,iv i)]
def vV(n cp i k:Nat):Live:=[(0,tb 2 n cp),(4,iv i),(5,iv k)]
def Sa(z:T aa)(zn n cp:Nat)(r1 r2:Int):fp:=⟨0,57,[],xC n cp 0,[],0,none,iE z zn 0 2 3 0 r1 r2⟩
def R9(z:T aa)(zn n cp i:Nat)(b:Bool):fp:=⟨0,57,[],vV n cp i 0,[],0,none,alt (b=true) ⟨.ret,[(2,iv i),(3,I 6)],[],0,z,zn⟩ (alt (b=false) ⟨.exit 2,xC n cp i,[],0,z,zn⟩ .nil)⟩
def GQ(n cp i:Nat):Live:=[(4,mp 0),(11,tb 3 n cp),(12,iv n),(13,iv i)]
def RZ(z:T aa)(zn n cp:Nat)(r1 r2:Int):fp:=⟨1,37,[],GQ n cp 0,[(0,bd [])],1,none,iE z zn 1 2 3 0 r1 r2⟩
def vU:Live:=[(4,mp 0),(11,az),(12,iv 0),(13,iv 0)]
def RY(z:T aa)(zn:Nat):fp:=⟨1,37,[],vU,[(0,bd [])],1,none,alt True ⟨.exit 0,[],[],1,z,zn⟩ .nil⟩
def xD(n cp i:Nat):Live:=[(0,tb 3 n cp),(4,iv i)]
def vW(n cp i k:Nat):Live:=[(0,tb 3 n cp),(4,iv i),(5,iv k)]
def Sc(z:T aa)(zn n cp:Nat)(r1 r2:Int):fp:=⟨0,48,[],xD n cp 0,[],0,none,iE z zn 0 2 3 0 r1 r2⟩
def Sb(z:T aa)(zn n cp i:Nat)(b:Bool):fp:=⟨0,48,[],vW n cp i 0,[],0,none,alt (b=true) ⟨.ret,[(2,iv i),(3,I 6)],[],0,z,zn⟩ (alt (b=false) ⟨.exit 2,xD n cp i,[],0,z,zn⟩ .nil)⟩
abbrev oA(elem:Nat)(cells:List Value):aa:= .ak ⟨cells,cells.length,1,elem,true,true,0,true⟩
def Ek(n cp i:Nat):Live:=[(4,mp 1),(29,tb 5 n cp),(30,iv n),(31,iv i)]
def Sl(z:T aa)(zn n cp:Nat)(r1 r2:Int):fp:=⟨2,79,[],Ek n cp 0,[(1,bd [])],2,none,iE z zn 2 2 3 0 r1 r2⟩
def vY:Live:=[(4,mp 1),(29,az),(30,iv 0),(31,iv 0)]
def Sk(z:T aa)(zn:Nat):fp:=⟨2,79,[],vY,[(1,bd [])],2,none,alt True ⟨.exit 0,[],[],2,z,zn⟩ .nil⟩
def ve(pv:Value)(d w c:Int):aa:=oA 29 [pv,zv d,zv w,zv c]
abbrev J7(x:bE):aa:=oA 84 x.row
def rF(i:Nat):Live:=[(1,ip 0),(4,iv i)]
def vX(i k:Nat):Live:=[(1,ip 0),(4,iv i),(5,ip 1),(6,iv k)]
def GS(i:Nat):Live:=[(1,ip 0),(4,iv i),(5,ip 1)]
def Sf(z:T aa)(zn:Nat)(fb:aa)(r1 r2:Int):fp:=⟨1,88,[],rF 0,[(0,fb)],1,none,iE z zn 1 2 3 0 r1 r2⟩
def Se(z:T aa)(zn i:Nat)(fb:aa)(x:bE)(b:Bool):fp:=⟨2,88,[],vX i 0,[(0,fb),(1,J7 x)],2,none,alt (b=true) ⟨.ret,[(2,iv i),(3,I 6)],[],2,z,zn⟩ (alt (b=false) ⟨.exit 2,GS i,[(0,fb),(1,J7 x)],2,z,zn⟩ .nil)⟩
def Er(k n cp:Nat)(s lo hi:Int)(i:Nat):Live:=[(0,tb k n cp),(1,zv s),(2,zv lo),(3,zv hi),(21,iv n),(22,iv i)]
def Wr(z:T aa)(zn k n cp:Nat)(s lo hi:Int)(r1 r2:Int):fp:=⟨0,36,[],Er k n cp s lo hi 0,[],0,none,iE z zn 0 8 9 0 r1 r2⟩
def zJ(k n cp:Nat)(s lo hi:Int)(i:Nat):Live:=[(0,tb k n cp),(1,zv s),(2,zv lo),(3,zv hi),(9,iv i)]
def Oy(z:T aa)(zn k n cp:Nat)(s lo hi:Int)(r:Int):fp:=⟨0,83,[],zJ k n cp s lo hi 0,[],0,none,alt True ⟨.ret,[(8,zv r)],[],0,z,zn⟩ (alt (r=0) ⟨.exit 0,[],[],0,z,zn⟩ .nil)⟩
structure aJ where
 sa:Option Addr
 ns:Nat
 sc:Nat
 ra:Option Addr
 nr:Nat
 rc:Nat
 ua:Option Addr
 nu:Nat
 uc:Nat
 la:Option Addr
 nl:Nat
 lc:Nat
 pa:Option Addr
 np:Nat
 pc:Nat
 fa:Option Addr
 nf:Nat
 fc:Nat
 d:Int
 w:Int
 c:Int
abbrev aJ.cells(N:aJ):List Value:=[.slice N.sa N.ns N.sc, .slice N.ra N.nr N.rc, .slice N.ua N.nu N.uc, .slice N.la N.nl N.lc, .slice N.pa N.np N.pc, .slice N.fa N.nf N.fc,zv N.d,zv N.w,zv N.c]
abbrev aJ.val(N:aJ):Value:= .agg ⟨N.cells⟩
abbrev aJ.box(N:aJ):aa:=oA 31 N.cells
abbrev aJ.uu(N:aJ):List Value:=[.slice N.sa N.ns N.sc, .slice N.ra N.nr N.rc,tb 1 N.nu N.uc, .slice N.la N.nl N.lc, .slice N.pa N.np N.pc, .slice N.fa N.nf N.fc,zv N.d,zv N.w,zv N.c]
abbrev aJ.jr(N:aJ):aa:=oA 31 N.uu
abbrev cW(a b c:Int):aa:=oA 88 [zv a,zv b,zv c]
structure iM where
 u4:Int
 day:Int
 inst:Int
 id:ByteArray
 je:Int
 sf:Bool
 cancelled:Bool
 ca:Option Addr
 cn:Nat
 cc:Nat
abbrev iM.row(r:iM):List Value:=[zv r.u4,zv r.day,zv r.inst, .string r.id,zv r.je, .bool r.sf, .bool r.cancelled, .slice r.ca r.cn r.cc]
abbrev iM.key(r:iM):Value:= .agg ⟨[.string r.id,zv r.day,zv r.inst]⟩
def Qr(n cp i:Nat):Live:=[(1,ip 0),(2,ip 1),(3,mp 2),(16,tb 1 n cp),(17,iv n),(18,iv i)]
def Zn(z:T aa)(zn:Nat)(N:aJ)(r1 r2 r3:Int):fp:=⟨3,96,[],Qr N.nu N.uc 0,[(0,N.jr),(1,cW 0 0 0),(2,bd [])],3,none,alt True ⟨.ret,[(2,ip 1)],[(1,cW r1 r2 r3)],3,z,zn⟩ (alt (r1=0/\r2=0/\r3=0) ⟨.exit 0,[(2,ip 1)],[(1,cW 0 0 0)],3,z,zn⟩ .nil)⟩
def zI(i k:Nat):Live:=[(1,iv i),(2,ip 0),(5,ip 1),(7,iv k)]
abbrev oT(x:iM):aa:=oA 38 x.row
def Sd(z:T aa)(zn i:Nat)(N:aJ)(x:iM)(b:Bool):fp:=⟨2,79,[],zI i 0,[(0,N.jr),(1,oT x)],2,none,alt (b=true) ⟨.ret,[(4,I 6)],[],2,z,zn⟩ (alt (b=false) ⟨.exit 0,[],[],2,z,zn⟩ .nil)⟩
def gP:Nat->List Value->Option Value
 |53,[.string s]=>match Nat.ble s.size 9223372036854775807 with|true=>some (.bool (bM s))|false=>none
 |62,[.string s]=>match Nat.ble s.size 9223372036854775807 with|true=>some (.bool (bM s))|false=>none
 |54,[.int .i64 n]=>some (.bool (decide (0<=n) && decide (n<8)))
 |58,[.int .i64 n, .int .i64 a, .int .i64 b]=>some (.bool (decide (a<=n) && decide (n<=b)))
 |25,[.int .i64 a, .int .i64 b, .int .i64 c]=>some (.agg ⟨[zv a,zv b,zv c]⟩)
 |56,[.int .i64 a, .int .i64 b]=>some (.bool (decide (0<=a) && decide (a<b)))
 |63,[.int .i64 n, .int .i64 a, .int .i64 b]=>some (.bool (decide (a<=n) && decide (n<=b)))
 |_,_=>none
theorem TQ{s:ByteArray}(h:s.size<=9223372036854775807):gP 53 [.string s]=some (.bool (bM s)):=by
 show(match Nat.ble s.size 9223372036854775807 with|true=>some (Value.bool (bM s))|false=>none)=_
 rw[Nat.ble_eq_true_of_le h]
theorem TO{s:ByteArray}(h:s.size<=9223372036854775807):gP 62 [.string s]=some (.bool (bM s)):=by
 show(match Nat.ble s.size 9223372036854775807 with|true=>some (Value.bool (bM s))|false=>none)=_
 rw[Nat.ble_eq_true_of_le h]
abbrev aJ.dR(N:aJ)(u l:Value):List Value:=[.slice N.sa N.ns N.sc, .slice N.ra N.nr N.rc,u,l, .slice N.pa N.np N.pc, .slice N.fa N.nf N.fc,zv N.d,zv N.w,zv N.c]
abbrev aJ.cf(N:aJ)(u l:Value):aa:=oA 31 (N.dR u l)
abbrev aJ.u1(N:aJ):Value:=tb 1 N.nu N.uc
abbrev aJ.u0(N:aJ):Value:= .slice N.ua N.nu N.uc
abbrev aJ.l1(N:aJ):Value:=tb 0 N.nl N.lc
def iA:Nat->List (Int × Int)->List MapEntry
 |_,[]=>[]
 |i,(a,b)::l=>{key:=zv a,val:=zv b,born:=i}::iA (i+1) l
abbrev tN(l:List (Int × Int)):aa:= .map (iA 0 l) l.length
abbrev FF(x:aE):aa:=oA 124 x.row
def Ej(i:Nat)(f t:Int)(j:Nat):Live:=[(1,iv i),(2,zv f),(3,zv t),(4,ip 0),(9,iv j)]
def Wh(z:T aa)(zn:Nat)(N:aJ)(i:Nat)(f t:Int)(b:Bool):fp:=⟨1,48,[],Ej i f t 0,[(0,N.cf N.u0 N.l1)],1,none,alt (b=true) ⟨.ret,[(8,T1)],[],1,z,zn⟩ (alt (b=false) ⟨.exit 0,[],[],1,z,zn⟩ .nil)⟩
def qT(i:Nat)(f t:Int)(j:Nat)(nx:Int)(k:Nat):Live:=[(1,iv i),(2,zv f),(3,zv t),(4,ip 0),(9,iv j),(10,zv nx),(11,iv k)]
def GR(i:Nat)(f t:Int)(j:Nat)(nx:Int):Live:=[(1,iv i),(2,zv f),(3,zv t),(4,ip 0),(9,iv j),(10,zv nx)]
def MH(z:T aa)(zn:Nat)(N:aJ)(i:Nat)(f t:Int)(j:Nat)(r m:Int):fp:=⟨1,48,[],qT i f t j m 0,[(0,N.cf N.u0 N.l1)],1,none,alt True ⟨.exit 2,GR i f t j r,[(0,N.cf N.u0 N.l1)],1,z,zn⟩ .nil⟩
def xF(i k:Nat):Live:=[(1,iv i),(2,ip 0),(5,ip 1),(8,iv k)]
def Kl(i:Nat):Live:=[(1,iv i),(2,ip 0),(5,ip 1)]
def Sp(z:T aa)(zn:Nat)(N:aJ)(i:Nat)(x:aE)(b:Bool):fp:=⟨2,177,[],xF i 0,[(0,N.cf N.u1 N.l1),(1,FF x)],2,none,alt (b=true) ⟨.ret,[(4,I 19)],[],2,z,zn⟩ (alt (b=false) ⟨.exit 0,Kl i,[(0,N.cf N.u1 N.l1),(1,FF x)],2,z,zn⟩ .nil)⟩
def zL(i k:Nat):Live:=[(1,iv i),(2,ip 0),(5,ip 1),(10,iv k)]
def So(z:T aa)(zn:Nat)(N:aJ)(i:Nat)(x:aE)(b:Bool):fp:=⟨2,177,[],zL i 0,[(0,N.cf N.u1 N.l1),(1,FF x)],2,none,alt (b=true) ⟨.ret,[(4,I 6)],[],2,z,zn⟩ (alt (b=false) ⟨.exit 2,[],[],2,z,zn⟩ .nil)⟩
def Eo(n cp i:Nat):Live:=[(1,ip 0),(2,ip 1),(3,mp 2),(4,mp 3),(5,mp 4),(22,tb 0 n cp),(23,iv n),(24,iv i)]
def TL(z:T aa)(zn:Nat)(N:aJ)(u:Value)(r1 r2 r3:Int):fp:=⟨5,171,[],Eo N.nl N.lc 0,[(0,N.cf u N.l1),(1,cW 0 0 0),(2, .map [] 0),(3,bd []),(4,bd [])],5,none,alt True ⟨.ret,[(2,ip 1)],[(1,cW r1 r2 r3)],5,z,zn⟩ (alt (r1=0/\r2=0/\r3=0) ⟨.exit 0,[(2,ip 1)],[(1,cW 0 0 0)],5,z,zn⟩ .nil)⟩
def En:Live:=[(1,ip 0),(2,ip 1),(3,mp 2),(4,mp 3),(5,mp 4),(22,az),(23,iv 0),(24,iv 0)]
def Wm(z:T aa)(zn:Nat)(N:aJ):fp:=⟨5,171,[],En,[(0,N.cf N.u0 az),(1,cW 0 0 0),(2, .map [] 0),(3,bd []),(4,bd [])],5,none,alt True ⟨.exit 0,[(2,ip 1)],[(1,cW 0 0 0)],5,z,zn⟩ .nil⟩
abbrev aJ.p1(N:aJ):Value:=tb 4 N.np N.pc
abbrev aJ.gQ(N:aJ)(p:Value):List Value:=[.slice N.sa N.ns N.sc, .slice N.ra N.nr N.rc, .slice N.ua N.nu N.uc, .slice N.la N.nl N.lc,p, .slice N.fa N.nf N.fc,zv N.d,zv N.w,zv N.c]
abbrev aJ.bT(N:aJ)(p:Value):aa:=oA 31 (N.gQ p)
def zF(n:Int)(m cp i:Nat):Live:=[(1,zv n),(6,mp 0),(11,tb 4 m cp),(12,iv m),(13,iv i)]
def Ot(z:T aa)(zn m cp:Nat)(n:Int)(r1 r2:Int):fp:=⟨1,62,[],zF n m cp 0,[(0,bd [])],1,none,iE z zn 1 4 5 0 r1 r2⟩
def vS(n:Int):Live:=[(1,zv n),(6,mp 0),(11,az),(12,iv 0),(13,iv 0)]
def RV(z:T aa)(zn:Nat)(n:Int):fp:=⟨1,62,[],vS n,[(0,bd [])],1,none,alt True ⟨.exit 0,[],[],1,z,zn⟩ .nil⟩
def zO(m cp i:Nat):Live:=[(1,ip 0),(2,ip 1),(3,mp 2),(9,tb 4 m cp),(10,iv m),(11,iv i)]
def OD(z:T aa)(zn:Nat)(N:aJ)(r1 r2 r3:Int):fp:=⟨3,78,[],zO N.np N.pc 0,[(0,N.bT N.p1),(1,cW 0 0 0),(2,bd [])],3,none,alt (r1≠0) ⟨.ret,[(2,ip 1)],[(1,cW r1 r2 r3)],3,z,zn⟩ (alt (r1=0) ⟨.exit 0,[(1,ip 0),(2,ip 1)],[(0,N.bT N.p1),(1,cW 0 0 0)],3,z,zn⟩ .nil)⟩
def wa:Live:=[(1,ip 0),(2,ip 1),(3,mp 2),(9,az),(10,iv 0),(11,iv 0)]
def Sv(z:T aa)(zn:Nat)(N:aJ):fp:=⟨3,78,[],wa,[(0,N.bT az),(1,cW 0 0 0),(2,bd [])],3,none,alt True ⟨.exit 0,[(1,ip 0),(2,ip 1)],[(0,N.bT az),(1,cW 0 0 0)],3,z,zn⟩ .nil⟩
def tQ:Live:=[(0,az),(4,iv 0)]
def Sn(z:T aa)(zn slots:Nat):fp:=⟨0,slots,[],tQ,[],0,none,alt True ⟨.exit 0,[],[],0,z,zn⟩ .nil⟩
def Wo(z:T aa)(zn:Nat)(d w c:Int):fp:=⟨1,88,[],rF 0,[(0,ve az d w c)],1,none,alt True ⟨.exit 0,[],[],1,z,zn⟩ .nil⟩
def pk(c f a d:Int):Int:=if c≠0 then a else if f≠0 then d else 0
abbrev Ji(a b c d e f:Int):aa:= .ak ⟨[zv a,zv b,zv c,zv d,zv e,zv f],6,3,88,true,true,0,true⟩
def zM(i:Nat):Live:=[(2,ip 1),(5, .slice (some ⟨0,0,none⟩) 2 2),(6,iv 2),(7,iv i)]
def Wq(z:T aa)(zn:Nat)(a b c d e f x y w:Int):fp:=⟨2,17,[],zM 0,[(0,Ji a b c d e f),(1,cW 0 0 0)],2,none,alt (x=pk c f a d/\y=pk c f b e/\w=pk c f c f) ⟨.ret,[(2,ip 1)],[(1,cW x y w)],2,z,zn⟩ (alt (c=0/\f=0) ⟨.exit 0,[(2,ip 1)],[(1,cW 0 0 0)],2,z,zn⟩ .nil)⟩
def BL(i:Nat):Live:=[(1,ip 0),(7,iv i)]
def BK(i:Nat):Live:=[(1,ip 0),(8,iv i)]
def Sh(z:T aa)(zn:Nat)(N:aJ)(r e:Int):fp:=⟨1,84,[],BL 0,[(0,N.box)],1,none,alt (e≠0) ⟨.ret,[(2,I 2),(3,zv r),(4,zv e)],[],1,z,zn⟩ (alt (e=0) ⟨.exit 0,[(1,ip 0)],[(0,N.box)],1,z,zn⟩ .nil)⟩
def Sg(z:T aa)(zn:Nat)(N:aJ)(r e:Int):fp:=⟨1,84,[],BK 0,[(0,N.box)],1,none,alt (e≠0) ⟨.ret,[(2,I 3),(3,zv r),(4,zv e)],[],1,z,zn⟩ (alt (e=0) ⟨.exit 2,[(1,ip 0)],[(0,N.box)],1,z,zn⟩ .nil)⟩
structure cH where
 node:Int
 len:Int
 fM:Int
abbrev cH.row(x:cH):List Value:=[zv x.node,zv x.len,zv x.fM]
structure bU where
 x:cH
 num:Int
abbrev bU.row(a:bU):List Value:=[zv a.x.node,zv a.x.len,zv a.x.fM,zv a.num]
def nH(a b:cH):Bool:=decide (a.len<b.len)||(decide (a.len=b.len) && decide (a.fM<b.fM))
def dC(a b:bU):Bool:=nH a.x b.x||(!nH b.x a.x && decide (a.num<b.num))
abbrev Hg:Value:= .func (.func 236) #[] #[]
def gH:Nat->List Value->Option Value
 |236,[.agg ⟨[.int .i64 a, .int .i64 b, .int .i64 c]⟩, .agg ⟨[.int .i64 d, .int .i64 e, .int .i64 f]⟩]=>some (.bool (nH ⟨a,b,c⟩ ⟨d,e,f⟩))
 |_,_=>none
abbrev dV(s:Value)(p:Int):aa:=oA 327 [Hg,s,zv p]
abbrev dI(cs:List Value)(c:Nat):aa:= .ak ⟨cs,c,4,329,false,false,0,true⟩
abbrev aU(b n c:Nat):Value:= .slice (some ⟨b,0,none⟩) n c
abbrev aD(ms:List bU):List Value:=(ms.map bU.row).flatten
def qs(i:Nat):Live:=[(0,ip 0),(4,iv i)]
def Kp(z:T aa)(zn b i m c cc:Nat)(p:Int)(cs:List Value)(φ:List bU->Prop):fp:=⟨b,54,[],qs i,[(0,dV (aU b m c) p),(b,dI cs cc)],b+1,none,
 .cons (List bU) φ (fun ms=>⟨.exit 0,[(0,ip 0)],[(0,dV (aU b m c) p),(b,dI (aD ms) cc)],b+1,z,zn⟩) (fun _=> .fin [] [] [] [] 0 .leaf 0) .nil⟩
def zG(i:Nat):Live:=[(0,ip 0),(2,iv i)]
def Ou(z:T aa)(zn i n c cc:Nat)(p:Int)(cs:List Value)(φ:List bU->Prop):fp:=⟨2,41,[],zG i,[(0,dV (aU 1 n c) p),(1,dI cs cc)],2,none,
 .cons (List bU) φ (fun ms=>⟨.ret,[(0,ip 0)],[(0,dV (aU 1 n c) p),(1,dI (aD ms) cc)],2,z,zn⟩) (fun _=> .fin [] [] [] [] 0 .leaf 0) .nil⟩
structure dW where
 fz1:Int
 aq:Int
 wt:Int
abbrev dW.row(e:dW):List Value:=[zv e.fz1,zv e.aq,zv e.wt]
abbrev aR(l:List cH):List Value:=(l.map cH.row).flatten
abbrev bu(l:List dW):List Value:=(l.map dW.row).flatten
abbrev jM(cs:List Value)(n:Nat):aa:= .ak ⟨cs,n*3,3,315,true,true,0,true⟩
abbrev EA(cs:List Value)(n:Nat):aa:= .ak ⟨cs,n*1,1,3,true,true,0,true⟩
structure pZ where
 n:Nat
 ms:List bU
 p:Int
abbrev wy(b:Nat)(s:pZ):aa:=dV (aU b s.n s.ms.length) s.p
abbrev vL(s:pZ):aa:=dI (aD s.ms) (s.ms.length*4)
abbrev eh:Tr:= .fin [] [] [] [] 0 .leaf 0
abbrev Wt(a:cH):aa:=oA 315 a.row
def Es(n fr i:Nat):Live:=[(0,iv n),(1,mp 0),(2,iv fr),(7,aU 1 n n),(17,iv n),(18,iv i)]
def Ws(z:T aa)(zn n fr ck:Nat)(es:List MapEntry)(cs cs2:List Value):fp:=⟨2,82,[],Es n fr 0,[(0, .map es ck),(1,jM cs n)],2,none,alt True ⟨.exit 0,[(1,mp 0),(2,iv fr),(7,aU 1 n n)],[(0, .map es ck),(1,jM cs2 n)],2,z,zn⟩ .nil⟩
def kU(n:Nat):Live:=[(1,mp 0),(7,aU 1 n n),(9,ip 2)]
def Kr(z:T aa)(zn n ck:Nat)(es:List MapEntry)(cs:List Value)(h:aa)(ns:aa)(φ:List cH->Prop):fp:=⟨4,82,[],kU n,[(0, .map es ck),(1,jM cs n),(2,h),(4,ns)],5,none,
 .cons (List cH) φ (fun l=>⟨.ret,[(6,aU 1 n n)],[(0, .map es ck),(1,jM (aR l) n)],5,z,zn⟩) (fun _=>eh) .nil⟩
def BS(n k m j:Nat):Live:=[(1,mp 0),(7,aU 1 n n),(9,ip 2),(10,ip 5),(55,tb k m m),(56,iv m),(57,iv j)]
def we(n:Nat):Live:=[(1,mp 0),(7,aU 1 n n),(9,ip 2),(10,ip 5),(55,az),(56,iv 0),(57,iv 0)]
abbrev qa(n ck:Nat)(es:List MapEntry)(cs:List Value)(a:cH)(h ns:aa):bO:=[(0, .map es ck),(1,jM cs n),(2,h),(5,Wt a),(6,ns)]
def SA(z:T aa)(zn n k m ck:Nat)(es:List MapEntry)(cs:List Value)(a:cH)(h ns:aa)(φ:pZ->Prop):fp:=⟨6,82,[],BS n k m 0,qa n ck es cs a h ns,7,none,
 .cons pZ φ (fun s=>⟨.exit 4,kU n,[(0, .map es ck),(1,jM cs n),(2,wy 6 s),(6,vL s)],7,z,zn⟩) (fun _=>eh) .nil⟩
def Sz(z:T aa)(zn n ck:Nat)(es:List MapEntry)(cs:List Value)(a:cH)(h ns:aa):fp:=⟨6,82,[],we n,qa n ck es cs a h ns,7,none,alt True ⟨.exit 4,kU n,[(0, .map es ck),(1,jM cs n),(2,h),(6,ns)],7,z,zn⟩ .nil⟩
def Em(n i:Nat):Live:=[(3,aU 1 n n),(9,aU 0 n n),(10,iv n),(11,iv i)]
def Wl(z:T aa)(zn n:Nat)(cs cs2 cs3:List Value):fp:=⟨2,23,[],Em n 0,[(0,jM cs n),(1,EA cs2 n)],2,none,alt True ⟨.exit 0,[(3,aU 1 n n)],[(1,EA cs3 n)],2,z,zn⟩ .nil⟩
abbrev nv(cs:List Value)(n:Nat):aa:= .ak ⟨cs,n*3,3,262,true,true,0,true⟩
abbrev sT(cs:List Value)(n:Nat):aa:= .ak ⟨cs,n*1,1,138,true,true,0,true⟩
abbrev FG(n:Nat):aa:=oA 3 [iv n]
abbrev zw:Value:= .func (.func 234) #[] #[ip 1]
def wc(n m j:Nat):Live:=[(2,az),(7,zw),(22,aU 0 m m),(23,iv m),(24,iv j)]
def wb:Live:=[(7,zw),(47,az),(48,iv 0),(49,iv 0)]
def Sx(z:T aa)(zn n m:Nat)(cs:List Value):fp:=⟨2,57,[],wc n m 0,[(0,nv cs m),(1,FG n)],2,none,alt True ⟨.exit 0,[(2,az),(7,zw)],[(0,nv cs m),(1,FG n)],2,z,zn⟩ .nil⟩
def Sw(z:T aa)(zn n m:Nat)(cs:List Value):fp:=⟨2,57,[],wb,[(0,nv cs m),(1,FG n)],2,none,alt True ⟨.exit 2,[(7,zw)],[(0,nv cs m),(1,FG n)],2,z,zn⟩ .nil⟩
def BN(m j:Nat):Live:=[(1,F0),(5,mp 1),(9,aU 0 m m),(10,iv m),(11,iv j)]
structure nM where
 l:List (Int × Nat × List dW)
 z:T aa
 zn:Nat
def eD:Nat->List (Int × Nat × List dW)->List MapEntry
 |_,[]=>[]
 |i,(a,k,r)::l=>{key:=zv a,val:=tb k r.length r.length,born:=i}::eD (i+1) l
abbrev Ee(l:List (Int × Nat × List dW)):aa:= .map (eD 0 l) l.length
def Wj(z:T aa)(zn m:Nat)(cs:List Value)(φ:nM->Prop):fp:=⟨2,34,[],BN m 0,[(0,nv cs m),(1, .map [] 0)],2,none,
 .cons nM φ (fun s=>⟨.exit 0,[(5,mp 1)],[(0,nv cs m),(1,Ee s.l)],2,s.z,s.zn⟩) (fun _=>eh) .nil⟩
def zQ(n i:Nat):Live:=[(0,iv n),(7,mp 1),(8,aU 2 n n),(21,iv n),(22,iv i)]
structure dN where
 cs:List Value
 z:T aa
 zn:Nat
def SB(n ck:Nat)(es:List MapEntry)(cs:List Value)(z:T aa)(zn:Nat)(φ:dN->Prop):fp:=⟨3,35,[],zQ n 0,[(1, .map es ck),(2,sT cs n)],3,none,
 .cons dN φ (fun s=>⟨.exit 0,[(8,aU 2 n n)],[(2,sT s.cs n)],3,s.z,s.zn⟩) (fun _=>eh) .nil⟩
def zN(m cp n:Nat)(b:Bool)(i:Nat):Live:=[(1,iv n),(2, .bool b),(7,mp 0),(19,tb 4 m cp),(20,iv m),(21,iv i)]
abbrev fO:=Int × Int × Int
abbrev DB(x:fO):Value:= .agg ⟨[zv x.1,zv x.2.1,F0]⟩
def gf:Nat->List fO->List MapEntry
 |_,[]=>[]
 |i,x::l=>{key:=DB x,val:=zv x.2.2,born:=i}::gf (i+1) l
abbrev Tj(l:List fO):aa:= .map (gf 0 l) l.length
def Su(z:T aa)(zn m cp n:Nat)(b:Bool)(l:List fO):fp:=⟨1,81,[],zN m cp n b 0,[(0, .map [] 0)],1,none,alt True ⟨.exit 0,[(1,iv n),(7,mp 0)],[(0,Tj l)],1,z,zn⟩ .nil⟩
def vc(n r mm:Nat):Live:=[(1,iv n),(13,aU 1 r mm),(59,ip 2)]
abbrev Wb(ck:Nat)(seen:List Nat):aa:= .dt (some 0) ck seen ck
abbrev uY(mm ck:Nat)(es:List MapEntry)(cs:List Value)(seen:List Nat):bO:=[(0, .map es ck),(1,nv cs mm),(2,Wb ck seen)]
def Ss(z:T aa)(zn n mm ck:Nat)(es:List MapEntry)(cs:List Value)(φ:List dW->Prop):fp:=⟨3,81,[],vc n 0 mm,uY mm ck es cs [],3,none,
 .cons (List dW) φ (fun l=>⟨.exit 2,[(1,iv n),(13,aU 1 mm mm)],[(0, .map es ck),(1,nv (bu l) mm)],3,z,zn⟩) (fun _=>eh) .nil⟩
abbrev TU(x:Nat × fO):MapEntry:={key:=DB x.2,val:=zv x.2.2.2,born:=x.1}
abbrev oB(v:Value):aa:=oA 26 [v]
structure ep where
 oa:Option Addr
 k:Nat
 z:T aa
 zn:Nat
abbrev ep.v(s:ep):Value:= .slice s.oa s.k s.k
abbrev Tl:Value:= .func (.func 124) #[] #[ip 2]
def vd(n a:Nat):Live:=[(5,aU 0 n n),(6,aU 1 n n),(7,ip 2),(8,Tl),(21,iv n),(22,iv a)]
abbrev yq(n:Nat)(A B:List Value)(v:Value):bO:=[(0,sT A n),(1,sT B n),(2,oB v)]
def OE(n:Nat)(A B:List Value)(z:T aa)(zn:Nat)(φ:ep->Prop):fp:=⟨3,66,[],vd n 0,yq n A B az,3,none,
 .cons ep φ (fun s=>⟨.exit 0,[(7,ip 2)],[(2,oB s.v)],3,s.z,s.zn⟩) (fun _=>eh) .nil⟩
def zP(n a ka b:Nat):Live:=[(5,aU 0 n n),(6,aU 1 n n),(7,ip 2),(8,Tl),(9,iv a),(21,iv n),(22,iv a),(28,tb ka n n),(29,iv n),(30,iv b)]
def Sy(n a ka:Nat)(A B:List Value)(s0:ep)(φ:ep->Prop):fp:=⟨3,66,[],zP n a ka 0,yq n A B s0.v,3,none,
 .cons ep φ (fun s=>⟨.exit 2,vd n a,yq n A B s.v,3,s.z,s.zn⟩) (fun _=>eh) .nil⟩
abbrev OT(cs:List Value)(n:Nat):aa:= .ak ⟨cs,n*4,4,82,false,false,0,true⟩
def BP(k r m cp i:Nat):Live:=[(0,tb 4 m cp),(28,tb k r r),(7,tb k r r),(29,iv r),(30,iv i)]
def Sq(z:T aa)(zn k r m cp:Nat)(b:Bool):fp:=⟨0,43,[],BP k r m cp 0,[],0,some (z,zn),alt (b=false) ⟨.ret,[(4,F0)],[],0,z,zn⟩ (alt (b=true) ⟨.exit 0,[],[],0,z,zn⟩ .nil)⟩
def nF(v:Value):Live:=[(0,v),(28,az),(29,iv 0),(30,iv 0)]
def GV(z:T aa)(zn:Nat)(v:Value):fp:=⟨0,43,[],nF v,[],0,none,alt True ⟨.exit 0,[],[],0,z,zn⟩ .nil⟩
def vZ(n:Nat)(b:Bool):Live:=[(1,iv n),(2, .bool b),(7,mp 0),(19,az),(20,iv 0),(21,iv 0)]
def St(z:T aa)(zn n:Nat)(b:Bool):fp:=⟨1,81,[],vZ n b,[(0, .map [] 0)],1,none,alt True ⟨.exit 0,[(1,iv n),(7,mp 0)],[(0, .map [] 0)],1,z,zn⟩ .nil⟩
abbrev yR(cs:List Value)(k:Nat):aa:= .ak ⟨cs,k*1,1,3,false,false,0,true⟩
abbrev D4:aa:= .ak ⟨[],0,1,3,true,true,0,true⟩
abbrev Jm(cs:List Value)(k:Nat):aa:= .ak ⟨cs,k*1,1,138,false,false,0,true⟩
abbrev EO:aa:= .ak ⟨[],0,1,138,true,true,0,true⟩
structure dh where
 bl:aY
 z:T aa
 zn:Nat
def pn(pv:Value)(n:Nat)(b:Bool)(i:Nat):Live:=[(0,pv),(1,iv n),(2, .bool b),(7,aU 1 i i),(8,iv i)]
def Ox(z:T aa)(zn:Nat)(pv:Value)(n:Nat)(b:Bool)(φ:dh->Prop):fp:=⟨1,116,[],pn pv n b 0,[(1,EO)],2,none,
 .cons dh φ (fun s=>⟨.exit 0,[(0,pv),(1,iv n),(2, .bool b),(7,aU 1 n n)],[(1, .ak s.bl)],2,s.z,s.zn⟩) (fun _=>eh) .nil⟩
def kT(pv:Value)(n:Nat)(b:Bool)(i k:Nat):Live:=[(0,pv),(1,iv n),(2, .bool b),(7,aU 3 i i),(8,iv i),(9,aU 4 k k),(10,iv k)]
def Ow(z:T aa)(zn:Nat)(pv:Value)(n:Nat)(b:Bool)(i:Nat)(d:aa)(cs:List Value):fp:=⟨3,116,[],kT pv n b i 0,[(3,d),(4,D4)],5,none,
 alt True ⟨.exit 2,[(0,pv),(1,iv n),(2, .bool b),(7,aU 3 i i),(8,iv i),(9,aU 4 n n)],[(3,d),(4,yR cs n)],5,z,zn⟩ .nil⟩
def zH(m cp n:Nat)(b:Bool)(i:Nat):Live:=[(0,tb 4 m cp),(1,iv n),(2, .bool b),(7,aU 1 n n),(11,iv i)]
def RX(m cp n:Nat)(b:Bool)(s:dh)(φ:T aa->Prop):fp:=⟨2,116,[],zH m cp n b 0,[(1, .ak s.bl)],2,none,
 .cons (T aa) φ (fun z=>⟨.exit 4,[(1,iv n),(7,aU 1 n n)],[(1, .ak s.bl)],2,z,s.zn⟩) (fun _=>eh) .nil⟩
def qu(n k:Nat):Live:=[(1,iv n),(7,aU 1 n n),(13,iv k)]
def Ov(n:Nat)(s:dh)(φ:T aa->Prop):fp:=⟨2,116,[],qu n 0,[(1, .ak s.bl)],2,none,
 .cons (T aa) φ (fun z=>⟨.exit 6,[(7,aU 1 n n)],[(1, .ak s.bl)],2,z,s.zn⟩) (fun _=>eh) .nil⟩
def xB(n k i:Nat):Live:=[(1,iv n),(7,aU 1 n n),(13,iv k),(14,iv i)]
def Wg(zn n k:Nat)(bl:aY)(φ:T aa->Prop):fp:=⟨2,116,[],xB n k 0,[(1, .ak bl)],2,none,
 .cons (T aa) φ (fun z=>⟨.exit 8,qu n k,[(1, .ak bl)],2,z,zn⟩) (fun _=>eh) .nil⟩
def Ei(n k i j:Nat):Live:=[(1,iv n),(7,aU 1 n n),(13,iv k),(14,iv i),(15,iv j)]
def Wf(zn n k i:Nat)(bl:aY)(φ:T aa->Prop):fp:=⟨2,116,[],Ei n k i 0,[(1, .ak bl)],2,none,
 .cons (T aa) φ (fun z=>⟨.exit 10,xB n k i,[(1, .ak bl)],2,z,zn⟩) (fun _=>eh) .nil⟩
def vT(n:Nat)(b:Bool)(i:Nat):Live:=[(0,az),(1,iv n),(2, .bool b),(7,aU 1 n n),(11,iv i)]
def RW(n:Nat)(b:Bool)(s:dh):fp:=⟨2,116,[],vT n b 0,[(1, .ak s.bl)],2,none,alt True ⟨.exit 4,[(1,iv n),(7,aU 1 n n)],[(1, .ak s.bl)],2,s.z,s.zn⟩ .nil⟩
structure pW where
 k:Nat
 bl:aY
abbrev FI:aY:=⟨[],0,4,82,true,true,0,true⟩
abbrev Qt(cs:List Value)(k:Nat):aY:=⟨cs,k*4,4,82,false,false,0,true⟩
def zK(n k i:Nat):Live:=[(1,iv n),(5,aU 0 n n),(6,aU 1 n n),(7,aU 3 k k),(8,iv i)]
abbrev Mo(d1 d2 o:aY):bO:=[(0, .ak d1),(1, .ak d2),(3, .ak o)]
def OA(z:T aa)(zn n:Nat)(d1 d2:aY)(φ:pW->Prop):fp:=⟨3,107,[],zK n 0 0,Mo d1 d2 FI,4,none,
 .cons pW φ (fun s=>⟨.exit 0,[(7,aU 3 s.k s.k)],[(3, .ak s.bl)],4,z,zn⟩) (fun _=>eh) .nil⟩
def u9(n k i j:Nat):Live:=[(1,iv n),(5,aU 0 n n),(6,aU 1 n n),(7,aU 4 k k),(8,iv i),(9,iv j)]
abbrev p9(d1 d2 o:aY):bO:=[(0, .ak d1),(1, .ak d2),(4, .ak o)]
def Oz(z:T aa)(zn n k i:Nat)(d1 d2 o:aY)(φ:pW->Prop):fp:=⟨4,107,[],u9 n k i 0,p9 d1 d2 o,5,none,
 .cons pW φ (fun s=>⟨.exit 2,[(1,iv n),(5,aU 0 n n),(6,aU 1 n n),(7,aU 4 s.k s.k),(8,iv i)],p9 d1 d2 s.bl,5,z,zn⟩) (fun _=>eh) .nil⟩
structure p8 where
 k:Nat
 bl:aY
 z:T aa
 zn:Nat
abbrev xr(x:ae):aa:=oA 82 x.row
def lK(i:Nat):Live:=[(1,ip 0),(4,iv i)]
def xE(i k:Nat):Live:=[(1,ip 0),(4,iv i),(5,ip 1),(6,iv k)]
def Kq(z:T aa)(zn:Nat)(N:aJ)(v:Value)(r1 r2:Int):fp:=⟨1,111,[],lK 0,[(0,N.bT v)],1,none,alt (r2≠0) ⟨.ret,[(2,zv r1),(3,zv r2)],[],1,z,zn⟩ (alt (r1=0/\r2=0) ⟨.exit 0,[(1,ip 0)],[(0,N.bT v)],1,z,zn⟩ .nil)⟩
def OC(z:T aa)(zn:Nat)(N:aJ)(i:Nat)(x:ae)(b:Bool):fp:=⟨2,111,[],xE i 0,[(0,N.bT N.p1),(1,xr x)],2,none,alt (b=true) ⟨.ret,[(2,iv i),(3,I 6)],[],2,z,zn⟩ (alt (b=false) ⟨.exit 2,lK i,[(0,N.bT N.p1)],2,z,zn⟩ .nil)⟩
def rG(k i:Nat):Live:=[(1,ip 0),(8,aU 1 k k),(9,iv i)]
def OB(N:aJ)(v:Value)(b:Bool)(s:p8):fp:=⟨2,111,[],rG s.k 0,[(0,N.bT v),(1, .ak s.bl)],2,none,alt (b=false) ⟨.ret,[(2,I 0),(3,I 18)],[],2,s.z,s.zn⟩ (alt (b=true) ⟨.exit 4,[],[],2,s.z,s.zn⟩ .nil)⟩
def AB(a b:Int):Int:=if a<b then -1 else if b<a then 1 else 0
def Jj(x y z:Int):Int:=if x≠0 then x else if y≠0 then y else z
def qw(a b c d e f:Int):Int:=Jj (AB a d) (AB b e) (AB c f)
abbrev im:Value:= .func (.func 126) #[] #[]
def gS:Nat->List Value->Option Value
 |126,[.agg ⟨[.int .i64 a, .int .i64 b, .int .i64 c, .bool _]⟩, .agg ⟨[.int .i64 d, .int .i64 e, .int .i64 f, .bool _]⟩]=>some (zv (qw a b c d e f))
 |_,_=>none
abbrev JH:aa:=oA 3 [zv 0]
abbrev c3(x y w:Int)(i:Nat):Value:=match i with|0=>zv x|1=>zv y|_=>zv w
def El(i:Nat):Live:=[(3,I 0),(6,tb 0 3 3),(7,I 3),(8,iv i)]
def Wi(z:T aa)(zn:Nat)(r:Int):fp:=⟨0,18,[],El 0,[],0,none,alt (r≠0) ⟨.ret,[(2,zv r)],[],0,z,zn⟩ (alt (r=0) ⟨.exit 0,[(3,I 0)],[],0,z,zn⟩ .nil)⟩
def po(v:Value)(n i:Nat):Live:=[(0,v),(1,I 0),(2,iv n),(3,im),(8,iv i)]
def Ep(v:Value)(n i j:Nat):Live:=[(0,v),(1,I 0),(2,iv n),(3,im),(8,iv i),(9,iv j)]
def Sr(z:T aa)(zn:Nat)(v:Value)(n:Nat):fp:=⟨0,53,[],po v n 1,[],0,none,alt True ⟨.exit 0,[],[],0,z,zn⟩ .nil⟩
def Wn(z:T aa)(zn:Nat)(v:Value)(n i:Nat):fp:=⟨0,53,[],Ep v n i i,[],0,none,alt True ⟨.exit 2,po v n i,[],0,z,zn⟩ .nil⟩
def jm(kk n i j:Nat):Live:=[(0,tb kk n n),(1,I 0),(2,iv n),(3,im),(9,iv i),(10,iv j)]
def Sj(z:T aa)(zn kk n:Nat):fp:=⟨0,141,[],jm kk n 1 0,[],0,none,alt True ⟨.ret,[(8,T1)],[],0,z,zn⟩ .nil⟩
def Si(z:T aa)(zn kk n:Nat):fp:=⟨0,141,[],jm kk n 1 0,[],0,none,alt True ⟨.exit 2,jm kk n n 0,[],0,z,zn⟩ .nil⟩
def tP(v:Value)(n l:Nat):Live:=[(0,v),(1,I 0),(2,iv n),(3,iv l),(4,im),(10,T1),(11,T1)]
def Sm(z:T aa)(zn:Nat)(v:Value)(n l:Nat):fp:=⟨0,148,[],tP v n l,[],0,none,alt True ⟨.ret,[],[],0,z,zn⟩ .nil⟩
abbrev aJ.l0(N:aJ):Value:= .slice N.la N.nl N.lc
def Eh:Live:=[(1,ip 0),(2,ip 1),(3,mp 2),(16,az),(17,iv 0),(18,iv 0)]
def We(z:T aa)(zn:Nat)(N:aJ):fp:=⟨3,96,[],Eh,[(0,N.cf az N.l0),(1,cW 0 0 0),(2,bd [])],3,none,alt True ⟨.exit 0,[(2,ip 1)],[(1,cW 0 0 0)],3,z,zn⟩ .nil⟩
end Go.Proofs.Nw
namespace Go.Proofs.Nw
open Go Go.AV Tryz
set_option maxRecDepth 1000000
noncomputable section
abbrev YU(i:Nat):Prop:=Rf (↑i:Int)
abbrev YV:Prop:=Rf 1022
abbrev YW(kb:aY):aa:=aa.ak kb
abbrev YX(z:T aa)(kb:aY):Prop:=z.get 2=some (YW kb)
abbrev YY(x:bH):Value:=Value.string x.id
abbrev YZ:Value:=I 12
abbrev Ya(i:Nat):List (Nat × Value):=[(2,IV i),(3,YZ)]
abbrev Yb(ks:List Value):List MapEntry:=jR 0 ks
abbrev Yc(p:Nat × Value):Nat->Prop:=fun(x:Nat)=>p=(x,T1)
abbrev Yd(i_1:Nat):Option (Option (Nat × Value)):=some (some (i_1,T1))
abbrev Ye:Value:=I 6
abbrev Yf(i:Nat):List (Nat × Value):=[(2,IV i),(3,Ye)]
abbrev Yg:Value:=I 2
abbrev Yh(i:Nat):List (Nat × Value):=[(2,IV i),(3,Yg)]
noncomputable abbrev Yi:Code:=ah (ag f22) 0
noncomputable abbrev Yj(i:Nat):An:=An.idx i
noncomputable abbrev Yk(i:Nat)(z:T aa)(zn:Nat):Tr:=tE [] [] (Yh i) [] 1 z zn
noncomputable abbrev Yl:An:=An.W9 none
noncomputable abbrev Ym(i:Nat):An:=An.val (IV (i+1))
noncomputable abbrev Yn(z:T aa)(zn:Nat):Tr:=tA 1 (tE [] [] [] [] 1 z zn)
theorem XV(z:T aa)(zn i n cp:Nat)(kb:aY)(x:bH)(ks:List Value)(Q:QL)(hyp:Br (decide ((↑i:Int)<(↑n:Int))) (YU i/\i<n/\YV/\YX z kb/\aC prog kb 78 (0+i*4)=some (AG [YY x,ZV x.aO,Value.bool x.sf,ZV x.change])/\Rf z/\gP 53 [YY x]=some (Value.bool (bM x.id))/\Br (!bM x.id) (E6 54 z zn (R2 (IV i) YZ (Q af.ret (Ya i) [] 1 z zn))) (aA prog 9 (YY x) (Yb ks) 0≠none/\(∀(p:Nat × Value),aA prog 9 (YY x) (Yb ks) 0=YH p->Exists (Yc p))/\(∀(i_1:Nat),aA prog 9 (YY x) (Yb ks) 0=Yd i_1->E6 54 z zn (R2 (IV i) Ye (Q af.ret (Yf i) [] 1 z zn)))/\(aA prog 9 (YY x) (Yb ks) 0=YL->Br (decide (x.aO<0)) (E6 54 z zn (R2 (IV i) Yg (Q af.ret (Yh i) [] 1 z zn))) (Br (decide (x.aO>=16)) (E6 54 z zn (R2 (IV i) Yg (Q af.ret (Yh i) [] 1 z zn))) (Br (decide (x.change<0)) (E6 54 z zn (R2 (IV i) Yg (Q af.ret (Yh i) [] 1 z zn))) (Br (decide (x.change>3600)) (E6 54 z zn (R2 (IV i) Yg (Q af.ret (Yh i) [] 1 z zn))) (aA prog 9 (YY x) (Yb ks) 0=YL/\ZV (IntKind.i64.wrap ((↑i:Int)+1))=IV (i+1)/\E6 54 z zn (R4 YK (SL 1022 n cp) (IV n) (IV (i+1)) (KO YD (aa.map (Yb ks++[MapEntry.mk (YY x) T1 ks.length]) (ks.length+1))/\Q aN [(4,YK),(11,SL 1022 n cp),(12,IV n),(13,IV (i+1))] [(0,aa.map (Yb ks++[MapEntry.mk (YY x) T1 ks.length]) (ks.length+1))] 1 z zn))))))))) (E6 54 z zn (Q YO [] [] 1 z zn))):dP prog gP z Yi 54 [(4,mp 0),(11,tb 2 n cp),(12,iv n),(13,iv i)] z [(0,bd ks)] 1 zn 1 Q:=K1t hyp ((tA 1 (tO (Yj i) (tO (An.ld 2 kb (AG x.row)) (tA 2 (tO (An.cl (Value.bool (bM x.id))) ((tE [] [] (Ya i) [] 1 z zn).fork (tA 1 (Tr.find Nat (fun(x:Nat)=>(x,T1)) (fun(i_1:Nat)=>tA 1 (tE [] [] (Yf i) [] 1 z zn)) (tA 2 ((tA 13 (Yk i z zn)).fork (tA 4 ((tA 10 (Yk i z zn)).fork (tA 5 ((tA 6 (Yk i z zn)).fork (tA 5 ((tA 2 (Yk i z zn)).fork (tA 3 (tO Yl (tO (Ym i) (tE YC [] [(4,YK),(11,SL 1022 n cp),(12,IV n),(13,IV (i+1))] [(0,aa.map (Yb ks++[MapEntry.mk (YY x) T1 ks.length]) (ks.length+1))] 1 z zn)))))))))))))))))))).fork (Yn z zn))
abbrev Yo:Value:=TP [YM,I 5]
abbrev Yp:Prop:=Rs Yo
abbrev Yq:List (Nat × aa):=[(0,bd [])]
abbrev Yr:aa:=aa.map [] 0
abbrev Ys:Prop:=Rs Yr
abbrev Yt(r1 r2:Int):Value:=TP [ZV r1,ZV r2]
abbrev Yu(r1 r2:Int):Prop:=Rs (Yt r1 r2)
abbrev Yv:Value:=TP [YM,YM]
abbrev Yw:Prop:=Rs Yv
noncomputable abbrev Yx(z:T aa)(zn:Nat):Tr:=tA 1 (tR [] [] Yo [] 0 z zn)
abbrev Yy:Unit->Prop:=fun(x:Unit)=>True
noncomputable abbrev Yz(r1 r2:Int)(z:T aa)(zn:Nat):Unit->Tr:=fun(x:Unit)=>tR [] [] (Yt r1 r2) [] 0 z zn
abbrev Y0(r1 r2:Int):Unit->Prop:=fun(x:Unit)=>r1=0/\r2=0
noncomputable abbrev Y1(z:T aa)(zn:Nat):Unit->Tr:=fun(x:Unit)=>tR [] [] Yv [] 0 z zn
noncomputable abbrev Y2(r1 r2:Int)(z:T aa)(zn:Nat):Al:=Al.cons Unit Yy (fun(x:Unit)=>aw.mk af.ret [(2,zv r1),(3,zv r2)] [] 1 z zn) (Yz r1 r2 z zn) (Al.cons Unit (Y0 r1 r2) (fun(x:Unit)=>aw.mk YO [] [] 1 z zn) (Y1 z zn) Al.nil)
theorem WW(z:T aa)(zn n cp:Nat)(r1 r2:Int)(Q:QF)(hyp:Br (decide ((↑n:Int)>64)) (E6 54 z zn (Yp/\Q Yo [] 0 z zn)) (YP/\ai prog Yi 1 54 (GP n cp 0) Yq 1 z zn (iE z zn 1 2 3 0 r1 r2).R/\E6 54 z zn (R4 YK (SL 1022 n cp) (IV n) YM (Ys/\(∀(x:Unit),True->E6 54 z zn (Yu r1 r2/\Q (Yt r1 r2) [] 0 z zn))/\ ∀(x:Unit),r1=0/\r2=0->E6 54 z zn (Yw/\Q Yv [] 0 z zn))))):dM prog gP z f22 [tb 2 n cp] z [] 0 zn Q:=K1t hyp ((Yx z zn).fork (tA 1 (Tr.lp 1 54 YC [] (GP n cp 0) Yq 1 z zn (Y2 r1 r2 z zn))))
noncomputable abbrev Y3(z:T aa)(zn:Nat):aw->Prop:=(alt True (aw.mk YO [] [] 1 z zn) Al.nil).R
abbrev Y4:Value:=Value.slice none 0 0
noncomputable abbrev Y5(z:T aa)(zn:Nat):Al:=Al.cons Unit Yy (fun(x:Unit)=>aw.mk YO [] [] 1 z zn) (Y1 z zn) Al.nil
theorem WV(z:T aa)(zn:Nat)(Q:QF)(hyp:YP/\ai prog Yi 1 54 vR Yq 1 z zn (Y3 z zn)/\E6 54 z zn (R4 YK Y4 YM YM (Ys/\ ∀(x:Unit),True->E6 54 z zn (Yw/\Q Yv [] 0 z zn)))):dM prog gP z f22 [az] z [] 0 zn Q:=K1t hyp (tA 2 (Tr.lp 1 54 YC [] vR Yq 1 z zn (Y5 z zn)))
theorem Vr(z:T aa)(zn:Nat)(Q:QL)(hyp:E6 54 z zn (Q YO [] [] 1 z zn)):dP prog gP z Yi 54 vR z Yq 1 zn 1 Q:=K1t hyp (tA 2 (tE [] [] [] [] 1 z zn))
end
noncomputable section
abbrev Y6(kb:aY)(k:Nat)(y:bH):Prop:=aC prog kb 9 (0+k*4+0)=some (YY y)
abbrev Y7:af:=af.exit 2
noncomputable abbrev Y8:Code:=ah (ag f32) 0
theorem RA(z:T aa)(zn i k n cp:Nat)(kb:aY)(x y:bH)(Q:QL)(hyp:Br (decide ((↑k:Int)<(↑i:Int))) (YU k/\k<n/\YV/\YX z kb/\Y6 kb k y/\YU i/\i<n/\YV/\YX z kb/\Y6 kb i x/\Br (y.id.toList==x.id.toList) (E6 57 z zn (R2 (IV i) Ye (Q af.ret (Yf i) [] 0 z zn))) (ZV (IntKind.i64.wrap ((↑k:Int)+1))=IV (k+1)/\E6 57 z zn (R3 (SL 1022 n cp) (IV i) (IV (k+1)) (Q aN [(0,SL 1022 n cp),(4,IV i),(5,IV (k+1))] [] 0 z zn)))) (E6 57 z zn (R2 (SL 1022 n cp) (IV i) (Q Y7 [(0,SL 1022 n cp),(4,IV i)] [] 0 z zn)))):dP prog gP z (ah Y8 0) 57 (vV n cp i k) z [] 0 zn 0 Q:=K1t hyp ((tA 1 (tO (Yj k) (tO (An.ld 2 kb (YY y)) (tO (Yj i) (tO (An.ld 2 kb (YY x)) ((tA 1 (tE [] [] (Yf i) [] 0 z zn)).fork (tA 1 (tO (Ym k) (tE [] [] [(0,SL 1022 n cp),(4,IV i),(5,IV (k+1))] [] 0 z zn))))))))).fork (tA 1 (tE [] [] [(0,SL 1022 n cp),(4,IV i)] [] 0 z zn)))
abbrev Y9:Prop:=Rf 0
noncomputable abbrev Vc(i:Nat)(z:T aa)(zn:Nat):aw:=aw.mk af.ret [(2,iv i),(3,Ye)] [] 0 z zn
abbrev YBB(x:bH):Value:=Value.bool (decide (0<=x.aO) && decide (x.aO<=15))
abbrev YBC(x:bH):Value:=Value.bool (decide (0<=x.change) && decide (x.change<=3600))
noncomputable abbrev cB:An:=An.bool true
noncomputable abbrev bJ:An:=An.bool false
noncomputable abbrev Qk(z:T aa)(zn:Nat):Tr:=tA 1 (tE [] [] [] [] 0 z zn)
theorem X4(z:T aa)(zn i n cp:Nat)(kb:aY)(x:bH)(b:Bool)(Q:QL)(hyp:Br (decide ((↑i:Int)<(↑n:Int))) (YU i/\i<n/\YV/\YX z kb/\Y6 kb i x/\Rf z/\gP 62 [YY x]=some (Value.bool (bM x.id))/\Br (!bM x.id) (E6 57 z zn (R2 (IV i) YZ (Q af.ret (Ya i) [] 0 z zn))) (Y9/\ai prog (ah Y8 0) 0 57 (vV n cp i 0) [] 0 z zn (alt (b=true) (Vc i z zn) (alt (b=false) (aw.mk Y7 (xC n cp i) [] 0 z zn) Al.nil)).R/\E6 57 z zn (R3 (SL 1022 n cp) (IV i) YM ((∀(x:Unit),b=true->E6 57 z zn (R2 (IV i) Ye (Q af.ret (Yf i) [] 0 z zn)))/\ ∀(x_1:Unit),b=false->YU i/\i<n/\YV/\YX z kb/\aC prog kb 3 (0+i*4+1)=some (ZV x.aO)/\Rf z/\gP 63 [ZV x.aO,YM,I 15]=some (YBB x)/\Br (!(decide (0<=x.aO) && decide (x.aO<=15))) ((!(decide (0<=x.aO) && decide (x.aO<=15)))=true/\(!(decide (0<=x.aO) && decide (x.aO<=15)))=true/\(!(decide (0<=x.aO) && decide (x.aO<=15)))=true/\(!(decide (0<=x.aO) && decide (x.aO<=15)))=true/\(!(decide (0<=x.aO) && decide (x.aO<=15)))=true/\(!(decide (0<=x.aO) && decide (x.aO<=15)))=true/\(!(decide (0<=x.aO) && decide (x.aO<=15)))=true/\E6 57 z zn (R2 (IV i) Yg (Q af.ret (Yh i) [] 0 z zn))) ((!(decide (0<=x.aO) && decide (x.aO<=15)))=false/\(!(decide (0<=x.aO) && decide (x.aO<=15)))=false/\YU i/\i<n/\(!(decide (0<=x.aO) && decide (x.aO<=15)))=false/\(!(decide (0<=x.aO) && decide (x.aO<=15)))=false/\YV/\YX z kb/\aC prog kb 3 (0+i*4+3)=some (ZV x.change)/\(!(decide (0<=x.aO) && decide (x.aO<=15)))=false/\Rf z/\gP 63 [ZV x.change,YM,I 3600]=some (YBC x)/\(!(decide (0<=x.aO) && decide (x.aO<=15)))=false/\(!(decide (0<=x.aO) && decide (x.aO<=15)))=false/\Br (!(decide (0<=x.change) && decide (x.change<=3600))) (E6 57 z zn (R2 (IV i) Yg (Q af.ret (Yh i) [] 0 z zn))) (ZV (IntKind.i64.wrap ((↑i:Int)+1))=IV (i+1)/\E6 57 z zn (R2 (SL 1022 n cp) (IV (i+1)) (Q aN [(0,SL 1022 n cp),(4,IV (i+1))] [] 0 z zn)))))))) (E6 57 z zn (Q YO [] [] 0 z zn))):dP prog gP z Y8 57 (xC n cp i) z [] 0 zn 0 Q:=K1t hyp ((tA 1 (tO (Yj i) (tO (An.ld 2 kb (YY x)) (tO (An.cl (Value.bool (bM x.id))) ((tE [] [] (Ya i) [] 0 z zn).fork (Tr.lp 0 57 [] [] (vV n cp i 0) [] 0 z zn (Al.cons Unit (YR b) (fun(x:Unit)=>Vc i z zn) (fun(x:Unit)=>tE [] [] (Yf i) [] 0 z zn) (Al.cons Unit (YS b) (fun(x:Unit)=>aw.mk Y7 (xC n cp i) [] 0 z zn) (fun(x_1:Unit)=>tO (Yj i) (tO (An.ld 2 kb (zv x.aO)) (tO (An.cl (YBB x)) ((tO cB (tO cB (tO cB (tO cB (tO cB (tO cB (tO cB (tA 1 (tE [] [] (Yh i) [] 0 z zn))))))))).fork (tO bJ (tO bJ (tO (Yj i) (tO bJ (tO bJ (tO (An.ld 2 kb (zv x.change)) (tO bJ (tO (An.cl (YBC x)) (tO bJ (tO bJ ((tE [] [] (Yh i) [] 0 z zn).fork (tO (Ym i) (tE [] [] [(0,SL 1022 n cp),(4,IV (i+1))] [] 0 z zn))))))))))))))))) Al.nil)))))))).fork (Qk z zn))
noncomputable abbrev Qj(z:T aa)(zn:Nat):Unit->aw:=fun(x:Unit)=>aw.mk YO [] [] 0 z zn
noncomputable abbrev YBH(r1 r2:Int)(z:T aa)(zn:Nat):Al:=Al.cons Unit Yy (fun(x:Unit)=>aw.mk af.ret [(2,zv r1),(3,zv r2)] [] 0 z zn) (Yz r1 r2 z zn) (Al.cons Unit (Y0 r1 r2) (Qj z zn) (Y1 z zn) Al.nil)
theorem Qs(z:T aa)(zn n cp:Nat)(r1 r2:Int)(Q:QF)(hyp:Br (decide ((↑n:Int)>64)) (E6 57 z zn (Yp/\Q Yo [] 0 z zn)) (Y9/\ai prog Y8 0 57 (xC n cp 0) [] 0 z zn (iE z zn 0 2 3 0 r1 r2).R/\E6 57 z zn (R2 (SL 1022 n cp) YM ((∀(x:Unit),True->E6 57 z zn (Yu r1 r2/\Q (Yt r1 r2) [] 0 z zn))/\ ∀(x:Unit),r1=0/\r2=0->E6 57 z zn (Yw/\Q Yv [] 0 z zn))))):dM prog gP z f32 [tb 2 n cp] z [] 0 zn Q:=K1t hyp ((Yx z zn).fork (tA 1 (Tr.lp 0 57 [] [] (xC n cp 0) [] 0 z zn (YBH r1 r2 z zn))))
end
noncomputable section
abbrev Cw(x:aV):Value:=Value.string x.id
abbrev YBJ(x:aV):Value:=Value.bool (decide (0<=x.mode) && decide (x.mode<8))
noncomputable abbrev Vb:Code:=ah (ag f23) 0
theorem X3(z:T aa)(zn i n cp:Nat)(kb:aY)(x:aV)(ks:List Value)(Q:QL)(hyp:Br (decide ((↑i:Int)<(↑n:Int))) (YU i/\i<n/\Rf 1278/\z.get 3=some (YW kb)/\aC prog kb 80 (0+i*3)=some (AG [Cw x,ZV x.mode,Value.bool x.Z0])/\Rf z/\gP 53 [Cw x]=some (Value.bool (bM x.id))/\Br (!bM x.id) (E6 37 z zn (R2 (IV i) YZ (Q af.ret (Ya i) [] 1 z zn))) (aA prog 9 (Cw x) (Yb ks) 0≠none/\(∀(p:Nat × Value),aA prog 9 (Cw x) (Yb ks) 0=YH p->Exists (Yc p))/\(∀(i_1:Nat),aA prog 9 (Cw x) (Yb ks) 0=Yd i_1->E6 37 z zn (R2 (IV i) Ye (Q af.ret (Yf i) [] 1 z zn)))/\(aA prog 9 (Cw x) (Yb ks) 0=YL->Rf z/\gP 54 [ZV x.mode]=some (YBJ x)/\Br (!(decide (0<=x.mode) && decide (x.mode<8))) (E6 37 z zn (R2 (IV i) Yg (Q af.ret (Yh i) [] 1 z zn))) (aA prog 9 (Cw x) (Yb ks) 0=YL/\ZV (IntKind.i64.wrap ((↑i:Int)+1))=IV (i+1)/\E6 37 z zn (R4 YK (SL 1278 n cp) (IV n) (IV (i+1)) (KO YD (aa.map (Yb ks++[MapEntry.mk (Cw x) T1 ks.length]) (ks.length+1))/\Q aN [(4,YK),(11,SL 1278 n cp),(12,IV n),(13,IV (i+1))] [(0,aa.map (Yb ks++[MapEntry.mk (Cw x) T1 ks.length]) (ks.length+1))] 1 z zn)))))) (E6 37 z zn (Q YO [] [] 1 z zn))):dP prog gP z Vb 37 [(4,mp 0),(11,tb 3 n cp),(12,iv n),(13,iv i)] z [(0,bd ks)] 1 zn 1 Q:=K1t hyp ((tA 1 (tO (Yj i) (tO (An.ld 3 kb (AG x.row)) (tA 2 (tO (An.cl (Value.bool (bM x.id))) ((tE [] [] (Ya i) [] 1 z zn).fork (tA 1 (Tr.find Nat (fun(x:Nat)=>(x,T1)) (fun(i_1:Nat)=>tA 1 (tE [] [] (Yf i) [] 1 z zn)) (tA 2 (tO (An.cl (YBJ x)) ((Yk i z zn).fork (tA 1 (tO Yl (tO (Ym i) (tE YC [] [(4,YK),(11,SL 1278 n cp),(12,IV n),(13,IV (i+1))] [(0,aa.map (Yb ks++[MapEntry.mk (Cw x) T1 ks.length]) (ks.length+1))] 1 z zn))))))))))))))).fork (Yn z zn))
theorem W0(z:T aa)(zn n cp:Nat)(r1 r2:Int)(Q:QF)(hyp:Br (decide ((↑n:Int)>64)) (E6 37 z zn (Yp/\Q Yo [] 0 z zn)) (YP/\ai prog Vb 1 37 (GQ n cp 0) Yq 1 z zn (iE z zn 1 2 3 0 r1 r2).R/\E6 37 z zn (R4 YK (SL 1278 n cp) (IV n) YM (Ys/\(∀(x:Unit),True->E6 37 z zn (Yu r1 r2/\Q (Yt r1 r2) [] 0 z zn))/\ ∀(x:Unit),r1=0/\r2=0->E6 37 z zn (Yw/\Q Yv [] 0 z zn))))):dM prog gP z f23 [tb 3 n cp] z [] 0 zn Q:=K1t hyp ((Yx z zn).fork (tA 1 (Tr.lp 1 37 YC [] (GQ n cp 0) Yq 1 z zn (Y2 r1 r2 z zn))))
theorem WZ(z:T aa)(zn:Nat)(Q:QF)(hyp:YP/\ai prog Vb 1 37 vU Yq 1 z zn (Y3 z zn)/\E6 37 z zn (R4 YK Y4 YM YM (Ys/\ ∀(x:Unit),True->E6 37 z zn (Yw/\Q Yv [] 0 z zn)))):dM prog gP z f23 [az] z [] 0 zn Q:=K1t hyp (tA 2 (Tr.lp 1 37 YC [] vU Yq 1 z zn (Y5 z zn)))
theorem Vv(z:T aa)(zn:Nat)(Q:QL)(hyp:E6 37 z zn (Q YO [] [] 1 z zn)):dP prog gP z Vb 37 vU z Yq 1 zn 1 Q:=K1t hyp (tA 2 (tE [] [] [] [] 1 z zn))
end
noncomputable section
abbrev XQ(kb:aY)(k:Nat)(y:aV):Prop:=aC prog kb 9 (0+k*3+0)=some (Cw y)
noncomputable abbrev Rj:Code:=ah (ag f33) 0
theorem RB(z:T aa)(zn i k n cp:Nat)(kb:aY)(x y:aV)(Q:QL)(hyp:Br (decide ((↑k:Int)<(↑i:Int))) (YU k/\k<n/\Rf 1278/\z.get 3=some (YW kb)/\XQ kb k y/\YU i/\i<n/\Rf 1278/\z.get 3=some (YW kb)/\XQ kb i x/\Br (y.id.toList==x.id.toList) (E6 48 z zn (R2 (IV i) Ye (Q af.ret (Yf i) [] 0 z zn))) (ZV (IntKind.i64.wrap ((↑k:Int)+1))=IV (k+1)/\E6 48 z zn (R3 (SL 1278 n cp) (IV i) (IV (k+1)) (Q aN [(0,SL 1278 n cp),(4,IV i),(5,IV (k+1))] [] 0 z zn)))) (E6 48 z zn (R2 (SL 1278 n cp) (IV i) (Q Y7 [(0,SL 1278 n cp),(4,IV i)] [] 0 z zn)))):dP prog gP z (ah Rj 0) 48 (vW n cp i k) z [] 0 zn 0 Q:=K1t hyp ((tA 1 (tO (Yj k) (tO (An.ld 3 kb (Cw y)) (tO (Yj i) (tO (An.ld 3 kb (Cw x)) ((tA 1 (tE [] [] (Yf i) [] 0 z zn)).fork (tA 1 (tO (Ym k) (tE [] [] [(0,SL 1278 n cp),(4,IV i),(5,IV (k+1))] [] 0 z zn))))))))).fork (tA 1 (tE [] [] [(0,SL 1278 n cp),(4,IV i)] [] 0 z zn)))
abbrev YBN(x:aV):Value:=Value.bool (decide (0<=x.mode) && decide (x.mode<=7))
theorem X5(z:T aa)(zn i n cp:Nat)(kb:aY)(x:aV)(b:Bool)(Q:QL)(hyp:Br (decide ((↑i:Int)<(↑n:Int))) (YU i/\i<n/\Rf 1278/\z.get 3=some (YW kb)/\XQ kb i x/\Rf z/\gP 62 [Cw x]=some (Value.bool (bM x.id))/\Br (!bM x.id) (E6 48 z zn (R2 (IV i) YZ (Q af.ret (Ya i) [] 0 z zn))) (Y9/\ai prog (ah Rj 0) 0 48 (vW n cp i 0) [] 0 z zn (alt (b=true) (Vc i z zn) (alt (b=false) (aw.mk Y7 (xD n cp i) [] 0 z zn) Al.nil)).R/\E6 48 z zn (R3 (SL 1278 n cp) (IV i) YM ((∀(x:Unit),b=true->E6 48 z zn (R2 (IV i) Ye (Q af.ret (Yf i) [] 0 z zn)))/\ ∀(x_1:Unit),b=false->YU i/\i<n/\Rf 1278/\z.get 3=some (YW kb)/\aC prog kb 3 (0+i*3+1)=some (ZV x.mode)/\Rf z/\gP 63 [ZV x.mode,YM,I 7]=some (YBN x)/\Br (!(decide (0<=x.mode) && decide (x.mode<=7))) (E6 48 z zn (R2 (IV i) Yg (Q af.ret (Yh i) [] 0 z zn))) (ZV (IntKind.i64.wrap ((↑i:Int)+1))=IV (i+1)/\E6 48 z zn (R2 (SL 1278 n cp) (IV (i+1)) (Q aN [(0,SL 1278 n cp),(4,IV (i+1))] [] 0 z zn))))))) (E6 48 z zn (Q YO [] [] 0 z zn))):dP prog gP z Rj 48 (xD n cp i) z [] 0 zn 0 Q:=K1t hyp ((tA 1 (tO (Yj i) (tO (An.ld 3 kb (Cw x)) (tO (An.cl (Value.bool (bM x.id))) ((tE [] [] (Ya i) [] 0 z zn).fork (Tr.lp 0 48 [] [] (vW n cp i 0) [] 0 z zn (Al.cons Unit (YR b) (fun(x:Unit)=>Vc i z zn) (fun(x:Unit)=>tE [] [] (Yf i) [] 0 z zn) (Al.cons Unit (YS b) (fun(x:Unit)=>aw.mk Y7 (xD n cp i) [] 0 z zn) (fun(x_1:Unit)=>tO (Yj i) (tO (An.ld 3 kb (zv x.mode)) (tO (An.cl (YBN x)) ((tE [] [] (Yh i) [] 0 z zn).fork (tO (Ym i) (tE [] [] [(0,SL 1278 n cp),(4,IV (i+1))] [] 0 z zn)))))) Al.nil)))))))).fork (Qk z zn))
theorem frr(z:T aa)(zn n cp:Nat)(r1 r2:Int)(Q:QF)(hyp:Br (decide ((↑n:Int)>64)) (E6 48 z zn (Yp/\Q Yo [] 0 z zn)) (Y9/\ai prog Rj 0 48 (xD n cp 0) [] 0 z zn (iE z zn 0 2 3 0 r1 r2).R/\E6 48 z zn (R2 (SL 1278 n cp) YM ((∀(x:Unit),True->E6 48 z zn (Yu r1 r2/\Q (Yt r1 r2) [] 0 z zn))/\ ∀(x:Unit),r1=0/\r2=0->E6 48 z zn (Yw/\Q Yv [] 0 z zn))))):dM prog gP z f33 [tb 3 n cp] z [] 0 zn Q:=K1t hyp ((Yx z zn).fork (tA 1 (Tr.lp 0 48 [] [] (xD n cp 0) [] 0 z zn (YBH r1 r2 z zn))))
end
noncomputable section
abbrev Ft(x:bE):Value:=Value.string x.id
abbrev Ri(x:bE):List Value:=[Ft x,ZV x.cd,ZV x.bZ,ZV x.bY,ZV x.aH,ZV x.lH]
abbrev Va(x:bE):Value:=Value.bool (decide (0<=x.cd) && decide (x.cd<=1000000))
abbrev U9(x:bE):Value:=Value.bool (decide (1<=x.bZ) && decide (x.bZ<=8))
abbrev U8(x:bE):Value:=Value.bool (decide (1<=x.bY) && decide (x.bY<=16))
abbrev U7(x:bE):Value:=Value.bool (decide (0<=x.aH) && decide (x.aH<=86400))
abbrev U6(x:bE):Value:=Value.bool (decide (1<=x.lH) && decide (x.lH<=255))
abbrev iH:Nat × Nat:=(1,1)
abbrev gy:List (Nat × Nat):=[iH]
noncomputable abbrev U5:Code:=ah (ag f28) 0
theorem X9(z:T aa)(zn i n cp:Nat)(kb:aY)(x:bE)(ks:List Value)(Q:QL)(hyp:Br (decide ((↑i:Int)<(↑n:Int))) (YU i/\i<n/\Rf 1790/\z.get 5=some (YW kb)/\aC prog kb 84 (0+i*6)=some (AG (Ri x))/\Rf z/\gP 53 [Ft x]=some (Value.bool (bM x.id))/\Br (!bM x.id) (E6 79 z zn (R2 (IV i) YZ (Q af.ret (Ya i) [] 2 z zn))) (aA prog 9 (Ft x) (Yb ks) 0≠none/\(∀(p:Nat × Value),aA prog 9 (Ft x) (Yb ks) 0=YH p->Exists (Yc p))/\(∀(i_1:Nat),aA prog 9 (Ft x) (Yb ks) 0=Yd i_1->E6 79 z zn (R2 (IV i) Ye (Q af.ret (Yf i) [] 2 z zn)))/\(aA prog 9 (Ft x) (Yb ks) 0=YL->Rf z/\gP 58 [ZV x.cd,YM,I 1000000]=some (Va x)/\Br (!(decide (0<=x.cd) && decide (x.cd<=1000000))) ((!(decide (0<=x.cd) && decide (x.cd<=1000000)))=true/\(!(decide (0<=x.cd) && decide (x.cd<=1000000)))=true/\(!(decide (0<=x.cd) && decide (x.cd<=1000000)))=true/\(!(decide (0<=x.cd) && decide (x.cd<=1000000)))=true/\E6 79 z zn (R2 (IV i) Yg (Q af.ret (Yh i) [] 2 z zn))) ((!(decide (0<=x.cd) && decide (x.cd<=1000000)))=false/\(!(decide (0<=x.cd) && decide (x.cd<=1000000)))=false/\Rf z/\gP 58 [ZV x.bZ,I 1,I 8]=some (U9 x)/\(!(decide (0<=x.cd) && decide (x.cd<=1000000)))=false/\(!(decide (0<=x.cd) && decide (x.cd<=1000000)))=false/\Br (!(decide (1<=x.bZ) && decide (x.bZ<=8))) ((!(decide (1<=x.bZ) && decide (x.bZ<=8)))=true/\(!(decide (1<=x.bZ) && decide (x.bZ<=8)))=true/\(!(decide (1<=x.bZ) && decide (x.bZ<=8)))=true/\(!(decide (1<=x.bZ) && decide (x.bZ<=8)))=true/\E6 79 z zn (R2 (IV i) Yg (Q af.ret (Yh i) [] 2 z zn))) ((!(decide (1<=x.bZ) && decide (x.bZ<=8)))=false/\(!(decide (1<=x.bZ) && decide (x.bZ<=8)))=false/\Rf z/\gP 58 [ZV x.bY,I 1,I 16]=some (U8 x)/\(!(decide (1<=x.bZ) && decide (x.bZ<=8)))=false/\(!(decide (1<=x.bZ) && decide (x.bZ<=8)))=false/\Br (!(decide (1<=x.bY) && decide (x.bY<=16))) ((!(decide (1<=x.bY) && decide (x.bY<=16)))=true/\(!(decide (1<=x.bY) && decide (x.bY<=16)))=true/\(!(decide (1<=x.bY) && decide (x.bY<=16)))=true/\(!(decide (1<=x.bY) && decide (x.bY<=16)))=true/\E6 79 z zn (R2 (IV i) Yg (Q af.ret (Yh i) [] 2 z zn))) ((!(decide (1<=x.bY) && decide (x.bY<=16)))=false/\(!(decide (1<=x.bY) && decide (x.bY<=16)))=false/\Rf z/\gP 58 [ZV x.aH,YM,I 86400]=some (U7 x)/\(!(decide (1<=x.bY) && decide (x.bY<=16)))=false/\(!(decide (1<=x.bY) && decide (x.bY<=16)))=false/\Br (!(decide (0<=x.aH) && decide (x.aH<=86400))) ((!(decide (0<=x.aH) && decide (x.aH<=86400)))=true/\(!(decide (0<=x.aH) && decide (x.aH<=86400)))=true/\(!(decide (0<=x.aH) && decide (x.aH<=86400)))=true/\(!(decide (0<=x.aH) && decide (x.aH<=86400)))=true/\E6 79 z zn (R2 (IV i) Yg (Q af.ret (Yh i) [] 2 z zn))) ((!(decide (0<=x.aH) && decide (x.aH<=86400)))=false/\(!(decide (0<=x.aH) && decide (x.aH<=86400)))=false/\Rf z/\gP 58 [ZV x.lH,I 1,I 255]=some (U6 x)/\(!(decide (0<=x.aH) && decide (x.aH<=86400)))=false/\(!(decide (0<=x.aH) && decide
 (x.aH<=86400)))=false/\Br (!(decide (1<=x.lH) && decide (x.lH<=255))) (E6 79 z zn (R2 (IV i) Yg (Q af.ret (Yh i) [] 2 z zn))) (aA prog 9 (Ft x) (Yb ks) 0=YL/\ZV (IntKind.i64.wrap ((↑i:Int)+1))=IV (i+1)/\E6 79 z zn (R4 (MP 1) (SL 1790 n cp) (IV n) (IV (i+1)) (KO (ay gy []) (aa.map (Yb ks++[MapEntry.mk (Ft x) T1 ks.length]) (ks.length+1))/\Q aN [(4,MP 1),(29,SL 1790 n cp),(30,IV n),(31,IV (i+1))] [(1,aa.map (Yb ks++[MapEntry.mk (Ft x) T1 ks.length]) (ks.length+1))] 2 z zn)))))))))) (E6 79 z zn (Q YO [] [] 2 z zn))):dP prog gP z U5 79 (Ek n cp i) z [(1,bd ks)] 2 zn 2 Q:=K1t hyp ((tA 1 (tO (Yj i) (tO (An.ld 5 kb (AG x.row)) (tA 2 (tO (An.cl (Value.bool (bM x.id))) ((tE [] [] (Ya i) [] 2 z zn).fork (tA 1 (Tr.find Nat (fun(x:Nat)=>(x,T1)) (fun(i_1:Nat)=>tA 1 (tE [] [] (Yf i) [] 2 z zn)) (tA 2 (tO (An.cl (Va x)) ((tO cB (tO cB (tO cB (tO cB (tA 16 (tE [] [] (Yh i) [] 2 z zn)))))).fork (tO bJ (tA 1 (tO bJ (tO (An.cl (U9 x)) (tO bJ (tO bJ ((tO cB (tO cB (tO cB (tO cB (tA 11 (tE [] [] (Yh i) [] 2 z zn)))))).fork (tO bJ (tA 1 (tO bJ (tO (An.cl (U8 x)) (tO bJ (tO bJ ((tO cB (tO cB (tO cB (tO cB (tA 6 (tE [] [] (Yh i) [] 2 z zn)))))).fork (tO bJ (tA 1 (tO bJ (tO (An.cl (U7 x)) (tO bJ (tO bJ ((tO cB (tO cB (tO cB (tO cB (tA 1 (tE [] [] (Yh i) [] 2 z zn)))))).fork (tO bJ (tA 1 (tO bJ (tO (An.cl (U6 x)) (tO bJ (tO bJ ((tE [] [] (Yh i) [] 2 z zn).fork (tA 1 (tO Yl (tO (Ym i) (tE gy [] [(4,MP 1),(29,SL 1790 n cp),(30,IV n),(31,IV (i+1))] [(1,aa.map (Yb ks++[MapEntry.mk (Ft x) T1 ks.length]) (ks.length+1))] 2 z zn))))))))))))))))))))))))))))))))))))))))))).fork (tA 1 (tE [] [] [] [] 2 z zn)))
abbrev XP(d:Int):Value:=Value.bool (decide (0<=d) && decide (d<=1000000))
abbrev U4(d:Int):Prop:=gP 58 [ZV d,YM,I 1000000]=some (XP d)
abbrev DP:Value:=TP [J 0,Yg]
abbrev FY:Prop:=Rs DP
abbrev NC(w:Int):Value:=Value.bool (decide (0<=w) && decide (w<=86400))
abbrev ss:Prop:=Rf 2
abbrev TF:List (Nat × aa):=[(1,bd [])]
noncomputable abbrev NB(d:Int):An:=An.cl (XP d)
noncomputable abbrev Rh(z:T aa)(zn:Nat):Tr:=tR [] [] DP [] 0 z zn
noncomputable abbrev U3(z:T aa)(zn:Nat):Tr:=tO cB (tO cB (tO cB (tO cB (tA 6 (Rh z zn)))))
noncomputable abbrev U2(z:T aa)(zn:Nat):Tr:=tO cB (tO cB (tO cB (tO cB (tA 1 (Rh z zn)))))
theorem W7(z:T aa)(zn n cp:Nat)(r1 r2 d w c:Int)(Q:QF)(hyp:Rf z/\U4 d/\Br (!(decide (0<=d) && decide (d<=1000000))) ((!(decide (0<=d) && decide (d<=1000000)))=true/\(!(decide (0<=d) && decide (d<=1000000)))=true/\(!(decide (0<=d) && decide (d<=1000000)))=true/\(!(decide (0<=d) && decide (d<=1000000)))=true/\E6 79 z zn (FY/\Q DP [] 0 z zn)) ((!(decide (0<=d) && decide (d<=1000000)))=false/\(!(decide (0<=d) && decide (d<=1000000)))=false/\Rf z/\gP 58 [ZV w,YM,I 86400]=some (NC w)/\(!(decide (0<=d) && decide (d<=1000000)))=false/\(!(decide (0<=d) && decide (d<=1000000)))=false/\Br (!(decide (0<=w) && decide (w<=86400))) ((!(decide (0<=w) && decide (w<=86400)))=true/\(!(decide (0<=w) && decide (w<=86400)))=true/\(!(decide (0<=w) && decide (w<=86400)))=true/\(!(decide (0<=w) && decide (w<=86400)))=true/\E6 79 z zn (FY/\Q DP [] 0 z zn)) ((!(decide (0<=w) && decide (w<=86400)))=false/\(!(decide (0<=w) && decide (w<=86400)))=false/\Rf z/\U4 c/\(!(decide (0<=w) && decide (w<=86400)))=false/\(!(decide (0<=w) && decide (w<=86400)))=false/\Br (!(decide (0<=c) && decide (c<=1000000))) (E6 79 z zn (FY/\Q DP [] 0 z zn)) (Br (decide ((↑n:Int)>16)) (E6 79 z zn (Yp/\Q Yo [] 0 z zn)) (ss/\ai prog U5 2 79 (Ek n cp 0) TF 2 z zn (iE z zn 2 2 3 0 r1 r2).R/\E6 79 z zn (R4 (MP 1) (SL 1790 n cp) (IV n) YM (Ys/\(∀(x:Unit),True->E6 79 z zn (Yu r1 r2/\Q (Yt r1 r2) [] 0 z zn))/\ ∀(x:Unit),r1=0/\r2=0->E6 79 z zn (Yw/\Q Yv [] 0 z zn)))))))):dM prog gP z f28 [AG [tb 5 n cp,zv d,zv w,zv c]] z [] 0 zn Q:=K1t hyp (tA 1 (tO (NB d) ((U3 z zn).fork (tO bJ (tA 1 (tO bJ (tO (An.cl (NC w)) (tO bJ (tO bJ ((U2 z zn).fork (tO bJ (tA 1 (tO bJ (tO (NB c) (tO bJ (tO bJ ((Rh z zn).fork (tA 1 ((Yx z zn).fork (tA 2 (Tr.lp 2 79 gy [] (Ek n cp 0) TF 2 z zn (Al.cons Unit Yy (fun(x:Unit)=>aw.mk af.ret [(2,zv r1),(3,zv r2)] [] 2 z zn) (Yz r1 r2 z zn) (Al.cons Unit (Y0 r1 r2) (fun(x:Unit)=>aw.mk YO [] [] 2 z zn) (Y1 z zn) Al.nil)))))))))))))))))))))))
theorem W6(z:T aa)(zn:Nat)(d w c:Int)(Q:QF)(hyp:Rf z/\U4 d/\Br (!(decide (0<=d) && decide (d<=1000000))) ((!(decide (0<=d) && decide (d<=1000000)))=true/\(!(decide (0<=d) && decide (d<=1000000)))=true/\(!(decide (0<=d) && decide (d<=1000000)))=true/\(!(decide (0<=d) && decide (d<=1000000)))=true/\E6 79 z zn (FY/\Q DP [] 0 z zn)) ((!(decide (0<=d) && decide (d<=1000000)))=false/\(!(decide (0<=d) && decide (d<=1000000)))=false/\Rf z/\gP 58 [ZV w,YM,I 86400]=some (NC w)/\(!(decide (0<=d) && decide (d<=1000000)))=false/\(!(decide (0<=d) && decide (d<=1000000)))=false/\Br (!(decide (0<=w) && decide (w<=86400))) ((!(decide (0<=w) && decide (w<=86400)))=true/\(!(decide (0<=w) && decide (w<=86400)))=true/\(!(decide (0<=w) && decide (w<=86400)))=true/\(!(decide (0<=w) && decide (w<=86400)))=true/\E6 79 z zn (FY/\Q DP [] 0 z zn)) ((!(decide (0<=w) && decide (w<=86400)))=false/\(!(decide (0<=w) && decide (w<=86400)))=false/\Rf z/\U4 c/\(!(decide (0<=w) && decide (w<=86400)))=false/\(!(decide (0<=w) && decide (w<=86400)))=false/\Br (!(decide (0<=c) && decide (c<=1000000))) (E6 79 z zn (FY/\Q DP [] 0 z zn)) (ss/\ai prog U5 2 79 vY TF 2 z zn (alt True (aw.mk YO [] [] 2 z zn) Al.nil).R/\E6 79 z zn (R4 (MP 1) Y4 YM YM (Ys/\ ∀(x:Unit),True->E6 79 z zn (Yw/\Q Yv [] 0 z zn))))))):dM prog gP z f28 [AG [az,zv d,zv w,zv c]] z [] 0 zn Q:=K1t hyp (tA 1 (tO (NB d) ((U3 z zn).fork (tO bJ (tA 1 (tO bJ (tO (An.cl (NC w)) (tO bJ (tO bJ ((U2 z zn).fork (tO bJ (tA 1 (tO bJ (tO (NB c) (tO bJ (tO bJ ((Rh z zn).fork (tA 4 (Tr.lp 2 79 gy [] vY TF 2 z zn (Al.cons Unit Yy (fun(x:Unit)=>aw.mk YO [] [] 2 z zn) (Y1 z zn) Al.nil))))))))))))))))))))
theorem Vz(z:T aa)(zn:Nat)(Q:QL)(hyp:E6 79 z zn (Q YO [] [] 2 z zn)):dP prog gP z U5 79 vY z TF 2 zn 2 Q:=K1t hyp (tA 2 (tE [] [] [] [] 2 z zn))
end
noncomputable section
abbrev bz:Value:=PT 0
abbrev fB:Value:=PT 1
abbrev TE(n cp:Nat)(d w c:Int):Prop:=Rs (BQ [SL 1790 n cp,ZV d,ZV w,ZV c] 4 1 29)
abbrev oJ:Nat × Value:=(1,bz)
abbrev JB(i k:Nat):List (Nat × Value):=[oJ,(4,IV i),(5,fB),(6,IV (k+1))]
abbrev U1(n cp:Nat)(d w c:Int)(x:bE):List (Nat × aa):=[(0,BQ [SL 1790 n cp,ZV d,ZV w,ZV c] 4 1 29),(1,BQ (Ri x) 6 1 84)]
noncomputable abbrev Rg:Code:=ah (ag f37) 0
abbrev c8:List (Nat × Nat):=[YB,iH]
theorem RC(z:T aa)(zn i k n cp:Nat)(kb:aY)(x y:bE)(d w c:Int)(Q:QL)(hyp:Br (decide ((↑k:Int)<(↑i:Int))) (YU k/\k<n/\Rf 1790/\z.get 5=some (YW kb)/\aC prog kb 9 (0+k*6+0)=some (Ft y)/\Br (y.id.toList==x.id.toList) (E6 88 z zn (R2 (IV i) Ye (Q af.ret (Yf i) [] 2 z zn))) (ZV (IntKind.i64.wrap ((↑k:Int)+1))=IV (k+1)/\E6 88 z zn (R4 bz (IV i) fB (IV (k+1)) (TE n cp d w c/\Rs (BQ (Ri x) 6 1 84)/\Q aN (JB i k) (U1 n cp d w c x) 2 z zn)))) (E6 88 z zn (R3 bz (IV i) fB (TE n cp d w c/\Rs (BQ (Ri x) 6 1 84)/\Q Y7 [oJ,(4,IV i),(5,fB)] (U1 n cp d w c x) 2 z zn)))):dP prog gP z (ah Rg 0) 88 (vX i k) z [(0,ve (tb 5 n cp) d w c),(1,J7 x)] 2 zn 2 Q:=K1t hyp ((tA 2 (tO (Yj k) (tO (An.ld 5 kb (Ft y)) (tA 1 ((tA 1 (tE [] [] (Yf i) [] 2 z zn)).fork (tA 1 (tO (Ym k) (tE c8 [] (JB i k) (U1 n cp d w c x) 2 z zn)))))))).fork (tA 1 (tE c8 [] [oJ,(4,IV i),(5,fB)] (U1 n cp d w c x) 2 z zn)))
noncomputable abbrev U0(i:Nat)(z:T aa)(zn:Nat):aw:=aw.mk af.ret [(2,iv i),(3,Ye)] [] 2 z zn
theorem X7(z:T aa)(zn i n cp:Nat)(kb:aY)(x:bE)(b:Bool)(d w c:Int)(Q:QL)(hyp:Br (decide ((↑i:Int)<(↑n:Int))) (YU i/\i<n/\Rf 1790/\z.get 5=some (YW kb)/\aC prog kb 84 (0+i*6)=some (AG (Ri x))/\Rf z/\gP 62 [Ft x]=some (Value.bool (bM x.id))/\Br (!bM x.id) (E6 88 z zn (R2 (IV i) YZ (Q af.ret (Ya i) [] 1 z zn))) (ss/\ai prog (ah Rg 0) 2 88 (vX i 0) [(0,ve (tb 5 n cp) d w c),(1,J7 x)] 2 z zn (alt (b=true) (U0 i z zn) (alt (b=false) (aw.mk Y7 (GS i) [(0,ve (tb 5 n cp) d w c),(1,J7 x)] 2 z zn) Al.nil)).R/\E6 88 z zn (R4 bz (IV i) fB YM (TE n cp d w c/\Rs (BQ (Ri x) 6 1 84)/\(∀(x:Unit),b=true->E6 88 z zn (R2 (IV i) Ye (Q af.ret (Yf i) [] 1 z zn)))/\ ∀(x_1:Unit),b=false->Rf z/\gP 63 [ZV x.cd,YM,I 1000000]=some (Va x)/\Br (!(decide (0<=x.cd) && decide (x.cd<=1000000))) ((!(decide (0<=x.cd) && decide (x.cd<=1000000)))=true/\(!(decide (0<=x.cd) && decide (x.cd<=1000000)))=true/\(!(decide (0<=x.cd) && decide (x.cd<=1000000)))=true/\(!(decide (0<=x.cd) && decide (x.cd<=1000000)))=true/\E6 88 z zn (R2 (IV i) Yg (Q af.ret (Yh i) [] 1 z zn))) ((!(decide (0<=x.cd) && decide (x.cd<=1000000)))=false/\(!(decide (0<=x.cd) && decide (x.cd<=1000000)))=false/\Rf z/\gP 63 [ZV x.bZ,I 1,I 8]=some (U9 x)/\(!(decide (0<=x.cd) && decide (x.cd<=1000000)))=false/\(!(decide (0<=x.cd) && decide (x.cd<=1000000)))=false/\Br (!(decide (1<=x.bZ) && decide (x.bZ<=8))) ((!(decide (1<=x.bZ) && decide (x.bZ<=8)))=true/\(!(decide (1<=x.bZ) && decide (x.bZ<=8)))=true/\(!(decide (1<=x.bZ) && decide (x.bZ<=8)))=true/\(!(decide (1<=x.bZ) && decide (x.bZ<=8)))=true/\E6 88 z zn (R2 (IV i) Yg (Q af.ret (Yh i) [] 1 z zn))) ((!(decide (1<=x.bZ) && decide (x.bZ<=8)))=false/\(!(decide (1<=x.bZ) && decide (x.bZ<=8)))=false/\Rf z/\gP 63 [ZV x.bY,I 1,I 16]=some (U8 x)/\(!(decide (1<=x.bZ) && decide (x.bZ<=8)))=false/\(!(decide (1<=x.bZ) && decide (x.bZ<=8)))=false/\Br (!(decide (1<=x.bY) && decide (x.bY<=16))) ((!(decide (1<=x.bY) && decide (x.bY<=16)))=true/\(!(decide (1<=x.bY) && decide (x.bY<=16)))=true/\(!(decide (1<=x.bY) && decide (x.bY<=16)))=true/\(!(decide (1<=x.bY) && decide (x.bY<=16)))=true/\E6 88 z zn (R2 (IV i) Yg (Q af.ret (Yh i) [] 1 z zn))) ((!(decide (1<=x.bY) && decide (x.bY<=16)))=false/\(!(decide (1<=x.bY) && decide (x.bY<=16)))=false/\Rf z/\gP 63 [ZV x.aH,YM,I 86400]=some (U7 x)/\(!(decide (1<=x.bY) && decide (x.bY<=16)))=false/\(!(decide (1<=x.bY) && decide (x.bY<=16)))=false/\Br (!(decide (0<=x.aH) && decide (x.aH<=86400))) ((!(decide (0<=x.aH) && decide (x.aH<=86400)))=true/\(!(decide (0<=x.aH) && decide (x.aH<=86400)))=true/\(!(decide (0<=x.aH) && decide (x.aH<=86400)))=true/\(!(decide (0<=x.aH) && decide (x.aH<=86400)))=true/\E6 88 z zn (R2 (IV i) Yg (Q af.ret (Yh i) [] 1 z zn))) ((!(decide (0<=x.aH) && decide (x.aH<=86400)))=false/\(!(decide (0<=x.aH) && decide (x.aH<=86400)))=false/\Rf z/\gP 63 [ZV x.lH,I 1,I
 255]=some (U6 x)/\(!(decide (0<=x.aH) && decide (x.aH<=86400)))=false/\(!(decide (0<=x.aH) && decide (x.aH<=86400)))=false/\Br (!(decide (1<=x.lH) && decide (x.lH<=255))) (E6 88 z zn (R2 (IV i) Yg (Q af.ret (Yh i) [] 1 z zn))) (ZV (IntKind.i64.wrap ((↑i:Int)+1))=IV (i+1)/\E6 88 z zn (R2 bz (IV (i+1)) (TE n cp d w c/\Q aN [oJ,(4,IV (i+1))] [(0,BQ [SL 1790 n cp,ZV d,ZV w,ZV c] 4 1 29)] 1 z zn))))))))))) (E6 88 z zn (Q YO [] [] 1 z zn))):dP prog gP z Rg 88 (rF i) z [(0,ve (tb 5 n cp) d w c)] 1 zn 1 Q:=K1t hyp (tA 1 ((tA 2 (tO (Yj i) (tO (An.ld 5 kb (AG x.row)) (tA 2 (tO (An.cl (Value.bool (bM x.id))) ((tE [] [] (Ya i) [] 1 z zn).fork (Tr.lp 2 88 c8 [] (vX i 0) [(0,ve (tb 5 n cp) d w c),(1,J7 x)] 2 z zn (Al.cons Unit (YR b) (fun(x:Unit)=>U0 i z zn) (fun(x:Unit)=>tE [] [] (Yf i) [] 1 z zn) (Al.cons Unit (YS b) (fun(x_1:Unit)=>aw.mk Y7 (GS i) [(0,ve (tb 5 n cp) d w c),(1,J7 x)] 2 z zn) (fun(x_1:Unit)=>tA 1 (tO (An.cl (Va x)) ((tO cB (tO cB (tO cB (tO cB (tA 16 (Yk i z zn)))))).fork (tO bJ (tA 1 (tO bJ (tO (An.cl (U9 x)) (tO bJ (tO bJ ((tO cB (tO cB (tO cB (tO cB (tA 11 (Yk i z zn)))))).fork (tO bJ (tA 1 (tO bJ (tO (An.cl (U8 x)) (tO bJ (tO bJ ((tO cB (tO cB (tO cB (tO cB (tA 6 (Yk i z zn)))))).fork (tO bJ (tA 1 (tO bJ (tO (An.cl (U7 x)) (tO bJ (tO bJ ((tO cB (tO cB (tO cB (tO cB (tA 1 (Yk i z zn)))))).fork (tO bJ (tA 1 (tO bJ (tO (An.cl (U6 x)) (tO bJ (tO bJ ((Yk i z zn).fork (tO (Ym i) (tE YC [] [oJ,(4,IV (i+1))] [(0,BQ [SL 1790 n cp,ZV d,ZV w,ZV c] 4 1 29)] 1 z zn))))))))))))))))))))))))))))))))) Al.nil))))))))).fork (Yn z zn)))
abbrev UZ(d:Int):Prop:=gP 63 [ZV d,YM,I 1000000]=some (XP d)
theorem frf(z:T aa)(zn n cp:Nat)(r1 r2 d w c:Int)(Q:QF)(hyp:Rf z/\UZ d/\Br (!(decide (0<=d) && decide (d<=1000000))) ((!(decide (0<=d) && decide (d<=1000000)))=true/\(!(decide (0<=d) && decide (d<=1000000)))=true/\(!(decide (0<=d) && decide (d<=1000000)))=true/\(!(decide (0<=d) && decide (d<=1000000)))=true/\E6 88 z zn (FY/\Q DP [] 0 z zn)) ((!(decide (0<=d) && decide (d<=1000000)))=false/\(!(decide (0<=d) && decide (d<=1000000)))=false/\Rf z/\gP 63 [ZV w,YM,I 86400]=some (NC w)/\(!(decide (0<=d) && decide (d<=1000000)))=false/\(!(decide (0<=d) && decide (d<=1000000)))=false/\Br (!(decide (0<=w) && decide (w<=86400))) ((!(decide (0<=w) && decide (w<=86400)))=true/\(!(decide (0<=w) && decide (w<=86400)))=true/\(!(decide (0<=w) && decide (w<=86400)))=true/\(!(decide (0<=w) && decide (w<=86400)))=true/\E6 88 z zn (FY/\Q DP [] 0 z zn)) ((!(decide (0<=w) && decide (w<=86400)))=false/\(!(decide (0<=w) && decide (w<=86400)))=false/\Rf z/\UZ c/\(!(decide (0<=w) && decide (w<=86400)))=false/\(!(decide (0<=w) && decide (w<=86400)))=false/\Br (!(decide (0<=c) && decide (c<=1000000))) (E6 88 z zn (FY/\Q DP [] 0 z zn)) (Br (decide ((↑n:Int)>16)) (E6 88 z zn (Yp/\Q Yo [] 0 z zn)) (YP/\ai prog Rg 1 88 (rF 0) [(0,ve (tb 5 n cp) d w c)] 1 z zn (iE z zn 1 2 3 0 r1 r2).R/\E6 88 z zn (R2 bz YM (TE n cp d w c/\(∀(x:Unit),True->E6 88 z zn (Yu r1 r2/\Q (Yt r1 r2) [] 0 z zn))/\ ∀(x:Unit),r1=0/\r2=0->E6 88 z zn (Yw/\Q Yv [] 0 z zn)))))))):dM prog gP z f37 [AG [tb 5 n cp,zv d,zv w,zv c]] z [] 0 zn Q:=K1t hyp (tA 1 (tO (NB d) ((U3 z zn).fork (tO bJ (tA 1 (tO bJ (tO (An.cl (NC w)) (tO bJ (tO bJ ((U2 z zn).fork (tO bJ (tA 1 (tO bJ (tO (NB c) (tO bJ (tO bJ ((Rh z zn).fork (tA 1 ((Yx z zn).fork (tA 1 (Tr.lp 1 88 YC [] (rF 0) [(0,ve (tb 5 n cp) d w c)] 1 z zn (Y2 r1 r2 z zn))))))))))))))))))))))
end
noncomputable section
abbrev iG(k:Nat):Prop:=Rf (tF k)
abbrev iF(z:T aa)(k:Nat)(kb:aY):Prop:=z.get k=some (YW kb)
abbrev YBv(kb:aY)(i:Nat)(x:bm):Prop:=aC prog kb 76 (0+i*5)=some (AG [ZV x.stop,ZV x.arr,ZV x.dep,Value.bool x.MS,Value.bool x.I0])
abbrev FX:Prop:=Rs (I 9)
abbrev DO:Prop:=Rs (I 10)
abbrev I8:Prop:=Rs YM
noncomputable abbrev JA(z:T aa)(zn:Nat):Tr:=tR [] [] (I 9) [] 0 z zn
noncomputable abbrev Rk:An:=An.val T1
noncomputable abbrev FZ:An:=An.val F0
theorem W8(z:T aa)(zn k i n cp:Nat)(s lo hi:Int)(kb:aY)(x p:bm)(Q:QF)(hyp:YU i/\i<n/\iG k/\iF z k kb/\YBv kb i x/\Br (decide (x.stop<0)) (E6 70 z zn (FX/\Q (I 9) [] 0 z zn)) (Br (decide (x.stop>=s)) (E6 70 z zn (FX/\Q (I 9) [] 0 z zn)) (Br (decide ((↑i:Int)>0)) (WQ1 ((↑i:Int) - 1)/\(↑i:Int) - 1=(↑(i - 1):Int)/\i - 1<n/\iG k/\iF z k kb/\aC prog kb 3 (0+(i - 1)*5+0)=some (ZV p.stop)/\Br (p.stop==x.stop) (E6 70 z zn (Rs (I 13)/\Q (I 13) [] 0 z zn)) (Br (decide (x.arr<lo)) (E6 70 z zn (DO/\Q (I 10) [] 0 z zn)) (Br (decide (x.arr>x.dep)) (E6 70 z zn (DO/\Q (I 10) [] 0 z zn)) (Br (decide (x.dep>hi)) (E6 70 z zn (DO/\Q (I 10) [] 0 z zn)) (Value.bool (decide ((↑i:Int)>0))=T1/\WQ1 ((↑i:Int) - 1)/\(↑i:Int) - 1=(↑(i - 1):Int)/\i - 1<n/\iG k/\iF z k kb/\aC prog kb 3 (0+(i - 1)*5+2)=some (ZV p.dep)/\Br (decide (x.arr<p.dep)) (E6 70 z zn (DO/\Q (I 10) [] 0 z zn)) (E6 70 z zn (I8/\Q YM [] 0 z zn))))))) (Br (decide (x.arr<lo)) (E6 70 z zn (DO/\Q (I 10) [] 0 z zn)) (Br (decide (x.arr>x.dep)) (E6 70 z zn (DO/\Q (I 10) [] 0 z zn)) (Br (decide (x.dep>hi)) (E6 70 z zn (DO/\Q (I 10) [] 0 z zn)) (Value.bool (decide ((↑i:Int)>0))=F0/\E6 70 z zn (I8/\Q YM [] 0 z zn)))))))):dM prog gP z f88 [tb k n cp,iv i,zv s,zv lo,zv hi] z [] 0 zn Q:=K1t hyp (tO (Yj i) (tO (An.ld k kb (AG x.row)) (tA 2 ((tA 6 (JA z zn)).fork (tA 5 ((tA 2 (JA z zn)).fork (tA 2 ((tA 3 (tO (An.val (ZV ((↑i:Int) - 1))) (tA 1 (tO (An.idx (i - 1)) (tA 2 (tO (An.ld k kb (zv p.stop)) (tA 4 ((tA 2 (tR [] [] (I 13) [] 0 z zn)).fork (tA 3 ((tA 17 (tR [] [] (I 10) [] 0 z zn)).fork (tA 7 ((tA 12 (tR [] [] (I 10) [] 0 z zn)).fork (tA 6 ((tA 7 (tR [] [] (I 10) [] 0 z zn)).fork (tA 3 (tO Rk (tA 7 (tO (An.val (ZV ((↑i:Int) - 1))) (tA 1 (tO (An.idx (i - 1)) (tA 2 (tO (An.ld k kb (zv p.dep)) (tA 1 ((tA 4 (tR [] [] (I 10) [] 0 z zn)).fork (tA 4 (tR [] [] YM [] 0 z zn)))))))))))))))))))))))))).fork (tA 12 ((tA 17 (tR [] [] (I 10) [] 0 z zn)).fork (tA 7 ((tA 12 (tR [] [] (I 10) [] 0 z zn)).fork (tA 6 ((tA 7 (tR [] [] (I 10) [] 0 z zn)).fork (tA 3 (tO FZ (tA 14 (tR [] [] YM [] 0 z zn))))))))))))))))))
abbrev ND(e:Int):Unit->Value:=fun(x:Unit)=>zv e
abbrev cX:Unit->List (Nat × aa):=fun(x:Unit)=>[]
abbrev fD(z:T aa):Unit->T aa:=fun(x:Unit)=>z
abbrev fC(zn:Nat):Unit->Nat:=fun(x:Unit)=>zn
theorem Zf(z:T aa)(zn k i n cp:Nat)(s lo hi e:Int)(Q:QL)(hyp:Br (decide ((↑i:Int)<(↑n:Int))) (aQ prog z zn 88 [SL (tF k) n cp,IV i,ZV s,ZV lo,ZV hi] [] 0 0 Yy (ND e) cX/\Rs [SL (tF k) n cp,IV i,ZV s,ZV lo,ZV hi]/\ ∀(x:Unit),True->Rs (ZV e)/\Br (e !=0) (E6 36 z zn (R2 (IV i) (ZV e) (Q af.ret [(8,IV i),(9,ZV e)] [] 0 z zn))) (ZV (IntKind.i64.wrap ((↑i:Int)+1))=IV (i+1)/\E6 36 z zn (R6 (SL (tF k) n cp) (ZV s) (ZV lo) (ZV hi) (IV n) (IV (i+1)) (Q aN [(0,SL (tF k) n cp),(1,ZV s),(2,ZV lo),(3,ZV hi),(21,IV n),(22,IV (i+1))] [] 0 z zn)))) (E6 36 z zn (Q YO [] [] 0 z zn))):dP prog gP z (ah (ag f55) 0) 36 (Er k n cp s lo hi i) z [] 0 zn 0 Q:=K1t hyp ((tA 1 (Tr.cm (Cm.mk [SL (tF k) n cp,IV i,ZV s,ZV lo,ZV hi] [] 0 0 [] [] 0) Unit Yy (ND e) cX (fun(x:Unit)=>ZV e) cX (fD z) (fC zn) fun(x:Unit)=>(tA 1 (tE [] [] [(8,IV i),(9,ZV e)] [] 0 z zn)).fork (tA 1 (tO (Ym i) (tE [] [] [(0,SL (tF k) n cp),(1,ZV s),(2,ZV lo),(3,ZV hi),(21,IV n),(22,IV (i+1))] [] 0 z zn))))).fork (Qk z zn))
theorem fck(z:T aa)(zn k n cp:Nat)(s lo hi r1 r2:Int)(Q:QF)(hyp:Br (decide ((↑n:Int)<2)) (E6 36 z zn (Yp/\Q Yo [] 0 z zn)) (Br (decide ((↑n:Int)>32)) (E6 36 z zn (Yp/\Q Yo [] 0 z zn)) (Y9/\ai prog (ah (ag f55) 0) 0 36 (Er k n cp s lo hi 0) [] 0 z zn (iE z zn 0 8 9 0 r1 r2).R/\E6 36 z zn (R6 (SL (tF k) n cp) (ZV s) (ZV lo) (ZV hi) (IV n) YM ((∀(x:Unit),True->E6 36 z zn (Yu r1 r2/\Q (Yt r1 r2) [] 0 z zn))/\ ∀(x:Unit),r1=0/\r2=0->E6 36 z zn (Yw/\Q Yv [] 0 z zn)))))):dM prog gP z f55 [tb k n cp,zv s,zv lo,zv hi] z [] 0 zn Q:=K1t hyp ((tA 5 (tR [] [] Yo [] 0 z zn)).fork (tA 3 ((tA 2 (tR [] [] Yo [] 0 z zn)).fork (tA 2 (Tr.lp 0 36 [] [] (Er k n cp s lo hi 0) [] 0 z zn (Al.cons Unit Yy (fun(x:Unit)=>aw.mk af.ret [(8,zv r1),(9,zv r2)] [] 0 z zn) (Yz r1 r2 z zn) (Al.cons Unit (Y0 r1 r2) (Qj z zn) (Y1 z zn) Al.nil)))))))
abbrev DQ:List (Nat × Value):=[(8,I 10)]
abbrev Fu(i:Nat):Nat × Value:=(9,IV (i+1))
abbrev Vd(k n cp:Nat)(s lo hi:Int)(i:Nat):List (Nat × Value):=[(0,SL (tF k) n cp),(1,ZV s),(2,ZV lo),(3,ZV hi),Fu i]
theorem X8(z:T aa)(zn k i n cp:Nat)(s lo hi:Int)(kb:aY)(x p:bm)(Q:QL)(hyp:Br (decide ((↑i:Int)<(↑n:Int))) (YU i/\i<n/\iG k/\iF z k kb/\YBv kb i x/\Br (decide (x.stop<0)) (E6 83 z zn (FX/\Q af.ret [(8,I 9)] [] 0 z zn)) (Br (decide (x.stop>=s)) (E6 83 z zn (FX/\Q af.ret [(8,I 9)] [] 0 z zn)) (Br (decide ((↑i:Int)>0)) (WQ1 ((↑i:Int) - 1)/\(↑i:Int) - 1=(↑(i - 1):Int)/\i - 1<n/\iG k/\iF z k kb/\aC prog kb 3 (0+(i - 1)*5+0)=some (ZV p.stop)/\Br (p.stop==x.stop) (E6 83 z zn (Rs (I 13)/\Q af.ret [(8,I 13)] [] 0 z zn)) (Br (decide (x.arr<lo)) (E6 83 z zn (DO/\Q af.ret DQ [] 0 z zn)) (Br (decide (x.arr>x.dep)) (E6 83 z zn (DO/\Q af.ret DQ [] 0 z zn)) (Br (decide (x.dep>hi)) (E6 83 z zn (DO/\Q af.ret DQ [] 0 z zn)) (Value.bool (decide ((↑i:Int)>0))=T1/\WQ1 ((↑i:Int) - 1)/\(↑i:Int) - 1=(↑(i - 1):Int)/\i - 1<n/\iG k/\iF z k kb/\aC prog kb 3 (0+(i - 1)*5+2)=some (ZV p.dep)/\Br (decide (x.arr<p.dep)) (E6 83 z zn (DO/\Q af.ret DQ [] 0 z zn)) (ZV (IntKind.i64.wrap ((↑i:Int)+1))=IV (i+1)/\E6 83 z zn (R5 (SL (tF k) n cp) (ZV s) (ZV lo) (ZV hi) (IV (i+1)) (Q aN (Vd k n cp s lo hi i) [] 0 z zn)))))))) (Br (decide (x.arr<lo)) (E6 83 z zn (DO/\Q af.ret DQ [] 0 z zn)) (Br (decide (x.arr>x.dep)) (E6 83 z zn (DO/\Q af.ret DQ [] 0 z zn)) (Br (decide (x.dep>hi)) (E6 83 z zn (DO/\Q af.ret DQ [] 0 z zn)) (Value.bool (decide ((↑i:Int)>0))=F0/\ZV (IntKind.i64.wrap ((↑i:Int)+1))=IV (i+1)/\E6 83 z zn (R5 (SL (tF k) n cp) (ZV s) (ZV lo) (ZV hi) (IV (i+1)) (Q aN (Vd k n cp s lo hi i) [] 0 z zn))))))))) (E6 83 z zn (Q YO [] [] 0 z zn))):dP prog gP z (ah (ag f64) 0) 83 (zJ k n cp s lo hi i) z [] 0 zn 0 Q:=K1t hyp ((tA 1 (tO (Yj i) (tO (An.ld k kb (AG x.row)) (tA 2 ((tA 6 (tE [] [] [(8,I 9)] [] 0 z zn)).fork (tA 5 ((tA 2 (tE [] [] [(8,I 9)] [] 0 z zn)).fork (tA 2 ((tA 3 (tO (An.val (ZV ((↑i:Int) - 1))) (tA 1 (tO (An.idx (i - 1)) (tA 2 (tO (An.ld k kb (zv p.stop)) (tA 4 ((tA 2 (tE [] [] [(8,I 13)] [] 0 z zn)).fork (tA 3 ((tA 17 (tE [] [] DQ [] 0 z zn)).fork (tA 7 ((tA 12 (tE [] [] DQ [] 0 z zn)).fork (tA 6 ((tA 7 (tE [] [] DQ [] 0 z zn)).fork (tA 3 (tO Rk (tA 7 (tO (An.val (ZV ((↑i:Int) - 1))) (tA 1 (tO (An.idx (i - 1)) (tA 2 (tO (An.ld k kb (zv p.dep)) (tA 1 ((tA 4 (tE [] [] DQ [] 0 z zn)).fork (tA 4 (tO (Ym i) (tE [] [] (Vd k n cp s lo hi i) [] 0 z zn))))))))))))))))))))))))))).fork (tA 12 ((tA 17 (tE [] [] DQ [] 0 z zn)).fork (tA 7 ((tA 12 (tE [] [] DQ [] 0 z zn)).fork (tA 6 ((tA 7 (tE [] [] DQ [] 0 z zn)).fork (tA 3 (tO FZ (tA 14 (tO (Ym i) (tE [] [] (Vd k n cp s lo hi i) [] 0 z zn)))))))))))))))))))).fork (Qk z zn))
abbrev TG(r:Int):Unit->Prop:=fun(x:Unit)=>r=0
noncomputable abbrev UY(z:T aa)(zn:Nat):Unit->Tr:=fun(x:Unit)=>tR [] [] YM [] 0 z zn
theorem frc(z:T aa)(zn k n cp:Nat)(s lo hi r:Int)(Q:QF)(hyp:Br (decide ((↑n:Int)<2)) (E6 83 z zn (Rs (I 5)/\Q (I 5) [] 0 z zn)) (Br (decide ((↑n:Int)>32)) (E6 83 z zn (Rs (I 5)/\Q (I 5) [] 0 z zn)) (Y9/\ai prog (ah (ag f64) 0) 0 83 (zJ k n cp s lo hi 0) [] 0 z zn (alt True (aw.mk af.ret [(8,zv r)] [] 0 z zn) (alt (r=0) (aw.mk YO [] [] 0 z zn) Al.nil)).R/\E6 83 z zn (R5 (SL (tF k) n cp) (ZV s) (ZV lo) (ZV hi) YM ((∀(x:Unit),True->E6 83 z zn (Rs (ZV r)/\Q (ZV r) [] 0 z zn))/\ ∀(x:Unit),r=0->E6 83 z zn (I8/\Q YM [] 0 z zn)))))):dM prog gP z f64 [tb k n cp,zv s,zv lo,zv hi] z [] 0 zn Q:=K1t hyp ((tA 5 (tR [] [] (I 5) [] 0 z zn)).fork (tA 3 ((tA 2 (tR [] [] (I 5) [] 0 z zn)).fork (tA 2 (Tr.lp 0 83 [] [] (zJ k n cp s lo hi 0) [] 0 z zn (Al.cons Unit Yy (fun(x:Unit)=>aw.mk af.ret [(8,zv r)] [] 0 z zn) (fun(x:Unit)=>tR [] [] (ZV r) [] 0 z zn) (Al.cons Unit (TG r) (Qj z zn) (UY z zn) Al.nil)))))))
end
noncomputable section
theorem Xc(z:T aa)(zn:Nat)(s lo hi:Int)(Q:QF)(hyp:E6 36 z zn (Yp/\Q Yo [] 0 z zn)):dM prog gP z f55 [az,zv s,zv lo,zv hi] z [] 0 zn Q:=K1t hyp (tA 6 (tR [] [] Yo [] 0 z zn))
theorem W4(z:T aa)(zn:Nat)(s lo hi:Int)(Q:QF)(hyp:E6 83 z zn (Rs (I 5)/\Q (I 5) [] 0 z zn)):dM prog gP z f64 [az,zv s,zv lo,zv hi] z [] 0 zn Q:=K1t hyp (tA 6 (tR [] [] (I 5) [] 0 z zn))
theorem Xd(z:T aa)(zn b o sp:Nat)(s lo hi:Int)(Q:QF)(hyp:E6 36 z zn (Yp/\Q Yo [] 0 z zn)):dM prog gP z f55 [Value.slice (some (Addr.mk b o (some sp))) 0 0,zv s,zv lo,zv hi] z [] 0 zn Q:=K1t hyp (tA 6 (tR [] [] Yo [] 0 z zn))
theorem W5(z:T aa)(zn b o sp:Nat)(s lo hi:Int)(Q:QF)(hyp:E6 83 z zn (Rs (I 5)/\Q (I 5) [] 0 z zn)):dM prog gP z f64 [Value.slice (some (Addr.mk b o (some sp))) 0 0,zv s,zv lo,zv hi] z [] 0 zn Q:=K1t hyp (tA 6 (tR [] [] (I 5) [] 0 z zn))
abbrev Qf(z:T aa)(kb:aY):Prop:=z.get 1=some (YW kb)
abbrev Rb(x:iM):List Value:=[ZV x.u4,ZV x.day,ZV x.inst,Value.string x.id,ZV x.je,Value.bool x.sf,Value.bool x.cancelled,Value.slice x.ca x.cn x.cc]
abbrev XO(kb:aY)(i:Nat)(x:iM):Prop:=aC prog kb 38 (0+i*8)=some (AG (Rb x))
abbrev jx:Prop:=Rs fB
abbrev eN:List (Nat × Value):=[(2,fB)]
abbrev YCG(i:Nat):Prop:=gP 25 [Yg,IV i,I 11]=some (AG [Yg,IV i,I 11])
abbrev NA(x:iM)(N:aJ):List Value:=[Value.slice x.ca x.cn x.cc,IV N.ns,YM,I 3155932800]
abbrev Bg(c1 c2:Int):Unit->Value:=fun(x:Unit)=>TP [zv c1,zv c2]
abbrev Nz(x:iM):Value:=AG [Value.string x.id,ZV x.day,ZV x.inst]
abbrev ny:Nat × Nat:=(2,2)
abbrev Bf:List (Nat × Nat):=[YB,iH,ny]
abbrev vn:Nat->Option Nat:=ay Bf []
abbrev A0(N:aJ):Value:=Value.slice N.sa N.ns N.sc
abbrev AZ(N:aJ):Value:=Value.slice N.ra N.nr N.rc
abbrev TD(N:aJ):Value:=Value.slice N.la N.nl N.lc
abbrev Qe(N:aJ):Value:=Value.slice N.pa N.np N.pc
abbrev Jy(N:aJ):Value:=Value.slice N.fa N.nf N.fc
abbrev Md(N:aJ):aa:=BQ [A0 N,AZ N,SL 766 N.nu N.uc,TD N,Qe N,Jy N,ZV N.d,ZV N.w,ZV N.c] 9 1 31
abbrev Ny:List Value:=[YM,YM,YM]
abbrev sr:Prop:=Rs (BQ Ny 3 1 88)
abbrev YCV(N:aJ)(i:Nat):List (Nat × Value):=[oJ,(2,fB),(3,MP 2),(16,SL 766 N.nu N.uc),(17,IV N.nu),(18,IV (i+1))]
abbrev pS:Nat × aa:=(1,BQ Ny 3 1 88)
noncomputable abbrev UX:Code:=ah (ag f26) 0
abbrev nK:Nat × aa:=(1,cW 0 0 0)
noncomputable abbrev YCZ(i:Nat)(z:T aa)(zn:Nat):Tr:=tO (An.cl (AG [Yg,IV i,Yg])) (tA 1 (tE gy [] eN [(1,BQ [Yg,IV i,Yg] 3 1 88)] 3 z zn))
noncomputable abbrev YCa(i:Nat)(z:T aa)(zn:Nat):Tr:=tO (An.cl (AG [Yg,IV i,I 11])) (tA 1 (tE gy [] eN [(1,BQ [Yg,IV i,I 11] 3 1 88)] 3 z zn))
noncomputable abbrev YCb(i:Nat)(z:T aa)(zn:Nat):Tr:=tO (An.cl (AG [Yg,IV i,I 9])) (tA 1 (tE gy [] eN [(1,BQ [Yg,IV i,I 9] 3 1 88)] 3 z zn))
abbrev Nx(c1 c2:Int):Unit->Value:=fun(x:Unit)=>Yt c1 c2
theorem ru(z:T aa)(zn i:Nat)(N:aJ)(kb:aY)(x:iM)(ks:List Value)(c1 c2:Int)(Q:QL)(hyp:Br (decide ((↑i:Int)<(↑N.nu:Int))) (YU i/\i<N.nu/\Rf 766/\Qf z kb/\XO kb i x/\Rf z/\gP 53 [Value.string x.id]=some (Value.bool (bM x.id))/\Br (!bM x.id) (Rf z/\gP 25 [Yg,IV i,YZ]=some (AG [Yg,IV i,YZ])/\E6 96 z zn (jx/\Rs (BQ [Yg,IV i,YZ] 3 1 88)/\Q af.ret eN [(1,BQ [Yg,IV i,YZ] 3 1 88)] 3 z zn)) (Br (decide (x.u4< -1)) (Rf z/\gP 25 [Yg,IV i,Yg]=some (AG [Yg,IV i,Yg])/\E6 96 z zn (jx/\Rs (BQ [Yg,IV i,Yg] 3 1 88)/\Q af.ret eN [(1,BQ [Yg,IV i,Yg] 3 1 88)] 3 z zn)) (Br (decide (x.inst<0)) (Rf z/\gP 25 [Yg,IV i,Yg]=some (AG [Yg,IV i,Yg])/\E6 96 z zn (jx/\Rs (BQ [Yg,IV i,Yg] 3 1 88)/\Q af.ret eN [(1,BQ [Yg,IV i,Yg] 3 1 88)] 3 z zn)) (Br (decide (x.day<0)) (Rf z/\YCG i/\E6 96 z zn (jx/\Rs (BQ [Yg,IV i,I 11] 3 1 88)/\Q af.ret eN [(1,BQ [Yg,IV i,I 11] 3 1 88)] 3 z zn)) (Br (decide (x.day>36524)) (Rf z/\YCG i/\E6 96 z zn (jx/\Rs (BQ [Yg,IV i,I 11] 3 1 88)/\Q af.ret eN [(1,BQ [Yg,IV i,I 11] 3 1 88)] 3 z zn)) (Br (decide (x.je<0)) (Rf z/\gP 25 [Yg,IV i,I 9]=some (AG [Yg,IV i,I 9])/\E6 96 z zn (jx/\Rs (BQ [Yg,IV i,I 9] 3 1 88)/\Q af.ret eN [(1,BQ [Yg,IV i,I 9] 3 1 88)] 3 z zn)) (Br (decide (x.je>=(↑N.nr:Int))) (Rf z/\gP 25 [Yg,IV i,I 9]=some (AG [Yg,IV i,I 9])/\E6 96 z zn (jx/\Rs (BQ [Yg,IV i,I 9] 3 1 88)/\Q af.ret eN [(1,BQ [Yg,IV i,I 9] 3 1 88)] 3 z zn)) (aQ prog z zn 55 (NA x N) [] 0 0 Yy (Bg c1 c2) cX/\br (sig []) (NA x N)=some (NA x N)/\ ∀(x_1:Unit),True->Yu c1 c2/\Br (c2 !=0) (Rf z/\gP 25 [Yg,IV i,ZV c2]=some (AG [Yg,IV i,ZV c2])/\E6 96 z zn (jx/\Rs (BQ [Yg,IV i,ZV c2] 3 1 88)/\Q af.ret eN [(1,BQ [Yg,IV i,ZV c2] 3 1 88)] 3 z zn)) (aA prog 119 (Nz x) (Yb ks) 0≠none/\(∀(p:Nat × Value),aA prog 119 (Nz x) (Yb ks) 0=YH p->Exists (Yc p))/\(∀(i_1:Nat),aA prog 119 (Nz x) (Yb ks) 0=Yd i_1->Rf z/\gP 25 [Yg,IV i,Ye]=some (AG [Yg,IV i,Ye])/\E6 96 z zn (jx/\Rs (BQ [Yg,IV i,Ye] 3 1 88)/\Q af.ret eN [(1,BQ [Yg,IV i,Ye] 3 1 88)] 3 z zn))/\(aA prog 119 (Nz x) (Yb ks) 0=YL->aA prog 119 (Nz x) (Yb ks) 0=YL/\ZV (IntKind.i64.wrap ((↑i:Int)+1))=IV (i+1)/\E6 96 z zn (R6 bz fB (MP 2) (SL 766 N.nu N.uc) (IV N.nu) (IV (i+1)) (KO vn (Md N)/\sr/\KO vn (aa.map (Yb ks++[MapEntry.mk (Nz x) T1 ks.length]) (ks.length+1))/\Q aN (YCV N i) [(0,Md N),pS,(2,aa.map (Yb ks++[MapEntry.mk (Nz x) T1 ks.length]) (ks.length+1))] 3 z zn)))))))))))) (E6 96 z zn (jx/\sr/\Q YO eN [pS] 3 z zn))):dP prog gP z UX 96 (Qr N.nu N.uc i) z [(0,N.jr),nK,(2,bd ks)] 3 zn 3 Q:=K1t hyp ((tA 1 (tO (Yj i) (tO (An.ld 1 kb (AG x.row)) (tA 2 (tO (An.cl (Value.bool (bM x.id))) ((tO (An.cl (AG [Yg,IV i,YZ])) (tA 1 (tE gy [] eN [(1,BQ [Yg,IV i,YZ] 3 1 88)] 3 z zn))).fork (tA 1 ((tA 5 (YCZ i z zn)).fork (tA 4 ((tA 2 (YCZ i z zn)).fork (tA 3 ((tA 5 (YCa i z zn)).fork (tA 4 ((tA 2 (YCa i z zn)).fork (tA 3 ((tA 8 (YCb i z zn)).fork (tA 8 ((tA 2 (YCb i z zn)).fork (tA 4 (Tr.cm (Cm.mk (NA x N) [] 0 0 [] [] 4) Unit Yy (Bg c1
 c2) cX (Nx c1 c2) cX (fD z) (fC zn) fun(x_1:Unit)=>(tA 1 (tO (An.cl (AG [Yg,IV i,ZV c2])) (tA 1 (tE gy [] eN [(1,BQ [Yg,IV i,ZV c2] 3 1 88)] 3 z zn)))).fork (tA 6 (Tr.find Nat (fun(x:Nat)=>(x,T1)) (fun(i_1:Nat)=>tA 1 (tO (An.cl (AG [Yg,IV i,Ye])) (tA 1 (tE gy [] eN [(1,BQ [Yg,IV i,Ye] 3 1 88)] 3 z zn)))) (tA 2 (tO Yl (tO (Ym i) (tE Bf [] (YCV N i) [(0,Md N),pS,(2,aa.map (Yb ks++[MapEntry.mk (Nz x) T1 ks.length]) (ks.length+1))] 3 z zn)))))))))))))))))))))))))).fork (tA 1 (tE gy [] eN [pS] 3 z zn)))
abbrev TC:Value:=AG [Yg,YM,I 5]
abbrev Be:Prop:=Rf 3
abbrev uP(r1 r2 r3:Int):Value:=AG [ZV r1,ZV r2,ZV r3]
abbrev w7:Value:=AG Ny
noncomputable abbrev UW(z:T aa)(zn:Nat):Unit->Tr:=fun(x:Unit)=>tA 1 (tR [] [] w7 [] 0 z zn)
theorem fu(z:T aa)(zn:Nat)(N:aJ)(r1 r2 r3:Int)(Q:QF)(hyp:Br (decide ((↑N.nu:Int)>1024)) (Rf z/\gP 25 [Yg,YM,I 5]=some TC/\E6 96 z zn (Rs TC/\Q TC [] 0 z zn)) (Be/\ai prog UX 3 96 (Qr N.nu N.uc 0) [(0,N.jr),nK,(2,bd [])] 3 z zn (alt True (aw.mk af.ret [(2,ip 1)] [(1,cW r1 r2 r3)] 3 z zn) (alt (r1=0/\r2=0/\r3=0) (aw.mk YO [(2,ip 1)] [nK] 3 z zn) Al.nil)).R/\E6 96 z zn (R6 bz fB (MP 2) (SL 766 N.nu N.uc) (IV N.nu) YM (KO vn (Md N)/\sr/\Ys/\(∀(x:Unit),True->E6 96 z zn (Rs (uP r1 r2 r3)/\Q (uP r1 r2 r3) [] 0 z zn))/\ ∀(x:Unit),r1=0/\r2=0/\r3=0->E6 96 z zn (Rs w7/\Q w7 [] 0 z zn))))):dM prog gP z f26 [AG N.uu] z [] 0 zn Q:=K1t hyp (tA 1 ((tA 1 (tO (An.cl TC) (tA 1 (tR [] [] TC [] 0 z zn)))).fork (tA 2 (Tr.lp 3 96 Bf [] (Qr N.nu N.uc 0) [(0,N.jr),nK,(2,bd [])] 3 z zn (Al.cons Unit Yy (fun(x:Unit)=>aw.mk af.ret [(2,ip 1)] [(1,cW r1 r2 r3)] 3 z zn) (fun(x:Unit)=>tR [] [] (uP r1 r2 r3) [] 0 z zn) (Al.cons Unit (fun(x:Unit)=>r1=0/\r2=0/\r3=0) (fun(x:Unit)=>aw.mk YO [(2,ip 1)] [nK] 3 z zn) (UW z zn) Al.nil))))))
end
noncomputable section
abbrev nk:Nat->Option Nat:=ay c8 []
abbrev dZ(i:Nat):Nat × Value:=(1,IV i)
abbrev Ra(i k:Nat):List (Nat × Value):=[dZ i,(2,bz),(5,fB),(7,IV (k+1))]
abbrev Q9(N:aJ)(x:iM):List (Nat × aa):=[(0,Md N),(1,BQ (Rb x) 8 1 38)]
theorem X6(z:T aa)(zn i k:Nat)(N:aJ)(kb:aY)(x y:iM)(Q:QL)(hyp:Br (decide ((↑k:Int)<(↑i:Int))) (YU k/\k<N.nu/\Rf 766/\Qf z kb/\XO kb k y/\Br (y.id.toList==x.id.toList) (Br (y.day==x.day) (Br (y.inst==x.inst) (E6 79 z zn (Rs Ye/\Q af.ret [(4,Ye)] [] 2 z zn)) (ZV (IntKind.i64.wrap ((↑k:Int)+1))=IV (k+1)/\E6 79 z zn (R4 (IV i) bz fB (IV (k+1)) (K2 nk (Md N) (BQ (Rb x) 8 1 38) (Q aN (Ra i k) (Q9 N x) 2 z zn))))) (ZV (IntKind.i64.wrap ((↑k:Int)+1))=IV (k+1)/\E6 79 z zn (R4 (IV i) bz fB (IV (k+1)) (K2 nk (Md N) (BQ (Rb x) 8 1 38) (Q aN (Ra i k) (Q9 N x) 2 z zn))))) (ZV (IntKind.i64.wrap ((↑k:Int)+1))=IV (k+1)/\E6 79 z zn (R4 (IV i) bz fB (IV (k+1)) (K2 nk (Md N) (BQ (Rb x) 8 1 38) (Q aN (Ra i k) (Q9 N x) 2 z zn))))) (E6 79 z zn (Q YO [] [] 2 z zn))):dP prog gP z (ah (ag f34) 0) 79 (zI i k) z [(0,N.jr),(1,oT x)] 2 zn 2 Q:=K1t hyp ((tA 2 (tO (Yj k) (tO (An.ld 1 kb (AG y.row)) (tA 3 ((tA 7 ((tA 8 ((tA 2 (tE [] [] [(4,Ye)] [] 2 z zn)).fork (tA 2 (tO (Ym k) (tE c8 [] (Ra i k) (Q9 N x) 2 z zn))))).fork (tA 8 (tO (Ym k) (tE c8 [] (Ra i k) (Q9 N x) 2 z zn))))).fork (tA 13 (tO (Ym k) (tE c8 [] (Ra i k) (Q9 N x) 2 z zn)))))))).fork (tA 1 (tE [] [] [] [] 2 z zn)))
abbrev YCm(x:iM):Value:=Value.bool (decide (0<=x.day) && decide (x.day<=36524))
theorem WY(z:T aa)(zn i:Nat)(N:aJ)(kb:aY)(x:iM)(e:Int)(b:Bool)(Q:QF)(hyp:YU i/\i<N.nu/\Rf 766/\Qf z kb/\XO kb i x/\Rf z/\gP 62 [Value.string x.id]=some (Value.bool (bM x.id))/\Br (!bM x.id) (E6 79 z zn (Rs YZ/\Q YZ [] 0 z zn)) (Br (decide (x.u4< -1)) (E6 79 z zn (Rs Yg/\Q Yg [] 0 z zn)) (Br (decide (x.inst<0)) (E6 79 z zn (Rs Yg/\Q Yg [] 0 z zn)) (Rf z/\gP 63 [ZV x.day,YM,I 36524]=some (YCm x)/\Br (!(decide (0<=x.day) && decide (x.day<=36524))) (E6 79 z zn (Rs (I 11)/\Q (I 11) [] 0 z zn)) (Br (decide (x.je<0)) (E6 79 z zn (FX/\Q (I 9) [] 0 z zn)) (Br (decide (x.je>=(↑N.nr:Int))) (E6 79 z zn (FX/\Q (I 9) [] 0 z zn)) (aQ prog z zn 64 (NA x N) [] 0 0 Yy (ND e) cX/\br (sig []) (NA x N)=some (NA x N)/\ ∀(x_1:Unit),True->Rs (ZV e)/\Br (e !=0) (E6 79 z zn (Rs (ZV e)/\Q (ZV e) [] 0 z zn)) (ss/\ai prog (ah (ag f34) 0) 2 79 (zI i 0) [(0,N.jr),(1,oT x)] 2 z zn (alt (b=true) (aw.mk af.ret [(4,Ye)] [] 2 z zn) (alt (b=false) (aw.mk YO [] [] 2 z zn) Al.nil)).R/\E6 79 z zn (R4 (IV i) bz fB YM (K2 nk (Md N) (BQ (Rb x) 8 1 38) ((∀(x:Unit),b=true->E6 79 z zn (Rs Ye/\Q Ye [] 0 z zn))/\ ∀(x:Unit),b=false->E6 79 z zn (I8/\Q YM [] 0 z zn)))))))))))):dM prog gP z f34 [AG N.uu,iv i] z [] 0 zn Q:=K1t hyp (tA 1 (tO (Yj i) (tO (An.ld 1 kb (AG x.row)) (tA 2 (tO (An.cl (Value.bool (bM x.id))) ((tR [] [] YZ [] 0 z zn).fork (tA 1 ((tA 5 (tR [] [] Yg [] 0 z zn)).fork (tA 4 ((tA 2 (tR [] [] Yg [] 0 z zn)).fork (tA 3 (tO (An.cl (YCm x)) ((tR [] [] (I 11) [] 0 z zn).fork (tA 1 ((tA 8 (JA z zn)).fork (tA 8 ((tA 2 (JA z zn)).fork (tA 4 (Tr.cm (Cm.mk (NA x N) [] 0 0 [] [] 2) Unit Yy (ND e) cX (fun(x:Unit)=>ZV e) cX (fD z) (fC zn) fun(x_1:Unit)=>(tA 1 (tR [] [] (ZV e) [] 0 z zn)).fork (tA 1 (Tr.lp 2 79 c8 [] (zI i 0) [(0,N.jr),(1,oT x)] 2 z zn (Al.cons Unit (YR b) (fun(x:Unit)=>aw.mk af.ret [(4,Ye)] [] 2 z zn) (fun(x:Unit)=>tR [] [] Ye [] 0 z zn) (Al.cons Unit (YS b) (fun(x:Unit)=>aw.mk YO [] [] 2 z zn) (UY z zn) Al.nil)))))))))))))))))))))))
end
noncomputable section
abbrev FU:Nat->List Value->Option Value:=fun(x:Nat)(x_1:List Value)=>none
noncomputable abbrev FT(z:T aa)(zn:Nat):Tr:=tR [] [] F0 [] 0 z zn
noncomputable abbrev XN(z:T aa)(zn:Nat):Tr:=(tA 3 ((tA 1 (tR [] [] T1 [] 0 z zn)).fork (tA 1 (FT z zn)))).fork (tA 4 (FT z zn))
theorem gwi(z:T aa)(zn:Nat)(a b:Int)(Q:QF)(hyp:Br (decide (a>=0)) (Br (decide (a<b)) (E6 12 z zn (YA/\Q T1 [] 0 z zn)) (E6 12 z zn (YQ/\Q F0 [] 0 z zn))) (E6 12 z zn (YQ/\Q F0 [] 0 z zn))):dM prog FU z f56 [zv a,zv b] z [] 0 zn Q:=K1t hyp (XN z zn)
theorem gin(z:T aa)(zn:Nat)(n a b:Int)(Q:QF)(hyp:Br (decide (n>=a)) (Br (decide (n<=b)) (E6 15 z zn (YA/\Q T1 [] 0 z zn)) (E6 15 z zn (YQ/\Q F0 [] 0 z zn))) (E6 15 z zn (YQ/\Q F0 [] 0 z zn))):dM prog FU z f63 [zv n,zv a,zv b] z [] 0 zn Q:=K1t hyp (XN z zn)
theorem gpw(z:T aa)(zn:Nat)(n a b:Int)(Q:QF)(hyp:Br (decide (n>=a)) (Br (decide (n<=b)) (E6 15 z zn (YA/\Q T1 [] 0 z zn)) (E6 15 z zn (YQ/\Q F0 [] 0 z zn))) (E6 15 z zn (YQ/\Q F0 [] 0 z zn))):dM prog FU z f58 [zv n,zv a,zv b] z [] 0 zn Q:=K1t hyp (XN z zn)
theorem gkn(z:T aa)(zn:Nat)(n:Int)(Q:QF)(hyp:Br (decide (n>=0)) (Br (decide (n<8)) (E6 9 z zn (YA/\Q T1 [] 0 z zn)) (E6 9 z zn (YQ/\Q F0 [] 0 z zn))) (E6 9 z zn (YQ/\Q F0 [] 0 z zn))):dM prog FU z f54 [zv n] z [] 0 zn Q:=K1t hyp ((tA 2 ((tA 1 (tR [] [] T1 [] 0 z zn)).fork (tA 1 (FT z zn)))).fork (tA 3 (FT z zn)))
theorem gof(z:T aa)(zn:Nat)(a b c:Int)(Q:QF)(hyp:E6 11 z zn (Rs (uP a b c)/\Q (uP a b c) [] 0 z zn)):dM prog FU z f25 [zv a,zv b,zv c] z [] 0 zn Q:=K1t hyp (tA 1 (tR [] [] (uP a b c) [] 0 z zn))
end
noncomputable section
abbrev Jx:Prop:=Rf 510
abbrev Jw(z:T aa)(kb:aY):Prop:=z.get 0=some (YW kb)
abbrev uO(y:aE):Value:=ZV y.fz1
abbrev TB(N:aJ):Value:=Value.slice N.ua N.nu N.uc
abbrev Mc(N:aJ):Value:=SL 510 N.nl N.lc
abbrev AY(N:aJ):aa:=BQ [A0 N,AZ N,TB N,Mc N,Qe N,Jy N,ZV N.d,ZV N.w,ZV N.c] 9 1 31
abbrev UU(i:Nat)(f tt:Int)(j:Nat)(m:Int)(k:Nat):List (Nat × Value):=[dZ i,(2,ZV f),(3,ZV tt),(4,bz),(9,IV j),(10,ZV m),(11,IV (k+1))]
noncomputable abbrev UT:Code:=ah (ag f65) 0
abbrev Nv(N:aJ):List (Nat × aa):=[(0,N.cf N.u0 N.l1)]
theorem Za(z:T aa)(zn i k j:Nat)(N:aJ)(kb:aY)(y:aE)(f tt m:Int)(Q:QL)(hyp:Br (decide ((↑k:Int)<(↑i:Int))) (YU k/\k<N.nl/\Jx/\Jw z kb/\aC prog kb 4 (0+k*5+4)=some (Value.bool y.stay)/\Br y.stay (y.stay=true/\y.stay=true/\y.stay=true/\YU k/\k<N.nl/\y.stay=true/\y.stay=true/\Jx/\Jw z kb/\aC prog kb 3 (0+k*5+0)=some (uO y)/\y.stay=true/\y.stay=true/\Br (y.fz1==f) (y.stay=true/\YU k/\k<N.nl/\Jx/\Jw z kb/\aC prog kb 3 (0+k*5+2)=some (ZV y.aq)/\ZV (IntKind.i64.wrap ((↑k:Int)+1))=IV (k+1)/\E6 48 z zn (R7 (IV i) (ZV f) (ZV tt) bz (IV j) (ZV y.aq) (IV (k+1)) (KO YD (AY N)/\Q aN [dZ i,(2,ZV f),(3,ZV tt),(4,bz),(9,IV j),(10,ZV y.aq),(11,IV (k+1))] [(0,AY N)] 1 z zn))) (y.stay=true/\ZV (IntKind.i64.wrap ((↑k:Int)+1))=IV (k+1)/\E6 48 z zn (R7 (IV i) (ZV f) (ZV tt) bz (IV j) (ZV m) (IV (k+1)) (KO YD (AY N)/\Q aN (UU i f tt j m k) [(0,AY N)] 1 z zn)))) (y.stay=false/\y.stay=false/\y.stay=false/\y.stay=false/\y.stay=false/\y.stay=false/\y.stay=false/\y.stay=false/\ZV (IntKind.i64.wrap ((↑k:Int)+1))=IV (k+1)/\E6 48 z zn (R7 (IV i) (ZV f) (ZV tt) bz (IV j) (ZV m) (IV (k+1)) (KO YD (AY N)/\Q aN (UU i f tt j m k) [(0,AY N)] 1 z zn)))) (E6 48 z zn (R6 (IV i) (ZV f) (ZV tt) bz (IV j) (ZV m) (KO YD (AY N)/\Q Y7 [dZ i,(2,ZV f),(3,ZV tt),(4,bz),(9,IV j),(10,ZV m)] [(0,AY N)] 1 z zn)))):dP prog gP z (ah UT 0) 48 (qT i f tt j m k) z (Nv N) 1 zn 1 Q:=K1t hyp ((tA 2 (tO (Yj k) (tO (An.ld 0 kb (Value.bool y.stay)) ((tO cB (tA 1 (tO cB (tO cB (tO (Yj k) (tO cB (tO cB (tO (An.ld 0 kb (zv y.fz1)) (tO cB (tO cB ((tO cB (tA 2 (tO (Yj k) (tO (An.ld 0 kb (zv y.aq)) (tO (Ym k) (tE YC [] [dZ i,(2,ZV f),(3,ZV tt),(4,bz),(9,IV j),(10,ZV y.aq),(11,IV (k+1))] [(0,AY N)] 1 z zn)))))).fork (tO cB (tA 1 (tO (Ym k) (tE YC [] (UU i f tt j m k) [(0,AY N)] 1 z zn))))))))))))))).fork (tO bJ (tO bJ (tO bJ (tO bJ (tO bJ (tO bJ (tO bJ (tO bJ (tA 1 (tO (Ym k) (tE YC [] (UU i f tt j m k) [(0,AY N)] 1 z zn))))))))))))))).fork (tA 1 (tE YC [] [dZ i,(2,ZV f),(3,ZV tt),(4,bz),(9,IV j),(10,ZV m)] [(0,AY N)] 1 z zn)))
theorem Zb(z:T aa)(zn i j:Nat)(N:aJ)(r f tt:Int)(Q:QL)(hyp:Br (decide ((↑j:Int)<=(↑i:Int))) (YP/\ai prog (ah UT 0) 1 48 (qT i f tt j (-1) 0) (Nv N) 1 z zn (alt True (aw.mk Y7 (GR i f tt j r) (Nv N) 1 z zn) Al.nil).R/\E6 48 z zn (R7 (IV i) (ZV f) (ZV tt) bz (IV j) (J 0) YM (KO YD (AY N)/\ ∀(x:Unit),True->Br (r==tt) (E6 48 z zn (YA/\Q af.ret [(8,T1)] [] 1 z zn)) (ZV (IntKind.i64.wrap ((↑j:Int)+1))=IV (j+1)/\E6 48 z zn (R5 (IV i) (ZV r) (ZV tt) bz (IV (j+1)) (KO YD (AY N)/\Q aN [dZ i,(2,ZV r),(3,ZV tt),(4,bz),Fu j] [(0,AY N)] 1 z zn)))))) (E6 48 z zn (Q YO [] [] 1 z zn))):dP prog gP z UT 48 (Ej i f tt j) z (Nv N) 1 zn 1 Q:=K1t hyp ((tA 1 (Tr.lp 1 48 YC [] (qT i f tt j (-1) 0) (Nv N) 1 z zn (Al.cons Unit Yy (fun(x:Unit)=>aw.mk Y7 (GR i f tt j r) (Nv N) 1 z zn) (fun(x:Unit)=>(tA 1 (tE [] [] [(8,T1)] [] 1 z zn)).fork (tA 1 (tO (Ym j) (tE YC [] [dZ i,(2,ZV r),(3,ZV tt),(4,bz),Fu j] [(0,AY N)] 1 z zn)))) Al.nil))).fork (Yn z zn))
theorem frl(z:T aa)(zn i:Nat)(N:aJ)(f tt:Int)(b:Bool)(Q:QF)(hyp:YP/\ai prog UT 1 48 (Ej i f tt 0) (Nv N) 1 z zn (alt (b=true) (aw.mk af.ret [(8,T1)] [] 1 z zn) (alt (b=false) (aw.mk YO [] [] 1 z zn) Al.nil)).R/\E6 48 z zn (R5 (IV i) (ZV f) (ZV tt) bz YM (KO YD (AY N)/\(∀(x:Unit),b=true->E6 48 z zn (YA/\Q T1 [] 0 z zn))/\ ∀(x:Unit),b=false->E6 48 z zn (YQ/\Q F0 [] 0 z zn)))):dM prog gP z f65 [AG (N.dR N.u0 N.l1),iv i,zv f,zv tt] z [] 0 zn Q:=K1t hyp (Tr.lp 1 48 YC [] (Ej i f tt 0) (Nv N) 1 z zn (Al.cons Unit (YR b) (fun(x:Unit)=>aw.mk af.ret [(8,T1)] [] 1 z zn) (fun(x:Unit)=>tR [] [] T1 [] 0 z zn) (Al.cons Unit (YS b) (fun(x:Unit)=>aw.mk YO [] [] 1 z zn) (fun(x:Unit)=>FT z zn) Al.nil)))
abbrev Q8(kb:aY)(k:Nat)(y:aE):Prop:=aC prog kb 124 (0+k*5)=some (AG [uO y,ZV y.fc,ZV y.aq,ZV y.tc,Value.bool y.stay])
abbrev Qi:Prop:=Rs (I 19)
abbrev Qh(N:aJ):List Value:=[A0 N,AZ N,SL 766 N.nu N.uc,Mc N,Qe N,Jy N,ZV N.d,ZV N.w,ZV N.c]
abbrev FV(N:aJ):Prop:=KO nk (BQ (Qh N) 9 1 31)
abbrev Fs(x:aE):aa:=BQ [uO x,ZV x.fc,ZV x.aq,ZV x.tc,Value.bool x.stay] 5 1 124
abbrev Fq(k:Nat):Nat × Value:=(8,IV (k+1))
abbrev Re(i k:Nat):List (Nat × Value):=[dZ i,(2,bz),(5,fB),Fq k]
abbrev Qg(N:aJ):Nat × aa:=(0,BQ (Qh N) 9 1 31)
abbrev Bh(N:aJ)(x:aE):List (Nat × aa):=[Qg N,(1,Fs x)]
abbrev Jz(N:aJ)(x:aE):List (Nat × aa):=[(0,N.cf N.u1 N.l1),(1,FF x)]
noncomputable abbrev Rd(kb:aY)(y:aE):An:=An.ld 0 kb (AG y.row)
theorem RE(z:T aa)(zn i k:Nat)(N:aJ)(kb:aY)(x y:aE)(Q:QL)(hyp:Br (decide ((↑k:Int)<(↑i:Int))) (YU k/\k<N.nl/\Jx/\Jw z kb/\Q8 kb k y/\Br x.stay (Br y.stay (Br (y.fz1==x.fz1) (E6 177 z zn (Qi/\Q af.ret [(4,I 19)] [] 2 z zn)) (Br (y.aq==x.aq) (E6 177 z zn (Qi/\Q af.ret [(4,I 19)] [] 2 z zn)) (ZV (IntKind.i64.wrap ((↑k:Int)+1))=IV (k+1)/\E6 177 z zn (R4 (IV i) bz fB (IV (k+1)) (FV N/\Rs (Fs x)/\Q aN (Re i k) (Bh N x) 2 z zn))))) (ZV (IntKind.i64.wrap ((↑k:Int)+1))=IV (k+1)/\E6 177 z zn (R4 (IV i) bz fB (IV (k+1)) (FV N/\Rs (Fs x)/\Q aN (Re i k) (Bh N x) 2 z zn)))) (ZV (IntKind.i64.wrap ((↑k:Int)+1))=IV (k+1)/\E6 177 z zn (R4 (IV i) bz fB (IV (k+1)) (FV N/\Rs (Fs x)/\Q aN (Re i k) (Bh N x) 2 z zn)))) (E6 177 z zn (R3 (IV i) bz fB (FV N/\Rs (Fs x)/\Q YO [dZ i,(2,bz),(5,fB)] (Bh N x) 2 z zn)))):dP prog gP z (ah (ag f35) 0) 177 (xF i k) z (Jz N x) 2 zn 2 Q:=K1t hyp ((tA 2 (tO (Yj k) (tO (Rd kb y) (tA 1 ((tA 2 ((tA 8 ((tA 10 (tE [] [] [(4,I 19)] [] 2 z zn)).fork (tA 8 ((tA 4 (tE [] [] [(4,I 19)] [] 2 z zn)).fork (tA 4 (tO (Ym k) (tE c8 [] (Re i k) (Bh N x) 2 z zn))))))).fork (tA 10 (tO (Ym k) (tE c8 [] (Re i k) (Bh N x) 2 z zn))))).fork (tA 12 (tO (Ym k) (tE c8 [] (Re i k) (Bh N x) 2 z zn)))))))).fork (tA 1 (tE c8 [] [dZ i,(2,bz),(5,fB)] (Bh N x) 2 z zn)))
abbrev Ns(i k:Nat):List (Nat × Value):=[dZ i,(2,bz),(5,fB),(10,IV (k+1))]
theorem RD(z:T aa)(zn i k:Nat)(N:aJ)(kb:aY)(x y:aE)(Q:QL)(hyp:Br (decide ((↑k:Int)<(↑i:Int))) (YU k/\k<N.nl/\Jx/\Jw z kb/\Q8 kb k y/\Br (y.fz1==x.fz1) (Br (y.fc==x.fc) (Br (y.aq==x.aq) (Br (y.tc==x.tc) (E6 177 z zn (Rs Ye/\Q af.ret [(4,Ye)] [] 2 z zn)) (ZV (IntKind.i64.wrap ((↑k:Int)+1))=IV (k+1)/\E6 177 z zn (R4 (IV i) bz fB (IV (k+1)) (FV N/\Rs (Fs x)/\Q aN (Ns i k) (Bh N x) 2 z zn)))) (ZV (IntKind.i64.wrap ((↑k:Int)+1))=IV (k+1)/\E6 177 z zn (R4 (IV i) bz fB (IV (k+1)) (FV N/\Rs (Fs x)/\Q aN (Ns i k) (Bh N x) 2 z zn)))) (ZV (IntKind.i64.wrap ((↑k:Int)+1))=IV (k+1)/\E6 177 z zn (R4 (IV i) bz fB (IV (k+1)) (FV N/\Rs (Fs x)/\Q aN (Ns i k) (Bh N x) 2 z zn)))) (ZV (IntKind.i64.wrap ((↑k:Int)+1))=IV (k+1)/\E6 177 z zn (R4 (IV i) bz fB (IV (k+1)) (FV N/\Rs (Fs x)/\Q aN (Ns i k) (Bh N x) 2 z zn)))) (E6 177 z zn (Q Y7 [] [] 2 z zn))):dP prog gP z (ah (ag f35) 1) 177 (zL i k) z (Jz N x) 2 zn 2 Q:=K1t hyp ((tA 2 (tO (Yj k) (tO (Rd kb y) (tA 3 ((tA 7 ((tA 8 ((tA 8 ((tA 2 (tE [] [] [(4,Ye)] [] 2 z zn)).fork (tA 2 (tO (Ym k) (tE c8 [] (Ns i k) (Bh N x) 2 z zn))))).fork (tA 8 (tO (Ym k) (tE c8 [] (Ns i k) (Bh N x) 2 z zn))))).fork (tA 14 (tO (Ym k) (tE c8 [] (Ns i k) (Bh N x) 2 z zn))))).fork (tA 19 (tO (Ym k) (tE c8 [] (Ns i k) (Bh N x) 2 z zn)))))))).fork (tA 1 (tE [] [] [] [] 2 z zn)))
abbrev UO(kr:aY)(f ma ca:Nat):Prop:=aC prog kr 36 (0+f*8+7)=some (SL (tF (6+f)) ma ca)
abbrev Q5(f:Nat):Prop:=Rf (tF (6+f))
abbrev Q4(z:T aa)(f:Nat)(ka:aY):Prop:=z.get (6+f)=some (YW ka)
abbrev Q3(ka:aY)(fc:Nat)(sa:Int):Prop:=aC prog ka 3 (0+fc*5+0)=some (ZV sa)
abbrev YDF(i:Nat)(N:aJ)(x:aE)(z:T aa)(zn:Nat)(va:Bool):Prop:=ai prog (ah (ag f35) 0) 2 177 (xF i 0) (Jz N x) 2 z zn (alt (va=true) (aw.mk af.ret [(4,I 19)] [] 2 z zn) (alt (va=false) (aw.mk YO (Kl i) (Jz N x) 2 z zn) Al.nil)).R
abbrev ga(lb:Bool):Value:=Value.bool lb
abbrev FR(lb:Bool):Unit->Value:=fun(x:Unit)=>ga lb
abbrev YDI(i:Nat)(N:aJ)(x:aE)(z:T aa)(zn:Nat)(vb:Bool):Prop:=ai prog (ah (ag f35) 1) 2 177 (zL i 0) (Jz N x) 2 z zn (alt (vb=true) (aw.mk af.ret [(4,Ye)] [] 2 z zn) (alt (vb=false) (aw.mk Y7 [] [] 2 z zn) Al.nil)).R
noncomputable abbrev YDJ(i:Nat)(N:aJ)(x:aE)(z:T aa)(zn:Nat)(vb:Bool):Tr:=Tr.lp 2 177 c8 [] (zL i 0) (Jz N x) 2 z zn (Al.cons Unit (YR vb) (fun(x:Unit)=>aw.mk af.ret [(4,Ye)] [] 2 z zn) (fun(x:Unit)=>tR [] [] Ye [] 0 z zn) (Al.cons Unit (YS vb) (fun(x:Unit)=>aw.mk Y7 [] [] 2 z zn) (UY z zn) Al.nil))
theorem flk(z:T aa)(zn i:Nat)(N:aJ)(kl kr ka kb:aY)(x:aE)(f tn fc tc ma ca mb cb:Nat)(sa sb:Int)(lb va vb:Bool)(Q:QF)(hyp:YU i/\i<N.nl/\Jx/\Jw z kl/\Q8 kl i x/\WQ1 ((↑N.nu:Int) - 1)/\Rf z/\gP 63 [uO x,YM,ZV ((↑N.nu:Int) - 1)]=some (Value.bool (decide (0<=x.fz1) && decide (x.fz1<=(↑N.nu:Int) - 1)))/\Br (!(decide (0<=x.fz1) && decide (x.fz1<=(↑N.nu:Int) - 1))) ((!(decide (0<=x.fz1) && decide (x.fz1<=(↑N.nu:Int) - 1)))=true/\(!(decide (0<=x.fz1) && decide (x.fz1<=(↑N.nu:Int) - 1)))=true/\(!(decide (0<=x.fz1) && decide (x.fz1<=(↑N.nu:Int) - 1)))=true/\(!(decide (0<=x.fz1) && decide (x.fz1<=(↑N.nu:Int) - 1)))=true/\(!(decide (0<=x.fz1) && decide (x.fz1<=(↑N.nu:Int) - 1)))=true/\(!(decide (0<=x.fz1) && decide (x.fz1<=(↑N.nu:Int) - 1)))=true/\(!(decide (0<=x.fz1) && decide (x.fz1<=(↑N.nu:Int) - 1)))=true/\(!(decide (0<=x.fz1) && decide (x.fz1<=(↑N.nu:Int) - 1)))=true/\E6 177 z zn (FX/\Q (I 9) [] 0 z zn)) ((!(decide (0<=x.fz1) && decide (x.fz1<=(↑N.nu:Int) - 1)))=false/\(!(decide (0<=x.fz1) && decide (x.fz1<=(↑N.nu:Int) - 1)))=false/\(!(decide (0<=x.fz1) && decide (x.fz1<=(↑N.nu:Int) - 1)))=false/\(!(decide (0<=x.fz1) && decide (x.fz1<=(↑N.nu:Int) - 1)))=false/\(!(decide (0<=x.fz1) && decide (x.fz1<=(↑N.nu:Int) - 1)))=false/\WQ1 ((↑N.nu:Int) - 1)/\(!(decide (0<=x.fz1) && decide (x.fz1<=(↑N.nu:Int) - 1)))=false/\Rf z/\gP 63 [ZV x.aq,YM,ZV ((↑N.nu:Int) - 1)]=some (Value.bool (decide (0<=x.aq) && decide (x.aq<=(↑N.nu:Int) - 1)))/\(!(decide (0<=x.fz1) && decide (x.fz1<=(↑N.nu:Int) - 1)))=false/\(!(decide (0<=x.fz1) && decide (x.fz1<=(↑N.nu:Int) - 1)))=false/\Br (!(decide (0<=x.aq) && decide (x.aq<=(↑N.nu:Int) - 1))) ((!(decide (0<=x.aq) && decide (x.aq<=(↑N.nu:Int) - 1)))=true/\(!(decide (0<=x.aq) && decide (x.aq<=(↑N.nu:Int) - 1)))=true/\(!(decide (0<=x.aq) && decide (x.aq<=(↑N.nu:Int) - 1)))=true/\(!(decide (0<=x.aq) && decide (x.aq<=(↑N.nu:Int) - 1)))=true/\(!(decide (0<=x.aq) && decide (x.aq<=(↑N.nu:Int) - 1)))=true/\E6 177 z zn (FX/\Q (I 9) [] 0 z zn)) ((!(decide (0<=x.aq) && decide (x.aq<=(↑N.nu:Int) - 1)))=false/\(!(decide (0<=x.aq) && decide (x.aq<=(↑N.nu:Int) - 1)))=false/\(!(decide (0<=x.aq) && decide (x.aq<=(↑N.nu:Int) - 1)))=false/\(!(decide (0<=x.aq) && decide (x.aq<=(↑N.nu:Int) - 1)))=false/\Br (x.fz1==x.aq) ((!(decide (0<=x.aq) && decide (x.aq<=(↑N.nu:Int) - 1)))=false/\E6 177 z zn (FX/\Q (I 9) [] 0 z zn)) ((!(decide (0<=x.aq) && decide (x.aq<=(↑N.nu:Int) - 1)))=false/\x.fz1=(↑f:Int)/\f<N.nu/\Rf 766/\Qf z kr/\UO kr f ma ca/\x.aq=(↑tn:Int)/\tn<N.nu/\Rf 766/\Qf z kr/\UO kr tn mb cb/\WQ1 ((↑ma:Int) - 1)/\Rf z/\gP 63 [ZV x.fc,YM,ZV ((↑ma:Int) - 1)]=some (Value.bool (decide (0<=x.fc) && decide (x.fc<=(↑ma:Int) - 1)))/\Br (!(decide (0<=x.fc) && decide (x.fc<=(↑ma:Int) - 1))) ((!(decide (0<=x.fc) && decide (x.fc<=(↑ma:Int) - 1)))=true/\(!(decide (0<=x.fc) && decide (x.fc<=(↑ma:Int) - 1)))=true/\(!(decide (0<=x.fc) && decide
 (x.fc<=(↑ma:Int) - 1)))=true/\(!(decide (0<=x.fc) && decide (x.fc<=(↑ma:Int) - 1)))=true/\(!(decide (0<=x.fc) && decide (x.fc<=(↑ma:Int) - 1)))=true/\(!(decide (0<=x.fc) && decide (x.fc<=(↑ma:Int) - 1)))=true/\(!(decide (0<=x.fc) && decide (x.fc<=(↑ma:Int) - 1)))=true/\E6 177 z zn (FX/\Q (I 9) [] 0 z zn)) ((!(decide (0<=x.fc) && decide (x.fc<=(↑ma:Int) - 1)))=false/\(!(decide (0<=x.fc) && decide (x.fc<=(↑ma:Int) - 1)))=false/\(!(decide (0<=x.fc) && decide (x.fc<=(↑ma:Int) - 1)))=false/\(!(decide (0<=x.fc) && decide (x.fc<=(↑ma:Int) - 1)))=false/\WQ1 ((↑mb:Int) - 1)/\(!(decide (0<=x.fc) && decide (x.fc<=(↑ma:Int) - 1)))=false/\Rf z/\gP 63 [ZV x.tc,YM,ZV ((↑mb:Int) - 1)]=some (Value.bool (decide (0<=x.tc) && decide (x.tc<=(↑mb:Int) - 1)))/\(!(decide (0<=x.fc) && decide (x.fc<=(↑ma:Int) - 1)))=false/\(!(decide (0<=x.fc) && decide (x.fc<=(↑ma:Int) - 1)))=false/\Br (!(decide (0<=x.tc) && decide (x.tc<=(↑mb:Int) - 1))) (E6 177 z zn (FX/\Q (I 9) [] 0 z zn)) (x.fc=(↑fc:Int)/\fc<ma/\Q5 f/\Q4 z f ka/\Q3 ka fc sa/\x.tc=(↑tc:Int)/\tc<mb/\Q5 tn/\Q4 z tn kb/\Q3 kb tc sb/\Br (sa !=sb) (E6 177 z zn (Rs (I 13)/\Q (I 13) [] 0 z zn)) (Br x.stay (WQ1 ((↑ma:Int) - 1)/\Br (x.fc !=(↑ma:Int) - 1) (E6 177 z zn (Qi/\Q (I 19) [] 0 z zn)) (Br (x.tc !=0) (E6 177 z zn (Qi/\Q (I 19) [] 0 z zn)) (ss/\YDF i N x z zn va/\E6 177 z zn (R4 (IV i) bz fB YM (FV N/\Rs (Fs x)/\(∀(x:Unit),va=true->E6 177 z zn (Qi/\Q (I 19) [] 0 z zn))/\ ∀(x_1:Unit),va=false->Value.bool x.stay=T1/\aQ prog z zn 65 [AG (Qh N),IV i,ZV x.aq,uO x] [] 0 0 Yy (FR lb) cX/\br (sig []) [AG (Qh N),IV i,ZV x.aq,uO x]=some [AG (Qh N),IV i,ZV x.aq,uO x]/\ ∀(x_2:Unit),True->Rs (ga lb)/\Br lb (E6 177 z zn (Qi/\Q (I 19) [] 0 z zn)) (ss/\YDI i N x z zn vb/\E6 177 z zn (R4 (IV i) bz fB YM (FV N/\Rs (Fs x)/\(∀(x:Unit),vb=true->E6 177 z zn (Rs Ye/\Q Ye [] 0 z zn))/\ ∀(x:Unit),vb=false->E6 177 z zn (I8/\Q YM [] 0 z zn))))))))) (ss/\YDF i N x z zn va/\E6 177 z zn (R4 (IV i) bz fB YM (FV N/\Rs (Fs x)/\(∀(x:Unit),va=true->E6 177 z zn (Qi/\Q (I 19) [] 0 z zn))/\ ∀(x_1:Unit),va=false->Value.bool x.stay=F0/\ss/\YDI i N x z zn vb/\E6 177 z zn (R4 (IV i) bz fB YM (FV N/\Rs (Fs x)/\(∀(x:Unit),vb=true->E6 177 z zn (Rs Ye/\Q Ye [] 0 z zn))/\ ∀(x:Unit),vb=false->E6 177 z zn (I8/\Q YM [] 0 z zn))))))))))))):dM prog gP z f35 [AG (N.dR N.u1 N.l1),iv i] z [] 0 zn Q:=K1t hyp (tA 1 (tO (Yj i) (tO (Rd kl x) (tA 3 (tO (An.val (ZV ((↑N.nu:Int) - 1))) (tO (An.cl (Value.bool (decide (0<=x.fz1) && decide (x.fz1<=(↑N.nu:Int) - 1)))) ((tO cB (tO cB (tO cB (tO cB (tO cB (tO cB (tO cB (tO cB (tA 7 (JA z zn)))))))))).fork (tO bJ (tA 1 (tO bJ (tO bJ (tA 1 (tO bJ (tO bJ (tO (An.val (ZV ((↑N.nu:Int) - 1))) (tO bJ (tO (An.cl (Value.bool (decide (0<=x.aq) && decide (x.aq<=(↑N.nu:Int) - 1)))) (tO bJ (tO bJ ((tO cB (tO cB (tO cB (tO cB (tO cB (tA 1 (JA z zn))))))).fork (tO bJ (tA 1 (tO bJ (tO bJ (tA 1 (tO bJ ((tO bJ (tA 1 (JA z zn))).fork (tO bJ (tA 3 (tO (Yj f) (tO (An.ld 1 kr (tb (6+f)
 ma ca)) (tA 2 (tO (Yj tn) (tO (An.ld 1 kr (tb (6+tn) mb cb)) (tA 1 (tO (An.val (ZV ((↑ma:Int) - 1))) (tO (An.cl (Value.bool (decide (0<=x.fc) && decide (x.fc<=(↑ma:Int) - 1)))) ((tO cB (tO cB (tO cB (tO cB (tO cB (tO cB (tO cB (tA 1 (JA z zn))))))))).fork (tO bJ (tA 1 (tO bJ (tO bJ (tO bJ (tO (An.val (ZV ((↑mb:Int) - 1))) (tO bJ (tO (An.cl (Value.bool (decide (0<=x.tc) && decide (x.tc<=(↑mb:Int) - 1)))) (tO bJ (tO bJ ((JA z zn).fork (tA 1 (tO (Yj fc) (tO (An.ld (6+f) ka (zv sa)) (tA 1 (tO (Yj tc) (tO (An.ld (6+tn) kb (zv sb)) ((tA 1 (tR [] [] (I 13) [] 0 z zn)).fork (tA 1 ((tA 6 (tO (An.val (ZV ((↑ma:Int) - 1))) (tA 1 ((tA 8 (tR [] [] (I 19) [] 0 z zn)).fork (tA 5 ((tA 4 (tR [] [] (I 19) [] 0 z zn)).fork (tA 4 (Tr.lp 2 177 c8 [] (xF i 0) (Jz N x) 2 z zn (Al.cons Unit (YR va) (fun(x:Unit)=>aw.mk af.ret [(4,I 19)] [] 2 z zn) (fun(x:Unit)=>tR [] [] (I 19) [] 0 z zn) (Al.cons Unit (YS va) (fun(x_1:Unit)=>aw.mk YO (Kl i) (Jz N x) 2 z zn) (fun(x_1:Unit)=>tO Rk (tA 10 (Tr.cm (Cm.mk [AG (Qh N),IV i,ZV x.aq,uO x] [] 0 0 [] [] 2) Unit Yy (FR lb) cX (FR lb) cX (fD z) (fC zn) fun(x_2:Unit)=>tA 1 ((tR [] [] (I 19) [] 0 z zn).fork (YDJ i N x z zn vb))))) Al.nil)))))))))).fork (tA 10 (Tr.lp 2 177 c8 [] (xF i 0) (Jz N x) 2 z zn (Al.cons Unit (YR va) (fun(x:Unit)=>aw.mk af.ret [(4,I 19)] [] 2 z zn) (fun(x:Unit)=>tR [] [] (I 19) [] 0 z zn) (Al.cons Unit (YS va) (fun(x_1:Unit)=>aw.mk YO (Kl i) (Jz N x) 2 z zn) (fun(x_1:Unit)=>tO FZ (tA 9 (YDJ i N x z zn vb))) Al.nil))))))))))))))))))))))))))))))))))))))))))))))))))))))))))))))
theorem Xa(z:T aa)(zn i:Nat)(N:aJ)(kl:aY)(x:aE)(Q:QF)(hyp:YU i/\i<N.nl/\Jx/\Jw z kl/\Q8 kl i x/\Rf z/\gP 63 [uO x,YM,J 0]=some F0/\E6 177 z zn (FX/\Q (I 9) [] 0 z zn)):dM prog gP z f35 [AG (N.dR az N.l1),iv i] z [] 0 zn Q:=K1t hyp (tA 1 (tO (Yj i) (tO (Rd kl x) (tA 4 (tO (An.cl F0) (tA 16 (JA z zn)))))))
end
noncomputable section
abbrev YDK(x:aE)(N:aJ):Value:=Value.bool (decide (0<=x.fz1) && decide (x.fz1<(↑N.nu:Int)))
abbrev Q0(i:Nat):Prop:=gP 25 [I 3,IV i,I 9]=some (AG [I 3,IV i,I 9])
abbrev QZ(i:Nat):Prop:=Rs (BQ [I 3,IV i,I 9] 3 1 88)
abbrev Qd(i:Nat):List (Nat × aa):=[(1,BQ [I 3,IV i,I 9] 3 1 88)]
abbrev YDO(x:aE)(N:aJ):Value:=Value.bool (decide (0<=x.aq) && decide (x.aq<(↑N.nu:Int)))
abbrev YDP(i:Nat):Prop:=gP 25 [I 3,IV i,I 13]=some (AG [I 3,IV i,I 13])
abbrev Qc(i:Nat):Prop:=gP 25 [I 3,IV i,I 19]=some (AG [I 3,IV i,I 19])
abbrev Qb(i:Nat):Prop:=Rs (BQ [I 3,IV i,I 19] 3 1 88)
abbrev Nr(i:Nat):List (Nat × aa):=[(1,BQ [I 3,IV i,I 19] 3 1 88)]
abbrev Jv(x:aE):Value:=AG [uO x,ZV x.fc,ZV x.aq,ZV x.tc]
abbrev Cv(x:aE)(ks:List Value):Option (Option (Nat × Value)):=aA prog 72 (Jv x) (Yb ks) 0
abbrev XM(i:Nat):Prop:=gP 25 [I 3,IV i,Ye]=some (AG [I 3,IV i,Ye])
abbrev XL(i:Nat):Prop:=Rs (BQ [I 3,IV i,Ye] 3 1 88)
abbrev UN(i:Nat):List (Nat × aa):=[(1,BQ [I 3,IV i,Ye] 3 1 88)]
abbrev Qa:List (Nat × Nat):=[YB,iH,ny,(3,3),(4,4)]
abbrev QY:Nat->Option Nat:=ay Qa []
abbrev UM(N:aJ):Prop:=KO QY (BQ (Qh N) 9 1 31)
abbrev Fp(ps:List (Int × Int)):aa:=aa.map (iA 0 ps) ps.length
abbrev QX(N:aJ)(i:Nat):List (Nat × Value):=[oJ,(2,fB),(3,MP 2),(4,MP 3),(5,MP 4),(22,Mc N),(23,IV N.nl),(24,IV (i+1))]
abbrev UL(is:List Value):Nat × aa:=(3,aa.map (Yb is) is.length)
noncomputable abbrev QW:Code:=ah (ag f27) 0
noncomputable abbrev QV(i:Nat)(z:T aa)(zn:Nat):Tr:=tO (An.cl (AG [I 3,IV i,I 9])) (tA 1 (tE gy [] eN (Qd i) 5 z zn))
noncomputable abbrev YDg(i:Nat)(z:T aa)(zn:Nat):Tr:=tA 1 (tO (An.cl (AG [I 3,IV i,I 13])) (tA 1 (tE gy [] eN [(1,BQ [I 3,IV i,I 13] 3 1 88)] 5 z zn)))
noncomputable abbrev P9(i:Nat)(z:T aa)(zn:Nat):Tr:=tO (An.cl (AG [I 3,IV i,I 19])) (tA 1 (tE gy [] eN (Nr i) 5 z zn))
noncomputable abbrev XK(i:Nat)(z:T aa)(zn:Nat):Nat->Tr:=fun(i_2:Nat)=>tA 1 (tO (An.cl (AG [I 3,IV i,Ye])) (tA 1 (tE gy [] eN (UN i) 5 z zn)))
theorem rk(z:T aa)(zn i:Nat)(N:aJ)(kl kr ka kb:aY)(x:aE)(f tn fc tc ma ca mb cb:Nat)(sa sb:Int)(lb:Bool)(ps:List (Int × Int))(is ks:List Value)(Q:QL)(hyp:Br (decide ((↑i:Int)<(↑N.nl:Int))) (YU i/\i<N.nl/\Jx/\Jw z kl/\Q8 kl i x/\Rf z/\gP 56 [uO x,IV N.nu]=some (YDK x N)/\Br (!(decide (0<=x.fz1) && decide (x.fz1<(↑N.nu:Int)))) ((!(decide (0<=x.fz1) && decide (x.fz1<(↑N.nu:Int))))=true/\(!(decide (0<=x.fz1) && decide (x.fz1<(↑N.nu:Int))))=true/\(!(decide (0<=x.fz1) && decide (x.fz1<(↑N.nu:Int))))=true/\(!(decide (0<=x.fz1) && decide (x.fz1<(↑N.nu:Int))))=true/\(!(decide (0<=x.fz1) && decide (x.fz1<(↑N.nu:Int))))=true/\(!(decide (0<=x.fz1) && decide (x.fz1<(↑N.nu:Int))))=true/\(!(decide (0<=x.fz1) && decide (x.fz1<(↑N.nu:Int))))=true/\Rf z/\Q0 i/\E6 171 z zn (jx/\QZ i/\Q af.ret eN (Qd i) 5 z zn)) ((!(decide (0<=x.fz1) && decide (x.fz1<(↑N.nu:Int))))=false/\(!(decide (0<=x.fz1) && decide (x.fz1<(↑N.nu:Int))))=false/\(!(decide (0<=x.fz1) && decide (x.fz1<(↑N.nu:Int))))=false/\(!(decide (0<=x.fz1) && decide (x.fz1<(↑N.nu:Int))))=false/\(!(decide (0<=x.fz1) && decide (x.fz1<(↑N.nu:Int))))=false/\Rf z/\gP 56 [ZV x.aq,IV N.nu]=some (YDO x N)/\(!(decide (0<=x.fz1) && decide (x.fz1<(↑N.nu:Int))))=false/\(!(decide (0<=x.fz1) && decide (x.fz1<(↑N.nu:Int))))=false/\Br (!(decide (0<=x.aq) && decide (x.aq<(↑N.nu:Int)))) ((!(decide (0<=x.aq) && decide (x.aq<(↑N.nu:Int))))=true/\(!(decide (0<=x.aq) && decide (x.aq<(↑N.nu:Int))))=true/\(!(decide (0<=x.aq) && decide (x.aq<(↑N.nu:Int))))=true/\(!(decide (0<=x.aq) && decide (x.aq<(↑N.nu:Int))))=true/\(!(decide (0<=x.aq) && decide (x.aq<(↑N.nu:Int))))=true/\Rf z/\Q0 i/\E6 171 z zn (jx/\QZ i/\Q af.ret eN (Qd i) 5 z zn)) ((!(decide (0<=x.aq) && decide (x.aq<(↑N.nu:Int))))=false/\(!(decide (0<=x.aq) && decide (x.aq<(↑N.nu:Int))))=false/\(!(decide (0<=x.aq) && decide (x.aq<(↑N.nu:Int))))=false/\(!(decide (0<=x.aq) && decide (x.aq<(↑N.nu:Int))))=false/\Br (x.fz1==x.aq) ((!(decide (0<=x.aq) && decide (x.aq<(↑N.nu:Int))))=false/\Rf z/\Q0 i/\E6 171 z zn (jx/\QZ i/\Q af.ret eN (Qd i) 5 z zn)) ((!(decide (0<=x.aq) && decide (x.aq<(↑N.nu:Int))))=false/\x.fz1=(↑f:Int)/\f<N.nu/\Rf 766/\Qf z kr/\UO kr f ma ca/\x.aq=(↑tn:Int)/\tn<N.nu/\Rf 766/\Qf z kr/\UO kr tn mb cb/\Rf z/\gP 56 [ZV x.fc,IV ma]=some (Value.bool (decide (0<=x.fc) && decide (x.fc<(↑ma:Int))))/\Br (!(decide (0<=x.fc) && decide (x.fc<(↑ma:Int)))) ((!(decide (0<=x.fc) && decide (x.fc<(↑ma:Int))))=true/\(!(decide (0<=x.fc) && decide (x.fc<(↑ma:Int))))=true/\(!(decide (0<=x.fc) && decide (x.fc<(↑ma:Int))))=true/\(!(decide (0<=x.fc) && decide (x.fc<(↑ma:Int))))=true/\(!(decide (0<=x.fc) && decide (x.fc<(↑ma:Int))))=true/\(!(decide (0<=x.fc) && decide (x.fc<(↑ma:Int))))=true/\Rf z/\Q0 i/\E6 171 z zn (jx/\QZ i/\Q af.ret eN (Qd i) 5 z zn)) ((!(decide (0<=x.fc) && decide (x.fc<(↑ma:Int))))=false/\(!(decide (0<=x.fc) && decide (x.fc<
 (↑ma:Int))))=false/\(!(decide (0<=x.fc) && decide (x.fc<(↑ma:Int))))=false/\(!(decide (0<=x.fc) && decide (x.fc<(↑ma:Int))))=false/\Rf z/\gP 56 [ZV x.tc,IV mb]=some (Value.bool (decide (0<=x.tc) && decide (x.tc<(↑mb:Int))))/\(!(decide (0<=x.fc) && decide (x.fc<(↑ma:Int))))=false/\(!(decide (0<=x.fc) && decide (x.fc<(↑ma:Int))))=false/\Br (!(decide (0<=x.tc) && decide (x.tc<(↑mb:Int)))) (Rf z/\Q0 i/\E6 171 z zn (jx/\QZ i/\Q af.ret eN (Qd i) 5 z zn)) (aA prog 3 (uO x) (iA 0 ps) 0≠none/\(∀(p:Nat × Value),aA prog 3 (uO x) (iA 0 ps) 0=YH p->Exists (YJ p))/\(∀(i_1:Nat × Int),aA prog 3 (uO x) (iA 0 ps) 0=some (some (YI i_1))->x.fc=(↑fc:Int)/\fc<ma/\Q5 f/\Q4 z f ka/\Q3 ka fc sa/\x.tc=(↑tc:Int)/\tc<mb/\Q5 tn/\Q4 z tn kb/\Q3 kb tc sb/\Br (sa !=sb) (Rf z/\YDP i/\E6 171 z zn (jx/\Rs (BQ [I 3,IV i,I 13] 3 1 88)/\Q af.ret eN [(1,BQ [I 3,IV i,I 13] 3 1 88)] 5 z zn)) (Br x.stay (WQ1 (x.fc+1)/\Br (x.fc+1 !=(↑ma:Int)) (Rf z/\Qc i/\E6 171 z zn (jx/\Qb i/\Q af.ret eN (Nr i) 5 z zn)) (Br (x.tc !=0) (Rf z/\Qc i/\E6 171 z zn (jx/\Qb i/\Q af.ret eN (Nr i) 5 z zn)) (Rf z/\Qc i/\E6 171 z zn (jx/\Qb i/\Q af.ret eN (Nr i) 5 z zn)))) (Cv x ks≠none/\(∀(p:Nat × Value),Cv x ks=YH p->Exists (Yc p))/\(∀(i_2:Nat),Cv x ks=Yd i_2->Rf z/\XM i/\E6 171 z zn (jx/\XL i/\Q af.ret eN (UN i) 5 z zn))/\(Cv x ks=YL->Cv x ks=YL/\Value.bool x.stay=F0/\ZV (IntKind.i64.wrap ((↑i:Int)+1))=IV (i+1)/\E6 171 z zn (R8 bz fB (MP 2) (MP 3) (MP 4) (Mc N) (IV N.nl) (IV (i+1)) (UM N/\sr/\K3 QY (Fp ps) (aa.map (Yb is) is.length) (aa.map (Yb ks++[MapEntry.mk (Jv x) T1 ks.length]) (ks.length+1)) (Q aN (QX N i) [Qg N,pS,(2,Fp ps),UL is,(4,aa.map (Yb ks++[MapEntry.mk (Jv x) T1 ks.length]) (ks.length+1))] 5 z zn)))))))/\(aA prog 3 (uO x) (iA 0 ps) 0=YL->x.fc=(↑fc:Int)/\fc<ma/\Q5 f/\Q4 z f ka/\Q3 ka fc sa/\x.tc=(↑tc:Int)/\tc<mb/\Q5 tn/\Q4 z tn kb/\Q3 kb tc sb/\Br (sa !=sb) (Rf z/\YDP i/\E6 171 z zn (jx/\Rs (BQ [I 3,IV i,I 13] 3 1 88)/\Q af.ret eN [(1,BQ [I 3,IV i,I 13] 3 1 88)] 5 z zn)) (Br x.stay (WQ1 (x.fc+1)/\Br (x.fc+1 !=(↑ma:Int)) (Rf z/\Qc i/\E6 171 z zn (jx/\Qb i/\Q af.ret eN (Nr i) 5 z zn)) (Br (x.tc !=0) (Rf z/\Qc i/\E6 171 z zn (jx/\Qb i/\Q af.ret eN (Nr i) 5 z zn)) (aA prog 3 (ZV x.aq) (Yb is) 0≠none/\(∀(p:Nat × Value),aA prog 3 (ZV x.aq) (Yb is) 0=YH p->Exists (Yc p))/\(∀(i_1:Nat),aA prog 3 (ZV x.aq) (Yb is) 0=Yd i_1->Rf z/\Qc i/\E6 171 z zn (jx/\Qb i/\Q af.ret eN (Nr i) 5 z zn))/\(aA prog 3 (ZV x.aq) (Yb is) 0=YL->(aQ prog z zn 57 [YK,ZV x.aq,uO x] [(0,Fp ps)] 1 1 Yy (FR lb) fun(x:Unit)=>[(0,Fp ps)])/\Rs [MP 2,ZV x.aq,uO x]/\KO (sig [(0,2)]) (Fp ps)/\ ∀(x_1:Unit),True->Rs (ga lb)/\KO (sig [(2,0)]) (Fp ps)/\Br lb (Rf z/\Qc i/\E6 171 z zn (jx/\Qb i/\Q af.ret eN (Nr i) 5 z zn)) (Cv x ks≠none/\(∀(p:Nat × Value),Cv x ks=YH p->Exists (Yc p))/\(∀(i_1:Nat),Cv x ks=Yd i_1->Rf z/\XM i/\E6 171 z zn (jx/\XL i/\Q
 af.ret eN (UN i) 5 z zn))/\(Cv x ks=YL->Cv x ks=YL/\Value.bool x.stay=T1/\aA prog 3 (uO x) (iA 0 ps) 0=YL/\aA prog 3 (ZV x.aq) (Yb is) 0=YL/\ZV (IntKind.i64.wrap ((↑i:Int)+1))=IV (i+1)/\E6 171 z zn (R8 bz fB (MP 2) (MP 3) (MP 4) (Mc N) (IV N.nl) (IV (i+1)) (UM N/\sr/\K3 QY (aa.map (iA 0 ps++[MapEntry.mk (uO x) (ZV x.aq) ps.length]) (ps.length+1)) (aa.map (Yb is++[MapEntry.mk (ZV x.aq) T1 is.length]) (is.length+1)) (aa.map (Yb ks++[MapEntry.mk (Jv x) T1 ks.length]) (ks.length+1)) (Q aN (QX N i) [Qg N,pS,(2,aa.map (iA 0 ps++[MapEntry.mk (uO x) (ZV x.aq) ps.length]) (ps.length+1)),(3,aa.map (Yb is++[MapEntry.mk (ZV x.aq) T1 is.length]) (is.length+1)),(4,aa.map (Yb ks++[MapEntry.mk (Jv x) T1 ks.length]) (ks.length+1))] 5 z zn))))))))) (Cv x ks≠none/\(∀(p:Nat × Value),Cv x ks=YH p->Exists (Yc p))/\(∀(i_1:Nat),Cv x ks=Yd i_1->Rf z/\XM i/\E6 171 z zn (jx/\XL i/\Q af.ret eN (UN i) 5 z zn))/\(Cv x ks=YL->Cv x ks=YL/\Value.bool x.stay=F0/\ZV (IntKind.i64.wrap ((↑i:Int)+1))=IV (i+1)/\E6 171 z zn (R8 bz fB (MP 2) (MP 3) (MP 4) (Mc N) (IV N.nl) (IV (i+1)) (UM N/\sr/\K3 QY (Fp ps) (aa.map (Yb is) is.length) (aa.map (Yb ks++[MapEntry.mk (Jv x) T1 ks.length]) (ks.length+1)) (Q aN (QX N i) [Qg N,pS,(2,Fp ps),UL is,(4,aa.map (Yb ks++[MapEntry.mk (Jv x) T1 ks.length]) (ks.length+1))] 5 z zn))))))))))))) (E6 171 z zn (jx/\sr/\Q YO eN [pS] 5 z zn))):dP prog gP z QW 171 (Eo N.nl N.lc i) z [(0,N.cf N.u1 N.l1),nK,(2,tN ps),(3,bd is),(4,bd ks)] 5 zn 5 Q:=K1t hyp ((tA 1 (tO (Yj i) (tO (Rd kl x) (tA 3 (tO (An.cl (YDK x N)) ((tO cB (tO cB (tO cB (tO cB (tO cB (tO cB (tO cB (tA 7 (QV i z zn))))))))).fork (tO bJ (tA 1 (tO bJ (tO bJ (tA 1 (tO bJ (tO bJ (tO (An.cl (YDO x N)) (tO bJ (tO bJ ((tO cB (tO cB (tO cB (tO cB (tO cB (tA 1 (QV i z zn))))))).fork (tO bJ (tA 1 (tO bJ (tO bJ (tA 1 (tO bJ ((tO bJ (tA 1 (QV i z zn))).fork (tO bJ (tA 3 (tO (Yj f) (tO (An.ld 1 kr (tb (6+f) ma ca)) (tA 2 (tO (Yj tn) (tO (An.ld 1 kr (tb (6+tn) mb cb)) (tA 1 (tO (An.cl (Value.bool (decide (0<=x.fc) && decide (x.fc<(↑ma:Int))))) ((tO cB (tO cB (tO cB (tO cB (tO cB (tO cB (tA 1 (QV i z zn)))))))).fork (tO bJ (tA 1 (tO bJ (tO bJ (tO bJ (tO (An.cl (Value.bool (decide (0<=x.tc) && decide (x.tc<(↑mb:Int))))) (tO bJ (tO bJ ((QV i z zn).fork (tA 6 (Tr.find (Nat × Int) YI (fun(i_1:Nat × Int)=>tA 1 (tO (Yj fc) (tO (An.ld (6+f) ka (zv sa)) (tA 1 (tO (Yj tc) (tO (An.ld (6+tn) kb (zv sb)) ((YDg i z zn).fork (tA 1 ((tA 4 (tO (An.val (ZV (x.fc+1))) (tA 3 ((tA 28 (P9 i z zn)).fork (tA 5 ((tA 24 (P9 i z zn)).fork (tA 24 (P9 i z zn)))))))).fork (tA 17 (Tr.find Nat (fun(x:Nat)=>(x,T1)) (XK i z zn) (tA 2 (tO Yl (tO FZ (tA 1 (tO (Ym i) (tE Qa [] (QX N i) [Qg N,pS,(2,Fp ps),UL is,(4,aa.map (Yb ks++[MapEntry.mk (Jv x) T1 ks.length]) (ks.length+1))] 5 z zn))))))))))))))))) (tA 1 (tO (Yj fc) (tO (An.ld (6+f) ka (zv sa)) (tA 1 (tO (Yj tc) (tO (An.ld (6+tn) kb (zv sb)) ((YDg i z
 zn).fork (tA 1 ((tA 4 (tO (An.val (ZV (x.fc+1))) (tA 3 ((tA 28 (P9 i z zn)).fork (tA 5 ((tA 24 (P9 i z zn)).fork (tA 12 (Tr.find Nat (fun(x:Nat)=>(x,T1)) (fun(i_1:Nat)=>tA 13 (P9 i z zn)) (tA 11 (Tr.cm (Cm.mk [YK,ZV x.aq,uO x] [(0,Fp ps)] 1 1 [(0,2)] [(2,0)] 7) Unit Yy (FR lb) (fun(x:Unit)=>[(0,Fp ps)]) (FR lb) (fun(x:Unit)=>[(2,Fp ps)]) (fD z) (fC zn) fun(x_1:Unit)=>tA 3 ((P9 i z zn).fork (tA 1 (Tr.find Nat (fun(x:Nat)=>(x,T1)) (XK i z zn) (tA 2 (tO Yl (tO Rk (tA 4 (tO Yl (tO Yl (tO (Ym i) (tE Qa [] (QX N i) [Qg N,pS,(2,aa.map (iA 0 ps++[MapEntry.mk (uO x) (ZV x.aq) ps.length]) (ps.length+1)),(3,aa.map (Yb is++[MapEntry.mk (ZV x.aq) T1 is.length]) (is.length+1)),(4,aa.map (Yb ks++[MapEntry.mk (Jv x) T1 ks.length]) (ks.length+1))] 5 z zn))))))))))))))))))))).fork (tA 17 (Tr.find Nat (fun(x:Nat)=>(x,T1)) (XK i z zn) (tA 2 (tO Yl (tO FZ (tA 1 (tO (Ym i) (tE Qa [] (QX N i) [Qg N,pS,(2,Fp ps),UL is,(4,aa.map (Yb ks++[MapEntry.mk (Jv x) T1 ks.length]) (ks.length+1))] 5 z zn)))))))))))))))))))))))))))))))))))))))))))))))))))))))))))))).fork (tA 1 (tE gy [] eN [pS] 5 z zn)))
abbrev XJ(N:aJ):List (Nat × aa):=[(0,N.cf az N.l1),nK,(2,Yr),(3,bd []),(4,bd [])]
theorem Zc(z:T aa)(zn i:Nat)(N:aJ)(kl:aY)(x:aE)(Q:QL)(hyp:Br (decide ((↑i:Int)<(↑N.nl:Int))) (YU i/\i<N.nl/\Jx/\Jw z kl/\Q8 kl i x/\Rf z/\gP 56 [uO x,YM]=some F0/\Rf z/\Q0 i/\E6 171 z zn (jx/\QZ i/\Q af.ret eN (Qd i) 5 z zn)) (E6 171 z zn (jx/\sr/\Q YO eN [pS] 5 z zn))):dP prog gP z QW 171 (Eo N.nl N.lc i) z (XJ N) 5 zn 5 Q:=K1t hyp ((tA 1 (tO (Yj i) (tO (Rd kl x) (tA 3 (tO (An.cl F0) (tA 15 (QV i z zn))))))).fork (tA 1 (tE gy [] eN [pS] 5 z zn)))
abbrev Ju:Value:=AG [I 3,YM,I 5]
noncomputable abbrev YDl(r1 r2 r3:Int)(z:T aa)(zn:Nat):aw->Prop:=(alt True (aw.mk af.ret [(2,ip 1)] [(1,cW r1 r2 r3)] 5 z zn) (alt (r1=0/\r2=0/\r3=0) (aw.mk YO [(2,ip 1)] [nK] 5 z zn) Al.nil)).R
noncomputable abbrev YDm(r1 r2 r3:Int)(z:T aa)(zn:Nat):Al:=Al.cons Unit Yy (fun(x:Unit)=>aw.mk af.ret [(2,ip 1)] [(1,cW r1 r2 r3)] 5 z zn) (fun(x:Unit)=>tR [] [] (uP r1 r2 r3) [] 0 z zn) (Al.cons Unit (fun(x:Unit)=>r1=0/\r2=0/\r3=0) (fun(x:Unit)=>aw.mk YO [(2,ip 1)] [nK] 5 z zn) (UW z zn) Al.nil)
theorem fk(z:T aa)(zn:Nat)(N:aJ)(u:Value)(r1 r2 r3:Int)(Q:QF)(hyp:Br (decide ((↑N.nl:Int)>1024)) (Rf z/\gP 25 [I 3,YM,I 5]=some Ju/\E6 171 z zn (Rs Ju/\Q Ju [] 0 z zn)) (Rf 5/\ai prog QW 5 171 (Eo N.nl N.lc 0) [(0,N.cf N.u1 N.l1),nK,(2,Yr),(3,bd []),(4,bd [])] 5 z zn (YDl r1 r2 r3 z zn)/\E6 171 z zn (R8 bz fB (MP 2) (MP 3) (MP 4) (Mc N) (IV N.nl) YM (UM N/\sr/\Ys/\Ys/\Ys/\(∀(x:Unit),True->E6 171 z zn (Rs (uP r1 r2 r3)/\Q (uP r1 r2 r3) [] 0 z zn))/\ ∀(x:Unit),r1=0/\r2=0/\r3=0->E6 171 z zn (Rs w7/\Q w7 [] 0 z zn))))):dM prog gP z f27 [AG (N.dR N.u1 N.l1)] z [] 0 zn Q:=K1t hyp (tA 1 ((tA 1 (tO (An.cl Ju) (tA 1 (tR [] [] Ju [] 0 z zn)))).fork (tA 2 (Tr.lp 5 171 Qa [] (Eo N.nl N.lc 0) [(0,N.cf N.u1 N.l1),nK,(2,Yr),(3,bd []),(4,bd [])] 5 z zn (YDm r1 r2 r3 z zn)))))
theorem fkn(z:T aa)(zn:Nat)(N:aJ)(u:Value)(r1 r2 r3:Int)(Q:QF)(hyp:Br (decide ((↑N.nl:Int)>1024)) (Rf z/\gP 25 [I 3,YM,I 5]=some Ju/\E6 171 z zn (Rs Ju/\Q Ju [] 0 z zn)) (Rf 5/\ai prog QW 5 171 (Eo N.nl N.lc 0) (XJ N) 5 z zn (YDl r1 r2 r3 z zn)/\E6 171 z zn (R8 bz fB (MP 2) (MP 3) (MP 4) (Mc N) (IV N.nl) YM (KO QY (BQ [A0 N,AZ N,Y4,Mc N,Qe N,Jy N,ZV N.d,ZV N.w,ZV N.c] 9 1 31)/\sr/\Ys/\Ys/\Ys/\(∀(x:Unit),True->E6 171 z zn (Rs (uP r1 r2 r3)/\Q (uP r1 r2 r3) [] 0 z zn))/\ ∀(x:Unit),r1=0/\r2=0/\r3=0->E6 171 z zn (Rs w7/\Q w7 [] 0 z zn))))):dM prog gP z f27 [AG (N.dR az N.l1)] z [] 0 zn Q:=K1t hyp (tA 1 ((tA 1 (tO (An.cl Ju) (tA 1 (tR [] [] Ju [] 0 z zn)))).fork (tA 2 (Tr.lp 5 171 Qa [] (Eo N.nl N.lc 0) (XJ N) 5 z zn (YDm r1 r2 r3 z zn)))))
abbrev XI(N:aJ):List (Nat × aa):=[(0,N.cf N.u0 az),nK,(2,Yr),(3,bd []),(4,bd [])]
theorem rkz(z:T aa)(zn:Nat)(N:aJ)(Q:QL)(hyp:E6 171 z zn (jx/\sr/\Q YO eN [pS] 5 z zn)):dP prog gP z QW 171 En z (XI N) 5 zn 5 Q:=K1t hyp (tA 2 (tE gy [] eN [pS] 5 z zn))
theorem fkz(z:T aa)(zn:Nat)(N:aJ)(Q:QF)(hyp:Rf 5/\ai prog QW 5 171 En (XI N) 5 z zn (alt True (aw.mk YO [(2,ip 1)] [nK] 5 z zn) Al.nil).R/\E6 171 z zn (R8 bz fB (MP 2) (MP 3) (MP 4) Y4 YM YM (KO QY (BQ [A0 N,AZ N,TB N,Y4,Qe N,Jy N,ZV N.d,ZV N.w,ZV N.c] 9 1 31)/\sr/\Ys/\Ys/\Ys/\ ∀(x:Unit),True->E6 171 z zn (Rs w7/\Q w7 [] 0 z zn)))):dM prog gP z f27 [AG (N.dR N.u0 az)] z [] 0 zn Q:=K1t hyp (tA 4 (Tr.lp 5 171 Qa [] En (XI N) 5 z zn (Al.cons Unit Yy (fun(x:Unit)=>aw.mk YO [(2,ip 1)] [nK] 5 z zn) (UW z zn) Al.nil)))
end
noncomputable section
abbrev Nq:Prop:=Rf 1534
abbrev Np(z:T aa)(kb:aY):Prop:=z.get 4=some (YW kb)
abbrev Ma(x:ae):Value:=AG [ZV x.fz1,ZV x.aq,ZV x.aH,Value.bool x.sf]
abbrev DN(kb:aY)(i:Nat)(x:ae):Prop:=aC prog kb 82 (0+i*4)=some (Ma x)
abbrev Fo(i:Nat):List (Nat × Value):=[(4,IV i),(5,I 9)]
abbrev No(x:ae):Value:=AG [ZV x.fz1,ZV x.aq,T1]
abbrev eW(m cp:Nat):Value:=SL 1534 m cp
abbrev UK(n:Int)(m cp i:Nat):List (Nat × Value):=[(1,ZV n),(6,YK),(11,eW m cp),(12,IV m),(13,IV (i+1))]
abbrev rM(x:ae):Value:=AG [ZV x.fz1,ZV x.aq,F0]
noncomputable abbrev UJ:Code:=ah (ag f89) 0
noncomputable abbrev Nn(kb:aY)(x:ae):An:=An.ld 4 kb (AG x.row)
noncomputable abbrev Nl(i:Nat)(z:T aa)(zn:Nat):Tr:=tA 2 (tE [] [] (Fo i) [] 1 z zn)
theorem XW(z:T aa)(zn i m cp:Nat)(n:Int)(kb:aY)(x:ae)(ks:List Value)(Q:QL)(hyp:Br (decide ((↑i:Int)<(↑m:Int))) (YU i/\i<m/\Nq/\Np z kb/\DN kb i x/\Br x.sf (Br (decide (x.fz1<0)) (E6 62 z zn (R2 (IV i) (I 9) (Q af.ret (Fo i) [] 1 z zn))) (Br (decide (x.fz1>=n)) (E6 62 z zn (R2 (IV i) (I 9) (Q af.ret (Fo i) [] 1 z zn))) (Br (decide (x.aq<0)) (E6 62 z zn (R2 (IV i) (I 9) (Q af.ret (Fo i) [] 1 z zn))) (Br (decide (x.aq>=n)) (E6 62 z zn (R2 (IV i) (I 9) (Q af.ret (Fo i) [] 1 z zn))) (Br (x.fz1==x.aq) (E6 62 z zn (R2 (IV i) (I 9) (Q af.ret (Fo i) [] 1 z zn))) (Br (decide (x.aH<1)) (E6 62 z zn (R2 (IV i) Yg (Q af.ret [(4,IV i),(5,Yg)] [] 1 z zn))) (Br (decide (x.aH>14400)) (E6 62 z zn (R2 (IV i) Yg (Q af.ret [(4,IV i),(5,Yg)] [] 1 z zn))) (aA prog 217 (No x) (Yb ks) 0≠none/\(∀(p:Nat × Value),aA prog 217 (No x) (Yb ks) 0=YH p->Exists (Yc p))/\(∀(i_1:Nat),aA prog 217 (No x) (Yb ks) 0=Yd i_1->E6 62 z zn (R2 (IV i) Ye (Q af.ret [(4,IV i),(5,Ye)] [] 1 z zn)))/\(aA prog 217 (No x) (Yb ks) 0=YL->aA prog 217 (No x) (Yb ks) 0=YL/\ZV (IntKind.i64.wrap ((↑i:Int)+1))=IV (i+1)/\E6 62 z zn (R5 (ZV n) YK (eW m cp) (IV m) (IV (i+1)) (KO YD (aa.map (Yb ks++[MapEntry.mk (No x) T1 ks.length]) (ks.length+1))/\Q aN (UK n m cp i) [(0,aa.map (Yb ks++[MapEntry.mk (No x) T1 ks.length]) (ks.length+1))] 1 z zn))))))))))) (Br (decide (x.fz1<0)) (E6 62 z zn (R2 (IV i) (I 9) (Q af.ret (Fo i) [] 1 z zn))) (Br (decide (x.fz1>=n)) (E6 62 z zn (R2 (IV i) (I 9) (Q af.ret (Fo i) [] 1 z zn))) (Br (decide (x.aq<0)) (E6 62 z zn (R2 (IV i) (I 9) (Q af.ret (Fo i) [] 1 z zn))) (Br (decide (x.aq>=n)) (E6 62 z zn (R2 (IV i) (I 9) (Q af.ret (Fo i) [] 1 z zn))) (Br (x.fz1==x.aq) (E6 62 z zn (R2 (IV i) (I 9) (Q af.ret (Fo i) [] 1 z zn))) (Br (decide (x.aH<1)) (E6 62 z zn (R2 (IV i) Yg (Q af.ret [(4,IV i),(5,Yg)] [] 1 z zn))) (Br (decide (x.aH>14400)) (E6 62 z zn (R2 (IV i) Yg (Q af.ret [(4,IV i),(5,Yg)] [] 1 z zn))) (aA prog 217 (rM x) (Yb ks) 0≠none/\(∀(p:Nat × Value),aA prog 217 (rM x) (Yb ks) 0=YH p->Exists (Yc p))/\(∀(i_1:Nat),aA prog 217 (rM x) (Yb ks) 0=Yd i_1->E6 62 z zn (R2 (IV i) Ye (Q af.ret [(4,IV i),(5,Ye)] [] 1 z zn)))/\(aA prog 217 (rM x) (Yb ks) 0=YL->aA prog 217 (rM x) (Yb ks) 0=YL/\ZV (IntKind.i64.wrap ((↑i:Int)+1))=IV (i+1)/\E6 62 z zn (R5 (ZV n) YK (eW m cp) (IV m) (IV (i+1)) (KO YD (aa.map (Yb ks++[MapEntry.mk (rM x) T1 ks.length]) (ks.length+1))/\Q aN (UK n m cp i) [(0,aa.map (Yb ks++[MapEntry.mk (rM x) T1 ks.length]) (ks.length+1))] 1 z zn)))))))))))) (E6 62 z zn (Q YO [] [] 1 z zn))):dP prog gP z UJ 62 (zF n m cp i) z [(0,bd ks)] 1 zn 1 Q:=K1t hyp ((tA 1 (tO (Yj i) (tO (Nn kb x) (tA 3 ((tA 2 ((Nl i z zn).fork (tA 2 ((Nl i z zn).fork (tA 2 ((Nl i z zn).fork (tA 2 ((Nl i z zn).fork (tA 3 ((tA 1 (tE [] [] (Fo i) [] 1 z zn)).fork (tA 2 ((tA 2 (tE [] [] [(4,IV
 i),(5,Yg)] [] 1 z zn)).fork (tA 2 ((tA 1 (tE [] [] [(4,IV i),(5,Yg)] [] 1 z zn)).fork (tA 2 (Tr.find Nat (fun(x:Nat)=>(x,T1)) (fun(i_1:Nat)=>tA 1 (tE [] [] [(4,IV i),(5,Ye)] [] 1 z zn)) (tA 2 (tO Yl (tO (Ym i) (tE YC [] (UK n m cp i) [(0,aa.map (Yb ks++[MapEntry.mk (No x) T1 ks.length]) (ks.length+1))] 1 z zn)))))))))))))))))))).fork (tA 2 ((Nl i z zn).fork (tA 2 ((Nl i z zn).fork (tA 2 ((Nl i z zn).fork (tA 2 ((Nl i z zn).fork (tA 3 ((tA 1 (tE [] [] (Fo i) [] 1 z zn)).fork (tA 2 ((tA 2 (tE [] [] [(4,IV i),(5,Yg)] [] 1 z zn)).fork (tA 2 ((tA 1 (tE [] [] [(4,IV i),(5,Yg)] [] 1 z zn)).fork (tA 2 (Tr.find Nat (fun(x:Nat)=>(x,T1)) (fun(i_1:Nat)=>tA 1 (tE [] [] [(4,IV i),(5,Ye)] [] 1 z zn)) (tA 2 (tO Yl (tO (Ym i) (tE YC [] (UK n m cp i) [(0,aa.map (Yb ks++[MapEntry.mk (rM x) T1 ks.length]) (ks.length+1))] 1 z zn))))))))))))))))))))))))).fork (Yn z zn))
theorem fso(z:T aa)(zn m cp:Nat)(n r1 r2:Int)(Q:QF)(hyp:YP/\ai prog UJ 1 62 (zF n m cp 0) Yq 1 z zn (iE z zn 1 4 5 0 r1 r2).R/\E6 62 z zn (R5 (ZV n) YK (eW m cp) (IV m) YM (Ys/\(∀(x:Unit),True->E6 62 z zn (Yu r1 r2/\Q (Yt r1 r2) [] 0 z zn))/\ ∀(x:Unit),r1=0/\r2=0->E6 62 z zn (Yw/\Q Yv [] 0 z zn)))):dM prog gP z f89 [tb 4 m cp,zv n] z [] 0 zn Q:=K1t hyp (Tr.lp 1 62 YC [] (zF n m cp 0) Yq 1 z zn (Al.cons Unit Yy (fun(x:Unit)=>aw.mk af.ret [(4,zv r1),(5,zv r2)] [] 1 z zn) (Yz r1 r2 z zn) (Al.cons Unit (Y0 r1 r2) (fun(x:Unit)=>aw.mk YO [] [] 1 z zn) (Y1 z zn) Al.nil)))
theorem Vs(z:T aa)(zn:Nat)(n:Int)(Q:QL)(hyp:E6 62 z zn (Q YO [] [] 1 z zn)):dP prog gP z UJ 62 (vS n) z Yq 1 zn 1 Q:=K1t hyp (tA 2 (tE [] [] [] [] 1 z zn))
theorem WX(z:T aa)(zn:Nat)(n:Int)(Q:QF)(hyp:YP/\ai prog UJ 1 62 (vS n) Yq 1 z zn (Y3 z zn)/\E6 62 z zn (R5 (ZV n) YK Y4 YM YM (Ys/\ ∀(x:Unit),True->E6 62 z zn (Yw/\Q Yv [] 0 z zn)))):dM prog gP z f89 [az,zv n] z [] 0 zn Q:=K1t hyp (Tr.lp 1 62 YC [] (vS n) Yq 1 z zn (Y5 z zn))
abbrev US(x:ae)(N:aJ):Value:=Value.bool (decide (0<=x.fz1) && decide (x.fz1<(↑N.ns:Int)))
abbrev Q7(i:Nat):Prop:=gP 25 [I 4,IV i,I 9]=some (AG [I 4,IV i,I 9])
abbrev Q6(i:Nat):Prop:=Rs (BQ [I 4,IV i,I 9] 3 1 88)
abbrev Mb(i:Nat):List (Nat × aa):=[(1,BQ [I 4,IV i,I 9] 3 1 88)]
abbrev UR(x:ae)(N:aJ):Value:=Value.bool (decide (0<=x.aq) && decide (x.aq<(↑N.ns:Int)))
abbrev UQ(i:Nat):Prop:=gP 25 [I 4,IV i,Yg]=some (AG [I 4,IV i,Yg])
abbrev UP(i:Nat):Prop:=Rs (BQ [I 4,IV i,Yg] 3 1 88)
abbrev Nu(i:Nat):List (Nat × aa):=[(1,BQ [I 4,IV i,Yg] 3 1 88)]
abbrev Nt(x:ae):Value:=AG [ZV x.fz1,ZV x.aq,YM,T1]
abbrev I7(N:aJ):Value:=SL 1534 N.np N.pc
abbrev lN(N:aJ):aa:=BQ [A0 N,AZ N,TB N,TD N,I7 N,Jy N,ZV N.d,ZV N.w,ZV N.c] 9 1 31
abbrev UH(N:aJ)(i:Nat):List (Nat × Value):=[oJ,(2,fB),(3,MP 2),(9,I7 N),(10,IV N.np),(11,IV (i+1))]
abbrev Nk(x:ae):Value:=AG [ZV x.fz1,ZV x.aq,YM,F0]
noncomputable abbrev UG:Code:=ah (ag f29) 0
abbrev yz(N:aJ):Nat × aa:=(0,N.bT N.p1)
noncomputable abbrev YEF(i:Nat)(z:T aa)(zn:Nat):Tr:=tO cB (tO cB (tO cB (tO cB (tO cB (tO cB (tO cB (tA 7 (tO (An.cl (AG [I 4,IV i,I 9])) (tA 1 (tE gy [] eN (Mb i) 3 z zn))))))))))
noncomputable abbrev YEG(i:Nat)(z:T aa)(zn:Nat):Tr:=tO cB (tO cB (tO cB (tO cB (tO cB (tA 1 (tO (An.cl (AG [I 4,IV i,I 9])) (tA 1 (tE gy [] eN (Mb i) 3 z zn))))))))
noncomputable abbrev YEH(i:Nat)(z:T aa)(zn:Nat):Tr:=tO bJ (tA 1 (tO (An.cl (AG [I 4,IV i,I 9])) (tA 1 (tE gy [] eN (Mb i) 3 z zn))))
noncomputable abbrev YEI(i:Nat)(z:T aa)(zn:Nat):Nat->Tr:=fun(i_1:Nat)=>tA 1 (tO (An.cl (AG [I 4,IV i,Ye])) (tA 1 (tE gy [] eN [(1,BQ [I 4,IV i,Ye] 3 1 88)] 3 z zn)))
theorem Ze(z:T aa)(zn i:Nat)(N:aJ)(kb:aY)(x:ae)(ks:List Value)(Q:QL)(hyp:Br (decide ((↑i:Int)<(↑N.np:Int))) (YU i/\i<N.np/\Nq/\Np z kb/\DN kb i x/\Br x.sf (Rf z/\gP 56 [ZV x.fz1,IV N.ns]=some (US x N)/\Br (!(decide (0<=x.fz1) && decide (x.fz1<(↑N.ns:Int)))) ((!(decide (0<=x.fz1) && decide (x.fz1<(↑N.ns:Int))))=true/\(!(decide (0<=x.fz1) && decide (x.fz1<(↑N.ns:Int))))=true/\(!(decide (0<=x.fz1) && decide (x.fz1<(↑N.ns:Int))))=true/\(!(decide (0<=x.fz1) && decide (x.fz1<(↑N.ns:Int))))=true/\(!(decide (0<=x.fz1) && decide (x.fz1<(↑N.ns:Int))))=true/\(!(decide (0<=x.fz1) && decide (x.fz1<(↑N.ns:Int))))=true/\(!(decide (0<=x.fz1) && decide (x.fz1<(↑N.ns:Int))))=true/\Rf z/\Q7 i/\E6 78 z zn (jx/\Q6 i/\Q af.ret eN (Mb i) 3 z zn)) ((!(decide (0<=x.fz1) && decide (x.fz1<(↑N.ns:Int))))=false/\(!(decide (0<=x.fz1) && decide (x.fz1<(↑N.ns:Int))))=false/\(!(decide (0<=x.fz1) && decide (x.fz1<(↑N.ns:Int))))=false/\(!(decide (0<=x.fz1) && decide (x.fz1<(↑N.ns:Int))))=false/\(!(decide (0<=x.fz1) && decide (x.fz1<(↑N.ns:Int))))=false/\Rf z/\gP 56 [ZV x.aq,IV N.ns]=some (UR x N)/\(!(decide (0<=x.fz1) && decide (x.fz1<(↑N.ns:Int))))=false/\(!(decide (0<=x.fz1) && decide (x.fz1<(↑N.ns:Int))))=false/\Br (!(decide (0<=x.aq) && decide (x.aq<(↑N.ns:Int)))) ((!(decide (0<=x.aq) && decide (x.aq<(↑N.ns:Int))))=true/\(!(decide (0<=x.aq) && decide (x.aq<(↑N.ns:Int))))=true/\(!(decide (0<=x.aq) && decide (x.aq<(↑N.ns:Int))))=true/\(!(decide (0<=x.aq) && decide (x.aq<(↑N.ns:Int))))=true/\(!(decide (0<=x.aq) && decide (x.aq<(↑N.ns:Int))))=true/\Rf z/\Q7 i/\E6 78 z zn (jx/\Q6 i/\Q af.ret eN (Mb i) 3 z zn)) ((!(decide (0<=x.aq) && decide (x.aq<(↑N.ns:Int))))=false/\(!(decide (0<=x.aq) && decide (x.aq<(↑N.ns:Int))))=false/\(!(decide (0<=x.aq) && decide (x.aq<(↑N.ns:Int))))=false/\(!(decide (0<=x.aq) && decide (x.aq<(↑N.ns:Int))))=false/\Br (x.fz1==x.aq) ((!(decide (0<=x.aq) && decide (x.aq<(↑N.ns:Int))))=false/\Rf z/\Q7 i/\E6 78 z zn (jx/\Q6 i/\Q af.ret eN (Mb i) 3 z zn)) ((!(decide (0<=x.aq) && decide (x.aq<(↑N.ns:Int))))=false/\Br (decide (x.aH<1)) (Rf z/\UQ i/\E6 78 z zn (jx/\UP i/\Q af.ret eN (Nu i) 3 z zn)) (Br (decide (x.aH>14400)) (Rf z/\UQ i/\E6 78 z zn (jx/\UP i/\Q af.ret eN (Nu i) 3 z zn)) (aA prog 82 (Nt x) (Yb ks) 0≠none/\(∀(p:Nat × Value),aA prog 82 (Nt x) (Yb ks) 0=YH p->Exists (Yc p))/\(∀(i_1:Nat),aA prog 82 (Nt x) (Yb ks) 0=Yd i_1->Rf z/\gP 25 [I 4,IV i,Ye]=some (AG [I 4,IV i,Ye])/\E6 78 z zn (jx/\Rs (BQ [I 4,IV i,Ye] 3 1 88)/\Q af.ret eN [(1,BQ [I 4,IV i,Ye] 3 1 88)] 3 z zn))/\(aA prog 82 (Nt x) (Yb ks) 0=YL->aA prog 82 (Nt x) (Yb ks) 0=YL/\ZV (IntKind.i64.wrap ((↑i:Int)+1))=IV (i+1)/\E6 78 z zn (R6 bz fB (MP 2) (I7 N) (IV N.np) (IV (i+1)) (KO vn (lN N)/\sr/\KO vn (aa.map (Yb ks++[MapEntry.mk (Nt x) T1 ks.length]) (ks.length+1))/\Q aN (UH N i) [(0,lN N),pS,(2,aa.map (Yb
 ks++[MapEntry.mk (Nt x) T1 ks.length]) (ks.length+1))] 3 z zn))))))))) (Rf z/\gP 56 [ZV x.fz1,IV N.ns]=some (US x N)/\Br (!(decide (0<=x.fz1) && decide (x.fz1<(↑N.ns:Int)))) ((!(decide (0<=x.fz1) && decide (x.fz1<(↑N.ns:Int))))=true/\(!(decide (0<=x.fz1) && decide (x.fz1<(↑N.ns:Int))))=true/\(!(decide (0<=x.fz1) && decide (x.fz1<(↑N.ns:Int))))=true/\(!(decide (0<=x.fz1) && decide (x.fz1<(↑N.ns:Int))))=true/\(!(decide (0<=x.fz1) && decide (x.fz1<(↑N.ns:Int))))=true/\(!(decide (0<=x.fz1) && decide (x.fz1<(↑N.ns:Int))))=true/\(!(decide (0<=x.fz1) && decide (x.fz1<(↑N.ns:Int))))=true/\Rf z/\Q7 i/\E6 78 z zn (jx/\Q6 i/\Q af.ret eN (Mb i) 3 z zn)) ((!(decide (0<=x.fz1) && decide (x.fz1<(↑N.ns:Int))))=false/\(!(decide (0<=x.fz1) && decide (x.fz1<(↑N.ns:Int))))=false/\(!(decide (0<=x.fz1) && decide (x.fz1<(↑N.ns:Int))))=false/\(!(decide (0<=x.fz1) && decide (x.fz1<(↑N.ns:Int))))=false/\(!(decide (0<=x.fz1) && decide (x.fz1<(↑N.ns:Int))))=false/\Rf z/\gP 56 [ZV x.aq,IV N.ns]=some (UR x N)/\(!(decide (0<=x.fz1) && decide (x.fz1<(↑N.ns:Int))))=false/\(!(decide (0<=x.fz1) && decide (x.fz1<(↑N.ns:Int))))=false/\Br (!(decide (0<=x.aq) && decide (x.aq<(↑N.ns:Int)))) ((!(decide (0<=x.aq) && decide (x.aq<(↑N.ns:Int))))=true/\(!(decide (0<=x.aq) && decide (x.aq<(↑N.ns:Int))))=true/\(!(decide (0<=x.aq) && decide (x.aq<(↑N.ns:Int))))=true/\(!(decide (0<=x.aq) && decide (x.aq<(↑N.ns:Int))))=true/\(!(decide (0<=x.aq) && decide (x.aq<(↑N.ns:Int))))=true/\Rf z/\Q7 i/\E6 78 z zn (jx/\Q6 i/\Q af.ret eN (Mb i) 3 z zn)) ((!(decide (0<=x.aq) && decide (x.aq<(↑N.ns:Int))))=false/\(!(decide (0<=x.aq) && decide (x.aq<(↑N.ns:Int))))=false/\(!(decide (0<=x.aq) && decide (x.aq<(↑N.ns:Int))))=false/\(!(decide (0<=x.aq) && decide (x.aq<(↑N.ns:Int))))=false/\Br (x.fz1==x.aq) ((!(decide (0<=x.aq) && decide (x.aq<(↑N.ns:Int))))=false/\Rf z/\Q7 i/\E6 78 z zn (jx/\Q6 i/\Q af.ret eN (Mb i) 3 z zn)) ((!(decide (0<=x.aq) && decide (x.aq<(↑N.ns:Int))))=false/\Br (decide (x.aH<1)) (Rf z/\UQ i/\E6 78 z zn (jx/\UP i/\Q af.ret eN (Nu i) 3 z zn)) (Br (decide (x.aH>14400)) (Rf z/\UQ i/\E6 78 z zn (jx/\UP i/\Q af.ret eN (Nu i) 3 z zn)) (aA prog 82 (Nk x) (Yb ks) 0≠none/\(∀(p:Nat × Value),aA prog 82 (Nk x) (Yb ks) 0=YH p->Exists (Yc p))/\(∀(i_1:Nat),aA prog 82 (Nk x) (Yb ks) 0=Yd i_1->Rf z/\gP 25 [I 4,IV i,Ye]=some (AG [I 4,IV i,Ye])/\E6 78 z zn (jx/\Rs (BQ [I 4,IV i,Ye] 3 1 88)/\Q af.ret eN [(1,BQ [I 4,IV i,Ye] 3 1 88)] 3 z zn))/\(aA prog 82 (Nk x) (Yb ks) 0=YL->aA prog 82 (Nk x) (Yb ks) 0=YL/\ZV (IntKind.i64.wrap ((↑i:Int)+1))=IV (i+1)/\E6 78 z zn (R6 bz fB (MP 2) (I7 N) (IV N.np) (IV (i+1)) (KO vn (lN N)/\sr/\KO vn (aa.map (Yb ks++[MapEntry.mk (Nk x) T1 ks.length]) (ks.length+1))/\Q aN (UH N i) [(0,lN N),pS,(2,aa.map (Yb ks++[MapEntry.mk (Nk x) T1 ks.length]) (ks.length+1))] 3 z zn)))))))))) (E6 78 z zn (R2 bz fB (KO nk (lN
 N)/\sr/\Q YO [oJ,(2,fB)] [(0,lN N),pS] 3 z zn)))):dP prog gP z UG 78 (zO N.np N.pc i) z [yz N,nK,(2,bd ks)] 3 zn 3 Q:=K1t hyp ((tA 1 (tO (Yj i) (tO (Nn kb x) (tA 3 ((tA 3 (tO (An.cl (US x N)) ((YEF i z zn).fork (tO bJ (tA 1 (tO bJ (tO bJ (tA 1 (tO bJ (tO bJ (tO (An.cl (UR x N)) (tO bJ (tO bJ ((YEG i z zn).fork (tO bJ (tA 1 (tO bJ (tO bJ (tA 1 (tO bJ ((YEH i z zn).fork (tO bJ (tA 2 ((tA 5 (tO (An.cl (AG [I 4,IV i,Yg])) (tA 1 (tE gy [] eN (Nu i) 3 z zn)))).fork (tA 4 ((tA 2 (tO (An.cl (AG [I 4,IV i,Yg])) (tA 1 (tE gy [] eN (Nu i) 3 z zn)))).fork (tA 3 (Tr.find Nat (fun(x:Nat)=>(x,T1)) (YEI i z zn) (tA 2 (tO Yl (tO (Ym i) (tE Bf [] (UH N i) [(0,lN N),pS,(2,aa.map (Yb ks++[MapEntry.mk (Nt x) T1 ks.length]) (ks.length+1))] 3 z zn)))))))))))))))))))))))))))))))).fork (tA 3 (tO (An.cl (US x N)) ((YEF i z zn).fork (tO bJ (tA 1 (tO bJ (tO bJ (tA 1 (tO bJ (tO bJ (tO (An.cl (UR x N)) (tO bJ (tO bJ ((YEG i z zn).fork (tO bJ (tA 1 (tO bJ (tO bJ (tA 1 (tO bJ ((YEH i z zn).fork (tO bJ (tA 2 ((tA 5 (tO (An.cl (AG [I 4,IV i,Yg])) (tA 1 (tE gy [] eN (Nu i) 3 z zn)))).fork (tA 4 ((tA 2 (tO (An.cl (AG [I 4,IV i,Yg])) (tA 1 (tE gy [] eN (Nu i) 3 z zn)))).fork (tA 3 (Tr.find Nat (fun(x:Nat)=>(x,T1)) (YEI i z zn) (tA 2 (tO Yl (tO (Ym i) (tE Bf [] (UH N i) [(0,lN N),pS,(2,aa.map (Yb ks++[MapEntry.mk (Nk x) T1 ks.length]) (ks.length+1))] 3 z zn))))))))))))))))))))))))))))))))))))).fork (tA 1 (tE c8 [] [oJ,(2,fB)] [(0,lN N),pS] 3 z zn)))
abbrev P7:Value:=AG [I 4,YM,I 18]
abbrev YEK:Prop:=gP 25 [I 4,YM,I 18]=some P7
abbrev TA(r1:Int):Unit->Prop:=fun(x:Unit)=>r1≠0
noncomputable abbrev YEM(z:T aa)(zn:Nat):Unit->Tr:=fun(x:Unit)=>(tO (An.cl P7) (tA 1 (tR [] [] P7 [] 0 z zn))).fork (tA 1 (tR [] [] w7 [] 0 z zn))
theorem fcp(z:T aa)(zn:Nat)(N:aJ)(r1 r2 r3:Int)(cl:Bool)(Q:QF)(hyp:Be/\ai prog UG 3 78 (zO N.np N.pc 0) [yz N,nK,(2,bd [])] 3 z zn (alt (r1≠0) (aw.mk af.ret [(2,ip 1)] [(1,cW r1 r2 r3)] 3 z zn) (alt (r1=0) (aw.mk YO [(1,ip 0),(2,ip 1)] [yz N,nK] 3 z zn) Al.nil)).R/\E6 78 z zn (R6 bz fB (MP 2) (I7 N) (IV N.np) YM (KO vn (lN N)/\sr/\Ys/\(∀(x:Unit),r1≠0->E6 78 z zn (Rs (uP r1 r2 r3)/\Q (uP r1 r2 r3) [] 0 z zn))/\ ∀(x:Unit),r1=0->aQ prog z zn 59 [I7 N,IV N.ns] [] 0 0 Yy (FR cl) cX/\Rs [I7 N,IV N.ns]/\ ∀(x:Unit),True->Rs (ga cl)/\Br (!cl) (Rf z/\YEK/\E6 78 z zn (Rs P7/\Q P7 [] 0 z zn)) (E6 78 z zn (Rs w7/\Q w7 [] 0 z zn))))):dM prog gP z f29 [AG (N.gQ N.p1)] z [] 0 zn Q:=K1t hyp (tA 1 (Tr.lp 3 78 Bf [] (zO N.np N.pc 0) [yz N,nK,(2,bd [])] 3 z zn (Al.cons Unit (TA r1) (fun(x:Unit)=>aw.mk af.ret [(2,ip 1)] [(1,cW r1 r2 r3)] 3 z zn) (fun(x:Unit)=>tR [] [] (uP r1 r2 r3) [] 0 z zn) (Al.cons Unit (TG r1) (fun(x:Unit)=>aw.mk YO [(1,ip 0),(2,ip 1)] [yz N,nK] 3 z zn) (fun(x:Unit)=>tA 2 (Tr.cm (Cm.mk [I7 N,IV N.ns] [] 0 0 [] [] 3) Unit Yy (FR cl) cX (FR cl) cX (fD z) (fC zn) (YEM z zn))) Al.nil))))
abbrev L8(N:aJ):aa:=BQ [A0 N,AZ N,TB N,TD N,Y4,Jy N,ZV N.d,ZV N.w,ZV N.c] 9 1 31
abbrev XH(N:aJ):List (Nat × aa):=[(0,N.bT az),nK,(2,bd [])]
theorem VH(z:T aa)(zn:Nat)(N:aJ)(Q:QL)(hyp:E6 78 z zn (R2 bz fB (KO nk (L8 N)/\sr/\Q YO [oJ,(2,fB)] [(0,L8 N),pS] 3 z zn))):dP prog gP z UG 78 wa z (XH N) 3 zn 3 Q:=K1t hyp (tA 2 (tE c8 [] [oJ,(2,fB)] [(0,L8 N),pS] 3 z zn))
theorem Xb(z:T aa)(zn:Nat)(N:aJ)(cl:Bool)(Q:QF)(hyp:Be/\ai prog UG 3 78 wa (XH N) 3 z zn (alt True (aw.mk YO [(1,ip 0),(2,ip 1)] [(0,N.bT az),nK] 3 z zn) Al.nil).R/\E6 78 z zn (R6 bz fB (MP 2) Y4 YM YM (KO vn (L8 N)/\sr/\Ys/\ ∀(x:Unit),True->aQ prog z zn 59 [Y4,IV N.ns] [] 0 0 Yy (FR cl) cX/\Rs [Y4,IV N.ns]/\ ∀(x:Unit),True->Rs (ga cl)/\Br (!cl) (Rf z/\YEK/\E6 78 z zn (Rs P7/\Q P7 [] 0 z zn)) (E6 78 z zn (Rs w7/\Q w7 [] 0 z zn))))):dM prog gP z f29 [AG (N.gQ az)] z [] 0 zn Q:=K1t hyp (tA 1 (Tr.lp 3 78 Bf [] wa (XH N) 3 z zn (Al.cons Unit Yy (fun(x:Unit)=>aw.mk YO [(1,ip 0),(2,ip 1)] [(0,N.bT az),nK] 3 z zn) (fun(x:Unit)=>tA 2 (Tr.cm (Cm.mk [Y4,IV N.ns] [] 0 0 [] [] 3) Unit Yy (FR cl) cX (FR cl) cX (fD z) (fC zn) (YEM z zn))) Al.nil)))
end
noncomputable section
theorem Vw(z:T aa)(zn:Nat)(Q:QL)(hyp:E6 57 z zn (Q YO [] [] 0 z zn)):dP prog gP z Y8 57 tQ z [] 0 zn 0 Q:=K1t hyp (tA 2 (tE [] [] [] [] 0 z zn))
noncomputable abbrev UF(z:T aa)(zn:Nat):aw->Prop:=(alt True (aw.mk YO [] [] 0 z zn) Al.nil).R
theorem W1(z:T aa)(zn:Nat)(Q:QF)(hyp:Y9/\ai prog Y8 0 57 tQ [] 0 z zn (UF z zn)/\E6 57 z zn (R2 Y4 YM (∀(x:Unit),True->E6 57 z zn (Yw/\Q Yv [] 0 z zn)))):dM prog gP z f32 [az] z [] 0 zn Q:=K1t hyp (tA 2 (Tr.lp 0 57 [] [] tQ [] 0 z zn (Al.cons Unit Yy (Qj z zn) (Y1 z zn) Al.nil)))
theorem Vx(z:T aa)(zn:Nat)(Q:QL)(hyp:E6 48 z zn (Q YO [] [] 0 z zn)):dP prog gP z Rj 48 tQ z [] 0 zn 0 Q:=K1t hyp (tA 2 (tE [] [] [] [] 0 z zn))
theorem W2(z:T aa)(zn:Nat)(Q:QF)(hyp:Y9/\ai prog Rj 0 48 tQ [] 0 z zn (UF z zn)/\E6 48 z zn (R2 Y4 YM (∀(x:Unit),True->E6 48 z zn (Yw/\Q Yv [] 0 z zn)))):dM prog gP z f33 [az] z [] 0 zn Q:=K1t hyp (tA 2 (Tr.lp 0 48 [] [] tQ [] 0 z zn (Al.cons Unit Yy (Qj z zn) (Y1 z zn) Al.nil)))
theorem Vy(z:T aa)(zn:Nat)(d w c:Int)(Q:QL)(hyp:E6 88 z zn (Q YO [] [] 1 z zn)):dP prog gP z Rg 88 (rF 0) z [(0,ve az d w c)] 1 zn 1 Q:=K1t hyp (tA 3 (tE [] [] [] [] 1 z zn))
theorem W3(z:T aa)(zn:Nat)(d w c:Int)(Q:QF)(hyp:Rf z/\UZ d/\Br (!(decide (0<=d) && decide (d<=1000000))) ((!(decide (0<=d) && decide (d<=1000000)))=true/\(!(decide (0<=d) && decide (d<=1000000)))=true/\(!(decide (0<=d) && decide (d<=1000000)))=true/\(!(decide (0<=d) && decide (d<=1000000)))=true/\E6 88 z zn (FY/\Q DP [] 0 z zn)) ((!(decide (0<=d) && decide (d<=1000000)))=false/\(!(decide (0<=d) && decide (d<=1000000)))=false/\Rf z/\gP 63 [ZV w,YM,I 86400]=some (NC w)/\(!(decide (0<=d) && decide (d<=1000000)))=false/\(!(decide (0<=d) && decide (d<=1000000)))=false/\Br (!(decide (0<=w) && decide (w<=86400))) ((!(decide (0<=w) && decide (w<=86400)))=true/\(!(decide (0<=w) && decide (w<=86400)))=true/\(!(decide (0<=w) && decide (w<=86400)))=true/\(!(decide (0<=w) && decide (w<=86400)))=true/\E6 88 z zn (FY/\Q DP [] 0 z zn)) ((!(decide (0<=w) && decide (w<=86400)))=false/\(!(decide (0<=w) && decide (w<=86400)))=false/\Rf z/\UZ c/\(!(decide (0<=w) && decide (w<=86400)))=false/\(!(decide (0<=w) && decide (w<=86400)))=false/\Br (!(decide (0<=c) && decide (c<=1000000))) (E6 88 z zn (FY/\Q DP [] 0 z zn)) (YP/\ai prog Rg 1 88 (rF 0) [(0,ve az d w c)] 1 z zn (Y3 z zn)/\E6 88 z zn (R2 bz YM (Rs (BQ [Y4,ZV d,ZV w,ZV c] 4 1 29)/\ ∀(x:Unit),True->E6 88 z zn (Yw/\Q Yv [] 0 z zn))))))):dM prog gP z f37 [AG [az,zv d,zv w,zv c]] z [] 0 zn Q:=K1t hyp (tA 1 (tO (NB d) ((U3 z zn).fork (tO bJ (tA 1 (tO bJ (tO (An.cl (NC w)) (tO bJ (tO bJ ((U2 z zn).fork (tO bJ (tA 1 (tO bJ (tO (NB c) (tO bJ (tO bJ ((Rh z zn).fork (tA 3 (Tr.lp 1 88 YC [] (rF 0) [(0,ve az d w c)] 1 z zn (Y5 z zn))))))))))))))))))))
end
noncomputable section
abbrev XG(a b c d e f:Int):Prop:=Rs (BQ [ZV a,ZV b,ZV c,ZV d,ZV e,ZV f] 6 3 88)
abbrev UE(a b c d e f:Int):List (Nat × aa):=[(0,BQ [ZV a,ZV b,ZV c,ZV d,ZV e,ZV f] 6 3 88),pS]
noncomputable abbrev UD:Code:=ah (ag f24) 0
theorem VF(z:T aa)(zn i:Nat)(a b c d e f x y w:Int)(Q:QL)(hyp:Br (c !=0) (E6 17 z zn (jx/\Rs (BQ [ZV a,ZV b,ZV c] 3 1 88)/\Q af.ret eN [(1,BQ [ZV a,ZV b,ZV c] 3 1 88)] 2 z zn)) (E6 17 z zn (R4 fB (SL 0 2 2) Yg (I 1) (XG a b c d e f/\sr/\Q aN [(2,fB),(5,SL 0 2 2),(6,Yg),(7,I 1)] (UE a b c d e f) 2 z zn)))):dP prog gP z UD 17 (zM 0) z [(0,Ji a b c d e f),nK] 2 zn 2 Q:=K1t hyp (tA 6 ((tA 3 (tE gy [] eN [(1,BQ [ZV a,ZV b,ZV c] 3 1 88)] 2 z zn)).fork (tA 2 (tE c8 [] [(2,fB),(5,SL 0 2 2),(6,Yg),(7,I 1)] (UE a b c d e f) 2 z zn))))
theorem VE(z:T aa)(zn i:Nat)(a b c d e f x y w:Int)(Q:QL)(hyp:Br (f !=0) (E6 17 z zn (jx/\Rs (BQ [ZV d,ZV e,ZV f] 3 1 88)/\Q af.ret eN [(1,BQ [ZV d,ZV e,ZV f] 3 1 88)] 2 z zn)) (E6 17 z zn (R4 fB (SL 0 2 2) Yg Yg (XG a b c d e f/\sr/\Q aN [(2,fB),(5,SL 0 2 2),(6,Yg),(7,Yg)] (UE a b c d e f) 2 z zn)))):dP prog gP z UD 17 (zM 1) z [(0,Ji a b c d e f),nK] 2 zn 2 Q:=K1t hyp (tA 6 ((tA 3 (tE gy [] eN [(1,BQ [ZV d,ZV e,ZV f] 3 1 88)] 2 z zn)).fork (tA 2 (tE c8 [] [(2,fB),(5,SL 0 2 2),(6,Yg),(7,Yg)] (UE a b c d e f) 2 z zn))))
theorem VD(z:T aa)(zn i:Nat)(a b c d e f x y w:Int)(Q:QL)(hyp:E6 17 z zn (jx/\sr/\Q YO eN [pS] 2 z zn)):dP prog gP z UD 17 (zM 2) z [(0,Ji a b c d e f),nK] 2 zn 2 Q:=K1t hyp (tA 2 (tE gy [] eN [pS] 2 z zn))
theorem ffi(z:T aa)(zn i:Nat)(a b c d e f x y w:Int)(Q:QF)(hyp:ss/\ai prog UD 2 17 (zM 0) [(0,Ji a b c d e f),nK] 2 z zn (alt (x=pk c f a d/\y=pk c f b e/\w=pk c f c f) (aw.mk af.ret [(2,ip 1)] [(1,cW x y w)] 2 z zn) (alt (c=0/\f=0) (aw.mk YO [(2,ip 1)] [nK] 2 z zn) Al.nil)).R/\E6 17 z zn (R4 fB (SL 0 2 2) Yg YM (XG a b c d e f/\sr/\(∀(x_1:Unit),x=pk c f a d/\y=pk c f b e/\w=pk c f c f->E6 17 z zn (Rs (uP x y w)/\Q (uP x y w) [] 1 z zn))/\ ∀(x:Unit),c=0/\f=0->E6 17 z zn (Rs w7/\Q w7 [] 1 z zn)))):dM prog gP z f24 [SL 0 2 2] z [(0,Ji a b c d e f)] 1 zn Q:=K1t hyp (Tr.lp 2 17 [iH,YB] [] (zM 0) [(0,Ji a b c d e f),nK] 2 z zn (Al.cons Unit (fun(x_1:Unit)=>x=pk c f a d/\y=pk c f b e/\w=pk c f c f) (fun(x_1:Unit)=>aw.mk af.ret [(2,ip 1)] [(1,cW x y w)] 2 z zn) (fun(x_1:Unit)=>tR [] [] (uP x y w) [] 1 z zn) (Al.cons Unit (Y0 c f) (fun(x:Unit)=>aw.mk YO [(2,ip 1)] [nK] 2 z zn) (fun(x:Unit)=>tA 1 (tR [] [] w7 [] 1 z zn)) Al.nil)))
abbrev wZ(N:aJ):List Value:=[A0 N,AZ N,TB N,TD N,Qe N,Jy N,ZV N.d,ZV N.w,ZV N.c]
abbrev QT(u1 u2 u3:Int):Unit->Value:=fun(x:Unit)=>AG [zv u1,zv u2,zv u3]
abbrev Tz(N:aJ):Prop:=br (sig []) [AG (wZ N)]=some [AG (wZ N)]
abbrev Nj(N:aJ):List Value:=[AG [Jy N,ZV N.d,ZV N.w,ZV N.c]]
abbrev AX:List (Nat × Nat):=[(1,0)]
noncomputable abbrev XF(N:aJ):Cm:=Cm.mk [AG (wZ N)] [] 0 0 [] [] 3
theorem Xe(z:T aa)(zn:Nat)(N:aJ)(s1 s2 r1 r2 f1 f2 u1 u2 u3 k1 k2 k3 p1 p2 p3:Int)(Q:QF)(hyp:aQ prog z zn 22 [A0 N] [] 0 0 Yy (Bg s1 s2) cX/\br (sig []) [A0 N]=some [A0 N]/\ ∀(x:Unit),True->Yu s1 s2/\aQ prog z zn 23 [AZ N] [] 0 0 Yy (Bg r1 r2) cX/\br (sig []) [AZ N]=some [AZ N]/\ ∀(x:Unit),True->Yu r1 r2/\Rf z/\gP 25 [YM,ZV s1,ZV s2]=some (AG [YM,ZV s1,ZV s2])/\Rf z/\gP 25 [I 1,ZV r1,ZV r2]=some (AG [I 1,ZV r1,ZV r2])/\aQ prog z zn 24 [SL 0 2 2] [(0,BQ [YM,ZV s1,ZV s2,I 1,ZV r1,ZV r2] 6 3 88)] 1 1 Yy (fun(x:Unit)=>AG [zv (pk s2 r2 0 1),zv (pk s2 r2 s1 r1),zv (pk s2 r2 s2 r2)]) cX/\Rs [SL 1 2 2]/\Rs (BQ [YM,ZV s1,ZV s2,I 1,ZV r1,ZV r2] 6 3 88)/\ ∀(x:Unit),True->Rs (AG [ZV (pk s2 r2 0 1),ZV (pk s2 r2 s1 r1),ZV (pk s2 r2 s2 r2)])/\Br (pk s2 r2 s2 r2==0) (aQ prog z zn 26 [AG (wZ N)] [] 0 0 Yy (QT u1 u2 u3) cX/\Tz N/\ ∀(x:Unit),True->Rs (uP u1 u2 u3)/\Br (u3==0) (aQ prog z zn 27 [AG (wZ N)] [] 0 0 Yy (QT k1 k2 k3) cX/\Tz N/\ ∀(x:Unit),True->Rs (uP k1 k2 k3)/\Br (k3==0) (aQ prog z zn 28 (Nj N) [] 0 0 Yy (Bg f1 f2) cX/\br (sig []) (Nj N)=some (Nj N)/\ ∀(x:Unit),True->Yu f1 f2/\aQ prog z zn 29 [AG (wZ N)] [] 0 0 Yy (QT p1 p2 p3) cX/\Tz N/\ ∀(x:Unit),True->Rs (uP p1 p2 p3)/\Rf z/\gP 25 [I 5,ZV f1,ZV f2]=some (AG [I 5,ZV f1,ZV f2])/\aQ prog z zn 24 [SL 0 2 2] [(0,BQ [ZV p1,ZV p2,ZV p3,I 5,ZV f1,ZV f2] 6 3 88)] 1 1 Yy (fun(x:Unit)=>AG [zv (pk p3 f2 p1 5),zv (pk p3 f2 p2 f1),zv (pk p3 f2 p3 f2)]) cX/\Rs [SL 3 2 2]/\Rs (BQ [ZV p1,ZV p2,ZV p3,I 5,ZV f1,ZV f2] 6 3 88)/\ ∀(x:Unit),True->Rs (AG [ZV (pk p3 f2 p1 5),ZV (pk p3 f2 p2 f1),ZV (pk p3 f2 p3 f2)])/\E6 64 z zn (Rs (TP [ZV (pk p3 f2 p1 5),ZV (pk p3 f2 p2 f1),ZV (pk p3 f2 p3 f2)])/\Q (TP [ZV (pk p3 f2 p1 5),ZV (pk p3 f2 p2 f1),ZV (pk p3 f2 p3 f2)]) [] 0 z zn)) (E6 64 z zn (Rs (TP [ZV k1,ZV k2,ZV k3])/\Q (TP [ZV k1,ZV k2,ZV k3]) [] 0 z zn))) (Value.bool (u3==0)=F0/\E6 64 z zn (Rs (TP [ZV u1,ZV u2,ZV u3])/\Q (TP [ZV u1,ZV u2,ZV u3]) [] 0 z zn))) (Value.bool (pk s2 r2 s2 r2==0)=F0/\Value.bool (pk s2 r2 s2 r2==0)=F0/\E6 64 z zn (Rs (TP [ZV (pk s2 r2 0 1),ZV (pk s2 r2 s1 r1),ZV (pk s2 r2 s2 r2)])/\Q (TP [ZV (pk s2 r2 0 1),ZV (pk s2 r2 s1 r1),ZV (pk s2 r2 s2 r2)]) [] 0 z zn))):dM prog gP z f10 [AG N.cells] z [] 0 zn Q:=K1t hyp (tA 1 (Tr.cm (Cm.mk [A0 N] [] 0 0 [] [] 1) Unit Yy (Bg s1 s2) cX (Nx s1 s2) cX (fD z) (fC zn) fun(x:Unit)=>tA 1 (Tr.cm (Cm.mk [AZ N] [] 0 0 [] [] 1) Unit Yy (Bg r1 r2) cX (Nx r1 r2) cX (fD z) (fC zn) fun(x:Unit)=>tO (An.cl (AG [YM,ZV s1,ZV s2])) (tO (An.cl (AG [I 1,ZV r1,ZV r2])) (Tr.cm (Cm.mk [SL 0 2 2] [(0,BQ [YM,ZV s1,ZV s2,I 1,ZV r1,ZV r2] 6 3 88)] 1 1 [(0,1)] AX 2) Unit Yy (fun(x:Unit)=>AG [zv (pk s2 r2 0 1),zv (pk s2 r2 s1 r1),zv (pk s2 r2 s2 r2)]) cX (fun(x:Unit)=>AG [ZV (pk s2 r2 0 1),ZV (pk s2 r2 s1 r1),ZV (pk s2 r2 s2 r2)]) cX (fD z) (fC zn) fun(x:Unit)=>tA 2 ((tA 2 (Tr.cm (XF N) Unit Yy (QT u1 u2 u3) cX (fun(x:Unit)=>uP u1 u2 u3) cX (fD z) (fC zn) fun(x:Unit)=>tA 2
 ((tA 2 (Tr.cm (XF N) Unit Yy (QT k1 k2 k3) cX (fun(x:Unit)=>uP k1 k2 k3) cX (fD z) (fC zn) fun(x:Unit)=>tA 2 ((tA 2 (Tr.cm (Cm.mk (Nj N) [] 0 0 [] [] 3) Unit Yy (Bg f1 f2) cX (Nx f1 f2) cX (fD z) (fC zn) fun(x:Unit)=>tA 1 (Tr.cm (XF N) Unit Yy (QT p1 p2 p3) cX (fun(x:Unit)=>uP p1 p2 p3) cX (fD z) (fC zn) fun(x:Unit)=>tO (An.cl (AG [I 5,ZV f1,ZV f2])) (Tr.cm (Cm.mk [SL 0 2 2] [(0,BQ [ZV p1,ZV p2,ZV p3,I 5,ZV f1,ZV f2] 6 3 88)] 1 1 [(0,3)] [(3,0)] 4) Unit Yy (fun(x:Unit)=>AG [zv (pk p3 f2 p1 5),zv (pk p3 f2 p2 f1),zv (pk p3 f2 p3 f2)]) cX (fun(x:Unit)=>AG [ZV (pk p3 f2 p1 5),ZV (pk p3 f2 p2 f1),ZV (pk p3 f2 p3 f2)]) cX (fD z) (fC zn) fun(x:Unit)=>tA 4 (tR [] [] (TP [ZV (pk p3 f2 p1 5),ZV (pk p3 f2 p2 f1),ZV (pk p3 f2 p3 f2)]) [] 0 z zn))))).fork (tA 4 (tR [] [] (TP [ZV k1,ZV k2,ZV k3]) [] 0 z zn))))).fork (tA 2 (tO FZ (tA 4 (tR [] [] (TP [ZV u1,ZV u2,ZV u3]) [] 0 z zn))))))).fork (tA 2 (tO FZ (tA 2 (tO FZ (tA 4 (tR [] [] (TP [ZV (pk s2 r2 0 1),ZV (pk s2 r2 s1 r1),ZV (pk s2 r2 s2 r2)]) [] 0 z zn))))))))))))
end
noncomputable section
abbrev QS(N:aJ):Prop:=KO YD (BQ (wZ N) 9 1 31)
abbrev Ni(N:aJ):List (Nat × aa):=[(0,BQ (wZ N) 9 1 31)]
abbrev Bd:Prop:=Rs bz
theorem Zh(z:T aa)(zn i:Nat)(N:aJ)(e:Int)(Q:QL)(hyp:Br (decide ((↑i:Int)<(↑N.nu:Int))) (aQ prog z zn 34 [AG (wZ N),IV i] [] 0 0 Yy (ND e) cX/\br (sig []) [AG (wZ N),IV i]=some [AG (wZ N),IV i]/\ ∀(x:Unit),True->Rs (ZV e)/\Br (e !=0) (E6 84 z zn (R3 Yg (IV i) (ZV e) (Q af.ret [(2,Yg),(3,IV i),(4,ZV e)] [] 1 z zn))) (ZV (IntKind.i64.wrap ((↑i:Int)+1))=IV (i+1)/\E6 84 z zn (R2 bz (IV (i+1)) (QS N/\Q aN [oJ,(7,IV (i+1))] (Ni N) 1 z zn)))) (E6 84 z zn (Bd/\QS N/\Q YO [oJ] (Ni N) 1 z zn))):dP prog gP z (ah (ag f13) 0) 84 (BL i) z [(0,N.box)] 1 zn 1 Q:=K1t hyp (tA 1 ((tA 2 (Tr.cm (Cm.mk [AG (wZ N),IV i] [] 0 0 [] [] 1) Unit Yy (ND e) cX (fun(x:Unit)=>ZV e) cX (fD z) (fC zn) fun(x:Unit)=>(tA 1 (tE [] [] [(2,Yg),(3,IV i),(4,ZV e)] [] 1 z zn)).fork (tA 1 (tO (Ym i) (tE YC [] [oJ,(7,IV (i+1))] (Ni N) 1 z zn))))).fork (tA 1 (tE YC [] [oJ] (Ni N) 1 z zn))))
theorem Zg(z:T aa)(zn i:Nat)(N:aJ)(e:Int)(Q:QL)(hyp:Br (decide ((↑i:Int)<(↑N.nl:Int))) (aQ prog z zn 35 [AG (wZ N),IV i] [] 0 0 Yy (ND e) cX/\br (sig []) [AG (wZ N),IV i]=some [AG (wZ N),IV i]/\ ∀(x:Unit),True->Rs (ZV e)/\Br (e !=0) (E6 84 z zn (R3 (I 3) (IV i) (ZV e) (Q af.ret [(2,I 3),(3,IV i),(4,ZV e)] [] 1 z zn))) (ZV (IntKind.i64.wrap ((↑i:Int)+1))=IV (i+1)/\E6 84 z zn (R2 bz (IV (i+1)) (QS N/\Q aN [oJ,Fq i] (Ni N) 1 z zn)))) (E6 84 z zn (Bd/\QS N/\Q Y7 [oJ] (Ni N) 1 z zn))):dP prog gP z (ah (ag f13) 1) 84 (BK i) z [(0,N.box)] 1 zn 1 Q:=K1t hyp (tA 1 ((tA 2 (Tr.cm (Cm.mk [AG (wZ N),IV i] [] 0 0 [] [] 1) Unit Yy (ND e) cX (fun(x:Unit)=>ZV e) cX (fD z) (fC zn) fun(x:Unit)=>(tA 1 (tE [] [] [(2,I 3),(3,IV i),(4,ZV e)] [] 1 z zn)).fork (tA 1 (tO (Ym i) (tE YC [] [oJ,Fq i] (Ni N) 1 z zn))))).fork (tA 1 (tE YC [] [oJ] (Ni N) 1 z zn))))
theorem SO(z:T aa)(zn:Nat)(N:aJ)(s1 s2 r1 r2 u1 u2 k1 k2 p1 p2 f1 f2:Int)(Q:QF)(hyp:aQ prog z zn 32 [A0 N] [] 0 0 Yy (Bg s1 s2) cX/\br (sig []) [A0 N]=some [A0 N]/\ ∀(x:Unit),True->Yu s1 s2/\Br (s2 !=0) (E6 84 z zn (Rs (TP [YM,ZV s1,ZV s2])/\Q (TP [YM,ZV s1,ZV s2]) [] 0 z zn)) (aQ prog z zn 33 [AZ N] [] 0 0 Yy (Bg r1 r2) cX/\br (sig []) [AZ N]=some [AZ N]/\ ∀(x:Unit),True->Yu r1 r2/\Br (r2 !=0) (E6 84 z zn (Rs (TP [I 1,ZV r1,ZV r2])/\Q (TP [I 1,ZV r1,ZV r2]) [] 0 z zn)) (Br (decide ((↑N.nu:Int)>1024)) (E6 84 z zn (Rs (TP [Yg,YM,I 5])/\Q (TP [Yg,YM,I 5]) [] 0 z zn)) (YP/\ai prog (ah (ag f13) 0) 1 84 (BL 0) [(0,N.box)] 1 z zn (alt (u2≠0) (aw.mk af.ret [(2,Yg),(3,zv u1),(4,zv u2)] [] 1 z zn) (alt (u2=0) (aw.mk YO [(1,ip 0)] [(0,N.box)] 1 z zn) Al.nil)).R/\E6 84 z zn (R2 bz YM (QS N/\(∀(x:Unit),u2≠0->E6 84 z zn (Rs (TP [Yg,ZV u1,ZV u2])/\Q (TP [Yg,ZV u1,ZV u2]) [] 0 z zn))/\ ∀(x:Unit),u2=0->Br (decide ((↑N.nl:Int)>1024)) (E6 84 z zn (Rs (TP [I 3,YM,I 5])/\Q (TP [I 3,YM,I 5]) [] 0 z zn)) (YP/\ai prog (ah (ag f13) 1) 1 84 (BK 0) [(0,N.box)] 1 z zn (alt (k2≠0) (aw.mk af.ret [(2,I 3),(3,zv k1),(4,zv k2)] [] 1 z zn) (alt (k2=0) (aw.mk Y7 [(1,ip 0)] [(0,N.box)] 1 z zn) Al.nil)).R/\E6 84 z zn (R2 bz YM (QS N/\(∀(x:Unit),k2≠0->E6 84 z zn (Rs (TP [I 3,ZV k1,ZV k2])/\Q (TP [I 3,ZV k1,ZV k2]) [] 0 z zn))/\ ∀(x:Unit),k2=0->aQ prog z zn 36 [AG (wZ N)] [] 0 0 Yy (Bg p1 p2) cX/\Tz N/\ ∀(x:Unit),True->Yu p1 p2/\Br (p2 !=0) (E6 84 z zn (Rs (TP [I 4,ZV p1,ZV p2])/\Q (TP [I 4,ZV p1,ZV p2]) [] 0 z zn)) (aQ prog z zn 37 (Nj N) [] 0 0 Yy (Bg f1 f2) cX/\br (sig []) (Nj N)=some (Nj N)/\ ∀(x:Unit),True->Yu f1 f2/\Br (f2 !=0) (E6 84 z zn (Rs (TP [I 5,ZV f1,ZV f2])/\Q (TP [I 5,ZV f1,ZV f2]) [] 0 z zn)) (E6 84 z zn (Rs (TP Ny)/\Q (TP Ny) [] 0 z zn)))))))))))):dM prog gP z f13 [AG N.cells] z [] 0 zn Q:=K1t hyp (tA 1 (Tr.cm (Cm.mk [A0 N] [] 0 0 [] [] 1) Unit Yy (Bg s1 s2) cX (Nx s1 s2) cX (fD z) (fC zn) fun(x:Unit)=>(tA 1 (tR [] [] (TP [YM,ZV s1,ZV s2]) [] 0 z zn)).fork (tA 2 (Tr.cm (Cm.mk [AZ N] [] 0 0 [] [] 1) Unit Yy (Bg r1 r2) cX (Nx r1 r2) cX (fD z) (fC zn) fun(x:Unit)=>(tA 1 (tR [] [] (TP [I 1,ZV r1,ZV r2]) [] 0 z zn)).fork (tA 2 ((tA 1 (tR [] [] (TP [Yg,YM,I 5]) [] 0 z zn)).fork (tA 1 (Tr.lp 1 84 YC [] (BL 0) [(0,N.box)] 1 z zn (Al.cons Unit (TA u2) (fun(x:Unit)=>aw.mk af.ret [(2,Yg),(3,zv u1),(4,zv u2)] [] 1 z zn) (fun(x:Unit)=>tR [] [] (TP [Yg,ZV u1,ZV u2]) [] 0 z zn) (Al.cons Unit (TG u2) (fun(x:Unit)=>aw.mk YO [(1,ip 0)] [(0,N.box)] 1 z zn) (fun(x:Unit)=>tA 1 ((tA 1 (tR [] [] (TP [I 3,YM,I 5]) [] 0 z zn)).fork (tA 1 (Tr.lp 1 84 YC [] (BK 0) [(0,N.box)] 1 z zn (Al.cons Unit (TA k2) (fun(x:Unit)=>aw.mk af.ret [(2,I 3),(3,zv k1),(4,zv k2)] [] 1 z zn) (fun(x:Unit)=>tR [] [] (TP [I 3,ZV k1,ZV k2]) [] 0 z zn) (Al.cons Unit (TG k2) (fun(x:Unit)=>aw.mk Y7 [(1,ip 0)] [(0,N.box)] 1 z zn) (fun(x:Unit)=>tA 1 (Tr.cm
 (Cm.mk [AG (wZ N)] [] 0 0 [] [] 1) Unit Yy (Bg p1 p2) cX (Nx p1 p2) cX (fD z) (fC zn) fun(x:Unit)=>(tA 1 (tR [] [] (TP [I 4,ZV p1,ZV p2]) [] 0 z zn)).fork (tA 2 (Tr.cm (Cm.mk (Nj N) [] 0 0 [] [] 1) Unit Yy (Bg f1 f2) cX (Nx f1 f2) cX (fD z) (fC zn) fun(x:Unit)=>(tA 1 (tR [] [] (TP [I 5,ZV f1,ZV f2]) [] 0 z zn)).fork (tA 1 (tR [] [] (TP Ny) [] 0 z zn)))))) Al.nil)))))) Al.nil))))))))))
end
noncomputable section
theorem SK(z:T aa)(zn:Nat)(a b:cH)(Q:QF)(hyp:Br (decide (a.len<b.len)) (E6 24 z zn (YA/\Q T1 [] 0 z zn)) (Br (a.len==b.len) (Br (decide (a.fM<b.fM)) (E6 24 z zn (YA/\Q T1 [] 0 z zn)) (E6 24 z zn (YQ/\Q F0 [] 0 z zn))) (E6 24 z zn (YQ/\Q F0 [] 0 z zn)))):dM prog FU z f236 [AG a.row,AG b.row] z [] 0 zn Q:=K1t hyp (tA 2 ((tA 8 (tR [] [] T1 [] 0 z zn)).fork (tA 7 ((tA 8 ((tA 3 (tR [] [] T1 [] 0 z zn)).fork (tA 3 (FT z zn)))).fork (tA 9 (FT z zn))))))
abbrev QR:Array Value:=Array.mk []
abbrev j9:Value:=Value.func (Fn.func 236) QR QR
abbrev Nh:aa:=BQ [j9,Y4,YM] 3 1 327
theorem oe(z:T aa)(zn:Nat)(Q:QF)(hyp:E6 8 z zn (Rs Nh/\Bd/\Q bz [(0,Nh)] 1 z zn)):dM prog FU z f235 [Hg] z [] 0 zn Q:=K1t hyp (tA 2 (tR YC [] bz [(0,Nh)] 1 z zn))
abbrev UC(cs:List Value)(cc i:Nat)(a:bU):Prop:=aC prog (aY.mk cs cc 4 329 false false 0 true) 329 (0+i*4)=some (AG [ZV a.x.node,ZV a.x.len,ZV a.x.fM,ZV a.num])
abbrev XE(a b:bU):Value:=Value.bool (nH (cH.mk a.x.node a.x.len a.x.fM) (cH.mk b.x.node b.x.len b.x.fM))
abbrev YEh(a b:bU):Prop:=gH 236 [AG [ZV a.x.node,ZV a.x.len,ZV a.x.fM],AG [ZV b.x.node,ZV b.x.len,ZV b.x.fM]]=some (XE a b)
abbrev jE(n c:Nat)(p:Int):Prop:=Rs (BQ [j9,SL 1 n c,ZV p] 3 1 327)
abbrev lJ(cs:List Value)(cc:Nat):aa:=BR cs cc 4 329
abbrev DM(cs:List Value)(cc:Nat):Prop:=KO nk (lJ cs cc)
abbrev AW(n c:Nat)(p:Int):Nat × aa:=(0,BQ [j9,SL 1 n c,ZV p] 3 1 327)
abbrev fU(n c:Nat)(p:Int)(cs:List Value)(cc:Nat):List (Nat × aa):=[AW n c p,(1,lJ cs cc)]
abbrev I6(n c:Nat)(p:Int)(cs:List Value)(cc:Nat):List (Nat × aa):=[(0,dV (aU 1 n c) p),(1,dI cs cc)]
theorem WN(z:T aa)(zn i k n c cc:Nat)(p:Int)(a b:bU)(cs:List Value)(Q:QF)(hyp:YU i/\i<n/\UC cs cc i a/\YU k/\k<n/\UC cs cc k b/\Rf z/\YEh a b/\Br (nH (cH.mk a.x.node a.x.len a.x.fM) (cH.mk b.x.node b.x.len b.x.fM)) (E6 46 z zn (jE n c p/\DM cs cc/\YA/\Q T1 (fU n c p cs cc) 2 z zn)) (Rf z/\YEh b a/\Br (nH (cH.mk b.x.node b.x.len b.x.fM) (cH.mk a.x.node a.x.len a.x.fM)) (E6 46 z zn (jE n c p/\DM cs cc/\YQ/\Q F0 (fU n c p cs cc) 2 z zn)) (Br (decide (a.num<b.num)) (E6 46 z zn (jE n c p/\DM cs cc/\YA/\Q T1 (fU n c p cs cc) 2 z zn)) (E6 46 z zn (jE n c p/\DM cs cc/\YQ/\Q F0 (fU n c p cs cc) 2 z zn))))):dM prog gH z f246 [ip 0,iv i,iv k] z (I6 n c p cs cc) 2 zn Q:=K1t hyp (tA 1 (tO (Yj i) (tO (An.Dd (AG a.row)) (tA 1 (tO (Yj k) (tO (An.Dd (AG b.row)) (tA 5 (tO (An.cl (XE a b)) ((tR c8 [] T1 (fU n c p cs cc) 2 z zn).fork (tA 3 (tO (An.cl (XE b a)) ((tR c8 [] F0 (fU n c p cs cc) 2 z zn).fork (tA 2 ((tR c8 [] T1 (fU n c p cs cc) 2 z zn).fork (tR c8 [] F0 (fU n c p cs cc) 2 z zn)))))))))))))))
abbrev nw:Value:=TP []
abbrev lQ:Prop:=Rs nw
theorem WH(z:T aa)(zn i k n c cc:Nat)(p:Int)(a b:bU)(cs cs1 cs2:List Value)(Q:QF)(hyp:YU k/\k<n/\UC cs cc k b/\YU i/\i<n/\UC cs cc i a/\YU i/\i<n/\overwrite cs (0+i*4) [ZV b.x.node,ZV b.x.len,ZV b.x.fM,ZV b.num]=some cs1/\cs1.length<=cc/\YU k/\k<n/\overwrite cs1 (0+k*4) [ZV a.x.node,ZV a.x.len,ZV a.x.fM,ZV a.num]=some cs2/\cs2.length<=cc/\E6 32 z zn (jE n c p/\DM cs2 cc/\lQ/\Q nw (fU n c p cs2 cc) 2 z zn)):dM prog gH z f247 [ip 0,iv i,iv k] z (I6 n c p cs cc) 2 zn Q:=K1t hyp (tA 3 (tO (Yj k) (tO (An.Dd (AG b.row)) (tA 1 (tO (Yj i) (tO (An.Dd (AG a.row)) (tO (Yj i) (tX (lO.Ms cs1) (tO (Yj k) (tX (lO.Ms cs2) (tR c8 [] nw (fU n c p cs2 cc) 2 z zn)))))))))))
abbrev qC(m c:Nat)(p:Int)(cs:List Value)(cc:Nat):Unit->List (Nat × aa):=fun(x:Unit)=>fU m c p cs cc
abbrev P6(m c:Nat)(p:Int):Prop:=Rs (BQ [j9,SL 4 m c,ZV p] 3 1 327)
abbrev lP:Unit->Value:=fun(x:Unit)=>nw
abbrev Ng(m c:Nat)(p:Int):Nat × aa:=(0,BQ [j9,SL 4 m c,ZV p] 3 1 327)
abbrev Bc:List (Nat × Value):=[(0,bz)]
noncomputable abbrev Ty:Code:=ah (ag f237) 0
theorem SH(z:T aa)(zn i m c cc:Nat)(p:Int)(bf:Int->Int->Bool)(sw:Int->Int->List Value)(cs:List Value)(Q:QL)(hyp:Br (decide ((↑i:Int)>0)) (WQ1 ((↑i:Int) - 1)/\WQ1 (((↑i:Int) - 1).tdiv 2)/\aQ prog z zn 246 [bz,IV i,ZV (((↑i:Int) - 1).tdiv 2)] (fU m c p cs cc) 2 2 Yy (fun(x:Unit)=>Value.bool (bf (↑i:Int) (((↑i:Int) - 1).tdiv 2))) (qC m c p cs cc)/\Rs [bz,IV i,ZV (((↑i:Int) - 1).tdiv 2)]/\P6 m c p/\KO (sig [YB,(1,4)]) (lJ cs cc)/\ ∀(x:Unit),True->Rs (Value.bool (bf (↑i:Int) (((↑i:Int) - 1).tdiv 2)))/\jE m c p/\KO (sig [YB,(4,1)]) (lJ cs cc)/\Br (bf (↑i:Int) (((↑i:Int) - 1).tdiv 2)) (WQ1 ((↑i:Int) - 1)/\WQ1 (((↑i:Int) - 1).tdiv 2)/\(aQ prog z zn 247 [bz,IV i,ZV (((↑i:Int) - 1).tdiv 2)] (fU m c p cs cc) 2 2 Yy lP fun(x:Unit)=>[AW m c p,(1,dI (sw (↑i:Int) (((↑i:Int) - 1).tdiv 2)) cc)])/\Rs [bz,IV i,ZV (((↑i:Int) - 1).tdiv 2)]/\P6 m c p/\KO (sig [YB,(1,4)]) (lJ cs cc)/\ ∀(x:Unit),True->lQ/\jE m c p/\KO (sig [YB,(4,1)]) (BR (sw (↑i:Int) (((↑i:Int) - 1).tdiv 2)) cc 4 329)/\WQ1 ((↑i:Int) - 1)/\WQ1 (((↑i:Int) - 1).tdiv 2)/\E6 54 z zn (R2 bz (ZV (((↑i:Int) - 1).tdiv 2)) (P6 m c p/\KO (ay [YB,(4,4)] []) (BR (sw (↑i:Int) (((↑i:Int) - 1).tdiv 2)) cc 4 329)/\Q aN [(0,bz),(4,ZV (((↑i:Int) - 1).tdiv 2))] [Ng m c p,(4,BR (sw (↑i:Int) (((↑i:Int) - 1).tdiv 2)) cc 4 329)] 5 z zn))) (E6 54 z zn (Bd/\P6 m c p/\KO (ay [YB,(4,4)] []) (lJ cs cc)/\Q YO Bc [Ng m c p,(4,lJ cs cc)] 5 z zn))) (E6 54 z zn (Bd/\P6 m c p/\KO (ay [YB,(4,4)] []) (lJ cs cc)/\Q YO Bc [Ng m c p,(4,lJ cs cc)] 5 z zn))):dP prog gH z Ty 54 (qs i) z [(0,dV (aU 4 m c) p),(4,dI cs cc)] 5 zn 4 Q:=K1t hyp ((tA 4 (tO (An.val (ZV ((↑i:Int) - 1))) (tA 1 (tO (An.val (ZV (((↑i:Int) - 1).tdiv 2))) (tA 1 (Tr.cm (Cm.mk [bz,IV i,ZV (((↑i:Int) - 1).tdiv 2)] (fU m c p cs cc) 2 2 [YB,(1,4)] [YB,(4,1)] 5) Unit Yy (fun(x:Unit)=>Value.bool (bf (↑i:Int) (((↑i:Int) - 1).tdiv 2))) (qC m c p cs cc) (fun(x:Unit)=>Value.bool (bf (↑i:Int) (((↑i:Int) - 1).tdiv 2))) (fun(x:Unit)=>[Ng m c p,(4,lJ cs cc)]) (fD z) (fC zn) fun(x:Unit)=>tA 1 ((tO (An.val (ZV ((↑i:Int) - 1))) (tO (An.val (ZV (((↑i:Int) - 1).tdiv 2))) (Tr.cm (Cm.mk [bz,IV i,ZV (((↑i:Int) - 1).tdiv 2)] (fU m c p cs cc) 2 2 [YB,(1,4)] [YB,(4,1)] 5) Unit Yy lP (fun(x:Unit)=>[AW m c p,(1,dI (sw (↑i:Int) (((↑i:Int) - 1).tdiv 2)) cc)]) lP (fun(x:Unit)=>[Ng m c p,(4,BR (sw (↑i:Int) (((↑i:Int) - 1).tdiv 2)) cc 4 329)]) (fD z) (fC zn) fun(x:Unit)=>tO (An.val (ZV ((↑i:Int) - 1))) (tO (An.val (ZV (((↑i:Int) - 1).tdiv 2))) (tE [YB,(4,4)] [] [(0,bz),(4,ZV (((↑i:Int) - 1).tdiv 2))] [Ng m c p,(4,BR (sw (↑i:Int) (((↑i:Int) - 1).tdiv 2)) cc 4 329)] 5 z zn))))).fork (tE [YB,(4,4)] [] Bc [Ng m c p,(4,lJ cs cc)] 5 z zn)))))))).fork (tA 8 (tE [YB,(4,4)] [] Bc [Ng m c p,(4,lJ
 cs cc)] 5 z zn)))
abbrev Tx(m c:Nat)(p:Int):Prop:=Rs (BQ [j9,SL 5 m c,ZV p] 3 1 327)
abbrev Nf(m c:Nat)(p:Int):Nat × aa:=(0,BQ [j9,SL 5 m c,ZV p] 3 1 327)
theorem SG(z:T aa)(zn i m c cc:Nat)(p:Int)(bf:Int->Int->Bool)(sw:Int->Int->List Value)(cs:List Value)(Q:QL)(hyp:Br (decide ((↑i:Int)>0)) (WQ1 ((↑i:Int) - 1)/\WQ1 (((↑i:Int) - 1).tdiv 2)/\aQ prog z zn 246 [bz,IV i,ZV (((↑i:Int) - 1).tdiv 2)] (fU m c p cs cc) 2 2 Yy (fun(x:Unit)=>Value.bool (bf (↑i:Int) (((↑i:Int) - 1).tdiv 2))) (qC m c p cs cc)/\Rs [bz,IV i,ZV (((↑i:Int) - 1).tdiv 2)]/\Tx m c p/\KO (sig [YB,(1,5)]) (lJ cs cc)/\ ∀(x:Unit),True->Rs (Value.bool (bf (↑i:Int) (((↑i:Int) - 1).tdiv 2)))/\jE m c p/\KO (sig [YB,(5,1)]) (lJ cs cc)/\Br (bf (↑i:Int) (((↑i:Int) - 1).tdiv 2)) (WQ1 ((↑i:Int) - 1)/\WQ1 (((↑i:Int) - 1).tdiv 2)/\(aQ prog z zn 247 [bz,IV i,ZV (((↑i:Int) - 1).tdiv 2)] (fU m c p cs cc) 2 2 Yy lP fun(x:Unit)=>[AW m c p,(1,dI (sw (↑i:Int) (((↑i:Int) - 1).tdiv 2)) cc)])/\Rs [bz,IV i,ZV (((↑i:Int) - 1).tdiv 2)]/\Tx m c p/\KO (sig [YB,(1,5)]) (lJ cs cc)/\ ∀(x:Unit),True->lQ/\jE m c p/\KO (sig [YB,(5,1)]) (BR (sw (↑i:Int) (((↑i:Int) - 1).tdiv 2)) cc 4 329)/\WQ1 ((↑i:Int) - 1)/\WQ1 (((↑i:Int) - 1).tdiv 2)/\E6 54 z zn (R2 bz (ZV (((↑i:Int) - 1).tdiv 2)) (Tx m c p/\KO (ay [YB,(5,5)] []) (BR (sw (↑i:Int) (((↑i:Int) - 1).tdiv 2)) cc 4 329)/\Q aN [(0,bz),(4,ZV (((↑i:Int) - 1).tdiv 2))] [Nf m c p,(5,BR (sw (↑i:Int) (((↑i:Int) - 1).tdiv 2)) cc 4 329)] 6 z zn))) (E6 54 z zn (Bd/\Tx m c p/\KO (ay [YB,(5,5)] []) (lJ cs cc)/\Q YO Bc [Nf m c p,(5,lJ cs cc)] 6 z zn))) (E6 54 z zn (Bd/\Tx m c p/\KO (ay [YB,(5,5)] []) (lJ cs cc)/\Q YO Bc [Nf m c p,(5,lJ cs cc)] 6 z zn))):dP prog gH z Ty 54 (qs i) z [(0,dV (aU 5 m c) p),(5,dI cs cc)] 6 zn 5 Q:=K1t hyp ((tA 4 (tO (An.val (ZV ((↑i:Int) - 1))) (tA 1 (tO (An.val (ZV (((↑i:Int) - 1).tdiv 2))) (tA 1 (Tr.cm (Cm.mk [bz,IV i,ZV (((↑i:Int) - 1).tdiv 2)] (fU m c p cs cc) 2 2 [YB,(1,5)] [YB,(5,1)] 6) Unit Yy (fun(x:Unit)=>Value.bool (bf (↑i:Int) (((↑i:Int) - 1).tdiv 2))) (qC m c p cs cc) (fun(x:Unit)=>Value.bool (bf (↑i:Int) (((↑i:Int) - 1).tdiv 2))) (fun(x:Unit)=>[Nf m c p,(5,lJ cs cc)]) (fD z) (fC zn) fun(x:Unit)=>tA 1 ((tO (An.val (ZV ((↑i:Int) - 1))) (tO (An.val (ZV (((↑i:Int) - 1).tdiv 2))) (Tr.cm (Cm.mk [bz,IV i,ZV (((↑i:Int) - 1).tdiv 2)] (fU m c p cs cc) 2 2 [YB,(1,5)] [YB,(5,1)] 6) Unit Yy lP (fun(x:Unit)=>[AW m c p,(1,dI (sw (↑i:Int) (((↑i:Int) - 1).tdiv 2)) cc)]) lP (fun(x:Unit)=>[Nf m c p,(5,BR (sw (↑i:Int) (((↑i:Int) - 1).tdiv 2)) cc 4 329)]) (fD z) (fC zn) fun(x:Unit)=>tO (An.val (ZV ((↑i:Int) - 1))) (tO (An.val (ZV (((↑i:Int) - 1).tdiv 2))) (tE [YB,(5,5)] [] [(0,bz),(4,ZV (((↑i:Int) - 1).tdiv 2))] [Nf m c p,(5,BR (sw (↑i:Int) (((↑i:Int) - 1).tdiv 2)) cc 4 329)] 6 z zn))))).fork (tE [YB,(5,5)] [] Bc [Nf m c p,(5,lJ cs cc)] 6 z zn)))))))).fork (tA 8 (tE [YB,(5,5)] [] Bc [Nf m c p,(5,lJ
 cs cc)] 6 z zn)))
noncomputable abbrev YEy(p:Int)(z:T aa)(zn:Nat):List bU->aw:=fun(ms:List bU)=>aw.mk YO [(0,ip 0)] [(0,dV (aU 4 1 1) (p+1)),(4,dI (aD ms) 4)] (4+1) z zn
abbrev jA:T aa:=T.leaf
noncomputable abbrev UI:List bU->Tr:=fun(x:List bU)=>tE [] [] [] [] 0 jA 0
abbrev w6(p:Int):Value:=ZV (p+1)
abbrev P8(x:cH)(p:Int):List Value:=[ZV x.node,ZV x.len,ZV x.fM,ZV p]
theorem WM(z:T aa)(zn:Nat)(x:cH)(p:Int)(φ:List bU->Prop)(Q:QF)(hyp:WQ1 (p+1)/\Rf 4/\ai prog Ty 4 54 (qs 0) [(0,dV (aU 4 1 1) (p+1)),(4,dI (bU.mk x p).row 4)] (4+1) z zn (Al.cons (List bU) φ (YEy p z zn) UI Al.nil).R/\E6 54 z zn (R2 bz YM (Rs (BQ [j9,SL 3 1 1,w6 p] 3 1 327)/\Rs (BR (P8 x p) 4 4 329)/\ ∀(x:List bU),φ x->E6 54 z zn (Rs (BQ [j9,SL 4 1 1,w6 p] 3 1 327)/\KO (ay [YB,(1,4)] []) (BR (aD x) 4 4 329)/\lQ/\Q nw [(0,BQ [j9,SL 1 1 1,w6 p] 3 1 327),(1,BR (aD x) 4 4 329)] 2 z zn)))):dM prog gH z f237 [ip 0,AG x.row] z [(0,dV az p)] 1 zn Q:=K1t hyp (tA 8 (tO (An.val (w6 p)) (tA 3 (Tr.lp 4 54 [YB,(4,3)] [] (qs 0) [(0,dV (aU 4 1 1) (p+1)),(4,dI (bU.mk x p).row 4)] (4+1) z zn (Al.cons (List bU) φ (YEy p z zn) (fun(x:List bU)=>tR [YB,(1,4)] [] nw [(0,BQ [j9,SL 1 1 1,w6 p] 3 1 327),(1,BR (aD x) 4 4 329)] 2 z zn) Al.nil)))))
abbrev vm(x:List bU)(cc:Nat):aa:=BR (aD x) cc 4 329
theorem WL(z:T aa)(zn n c cc:Nat)(x:cH)(p:Int)(cs cs1:List Value)(φ:List bU->Prop)(Q:QF)(hyp:Rs (P8 x p)/\n+1<=c/\overwrite cs (0+n*4) (P8 x p)=some cs1/\cs1.length<=cc/\WQ1 (p+1)/\WQ1 ((↑(n+1):Int) - 1)/\Rf 4/\ai prog Ty 4 54 (qs n) [(0,dV (aU 4 (n+1) c) (p+1)),(4,dI cs1 cc)] (4+1) z zn (Al.cons (List bU) φ (fun(ms:List bU)=>aw.mk YO [(0,ip 0)] [(0,dV (aU 4 (n+1) c) (p+1)),(4,dI (aD ms) cc)] (4+1) z zn) UI Al.nil).R/\E6 54 z zn (Bd/\some (IV n)=some (ZV ((↑(n+1):Int) - 1))/\Rs (BQ [j9,SL 1 (n+1) c,w6 p] 3 1 327)/\KO (ay [YB,(4,1)] []) (lJ cs1 cc)/\ ∀(x:List bU),φ x->E6 54 z zn (Rs (BQ [j9,SL 4 (n+1) c,w6 p] 3 1 327)/\KO (ay [YB,(2,4)] []) (vm x cc)/\lQ/\Q nw [(0,BQ [j9,SL 2 (n+1) c,w6 p] 3 1 327),(2,vm x cc)] 3 z zn))):dM prog gH z f237 [ip 0,AG x.row] z (I6 n c p cs cc) 2 zn Q:=K1t hyp (tA 5 (tX (lO.app 1 (P8 x p) cs1) (tA 2 (tO (An.val (w6 p)) (tA 2 (tO (An.val (ZV ((↑(n+1):Int) - 1))) (Tr.lp 4 54 [YB,(4,1)] [] (qs n) [(0,dV (aU 4 (n+1) c) (p+1)),(4,dI cs1 cc)] (4+1) z zn (Al.cons (List bU) φ (fun(ms:List bU)=>aw.mk YO [(0,ip 0)] [(0,dV (aU 4 (n+1) c) (p+1)),(4,dI (aD ms) cc)] (4+1) z zn) (fun(x:List bU)=>tR [YB,(2,4)] [] nw [(0,BQ [j9,SL 2 (n+1) c,w6 p] 3 1 327),(2,vm x cc)] 3 z zn) Al.nil))))))))
noncomputable abbrev YE4(n:Nat)(p:Int)(z:T aa)(zn:Nat):List bU->aw:=fun(ms:List bU)=>aw.mk YO [(0,ip 0)] [(0,dV (aU 5 (n+1) (n+1)) (p+1)),(5,dI (aD ms) ((n+1)*4))] (5+1) z zn
theorem WK(z:T aa)(zn n cc:Nat)(x:cH)(p:Int)(cs:List Value)(φ:List bU->Prop)(Q:QF)(hyp:Rs (P8 x p)/\Rf n/\cs.length=n*4/\cc=n*4/\n+1<=1048576/\WQ1 (p+1)/\WQ1 ((↑(n+1):Int) - 1)/\Rf 5/\ai prog Ty 5 54 (qs n) [(0,dV (aU 5 (n+1) (n+1)) (p+1)),(5,dI (cs++(bU.mk x p).row) ((n+1)*4))] (5+1) z zn (Al.cons (List bU) φ (YE4 n p z zn) UI Al.nil).R/\E6 54 z zn (Bd/\some (IV n)=some (ZV ((↑(n+1):Int) - 1))/\Rs (BQ [j9,SL 4 (n+1) (n+1),w6 p] 3 1 327)/\KO (ay [YB,(5,4)] []) (BR (cs++P8 x p) ((n+1)*4) 4 329)/\ ∀(x:List bU),φ x->E6 54 z zn (Rs (BQ [j9,SL 5 (n+1) (n+1),w6 p] 3 1 327)/\KO (ay [YB,(2,5)] []) (BR (aD x) ((n+1)*4) 4 329)/\lQ/\Q nw [(0,BQ [j9,SL 2 (n+1) (n+1),w6 p] 3 1 327),(2,BR (aD x) ((n+1)*4) 4 329)] 3 z zn))):dM prog gH z f237 [ip 0,AG x.row] z [(0,dV (aU 1 n n) p),(1,dI cs cc)] 2 zn Q:=K1t hyp (tA 5 (tX (lO.grow 1 (P8 x p)) (tA 2 (tO (An.val (w6 p)) (tA 2 (tO (An.val (ZV ((↑(n+1):Int) - 1))) (Tr.lp 5 54 [YB,(5,4)] [] (qs n) [(0,dV (aU 5 (n+1) (n+1)) (p+1)),(5,dI (cs++(bU.mk x p).row) ((n+1)*4))] (5+1) z zn (Al.cons (List bU) φ (YE4 n p z zn) (fun(x:List bU)=>tR [YB,(2,5)] [] nw [(0,BQ [j9,SL 2 (n+1) (n+1),w6 p] 3 1 327),(2,BR (aD x) ((n+1)*4) 4 329)] 3 z zn) Al.nil))))))))
theorem hlen(z:T aa)(zn n c cc:Nat)(p:Int)(cs:List Value)(Q:QF)(hyp:E6 10 z zn (jE n c p/\DM cs cc/\Rs (IV n)/\Q (IV n) (fU n c p cs cc) 2 z zn)):dM prog gH z f251 [ip 0] z (I6 n c p cs cc) 2 zn Q:=K1t hyp (tA 3 (tR c8 [] (IV n) (fU n c p cs cc) 2 z zn))
abbrev QU(n:Nat):Unit->Value:=fun(x:Unit)=>iv n
abbrev yA(cs:List Value)(cc:Nat):Prop:=KO (sig c8) (lJ cs cc)
abbrev L9:Value:=TP [w7,F0]
abbrev Jt(a:cH):Value:=TP [AG [ZV a.node,ZV a.len,ZV a.fM],T1]
theorem hpk(z:T aa)(zn n c cc:Nat)(p:Int)(a:cH)(cs:List Value)(Q:QF)(hyp:aQ prog z zn 251 [bz] (fU n c p cs cc) 2 2 Yy (QU n) (qC n c p cs cc)/\Rs [bz]/\jE n c p/\yA cs cc/\ ∀(x:Unit),True->Rs (IV n)/\jE n c p/\yA cs cc/\Br ((↑n:Int)==0) (E6 16 z zn (jE n c p/\DM cs cc/\Rs L9/\Q L9 (fU n c p cs cc) 2 z zn)) (Int.ofNat 0=0/\0<n/\aC prog (aY.mk cs cc 4 329 false false 0 true) 315 0=some (AG [ZV a.node,ZV a.len,ZV a.fM])/\E6 16 z zn (jE n c p/\DM cs cc/\Rs (Jt a)/\Q (Jt a) (fU n c p cs cc) 2 z zn))):dM prog gH z f248 [ip 0] z (I6 n c p cs cc) 2 zn Q:=K1t hyp (Tr.cm (Cm.mk [bz] (fU n c p cs cc) 2 2 c8 c8 4) Unit Yy (QU n) (qC n c p cs cc) (fun(x:Unit)=>IV n) (qC n c p cs cc) (fD z) (fC zn) fun(x:Unit)=>(tA 3 (tR c8 [] L9 (fU n c p cs cc) 2 z zn)).fork (tA 2 (tO (An.idx 0) (tO (An.Dd (AG a.row)) (tA 1 (tR c8 [] (Jt a) (fU n c p cs cc) 2 z zn))))))
abbrev Cu(i:Nat):Value:=ZV (2*(↑i:Int)+1+1)
abbrev uW(i:Nat):Value:=ZV (2*(↑i:Int)+1)
abbrev XB(bf:Int->Int->Bool)(i:Nat):Unit->Value:=fun(x:Unit)=>Value.bool (bf (2*(↑i:Int)+1+1) (2*(↑i:Int)+1))
abbrev XA(bf:Int->Int->Bool)(i:Nat):Unit->Value:=fun(x:Unit)=>Value.bool (bf (2*(↑i:Int)+1+1) (↑i:Int))
abbrev Tw(sw:Int->Int->List Value)(i cc:Nat):aa:=BR (sw (↑i:Int) (2*(↑i:Int)+1+1)) cc 4 329
abbrev QQ(bf:Int->Int->Bool)(i:Nat):Unit->Value:=fun(x:Unit)=>Value.bool (bf (2*(↑i:Int)+1) (↑i:Int))
abbrev Uy(n c:Nat)(p:Int)(sw:Int->Int->List Value)(i cc:Nat):Unit->List (Nat × aa):=fun(x:Unit)=>[AW n c p,(1,dI (sw (↑i:Int) (2*(↑i:Int)+1)) cc)]
abbrev QP(n c:Nat)(p:Int)(sw:Int->Int->List Value)(i cc:Nat):List (Nat × aa):=[AW n c p,(1,BR (sw (↑i:Int) (2*(↑i:Int)+1)) cc 4 329)]
theorem WI(z:T aa)(zn i n c cc:Nat)(p:Int)(bf:Int->Int->Bool)(sw:Int->Int->List Value)(cs:List Value)(Q:QL)(hyp:WQ1 (2*(↑i:Int))/\WQ1 (2*(↑i:Int)+1)/\Br (decide (2*(↑i:Int)+1>=(↑n:Int))) (E6 41 z zn (Bd/\jE n c p/\DM cs cc/\Q af.ret Bc (fU n c p cs cc) 2 z zn)) (WQ1 (2*(↑i:Int)+1+1)/\Br (decide (2*(↑i:Int)+1+1<(↑n:Int))) (WQ1 (2*(↑i:Int)+1+1)/\aQ prog z zn 246 [bz,Cu i,uW i] (fU n c p cs cc) 2 2 Yy (XB bf i) (qC n c p cs cc)/\Rs [bz,Cu i,uW i]/\jE n c p/\yA cs cc/\ ∀(x:Unit),True->Rs (Value.bool (bf (2*(↑i:Int)+1+1) (2*(↑i:Int)+1)))/\jE n c p/\yA cs cc/\Br (bf (2*(↑i:Int)+1+1) (2*(↑i:Int)+1)) (WQ1 (2*(↑i:Int)+1+1)/\aQ prog z zn 246 [bz,Cu i,IV i] (fU n c p cs cc) 2 2 Yy (XA bf i) (qC n c p cs cc)/\Rs [bz,Cu i,IV i]/\jE n c p/\yA cs cc/\ ∀(x:Unit),True->Rs (Value.bool (bf (2*(↑i:Int)+1+1) (↑i:Int)))/\jE n c p/\yA cs cc/\Br (!bf (2*(↑i:Int)+1+1) (↑i:Int)) (E6 41 z zn (Bd/\jE n c p/\DM cs cc/\Q af.ret Bc (fU n c p cs cc) 2 z zn)) ((aQ prog z zn 247 [bz,IV i,Cu i] (fU n c p cs cc) 2 2 Yy lP fun(x:Unit)=>[AW n c p,(1,dI (sw (↑i:Int) (2*(↑i:Int)+1+1)) cc)])/\Rs [bz,IV i,Cu i]/\jE n c p/\yA cs cc/\ ∀(x:Unit),True->lQ/\jE n c p/\KO (sig c8) (Tw sw i cc)/\E6 41 z zn (R2 bz (Cu i) (jE n c p/\KO nk (Tw sw i cc)/\Q aN [(0,bz),(2,Cu i)] [AW n c p,(1,Tw sw i cc)] 2 z zn)))) (aQ prog z zn 246 [bz,uW i,IV i] (fU n c p cs cc) 2 2 Yy (QQ bf i) (qC n c p cs cc)/\Rs [bz,uW i,IV i]/\jE n c p/\yA cs cc/\ ∀(x:Unit),True->Rs (Value.bool (bf (2*(↑i:Int)+1) (↑i:Int)))/\jE n c p/\yA cs cc/\Br (!bf (2*(↑i:Int)+1) (↑i:Int)) (E6 41 z zn (Bd/\jE n c p/\DM cs cc/\Q af.ret Bc (fU n c p cs cc) 2 z zn)) (aQ prog z zn 247 [bz,IV i,uW i] (fU n c p cs cc) 2 2 Yy lP (Uy n c p sw i cc)/\Rs [bz,IV i,uW i]/\jE n c p/\yA cs cc/\ ∀(x:Unit),True->lQ/\jE n c p/\KO (sig c8) (BR (sw (↑i:Int) (2*(↑i:Int)+1)) cc 4 329)/\E6 41 z zn (R2 bz (uW i) (jE n c p/\KO nk (BR (sw (↑i:Int) (2*(↑i:Int)+1)) cc 4 329)/\Q aN [(0,bz),(2,uW i)] (QP n c p sw i cc) 2 z zn))))) (aQ prog z zn 246 [bz,uW i,IV i] (fU n c p cs cc) 2 2 Yy (QQ bf i) (qC n c p cs cc)/\Rs [bz,uW i,IV i]/\jE n c p/\yA cs cc/\ ∀(x:Unit),True->Rs (Value.bool (bf (2*(↑i:Int)+1) (↑i:Int)))/\jE n c p/\yA cs cc/\Br (!bf (2*(↑i:Int)+1) (↑i:Int)) (E6 41 z zn (Bd/\jE n c p/\DM cs cc/\Q af.ret Bc (fU n c p cs cc) 2 z zn)) (aQ prog z zn 247 [bz,IV i,uW i] (fU n c p cs cc) 2 2 Yy lP (Uy n c p sw i cc)/\Rs [bz,IV i,uW i]/\jE n c p/\yA cs cc/\ ∀(x:Unit),True->lQ/\jE n c p/\KO (sig c8) (BR (sw (↑i:Int) (2*(↑i:Int)+1)) cc 4 329)/\E6 41 z zn (R2 bz (uW i) (jE n c p/\KO nk (BR (sw (↑i:Int) (2*(↑i:Int)+1)) cc 4 329)/\Q aN [(0,bz),(2,uW i)] (QP n c p sw i cc) 2 z zn)))))):dP prog gH z (ah (ag f249) 0) 41 (zG i) z (I6 n c p cs cc) 2 zn
 2 Q:=K1t hyp (tO (An.val (ZV (2*(↑i:Int)))) (tO (An.val (uW i)) (tA 1 ((tA 1 (tE c8 [] Bc (fU n c p cs cc) 2 z zn)).fork (tA 1 (tO (An.val (Cu i)) (tA 1 ((tA 3 (tO (An.val (Cu i)) (tA 2 (Tr.cm (Cm.mk [bz,Cu i,uW i] (fU n c p cs cc) 2 2 c8 c8 2) Unit Yy (XB bf i) (qC n c p cs cc) (XB bf i) (qC n c p cs cc) (fD z) (fC zn) fun(x:Unit)=>tA 1 ((tO (An.val (Cu i)) (Tr.cm (Cm.mk [bz,Cu i,IV i] (fU n c p cs cc) 2 2 c8 c8 2) Unit Yy (XA bf i) (qC n c p cs cc) (XA bf i) (qC n c p cs cc) (fD z) (fC zn) fun(x:Unit)=>(tE c8 [] Bc (fU n c p cs cc) 2 z zn).fork (Tr.cm (Cm.mk [bz,IV i,Cu i] (fU n c p cs cc) 2 2 c8 c8 2) Unit Yy lP (fun(x:Unit)=>[AW n c p,(1,dI (sw (↑i:Int) (2*(↑i:Int)+1+1)) cc)]) lP (fun(x:Unit)=>[AW n c p,(1,Tw sw i cc)]) (fD z) (fC zn) fun(x:Unit)=>tE c8 [] [(0,bz),(2,Cu i)] [AW n c p,(1,Tw sw i cc)] 2 z zn))).fork (Tr.cm (Cm.mk [bz,uW i,IV i] (fU n c p cs cc) 2 2 c8 c8 2) Unit Yy (QQ bf i) (qC n c p cs cc) (QQ bf i) (qC n c p cs cc) (fD z) (fC zn) fun(x:Unit)=>(tE c8 [] Bc (fU n c p cs cc) 2 z zn).fork (Tr.cm (Cm.mk [bz,IV i,uW i] (fU n c p cs cc) 2 2 c8 c8 2) Unit Yy lP (Uy n c p sw i cc) lP (fun(x:Unit)=>QP n c p sw i cc) (fD z) (fC zn) fun(x:Unit)=>tE c8 [] [(0,bz),(2,uW i)] (QP n c p sw i cc) 2 z zn))))))).fork (tA 7 (Tr.cm (Cm.mk [bz,uW i,IV i] (fU n c p cs cc) 2 2 c8 c8 2) Unit Yy (QQ bf i) (qC n c p cs cc) (QQ bf i) (qC n c p cs cc) (fD z) (fC zn) fun(x:Unit)=>(tE c8 [] Bc (fU n c p cs cc) 2 z zn).fork (Tr.cm (Cm.mk [bz,IV i,uW i] (fU n c p cs cc) 2 2 c8 c8 2) Unit Yy lP (Uy n c p sw i cc) lP (fun(x:Unit)=>QP n c p sw i cc) (fD z) (fC zn) fun(x:Unit)=>tE c8 [] [(0,bz),(2,uW i)] (QP n c p sw i cc) 2 z zn)))))))))))
theorem SI(z:T aa)(zn n c cc:Nat)(p:Int)(cs:List Value)(φ:List bU->Prop)(Q:QF)(hyp:ss/\ai prog (ah (ag f249) 0) 2 41 (zG 0) (I6 n c p cs cc) 2 z zn (Al.cons (List bU) φ (fun(ms:List bU)=>aw.mk af.ret [(0,ip 0)] [(0,dV (aU 1 n c) p),(1,dI (aD ms) cc)] 2 z zn) UI Al.nil).R/\E6 41 z zn (R2 bz YM (jE n c p/\DM cs cc/\ ∀(x:List bU),φ x->E6 41 z zn (jE n c p/\KO nk (vm x cc)/\lQ/\Q nw [AW n c p,(1,vm x cc)] 2 z zn)))):dM prog gH z f249 [ip 0] z (I6 n c p cs cc) 2 zn Q:=K1t hyp (Tr.lp 2 41 c8 [] (zG 0) (I6 n c p cs cc) 2 z zn (Al.cons (List bU) φ (fun(ms:List bU)=>aw.mk af.ret [(0,ip 0)] [(0,dV (aU 1 n c) p),(1,dI (aD ms) cc)] 2 z zn) (fun(x:List bU)=>tR c8 [] nw [AW n c p,(1,vm x cc)] 2 z zn) Al.nil))
abbrev P5(n c:Nat)(p:Int):Nat × aa:=(0,BQ [j9,SL 1 (n - 1 - 0) (c - 0),ZV p] 3 1 327)
abbrev QO:List bU->Value:=fun(x:List bU)=>nw
abbrev Xz(n c:Nat)(p:Int):Prop:=Rs (BQ [j9,SL 1 (n - 1 - 0) (c - 0),ZV p] 3 1 327)
theorem Hu(z:T aa)(zn n c cc:Nat)(p:Int)(a:cH)(sw:Int->Int->List Value)(cs:List Value)(φ:List bU->Prop)(Q:QF)(hyp:aQ prog z zn 248 [bz] (fU n c p cs cc) 2 2 Yy (fun(x:Unit)=>TP [AG a.row,T1]) (qC n c p cs cc)/\Rs [bz]/\jE n c p/\yA cs cc/\ ∀(x:Unit),True->Rs (Jt a)/\jE n c p/\yA cs cc/\WQ1 ((↑n:Int) - 1)/\(aQ prog z zn 247 [bz,YM,ZV ((↑n:Int) - 1)] (fU n c p cs cc) 2 2 Yy lP fun(x:Unit)=>[AW n c p,(1,dI (sw 0 ((↑n:Int) - 1)) cc)])/\Rs [bz,YM,ZV ((↑n:Int) - 1)]/\jE n c p/\yA cs cc/\ ∀(x:Unit),True->lQ/\jE n c p/\KO (sig c8) (BR (sw 0 ((↑n:Int) - 1)) cc 4 329)/\Y9/\(↑n:Int) - 1=(↑(n - 1):Int)/\0<=n - 1/\n - 1<=c/\0<c/\(aQ prog z zn 249 [bz] [P5 n c p,(1,BR (sw 0 ((↑n:Int) - 1)) cc 4 329)] 2 2 φ QO fun(ms:List bU)=>[P5 n c p,(1,dI (aD ms) cc)])/\Rs [bz]/\Xz n c p/\KO (sig c8) (BR (sw 0 ((↑n:Int) - 1)) cc 4 329)/\ ∀(x:List bU),φ x->lQ/\Xz n c p/\KO (sig c8) (vm x cc)/\E6 36 z zn (Xz n c p/\KO nk (vm x cc)/\Rs (Jt a)/\Q (Jt a) [P5 n c p,(1,vm x cc)] 2 z zn)):dM prog gH z f238 [ip 0] z (I6 n c p cs cc) 2 zn Q:=K1t hyp (Tr.cm (Cm.mk [bz] (fU n c p cs cc) 2 2 c8 c8 3) Unit Yy (fun(x:Unit)=>TP [AG a.row,T1]) (qC n c p cs cc) (fun(x:Unit)=>Jt a) (qC n c p cs cc) (fD z) (fC zn) fun(x:Unit)=>tA 3 (tO (An.val (ZV ((↑n:Int) - 1))) (Tr.cm (Cm.mk [bz,YM,ZV ((↑n:Int) - 1)] (fU n c p cs cc) 2 2 c8 c8 4) Unit Yy lP (fun(x:Unit)=>[AW n c p,(1,dI (sw 0 ((↑n:Int) - 1)) cc)]) lP (fun(x:Unit)=>[AW n c p,(1,BR (sw 0 ((↑n:Int) - 1)) cc 4 329)]) (fD z) (fC zn) fun(x:Unit)=>tA 1 (tX (lO.Vq 0 (n - 1)) (tA 1 (Tr.cm (Cm.mk [bz] [P5 n c p,(1,BR (sw 0 ((↑n:Int) - 1)) cc 4 329)] 2 2 c8 c8 4) (List bU) φ QO (fun(ms:List bU)=>[P5 n c p,(1,dI (aD ms) cc)]) QO (fun(x:List bU)=>[P5 n c p,(1,vm x cc)]) (fun(x:List bU)=>z) (fun(x:List bU)=>zn) fun(x:List bU)=>tA 2 (tR c8 [] (Jt a) [P5 n c p,(1,vm x cc)] 2 z zn)))))))
abbrev YFK:Unit->Value:=fun(x:Unit)=>TP [AG (cH.mk 0 0 0).row,F0]
abbrev Ux:Unit->Value:=fun(x:Unit)=>L9
theorem SJ(z:T aa)(zn n c cc:Nat)(p:Int)(cs:List Value)(φ:List bU->Prop)(Q:QF)(hyp:aQ prog z zn 248 [bz] (fU n c p cs cc) 2 2 Yy YFK (qC n c p cs cc)/\Rs [bz]/\jE n c p/\yA cs cc/\ ∀(x:Unit),True->Rs L9/\jE n c p/\yA cs cc/\E6 36 z zn (jE n c p/\DM cs cc/\Rs L9/\Q L9 (fU n c p cs cc) 2 z zn)):dM prog gH z f238 [ip 0] z (I6 n c p cs cc) 2 zn Q:=K1t hyp (Tr.cm (Cm.mk [bz] (fU n c p cs cc) 2 2 c8 c8 3) Unit Yy YFK (qC n c p cs cc) Ux (qC n c p cs cc) (fD z) (fC zn) fun(x:Unit)=>tA 4 (tR c8 [] L9 (fU n c p cs cc) 2 z zn))
end
noncomputable section
abbrev cM(n:Nat):Value:=SL 1 n n
abbrev lI(cs2:List Value)(n:Nat):aa:=BQ cs2 (n*3) 3 315
abbrev qB(n:Nat):Nat × Value:=(7,cM n)
theorem Zq(z:T aa)(zn n fr i ck:Nat)(es:List MapEntry)(cs cs2:List Value)(Q:QL)(hyp:Br (decide ((↑i:Int)<(↑n:Int))) (YU i/\i<n/\overwrite cs (0+i*3) [IV i,J 0,J 0]=some cs2/\cs2.length<=n*3/\ZV (IntKind.i64.wrap ((↑i:Int)+1))=IV (i+1)/\E6 82 z zn (R6 (IV n) YK (IV fr) (cM n) (IV n) (IV (i+1)) (K2 nk (YE es ck) (lI cs2 n) (Q aN [(0,IV n),(1,YK),(2,IV fr),qB n,(17,IV n),(18,IV (i+1))] [YG es ck,(1,lI cs2 n)] 2 z zn)))) (E6 82 z zn (R3 YK (IV fr) (cM n) (K2 nk (YE es ck) (lI cs n) (Q YO [(1,YK),(2,IV fr),qB n] [YG es ck,(1,lI cs n)] 2 z zn))))):dP prog gH z (ah (ag f214) 0) 82 (Es n fr i) z [YG es ck,(1,jM cs n)] 2 zn 2 Q:=K1t hyp ((tA 1 (tO (Yj i) (tX (lO.Ms cs2) (tO (Ym i) (tE c8 [] [(0,IV n),(1,YK),(2,IV fr),qB n,(17,IV n),(18,IV (i+1))] [YG es ck,(1,lI cs2 n)] 2 z zn))))).fork (tA 1 (tE c8 [] [(1,YK),(2,IV fr),qB n] [YG es ck,(1,lI cs n)] 2 z zn)))
abbrev jD:Value:=PT 2
noncomputable abbrev P4:Code:=ah (ag f214) 1
theorem Wv(z:T aa)(zn n hn hc hcc ck:Nat)(p:Int)(es:List MapEntry)(cs ns:List Value)(Q:QL)(hyp:aQ prog z zn 238 [bz] (fU hn hc p ns hcc) 2 2 Yy Ux (qC hn hc p ns hcc)/\Rs [jD]/\P6 hn hc p/\KO (sig [(0,2),(1,4)]) (lJ ns hcc)/\ ∀(x:Unit),True->Rs L9/\jE hn hc p/\KO (sig [(2,0),(4,1)]) (lJ ns hcc)/\E6 82 z zn (Rs (cM n)/\K2 nk (YE es ck) (lI cs n) (Q af.ret [(6,cM n)] [YG es ck,(1,lI cs n)] 5 z zn))):dP prog gH z P4 82 (kU n) z [YG es ck,(1,jM cs n),(2,dV (aU 4 hn hc) p),(4,dI ns hcc)] 5 zn 4 Q:=K1t hyp (Tr.cm (Cm.mk [bz] (fU hn hc p ns hcc) 2 2 [(0,2),(1,4)] [(2,0),(4,1)] 5) Unit Yy Ux (qC hn hc p ns hcc) Ux (fun(x:Unit)=>[(2,BQ [j9,SL 4 hn hc,ZV p] 3 1 327),(4,lJ ns hcc)]) (fD z) (fC zn) fun(x:Unit)=>tA 2 (tE c8 [] [(6,cM n)] [YG es ck,(1,lI cs n)] 5 z zn))
abbrev Xy(hn hc:Nat)(p:Int):Prop:=Rs (BQ [j9,SL 4 (hn - 1) hc,ZV p] 3 1 327)
abbrev Js(n:Nat):List (Nat × Value):=[(1,YK),qB n,(9,jD)]
abbrev Tv(hn hc:Nat)(p:Int):Nat × aa:=(2,BQ [j9,SL 4 (hn - 1) hc,ZV p] 3 1 327)
abbrev Xx(x:Nat × Nat × Nat):Nat × Value:=(x.fst,tb x.snd.fst x.snd.snd x.snd.snd)
abbrev Bb:af:=af.exit 4
abbrev QN:List (Nat × Nat):=[YB,iH,ny,(5,5),(6,4)]
abbrev Uw(a:cH):Prop:=Rs (BQ [ZV a.node,ZV a.len,ZV a.fM] 3 1 315)
abbrev Uv:Nat->Option Nat:=ay [YB,iH,ny,(4,6)] []
theorem lb1(z:T aa)(zn n hn hc hcc nd ck:Nat)(p e:Int)(es:List MapEntry)(cs cs2 ns:List Value)(a:cH)(φ:List bU->Prop)(ψ:List bU->Nat->Nat->pZ->Prop)(Q:QL)(hyp:(aQ prog z zn 238 [bz] (fU hn hc p ns hcc) 2 2 φ (fun(x:List bU)=>TP [AG a.row,T1]) fun(ms:List bU)=>[(0,dV (aU 1 (hn - 1) hc) p),(1,dI (aD ms) hcc)])/\Rs [jD]/\P6 hn hc p/\KO (sig [(0,2),(1,4)]) (lJ ns hcc)/\ ∀(x:List bU),φ x->Rs (Jt a)/\Rs (BQ [j9,SL 1 (hn - 1) hc,ZV p] 3 1 327)/\KO (sig [(2,0),(4,1)]) (vm x hcc)/\a.node=(↑nd:Int)/\nd<n/\aC prog (aY.mk cs (n*3) 3 315 true true 0 true) 3 (0+nd*3+2)=some (ZV e)/\(decide (e>=0)=true->E6 82 z zn (R3 YK (cM n) jD (K2 (ay [YB,iH,ny,(4,4)] []) (YE es ck) (lI cs n) (Xy hn hc p/\KO (ay [YB,iH,ny,(4,4)] []) (vm x hcc)/\Q aN (Js n) [YG es ck,(1,lI cs n),Tv hn hc p,(4,vm x hcc)] 5 z zn))))/\(decide (e>=0)=false->a.node=(↑nd:Int)/\nd<n/\overwrite cs (0+nd*3) [ZV a.node,ZV a.len,ZV a.fM]=some cs2/\cs2.length<=n*3/\aA prog 3 (ZV a.node) es 0≠none/\(∀(p:Nat × Value),aA prog 3 (ZV a.node) es 0=YH p-> ∃(x:Nat × Nat × Nat),p=Xx x)/\(∀(i:Nat × Nat × Nat),aA prog 3 (ZV a.node) es 0=some (some (Xx i))->Rf 6/\ai prog (ah P4 0) 6 82 (BS n i.snd.fst i.snd.snd 0) (qa n ck es cs2 a (dV (aU 6 (hn - 1) hc) p) (dI (aD x) hcc)) 7 z zn (Al.cons pZ (ψ x i.snd.fst i.snd.snd) (fun(s:pZ)=>aw.mk Bb (kU n) [YG es ck,(1,jM cs2 n),(2,wy 6 s),(6,vL s)] 7 z zn) (fun(x:pZ)=>eh) Al.nil).R/\E6 82 z zn (R7 YK (cM n) jD (PT 5) (SL (tF i.snd.fst) i.snd.snd i.snd.snd) (IV i.snd.snd) YM (K2 (ay QN []) (YE es ck) (lI cs2 n) (Xy hn hc p/\Uw a/\KO (ay QN []) (vm x hcc)/\ ∀(x_1:pZ),ψ x i.snd.fst i.snd.snd x_1->E6 82 z zn (R3 YK (cM n) jD (K2 Uv (YE es ck) (lI cs2 n) (Rs (BQ [j9,SL 6 x_1.n x_1.ms.length,ZV x_1.p] 3 1 327)/\KO Uv (BR (aD x_1.ms) (x_1.ms.length*4) 4 329)/\Q aN (Js n) [YG es ck,(1,lI cs2 n),(2,BQ [j9,SL 4 x_1.n x_1.ms.length,ZV x_1.p] 3 1 327),(4,BR (aD x_1.ms) (x_1.ms.length*4) 4 329)] 5 z zn)))))))/\(aA prog 3 (ZV a.node) es 0=YL->Rf 6/\ai prog (ah P4 0) 6 82 (we n) (qa n ck es cs2 a (dV (aU 6 (hn - 1) hc) p) (dI (aD x) hcc)) 7 z zn (alt True (aw.mk Bb (kU n) [YG es ck,(1,jM cs2 n),(2,dV (aU 6 (hn - 1) hc) p),(6,dI (aD x) hcc)] 7 z zn) Al.nil).R/\E6 82 z zn (R7 YK (cM n) jD (PT 5) Y4 YM YM (K2 (ay QN []) (YE es ck) (lI cs2 n) (Xy hn hc p/\Uw a/\KO (ay QN []) (vm x hcc)/\ ∀(x_1:Unit),True->E6 82 z zn (R3 YK (cM n) jD (K2 Uv (YE es ck) (lI cs2 n) (Rs (BQ [j9,SL 6 (hn - 1) hc,ZV p] 3 1 327)/\KO Uv (vm x hcc)/\Q aN (Js n) [YG es ck,(1,lI cs2 n),Tv hn hc p,(4,vm x hcc)] 5 z zn))))))))):dP prog gH z P4 82 (kU n) z [YG es ck,(1,jM cs n),(2,dV (aU 4 hn hc) p),(4,dI ns hcc)] 5 zn 4 Q:=K1t hyp (Tr.cm (Cm.mk [bz] (fU hn hc p ns hcc) 2 2 [(0,2),(1,4)] [(2,0),(4,1)] 5) (List bU) φ (fun(x:List bU)=>TP [AG a.row,T1]) (fun(ms:List bU)=>[(0,dV (aU 1 (hn - 1) hc) p),(1,dI (aD ms)
 hcc)]) (fun(x:List bU)=>Jt a) (fun(x:List bU)=>[Tv hn hc p,(4,vm x hcc)]) (fun(x:List bU)=>z) (fun(x:List bU)=>zn) fun(x:List bU)=>tA 3 (tO (Yj nd) (tO (An.Dd (zv e)) ((tA 1 (tE [YB,iH,ny,(4,4)] [] (Js n) [YG es ck,(1,lI cs n),Tv hn hc p,(4,vm x hcc)] 5 z zn)).fork (tA 3 (tO (Yj nd) (tX (lO.Ms cs2) (tA 1 (Tr.find (Nat × Nat × Nat) Xx (fun(i:Nat × Nat × Nat)=>Tr.lp 6 82 QN [] (BS n i.snd.fst i.snd.snd 0) (qa n ck es cs2 a (dV (aU 6 (hn - 1) hc) p) (dI (aD x) hcc)) 7 z zn (Al.cons pZ (ψ x i.snd.fst i.snd.snd) (fun(s:pZ)=>aw.mk Bb (kU n) [YG es ck,(1,jM cs2 n),(2,wy 6 s),(6,vL s)] 7 z zn) (fun(x:pZ)=>tE [YB,iH,ny,(4,6)] [] (Js n) [YG es ck,(1,lI cs2 n),(2,BQ [j9,SL 4 x.n x.ms.length,ZV x.p] 3 1 327),(4,BR (aD x.ms) (x.ms.length*4) 4 329)] 5 z zn) Al.nil)) (Tr.lp 6 82 QN [] (we n) (qa n ck es cs2 a (dV (aU 6 (hn - 1) hc) p) (dI (aD x) hcc)) 7 z zn (Al.cons Unit Yy (fun(x_1:Unit)=>aw.mk Bb (kU n) [YG es ck,(1,jM cs2 n),(2,dV (aU 6 (hn - 1) hc) p),(6,dI (aD x) hcc)] 7 z zn) (fun(x_1:Unit)=>tE [YB,iH,ny,(4,6)] [] (Js n) [YG es ck,(1,lI cs2 n),Tv hn hc p,(4,vm x hcc)] 5 z zn) Al.nil)))))))))))
abbrev yk(e:dW):List Value:=[ZV e.fz1,ZV e.aq,ZV e.wt]
abbrev YFa(hn:Nat)(p:Int):List bU->List (Nat × aa):=fun(ms:List bU)=>[(0,dV (aU 2 (hn+1) ms.length) (p+1)),(2,dI (aD ms) (ms.length*4))]
abbrev Uu(hn hc:Nat)(p:Int):Prop:=Rs (BQ [j9,SL 6 hn hc,ZV p] 3 1 327)
abbrev Tu(x:List bU):aa:=BR (aD x) (x.length*4) 4 329
abbrev dY(k m:Nat):Value:=SL (tF k) m m
abbrev Ut(n k m j:Nat):List (Nat × Value):=[(1,YK),qB n,(9,jD),(10,PT 5),(55,dY k m),(56,IV m),(57,IV (j+1))]
abbrev Us(a:cH):Nat × aa:=(5,BQ [ZV a.node,ZV a.len,ZV a.fM] 3 1 315)
abbrev QM(hn hc:Nat)(p:Int):Nat × aa:=(2,BQ [j9,SL 6 hn hc,ZV p] 3 1 327)
abbrev Ur:Nat->Option Nat:=ay [YB,iH,ny,(6,6)] []
theorem Zp(z:T aa)(zn n hn hc hcc k m j nt ck:Nat)(kb:aY)(p ee:Int)(es:List MapEntry)(cs ns:List Value)(a:cH)(e:dW)(φ:List bU->Prop)(Q:QL)(hyp:Br (decide ((↑j:Int)<(↑m:Int))) (YU j/\j<m/\iG k/\iF z k kb/\aC prog kb 262 (0+j*3)=some (AG (yk e))/\e.aq=(↑nt:Int)/\nt<n/\aC prog (aY.mk cs (n*3) 3 315 true true 0 true) 3 (0+nt*3+2)=some (ZV ee)/\Br (decide (ee<0)) (WQ1 (a.len+e.wt)/\WQ1 (a.fM+1)/\aQ prog z zn 237 [bz,AG [ZV e.aq,ZV (a.len+e.wt),ZV (a.fM+1)]] (fU hn hc p ns hcc) 2 3 φ QO (YFa hn p)/\Rs [jD,AG [ZV e.aq,ZV (a.len+e.wt),ZV (a.fM+1)]]/\Uu hn hc p/\KO (sig [(0,2),(1,6)]) (lJ ns hcc)/\ ∀(x:List bU),φ x->lQ/\Rs (BQ [j9,SL 2 (hn+1) x.length,w6 p] 3 1 327)/\KO (sig [(2,0),(6,1),(8,2)]) (Tu x)/\ZV (IntKind.i64.wrap ((↑j:Int)+1))=IV (j+1)/\E6 82 z zn (R7 YK (cM n) jD (PT 5) (dY k m) (IV m) (IV (j+1)) (K2 (ay [YB,iH,ny,(5,5),(6,8)] []) (YE es ck) (lI cs n) (Rs (BQ [j9,SL 8 (hn+1) x.length,w6 p] 3 1 327)/\Uw a/\KO (ay [YB,iH,ny,(5,5),(6,8)] []) (Tu x)/\Q aN (Ut n k m j) [YG es ck,(1,lI cs n),(2,BQ [j9,SL 6 (hn+1) x.length,w6 p] 3 1 327),Us a,(6,Tu x)] 7 z zn)))) (ZV (IntKind.i64.wrap ((↑j:Int)+1))=IV (j+1)/\E6 82 z zn (R7 YK (cM n) jD (PT 5) (dY k m) (IV m) (IV (j+1)) (K2 (ay [YB,iH,ny,(5,5),(6,6)] []) (YE es ck) (lI cs n) (Uu hn hc p/\Uw a/\KO (ay [YB,iH,ny,(5,5),(6,6)] []) (lJ ns hcc)/\Q aN (Ut n k m j) [YG es ck,(1,lI cs n),QM hn hc p,Us a,(6,lJ ns hcc)] 7 z zn))))) (E6 82 z zn (R3 YK (cM n) jD (K2 Ur (YE es ck) (lI cs n) (Uu hn hc p/\KO Ur (lJ ns hcc)/\Q Bb (Js n) [YG es ck,(1,lI cs n),QM hn hc p,(6,lJ ns hcc)] 7 z zn))))):dP prog gH z (ah P4 0) 82 (BS n k m j) z (qa n ck es cs a (dV (aU 6 hn hc) p) (dI ns hcc)) 7 zn 6 Q:=K1t hyp ((tA 1 (tO (Yj j) (tO (An.ld k kb (AG e.row)) (tA 2 (tO (Yj nt) (tO (An.Dd (zv ee)) ((tA 4 (tO (An.val (ZV (a.len+e.wt))) (tA 1 (tO (An.val (ZV (a.fM+1))) (Tr.cm (Cm.mk [bz,AG [ZV e.aq,ZV (a.len+e.wt),ZV (a.fM+1)]] (fU hn hc p ns hcc) 2 3 [(0,2),(1,6)] [(2,0),(6,1),(8,2)] 9) (List bU) φ QO (YFa hn p) QO (fun(x:List bU)=>[(2,BQ [j9,SL 8 (hn+1) x.length,w6 p] 3 1 327),(8,Tu x)]) (fun(x:List bU)=>z) (fun(x:List bU)=>zn) fun(x:List bU)=>tO (Ym j) (tE [YB,iH,ny,(5,5),(6,8)] [] (Ut n k m j) [YG es ck,(1,lI cs n),(2,BQ [j9,SL 6 (hn+1) x.length,w6 p] 3 1 327),Us a,(6,Tu x)] 7 z zn)))))).fork (tA 1 (tO (Ym j) (tE [YB,iH,ny,(5,5),(6,6)] [] (Ut n k m j) [YG es ck,(1,lI cs n),QM hn hc p,Us a,(6,lJ ns hcc)] 7 z zn)))))))))).fork (tA 1 (tE [YB,iH,ny,(6,6)] [] (Js n) [YG es ck,(1,lI cs n),QM hn hc p,(6,lJ ns hcc)] 7 z zn)))
theorem Wu(z:T aa)(zn n hn hc hcc ck:Nat)(p:Int)(es:List MapEntry)(cs ns:List Value)(a:cH)(Q:QL)(hyp:E6 82 z zn (R3 YK (cM n) jD (K2 Ur (YE es ck) (lI cs n) (Uu hn hc p/\KO Ur (lJ ns hcc)/\Q Bb (Js n) [YG es ck,(1,lI cs n),QM hn hc p,(6,lJ ns hcc)] 7 z zn)))):dP prog gH z (ah P4 0) 82 (we n) z (qa n ck es cs a (dV (aU 6 hn hc) p) (dI ns hcc)) 7 zn 6 Q:=K1t hyp (tA 2 (tE [YB,iH,ny,(6,6)] [] (Js n) [YG es ck,(1,lI cs n),QM hn hc p,(6,lJ ns hcc)] 7 z zn))
abbrev dO(n:Nat):Value:=SL 0 n n
theorem Zo(z:T aa)(zn n i:Nat)(cs cs2 cs3:List Value)(a:cH)(Q:QL)(hyp:Br (decide ((↑i:Int)<(↑n:Int))) (YU i/\i<n/\aC prog (aY.mk cs (n*3) 3 315 true true 0 true) 315 (0+i*3)=some (AG [ZV a.node,ZV a.len,ZV a.fM])/\YU i/\i<n/\overwrite cs2 (0+i*1) [ZV a.len]=some cs3/\cs3.length<=n*1/\ZV (IntKind.i64.wrap ((↑i:Int)+1))=IV (i+1)/\E6 23 z zn (R4 (cM n) (dO n) (IV n) (IV (i+1)) (K2 nk (lI cs n) (BQ cs3 (n*1) 1 3) (Q aN [(3,cM n),(9,dO n),(10,IV n),(11,IV (i+1))] [(0,lI cs n),(1,BQ cs3 (n*1) 1 3)] 2 z zn)))) (E6 23 z zn (Rs (cM n)/\KO (ay gy []) (BQ cs2 (n*1) 1 3)/\Q YO [(3,cM n)] [(1,BQ cs2 (n*1) 1 3)] 2 z zn))):dP prog gH z (ah (ag f213) 0) 23 (Em n i) z [(0,jM cs n),(1,EA cs2 n)] 2 zn 2 Q:=K1t hyp ((tA 1 (tO (Yj i) (tO (An.Dd (AG a.row)) (tA 2 (tO (Yj i) (tX (lO.Ms cs3) (tO (Ym i) (tE c8 [] [(3,cM n),(9,dO n),(10,IV n),(11,IV (i+1))] [(0,lI cs n),(1,BQ cs3 (n*1) 1 3)] 2 z zn)))))))).fork (tA 1 (tE gy [] [(3,cM n)] [(1,BQ cs2 (n*1) 1 3)] 2 z zn)))
abbrev YFj(fr:Nat):Unit->List (Nat × aa):=fun(x:Unit)=>[(0,dV (aU 1 1 1) 1),(1,dI (bU.mk (cH.mk (↑fr:Int) 0 0) 0).row 4)]
abbrev Nd(x:List cH)(n:Nat):aa:=BQ (aR x) (n*3) 3 315
theorem lb(z:T aa)(zn n fr ck:Nat)(es:List MapEntry)(cs cs2:List Value)(φ:List cH->Prop)(Q:QF)(hyp:YU n/\YU n/\n<=1048576/\rep n Ny=cs/\ss/\ai prog (ah (ag f214) 0) 2 82 (Es n fr 0) [YG es ck,(1,jM cs n)] 2 z zn (alt True (aw.mk YO [(1,mp 0),(2,iv fr),(7,aU 1 n n)] [YG es ck,(1,jM cs2 n)] 2 z zn) Al.nil).R/\E6 82 z zn (R6 (IV n) YK (IV fr) (cM n) (IV n) YM (K2 nk (YE es ck) (lI cs n) (∀(x:Unit),True->(aQ prog z zn 235 [j9] [] 0 1 Yy (fun(x:Unit)=>ip 0) fun(x:Unit)=>[(0,dV az 0)])/\Rs [j9]/\ ∀(x:Unit),True->Bd/\Rs Nh/\aQ prog z zn 237 [bz,AG [IV fr,YM,YM]] [(0,Nh)] 1 2 Yy lP (YFj fr)/\Rs [jD,AG [IV fr,YM,YM]]/\Rs Nh/\ ∀(x:Unit),True->lQ/\Rs (BQ [j9,SL 1 1 1,I 1] 3 1 327)/\Rs (BR [IV fr,YM,YM,YM] 4 4 329)/\Rf 4/\ai prog P4 4 82 (kU n) [YG es ck,(1,jM cs2 n),(2,dV (aU 4 1 1) 1),(4,dI (bU.mk (cH.mk (↑fr:Int) 0 0) 0).row 4)] 5 z zn (Al.cons (List cH) φ (fun(l:List cH)=>aw.mk af.ret [(6,aU 1 n n)] [YG es ck,(1,jM (aR l) n)] 5 z zn) (fun(x:List cH)=>eh) Al.nil).R/\E6 82 z zn (R3 YK (cM n) jD (K2 (ay [YB,iH,ny,(4,3)] []) (YE es ck) (lI cs2 n) (Rs (BQ [j9,SL 3 1 1,I 1] 3 1 327)/\Rs (BR [IV fr,YM,YM,YM] 4 4 329)/\ ∀(x:List cH),φ x->E6 82 z zn (K2 nk (YE es ck) (Nd x n) (Rs (cM n)/\Q (cM n) [YG es ck,(1,Nd x n)] 2 z zn))))))))):dM prog gH z f214 [iv n,mp 0,iv fr] z [YG es ck] 1 zn Q:=K1t hyp (tX (lO.RS n cs) (Tr.lp 2 82 c8 [] (Es n fr 0) [YG es ck,(1,jM cs n)] 2 z zn (Al.cons Unit Yy (fun(x:Unit)=>aw.mk YO [(1,mp 0),(2,iv fr),(7,aU 1 n n)] [YG es ck,(1,jM cs2 n)] 2 z zn) (fun(x:Unit)=>Tr.cm (Cm.mk [j9] [] 0 1 [] [(2,0)] 3) Unit Yy (fun(x:Unit)=>ip 0) (fun(x:Unit)=>[(0,dV az 0)]) (fun(x:Unit)=>jD) (fun(x:Unit)=>[(2,Nh)]) (fD z) (fC zn) fun(x:Unit)=>Tr.cm (Cm.mk [bz,AG [IV fr,YM,YM]] [(0,Nh)] 1 2 [(0,2)] [(2,0),(3,1)] 4) Unit Yy lP (YFj fr) lP (fun(x:Unit)=>[(2,BQ [j9,SL 3 1 1,I 1] 3 1 327),(3,BR [IV fr,YM,YM,YM] 4 4 329)]) (fD z) (fC zn) fun(x:Unit)=>Tr.lp 4 82 [YB,iH,ny,(4,3)] [] (kU n) [YG es ck,(1,jM cs2 n),(2,dV (aU 4 1 1) 1),(4,dI (bU.mk (cH.mk (↑fr:Int) 0 0) 0).row 4)] 5 z zn (Al.cons (List cH) φ (fun(l:List cH)=>aw.mk af.ret [(6,aU 1 n n)] [YG es ck,(1,jM (aR l) n)] 5 z zn) (fun(x:List cH)=>tR c8 [] (cM n) [YG es ck,(1,Nd x n)] 2 z zn) Al.nil)) Al.nil)))
theorem ln(z:T aa)(zn n:Nat)(cs cs2 cs3:List Value)(Q:QF)(hyp:YU n/\YU n/\n<=1048576/\rep n [YM]=cs2/\ss/\ai prog (ah (ag f213) 0) 2 23 (Em n 0) [(0,jM cs n),(1,EA cs2 n)] 2 z zn (alt True (aw.mk YO [(3,aU 1 n n)] [(1,EA cs3 n)] 2 z zn) Al.nil).R/\E6 23 z zn (R4 (cM n) (dO n) (IV n) YM (K2 (ay [iH,YB] []) (lI cs n) (BQ cs2 (n*1) 1 3) (∀(x:Unit),True->E6 23 z zn (KO (ay gy []) (BQ cs3 (n*1) 1 3)/\Rs (cM n)/\Q (cM n) [(1,BQ cs3 (n*1) 1 3)] 2 z zn))))):dM prog gH z f213 [aU 0 n n] z [(0,jM cs n)] 1 zn Q:=K1t hyp (tX (lO.RS n cs2) (Tr.lp 2 23 [iH,YB] [] (Em n 0) [(0,jM cs n),(1,EA cs2 n)] 2 z zn (Al.cons Unit Yy (fun(x:Unit)=>aw.mk YO [(3,aU 1 n n)] [(1,EA cs3 n)] 2 z zn) (fun(x:Unit)=>tR gy [] (cM n) [(1,BQ cs3 (n*1) 1 3)] 2 z zn) Al.nil)))
end
noncomputable section
abbrev FP(n:Nat):Prop:=Rs (BQ [IV n] 1 1 3)
abbrev DK(n:Nat):List (Nat × aa):=[(0,BQ [IV n] 1 1 3)]
theorem Wc(z:T aa)(zn n:Nat)(x:Int)(Q:QF)(hyp:Br (decide (x<0)) (E6 11 z zn (FP n/\YA/\Q T1 (DK n) 1 z zn)) (Br (decide (x>=(↑n:Int))) (E6 11 z zn (FP n/\YA/\Q T1 (DK n) 1 z zn)) (E6 11 z zn (FP n/\YQ/\Q F0 (DK n) 1 z zn)))):dM prog gH jA f234 [zv x,ip 0] z [(0,FG n)] 1 zn Q:=K1t hyp ((tA 4 (tR YC [] T1 (DK n) 1 z zn)).fork (tA 4 ((tA 1 (tR YC [] T1 (DK n) 1 z zn)).fork (tA 1 (tR YC [] F0 (DK n) 1 z zn)))))
abbrev Xw(cs:List Value)(m j:Nat)(e:dW):Prop:=aC prog (aY.mk cs (m*3) 3 262 true true 0 true) 262 (0+j*3)=some (AG (yk e))
abbrev FO:Unit->Value:=fun(x:Unit)=>F0
abbrev gX(cs:List Value)(m:Nat):aa:=BQ cs (m*3) 3 262
abbrev I5:Value:=Value.func (Fn.func 234) QR (Array.mk [fB])
abbrev QK(cs:List Value)(m n:Nat):List (Nat × aa):=[(0,gX cs m),(1,BQ [IV n] 1 1 3)]
abbrev Jr(cs:List Value)(m n:Nat):List (Nat × aa):=[(0,nv cs m),(1,FG n)]
theorem ZY(z:T aa)(zn n m j:Nat)(cs:List Value)(e:dW)(Q:QL)(hyp:Br (decide ((↑j:Int)<(↑m:Int))) (YU j/\j<m/\Xw cs m j e/\(aQ prog z zn 234 [ZV e.fz1,bz] (DK n) 1 1 Yy FO fun(x:Unit)=>DK n)/\Rs [ZV e.fz1,fB]/\FP n/\ ∀(x:Unit),True->YQ/\FP n/\(aQ prog z zn 234 [ZV e.aq,bz] (DK n) 1 1 Yy FO fun(x:Unit)=>DK n)/\Rs [ZV e.aq,fB]/\FP n/\ ∀(x:Unit),True->YQ/\FP n/\Br (decide (e.wt<0)) (E6 57 z zn (Rs Yg/\KO YD (gX cs m)/\Q af.ret [(6,Yg)] [(0,gX cs m)] 2 z zn)) (Br (decide (e.wt>1073741824)) (E6 57 z zn (Rs Yg/\KO YD (gX cs m)/\Q af.ret [(6,Yg)] [(0,gX cs m)] 2 z zn)) (ZV (IntKind.i64.wrap ((↑j:Int)+1))=IV (j+1)/\E6 57 z zn (R5 Y4 I5 (dO m) (IV m) (IV (j+1)) (KO nk (gX cs m)/\FP n/\Q aN [(2,Y4),(7,I5),(22,dO m),(23,IV m),(24,IV (j+1))] (QK cs m n) 2 z zn))))) (E6 57 z zn (R2 Y4 I5 (KO nk (gX cs m)/\FP n/\Q YO [(2,Y4),(7,I5)] (QK cs m n) 2 z zn)))):dP prog gH jA (ah (ag f211) 0) 57 (wc n m j) z (Jr cs m n) 2 zn 2 Q:=K1t hyp ((tA 1 (tO (Yj j) (tO (An.Dd (AG e.row)) (tA 2 (Tr.cm (Cm.mk [ZV e.fz1,bz] (DK n) 1 1 [(0,1)] AX 3) Unit Yy FO (fun(x:Unit)=>DK n) FO (fun(x:Unit)=>[(1,BQ [IV n] 1 1 3)]) (fD z) (fC zn) fun(x:Unit)=>tA 5 (Tr.cm (Cm.mk [ZV e.aq,bz] (DK n) 1 1 [(0,1)] AX 3) Unit Yy FO (fun(x:Unit)=>DK n) FO (fun(x:Unit)=>[(1,BQ [IV n] 1 1 3)]) (fD z) (fC zn) fun(x:Unit)=>tA 3 ((tA 5 (tE YC [] [(6,Yg)] [(0,gX cs m)] 2 z zn)).fork (tA 4 ((tA 2 (tE YC [] [(6,Yg)] [(0,gX cs m)] 2 z zn)).fork (tA 2 (tO (Ym j) (tE c8 [] [(2,Y4),(7,I5),(22,dO m),(23,IV m),(24,IV (j+1))] (QK cs m n) 2 z zn)))))))))))).fork (tA 1 (tE c8 [] [(2,Y4),(7,I5)] (QK cs m n) 2 z zn)))
theorem ck1(z:T aa)(zn n m:Nat)(cs:List Value)(Q:QL)(hyp:E6 57 z zn (Rs I5/\KO nk (gX cs m)/\FP n/\Q Y7 [(7,I5)] (QK cs m n) 2 z zn)):dP prog gH jA (ah (ag f211) 1) 57 wb z (Jr cs m n) 2 zn 2 Q:=K1t hyp (tA 2 (tE c8 [] [(7,I5)] (QK cs m n) 2 z zn))
theorem ck(z:T aa)(zn n m:Nat)(cs:List Value)(Q:QF)(hyp:Br (decide ((↑n:Int)>64)) (E6 57 z zn (KO YD (gX cs m)/\Rs Yg/\Q Yg [(0,gX cs m)] 1 z zn)) (Br (decide ((↑m:Int)>4096)) (E6 57 z zn (KO YD (gX cs m)/\Rs (I 5)/\Q (I 5) [(0,gX cs m)] 1 z zn)) (ss/\ai prog (ah (ag f211) 0) 2 57 (wc n m 0) (Jr cs m n) 2 z zn (alt True (aw.mk YO [(2,az),(7,zw)] (Jr cs m n) 2 z zn) Al.nil).R/\E6 57 z zn (R5 Y4 I5 (dO m) (IV m) YM (KO (ay [iH,YB] []) (gX cs m)/\FP n/\ ∀(x:Unit),True->ss/\ai prog (ah (ag f211) 1) 2 57 wb (Jr cs m n) 2 z zn (alt True (aw.mk Y7 [(7,zw)] (Jr cs m n) 2 z zn) Al.nil).R/\E6 57 z zn (R4 I5 Y4 YM YM (KO (ay [iH,YB] []) (gX cs m)/\FP n/\ ∀(x:Unit),True->E6 57 z zn (KO YD (gX cs m)/\I8/\Q YM [(0,gX cs m)] 1 z zn)))))))):dM prog gH jA f211 [iv n,aU 0 m m,az] z [(0,nv cs m)] 1 zn Q:=K1t hyp (tA 5 ((tA 2 (tR YC [] Yg [(0,gX cs m)] 1 z zn)).fork (tA 2 ((tA 1 (tR YC [] (I 5) [(0,gX cs m)] 1 z zn)).fork (tA 1 (Tr.lp 2 57 [iH,YB] [] (wc n m 0) (Jr cs m n) 2 z zn (Al.cons Unit Yy (fun(x:Unit)=>aw.mk YO [(2,az),(7,zw)] (Jr cs m n) 2 z zn) (fun(x:Unit)=>Tr.lp 2 57 [iH,YB] [] wb (Jr cs m n) 2 z zn (Al.cons Unit Yy (fun(x:Unit)=>aw.mk Y7 [(7,zw)] (Jr cs m n) 2 z zn) (fun(x:Unit)=>tR YC [] YM [(0,gX cs m)] 1 z zn) Al.nil)) Al.nil)))))))
abbrev Uq(m j:Nat):List (Nat × Value):=[(1,F0),(5,MP 1),(9,dO m),(10,IV m),(11,IV (j+1))]
noncomputable abbrev Xv:Code:=ah (ag f212) 0
theorem Zm(z:T aa)(zn m j ck:Nat)(cs:List Value)(e:dW)(es:List MapEntry)(Q:QL)(hyp:Br (decide ((↑j:Int)<(↑m:Int))) (YU j/\j<m/\Xw cs m j e/\aA prog 3 (ZV e.fz1) es 0=YL/\aA prog 3 (ZV e.fz1) es 0=YL/\ZV (IntKind.i64.wrap ((↑j:Int)+1))=IV (j+1)/\E3 34 (Rf (jd z [(zn,4,BR (yk e) 3 3 262)])/\zn.le (zn+1)/\ax z zn/\zn<=zn/\zn<zn+1/\Rs (BR (yk e) 3 3 262)/\R5 F0 (MP 1) (dO m) (IV m) (IV (j+1)) (KO (ay c8 [(zn,4,BR (yk e) 3 3 262)]) (gX cs m)/\aG (ay c8 [(zn,4,BR (yk e) 3 3 262)]) (aa.map (es++[MapEntry.mk (ZV e.fz1) (SL (tF zn) 1 1) ck]) (ck+1))=some (aa.map (es++[MapEntry.mk (ZV e.fz1) (SL 4 1 1) ck]) (ck+1))/\Q aN (Uq m j) [(0,gX cs m),(1,aa.map (es++[MapEntry.mk (ZV e.fz1) (SL (tF zn) 1 1) ck]) (ck+1))] 2 (jd z [(zn,4,BR (yk e) 3 3 262)]) (zn+1)))) (E6 34 z zn (Rs (MP 1)/\K2 nk (gX cs m) (YE es ck) (Q YO [(5,MP 1)] [(0,gX cs m),(1,YE es ck)] 2 z zn)))):dP prog gH jA Xv 34 (BN m j) z [(0,nv cs m),(1,YE es ck)] 2 zn 2 Q:=K1t hyp ((tA 1 (tO (Yj j) (tO (An.Dd (AG e.row)) (tA 4 (tO Yl (tA 2 (tO Yl (tO (Ym j) (tE c8 [(zn,4,BR (yk e) 3 3 262)] (Uq m j) [(0,gX cs m),(1,aa.map (es++[MapEntry.mk (ZV e.fz1) (SL (tF zn) 1 1) ck]) (ck+1))] 2 (jd z [(zn,4,BR (yk e) 3 3 262)]) (zn+1)))))))))).fork (tA 1 (tE c8 [] [(5,MP 1)] [(0,gX cs m),(1,YE es ck)] 2 z zn)))
theorem nb1(z:T aa)(zn m j ck i k r:Nat)(kb:aY)(cs:List Value)(e:dW)(es:List MapEntry)(Q:QL)(hyp:Br (decide ((↑j:Int)<(↑m:Int))) (YU j/\j<m/\Xw cs m j e/\aA prog 3 (ZV e.fz1) es 0=some (some (i,dY k r))/\iG k/\iF z k kb/\kb.exact=false/\kb.own=true/\kb.bL=0/\kb.iU=3/\kb.elem=262/\Rs (yk e)/\Rf r/\kb.cells.length=r*3/\kb.cap=r*3/\r+1<=1048576/\aA prog 3 (ZV e.fz1) es 0=some (some (i,dY k r))/\xa es i (ZV e.fz1)/\Rf (cU i (ZV e.fz1) (SL 4 (r+1) (r+1)) es)/\ZV (IntKind.i64.wrap ((↑j:Int)+1))=IV (j+1)/\E3 34 (Rf (jd (z.del k) [(zn,4,BR (kb.cells++yk e) ((r+1)*3) 3 262)])/\zn.le (zn+1)/\ax (z.del k) zn/\zn<=zn/\zn<zn+1/\KO (ay c8 [(zn,4,BR (kb.cells++yk e) ((r+1)*3) 3 262)]) (BR (kb.cells++yk e) ((r+1)*3) 3 262)/\R5 F0 (MP 1) (dO m) (IV m) (IV (j+1)) (KO (ay c8 [(zn,4,BR (kb.cells++yk e) ((r+1)*3) 3 262)]) (gX cs m)/\aG (ay c8 [(zn,4,BR (kb.cells++yk e) ((r+1)*3) 3 262)]) (aa.map (cU i (ZV e.fz1) (SL (tF zn) (r+1) (r+1)) es) ck)=some (aa.map (cU i (ZV e.fz1) (SL 4 (r+1) (r+1)) es) ck)/\Q aN (Uq m j) [(0,gX cs m),(1,aa.map (cU i (ZV e.fz1) (SL (tF zn) (r+1) (r+1)) es) ck)] 2 (jd (z.del k) [(zn,4,BR (kb.cells++yk e) ((r+1)*3) 3 262)]) (zn+1)))) (E6 34 z zn (Rs (MP 1)/\K2 nk (gX cs m) (YE es ck) (Q YO [(5,MP 1)] [(0,gX cs m),(1,YE es ck)] 2 z zn)))):dP prog gH jA Xv 34 (BN m j) z [(0,nv cs m),(1,YE es ck)] 2 zn 2 Q:=K1t hyp ((tA 1 (tO (Yj j) (tO (An.Dd (AG e.row)) (tA 4 (tO (An.W9 (some (i,tb k r r))) (tA 1 (tX (lO.SM k kb 1 (yk e)) (tX (lO.nB i (tb k r r) (cU i (zv e.fz1) (aU 4 (r+1) (r+1)) es)) (tO (Ym j) (tE c8 [(zn,4,BR (kb.cells++yk e) ((r+1)*3) 3 262)] (Uq m j) [(0,gX cs m),(1,aa.map (cU i (ZV e.fz1) (SL (tF zn) (r+1) (r+1)) es) ck)] 2 (jd (z.del k) [(zn,4,BR (kb.cells++yk e) ((r+1)*3) 3 262)]) (zn+1))))))))))).fork (tA 1 (tE c8 [] [(5,MP 1)] [(0,gX cs m),(1,YE es ck)] 2 z zn)))
noncomputable abbrev YFv(cs:List Value)(m:Nat)(s:nM):aw:=aw.mk YO [(5,mp 1)] [(0,nv cs m),(1,Ee s.l)] 2 s.z s.zn
abbrev Nc(x:nM):aa:=aa.map (eD 0 x.l) x.l.length
theorem nb(z:T aa)(zn m:Nat)(cs:List Value)(φ:nM->Prop)(Q:QF)(hyp:ss/\ai prog Xv 2 34 (BN m 0) [(0,nv cs m),(1,Yr)] 2 z zn (Al.cons nM φ (fun(s:nM)=>YFv cs m s) (fun(x:nM)=>eh) Al.nil).R/\E6 34 z zn (R5 F0 (MP 1) (dO m) (IV m) YM (KO (ay [iH,YB] []) (gX cs m)/\Ys/\ ∀(x:nM),φ x->E6 34 x.z x.zn (K2 nk (gX cs m) (Nc x) (Rs (MP 1)/\Q (MP 1) [(0,gX cs m),(1,Nc x)] 2 x.z x.zn))))):dM prog gH jA f212 [aU 0 m m,F0] z [(0,nv cs m)] 1 zn Q:=K1t hyp (Tr.lp 2 34 [iH,YB] [] (BN m 0) [(0,nv cs m),(1,Yr)] 2 z zn (Al.cons nM φ (fun(s:nM)=>aw.mk YO [(5,mp 1)] [(0,nv cs m),(1,Ee s.l)] 2 s.z s.zn) (fun(x:nM)=>tR c8 [] (MP 1) [(0,gX cs m),(1,Nc x)] 2 x.z x.zn) Al.nil))
end
noncomputable section
abbrev uV(cs:List Value)(n:Nat):aa:=BQ cs (n*1) 1 138
theorem Z1(z:T aa)(zn n i ck:Nat)(es:List MapEntry)(a1 a2 cs:List Value)(f:List Value->List Value)(φ:List cH->Prop)(Q:QL)(hyp:Br (decide ((↑i:Int)<(↑n:Int))) ((aQ prog z zn 214 [IV n,YK,IV i] [YG es ck] 1 2 φ (fun(x:List cH)=>aU 1 n n) fun(l:List cH)=>[YG es ck,(1,jM (aR l) n)])/\Rs [IV n,MP 1,IV i]/\KO (sig [(0,1)]) (YE es ck)/\ ∀(x:List cH),φ x->Rs (cM n)/\K2 (sig [(1,0),(3,1)]) (YE es ck) (Nd x n) ((aQ prog z zn 213 [dO n] [(0,Nd x n)] 1 2 Yy (fun(x:Unit)=>aU 1 n n) fun(x_1:Unit)=>[(1,EA (f (aR x)) n)])/\Rs [SL 3 n n]/\KO (sig [(0,3)]) (Nd x n)/\ ∀(x_1:Unit),True->Rs (cM n)/\KO (sig [(3,0),(4,1)]) (BQ (f (aR x)) (n*1) 1 3)/\YU i/\i<n/\overwrite cs (0+i*1) [SL 4 n n]=some (a1++SL 4 n n::a2)/\(a1++aU 4 n n::a2).length<=n*1/\ZV (IntKind.i64.wrap ((↑i:Int)+1))=IV (i+1)/\E3 35 (Rf (jd z [(zn,4,BQ (f (aR x)) (n*1) 1 3)])/\zn.le (zn+1)/\ax z zn/\zn<=zn/\zn<zn+1/\KO (ay [iH,ny] [(zn,4,BQ (f (aR x)) (n*1) 1 3)]) (BQ (f (aR x)) (n*1) 1 3)/\R5 (IV n) (MP 1) (SL 2 n n) (IV n) (IV (i+1)) (KO (ay [iH,ny] [(zn,4,BQ (f (aR x)) (n*1) 1 3)]) (YE es ck)/\aG (ay [iH,ny] [(zn,4,BQ (f (aR x)) (n*1) 1 3)]) (BQ (a1++dY zn n::a2) (n*1) 1 138)=some (BQ (a1++SL 4 n n::a2) (n*1) 1 138)/\Q aN [(0,IV n),(7,MP 1),(8,SL 2 n n),(21,IV n),(22,IV (i+1))] [(1,YE es ck),(2,BQ (a1++dY zn n::a2) (n*1) 1 138)] 3 (jd z [(zn,4,BQ (f (aR x)) (n*1) 1 3)]) (zn+1))))) (E6 35 z zn (Rs (SL 2 n n)/\KO (ay [ny] []) (uV cs n)/\Q YO [(8,SL 2 n n)] [(2,uV cs n)] 3 z zn))):dP prog gH jA (ah (ag f183) 0) 35 (zQ n i) z [(1,YE es ck),(2,sT cs n)] 3 zn 3 Q:=K1t hyp ((tA 1 (Tr.cm (Cm.mk [IV n,YK,IV i] [YG es ck] 1 2 [(0,1)] [(1,0),(3,1)] 4) (List cH) φ (fun(x:List cH)=>aU 1 n n) (fun(l:List cH)=>[YG es ck,(1,jM (aR l) n)]) (fun(x:List cH)=>SL 3 n n) (fun(x:List cH)=>[(1,YE es ck),(3,Nd x n)]) (fun(x:List cH)=>z) (fun(x:List cH)=>zn) fun(x:List cH)=>Tr.cm (Cm.mk [dO n] [(0,Nd x n)] 1 2 [(0,3)] [(3,0),(4,1)] 5) Unit Yy (fun(x:Unit)=>aU 1 n n) (fun(x_1:Unit)=>[(1,EA (f (aR x)) n)]) (fun(x:Unit)=>SL 4 n n) (fun(x_1:Unit)=>[(4,BQ (f (aR x)) (n*1) 1 3)]) (fD z) (fC zn) fun(x_1:Unit)=>tO (Yj i) (tX (lO.Ms (a1++aU 4 n n::a2)) (tO (Ym i) (tE [iH,ny] [(zn,4,BQ (f (aR x)) (n*1) 1 3)] [(0,IV n),(7,MP 1),(8,SL 2 n n),(21,IV n),(22,IV (i+1))] [(1,YE es ck),(2,BQ (a1++dY zn n::a2) (n*1) 1 138)] 3 (jd z [(zn,4,BQ (f (aR x)) (n*1) 1 3)]) (zn+1)))))).fork (tA 1 (tE [ny] [] [(8,SL 2 n n)] [(2,uV cs n)] 3 z zn)))
noncomputable abbrev YFy(n:Nat)(s:dN):aw:=aw.mk YO [(8,aU 2 n n)] [(2,sT s.cs n)] 3 s.z s.zn
abbrev rL(x_1:dN)(n:Nat):aa:=BQ x_1.cs (n*1) 1 138
noncomputable abbrev YF0(n:Nat):dN->Tr:=fun(x:dN)=>tR [(1,2)] [] (TP [cM n,YM]) [(1,rL x n)] 2 x.z x.zn
theorem al(z:T aa)(zn n m:Nat)(cs cs0:List Value)(φ:nM->Prop)(ψ:nM->dN->Prop)(Q:QF)(hyp:(aQ prog z zn 211 [IV n,dO m,Y4] [(0,gX cs m)] 1 1 Yy (fun(x:Unit)=>YM) fun(x:Unit)=>[(0,gX cs m)])/\Rs [IV n,dO m,Y4]/\KO (sig YC) (gX cs m)/\ ∀(x:Unit),True->I8/\KO (sig YC) (gX cs m)/\(bB prog z zn 212 [dO m,F0] [(0,gX cs m)] 1 2 φ (fun(x:nM)=>mp 1) (fun(s:nM)=>[(0,gX cs m),(1,Ee s.l)]) (fun(x:nM)=>x.z) fun(x:nM)=>x.zn)/\Rs [dO m,F0]/\KO (sig YC) (gX cs m)/\ ∀(x:nM),φ x->Rs (MP 1)/\K2 (sig c8) (gX cs m) (Nc x) (YU n/\YU n/\n<=1048576/\rep n [Y4]=cs0/\Be/\ai prog (ah (ag f183) 0) 3 35 (zQ n 0) [(1,Nc x),(2,sT cs0 n)] 3 x.z x.zn (Al.cons dN (ψ x) (fun(s:dN)=>YFy n s) (fun(x:dN)=>eh) Al.nil).R/\E6 35 x.z x.zn (R5 (IV n) (MP 1) (SL 2 n n) (IV n) YM (K2 (ay [iH,ny] []) (Nc x) (uV cs0 n) (∀(x_1:dN),ψ x x_1->E6 35 x_1.z x_1.zn (KO (ay [(1,2)] []) (rL x_1 n)/\Rs (TP [SL 2 n n,YM])/\Q (TP [cM n,YM]) [(1,rL x_1 n)] 2 x_1.z x_1.zn)))))):dM prog gH jA f183 [iv n,aU 0 m m] z [(0,nv cs m)] 1 zn Q:=K1t hyp (Tr.cm (Cm.mk [IV n,dO m,Y4] [(0,gX cs m)] 1 1 YC YC 1) Unit Yy (fun(x:Unit)=>YM) (fun(x:Unit)=>[(0,gX cs m)]) (fun(x:Unit)=>YM) (fun(x:Unit)=>[(0,gX cs m)]) (fD z) (fC zn) fun(x:Unit)=>tA 2 (Tr.cm (Cm.mk [dO m,F0] [(0,gX cs m)] 1 2 YC c8 2) nM φ (fun(x:nM)=>mp 1) (fun(s:nM)=>[(0,gX cs m),(1,Ee s.l)]) (fun(x:nM)=>MP 1) (fun(x:nM)=>[(0,gX cs m),(1,Nc x)]) (fun(x:nM)=>x.z) (fun(x:nM)=>x.zn) fun(x:nM)=>tX (lO.RS n cs0) (Tr.lp 3 35 [iH,ny] [] (zQ n 0) [(1,Nc x),(2,sT cs0 n)] 3 x.z x.zn (Al.cons dN (ψ x) (fun(s:dN)=>aw.mk YO [(8,aU 2 n n)] [(2,sT s.cs n)] 3 s.z s.zn) (YF0 n) Al.nil))))
abbrev FQ(x:ae)(es:List MapEntry):Option (Option (Nat × Value)):=aA prog 217 (rM x) es 0
abbrev jz(b:Bool):Nat × Value:=(2,ga b)
abbrev DL(n:Nat)(b:Bool)(m cp i:Nat):List (Nat × Value):=[dZ n,jz b,(7,YK),(19,eW m cp),(20,IV m),(21,IV (i+1))]
noncomputable abbrev UB:Code:=ah (ag f123) 0
theorem ZR(z:T aa)(zn m cp n i ck:Nat)(b:Bool)(kb:aY)(x:ae)(es:List MapEntry)(Q:QL)(hyp:Br (decide ((↑i:Int)<(↑m:Int))) (YU i/\i<m/\Nq/\Np z kb/\DN kb i x/\Br b (b=true/\Br x.sf (b=true/\b=true/\FQ x es≠none/\(∀(p:Nat × Value),FQ x es=YH p->Exists (YJ p))/\(∀(i_1:Nat × Int),FQ x es=some (some (YI i_1))->(decide (x.aH<i_1.snd)=true->FQ x es=some (some (i_1.fst,ZV i_1.snd))/\xa es i_1.fst (rM x)/\Rf (cU i_1.fst (rM x) (ZV x.aH) es)/\ZV (IntKind.i64.wrap ((↑i:Int)+1))=IV (i+1)/\E6 81 z zn (R6 (IV n) (ga b) YK (eW m cp) (IV m) (IV (i+1)) (KO YD (aa.map (cU i_1.fst (rM x) (ZV x.aH) es) ck)/\Q aN (DL n b m cp i) [(0,aa.map (cU i_1.fst (rM x) (ZV x.aH) es) ck)] 1 z zn)))/\(decide (x.aH<i_1.snd)=false->ZV (IntKind.i64.wrap ((↑i:Int)+1))=IV (i+1)/\E6 81 z zn (R6 (IV n) (ga b) YK (eW m cp) (IV m) (IV (i+1)) (YF es ck/\Q aN (DL n b m cp i) [YG es ck] 1 z zn))))/\(FQ x es=YL->FQ x es=YL/\ZV (IntKind.i64.wrap ((↑i:Int)+1))=IV (i+1)/\E6 81 z zn (R6 (IV n) (ga b) YK (eW m cp) (IV m) (IV (i+1)) (KO YD (aa.map (es++[MapEntry.mk (rM x) (ZV x.aH) ck]) (ck+1))/\Q aN (DL n b m cp i) [(0,aa.map (es++[MapEntry.mk (rM x) (ZV x.aH) ck]) (ck+1))] 1 z zn)))) (b=true/\b=true/\ZV (IntKind.i64.wrap ((↑i:Int)+1))=IV (i+1)/\E6 81 z zn (R6 (IV n) (ga b) YK (eW m cp) (IV m) (IV (i+1)) (YF es ck/\Q aN (DL n b m cp i) [YG es ck] 1 z zn)))) (b=false/\b=false/\b=false/\FQ x es≠none/\(∀(p:Nat × Value),FQ x es=YH p->Exists (YJ p))/\(∀(i_1:Nat × Int),FQ x es=some (some (YI i_1))->(decide (x.aH<i_1.snd)=true->FQ x es=some (some (i_1.fst,ZV i_1.snd))/\xa es i_1.fst (rM x)/\Rf (cU i_1.fst (rM x) (ZV x.aH) es)/\ZV (IntKind.i64.wrap ((↑i:Int)+1))=IV (i+1)/\E6 81 z zn (R6 (IV n) (ga b) YK (eW m cp) (IV m) (IV (i+1)) (KO YD (aa.map (cU i_1.fst (rM x) (ZV x.aH) es) ck)/\Q aN (DL n b m cp i) [(0,aa.map (cU i_1.fst (rM x) (ZV x.aH) es) ck)] 1 z zn)))/\(decide (x.aH<i_1.snd)=false->ZV (IntKind.i64.wrap ((↑i:Int)+1))=IV (i+1)/\E6 81 z zn (R6 (IV n) (ga b) YK (eW m cp) (IV m) (IV (i+1)) (YF es ck/\Q aN (DL n b m cp i) [YG es ck] 1 z zn))))/\(FQ x es=YL->FQ x es=YL/\ZV (IntKind.i64.wrap ((↑i:Int)+1))=IV (i+1)/\E6 81 z zn (R6 (IV n) (ga b) YK (eW m cp) (IV m) (IV (i+1)) (KO YD (aa.map (es++[MapEntry.mk (rM x) (ZV x.aH) ck]) (ck+1))/\Q aN (DL n b m cp i) [(0,aa.map (es++[MapEntry.mk (rM x) (ZV x.aH) ck]) (ck+1))] 1 z zn))))) (E6 81 z zn (R2 (IV n) YK (YF es ck/\Q YO [dZ n,(7,YK)] [YG es ck] 1 z zn)))):dP prog gH jA UB 81 (zN m cp n b i) z [YG es ck] 1 zn 1 Q:=K1t hyp ((tA 1 (tO (Yj i) (tO (Nn kb x) (tA 1 ((tO cB ((tO cB (tO cB (tA 5 (Tr.find (Nat × Int) YI (fun(i_1:Nat × Int)=>tA 5 ((tA 4 (tX (lO.nB i_1.fst (zv i_1.snd) (cU i_1.fst (AG [zv x.fz1,zv x.aq,F0]) (zv x.aH) es)) (tO (Ym i) (tE YC [] (DL n b m cp i) [(0,aa.map (cU i_1.fst (rM x) (ZV x.aH) es) ck)] 1 z zn)))).fork (tA 2 (tO (Ym i) (tE YC [] (DL n b m cp i) [YG es ck] 1 z zn))))) (tA 8 (tO Yl (tO (Ym i) (tE YC [] (DL n b m
 cp i) [(0,aa.map (es++[MapEntry.mk (rM x) (ZV x.aH) ck]) (ck+1))] 1 z zn)))))))).fork (tO cB (tO cB (tA 1 (tO (Ym i) (tE YC [] (DL n b m cp i) [YG es ck] 1 z zn))))))).fork (tO bJ (tO bJ (tO bJ (tA 5 (Tr.find (Nat × Int) YI (fun(i_1:Nat × Int)=>tA 5 ((tA 4 (tX (lO.nB i_1.fst (zv i_1.snd) (cU i_1.fst (AG [zv x.fz1,zv x.aq,F0]) (zv x.aH) es)) (tO (Ym i) (tE YC [] (DL n b m cp i) [(0,aa.map (cU i_1.fst (rM x) (ZV x.aH) es) ck)] 1 z zn)))).fork (tA 2 (tO (Ym i) (tE YC [] (DL n b m cp i) [YG es ck] 1 z zn))))) (tA 8 (tO Yl (tO (Ym i) (tE YC [] (DL n b m cp i) [(0,aa.map (es++[MapEntry.mk (rM x) (ZV x.aH) ck]) (ck+1))] 1 z zn)))))))))))))).fork (tA 1 (tE YC [] [dZ n,(7,YK)] [YG es ck] 1 z zn)))
abbrev XD(x:Nat × fO):List Value:=[ZV x.snd.fst,ZV x.snd.snd.fst,ZV x.snd.snd.snd]
noncomputable abbrev XC:Code:=ah (ag f123) 1
theorem ds1(z:T aa)(zn n r mm ck:Nat)(es:List MapEntry)(cs:List Value)(csf:Nat × fO->List Value)(seen:List Nat)(φ:Nat × fO->Prop)(Q:QL)(hyp:ck<=ck/\(∀(e:MapEntry),e∈es->e.born<ck)/\(∀(e:MapEntry),e∈es->ku e.born seen=false-> ∃(x:Nat × fO),φ x/\e=TU x)/\(∀(x:Nat × fO),φ x->Rf ck/\eU x.fst es=some (MapEntry.mk (AG [ZV x.snd.fst,ZV x.snd.snd.fst,F0]) (ZV x.snd.snd.snd) x.fst)/\Rs (XD x)/\r+1<=mm/\overwrite cs (0+r*3) (XD x)=some (csf x)/\(csf x).length<=mm*3/\E6 81 z zn (R3 (IV n) (SL 1 (r+1) mm) jD (K2 vn (YE es ck) (BQ (csf x) (mm*3) 3 262) (Rs (aa.dt (some 0) ck (x.fst::seen) ck)/\Q aN [dZ n,(13,SL 1 (r+1) mm),(59,jD)] [YG es ck,(1,BQ (csf x) (mm*3) 3 262),(2,aa.dt (some 0) ck (x.fst::seen) ck)] 3 z zn))))/\((∀(e:MapEntry),e∈es->ku e.born seen=true)->E6 81 z zn (R2 (IV n) (SL 1 r mm) (K2 nk (YE es ck) (gX cs mm) (Q Y7 [dZ n,(13,SL 1 r mm)] [YG es ck,(1,gX cs mm)] 3 z zn))))):dP prog gH jA XC 81 (vc n r mm) z (uY mm ck es cs seen) 3 zn 3 Q:=K1t hyp (Tr.jC (Nat × fO) φ (fun(x:Nat × fO)=>TU x) (fun(x:Nat × fO)=>tA 1 (tX (lO.Xg (MapEntry.mk (DB x.snd) (zv x.snd.snd.snd) x.fst)) (tA 3 (tX (lO.app 1 (XD x) (csf x)) (tE Bf [] [dZ n,(13,SL 1 (r+1) mm),(59,jD)] [YG es ck,(1,BQ (csf x) (mm*3) 3 262),(2,aa.dt (some 0) ck (x.fst::seen) ck)] 3 z zn))))) (tA 1 (tE c8 [] [dZ n,(13,SL 1 r mm)] [YG es ck,(1,gX cs mm)] 3 z zn)))
noncomputable abbrev YF7(n:Nat)(l:List fO)(z:T aa)(zn:Nat):List dW->aw:=fun(l_1:List dW)=>aw.mk Y7 [(1,iv n),(13,aU 1 l.length l.length)] [(0,aa.map (gf 0 l) l.length),(1,nv (bu l_1) l.length)] 3 z zn
abbrev UA(n:Nat):dN->Value:=fun(x:dN)=>TP [aU 1 n n,YM]
abbrev Uz(n:Nat):dN->List (Nat × aa):=fun(s:dN)=>[(1,sT s.cs n)]
abbrev FM:dN->Nat:=fun(x:dN)=>x.zn
noncomputable abbrev YGB(n:Nat)(x:dN):Tr:=tR [(0,3)] [] (dO n) [(0,rL x n)] 1 x.z x.zn
theorem ds(z:T aa)(zn n m cp:Nat)(b:Bool)(l:List fO)(cs0:List Value)(φ:List dW->Prop)(ψ:dN->Prop)(Q:QF)(hyp:YP/\ai prog UB 1 81 (zN m cp n b 0) [(0,Yr)] 1 z zn (alt True (aw.mk YO [(1,iv n),(7,mp 0)] [(0,Tj l)] 1 z zn) Al.nil).R/\E6 81 z zn (R6 (IV n) (ga b) YK (eW m cp) (IV m) YM (Ys/\ ∀(x:Unit),True->Int.ofNat 0=0/\(↑(gf 0 l).length:Int)=(↑l.length:Int)/\0<=l.length/\l.length<=1048576/\rep l.length Ny=cs0/\Be/\ai prog XC 3 81 (vc n 0 l.length) (uY l.length l.length (gf 0 l) cs0 []) 3 z zn (Al.cons (List dW) φ (YF7 n l z zn) (fun(x:List dW)=>eh) Al.nil).R/\E6 81 z zn (R3 (IV n) (SL 1 0 l.length) jD (K2 (ay [iH,ny,YB] []) (aa.map (gf 0 l) l.length) (BQ cs0 (l.length*3) 3 262) (Rs (aa.dt (some 0) l.length [] l.length)/\ ∀(x:List dW),φ x->bB prog z zn 183 [IV n,SL 0 l.length l.length] [(0,BQ (bu x) (l.length*3) 3 262)] 1 2 ψ (UA n) (Uz n) (fun(x:dN)=>x.z) FM/\Rs [IV n,SL 1 l.length l.length]/\KO (sig [(0,1)]) (BQ (bu x) (l.length*3) 3 262)/\ ∀(x:dN),ψ x->Rs (TP [cM n,YM])/\KO (sig [(1,0),(3,1)]) (rL x n)/\E6 81 x.z x.zn (KO (ay [(0,3)] []) (rL x n)/\Rs (SL 3 n n)/\Q (dO n) [(0,rL x n)] 1 x.z x.zn))))))):dM prog gH jA f123 [tb 4 m cp,iv n,ga b] z [] 0 zn Q:=K1t hyp (Tr.lp 1 81 YC [] (zN m cp n b 0) [(0,Yr)] 1 z zn (Al.cons Unit Yy (fun(x:Unit)=>aw.mk YO [(1,iv n),(7,mp 0)] [(0,Tj l)] 1 z zn) (fun(x:Unit)=>tX (lO.Wa 0 l.length cs0) (Tr.lp 3 81 [iH,ny,YB] [] (vc n 0 l.length) (uY l.length l.length (gf 0 l) cs0 []) 3 z zn (Al.cons (List dW) φ (YF7 n l z zn) (fun(x:List dW)=>Tr.cm (Cm.mk [IV n,SL 0 l.length l.length] [(0,BQ (bu x) (l.length*3) 3 262)] 1 2 [(0,1)] [(1,0),(3,1)] 4) dN ψ (UA n) (Uz n) (fun(x:dN)=>TP [SL 3 n n,YM]) (fun(x:dN)=>[(3,rL x n)]) (fun(x:dN)=>x.z) FM fun(x:dN)=>YGB n x) Al.nil))) Al.nil))
abbrev Um:Prop:=Rs (BQ [Y4] 1 1 26)
theorem ad0(z:T aa)(zn k:Nat)(a b n:Int)(f:Bool)(Q:QF)(hyp:Br (decide (n>0)) (Br (decide (n<=14400)) (E3 23 (Rf (jd z [(zn,2,BR [ZV a,ZV b,ZV n,ga f] 4 4 82)])/\zn.le (zn+1)/\ax z zn/\zn<=zn/\zn<zn+1/\Rs (BR [ZV a,ZV b,ZV n,ga f] 4 4 82)/\aG (ay YC [(zn,2,BR [ZV a,ZV b,ZV n,ga f] 4 4 82)]) (BQ [SL (tF zn) 1 1] 1 1 26)=some (BQ [SL 2 1 1] 1 1 26)/\lQ/\Q nw [(0,BQ [SL (tF zn) 1 1] 1 1 26)] 1 (jd z [(zn,2,BR [ZV a,ZV b,ZV n,ga f] 4 4 82)]) (zn+1))) (E6 23 z zn (Um/\lQ/\Q nw [(0,BQ [Y4] 1 1 26)] 1 z zn))) (E6 23 z zn (Um/\lQ/\Q nw [(0,BQ [Y4] 1 1 26)] 1 z zn))):dM prog gH jA f124 [zv a,zv b,zv n,ga f,ip 0] z [(0,oB az)] 1 zn Q:=K1t hyp ((tA 2 ((tA 5 (tR YC [(zn,2,BR [ZV a,ZV b,ZV n,ga f] 4 4 82)] nw [(0,BQ [SL (tF zn) 1 1] 1 1 26)] 1 (jd z [(zn,2,BR [ZV a,ZV b,ZV n,ga f] 4 4 82)]) (zn+1))).fork (tA 2 (tR YC [] nw [(0,BQ [Y4] 1 1 26)] 1 z zn)))).fork (tA 4 (tR YC [] nw [(0,BQ [Y4] 1 1 26)] 1 z zn)))
abbrev QG(zn:Nat)(kb:aY)(a b n:Int)(f:Bool)(r:Nat):List (Nat × Nat × aa):=[(zn,2,BR (kb.cells++[ZV a,ZV b,ZV n,ga f]) ((r+1)*4) 4 82)]
theorem ad1(z:T aa)(zn k r:Nat)(kb:aY)(a b n:Int)(f:Bool)(Q:QF)(hyp:Br (decide (n>0)) (Br (decide (n<=14400)) (iG k/\iF z k kb/\kb.exact=false/\kb.own=true/\kb.bL=0/\kb.iU=4/\kb.elem=82/\Rs [ZV a,ZV b,ZV n,ga f]/\Rf r/\kb.cells.length=r*4/\kb.cap=r*4/\r+1<=1048576/\E3 23 (Rf (jd (z.del k) (QG zn kb a b n f r))/\zn.le (zn+1)/\ax (z.del k) zn/\zn<=zn/\zn<zn+1/\KO (ay YC (QG zn kb a b n f r)) (BR (kb.cells++[ZV a,ZV b,ZV n,ga f]) ((r+1)*4) 4 82)/\aG (ay YC (QG zn kb a b n f r)) (BQ [SL (tF zn) (r+1) (r+1)] 1 1 26)=some (BQ [SL 2 (r+1) (r+1)] 1 1 26)/\lQ/\Q nw [(0,BQ [SL (tF zn) (r+1) (r+1)] 1 1 26)] 1 (jd (z.del k) (QG zn kb a b n f r)) (zn+1))) (E6 23 z zn (Rs (BQ [dY k r] 1 1 26)/\lQ/\Q nw [(0,BQ [dY k r] 1 1 26)] 1 z zn))) (E6 23 z zn (Rs (BQ [dY k r] 1 1 26)/\lQ/\Q nw [(0,BQ [dY k r] 1 1 26)] 1 z zn))):dM prog gH jA f124 [zv a,zv b,zv n,ga f,ip 0] z [(0,oB (tb k r r))] 1 zn Q:=K1t hyp ((tA 2 ((tA 3 (tX (lO.SM k kb 1 [ZV a,ZV b,ZV n,ga f]) (tA 1 (tR YC (QG zn kb a b n f r) nw [(0,BQ [SL (tF zn) (r+1) (r+1)] 1 1 26)] 1 (jd (z.del k) (QG zn kb a b n f r)) (zn+1))))).fork (tA 2 (tR YC [] nw [(0,BQ [dY k r] 1 1 26)] 1 z zn)))).fork (tA 4 (tR YC [] nw [(0,BQ [dY k r] 1 1 26)] 1 z zn)))
abbrev nJ(k1:aY)(b:Nat)(d:Int):Prop:=aC prog k1 3 (0+b*1)=some (ZV d)
abbrev Ct:Value:=Value.func (Fn.func 124) QR (Array.mk [jD])
abbrev DJ(s0:ep):Value:=Value.slice s0.oa s0.k s0.k
abbrev wY(s0:ep):aa:=BQ [DJ s0] 1 1 26
abbrev M9(n a ka b:Nat):List (Nat × Value):=[(5,dO n),(6,cM n),(7,jD),(8,Ct),(9,IV a),(21,IV n),(22,IV a),(28,dY ka n),(29,IV n),(30,IV (b+1))]
abbrev FL(A:List Value)(n:Nat)(B:List Value)(s0:ep):List (Nat × aa):=[(0,uV A n),(1,uV B n),(2,wY s0)]
abbrev YGK(B:List Value)(n a kf:Nat):Prop:=aC prog (aY.mk B (n*1) 1 138 true true 0 true) 138 (0+a*1)=some (dY kf n)
abbrev Jq:ep->Value:=fun(x:ep)=>nw
abbrev P3:ep->List (Nat × aa):=fun(s:ep)=>[(0,oB s.v)]
abbrev oG:ep->T aa:=fun(x:ep)=>x.z
abbrev P2:ep->Nat:=fun(x:ep)=>x.zn
abbrev Ul(s0:ep):Prop:=KO (sig [(0,2)]) (wY s0)
abbrev Uk(x:ep):Prop:=KO (sig [(2,0)]) (wY x)
noncomputable abbrev Uj:Code:=ah (ag f90) 0
noncomputable abbrev oF(ka:Nat)(k1:aY)(d:Int):An:=An.ld ka k1 (zv d)
noncomputable abbrev nj(kf n:Nat):An:=An.Dd (tb kf n n)
abbrev Tt:ep->List (Nat × aa):=fun(x:ep)=>[(2,wY x)]
noncomputable abbrev YGV(b n a ka:Nat)(A B:List Value)(x:ep):Tr:=tO (Ym b) (tE Bf [] (M9 n a ka b) (FL A n B x) 3 (oG x) x.zn)
noncomputable abbrev YGW(a b:Nat)(f:Int)(ψ:ep->ep->Prop)(n ka:Nat)(A B:List Value):ep->Tr:=fun(x:ep)=>(tA 1 (Tr.cm (Cm.mk [IV a,IV b,ZV f,T1,bz] [(0,wY x)] 1 1 [(0,2)] [(2,0)] 3) ep (ψ x) Jq P3 Jq Tt oG P2 fun(x:ep)=>YGV b n a ka A B x)).fork (tA 1 (tO (Ym b) (tE Bf [] (M9 n a ka b) (FL A n B x) 3 (oG x) x.zn)))
theorem ZW(z:T aa)(zn n a ka kf b:Nat)(A B:List Value)(s0:ep)(k1 k2:aY)(d f:Int)(φ:ep->Prop)(ψ:ep->ep->Prop)(Q:QL)(hyp:Br (decide ((↑b:Int)<(↑n:Int))) (YU b/\b<n/\iG ka/\iF z ka k1/\nJ k1 b d/\Br ((↑a:Int)==(↑b:Int)) (ZV (IntKind.i64.wrap ((↑b:Int)+1))=IV (b+1)/\E6 66 z zn (R2 (dO n) (cM n) (R8 jD Ct (IV a) (IV n) (IV a) (dY ka n) (IV n) (IV (b+1)) (K3 vn (uV A n) (uV B n) (wY s0) (Q aN (M9 n a ka b) (FL A n B s0) 3 z zn))))) (YU a/\a<n/\YGK B n a kf/\YU b/\b<n/\iG kf/\iF z kf k2/\nJ k2 b f/\Br (f==d) (bB prog z zn 124 [IV a,IV b,ZV d,T1,bz] [(0,wY s0)] 1 1 φ Jq P3 oG P2/\Rs [IV a,IV b,ZV d,T1,jD]/\Ul s0/\ ∀(x:ep),φ x->lQ/\Uk x/\((f !=d)=true->bB prog (oG x) x.zn 124 [IV a,IV b,ZV f,T1,bz] [(0,wY x)] 1 1 (ψ x) Jq P3 oG P2/\Rs [IV a,IV b,ZV f,T1,jD]/\Ul x/\ ∀(x_1:ep),ψ x x_1->lQ/\Uk x_1/\ZV (IntKind.i64.wrap ((↑b:Int)+1))=IV (b+1)/\E6 66 (oG x_1) x_1.zn (R2 (dO n) (cM n) (R8 jD Ct (IV a) (IV n) (IV a) (dY ka n) (IV n) (IV (b+1)) (K3 vn (uV A n) (uV B n) (wY x_1) (Q aN (M9 n a ka b) (FL A n B x_1) 3 (oG x_1) x_1.zn)))))/\((f !=d)=false->ZV (IntKind.i64.wrap ((↑b:Int)+1))=IV (b+1)/\E6 66 (oG x) x.zn (R2 (dO n) (cM n) (R8 jD Ct (IV a) (IV n) (IV a) (dY ka n) (IV n) (IV (b+1)) (K3 vn (uV A n) (uV B n) (wY x) (Q aN (M9 n a ka b) (FL A n B x) 3 (oG x) x.zn)))))) (bB prog z zn 124 [IV a,IV b,ZV d,F0,bz] [(0,wY s0)] 1 1 φ Jq P3 oG P2/\Rs [IV a,IV b,ZV d,F0,jD]/\Ul s0/\ ∀(x:ep),φ x->lQ/\Uk x/\((f !=d)=true->bB prog (oG x) x.zn 124 [IV a,IV b,ZV f,T1,bz] [(0,wY x)] 1 1 (ψ x) Jq P3 oG P2/\Rs [IV a,IV b,ZV f,T1,jD]/\Ul x/\ ∀(x_1:ep),ψ x x_1->lQ/\Uk x_1/\ZV (IntKind.i64.wrap ((↑b:Int)+1))=IV (b+1)/\E6 66 (oG x_1) x_1.zn (R2 (dO n) (cM n) (R8 jD Ct (IV a) (IV n) (IV a) (dY ka n) (IV n) (IV (b+1)) (K3 vn (uV A n) (uV B n) (wY x_1) (Q aN (M9 n a ka b) (FL A n B x_1) 3 (oG x_1) x_1.zn)))))/\((f !=d)=false->ZV (IntKind.i64.wrap ((↑b:Int)+1))=IV (b+1)/\E6 66 (oG x) x.zn (R2 (dO n) (cM n) (R8 jD Ct (IV a) (IV n) (IV a) (dY ka n) (IV n) (IV (b+1)) (K3 vn (uV A n) (uV B n) (wY x) (Q aN (M9 n a ka b) (FL A n B x) 3 (oG x) x.zn)))))))) (E6 66 z zn (R6 (dO n) (cM n) jD Ct (IV n) (IV a) (K3 vn (uV A n) (uV B n) (wY s0) (Q Y7 [(5,dO n),(6,cM n),(7,jD),(8,Ct),(21,IV n),(22,IV a)] (FL A n B s0) 3 z zn))))):dP prog gH jA (ah Uj 0) 66 (zP n a ka b) z (yq n A B s0.v) 3 zn 3 Q:=⟨(tA 1 (tO (Yj b) (tO (oF ka k1 d) ((tA 1 (tO (Ym b) (tE Bf [] (M9 n a ka b) (FL A n B s0) 3 z zn))).fork (tA 1 (tO (Yj a) (tO (nj kf n) (tO (Yj b) (tO (oF kf k2 f) ((Tr.cm (Cm.mk [IV a,IV b,ZV d,T1,bz] [(0,wY s0)] 1 1 [(0,2)] [(2,0)] 3) ep φ Jq P3 Jq Tt oG P2 (YGW a b f ψ n ka A B)).fork (Tr.cm (Cm.mk [IV a,IV b,ZV d,F0,bz] [(0,wY s0)] 1 1 [(0,2)] [(2,0)] 3) ep φ Jq P3 Jq Tt oG P2 (YGW a b f ψ n ka A B)))))))))))).fork (tA 1 (tE Bf [] [(5,dO n),(6,cM n),(7,jD),(8,Ct),(21,IV n),(22,IV a)] (FL A n B s0) 3 z zn)),Eq.mp (by
 kernel_rfl) hyp⟩
noncomputable abbrev YGX(n a:Nat)(A B:List Value):ep->aw:=fun(s:ep)=>aw.mk Y7 (vd n a) (yq n A B s.v) 3 (oG s) s.zn
noncomputable abbrev YGY(a n:Nat)(A B:List Value)(x:ep):Tr:=tO (Ym a) (tE Bf [] [(5,dO n),(6,cM n),(7,jD),(8,Ct),(21,IV n),(22,IV (a+1))] (FL A n B x) 3 (oG x) x.zn)
theorem ZX(z:T aa)(zn n a ka:Nat)(A B:List Value)(s0:ep)(φ:ep->Prop)(Q:QL)(hyp:Br (decide ((↑a:Int)<(↑n:Int))) (YU a/\a<n/\YGK A n a ka/\Be/\ai prog (ah Uj 0) 3 66 (zP n a ka 0) (yq n A B s0.v) 3 z zn (Al.cons ep φ (YGX n a A B) (fun(x:ep)=>eh) Al.nil).R/\E6 66 z zn (R2 (dO n) (cM n) (R8 jD Ct (IV a) (IV n) (IV a) (dY ka n) (IV n) YM (K3 vn (uV A n) (uV B n) (wY s0) (∀(x:ep),φ x->ZV (IntKind.i64.wrap ((↑a:Int)+1))=IV (a+1)/\E6 66 (oG x) x.zn (R6 (dO n) (cM n) jD Ct (IV n) (IV (a+1)) (K3 vn (uV A n) (uV B n) (wY x) (Q aN [(5,dO n),(6,cM n),(7,jD),(8,Ct),(21,IV n),(22,IV (a+1))] (FL A n B x) 3 (oG x) x.zn)))))))) (E6 66 z zn (Rs jD/\KO (ay [ny] []) (wY s0)/\Q YO [(7,jD)] (Tt s0) 3 z zn))):dP prog gH jA Uj 66 (vd n a) z (yq n A B s0.v) 3 zn 3 Q:=K1t hyp ((tA 1 (tO (Yj a) (tO (nj ka n) (Tr.lp 3 66 Bf [] (zP n a ka 0) (yq n A B s0.v) 3 z zn (Al.cons ep φ (YGX n a A B) (fun(x:ep)=>YGY a n A B x) Al.nil))))).fork (tA 1 (tE [ny] [] [(7,jD)] (Tt s0) 3 z zn)))
abbrev M8(n:Nat):dN->Value:=fun(x:dN)=>aU 0 n n
abbrev M7(n:Nat):dN->List (Nat × aa):=fun(s:dN)=>[(0,sT s.cs n)]
noncomputable abbrev YGb(s:ep):aw:=aw.mk YO [(7,ip 2)] [(2,oB s.v)] 3 (oG s) s.zn
noncomputable abbrev YGc:ep->aw:=fun(s:ep)=>YGb s
abbrev YGd(n:Nat)(x x_1:dN)(χ:dN->dN->ep->Prop):Prop:=ai prog Uj 3 66 (vd n 0) (yq n x.cs x_1.cs az) 3 x_1.z x_1.zn (Al.cons ep (χ x x_1) YGc (fun(x:ep)=>eh) Al.nil).R
abbrev gE:Value:=Value.func (Fn.func 126) QR QR
abbrev YGf(x_2:ep):Prop:=aQ prog (oG x_2) x_2.zn 125 [DJ x_2,gE] [] 0 0 Yy lP cX
noncomputable abbrev YGg(x:ep):Tr:=tA 1 (Tr.cm (Cm.mk [DJ x,gE] [] 0 0 [] [] 3) Unit Yy lP cX lP cX (fun(x_2:Unit)=>oG x) (fun(x_2:Unit)=>x.zn) fun(x_2:Unit)=>tA 1 (tR [] [] (DJ x) [] 0 (oG x) x.zn))
noncomputable abbrev YGh(n:Nat)(x:dN)(χ:dN->dN->ep->Prop):dN->Tr:=fun(x_1:dN)=>Tr.lp 3 66 Bf [] (vd n 0) (yq n x.cs x_1.cs az) 3 x_1.z x_1.zn (Al.cons ep (χ x x_1) YGc (fun(x:ep)=>YGg x) Al.nil)
theorem cl(z:T aa)(zn n m cp:Nat)(φ:dN->Prop)(ψ:dN->dN->Prop)(χ:dN->dN->ep->Prop)(Q:QF)(hyp:bB prog z zn 123 [eW m cp,IV n,F0] [] 0 1 φ (M8 n) (M7 n) (fun(x:dN)=>x.z) FM/\Rs [eW m cp,IV n,F0]/\ ∀(x:dN),φ x->Rs (dO n)/\KO (sig YC) (rL x n)/\bB prog x.z x.zn 123 [eW m cp,IV n,T1] [] 0 1 (ψ x) (M8 n) (M7 n) (fun(x:dN)=>x.z) FM/\Rs [eW m cp,IV n,T1]/\ ∀(x_1:dN),ψ x x_1->Rs (dO n)/\KO (sig AX) (rL x_1 n)/\Be/\YGd n x x_1 χ/\E6 66 x_1.z x_1.zn (R6 (dO n) (cM n) jD Ct (IV n) YM (K2 vn (rL x n) (rL x_1 n) (Um/\ ∀(x_2:ep),χ x x_1 x_2->YGf x_2/\br (sig []) [DJ x_2,gE]=some [DJ x_2,gE]/\ ∀(x:Unit),True->lQ/\E6 66 (oG x_2) x_2.zn (aT (ay [] []) (DJ x_2)=some (DJ x_2)/\Q (DJ x_2) [] 0 (oG x_2) x_2.zn))))):dM prog gH jA f90 [tb 4 m cp,iv n] z [] 0 zn Q:=K1t hyp (Tr.cm (Cm.mk [eW m cp,IV n,F0] [] 0 1 [] YC 1) dN φ (M8 n) (M7 n) (fun(x:dN)=>dO n) (fun(x:dN)=>[(0,rL x n)]) (fun(x:dN)=>x.z) FM fun(x:dN)=>Tr.cm (Cm.mk [eW m cp,IV n,T1] [] 0 1 [] AX 2) dN (ψ x) (M8 n) (M7 n) (fun(x:dN)=>cM n) (fun(x:dN)=>[(1,rL x n)]) (fun(x:dN)=>x.z) FM (YGh n x χ))
noncomputable abbrev Ts:Code:=ah (ag f59) 0
theorem Zs(z:T aa)(zn k r m cp i:Nat)(k1 k2:aY)(x y:ae)(b:Bool)(Q:QL)(hyp:Br (decide ((↑i:Int)<(↑r:Int))) (YU i/\i<r/\iG k/\iF z k k2/\DN k2 i y/\YU i/\i<m/\Nq/\Np z k1/\DN k1 i x/\Ff prog BinOp.neq 82 (Operand.tmp 36) (Operand.tmp 40) (Ma y) (Ma x) (ga b)/\Br b (E6 43 z zn (YQ/\Q af.ret [(4,F0)] [] 0 z zn)) (ZV (IntKind.i64.wrap ((↑i:Int)+1))=IV (i+1)/\E6 43 z zn (R5 (eW m cp) (dY k r) (dY k r) (IV r) (IV (i+1)) (Q aN [(0,eW m cp),(28,dY k r),(7,dY k r),(29,IV r),(30,IV (i+1))] [] 0 z zn)))) (E6 43 z zn (Q YO [] [] 0 z zn))):dP prog gH jA Ts 43 (BP k r m cp i) z [] 0 zn 0 Q:=K1t hyp ((tA 1 (tO (Yj i) (tO (An.ld k k2 (AG y.row)) (tO (Yj i) (tO (Nn k1 x) (tX (lO.bin (ga b)) ((tE [] [] [(4,F0)] [] 0 z zn).fork (tO (Ym i) (tE [] [] [(0,eW m cp),(28,dY k r),(7,dY k r),(29,IV r),(30,IV (i+1))] [] 0 z zn))))))))).fork (Qk z zn))
theorem WG(z:T aa)(zn:Nat)(v:Value)(Q:QL)(hyp:E6 43 z zn (Q YO [] [] 0 z zn)):dP prog gH jA Ts 43 (nF v) z [] 0 zn 0 Q:=K1t hyp (tA 2 (tE [] [] [] [] 0 z zn))
abbrev QE:Unit->Value:=fun(x:Unit)=>TP [zv 0,zv 0]
abbrev QD(m cp n:Nat):List Value:=[eW m cp,ZV (if 0>(↑n:Int) then 0 else (↑n:Int))]
abbrev Ui:T aa × Nat->Value:=fun(x:T aa × Nat)=>az
abbrev QC:T aa × Nat->List (Nat × aa):=fun(x:T aa × Nat)=>[]
abbrev uN:T aa × Nat->T aa:=fun(x:T aa × Nat)=>x.fst
abbrev Uh:T aa × Nat->Nat:=fun(x:T aa × Nat)=>x.snd
theorem icz(z:T aa)(zn n m cp:Nat)(φ:T aa × Nat->Prop)(Q:QF)(hyp:Br (decide ((↑n:Int)>64)) (E6 43 z zn (YQ/\Q F0 [] 0 z zn)) (aQ prog z zn 89 [eW m cp,IV n] [] 0 0 Yy QE cX/\Rs [eW m cp,IV n]/\ ∀(x:Unit),True->Yw/\bB prog z zn 90 (QD m cp n) [] 0 0 φ Ui QC uN Uh/\Rs (QD m cp n)/\ ∀(x:T aa × Nat),φ x->Rs Y4/\((0 !=(↑m:Int))=true->E6 43 (uN x) x.snd (YQ/\Q F0 [] 0 (uN x) x.snd))/\((0 !=(↑m:Int))=false->Y9/\ai prog Ts 0 43 (nF (tb 4 m cp)) [] 0 (uN x) x.snd (alt True (aw.mk YO [] [] 0 (uN x) x.snd) Al.nil).R/\E6 43 (uN x) x.snd (R4 (eW m cp) Y4 YM YM (∀(x_1:Unit),True->E6 43 (uN x) x.snd (YA/\Q T1 [] 0 (uN x) x.snd)))))):dM prog gH jA f59 [tb 4 m cp,iv n] z [] 0 zn Q:=K1t hyp ((tA 1 (FT z zn)).fork (tA 1 (Tr.cm (Cm.mk [eW m cp,IV n] [] 0 0 [] [] 0) Unit Yy QE cX (fun(x:Unit)=>Yv) cX (fD z) (fC zn) fun(x:Unit)=>tA 3 (Tr.cm (Cm.mk (QD m cp n) [] 0 0 [] [] 0) (T aa × Nat) φ Ui QC (fun(x:T aa × Nat)=>Y4) QC uN Uh fun(x:T aa × Nat)=>(tA 1 (tR [] [] F0 [] 0 (uN x) x.snd)).fork (tA 1 (Tr.lp 0 43 [] [] (nF (tb 4 m cp)) [] 0 (uN x) x.snd (Al.cons Unit Yy (fun(x_1:Unit)=>aw.mk YO [] [] 0 (uN x) x.snd) (fun(x_1:Unit)=>tR [] [] T1 [] 0 (uN x) x.snd) Al.nil)))))))
abbrev YGp:Nat × Nat × T aa × Nat->Value:=fun(s:Nat × Nat × T aa × Nat)=>tb s.fst s.snd.fst s.snd.fst
abbrev Xu:Nat × Nat × T aa × Nat->List (Nat × aa):=fun(x:Nat × Nat × T aa × Nat)=>[]
abbrev YGr(x:Nat × Nat × T aa × Nat):T aa:=x.snd.snd.fst
abbrev yx:Nat × Nat × T aa × Nat->T aa:=fun(x:Nat × Nat × T aa × Nat)=>YGr x
abbrev Ug(x:Nat × Nat × T aa × Nat):Value:=SL (tF x.fst) x.snd.fst x.snd.fst
theorem ict(z:T aa)(zn n m cp:Nat)(b:Bool)(φ:Nat × Nat × T aa × Nat->Prop)(Q:QF)(hyp:Br (decide ((↑n:Int)>64)) (E6 43 z zn (YQ/\Q F0 [] 0 z zn)) (aQ prog z zn 89 [eW m cp,IV n] [] 0 0 Yy QE cX/\Rs [eW m cp,IV n]/\ ∀(x:Unit),True->Yw/\(bB prog z zn 90 (QD m cp n) [] 0 0 φ YGp Xu yx fun(x:Nat × Nat × T aa × Nat)=>x.snd.snd.snd)/\Rs (QD m cp n)/\ ∀(x:Nat × Nat × T aa × Nat),φ x->Rs (Ug x)/\(((↑x.snd.fst:Int) !=(↑m:Int))=true->E6 43 (yx x) x.snd.snd.snd (YQ/\Q F0 [] 0 (yx x) x.snd.snd.snd))/\(((↑x.snd.fst:Int) !=(↑m:Int))=false->Y9/\ai prog Ts 0 43 (BP x.fst x.snd.fst m cp 0) [] 0 (yx x) x.snd.snd.snd (alt (b=false) (aw.mk af.ret [(4,F0)] [] 0 (yx x) x.snd.snd.snd) (alt (b=true) (aw.mk YO [] [] 0 (yx x) x.snd.snd.snd) Al.nil)).R/\E6 43 (yx x) x.snd.snd.snd (R5 (eW m cp) (Ug x) (Ug x) (IV x.snd.fst) YM ((∀(x_1:Unit),b=false->E6 43 (yx x) x.snd.snd.snd (YQ/\Q F0 [] 0 (yx x) x.snd.snd.snd))/\ ∀(x_1:Unit),b=true->E6 43 (yx x) x.snd.snd.snd (YA/\Q T1 [] 0 (yx x) x.snd.snd.snd)))))):dM prog gH jA f59 [tb 4 m cp,iv n] z [] 0 zn Q:=K1t hyp ((tA 1 (FT z zn)).fork (tA 1 (Tr.cm (Cm.mk [eW m cp,IV n] [] 0 0 [] [] 0) Unit Yy QE cX (fun(x:Unit)=>Yv) cX (fD z) (fC zn) fun(x:Unit)=>tA 3 (Tr.cm (Cm.mk (QD m cp n) [] 0 0 [] [] 0) (Nat × Nat × T aa × Nat) φ YGp Xu Ug Xu yx (fun(x:Nat × Nat × T aa × Nat)=>x.snd.snd.snd) fun(x:Nat × Nat × T aa × Nat)=>(tA 1 (tR [] [] F0 [] 0 (yx x) x.snd.snd.snd)).fork (tA 1 (Tr.lp 0 43 [] [] (BP x.fst x.snd.fst m cp 0) [] 0 (yx x) x.snd.snd.snd (Al.cons Unit (YS b) (fun(x_1:Unit)=>aw.mk af.ret [(4,F0)] [] 0 (yx x) x.snd.snd.snd) (fun(x_1:Unit)=>tR [] [] F0 [] 0 (yx x) x.snd.snd.snd) (Al.cons Unit (YR b) (fun(x_1:Unit)=>aw.mk YO [] [] 0 (yx x) x.snd.snd.snd) (fun(x_1:Unit)=>tR [] [] T1 [] 0 (yx x) x.snd.snd.snd) Al.nil))))))))
abbrev Xt(n:Nat):List Value:=[Y4,ZV (if 0>(↑n:Int) then 0 else (↑n:Int))]
noncomputable abbrev YGv(x:T aa × Nat):Tr:=tA 2 (Tr.lp 0 43 [] [] (nF az) [] 0 (uN x) x.snd (Al.cons Unit Yy (fun(x_1:Unit)=>aw.mk YO [] [] 0 (uN x) x.snd) (fun(x_1:Unit)=>tR [] [] T1 [] 0 (uN x) x.snd) Al.nil))
theorem icn(z:T aa)(zn n:Nat)(φ:T aa × Nat->Prop)(Q:QF)(hyp:Br (decide ((↑n:Int)>64)) (E6 43 z zn (YQ/\Q F0 [] 0 z zn)) (aQ prog z zn 89 [Y4,IV n] [] 0 0 Yy QE cX/\Rs [Y4,IV n]/\ ∀(x:Unit),True->Yw/\bB prog z zn 90 (Xt n) [] 0 0 φ Ui QC uN Uh/\Rs (Xt n)/\ ∀(x:T aa × Nat),φ x->Rs Y4/\Y9/\ai prog Ts 0 43 (nF az) [] 0 (uN x) x.snd (alt True (aw.mk YO [] [] 0 (uN x) x.snd) Al.nil).R/\E6 43 (uN x) x.snd (R4 Y4 Y4 YM YM (∀(x_1:Unit),True->E6 43 (uN x) x.snd (YA/\Q T1 [] 0 (uN x) x.snd))))):dM prog gH jA f59 [az,iv n] z [] 0 zn Q:=K1t hyp ((tA 1 (FT z zn)).fork (tA 1 (Tr.cm (Cm.mk [Y4,IV n] [] 0 0 [] [] 0) Unit Yy QE cX (fun(x:Unit)=>Yv) cX (fD z) (fC zn) fun(x:Unit)=>tA 3 (Tr.cm (Cm.mk (Xt n) [] 0 0 [] [] 0) (T aa × Nat) φ Ui QC (fun(x:T aa × Nat)=>Y4) QC uN Uh fun(x:T aa × Nat)=>YGv x))))
theorem Xh(z:T aa)(zn n:Nat)(b:Bool)(Q:QL)(hyp:E6 81 z zn (R2 (IV n) YK (Ys/\Q YO [dZ n,(7,YK)] [(0,Yr)] 1 z zn))):dP prog gH jA UB 81 (vZ n b) z [(0,Yr)] 1 zn 1 Q:=K1t hyp (tA 2 (tE YC [] [dZ n,(7,YK)] [(0,Yr)] 1 z zn))
noncomputable abbrev YGw(n:Nat)(z:T aa)(zn:Nat):List dW->aw:=fun(l:List dW)=>aw.mk Y7 [(1,iv n),(13,aU 1 0 0)] [(0,Yr),(1,nv (bu l) 0)] 3 z zn
abbrev Jp:Value:=SL 1 0 0
theorem dsz(z:T aa)(zn n:Nat)(b:Bool)(φ:List dW->Prop)(ψ:dN->Prop)(Q:QF)(hyp:YP/\ai prog UB 1 81 (vZ n b) [(0,Yr)] 1 z zn (alt True (aw.mk YO [(1,iv n),(7,mp 0)] [(0,Yr)] 1 z zn) Al.nil).R/\E6 81 z zn (R6 (IV n) (ga b) YK Y4 YM YM (Ys/\ ∀(x:Unit),True->Be/\ai prog XC 3 81 (vc n 0 0) (uY 0 0 [] [] []) 3 z zn (Al.cons (List dW) φ (YGw n z zn) (fun(x:List dW)=>eh) Al.nil).R/\E6 81 z zn (R3 (IV n) Jp jD (Ys/\Rs (BQ [] 0 3 262)/\Rs (aa.dt (some 0) 0 [] 0)/\ ∀(x:List dW),φ x->bB prog z zn 183 [IV n,SL 0 0 0] [(0,BQ (bu x) 0 3 262)] 1 2 ψ (UA n) (Uz n) (fun(x:dN)=>x.z) FM/\Rs [IV n,Jp]/\KO (sig [(0,1)]) (BQ (bu x) 0 3 262)/\ ∀(x:dN),ψ x->Rs (TP [cM n,YM])/\KO (sig [(1,0),(3,1)]) (rL x n)/\E6 81 x.z x.zn (KO (ay [(0,3)] []) (rL x n)/\Rs (SL 3 n n)/\Q (dO n) [(0,rL x n)] 1 x.z x.zn)))))):dM prog gH jA f123 [az,iv n,ga b] z [] 0 zn Q:=K1t hyp (Tr.lp 1 81 YC [] (vZ n b) [(0,Yr)] 1 z zn (Al.cons Unit Yy (fun(x:Unit)=>aw.mk YO [(1,iv n),(7,mp 0)] [(0,Yr)] 1 z zn) (fun(x:Unit)=>tA 1 (Tr.lp 3 81 [iH,ny,YB] [] (vc n 0 0) (uY 0 0 [] [] []) 3 z zn (Al.cons (List dW) φ (YGw n z zn) (fun(x:List dW)=>Tr.cm (Cm.mk [IV n,SL 0 0 0] [(0,BQ (bu x) 0 3 262)] 1 2 [(0,1)] [(1,0),(3,1)] 4) dN ψ (UA n) (Uz n) (fun(x:dN)=>TP [SL 3 n n,YM]) (fun(x:dN)=>[(3,rL x n)]) (fun(x:dN)=>x.z) FM fun(x:dN)=>tR [(0,3)] [] (dO n) [(0,rL x n)] 1 x.z x.zn) Al.nil))) Al.nil))
theorem clz(z:T aa)(zn n:Nat)(φ:dN->Prop)(ψ:dN->dN->Prop)(χ:dN->dN->ep->Prop)(Q:QF)(hyp:bB prog z zn 123 [Y4,IV n,F0] [] 0 1 φ (M8 n) (M7 n) (fun(x:dN)=>x.z) FM/\Rs [Y4,IV n,F0]/\ ∀(x:dN),φ x->Rs (dO n)/\KO (sig YC) (rL x n)/\bB prog x.z x.zn 123 [Y4,IV n,T1] [] 0 1 (ψ x) (M8 n) (M7 n) (fun(x:dN)=>x.z) FM/\Rs [Y4,IV n,T1]/\ ∀(x_1:dN),ψ x x_1->Rs (dO n)/\KO (sig AX) (rL x_1 n)/\Be/\YGd n x x_1 χ/\E6 66 x_1.z x_1.zn (R6 (dO n) (cM n) jD Ct (IV n) YM (K2 vn (rL x n) (rL x_1 n) (Um/\ ∀(x_2:ep),χ x x_1 x_2->YGf x_2/\br (sig []) [DJ x_2,gE]=some [DJ x_2,gE]/\ ∀(x:Unit),True->lQ/\E6 66 (oG x_2) x_2.zn (aT (ay [] []) (DJ x_2)=some (DJ x_2)/\Q (DJ x_2) [] 0 (oG x_2) x_2.zn))))):dM prog gH jA f90 [az,iv n] z [] 0 zn Q:=K1t hyp (Tr.cm (Cm.mk [Y4,IV n,F0] [] 0 1 [] YC 1) dN φ (M8 n) (M7 n) (fun(x:dN)=>dO n) (fun(x:dN)=>[(0,rL x n)]) (fun(x:dN)=>x.z) FM fun(x:dN)=>Tr.cm (Cm.mk [Y4,IV n,T1] [] 0 1 [] AX 2) dN (ψ x) (M8 n) (M7 n) (fun(x:dN)=>cM n) (fun(x:dN)=>[(1,rL x n)]) (fun(x:dN)=>x.z) FM (YGh n x χ))
end
noncomputable section
noncomputable abbrev P1:Code:=ah (ag f95) 0
noncomputable abbrev M6:Code:=ah P1 0
abbrev Up:List (Nat × aa):=[(3,EO),(4,D4)]
abbrev QJ:Prop:=Rs (BQ [] 0 1 138)
abbrev QI:Prop:=Rs (BQ [] 0 1 3)
abbrev FN(z:T aa)(zn:Nat)(rc:List Value)(n:Nat):T aa:=jd z [(zn,4,BR rc (n*1) 1 3)]
abbrev Uo(zn:Nat)(rc:List Value)(n:Nat):Prop:=KO (ay [(1,6)] [(zn,4,BR rc (n*1) 1 3)]) (BR rc (n*1) 1 3)
abbrev Nb:Value:=SL 6 1 1
abbrev YG6(zn:Nat)(rc:List Value)(n:Nat):Prop:=aG (ay [(1,6)] [(zn,4,BR rc (n*1) 1 3)]) (BR [dY zn n] 1 1 138)=some (BR [SL 4 n n] 1 1 138)
abbrev Un:List (Nat × aa):=[(1,BQ [] 0 1 138)]
abbrev QH:List (Nat × Nat):=[(3,1),(4,2)]
theorem Ry(z:T aa)(zn n m cp:Nat)(b:Bool)(rc:List Value)(Q:QL)(hyp:Br (decide (0<(↑n:Int))) (Be/\ai prog M6 3 116 (kT (tb 4 m cp) n b 0 0) Up 5 z zn (alt True (aw.mk Y7 [(0,tb 4 m cp),(1,iv n),jz b,(7,aU 3 0 0),(8,iv 0),(9,aU 4 n n)] [(3,EO),(4,yR rc n)] 5 z zn) Al.nil).R/\E6 116 z zn (R7 (eW m cp) (IV n) (ga b) Jp YM (SL 2 0 0) YM (QJ/\QI/\ ∀(x:Unit),True->E3 116 (Rf (FN z zn rc n)/\zn.le (zn+1)/\ax z zn/\zn<=zn/\zn<zn+1/\Uo zn rc n/\aT (ay [(1,6)] [(zn,4,BR rc (n*1) 1 3)]) (eW m cp)=some (eW m cp)/\R4 (IV n) (ga b) Nb (I 1) (YG6 zn rc n/\Q aN [(0,eW m cp),dZ n,jz b,(7,SL 1 1 1),(8,I 1)] [(1,BR [dY zn n] 1 1 138)] 2 (FN z zn rc n) (zn+1)))))) (E6 116 z zn (R4 (eW m cp) (IV n) (ga b) Jp (QJ/\Q YO [(0,eW m cp),dZ n,jz b,(7,Jp)] Un 2 z zn)))):dP prog gH jA P1 116 (pn (tb 4 m cp) n b 0) z [(1,EO)] 2 zn 1 Q:=K1t hyp ((tA 1 (Tr.lp 3 116 QH [] (kT (tb 4 m cp) n b 0 0) Up 5 z zn (Al.cons Unit Yy (fun(x:Unit)=>aw.mk Y7 [(0,tb 4 m cp),(1,iv n),jz b,(7,aU 3 0 0),(8,iv 0),(9,aU 4 n n)] [(3,EO),(4,yR rc n)] 5 z zn) (fun(x:Unit)=>tA 2 (tE [(1,6)] [(zn,4,BR rc (n*1) 1 3)] [(0,eW m cp),dZ n,jz b,(7,SL 1 1 1),(8,I 1)] [(1,BR [dY zn n] 1 1 138)] 2 (FN z zn rc n) (zn+1))) Al.nil))).fork (tA 1 (tE gy [] [(0,eW m cp),dZ n,jz b,(7,Jp)] Un 2 z zn)))
abbrev Na(i:Nat):Value:=SL 6 (i+1) (i+1)
abbrev Z9(zn:Nat)(rc:List Value)(n:Nat)(cs:List Value)(i:Nat):Prop:=aG (ay [(1,6)] [(zn,4,BR rc (n*1) 1 3)]) (BR (cs++[dY zn n]) ((i+1)*1) 1 138)=some (BR (cs++[SL 4 n n]) ((i+1)*1) 1 138)
abbrev Ub(cs:List Value)(zn n i:Nat):List (Nat × aa):=[(1,BR (cs++[dY zn n]) ((i+1)*1) 1 138)]
theorem X2(z:T aa)(zn n i m cp:Nat)(b:Bool)(cs rc:List Value)(Q:QL)(hyp:Br (decide ((↑i:Int)<(↑n:Int))) (Be/\ai prog M6 3 116 (kT (tb 4 m cp) n b i 0) [(3,Jm cs i),(4,D4)] 5 z zn (alt True (aw.mk Y7 [(0,tb 4 m cp),(1,iv n),jz b,(7,aU 3 i i),(8,iv i),(9,aU 4 n n)] [(3,Jm cs i),(4,yR rc n)] 5 z zn) Al.nil).R/\E6 116 z zn (R7 (eW m cp) (IV n) (ga b) (cM i) (IV i) (SL 2 0 0) YM (KO (ay QH []) (BR cs (i*1) 1 138)/\QI/\ ∀(x:Unit),True->Rs [SL 4 n n]/\Rf i/\cs.length=i*1/\Rf (i*1)/\i+1<=1048576/\ZV (IntKind.i64.wrap ((↑i:Int)+1))=IV (i+1)/\E3 116 (Rf (FN z zn rc n)/\zn.le (zn+1)/\ax z zn/\zn<=zn/\zn<zn+1/\Uo zn rc n/\aT (ay [(1,6)] [(zn,4,BR rc (n*1) 1 3)]) (eW m cp)=some (eW m cp)/\R4 (IV n) (ga b) (Na i) (IV (i+1)) (Z9 zn rc n cs i/\Q aN [(0,eW m cp),dZ n,jz b,(7,SL 1 (i+1) (i+1)),Fq i] (Ub cs zn n i) 2 (FN z zn rc n) (zn+1)))))) (E6 116 z zn (R4 (eW m cp) (IV n) (ga b) (cM i) (KO (ay gy []) (BR cs (i*1) 1 138)/\Q YO [(0,eW m cp),dZ n,jz b,qB i] [(1,BR cs (i*1) 1 138)] 2 z zn)))):dP prog gH jA P1 116 (pn (tb 4 m cp) n b i) z [(1,Jm cs i)] 2 zn 1 Q:=K1t hyp ((tA 1 (Tr.lp 3 116 QH [] (kT (tb 4 m cp) n b i 0) [(3,Jm cs i),(4,D4)] 5 z zn (Al.cons Unit Yy (fun(x:Unit)=>aw.mk Y7 [(0,tb 4 m cp),(1,iv n),jz b,(7,aU 3 i i),(8,iv i),(9,aU 4 n n)] [(3,Jm cs i),(4,yR rc n)] 5 z zn) (fun(x:Unit)=>tX (lO.grow 1 [SL 4 n n]) (tO (Ym i) (tE [(1,6)] [(zn,4,BR rc (n*1) 1 3)] [(0,eW m cp),dZ n,jz b,(7,SL 1 (i+1) (i+1)),Fq i] (Ub cs zn n i) 2 (FN z zn rc n) (zn+1)))) Al.nil))).fork (tA 1 (tE gy [] [(0,eW m cp),dZ n,jz b,qB i] [(1,BR cs (i*1) 1 138)] 2 z zn)))
abbrev M5:List (Nat × Nat):=[(3,3),(4,6)]
abbrev Jo:List Value:=[I 1099511627776]
abbrev yw(i:Nat):Nat × Value:=(7,SL 3 i i)
abbrev Ua(bl:aY):List (Nat × aa):=[(3,YW bl),(4,BR Jo 1 1 3)]
abbrev FK:Value:=SL 4 0 0
abbrev M4:List (Nat × Nat):=[(3,3),(4,4)]
abbrev T9(bl:aY):List (Nat × aa):=[(3,YW bl),(4,BQ [] 0 1 3)]
theorem Vu(z:T aa)(zn n i m cp:Nat)(b:Bool)(bl:aY)(Q:QL)(hyp:Br (decide (0<(↑n:Int))) (E6 116 z zn (R7 (eW m cp) (IV n) (ga b) (SL 3 i i) (IV i) Nb (I 1) (KO (ay M5 []) (YW bl)/\Rs (BR Jo 1 1 3)/\Q aN [(0,eW m cp),dZ n,jz b,yw i,(8,IV i),(9,SL 4 1 1),(10,I 1)] (Ua bl) 5 z zn))) (E6 116 z zn (R6 (eW m cp) (IV n) (ga b) (SL 3 i i) (IV i) FK (KO (ay M4 []) (YW bl)/\QI/\Q Y7 [(0,eW m cp),dZ n,jz b,yw i,(8,IV i),(9,FK)] (T9 bl) 5 z zn)))):dP prog gH jA M6 116 (kT (tb 4 m cp) n b i 0) z [(3,YW bl),(4,D4)] 5 zn 3 Q:=K1t hyp ((tA 3 (tE M5 [] [(0,eW m cp),dZ n,jz b,yw i,(8,IV i),(9,SL 4 1 1),(10,I 1)] (Ua bl) 5 z zn)).fork (tA 1 (tE M4 [] [(0,eW m cp),dZ n,jz b,yw i,(8,IV i),(9,FK)] (T9 bl) 5 z zn)))
abbrev T8(bl:aY)(cs:List Value)(k:Nat):List (Nat × aa):=[(3,YW bl),(4,BR (cs++Jo) ((k+1)*1) 1 3)]
theorem X1(z:T aa)(zn n i k m cp:Nat)(b:Bool)(bl:aY)(cs:List Value)(Q:QL)(hyp:Br (decide ((↑k:Int)<(↑n:Int))) (Rs Jo/\Rf k/\cs.length=k*1/\Rf (k*1)/\k+1<=1048576/\ZV (IntKind.i64.wrap ((↑k:Int)+1))=IV (k+1)/\E6 116 z zn (R7 (eW m cp) (IV n) (ga b) (SL 3 i i) (IV i) (Na k) (IV (k+1)) (K2 (ay M5 []) (YW bl) (BR (cs++Jo) ((k+1)*1) 1 3) (Q aN [(0,eW m cp),dZ n,jz b,yw i,(8,IV i),(9,SL 4 (k+1) (k+1)),(10,IV (k+1))] (T8 bl cs k) 5 z zn)))) (E6 116 z zn (R6 (eW m cp) (IV n) (ga b) (SL 3 i i) (IV i) (SL 4 k k) (K2 (ay M4 []) (YW bl) (BR cs (k*1) 1 3) (Q Y7 [(0,eW m cp),dZ n,jz b,yw i,(8,IV i),(9,SL 4 k k)] [(3,YW bl),(4,BR cs (k*1) 1 3)] 5 z zn))))):dP prog gH jA M6 116 (kT (tb 4 m cp) n b i k) z [(3,YW bl),(4,yR cs k)] 5 zn 3 Q:=K1t hyp ((tA 1 (tX (lO.grow 1 Jo) (tO (Ym k) (tE M5 [] [(0,eW m cp),dZ n,jz b,yw i,(8,IV i),(9,SL 4 (k+1) (k+1)),(10,IV (k+1))] (T8 bl cs k) 5 z zn)))).fork (tA 1 (tE M4 [] [(0,eW m cp),dZ n,jz b,yw i,(8,IV i),(9,SL 4 k k)] [(3,YW bl),(4,BR cs (k*1) 1 3)] 5 z zn)))
theorem Mu(z:T aa)(zn n:Nat)(b:Bool)(rc:List Value)(Q:QL)(hyp:Br (decide (0<(↑n:Int))) (Be/\ai prog M6 3 116 (kT az n b 0 0) Up 5 z zn (alt True (aw.mk Y7 [(0,az),(1,iv n),jz b,(7,aU 3 0 0),(8,iv 0),(9,aU 4 n n)] [(3,EO),(4,yR rc n)] 5 z zn) Al.nil).R/\E6 116 z zn (R7 Y4 (IV n) (ga b) Jp YM (SL 2 0 0) YM (QJ/\QI/\ ∀(x:Unit),True->E3 116 (Rf (FN z zn rc n)/\zn.le (zn+1)/\ax z zn/\zn<=zn/\zn<zn+1/\Uo zn rc n/\R5 Y4 (IV n) (ga b) Nb (I 1) (YG6 zn rc n/\Q aN [(0,Y4),dZ n,jz b,(7,SL 1 1 1),(8,I 1)] [(1,BR [dY zn n] 1 1 138)] 2 (FN z zn rc n) (zn+1)))))) (E6 116 z zn (R4 Y4 (IV n) (ga b) Jp (QJ/\Q YO [(0,Y4),dZ n,jz b,(7,Jp)] Un 2 z zn)))):dP prog gH jA P1 116 (pn az n b 0) z [(1,EO)] 2 zn 1 Q:=K1t hyp ((tA 1 (Tr.lp 3 116 QH [] (kT az n b 0 0) Up 5 z zn (Al.cons Unit Yy (fun(x:Unit)=>aw.mk Y7 [(0,az),(1,iv n),jz b,(7,aU 3 0 0),(8,iv 0),(9,aU 4 n n)] [(3,EO),(4,yR rc n)] 5 z zn) (fun(x:Unit)=>tA 2 (tE [(1,6)] [(zn,4,BR rc (n*1) 1 3)] [(0,Y4),dZ n,jz b,(7,SL 1 1 1),(8,I 1)] [(1,BR [dY zn n] 1 1 138)] 2 (FN z zn rc n) (zn+1))) Al.nil))).fork (tA 1 (tE gy [] [(0,Y4),dZ n,jz b,(7,Jp)] Un 2 z zn)))
theorem Rz(z:T aa)(zn n i:Nat)(b:Bool)(cs rc:List Value)(Q:QL)(hyp:Br (decide ((↑i:Int)<(↑n:Int))) (Be/\ai prog M6 3 116 (kT az n b i 0) [(3,Jm cs i),(4,D4)] 5 z zn (alt True (aw.mk Y7 [(0,az),(1,iv n),jz b,(7,aU 3 i i),(8,iv i),(9,aU 4 n n)] [(3,Jm cs i),(4,yR rc n)] 5 z zn) Al.nil).R/\E6 116 z zn (R7 Y4 (IV n) (ga b) (cM i) (IV i) (SL 2 0 0) YM (KO (ay QH []) (BR cs (i*1) 1 138)/\QI/\ ∀(x:Unit),True->Rs [SL 4 n n]/\Rf i/\cs.length=i*1/\Rf (i*1)/\i+1<=1048576/\ZV (IntKind.i64.wrap ((↑i:Int)+1))=IV (i+1)/\E3 116 (Rf (FN z zn rc n)/\zn.le (zn+1)/\ax z zn/\zn<=zn/\zn<zn+1/\Uo zn rc n/\R5 Y4 (IV n) (ga b) (Na i) (IV (i+1)) (Z9 zn rc n cs i/\Q aN [(0,Y4),dZ n,jz b,(7,SL 1 (i+1) (i+1)),Fq i] (Ub cs zn n i) 2 (FN z zn rc n) (zn+1)))))) (E6 116 z zn (R4 Y4 (IV n) (ga b) (cM i) (KO (ay gy []) (BR cs (i*1) 1 138)/\Q YO [(0,Y4),dZ n,jz b,qB i] [(1,BR cs (i*1) 1 138)] 2 z zn)))):dP prog gH jA P1 116 (pn az n b i) z [(1,Jm cs i)] 2 zn 1 Q:=K1t hyp ((tA 1 (Tr.lp 3 116 QH [] (kT az n b i 0) [(3,Jm cs i),(4,D4)] 5 z zn (Al.cons Unit Yy (fun(x:Unit)=>aw.mk Y7 [(0,az),(1,iv n),jz b,(7,aU 3 i i),(8,iv i),(9,aU 4 n n)] [(3,Jm cs i),(4,yR rc n)] 5 z zn) (fun(x:Unit)=>tX (lO.grow 1 [SL 4 n n]) (tO (Ym i) (tE [(1,6)] [(zn,4,BR rc (n*1) 1 3)] [(0,Y4),dZ n,jz b,(7,SL 1 (i+1) (i+1)),Fq i] (Ub cs zn n i) 2 (FN z zn rc n) (zn+1)))) Al.nil))).fork (tA 1 (tE gy [] [(0,Y4),dZ n,jz b,qB i] [(1,BR cs (i*1) 1 138)] 2 z zn)))
theorem Rw(z:T aa)(zn n i:Nat)(b:Bool)(bl:aY)(Q:QL)(hyp:Br (decide (0<(↑n:Int))) (E6 116 z zn (R7 Y4 (IV n) (ga b) (SL 3 i i) (IV i) Nb (I 1) (KO (ay M5 []) (YW bl)/\Rs (BR Jo 1 1 3)/\Q aN [(0,Y4),dZ n,jz b,yw i,(8,IV i),(9,SL 4 1 1),(10,I 1)] (Ua bl) 5 z zn))) (E6 116 z zn (R6 Y4 (IV n) (ga b) (SL 3 i i) (IV i) FK (KO (ay M4 []) (YW bl)/\QI/\Q Y7 [(0,Y4),dZ n,jz b,yw i,(8,IV i),(9,FK)] (T9 bl) 5 z zn)))):dP prog gH jA M6 116 (kT az n b i 0) z [(3,YW bl),(4,D4)] 5 zn 3 Q:=K1t hyp ((tA 3 (tE M5 [] [(0,Y4),dZ n,jz b,yw i,(8,IV i),(9,SL 4 1 1),(10,I 1)] (Ua bl) 5 z zn)).fork (tA 1 (tE M4 [] [(0,Y4),dZ n,jz b,yw i,(8,IV i),(9,FK)] (T9 bl) 5 z zn)))
theorem Rx(z:T aa)(zn n i k:Nat)(b:Bool)(bl:aY)(cs:List Value)(Q:QL)(hyp:Br (decide ((↑k:Int)<(↑n:Int))) (Rs Jo/\Rf k/\cs.length=k*1/\Rf (k*1)/\k+1<=1048576/\ZV (IntKind.i64.wrap ((↑k:Int)+1))=IV (k+1)/\E6 116 z zn (R7 Y4 (IV n) (ga b) (SL 3 i i) (IV i) (Na k) (IV (k+1)) (K2 (ay M5 []) (YW bl) (BR (cs++Jo) ((k+1)*1) 1 3) (Q aN [(0,Y4),dZ n,jz b,yw i,(8,IV i),(9,SL 4 (k+1) (k+1)),(10,IV (k+1))] (T8 bl cs k) 5 z zn)))) (E6 116 z zn (R6 Y4 (IV n) (ga b) (SL 3 i i) (IV i) (SL 4 k k) (K2 (ay M4 []) (YW bl) (BR cs (k*1) 1 3) (Q Y7 [(0,Y4),dZ n,jz b,yw i,(8,IV i),(9,SL 4 k k)] [(3,YW bl),(4,BR cs (k*1) 1 3)] 5 z zn))))):dP prog gH jA M6 116 (kT az n b i k) z [(3,YW bl),(4,yR cs k)] 5 zn 3 Q:=K1t hyp ((tA 1 (tX (lO.grow 1 Jo) (tO (Ym k) (tE M5 [] [(0,Y4),dZ n,jz b,yw i,(8,IV i),(9,SL 4 (k+1) (k+1)),(10,IV (k+1))] (T8 bl cs k) 5 z zn)))).fork (tA 1 (tE M4 [] [(0,Y4),dZ n,jz b,yw i,(8,IV i),(9,SL 4 k k)] [(3,YW bl),(4,BR cs (k*1) 1 3)] 5 z zn)))
abbrev nI(bl:aY)(nf kf n:Nat):Prop:=aC prog bl 138 (0+nf*1)=some (dY kf n)
abbrev L7(z:T aa)(kf:Nat)(cs:List Value)(kd:aY):T aa:=z.set kf (aa.ak (aY.mk cs kd.cap kd.iU kd.elem kd.exact kd.whole kd.bL kd.own))
abbrev Fm(bl:aY):Prop:=KO (ay gy []) (YW bl)
abbrev QB(m cp n:Nat)(b:Bool)(i:Nat):List (Nat × Value):=[(0,eW m cp),dZ n,jz b,qB n,(11,IV (i+1))]
abbrev mE(bl:aY):List (Nat × aa):=[(1,YW bl)]
noncomputable abbrev T7:Code:=ah (ag f95) 2
theorem X0(z:T aa)(zn m cp n i nf nt kf:Nat)(b:Bool)(bl kb kd:aY)(x:ae)(v w:Int)(cs:List Value)(Q:QL)(hyp:Br (decide ((↑i:Int)<(↑m:Int))) (YU i/\i<m/\Nq/\Np z kb/\DN kb i x/\Br x.sf (x.fz1=(↑nf:Int)/\nf<n/\nI bl nf kf n/\x.fz1=(↑nf:Int)/\nf<n/\nI bl nf kf n/\x.aq=(↑nt:Int)/\nt<n/\iG kf/\iF z kf kd/\nJ kd nt v/\x.aq=(↑nt:Int)/\nt<n/\iG kf/\iF z kf kd/\kd.own=true/\kd.bL=0/\overwrite kd.cells (0+nt*1) [ZV (if x.aH<v then x.aH else v)]=some cs/\cs.length<=kd.cap/\ZV (IntKind.i64.wrap ((↑i:Int)+1))=IV (i+1)/\E6 116 (L7 z kf cs kd) zn (R5 (eW m cp) (IV n) (ga b) (cM n) (IV (i+1)) (Fm bl/\Q aN (QB m cp n b i) (mE bl) 2 (L7 z kf cs kd) zn))) (Br (!b) (x.fz1=(↑nf:Int)/\nf<n/\nI bl nf kf n/\x.fz1=(↑nf:Int)/\nf<n/\nI bl nf kf n/\x.aq=(↑nt:Int)/\nt<n/\iG kf/\iF z kf kd/\nJ kd nt v/\x.aq=(↑nt:Int)/\nt<n/\iG kf/\iF z kf kd/\kd.own=true/\kd.bL=0/\overwrite kd.cells (0+nt*1) [ZV (if x.aH<v then x.aH else v)]=some cs/\cs.length<=kd.cap/\ZV (IntKind.i64.wrap ((↑i:Int)+1))=IV (i+1)/\E6 116 (L7 z kf cs kd) zn (R5 (eW m cp) (IV n) (ga b) (cM n) (IV (i+1)) (Fm bl/\Q aN (QB m cp n b i) (mE bl) 2 (L7 z kf cs kd) zn))) (ZV (IntKind.i64.wrap ((↑i:Int)+1))=IV (i+1)/\E6 116 z zn (R5 (eW m cp) (IV n) (ga b) (cM n) (IV (i+1)) (Fm bl/\Q aN (QB m cp n b i) (mE bl) 2 z zn))))) (E6 116 z zn (R2 (IV n) (cM n) (Fm bl/\Q Bb [dZ n,qB n] (mE bl) 2 z zn)))):dP prog gH jA T7 116 (zH m cp n b i) z (mE bl) 2 zn 2 Q:=K1t hyp ((tA 1 (tO (Yj i) (tO (Nn kb x) (tA 1 ((tA 5 (tO (Yj nf) (tO (nj kf n) (tA 2 (tO (Yj nf) (tO (nj kf n) (tA 1 (tO (Yj nt) (tO (oF kf kd v) (tA 2 (tO (Yj nt) (tX (lO.Qp kf kd cs) (tO (Ym i) (tE gy [] (QB m cp n b i) (mE bl) 2 (L7 z kf cs kd) zn)))))))))))))).fork (tA 3 ((tA 1 (tO (Yj nf) (tO (nj kf n) (tA 2 (tO (Yj nf) (tO (nj kf n) (tA 1 (tO (Yj nt) (tO (oF kf kd v) (tA 2 (tO (Yj nt) (tX (lO.Qp kf kd cs) (tO (Ym i) (tE gy [] (QB m cp n b i) (mE bl) 2 (L7 z kf cs kd) zn)))))))))))))).fork (tO (Ym i) (tE gy [] (QB m cp n b i) (mE bl) 2 z zn))))))))).fork (tA 1 (tE gy [] [dZ n,qB n] (mE bl) 2 z zn)))
noncomputable abbrev P0:Code:=ah (ag f95) 3
theorem XX(z:T aa)(zn n k i j ki kk:Nat)(bl k1 k2:aY)(u v w x:Int)(cs:List Value)(Q:QL)(hyp:Br (decide ((↑j:Int)<(↑n:Int))) (YU i/\i<n/\nI bl i ki n/\YU i/\i<n/\nI bl i ki n/\YU j/\j<n/\iG ki/\iF z ki k1/\nJ k1 j u/\YU i/\i<n/\nI bl i ki n/\YU k/\k<n/\iG ki/\iF z ki k1/\nJ k1 k v/\YU k/\k<n/\nI bl k kk n/\YU j/\j<n/\iG kk/\iF z kk k2/\nJ k2 j w/\WQ1 (v+w)/\YU j/\j<n/\iG ki/\iF z ki k1/\k1.own=true/\k1.bL=0/\overwrite k1.cells (0+j*1) [ZV (if v+w<u then v+w else u)]=some cs/\cs.length<=k1.cap/\ZV (IntKind.i64.wrap ((↑j:Int)+1))=IV (j+1)/\E6 116 (L7 z ki cs k1) zn (R5 (IV n) (cM n) (IV k) (IV i) (IV (j+1)) (Fm bl/\Q aN [dZ n,qB n,(13,IV k),(14,IV i),(15,IV (j+1))] (mE bl) 2 (L7 z ki cs k1) zn))) (E6 116 z zn (R4 (IV n) (cM n) (IV k) (IV i) (Fm bl/\Q (af.exit 10) [dZ n,qB n,(13,IV k),(14,IV i)] (mE bl) 2 z zn)))):dP prog gH jA (ah (ah P0 0) 0) 116 (Ei n k i j) z (mE bl) 2 zn 2 Q:=K1t hyp ((tA 1 (tO (Yj i) (tO (nj ki n) (tO (Yj i) (tO (nj ki n) (tO (Yj j) (tO (oF ki k1 u) (tO (Yj i) (tO (nj ki n) (tO (Yj k) (tO (oF ki k1 v) (tO (Yj k) (tO (nj kk n) (tO (Yj j) (tO (oF kk k2 w) (tO (An.val (ZV (v+w))) (tA 1 (tO (Yj j) (tX (lO.Qp ki k1 cs) (tO (Ym j) (tE gy [] [dZ n,qB n,(13,IV k),(14,IV i),(15,IV (j+1))] (mE bl) 2 (L7 z ki cs k1) zn))))))))))))))))))))).fork (tA 1 (tE gy [] [dZ n,qB n,(13,IV k),(14,IV i)] (mE bl) 2 z zn)))
noncomputable abbrev Tq:T aa->Tr:=fun(x:T aa)=>eh
theorem XY(z:T aa)(zn n k i:Nat)(bl:aY)(φ:T aa->Prop)(Q:QL)(hyp:Br (decide ((↑i:Int)<(↑n:Int))) (ss/\ai prog (ah (ah P0 0) 0) 2 116 (Ei n k i 0) (mE bl) 2 z zn (Al.cons (T aa) φ (fun(z:T aa)=>aw.mk (af.exit 10) (xB n k i) (mE bl) 2 z zn) Tq Al.nil).R/\E6 116 z zn (R5 (IV n) (cM n) (IV k) (IV i) YM (Fm bl/\ ∀(x:T aa),φ x->ZV (IntKind.i64.wrap ((↑i:Int)+1))=IV (i+1)/\E6 116 x zn (R4 (IV n) (cM n) (IV k) (IV (i+1)) (Fm bl/\Q aN [dZ n,qB n,(13,IV k),(14,IV (i+1))] (mE bl) 2 x zn))))) (E6 116 z zn (R3 (IV n) (cM n) (IV k) (Fm bl/\Q (af.exit 8) [dZ n,qB n,(13,IV k)] (mE bl) 2 z zn)))):dP prog gH jA (ah P0 0) 116 (xB n k i) z (mE bl) 2 zn 2 Q:=K1t hyp ((tA 1 (Tr.lp 2 116 gy [] (Ei n k i 0) (mE bl) 2 z zn (Al.cons (T aa) φ (fun(z:T aa)=>aw.mk (af.exit 10) (xB n k i) (mE bl) 2 z zn) (fun(x:T aa)=>tO (Ym i) (tE gy [] [dZ n,qB n,(13,IV k),(14,IV (i+1))] (mE bl) 2 x zn)) Al.nil))).fork (tA 1 (tE gy [] [dZ n,qB n,(13,IV k)] (mE bl) 2 z zn)))
theorem XZ(z:T aa)(zn n k:Nat)(bl:aY)(φ:T aa->Prop)(Q:QL)(hyp:Br (decide ((↑k:Int)<(↑n:Int))) (ss/\ai prog (ah P0 0) 2 116 (xB n k 0) (mE bl) 2 z zn (Al.cons (T aa) φ (fun(z:T aa)=>aw.mk (af.exit 8) (qu n k) (mE bl) 2 z zn) Tq Al.nil).R/\E6 116 z zn (R4 (IV n) (cM n) (IV k) YM (Fm bl/\ ∀(x:T aa),φ x->ZV (IntKind.i64.wrap ((↑k:Int)+1))=IV (k+1)/\E6 116 x zn (R3 (IV n) (cM n) (IV (k+1)) (Fm bl/\Q aN [dZ n,qB n,(13,IV (k+1))] (mE bl) 2 x zn))))) (E6 116 z zn (Rs (cM n)/\Fm bl/\Q (af.exit 6) [qB n] (mE bl) 2 z zn))):dP prog gH jA P0 116 (qu n k) z (mE bl) 2 zn 2 Q:=K1t hyp ((tA 1 (Tr.lp 2 116 gy [] (xB n k 0) (mE bl) 2 z zn (Al.cons (T aa) φ (fun(z:T aa)=>aw.mk (af.exit 8) (qu n k) (mE bl) 2 z zn) (fun(x:T aa)=>tO (Ym k) (tE gy [] [dZ n,qB n,(13,IV (k+1))] (mE bl) 2 x zn)) Al.nil))).fork (tA 1 (tE gy [] [qB n] (mE bl) 2 z zn)))
abbrev j6(s:dh):aa:=aa.ak s.bl
noncomputable abbrev YHT(m cp n:Nat)(b:Bool)(s:dh):aw:=aw.mk YO [(0,tb 4 m cp),(1,iv n),jz b,(7,aU 1 n n)] [(1,j6 s)] 2 s.z s.zn
noncomputable abbrev YHU(n:Nat)(x:dh)(z:T aa):aw:=aw.mk Bb [(1,iv n),(7,aU 1 n n)] [(1,j6 x)] 2 z x.zn
abbrev T6(x:dh):Prop:=KO (ay gy []) (j6 x)
noncomputable abbrev YHW(n:Nat)(x:dh)(z:T aa):aw:=aw.mk (af.exit 6) [(7,aU 1 n n)] [(1,j6 x)] 2 z x.zn
noncomputable abbrev T5(n:Nat)(x:dh):T aa->aw:=fun(z:T aa)=>YHW n x z
noncomputable abbrev Z8(n:Nat)(x:dh):T aa->Tr:=fun(x_2:T aa)=>tR [(0,1)] [] (dO n) [(0,j6 x)] 1 x_2 x.zn
theorem rs(z:T aa)(zn m cp n:Nat)(b:Bool)(φ:dh->Prop)(ψ:dh->T aa->Prop)(χ:dh->T aa->T aa->Prop)(Q:QF)(hyp:YP/\ai prog P1 1 116 (pn (tb 4 m cp) n b 0) [(1,EO)] 2 z zn (Al.cons dh φ (fun(s:dh)=>YHT m cp n b s) (fun(x:dh)=>eh) Al.nil).R/\E6 116 z zn (R5 (eW m cp) (IV n) (ga b) (SL 0 0 0) YM (QJ/\ ∀(x:dh),φ x->ss/\ai prog T7 2 116 (zH m cp n b 0) [(1,j6 x)] 2 x.z x.zn (Al.cons (T aa) (ψ x) (fun(z:T aa)=>YHU n x z) Tq Al.nil).R/\E6 116 x.z x.zn (R5 (eW m cp) (IV n) (ga b) (cM n) YM (T6 x/\ ∀(x_1:T aa),ψ x x_1->ss/\ai prog P0 2 116 (qu n 0) [(1,j6 x)] 2 x_1 x.zn (Al.cons (T aa) (χ x x_1) (T5 n x) Tq Al.nil).R/\E6 116 x_1 x.zn (R3 (IV n) (cM n) YM (T6 x/\ ∀(x_2:T aa),χ x x_1 x_2->E6 116 x_2 x.zn (KO (ay [(0,1)] []) (j6 x)/\Rs (cM n)/\Q (dO n) [(0,j6 x)] 1 x_2 x.zn)))))))):dM prog gH jA f95 [tb 4 m cp,iv n,ga b] z [] 0 zn Q:=K1t hyp (Tr.lp 1 116 AX [] (pn (tb 4 m cp) n b 0) [(1,EO)] 2 z zn (Al.cons dh φ (fun(s:dh)=>aw.mk YO [(0,tb 4 m cp),(1,iv n),jz b,(7,aU 1 n n)] [(1,j6 s)] 2 s.z s.zn) (fun(x:dh)=>Tr.lp 2 116 gy [] (zH m cp n b 0) [(1,j6 x)] 2 x.z x.zn (Al.cons (T aa) (ψ x) (fun(z:T aa)=>aw.mk Bb [(1,iv n),(7,aU 1 n n)] [(1,j6 x)] 2 z x.zn) (fun(x_1:T aa)=>Tr.lp 2 116 gy [] (qu n 0) [(1,j6 x)] 2 x_1 x.zn (Al.cons (T aa) (χ x x_1) (T5 n x) (Z8 n x) Al.nil)) Al.nil)) Al.nil))
theorem Vt(z:T aa)(zn n i:Nat)(b:Bool)(bl:aY)(Q:QL)(hyp:E6 116 z zn (R2 (IV n) (cM n) (Fm bl/\Q Bb [dZ n,qB n] (mE bl) 2 z zn))):dP prog gH jA T7 116 (vT n b 0) z (mE bl) 2 zn 2 Q:=K1t hyp (tA 2 (tE gy [] [dZ n,qB n] (mE bl) 2 z zn))
noncomputable abbrev YHZ(n:Nat)(b:Bool)(s:dh):aw:=aw.mk YO [(0,az),(1,iv n),jz b,(7,aU 1 n n)] [(1,j6 s)] 2 s.z s.zn
theorem rsn(z:T aa)(zn n:Nat)(b:Bool)(φ:dh->Prop)(χ:dh->T aa->Prop)(Q:QF)(hyp:YP/\ai prog P1 1 116 (pn az n b 0) [(1,EO)] 2 z zn (Al.cons dh φ (fun(s:dh)=>YHZ n b s) (fun(x:dh)=>eh) Al.nil).R/\E6 116 z zn (R5 Y4 (IV n) (ga b) (SL 0 0 0) YM (QJ/\ ∀(x:dh),φ x->ss/\ai prog T7 2 116 (vT n b 0) [(1,j6 x)] 2 x.z x.zn (alt True (aw.mk Bb [(1,iv n),(7,aU 1 n n)] [(1,j6 x)] 2 x.z x.zn) Al.nil).R/\E6 116 x.z x.zn (R5 Y4 (IV n) (ga b) (cM n) YM (T6 x/\ ∀(x_1:Unit),True->ss/\ai prog P0 2 116 (qu n 0) [(1,j6 x)] 2 x.z x.zn (Al.cons (T aa) (χ x) (T5 n x) Tq Al.nil).R/\E6 116 x.z x.zn (R3 (IV n) (cM n) YM (T6 x/\ ∀(x_2:T aa),χ x x_2->E6 116 x_2 x.zn (KO (ay [(0,1)] []) (j6 x)/\Rs (cM n)/\Q (dO n) [(0,j6 x)] 1 x_2 x.zn)))))))):dM prog gH jA f95 [az,iv n,ga b] z [] 0 zn Q:=K1t hyp (Tr.lp 1 116 AX [] (pn az n b 0) [(1,EO)] 2 z zn (Al.cons dh φ (fun(s:dh)=>aw.mk YO [(0,az),(1,iv n),jz b,(7,aU 1 n n)] [(1,j6 s)] 2 s.z s.zn) (fun(x:dh)=>Tr.lp 2 116 gy [] (vT n b 0) [(1,j6 x)] 2 x.z x.zn (Al.cons Unit Yy (fun(x_1:Unit)=>aw.mk Bb [(1,iv n),(7,aU 1 n n)] [(1,j6 x)] 2 x.z x.zn) (fun(x_1:Unit)=>Tr.lp 2 116 gy [] (qu n 0) [(1,j6 x)] 2 x.z x.zn (Al.cons (T aa) (χ x) (T5 n x) (Z8 n x) Al.nil)) Al.nil)) Al.nil))
end
end Go.Proofs.Nw
