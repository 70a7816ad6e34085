/-
  A part of the proof: lemmas of my own.
-/
import Derived.Test.YtglogmeapcdmeaaGreatDoorPD
import Derived.Test.YtglogmeapcdmeaaGreatDoorIA
import Derived.KernelRfl
import Derived.ProofKit
import Derived.ChangeMaps
import Derived.WalkKit
import Derived.Below
import Derived.BigCall
import Derived.BigGuard
import Derived.Deep.RegionWith
import Derived.RegionTactic
import Derived.Lib.Hide
import Derived.Shelf.Strings.Builder1
import Derived.Shelf.Strings.OnBuilder
import Derived.Shelf.LaysM
import Derived.Shelf.Strconv.Itoa3
import Derived.Test.YtglogmeapcdmeaaGreatDoorProg
import Derived.BigQuiet
import Derived.Deep.RegionHeld3
import Derived.Deep.DeepCutAuto
import Derived.LoopTactic
set_option linter.unusedVariables false
set_option linter.unusedSimpArgs false
namespace Go.Proofs.Nw
open Go Go.AV Tryz Go.jo
set_option maxHeartbeats 1000000
set_option maxRecDepth 100000
structure nm(n:Nat)(l:List ae):Prop where
 ok: ∀p∈l,0<=p.fz1/\p.fz1<n/\0<=p.aq/\p.aq<n/\p.fz1≠p.aq/\1<=p.aK/\p.aK<=14400
def fC(b:Bool)(p:ae):Bool:= !b||p.sf
structure Kq(n:Nat)(l:List ae)(b:Bool)(j:Nat)(B:List gp):Prop where
 keys:(B.map fun x=>(x.1,x.2.1)).Nodup
 sub: ∀x∈B,∃p∈l.take j,fC b p=true/\p.fz1=x.1/\p.aq=x.2.1/\p.aK=x.2.2
 all: ∀p∈l.take j,fC b p=true-> ∃x∈B,x.1=p.fz1/\x.2.1=p.aq/\x.2.2<=p.aK
theorem pX(B:List gp)(f t:Int): ∀i j,(∃p x,aC prog 156 (.agg ⟨[zv f,zv t,F0]⟩) (gM j B) i=some (some (p,zv x.2.2))/\x∈B/\x.1=f/\x.2.1=t/\i<=p/\B[p - i]? =some x)\/(aC prog 156 (.agg ⟨[zv f,zv t,F0]⟩) (gM j B) i=some none/\ ∀x∈B,¬(x.1=f/\x.2.1=t)):=by
 induction B with
 |nil=>intro i j;exact .inr ⟨rfl,fun x hx=>by cases hx⟩
 |cons y l ih=>
  intro i j
  simp only[gM,aC,show au (Eo y)=true from rfl,Jb]
  by_cases h:f=y.1/\t=y.2.1
  ·obtain⟨h1,h2⟩:=h
   refine .inl ⟨i,y,by simp[h1,h2],List.mem_cons_self ..,h1.symm,h2.symm,Nat.le_refl _,by simp⟩
  ·have hd:(decide (f=y.1) && (decide (t=y.2.1) && (false==false)))=false:=by
    by_cases h1:f=y.1
    ·have h2: ¬t=y.2.1:=fun e=>h ⟨h1,e⟩
     simp[h2]
    ·simp[h1]
   rw[hd]
   rcases ih (i+1) (j+1) with ⟨p,x,q1,q2,q3,q4,q5,q6⟩|⟨q1,q2⟩
   ·refine .inl ⟨p,x,q1,List.mem_cons_of_mem _ q2,q3,q4,by omega,?_⟩
    rw[show p - i=(p - (i+1))+1 by omega,List.getElem?_cons_succ];exact q6
   ·refine .inr ⟨q1,fun x hx=>?_⟩
    rcases List.mem_cons.1 hx with rfl|hx
    ·exact fun⟨e1,e2⟩=>h ⟨e1.symm,e2.symm⟩
    ·exact q2 x hx
theorem T6(B:List gp)(f t:Int):aC prog 156 (.agg ⟨[zv f,zv t,F0]⟩) (gM 0 B) 0≠none:=by
 rcases pX B f t 0 0 with ⟨p,x,q,_⟩|⟨q,_⟩<;>rw[q]<;>simp
theorem T7(B:List gp)(f t:Int)(p:Nat × Value)(h:aC prog 156 (.agg ⟨[zv f,zv t,F0]⟩) (gM 0 B) 0=some (some p)): ∃x:Nat × Int,p=(x.1,zv x.2):=by
 rcases pX B f t 0 0 with ⟨q,x,e,_⟩|⟨e,_⟩
 ·rw[e] at h;cases h;exact⟨(q,x.2.2),rfl⟩
 ·rw[e] at h;cases h
theorem Da{B:List gp}{f t:Int}{y:Nat × Int}(h:aC prog 156 (.agg ⟨[zv f,zv t,F0]⟩) (gM 0 B) 0=some (some (y.1,zv y.2))):B[y.1]? =some (f,t,y.2):=by
 rcases pX B f t 0 0 with ⟨q,x,e,h1,h2,h3,_,h5⟩|⟨e,_⟩
 ·rw[e] at h
  simp only[Option.some.injEq,Prod.mk.injEq,Value.int.injEq,true_and] at h
  rw[Nat.sub_zero] at h5
  rw[←h.1,h5,←h.2,←h2,←h3]
 ·rw[e] at h;cases h
theorem By: ∀(l:List gp)(i:Nat)(x:gp),gM i (l++[x])=gM i l++[{key:=Eo x,val:=zv x.2.2,born:=i+l.length}]
 |[],i,x=>rfl
 |a::l,i,x=>by
  simp only[List.cons_append,gM,By l (i+1) x,List.length_cons]
  rw[show i+1+l.length=i+(l.length+1) by omega]
theorem yJ: ∀(l:List gp)(i j:Nat)(x y:gp),l[i]? =some y->cY i (Eo x) (zv x.2.2) (gM j l)=gM j (l.set i x)
 |[],i,j,x,y,h=>by simp at h
 |a::l,0,j,x,y,h=>rfl
 |a::l,i+1,j,x,y,h=>by
  simp only[List.getElem?_cons_succ] at h
  simp only[gM,cY,List.set_cons_succ,yJ l i (j+1) x y h]
theorem Ep: ∀(l:List gp)(i j:Nat)(x:gp),l[i]? =some x->nth (gM j l) i=some {key:=Eo x,val:=zv x.2.2,born:=j+i}
 |[],i,j,x,h=>by simp at h
 |a::l,0,j,x,h=>by
  simp only[List.getElem?_cons_zero,Option.some.injEq] at h
  subst h;rfl
 |a::l,i+1,j,x,h=>by
  simp only[List.getElem?_cons_succ] at h
  simp only[gM,nth,Ep l i (j+1) x h]
  rw[show j+1+i=j+(i+1) by omega]
theorem Er: ∀(l:List gp)(j:Nat),(gM j l).length=l.length
 |[],_=>rfl
 |a::l,j=>by simp[gM,Er l (j+1)]
theorem yK: ∀{l:List gp} {j:Nat} {e:MapEntry},e∈gM j l-> ∃i x,l[i]? =some x/\e={key:=Eo x,val:=zv x.2.2,born:=j+i}
 |[],_,_,h=>by simp[gM] at h
 |a::l,j,e,h=>by
  rcases List.mem_cons.1 h with rfl|h
  ·exact⟨0,a,rfl,rfl⟩
  ·obtain⟨i,x,h1,h2⟩:=yK h
   exact⟨i+1,x,h1,by rw[h2,show j+1+i=j+(i+1) by omega]⟩
theorem QE{l:List gp}{j i:Nat}{x:gp}(h:l[i]? =some x):{key:=Eo x,val:=zv x.2.2,born:=j+i}∈gM j l:=by
 induction l generalizing j i with
 |nil=>simp at h
 |cons a l ih=>
  cases i with
  |zero=>simp at h;subst h;exact List.mem_cons_self ..
  |succ i=>
   simp only[List.getElem?_cons_succ] at h
   have:=ih (j:=j+1) h
   rw[show j+1+i=j+(i+1) by omega] at this
   exact List.mem_cons_of_mem _ this
theorem rO: ∀{l:List gp} {j i:Nat} {x:gp},l[i]? =some x->fH (j+i) (gM j l)=some {key:=Eo x,val:=zv x.2.2,born:=j+i}
 |[],j,i,x,h=>by simp at h
 |a::l,j,0,x,h=>by
  simp only[List.getElem?_cons_zero,Option.some.injEq] at h
  subst h
  have:Nat.beq j (j+0)=true:=Nat.beq_refl _
  simp only[gM,fH,this];rfl
 |a::l,j,i+1,x,h=>by
  simp only[List.getElem?_cons_succ] at h
  have:Nat.beq j (j+(i+1))=false:=by
   cases e:Nat.beq j (j+(i+1)) with
   |false=>rfl
   |true=>have:=Nat.eq_of_beq_eq_true e;omega
  have ih:=rO (j:=j+1) h
  rw[show j+1+i=j+(i+1) by omega] at ih
  simp only[gM,fH,this,ih]
theorem sN{σ:Nat->Option Nat}: ∀{l:List gp} (j:Nat),gV σ (gM j l)=some (gM j l)
 |[],_=>rfl
 |x::l,j=>by
  have h1:aW σ (Eo x)=some (Eo x):=rfl
  have h2:aW σ (zv x.2.2)=some (zv x.2.2):=rfl
  simp only[gM,gV,h1,h2,sN (l:=l) (j+1)]
theorem xZ{σ:Nat->Option Nat}(l:List gp)(c:Nat):aI σ (aa.map (gM 0 l) c)=some (aa.map (gM 0 l) c):=by
 simp only[aI,sN 0]
theorem Lh{σ:Nat->Option Nat}(l:List gp)(i:Nat)(f t v:Int)(c:Nat):aI σ (aa.map (cY i (.agg ⟨[zv f,zv t,F0]⟩) (zv v) (gM 0 l)) c)=some (aa.map (cY i (.agg ⟨[zv f,zv t,F0]⟩) (zv v) (gM 0 l)) c):=by
 have:=oJ (σ:=σ) (k:= .agg ⟨[zv f,zv t,F0]⟩) (k':= .agg ⟨[zv f,zv t,F0]⟩) (v:=zv v) (v':=zv v) rfl rfl i (sN (l:=l) 0)
 simp only[aI,this]
theorem Ll{σ:Nat->Option Nat}(l:List gp)(f t v:Int)(b c:Nat):aI σ (aa.map (gM 0 l++[MapEntry.mk (.agg ⟨[zv f,zv t,F0]⟩) (zv v) b]) c)=some (aa.map (gM 0 l++[MapEntry.mk (.agg ⟨[zv f,zv t,F0]⟩) (zv v) b]) c):=by
 have h1:aW σ (.agg ⟨[zv f,zv t,F0]⟩)=some (.agg ⟨[zv f,zv t,F0]⟩):=rfl
 have h2:aW σ (zv v)=some (zv v):=rfl
 have:=tT (sN (σ:=σ) (l:=l) 0) (b:=[MapEntry.mk (.agg ⟨[zv f,zv t,F0]⟩) (zv v) b]) (b':=[MapEntry.mk (.agg ⟨[zv f,zv t,F0]⟩) (zv v) b]) (by simp only[gV,h1,h2])
 simp only[aI,this]
theorem My{B:List gp}{i:Nat}{f t v:Int}(h:B[i]? =some (f,t,v)):xN (gM 0 B) i (.agg ⟨[zv f,zv t,F0]⟩):=by
 refine⟨_,Ep B i 0 _ h,?_⟩
 show(au (Eo (f,t,v)) && Instr.sameBits 10000 (Eo (f,t,v)) (.agg ⟨[zv f,zv t,F0]⟩))=true
 simp[au,bE,Instr.sameBits]
theorem En{n:Nat}{l:List ae}{b:Bool}{j:Nat}{B:List gp}(h:Kq n l b j B){x:ae}(hx:l[j]? =some x)(hs:fC b x=true-> ∃y∈B,y.1=x.fz1/\y.2.1=x.aq/\y.2.2<=x.aK):Kq n l b (j+1) B:=by
 have htk:l.take (j+1)=l.take j++[x]:=by rw[List.take_add_one,hx];rfl
 refine⟨h.keys,fun y hy=>?_,fun p hp hu=>?_⟩
 ·obtain⟨p,q1,q2⟩:=h.sub y hy
  exact⟨p,by rw[htk];exact List.mem_append_left _ q1,q2⟩
 ·rw[htk] at hp
  rcases List.mem_append.1 hp with q|q
  ·exact h.all p q hu
  ·simp at q;subst q;exact hs hu
theorem QD{n:Nat}{l:List ae}{b:Bool}{j:Nat}{B:List gp}(h:Kq n l b j B){x:ae}(hx:l[j]? =some x)(hu:fC b x=true)(hn: ∀y∈B,¬(y.1=x.fz1/\y.2.1=x.aq)):Kq n l b (j+1) (B++[(x.fz1,x.aq,x.aK)]):=by
 have htk:l.take (j+1)=l.take j++[x]:=by rw[List.take_add_one,hx];rfl
 refine⟨?_,fun y hy=>?_,fun p hp hu'=>?_⟩
 ·rw[List.map_append,List.nodup_append]
  refine⟨h.keys,by simp,fun a ha c hc=>?_⟩
  simp only[List.map_cons,List.map_nil,List.mem_singleton] at hc
  subst hc
  obtain⟨y,y1,y2⟩:=List.mem_map.1 ha
  intro e
  rw[←y2] at e
  simp only[Prod.mk.injEq] at e
  exact hn y y1 e
 ·rcases List.mem_append.1 hy with q|q
  ·obtain⟨p,q1,q2⟩:=h.sub y q
   exact⟨p,by rw[htk];exact List.mem_append_left _ q1,q2⟩
  ·simp at q;subst q
   exact⟨x,by rw[htk];simp,hu,rfl,rfl,rfl⟩
 ·rw[htk] at hp
  rcases List.mem_append.1 hp with q|q
  ·obtain⟨y,y1,y2⟩:=h.all p q hu'
   exact⟨y,List.mem_append_left _ y1,y2⟩
  ·simp at q;subst q
   exact⟨_,List.mem_append_right _ (List.mem_singleton.2 rfl),rfl,rfl,Int.le_refl _⟩
theorem Ni{n:Nat}{l:List ae}{b:Bool}{j:Nat}{B:List gp}(h:Kq n l b j B){x:ae}(hx:l[j]? =some x)(hu:fC b x=true){i:Nat}{v:Int}(hi:B[i]? =some (x.fz1,x.aq,v))(hv:x.aK<v):Kq n l b (j+1) (B.set i (x.fz1,x.aq,x.aK)):=by
 have htk:l.take (j+1)=l.take j++[x]:=by rw[List.take_add_one,hx];rfl
 have hil:i<B.length:=(List.getElem?_eq_some_iff.1 hi).1
 have oV:(x.fz1,x.aq,x.aK)∈B.set i (x.fz1,x.aq,x.aK):=List.mem_set hil _
 refine⟨?_,fun y hy=>?_,fun p hp hu'=>?_⟩
 ·have e:(B.set i (x.fz1,x.aq,x.aK)).map (fun x=>(x.1,x.2.1))=B.map fun x=>(x.1,x.2.1):=pN (fun x:gp=>(x.1,x.2.1)) hi rfl
  exact e ▸ h.keys
 ·rcases List.mem_or_eq_of_mem_set hy with q|rfl
  ·obtain⟨p,q1,q2⟩:=h.sub y q
   exact⟨p,by rw[htk];exact List.mem_append_left _ q1,q2⟩
  ·exact⟨x,by rw[htk];simp,hu,rfl,rfl,rfl⟩
 ·rw[htk] at hp
  rcases List.mem_append.1 hp with q|q
  ·obtain⟨y,y1,y2,y3,y4⟩:=h.all p q hu'
   obtain⟨k,hk⟩:=List.mem_iff_getElem?.1 y1
   by_cases e:i=k
   ·subst e
    rw[hi] at hk
    cases hk
    exact⟨_,oV,y2,y3,by simp only at y4 ⊢;omega⟩
   ·exact⟨y,List.mem_iff_getElem?.2 ⟨k,by rw[List.getElem?_set,if_neg e];exact hk⟩,y2,y3,y4⟩
  ·simp at q;subst q
   exact⟨_,oV,rfl,rfl,Int.le_refl _⟩
theorem J3{n:Nat}(hn:n<=64){l:List ae}(hl:nm n l){b:Bool}{j:Nat}{B:List gp}(h:Kq n l b j B):B.length<=4096:=by
 have hr: ∀x∈B,0<=x.1/\x.1<64/\0<=x.2.1/\x.2.1<64:=fun x hx=>by
  obtain⟨p,q1,_,q2,q3,_⟩:=h.sub x hx
  obtain⟨k1,k2,k3,k4,_⟩:=hl.ok p (List.mem_of_mem_take q1)
  omega
 have:(B.map fun x=>x.1.toNat*64+x.2.1.toNat).Nodup:=by
  have hk:=h.keys
  rw[List.nodup_iff_pairwise_ne] at hk ⊢
  rw[List.pairwise_map] at hk ⊢
  refine hk.imp_of_mem fun {x y} hx hy hxy e=>hxy ?_
  obtain⟨a1,a2,a3,a4⟩:=hr x hx
  obtain⟨b1,b2,b3,b4⟩:=hr y hy
  rw[Prod.mk.injEq]
  omega
 have:=pL 4096 _ this fun v hv=>by
  obtain⟨x,hx,rfl⟩:=List.mem_map.1 hv
  have:=hr x hx
  omega
 simpa using this
structure Sk(n:Nat)(l:List ae)(b:Bool)(E:List eF):Prop where
 ok:Gs n E
 sub: ∀e∈E,∃p∈l,fC b p=true/\p.fz1=e.fz1/\p.aq=e.aq/\p.aK=e.wt
 all: ∀p∈l,fC b p=true-> ∃e∈E,e.fz1=p.fz1/\e.aq=p.aq/\e.wt<=p.aK
abbrev sy(x:gp):eF:=⟨x.1,x.2.1,x.2.2⟩
def sj(B:List gp)(E:List eF):Prop:=E.length=B.length/\ ∀e,e∈E↔ ∃x∈B,e=sy x
theorem J4{n:Nat}(hn:n<=64){l:List ae}(hl:nm n l){b:Bool}{B:List gp}(h:Kq n l b l.length B){E:List eF}(hE:sj B E):Sk n l b E:=by
 have htk:l.take l.length=l:=List.take_of_length_le (Nat.le_refl _)
 have h1:=h.sub
 have h2:=h.all
 rw[htk] at h1 h2
 have sub: ∀e∈E,∃p∈l,fC b p=true/\p.fz1=e.fz1/\p.aq=e.aq/\p.aK=e.wt:=fun e he=>by
  obtain⟨x,hx,rfl⟩:=(hE.2 e).1 he
  exact h1 x hx
 refine⟨⟨by rw[hE.1];exact J3 hn hl h,fun e he=>?_⟩,sub,fun p hp hu=>?_⟩
 ·obtain⟨p,q1,_,q2,q3,q4⟩:=sub e he
  obtain⟨k1,k2,k3,k4,_,k6,k7⟩:=hl.ok p q1
  omega
 ·obtain⟨x,x1,x2⟩:=h2 p hp hu
  exact⟨_,(hE.2 _).2 ⟨x,x1,rfl⟩,x2⟩
noncomputable def nc(b:Bool)(B:List gp)(x:ae):List gp:=if fC b x=true then (match aC prog 156 (.agg ⟨[zv x.fz1,zv x.aq,F0]⟩) (gM 0 B) 0 with
 |some (some (i, .int .i64 u))=>if x.aK<u then B.set i (x.fz1,x.aq,x.aK) else B
 |_=>B++[(x.fz1,x.aq,x.aK)]) else B
noncomputable def lT(b:Bool)(l:List ae)(j:Nat):List gp:=(l.take j).foldl (nc b) []
theorem Bz{b:Bool}{l:List ae}{j:Nat}{x:ae}(hx:l[j]? =some x):lT b l (j+1)=nc b (lT b l j) x:=by
 unfold lT
 rw[List.take_add_one,hx,List.foldl_append];rfl
theorem rY{b:Bool}{B:List gp}{x:ae}(h:fC b x=false):nc b B x=B:=by
 unfold nc;rw[h];simp
theorem o8{b:Bool}{B:List gp}{x:ae}(h:fC b x=true){i:Nat}{v:Int}(hf:aC prog 156 (.agg ⟨[zv x.fz1,zv x.aq,F0]⟩) (gM 0 B) 0=some (some (i,zv v))):nc b B x=if x.aK<v then B.set i (x.fz1,x.aq,x.aK) else B:=by
 unfold nc;rw[if_pos h,hf]
theorem vc{b:Bool}{B:List gp}{x:ae}(h:fC b x=true)(hf:aC prog 156 (.agg ⟨[zv x.fz1,zv x.aq,F0]⟩) (gM 0 B) 0=some none):nc b B x=B++[(x.fz1,x.aq,x.aK)]:=by
 unfold nc;rw[if_pos h,hf]
theorem xG(B:List gp)(f t v:Int):gM 0 B++[MapEntry.mk (.agg ⟨[zv f,zv t,F0]⟩) (zv v) B.length]=gM 0 (B++[(f,t,v)]):=by
 rw[By,Nat.zero_add]
section
variable{z:T aa}{zn:Nat}
theorem Iy(hz:ay z zn)(n:Nat)(hn:n<=64)(l:List ae)(hl:nm n l)(hll:l.length<=10000)(cp:Nat)(hL:cf z 4 (l.map ae.row))(b:Bool):
 Kq n l b l.length (lT b l l.length)/\ai prog (ah (ag f90) 0) 1 81 (AD l.length cp n b 0) [(0, .map [] 0)] 1 z zn (Al.R (Tn z zn l.length cp n b (lT b l l.length)).l):=by
 have inv: ∀j,j<=l.length->Kq n l b j (lT b l j):=by
  intro j
  induction j with
  |zero=>intro _;exact⟨by simp[lT],fun x hx=>(by simp[lT] at hx),fun p hp=>(by simp at hp)⟩
  |succ j ih=>
   intro hj
   obtain⟨x,hx⟩:=eV (by omega:j<l.length)
   have h:=ih (by omega)
   rw[Bz hx]
   cases hu:fC b x with
   |false=>rw[rY hu];exact En h hx fun q=>by rw[hu] at q;cases q
   |true=>
    rcases pX (lT b l j) x.fz1 x.aq 0 0 with ⟨p,y,q1,q2,q3,q4,_,q6⟩|⟨q1,q2⟩
    ·rw[o8 hu q1]
     rw[Nat.sub_zero] at q6
     split
     ·rename_i hlt
      exact Ni h hx hu (i:=p) (v:=y.2.2) (by rw[q6,←q3,←q4]) hlt
     ·rename_i hlt
      exact En h hx fun _=>⟨y,q2,q3,q4,by omega⟩
    ·rw[vc hu q1];exact QD h hx hu q2
 refine⟨inv _ (Nat.le_refl _),?_⟩
 refine an hD (cS T.leaf) (α:=Nat) 1 81 1 (fun j=>j<=l.length) (fun j=>AD l.length cp n b j) (fun j=>[(0,T8 (lT b l j))]) (fun _=>z) (fun _=>zn) (fun j=>l.length - j) _ (fun j hI=>?_) 0 (Nat.zero_le _)
 by_cases hj:j<l.length
 ·obtain⟨x,hx⟩:=eV hj
  obtain⟨el,hel⟩:=hL.aw (i:=j) (by simp;omega)
  have hrow:aE prog (bq el (l.map ae.row).flatten) 134 (0+j*4)=some (.agg ⟨x.row⟩):=bG (r:=x.row) (sz:=4) underlying134 rfl rfl (aQ (row:=ae.row) (sz:=4) l fun _=>rfl) (by rw[List.getElem?_map,hx];rfl)
  have hc:decide ((j:Int)<(l.length:Int))=true:=by simp;omega
  have nx: ∀B',B'=lT b l (j+1)-> ∀es c,es=gM 0 B'->c=B'.length->ak (fun j=>j<=l.length) (fun j=>AD l.length cp n b j) (fun j=>[(0,T8 (lT b l j))]) 1 (fun _=>z) (fun _=>zn) (fun j=>l.length - j) (Al.R (Tn z zn l.length cp n b (lT b l l.length)).l) j .normal (AD l.length cp n b (j+1)) [(0, .map es c)] 1 z zn:=fun B' h es c h1 h2=>by
   subst h h1 h2
   exact⟨j+1,rfl,rfl,rfl,rfl,rfl,hj,by show l.length - (j+1)<l.length - j;omega⟩
  have hsucc:=Bz (b:=b) hx
  have skip:fC b x=false->lT b l j=lT b l (j+1):=fun h=>by rw[hsucc,rY h]
  have less:fC b x=true-> ∀y:Nat × Int,aC prog 156 (.agg ⟨[zv x.fz1,zv x.aq,F0]⟩) (gM 0 (lT b l j)) 0=some (some (y.1,zv y.2))->decide (x.aK<y.2)=true->(lT b l j).set y.1 (x.fz1,x.aq,x.aK)=lT b l (j+1):=fun h y hy hlt=>by rw[hsucc,o8 h hy,if_pos (by simpa using hlt)]
  have more:fC b x=true-> ∀y:Nat × Int,aC prog 156 (.agg ⟨[zv x.fz1,zv x.aq,F0]⟩) (gM 0 (lT b l j)) 0=some (some (y.1,zv y.2))->decide (x.aK<y.2)=false->lT b l j=lT b l (j+1):=fun h y hy hlt=>by rw[hsucc,o8 h hy,if_neg (by simpa using hlt)]
  have new:fC b x=true->aC prog 156 (.agg ⟨[zv x.fz1,zv x.aq,F0]⟩) (gM 0 (lT b l j)) 0=some none->lT b l j++[(x.fz1,x.aq,x.aK)]=lT b l (j+1):=fun h hy=>by rw[hsucc,vc h hy]
  have u1:b=true->x.sf=true->fC b x=true:=fun h1 h2=>by simp[fC,h2]
  have u2:b=false->fC b x=true:=fun h1=>by simp[fC,h1]
  have u3:b=true->x.sf=false->fC b x=false:=fun h1 h2=>by simp[fC,h1,h2]
  refine t100 (Z3 z zn l.length cp n j (lT b l j).length b (bq el (l.map ae.row).flatten) x (gM 0 (lT b l j)) (ak _ _ _ _ _ _ _ _ _) ⟨fun _=>?_,nC1 hc⟩)
  (repeat' first|(with_reducible first|exact rfl|assumption|apply And.intro|exact T6 _ _ _|exact T7 _ _ _|exact My (Da ‹_›)|exact xZ _ _|exact Lh _ _ _ _ _ _|exact Ll _ _ _ _ _ _|exact bP (by omega))|intro hq)
  all_goals first
   |(rename_i h1 h2 y hy
     exact nx _ (less (u1 h1 h2) y hy hq) _ _ (yJ _ y.1 0 (x.fz1,x.aq,x.aK) _ (Da hy)) (List.length_set ..).symm)
   |(rename_i h1 h2 y hy
     exact nx _ (more (u1 h1 h2) y hy hq) _ _ rfl rfl)
   |(rename_i h1 y hy
     exact nx _ (less (u2 h1) y hy hq) _ _ (yJ _ y.1 0 (x.fz1,x.aq,x.aK) _ (Da hy)) (List.length_set ..).symm)
   |(rename_i h1 y hy
     exact nx _ (more (u2 h1) y hy hq) _ _ rfl rfl)
   |(rename_i h1 h2
     exact nx _ (new (u1 h1 h2) hq) _ _ (xG _ _ _ _) (by simp))
   |(rename_i h1
     exact nx _ (new (u2 h1) hq) _ _ (xG _ _ _ _) (by simp))
   |(rename_i h1
     exact nx _ (skip (u3 h1 hq)) _ _ rfl rfl)
 ·have hc:decide ((j:Int)<(l.length:Int))=false:=by simp;omega
  refine t100 (Z3 z zn l.length cp n j (lT b l j).length b ⟨[],0,0,0,true,true,0,true⟩ ⟨0,0,0,true⟩ (gM 0 (lT b l j)) (ak _ _ _ _ _ _ _ _ _) ⟨nC1 hc,fun _=>?_⟩)
  (repeat' first|(with_reducible first|exact rfl|assumption|apply And.intro|exact xZ _ _))
  have:j=l.length:=by omega
  subst this
  exact bD trivial
theorem TL(E F:List eF):bC E++bC F=bC (E++F):=by
 show _=((E++F).map eF.row).flatten
 rw[List.map_append,List.flatten_append]
theorem wE: ∀{l:List Nat},l.Nodup-> ∀{l':List Nat},(∀i∈l,i∈l')->l.length<=l'.length
 |[],_,_,_=>Nat.zero_le _
 |a::l,hn,l',h=>by
  have hn':=List.nodup_cons.1 hn
  have:=wE hn'.2 (l':=l'.erase a) fun i hi=>by
   have hne:i≠a:=fun e=>hn'.1 (e ▸ hi)
   exact(List.mem_erase_of_ne hne).2 (h i (List.mem_cons_of_mem _ hi))
  rw[List.length_erase_of_mem (h a (List.mem_cons_self ..))] at this
  have hp:0<l'.length:=List.length_pos_of_mem (h a (List.mem_cons_self ..))
  simp only[List.length_cons]
  omega
structure Sj(B:List gp)(E:List eF)(seen:List Nat):Prop where
 nd:seen.Nodup
 lt: ∀i∈seen,i<B.length
 len:E.length=seen.length
 mem: ∀e,e∈E↔ ∃i∈seen,∃x,B[i]? =some x/\e=sy x
theorem AU{B:List gp}{E:List eF}{seen:List Nat}(h:Sj B E seen){i:Nat}{x:gp}(hi:B[i]? =some x)(hn:i ∉ seen):Sj B (E++[sy x]) (i::seen):=by
 refine⟨List.nodup_cons.2 ⟨hn,h.nd⟩,fun j hj=>?_,by simp[h.len],fun e=>?_⟩
 ·rcases List.mem_cons.1 hj with rfl|hj
  ·exact(List.getElem?_eq_some_iff.1 hi).1
  ·exact h.lt j hj
 ·rw[List.mem_append,h.mem]
  constructor
  ·rintro (⟨j,j1,j2⟩|he)
   ·exact⟨j,List.mem_cons_of_mem _ j1,j2⟩
   ·simp at he;exact⟨i,List.mem_cons_self ..,x,hi,he⟩
  ·rintro⟨j,j1,y,j2,j3⟩
   rcases List.mem_cons.1 j1 with rfl|j1
   ·rw[hi] at j2;cases j2;right;simp[j3]
   ·exact .inl ⟨j,j1,y,j2,j3⟩
theorem CM{B:List gp}{E:List eF}{seen:List Nat}(h:Sj B E seen):seen.length<=B.length:=pL _ _ h.nd h.lt
theorem MA{B:List gp}{E:List eF}{seen:List Nat}(h:Sj B E seen)(ha: ∀i,i<B.length->i∈seen):sj B E:=by
 have h1:=CM h
 have h2:B.length<=seen.length:=by
  have:=wE (List.nodup_range (n:=B.length)) (l':=seen) fun i hi=>ha i (List.mem_range.1 hi)
  simpa using this
 refine⟨by rw[h.len];omega,fun e=>(h.mem e).trans ⟨fun⟨i,i1,x,i2,i3⟩=>⟨x,List.mem_of_getElem? i2,i3⟩,fun⟨x,x1,x2⟩=>?_⟩⟩
 obtain⟨i,hi⟩:=List.mem_iff_getElem?.1 x1
 exact⟨i,ha i (List.getElem?_eq_some_iff.1 hi).1,x,hi,x2⟩
theorem AM(hz:ay z zn)(n:Nat)(B:List gp)(hB:B.length<=4096):
 ai prog (ah (ag f90) 1) 3 81 (vO n 0 B.length) (vH B.length B.length (gM 0 B) (rep B.length [I 0,I 0,I 0]) []) 3 z zn (Al.R (Tk z zn n B.length B.length (gM 0 B) (rep B.length [I 0,I 0,I 0]) (sj B)).l):=by
 refine an hD (cS T.leaf) (α:=List eF × List Nat) 3 81 3 (fun t=>Sj B t.1 t.2) (fun t=>vO n t.2.length B.length) (fun t=>vH B.length B.length (gM 0 B) (bC t.1++rep (B.length - t.2.length) [I 0,I 0,I 0]) t.2) (fun _=>z) (fun _=>zn) (fun t=>B.length - t.2.length) _ (fun t hI=>?_) ([],[]) ⟨by simp,by simp,rfl,by simp⟩
 obtain⟨E,seen⟩:=t
 simp only at hI ⊢
 have hle:=CM hI
 have cells: ∀E' m,bC E'++rep m [I 0,I 0,I 0]=bC (E'++List.replicate m (⟨0,0,0⟩:eF)):=fun E' m=>by
  rw[←TL,mD]
  congr 1
  show _=((List.replicate m (⟨0,0,0⟩:eF)).map eF.row).flatten
  rw[List.map_replicate];rfl
 have p0: ∀x∈gM 0 B,x.born<B.length:=fun e he=>by
  obtain⟨i,x,h1,h2⟩:=yK he
  rw[h2];have:=(List.getElem?_eq_some_iff.1 h1).1;simp only;omega
 have p1: ∀e,e∈gM 0 B->kQ e.born seen=false-> ∃x:Nat × gp,(B[x.1]? =some x.2/\x.1 ∉ seen)/\e=UE x:=fun e he hs=>by
  obtain⟨i,x,h1,h2⟩:=yK he
  rw[h2] at hs
  simp only[Nat.zero_add] at hs
  refine⟨(i,x),⟨h1,fun hm=>?_⟩,by rw[h2,Nat.zero_add]⟩
  rw[jy.2 hm] at hs;cases hs
 have lt: ∀x:Nat × gp,(B[x.1]? =some x.2/\x.1 ∉ seen)->seen.length+1<=B.length:=fun x hx=>by
  have:=CM (AU hI hx.1 hx.2)
  simpa using this
 have bn: ∀x:Nat × gp,(B[x.1]? =some x.2/\x.1 ∉ seen)->fH x.1 (gM 0 B)=some (UE x):=fun x hx=>by
  have:=rO (j:=0) hx.1
  rw[Nat.zero_add] at this
  exact this
 have ov: ∀x:Nat × gp,(B[x.1]? =some x.2/\x.1 ∉ seen)->overwrite (bC E++rep (B.length - seen.length) [I 0,I 0,I 0]) (0+seen.length*3) (sy x.2).row=some (bC (E++[sy x.2])++rep (B.length - (seen.length+1)) [I 0,I 0,I 0]):=fun x hx=>by
  have hlt:=lt x hx
  rw[cells,cells]
  have:=ub (pz (E++List.replicate (B.length - seen.length) (⟨0,0,0⟩:eF))) (i:=seen.length) (by simp[hI.len];omega) (r':=(sy x.2).row) rfl
  rw[lI] at this
  refine this.trans ?_
  have:(E++List.replicate (B.length - seen.length) (⟨0,0,0⟩:eF)).set seen.length (sy x.2)=E++[sy x.2]++List.replicate (B.length - (seen.length+1)) (⟨0,0,0⟩:eF):=by
   rw[List.set_append_right _ _ (by rw[hI.len];exact Nat.le_refl _),hI.len,Nat.sub_self]
   obtain⟨m,hm⟩: ∃m,B.length - seen.length=m+1:=⟨B.length - seen.length - 1,by omega⟩
   rw[hm,show B.length - (seen.length+1)=m by omega,List.replicate_succ,List.set_cons_zero,List.append_assoc];rfl
  rw[this]
 have le3: ∀x:Nat × gp,(B[x.1]? =some x.2/\x.1 ∉ seen)->(bC (E++[sy x.2])++rep (B.length - (seen.length+1)) [I 0,I 0,I 0]).length<=B.length*3:=fun x hx=>by
  have hlt:=lt x hx
  rw[cells,wm];simp[hI.len];omega
 have rn: ∀(σ:Nat->Option Nat) E' m c,aI σ (aa.aw (ba.mk (bC E'++rep m [I 0,I 0,I 0]) c 3 175 true true 0 true))=some (aa.aw (ba.mk (bC E'++rep m [I 0,I 0,I 0]) c 3 175 true true 0 true)):=fun σ E' m c=>by
  rw[cells];exact cR (gD _)
 have mit: ∀s,aI (aA [(0,0),(1,1),(2,2)] []) (aa.dC (some 0) B.length s B.length)=some (aa.dC (some 0) B.length s B.length):=fun s=>rfl
 have nx: ∀x:Nat × gp,(B[x.1]? =some x.2/\x.1 ∉ seen)->ak (fun t:List eF × List Nat=>Sj B t.1 t.2) (fun t=>vO n t.2.length B.length) (fun t=>vH B.length B.length (gM 0 B) (bC t.1++rep (B.length - t.2.length) [I 0,I 0,I 0]) t.2) 3 (fun _=>z) (fun _=>zn) (fun t=>B.length - t.2.length) (Al.R (Tk z zn n B.length B.length (gM 0 B) (rep B.length [I 0,I 0,I 0]) (sj B)).l) (E,seen) .normal (vO n (seen.length+1) B.length) (vH B.length B.length (gM 0 B) (bC (E++[sy x.2])++rep (B.length - (seen.length+1)) [I 0,I 0,I 0]) (x.1::seen)) 3 z zn:=fun x hx=>
  ⟨(E++[sy x.2],x.1::seen),rfl,rfl,rfl,rfl,rfl,AU hI hx.1 hx.2,by have:=lt x hx;show B.length - (seen.length+1)<B.length - seen.length;omega⟩
 refine t100 (ds1 z zn n seen.length B.length B.length (gM 0 B) (bC E++rep (B.length - seen.length) [I 0,I 0,I 0]) (fun x=>bC (E++[sy x.2])++rep (B.length - (seen.length+1)) [I 0,I 0,I 0]) seen (fun x=>B[x.1]? =some x.2/\x.1 ∉ seen) (ak _ _ _ _ _ _ _ _ _) ?_)
 (repeat' first|(with_reducible first|exact rfl|assumption|apply And.intro|exact bn _ ‹_›|exact lt _ ‹_›|exact ov _ ‹_›|exact le3 _ ‹_›|exact rn _ _ _ _|exact xZ _ _|exact Nat.le_refl _)|exact nx _ (by with_reducible assumption)|intro hq)
 have hall: ∀i,i<B.length->i∈seen:=fun i hi=>by
  obtain⟨x,hx⟩:=eV hi
  have:=hq _ (QE (j:=0) hx)
  simp only[Nat.zero_add] at this
  exact jy.1 this
 have hE:=MA hI hall
 have hsl:seen.length=B.length:=by rw[←hI.len];exact hE.1
 rw[hsl,Nat.sub_self,show rep 0 [I 0,I 0,I 0]=[] from rfl,List.append_nil]
 exact De (k:=fun _=>eO) E hE rfl
theorem C4{P:Program}{f:Nat}{args:List Value}{aR:bS}{nx eT:Nat}{α:Type}{φ ψ:α->Prop}{v:α->Value}{zo:α->bS}{zz:α->T aa}{zn':α->Nat}(h:bF P z zn f args aR nx eT φ v zo zz zn')(hi: ∀x,φ x->ψ x)(hb: ∀x,ψ x->vA zn (zo x) (zz x) (zn' x)):bF P z zn f args aR nx eT ψ v zo zz zn':=
 ⟨h.1,h.2.1,h.2.2.1,hb,fun ρ w args' n h1 h2 h3 h4=>(h.2.2.2.2 ρ w args' n h1 h2 h3 h4).mono fun e w' ⟨x,hx,hg⟩=>⟨x,hi x hx,hg⟩⟩
def dL(z:T aa)(zn n:Nat)(l:List ae)(b:Bool)(s:eh):Prop:= ∃E,Sk n l b E/\BV z zn n (EE E) s
theorem JY(hz:ay z zn)(n:Nat)(hn:n<=64)(l:List ae)(b:Bool)(E:List eF)(m:Nat)(hm:m=E.length)(hE:Sk n l b E):
 bF prog z zn 104 [iv n,aX 0 m m] [(0,nW (bC E) m)] 1 2 (dL z zn n l b) (fun _=> .tuple ⟨[aX 1 n n,I 0]⟩) (fun s=>[(1,tH s.cs n)]) (fun s=>s.z) (fun s=>s.zn):=by
 subst hm
 refine C4 (T5 hz n hn E hE.ok) (fun s hs=>⟨E,hE,hs⟩) fun s ⟨E,_,hs⟩=>⟨sP rfl,hs.le,hs.bQ⟩
theorem JR(hz:ay z zn)(n:Nat)(hn:n<=64)(l:List ae)(hl:nm n l)(hll:l.length<=10000)(cp:Nat)(hL:cf z 4 (l.map ae.row))(b:Bool):
 bF prog z zn 90 [tb 4 l.length cp,iv n, .bool b] [] 0 1 (dL z zn n l b) (fun _=>aX 0 n n) (fun s=>[(0,tH s.cs n)]) (fun s=>s.z) (fun s=>s.zn):=by
 obtain⟨hB,h0⟩:=Iy hz n hn l hl hll cp hL b
 have hBl:=J3 hn hl hB
 have h1:=AM hz n (lT b l l.length) hBl
 have hall: ∀E,sj (lT b l l.length) E->bF prog z zn 104 [iv n,aX 0 (lT b l l.length).length (lT b l l.length).length] [(0,nW (bC E) (lT b l l.length).length)] 1 2 (dL z zn n l b) (fun _=> .tuple ⟨[aX 1 n n,I 0]⟩) (fun s=>[(1,tH s.cs n)]) (fun s=>s.z) (fun s=>s.zn):=
  fun E hE=>JY hz n hn l b E _ hE.1.symm (J4 hn hl hB hE)
 have hlen:((gM 0 (lT b l l.length)).length:Int)=((lT b l l.length).length:Int):=by rw[Er]
 have Lq: ∀σ s,dL z zn n l b s-> ∀c,aI (aA σ []) (aa.aw (ba.mk s.cs c 1 160 true true 0 true))=some (aa.aw (ba.mk s.cs c 1 160 true true 0 true)):=fun σ s ⟨E,_,h⟩ c=>by
  obtain⟨b,_,_,h,_⟩:=h.row
  rw[h];exact mE _ _ _ _ _
 have rcs': ∀σ s,dL z zn n l b s-> ∀c,aI (sig σ) (aa.aw (ba.mk s.cs c 1 160 true true 0 true))=some (aa.aw (ba.mk s.cs c 1 160 true true 0 true)):=Lq
 have bQ: ∀s,dL z zn n l b s->ay s.2 s.zn:=fun s ⟨E,_,h⟩=>h.bQ
 have r0: ∀σ m c,aI σ (aa.aw (ba.mk (rep m [I 0,I 0,I 0]) c 3 175 true true 0 true))=some (aa.aw (ba.mk (rep m [I 0,I 0,I 0]) c 3 175 true true 0 true)):=fun σ m c=>cR (by
  have e:rep m [I 0,I 0,I 0]=bC (List.replicate m (⟨0,0,0⟩:eF)):=by
   rw[mD]
   show _=((List.replicate m (⟨0,0,0⟩:eF)).map eF.row).flatten
   rw[List.map_replicate];rfl
  rw[e];exact gD _)
 refine gi (cS T.leaf) (fn:=f90) (by kernel_rfl) (by kernel_rfl) hz ⟨by decide,by decide⟩ (fun s ⟨E,_,hs⟩=>⟨rfl,hs.le,hs.bQ⟩) (N:=100) ?_
 refine ds z zn n l.length cp b (lT b l l.length) (rep (lT b l l.length).length [I 0,I 0,I 0]) (sj (lT b l l.length)) (dL z zn n l b) _ ?_
 (repeat' first|(with_reducible first|exact rfl|assumption|apply And.intro|exact hall _ ‹_›|exact bQ _ ‹_›|exact Lq _ _ ‹_› _|exact rcs' _ _ ‹_› _|exact r0 _ _ _|exact xZ _ _|exact jI _ _|exact Nat.zero_le _|exact(by omega:(lT b l l.length).length<=1048576))|exact(rfl:Int.ofNat _=_)|exact h0|exact h1|intro hq)
 all_goals exact q2 _ hq rfl rfl rfl rfl rfl
theorem Nj(n:Nat)(b:Bool):Kq n [] b 0 []:=⟨by simp,fun x hx=>by simp at hx,fun p hp=>by simp at hp⟩
theorem Fo(hz:ay z zn)(n:Nat)(b:Bool):
 ai prog (ah (ag f90) 0) 1 81 (wR n b) [(0, .map [] 0)] 1 z zn (Al.R (Tl z zn n b).l):=by
 refine an hD (cS T.leaf) (α:=Unit) 1 81 1 (fun _=>True) (fun _=>wR n b) (fun _=>[(0, .map [] 0)]) (fun _=>z) (fun _=>zn) (fun _=>0) _ (fun _ _=>?_) () trivial
 refine t100 (XM z zn n b (ak _ _ _ _ _ _ _ _ _) ?_)
 (repeat' first|(with_reducible first|exact rfl|assumption|apply And.intro))
 exact bD trivial
theorem Ek(hz:ay z zn)(n:Nat)(hn:n<=64)(b:Bool):
 bF prog z zn 90 [az,iv n, .bool b] [] 0 1 (dL z zn n [] b) (fun _=>aX 0 n n) (fun s=>[(0,tH s.cs n)]) (fun s=>s.z) (fun s=>s.zn):=by
 have hl:nm n []:=⟨fun p hp=>by simp at hp⟩
 have h0:=Fo hz n b
 have h1:=AM hz n [] (by simp)
 have hall: ∀E,sj [] E->bF prog z zn 104 [iv n,aX 0 0 0] [(0, .aw (ba.mk (bC E) 0 3 175 true true 0 true))] 1 2 (dL z zn n [] b) (fun _=> .tuple ⟨[aX 1 n n,I 0]⟩) (fun s=>[(1,tH s.cs n)]) (fun s=>s.z) (fun s=>s.zn):=
  fun E hE=>JY hz n hn [] b E 0 hE.1.symm (J4 hn hl (Nj n b) hE)
 have Lq: ∀σ s,dL z zn n [] b s-> ∀c,aI (aA σ []) (aa.aw (ba.mk s.cs c 1 160 true true 0 true))=some (aa.aw (ba.mk s.cs c 1 160 true true 0 true)):=fun σ s ⟨E,_,h⟩ c=>by
  obtain⟨b,_,_,h,_⟩:=h.row
  rw[h];exact mE _ _ _ _ _
 have rcs': ∀σ s,dL z zn n [] b s-> ∀c,aI (sig σ) (aa.aw (ba.mk s.cs c 1 160 true true 0 true))=some (aa.aw (ba.mk s.cs c 1 160 true true 0 true)):=Lq
 have bQ: ∀s,dL z zn n [] b s->ay s.2 s.zn:=fun s ⟨E,_,h⟩=>h.bQ
 refine gi (cS T.leaf) (fn:=f90) (by kernel_rfl) (by kernel_rfl) hz ⟨by decide,by decide⟩ (fun s ⟨E,_,hs⟩=>⟨rfl,hs.le,hs.bQ⟩) (N:=100) ?_
 refine dsz z zn n b (sj []) (dL z zn n [] b) _ ?_
 (repeat' first|(with_reducible first|exact rfl|assumption|apply And.intro|exact hall _ ‹_›|exact bQ _ ‹_›|exact Lq _ _ ‹_› _|exact rcs' _ _ ‹_› _|exact jI _ _)|exact h0|exact h1|intro hq)
 all_goals exact q2 _ hq rfl rfl rfl rfl rfl
end
structure me(z0:T aa)(n0:Nat)(L:List ae)(s:eR):Prop where
 bQ:ay s.z s.zn
 le:n0<=s.zn
 iL: ∀k,k<n0->s.z.get k=z0.get k
 val:(L=[]/\s.oa=none/\s.k=0)\/(L≠[]/\ ∃kk,n0<=kk/\kk<s.zn/\s.oa=some ⟨256*kk+510,0,none⟩/\s.k=L.length/\s.z.get kk=some (PZ (L.map ae.row).flatten L.length))
def iW(L:List ae)(a b d:Int)(f:Bool):List ae:=if 0<d/\d<=14400 then L++[⟨a,b,d,f⟩] else L
theorem jK(L:List ae):bE (L.map ae.row).flatten=true:=lG (row:=ae.row) (fun _=>rfl) L
theorem Cr(L:List ae):(L.map ae.row).flatten.length=L.length*4:=by
 have:=kS (sz:=4) (rows:=L.map ae.row) (aQ (row:=ae.row) (sz:=4) L fun _=>rfl)
 simpa using this
theorem j8(L:List ae)(x:ae):(L.map ae.row).flatten++x.row=((L++[x]).map ae.row).flatten:=by
 rw[List.map_append,List.flatten_append];simp
theorem sW(L:List ae)(a b d:Int)(f:Bool):(iW L a b d f).length<=L.length+1:=by
 unfold iW;split<;>simp
theorem DD{σ:bu}{k c n m:Nat}{o:aa}:aI (aA σ [(k,c,o)]) (oB (tb k n m))=some (oB (aX c n m)):=by
 have:=pD (σ:=σ) (k:=k) (c:=c) (n:=n) (m:=m) (o:=o)
 simp only[aI,bz,this]
 rfl
theorem Ck{σ:Nat->Option Nat}(L:List ae)(x:ae)(c:Nat):aI σ (.aw (ba.mk ((L.map ae.row).flatten++x.row) c 4 134 false false 0 true))=some (.aw (ba.mk ((L.map ae.row).flatten++x.row) c 4 134 false false 0 true)):=cR (by
 rw[j8];exact jK _)
section
variable{z:T aa}{zn:Nat}
theorem N3(z0:T aa)(n0:Nat)(L:List ae)(hL:L.length<100000)(s:eR)(hs:me z0 n0 L s)(a b d:Int)(f:Bool):
 bF prog s.z s.zn 91 [zv a,zv b,zv d, .bool f,ip 0] [(0,oB s.v)] 1 1 (fun s'=>me z0 n0 (iW L a b d f) s'/\s.zn<=s'.zn) (fun _=> .tuple ⟨[]⟩) (fun s=>[(0,oB s.v)]) (fun s=>s.z) (fun s=>s.zn):=by
 obtain⟨oa,r,z,zn⟩:=s
 have hz:ay z zn:=hs.bQ
 have hold:=hs.iL
 have hle:=hs.le
 simp only at hold hle
 have hin: ∀d,(decide (d>0)=true->decide (d<=14400)=true->0<d/\d<=(14400:Int)):=fun d h1 h2=>by simp at h1 h2;omega
 have no1:decide (d>0)=false->iW L a b d f=L:=fun h=>by
  unfold iW;rw[if_neg];simp at h;omega
 have no2:decide (d<=14400)=false->iW L a b d f=L:=fun h=>by
  unfold iW;rw[if_neg];simp at h;omega
 have yes:decide (d>0)=true->decide (d<=14400)=true->iW L a b d f=L++[⟨a,b,d,f⟩]:=fun h1 h2=>by
  unfold iW;rw[if_pos (hin d h1 h2)]
 refine gi (cS T.leaf) (fn:=f91) (by kernel_rfl) (by kernel_rfl) hz ⟨by decide,by decide⟩ (fun s' hs'=>⟨rfl,hs'.2,hs'.1.bQ⟩) (N:=100) ?_
 rcases hs.val with ⟨h1,h2,h3⟩|⟨h1,kk,k1,k2,h2,h3,h4⟩<;>simp only at h2 h3
 ·subst h2 h3 h1
  refine ad0 z zn 0 a b d f _ ?_
  (repeat' first|(with_reducible first|exact rfl|assumption|apply And.intro|exact Nat.le_refl _|exact Nat.lt_succ_self _)|exact DD|exact Nat.le_succ _|intro hq)
  ·refine q2 (⟨some ⟨256*zn+510,0,none⟩,1,z.set zn (PZ (([⟨a,b,d,f⟩]:List ae).map ae.row).flatten 1),zn+1⟩:eR) ⟨?_,Nat.le_succ _⟩ rfl rfl rfl rfl rfl
   rename_i h1
   rw[yes h1 hq]
   exact⟨jz hz (jK _),by show n0<=zn+1;omega,fun k hk=>by
    show(z.set zn _).get k=_
    rw[T.aP,if_neg (by omega)];exact hold k hk, .inr ⟨by simp,zn,hle,Nat.lt_succ_self _,rfl,rfl,by
    show(z.set zn _).get zn=_
    rw[T.aP,if_pos rfl];rfl⟩⟩
  ·refine q2 (⟨none,0,z,zn⟩:eR) ⟨?_,Nat.le_refl _⟩ rfl rfl rfl rfl rfl
   rw[no2 hq];exact hs
  ·refine q2 (⟨none,0,z,zn⟩:eR) ⟨?_,Nat.le_refl _⟩ rfl rfl rfl rfl rfl
   rw[no1 hq];exact hs
 ·simp only at h4
  subst h2 h3
  refine ad1 z zn kk L.length ⟨(L.map ae.row).flatten,L.length*4,4,134,false,false,0,true⟩ a b d f _ ?_
  (repeat' first|(with_reducible first|exact rfl|assumption|apply And.intro|exact Cr L|exact Nat.le_refl _|exact Nat.lt_succ_self _|exact uJ hz _|exact Ck L ⟨a,b,d,f⟩ _|exact(by show L.length+1<=1048576;omega))|exact Nat.le_succ _|exact DD|intro hq)
  ·refine q2 (⟨some ⟨256*zn+510,0,none⟩,L.length+1,(z.del kk).set zn (PZ ((L.map ae.row).flatten++(⟨a,b,d,f⟩:ae).row) (L.length+1)),zn+1⟩:eR) ⟨?_,Nat.le_succ _⟩ rfl rfl rfl rfl rfl
   rename_i h1
   rw[yes h1 hq]
   refine⟨jz (uJ hz _) (by show bE ((L.map ae.row).flatten++(⟨a,b,d,f⟩:ae).row)=true;rw[j8];exact jK _),by show n0<=zn+1;omega,fun k hk=>?_, .inr ⟨by simp,zn,hle,Nat.lt_succ_self _,rfl,by simp,?_⟩⟩
   ·show((z.del kk).set zn _).get k=_
    rw[T.aP,if_neg (by omega),T.fP,if_neg (by omega)];exact hold k hk
   ·show((z.del kk).set zn _).get zn=_
    rw[T.aP,if_pos rfl,j8,List.length_append];rfl
  ·refine q2 (⟨some ⟨256*kk+510,0,none⟩,L.length,z,zn⟩:eR) ⟨?_,Nat.le_refl _⟩ rfl rfl rfl rfl rfl
   rw[no2 hq];exact hs
  ·refine q2 (⟨some ⟨256*kk+510,0,none⟩,L.length,z,zn⟩:eR) ⟨?_,Nat.le_refl _⟩ rfl rfl rfl rfl rfl
   rw[no1 hq];exact hs
end
def si(z:T aa)(b n:Nat)(d:Nat->Nat->Int):Prop:= ∀i,i<n-> ∃l,z.get (b+i)=some (.aw (CO l n))/\l.length=n/\ ∀j,j<n->(fA l j).len=d i j
theorem lC{z z':T aa}{b n m:Nat}{d:Nat->Nat->Int}(h:si z b n d)(hb:b+n<=m)(hk: ∀k,k<m->z'.get k=z.get k):si z' b n d:=fun i hi=>by
 obtain⟨l,h1,h2⟩:=h i hi
 exact⟨l,by rw[hk _ (by omega)];exact h1,h2⟩
theorem tK{z:T aa}{b n:Nat}{d:Nat->Nat->Int}(h:si z b n d){i j:Nat}(hi:i<n)(hj:j<n): ∃k,z.get (b+i)=some (.aw k)/\aE prog k 3 (0+j*1)=some (zv (d i j)):=by
 obtain⟨l,h1,h2,h3⟩:=h i hi
 refine⟨_,h1,ju (d:=_) underlying3 rfl ?_⟩
 show(wY l)[j]? =_
 unfold wY
 rw[List.getElem?_map,mO (by omega),←h3 j hj];rfl
theorem nK{z:T aa}{zn n:Nat}{E:bU}{s:eh}(h:BV z zn n E s): ∃b d,zn<=b/\b+n<=s.zn/\s.cs=gL b n n/\si s.z b n d/\ ∀i j,i<n->j<n->l9 E i j (d i j):=by
 obtain⟨b,h1,h2,h3,h4⟩:=h.row
 have: ∀i,∃l,i<n->s.z.get (b+i)=some (.aw (CO l n))/\l.length=n/\ ∀j,j<n->l9 E i j (fA l j).len:=fun i=>by
  by_cases hi:i<n
  ·obtain⟨l,hl⟩:=h4 i hi;exact⟨l,fun _=>hl⟩
  ·exact⟨[],fun h=>absurd h hi⟩
 obtain⟨f,hf⟩:=Classical.axiomOfChoice this
 exact⟨b,fun i j=>(fA (f i) j).len,h1,h2,h3,fun i hi=>⟨f i,(hf i hi).1,(hf i hi).2.1,fun j _=>rfl⟩,fun i j hi hj=>(hf i hi).2.2 j hj⟩
def iF(d f:Nat->Nat->Int)(a:Nat)(L:List ae)(b:Nat):List ae:=
 if a=b then L else if f a b=d a b then iW L a b (d a b) true else iW (iW L a b (d a b) false) a b (f a b) true
def cP(d f:Nat->Nat->Int)(a:Nat)(L:List ae)(m:Nat):List ae:=(List.range m).foldl (iF d f a) L
def eP(d f:Nat->Nat->Int)(n m:Nat):List ae:=(List.range m).foldl (fun L a=>cP d f a L n) []
theorem kg(d f:Nat->Nat->Int)(a:Nat)(L:List ae)(m:Nat):cP d f a L (m+1)=iF d f a (cP d f a L m) m:=by
 unfold cP;rw[List.range_succ,List.foldl_append];rfl
theorem rV(d f:Nat->Nat->Int)(n m:Nat):eP d f n (m+1)=cP d f m (eP d f n m) n:=by
 unfold eP;rw[List.range_succ,List.foldl_append];rfl
theorem Bl(d f:Nat->Nat->Int)(a:Nat)(L:List ae)(b:Nat):(iF d f a L b).length<=L.length+2:=by
 unfold iF
 split
 ·omega
 ·split
  ·have:=sW L a b (d a b) true;omega
  ·have h1:=sW L a b (d a b) false
   have h2:=sW (iW L a b (d a b) false) a b (f a b) true
   omega
theorem uR(d f:Nat->Nat->Int)(a:Nat)(L:List ae)(m:Nat):(cP d f a L m).length<=L.length+2*m:=by
 induction m with
 |zero=>exact Nat.le_refl _
 |succ m ih=>rw[kg];have:=Bl d f a (cP d f a L m) m;omega
theorem C0(d f:Nat->Nat->Int)(n m:Nat):(eP d f n m).length<=m*(2*n):=by
 induction m with
 |zero=>exact Nat.zero_le _
 |succ m ih=>
  rw[rV]
  have:=uR d f m (eP d f n m) n
  have e:(m+1)*(2*n)=m*(2*n)+2*n:=Nat.succ_mul ..
  omega
section
variable{z0:T aa}{n0:Nat}
theorem nJ{σ:bu}{L:List ae}{s:eR}(h:me z0 n0 L s):aI (aA σ []) (oB s.v)=some (oB s.v):=by
 rcases h.val with ⟨_,e1,e2⟩|⟨_,kk,_,_,e1,e2,_⟩
 ·obtain⟨oa,k,z,zn⟩:=s
  simp only at e1 e2;subst e1 e2;rfl
 ·obtain⟨oa,k,z,zn⟩:=s
  simp only at e1 e2;subst e1 e2
  have:=qH σ kk L.length L.length
  show aI _ (oB (tb kk L.length L.length))=some (oB (tb kk L.length L.length))
  simp only[aI,bz,this]
theorem IA(n:Nat)(hn:n<=64)(b1 b2:Nat)(d f:Nat->Nat->Int)(h1:b1+n<=n0)(h2:b2+n<=n0)(hd:si z0 b1 n d)(hf:si z0 b2 n f)(a:Nat)(ha:a<n)(L:List ae)(hL:L.length<=10000)(s0:eR)(hs0:me z0 n0 L s0):
 ai prog (ah (ah (ag f76) 0) 0) 3 66 (AF n a (b1+a) 0) (yZ n (gL b1 n n) (gL b2 n n) s0.v) 3 s0.z s0.zn (Al.R (Ts n a (b1+a) (gL b1 n n) (gL b2 n n) s0 (fun s=>me z0 n0 (cP d f a L n) s/\s0.zn<=s.zn)).l):=by
 refine an hD (cS T.leaf) (α:=Nat × eR) 3 66 3 (fun t=>t.1<=n/\me z0 n0 (cP d f a L t.1) t.2/\s0.zn<=t.2.zn) (fun t=>AF n a (b1+a) t.1) (fun t=>yZ n (gL b1 n n) (gL b2 n n) t.2.v) (fun t=>t.2.z) (fun t=>t.2.zn) (fun t=>n - t.1) _ (fun t hI=>?_) (0,s0) ⟨Nat.zero_le _,hs0,Nat.le_refl _⟩
 obtain⟨b,s⟩:=t
 obtain⟨hb,hs,hle⟩:=hI
 simp only at hb hs hle ⊢
 have hz:=hs.bQ
 have rA: ∀b,aI (aA [(0,0),(1,1),(2,2)] []) (aa.aw (ba.mk (gL b n n) (n*1) 1 160 true true 0 true))=some (aa.aw (ba.mk (gL b n n) (n*1) 1 160 true true 0 true)):=fun b=>mE _ _ _ _ _
 by_cases hlt:b<n
 ·have hc:decide ((b:Int)<(n:Int))=true:=by simp;omega
  have hrl:=uR d f a L b
  have hd':=lC hd h1 hs.iL
  have hf':=lC hf h2 hs.iL
  obtain⟨k1,g1,r1⟩:=tK hd' ha hlt
  obtain⟨k2,g2,r2⟩:=tK hf' ha hlt
  have rB:aE prog (ba.mk (gL b2 n n) (n*1) 1 160 true true 0 true) 160 (0+a*1)=some (tb (b2+a) n n):=ju underlying160 rfl (Jn ha)
  have add1: ∀fl,bF prog s.z s.zn 91 [iv a,iv b,zv (d a b), .bool fl,ip 0] [(0,oB s.v)] 1 1 (fun s'=>me z0 n0 (iW (cP d f a L b) a b (d a b) fl) s'/\s.zn<=s'.zn) (fun _=> .tuple ⟨[]⟩) (fun s=>[(0,oB s.v)]) (fun s=>s.z) (fun s=>s.zn):=fun fl=>N3 z0 n0 _ (by omega) s hs _ _ _ _
  have add2: ∀fl x,(me z0 n0 (iW (cP d f a L b) a b (d a b) fl) x/\s.zn<=x.zn)->bF prog x.z x.zn 91 [iv a,iv b,zv (f a b),T1,ip 0] [(0,oB x.v)] 1 1 (fun s'=>me z0 n0 (iW (iW (cP d f a L b) a b (d a b) fl) a b (f a b) true) s'/\x.zn<=s'.zn) (fun _=> .tuple ⟨[]⟩) (fun s=>[(0,oB s.v)]) (fun s=>s.z) (fun s=>s.zn):=fun fl x hx=>N3 z0 n0 _ (by have:=sW (cP d f a L b) a b (d a b) fl;omega) x hx.1 _ _ _ _
  have nx: ∀s',me z0 n0 (cP d f a L (b+1)) s'->s.zn<=s'.zn->ak (fun t:Nat × eR=>t.1<=n/\me z0 n0 (cP d f a L t.1) t.2/\s0.zn<=t.2.zn) (fun t=>AF n a (b1+a) t.1) (fun t=>yZ n (gL b1 n n) (gL b2 n n) t.2.v) 3 (fun t=>t.2.z) (fun t=>t.2.zn) (fun t=>n - t.1) (Al.R (Ts n a (b1+a) (gL b1 n n) (gL b2 n n) s0 (fun s=>me z0 n0 (cP d f a L n) s/\s0.zn<=s.zn)).l) (b,s) .normal (AF n a (b1+a) (b+1)) (yZ n (gL b1 n n) (gL b2 n n) s'.v) 3 s'.z s'.zn:=fun s' h1 h2=>
   ⟨(b+1,s'),rfl,rfl,rfl,rfl,rfl,⟨by show b+1<=n;omega,h1,by show s0.zn<=s'.zn;omega⟩,by show n - (b+1)<n - b;omega⟩
  have add1t:(f a b==d a b)=true->bF prog s.z s.zn 91 [iv a,iv b,zv (d a b),T1,ip 0] [(0,oB s.v)] 1 1 (fun s'=>me z0 n0 (iW (cP d f a L b) a b (d a b) (f a b==d a b)) s'/\s.zn<=s'.zn) (fun _=> .tuple ⟨[]⟩) (fun s=>[(0,oB s.v)]) (fun s=>s.z) (fun s=>s.zn):=fun h=>by
   rw[h];exact add1 true
  have add1f:(f a b==d a b)=false->bF prog s.z s.zn 91 [iv a,iv b,zv (d a b),F0,ip 0] [(0,oB s.v)] 1 1 (fun s'=>me z0 n0 (iW (cP d f a L b) a b (d a b) (f a b==d a b)) s'/\s.zn<=s'.zn) (fun _=> .tuple ⟨[]⟩) (fun s=>[(0,oB s.v)]) (fun s=>s.z) (fun s=>s.zn):=fun h=>by
   rw[h];exact add1 false
  have w0:((a:Int)==(b:Int))=true->cP d f a L (b+1)=cP d f a L b:=fun h=>by
   rw[kg];unfold iF;rw[if_pos (by simp at h;omega)]
  have w1:((a:Int)==(b:Int))=false->(f a b !=d a b)=false->cP d f a L (b+1)=iW (cP d f a L b) a b (d a b) (f a b==d a b):=fun h h1=>by
   have e:f a b=d a b:=by simpa using h1
   rw[kg];unfold iF;rw[if_neg (by simp at h;omega),if_pos e,e];simp
  have w2:((a:Int)==(b:Int))=false->(f a b !=d a b)=true->cP d f a L (b+1)=iW (iW (cP d f a L b) a b (d a b) (f a b==d a b)) a b (f a b) true:=fun h h1=>by
   have e: ¬f a b=d a b:=by simpa using h1
   have e2:(f a b==d a b)=false:=by simpa using e
   rw[kg];unfold iF;rw[if_neg (by simp at h;omega),if_neg e,e2]
  refine t100 (Z7 s.z s.zn n a (b1+a) (b2+a) b (gL b1 n n) (gL b2 n n) s k1 k2 (d a b) (f a b) (fun s'=>me z0 n0 (iW (cP d f a L b) a b (d a b) (f a b==d a b)) s'/\s.zn<=s'.zn) (fun x s'=>me z0 n0 (iW (iW (cP d f a L b) a b (d a b) (f a b==d a b)) a b (f a b) true) s'/\x.zn<=s'.zn) (ak _ _ _ _ _ _ _ _ _) ⟨fun _=>?_,nC1 hc⟩)
  (repeat' first|(with_reducible first|exact rfl|assumption|apply And.intro|exact rA _|exact me.bQ (And.left ‹_›)|exact bP (by omega))|exact nJ hs|exact nJ (And.left (by with_reducible assumption))|exact add1t (by with_reducible assumption)|exact add1f (by with_reducible assumption)|exact add2 _ _ (by with_reducible assumption)|intro hq)
  all_goals first
   |exact nx s (by rw[w0 hq];exact hs) (Nat.le_refl _)
   |(rename_i h1 h2 x hx h3 y
     exact nx y (by rw[w2 h1 h3];exact hq.1) (Nat.le_trans hx.2 hq.2))
   |(rename_i h1 h2 x hx
     exact nx x (by rw[w1 h1 hq];exact hx.1) hx.2)
 ·have hc:decide ((b:Int)<(n:Int))=false:=by simp;omega
  have hbn:b=n:=by omega
  subst hbn
  refine t100 (Z7 s.z s.zn b a (b1+a) (b2+a) b (gL b1 b b) (gL b2 b b) s ⟨[],0,0,0,true,true,0,true⟩ ⟨[],0,0,0,true,true,0,true⟩ 0 0 (fun _=>False) (fun _ _=>False) (ak _ _ _ _ _ _ _ _ _) ⟨nC1 hc,fun _=>?_⟩)
  (repeat' first|(with_reducible first|exact rfl|assumption|apply And.intro|exact rA _)|exact nJ hs)
  exact De (k:=fun _=>eO) s ⟨hs,hle⟩ rfl
theorem AO(n:Nat)(hn:n<=64)(b1 b2:Nat)(d f:Nat->Nat->Int)(h1:b1+n<=n0)(h2:b2+n<=n0)(hd:si z0 b1 n d)(hf:si z0 b2 n f)(hz0:ay z0 n0):
 ai prog (ah (ag f76) 0) 3 66 (vP n 0) (yZ n (gL b1 n n) (gL b2 n n) az) 3 z0 n0 (Al.R (PL n (gL b1 n n) (gL b2 n n) z0 n0 (fun s=>me z0 n0 (eP d f n n) s)).l):=by
 refine an hD (cS T.leaf) (α:=Nat × eR) 3 66 3 (fun t=>t.1<=n/\me z0 n0 (eP d f n t.1) t.2) (fun t=>vP n t.1) (fun t=>yZ n (gL b1 n n) (gL b2 n n) t.2.v) (fun t=>t.2.z) (fun t=>t.2.zn) (fun t=>n - t.1) _ (fun t hI=>?_) (0,⟨none,0,z0,n0⟩) ⟨Nat.zero_le _,hz0,Nat.le_refl _,fun _ _=>rfl, .inl ⟨rfl,rfl,rfl⟩⟩
 obtain⟨a,s⟩:=t
 obtain⟨ha,hs⟩:=hI
 simp only at ha hs ⊢
 have hz:=hs.bQ
 have rA: ∀b,aI (aA [(0,0),(1,1),(2,2)] []) (aa.aw (ba.mk (gL b n n) (n*1) 1 160 true true 0 true))=some (aa.aw (ba.mk (gL b n n) (n*1) 1 160 true true 0 true)):=fun b=>mE _ _ _ _ _
 by_cases hlt:a<n
 ·have hc:decide ((a:Int)<(n:Int))=true:=by simp;omega
  have hll:(eP d f n a).length<=10000:=by
   have:=C0 d f n a
   have h2:a*(2*n)<=64*(2*64):=Nat.mul_le_mul (by omega) (by omega)
   omega
  have hlp:=IA n hn b1 b2 d f h1 h2 hd hf a hlt _ hll s hs
  have rB:aE prog (ba.mk (gL b1 n n) (n*1) 1 160 true true 0 true) 160 (0+a*1)=some (tb (b1+a) n n):=ju underlying160 rfl (Jn hlt)
  refine t100 (Z8 s.z s.zn n a (b1+a) (gL b1 n n) (gL b2 n n) s (fun s'=>me z0 n0 (cP d f a (eP d f n a) n) s'/\s.zn<=s'.zn) (ak _ _ _ _ _ _ _ _ _) ⟨fun _=>?_,nC1 hc⟩)
  (repeat' first|(with_reducible first|exact rfl|assumption|apply And.intro|exact rA _|exact me.bQ (And.left ‹_›)|exact bP (by omega))|exact hlp|exact nJ hs|exact nJ (And.left (by with_reducible assumption))|intro hq)
  rename_i x
  exact⟨(a+1,x),rfl,rfl,rfl,rfl,rfl,⟨by show a+1<=n;omega,by show me z0 n0 (eP d f n (a+1)) x;rw[rV];exact hq.1⟩,by show n - (a+1)<n - a;omega⟩
 ·have hc:decide ((a:Int)<(n:Int))=false:=by simp;omega
  have han:a=n:=by omega
  subst han
  refine t100 (Z8 s.z s.zn a a 0 (gL b1 a a) (gL b2 a a) s (fun _=>False) (ak _ _ _ _ _ _ _ _ _) ⟨nC1 hc,fun _=>?_⟩)
  (repeat' first|(with_reducible first|exact rfl|assumption|apply And.intro)|exact nJ hs)
  exact De (k:=fun _=>eO) s hs rfl
end
def DF(n:Nat)(l:List ae)(d f:Nat->Nat->Int):Prop:= ∃E F,Sk n l false E/\Sk n l true F/\(∀i j,i<n->j<n->l9 (EE E) i j (d i j))/\(∀i j,i<n->j<n->l9 (EE F) i j (f i j))
theorem A5{z z':T aa}{a b:Nat}{L:List ae}{s:eR}(h:me z' b L s)(hab:a<=b)(ho: ∀k,k<a->z'.get k=z.get k):me z a L s:=by
 refine⟨h.bQ,Nat.le_trans hab h.le,fun k hk=>(h.iL k (by omega)).trans (ho k hk),?_⟩
 rcases h.val with h1|⟨h1,kk,h2,h3⟩
 ·exact .inl h1
 ·exact .inr ⟨h1,kk,by omega,h3⟩
def kJ(C:List ae):Prop:= ∀(z:T aa)(zn:Nat)(s:eR),me z zn C s->aT prog s.z s.zn 92 [s.v, .func (.func 93) #[] #[]] [] 0 0 (fun _:Unit=>True) (fun _=> .tuple ⟨[]⟩) (fun _=>[])
theorem oR{P:Program}{b:Code}{base n:Nat}{live:Live}{aR:bS}{nx:Nat}{z:T aa}{zn:Nat}{R R':ax->Prop}(h:ai P b base n live aR nx z zn R)(hR: ∀o,R o->R' o):ai P b base n live aR nx z zn R':=
 fun xl h0 zn0 σ0 h1 h2=>(h xl h0 zn0 σ0 h1 h2).mono fun e fr h zn' ⟨o,h1,h2⟩=>⟨o,hR o h1,h2⟩
theorem dU{z z':T aa}{zn k:Nat}{rows:List (List Value)}(h:cf z k rows)(hz:ay z zn)(ho: ∀j,j<zn->z'.get j=z.get j):cf z' k rows:=
 ⟨fun hr=>by obtain⟨e,he⟩:=h.here hr;exact⟨e,by rw[ho k (hz k _ he).1];exact he⟩,h.size⟩
section
variable{z:T aa}{zn:Nat}
theorem T4(hz:ay z zn)(n:Nat)(hn:n<=64)(l:List ae)(hl:nm n l)(hll:l.length<=10000)(cp:Nat)(hL:cf z 4 (l.map ae.row))(C:List ae)(hC: ∀d f,DF n l d f->eP d f n n=C)(hS:kJ C):
 bF prog z zn 76 [tb 4 l.length cp,iv n] [] 0 0 (me z zn C) (fun s=>s.v) (fun _=>[]) (fun s=>s.z) (fun s=>s.zn):=by
 have d1:=JR hz n hn l hl hll cp hL false
 have rw1: ∀{z zn b s},dL z zn n l b s-> ∀σ c,aI (aA σ []) (aa.aw (ba.mk s.cs c 1 160 true true 0 true))=some (aa.aw (ba.mk s.cs c 1 160 true true 0 true)):=fun {z zn b s} ⟨E,_,h⟩ σ c=>by
  obtain⟨b,_,_,h,_⟩:=h.row
  rw[h];exact mE _ _ _ _ _
 have rw2: ∀{z zn b s},dL z zn n l b s-> ∀σ c,aI (sig σ) (aa.aw (ba.mk s.cs c 1 160 true true 0 true))=some (aa.aw (ba.mk s.cs c 1 160 true true 0 true)):=fun h σ c=>rw1 h σ c
 have bQ: ∀{z zn b s},dL z zn n l b s->ay s.2 s.zn:=fun {z zn b s} ⟨E,_,h⟩=>h.bQ
 have d2: ∀s,dL z zn n l false s->bF prog s.2 s.zn 90 [tb 4 l.length cp,iv n,T1] [] 0 1 (dL s.2 s.zn n l true) (fun _=>aX 0 n n) (fun s=>[(0,tH s.cs n)]) (fun s=>s.z) (fun s=>s.zn):=fun s ⟨E,_,h⟩=>JR h.bQ n hn l hl hll cp (dU hL hz h.iL) true
 have lp: ∀s1 s2,dL z zn n l false s1->dL s1.2 s1.zn n l true s2->ai prog (ah (ag f76) 0) 3 66 (vP n 0) (yZ n s1.cs s2.cs az) 3 s2.2 s2.zn (Al.R (PL n s1.cs s2.cs s2.2 s2.zn (fun s=>me z zn C s)).l):=fun s1 s2 ⟨E,hE,h1⟩ ⟨F,hF,h2⟩=>by
  obtain⟨b1,d,p1,p2,p3,p4,p5⟩:=nK h1
  obtain⟨b2,f,q1,q2,q3,q4,q5⟩:=nK h2
  have hle:=h2.le
  have:=AO n hn b1 b2 d f (by omega) q2 (lC p4 p2 h2.iL) q4 h2.bQ
  rw[hC d f ⟨E,F,hE,hF,p5,q5⟩] at this
  rw[p3,q3]
  refine oR this fun o ho=>?_
  rcases ho with ⟨s,hs,e⟩|ho
  ·exact .inl ⟨s,A5 hs (Nat.le_trans h1.le hle) fun k hk=>(h2.iL k (by have:=h1.le;omega)).trans (h1.iL k hk),e⟩
  ·exact .inr ho
 have srt: ∀s,me z zn C s->aT prog s.3 s.zn 92 [s.v, .func (.func 93) #[] #[]] [] 0 0 (fun _:Unit=>True) (fun _=> .tuple ⟨[]⟩) (fun _=>[]):=fun s hs=>hS z zn s hs
 have rv: ∀s,me z zn C s->aW (aA [] []) s.v=some s.v:=fun s h=>by
  rcases h.val with ⟨_,e1,e2⟩|⟨_,kk,_,_,e1,e2,_⟩
  ·obtain⟨oa,k,z,zn⟩:=s
   simp only at e1 e2;subst e1 e2;rfl
  ·obtain⟨oa,k,z,zn⟩:=s
   simp only at e1 e2;subst e1 e2
   exact qH [] kk C.length C.length
 have rl: ∀s,me z zn C s->bz (sig []) [s.v, .func (.func 93) #[] #[]]=some [s.v, .func (.func 93) #[] #[]]:=fun s h=>by
  have:=rv s h
  have h2:aW (aA [] []) (.func (.func 93) #[] #[])=some (.func (.func 93) #[] #[]):=rfl
  show bz (aA [] []) _=_
  simp only[bz,this,h2]
 refine gi (cS T.leaf) (fn:=f76) (by kernel_rfl) (by kernel_rfl) hz ⟨by decide,by decide⟩ (fun s' hs'=>⟨rfl,hs'.le,hs'.bQ⟩) (N:=100) ?_
 refine cl z zn n l.length cp (dL z zn n l false) (fun s=>dL s.2 s.zn n l true) (fun _ _=>me z zn C) _ ?_
 (repeat' first|(with_reducible first|exact rfl|assumption|apply And.intro|exact d2 _ ‹_›|exact srt _ ‹_›|exact bQ ‹_›|exact me.bQ ‹_›|exact rw1 ‹_› _ _|exact rw2 ‹_› _ _|exact rv _ ‹_›|exact rl _ ‹_›)|exact lp _ _ (by with_reducible assumption) (by with_reducible assumption)|intro hq)
 rename_i x hx _
 exact q2 x hx rfl rfl rfl rfl rfl
theorem Qz(hz:ay z zn)(n:Nat)(hn:n<=64)(C:List ae)(hC: ∀d f,DF n [] d f->eP d f n n=C)(hS:kJ C):
 bF prog z zn 76 [az,iv n] [] 0 0 (me z zn C) (fun s=>s.v) (fun _=>[]) (fun s=>s.z) (fun s=>s.zn):=by
 have d1:=Ek hz n hn false
 have rw1: ∀{z zn b s},dL z zn n [] b s-> ∀σ c,aI (aA σ []) (aa.aw (ba.mk s.cs c 1 160 true true 0 true))=some (aa.aw (ba.mk s.cs c 1 160 true true 0 true)):=fun {z zn b s} ⟨E,_,h⟩ σ c=>by
  obtain⟨b,_,_,h,_⟩:=h.row
  rw[h];exact mE _ _ _ _ _
 have rw2: ∀{z zn b s},dL z zn n [] b s-> ∀σ c,aI (sig σ) (aa.aw (ba.mk s.cs c 1 160 true true 0 true))=some (aa.aw (ba.mk s.cs c 1 160 true true 0 true)):=fun h σ c=>rw1 h σ c
 have bQ: ∀{z zn b s},dL z zn n [] b s->ay s.2 s.zn:=fun {z zn b s} ⟨E,_,h⟩=>h.bQ
 have d2: ∀s,dL z zn n [] false s->bF prog s.2 s.zn 90 [az,iv n,T1] [] 0 1 (dL s.2 s.zn n [] true) (fun _=>aX 0 n n) (fun s=>[(0,tH s.cs n)]) (fun s=>s.z) (fun s=>s.zn):=fun s ⟨E,_,h⟩=>Ek h.bQ n hn true
 have lp: ∀s1 s2,dL z zn n [] false s1->dL s1.2 s1.zn n [] true s2->ai prog (ah (ag f76) 0) 3 66 (vP n 0) (yZ n s1.cs s2.cs az) 3 s2.2 s2.zn (Al.R (PL n s1.cs s2.cs s2.2 s2.zn (fun s=>me z zn C s)).l):=fun s1 s2 ⟨E,hE,h1⟩ ⟨F,hF,h2⟩=>by
  obtain⟨b1,d,p1,p2,p3,p4,p5⟩:=nK h1
  obtain⟨b2,f,q1,q2,q3,q4,q5⟩:=nK h2
  have hle:=h2.le
  have:=AO n hn b1 b2 d f (by omega) q2 (lC p4 p2 h2.iL) q4 h2.bQ
  rw[hC d f ⟨E,F,hE,hF,p5,q5⟩] at this
  rw[p3,q3]
  refine oR this fun o ho=>?_
  rcases ho with ⟨s,hs,e⟩|ho
  ·exact .inl ⟨s,A5 hs (Nat.le_trans h1.le hle) fun k hk=>(h2.iL k (by have:=h1.le;omega)).trans (h1.iL k hk),e⟩
  ·exact .inr ho
 have srt: ∀s,me z zn C s->aT prog s.3 s.zn 92 [s.v, .func (.func 93) #[] #[]] [] 0 0 (fun _:Unit=>True) (fun _=> .tuple ⟨[]⟩) (fun _=>[]):=fun s hs=>hS z zn s hs
 have rv: ∀s,me z zn C s->aW (aA [] []) s.v=some s.v:=fun s h=>by
  rcases h.val with ⟨_,e1,e2⟩|⟨_,kk,_,_,e1,e2,_⟩
  ·obtain⟨oa,k,z,zn⟩:=s
   simp only at e1 e2;subst e1 e2;rfl
  ·obtain⟨oa,k,z,zn⟩:=s
   simp only at e1 e2;subst e1 e2
   exact qH [] kk C.length C.length
 have rl: ∀s,me z zn C s->bz (sig []) [s.v, .func (.func 93) #[] #[]]=some [s.v, .func (.func 93) #[] #[]]:=fun s h=>by
  have:=rv s h
  have h2:aW (aA [] []) (.func (.func 93) #[] #[])=some (.func (.func 93) #[] #[]):=rfl
  show bz (aA [] []) _=_
  simp only[bz,this,h2]
 refine gi (cS T.leaf) (fn:=f76) (by kernel_rfl) (by kernel_rfl) hz ⟨by decide,by decide⟩ (fun s' hs'=>⟨rfl,hs'.le,hs'.bQ⟩) (N:=100) ?_
 refine clz z zn n (dL z zn n [] false) (fun s=>dL s.2 s.zn n [] true) (fun _ _=>me z zn C) _ ?_
 (repeat' first|(with_reducible first|exact rfl|assumption|apply And.intro|exact d2 _ ‹_›|exact srt _ ‹_›|exact bQ ‹_›|exact me.bQ ‹_›|exact rw1 ‹_› _ _|exact rw2 ‹_› _ _|exact rv _ ‹_›|exact rl _ ‹_›)|exact lp _ _ (by with_reducible assumption) (by with_reducible assumption)|intro hq)
 rename_i x hx _
 exact q2 x hx rfl rfl rfl rfl rfl
end
def pg(C:List ae):Prop:= ∀(i j:Nat)(x y:ae),i<j->C[i]? =some x->C[j]? =some y->decide (qS y.fz1 y.aq y.aK x.fz1 x.aq x.aK<0)=false
abbrev A4(C:List ae):ba:=⟨(C.map ae.row).flatten,C.length*4,4,134,false,false,0,true⟩
theorem kR{C:List ae}{i:Nat}{x:ae}(hx:C[i]? =some x):aE prog (A4 C) 134 (0+i*4)=some (.agg ⟨x.row⟩):=
 iq (rows:=C.map ae.row) rfl (r:=x.row) (sz:=4) underlying134 rfl rfl (aQ (row:=ae.row) (sz:=4) C fun _=>rfl) (by rw[List.getElem?_map,hx];rfl)
theorem Kb{z:T aa}{zn:Nat}(hz:ay z zn){f:Nat}{args:List Value}{v:Value}(hp:bE args=true)(hv:au v=true)(h: ∀w,Calls prog f ⟨args⟩ w fun e w'=>e= .returned v/\w'=w):A1 z zn f args [] 0 0 v []:=by
 refine⟨hz,Nat.le_refl _,by decide,fun _ _=>N6 hz (fun b o h=>by cases h),fun ρ w args' n hargs hh hf hfb=>callsIn_wide.2 ?_⟩
 have e:=hargs.plain hp
 subst e
 exact(h w).mono fun e w' ⟨h1,h2⟩=>⟨(),trivial,ρ,v,h1,VR.aZ hv,by rw[h2];exact hh,by rw[h2];exact ia.refl _ _ _ _ _ _ _⟩
section
variable{z:T aa}{zn kk:Nat}{C:List ae}
theorem TW(hz:ay z zn)(hk:z.get kk=some (.aw (A4 C)))(hS:pg C){a b n:Nat}(hn:n=C.length)(hab:a<b)(hb:b<C.length):
 A1 z zn 137 [tb kk n n,iv a,iv b,ip 0,iT] [(0,KU)] 1 1 (.tuple ⟨[iv a,iv b]⟩) [(0,KU)]:=by
 subst hn
 obtain⟨x,hx⟩: ∃x,C[a]? =some x:=⟨_,List.getElem?_eq_getElem (by omega)⟩
 obtain⟨y,hy⟩: ∃y,C[b]? =some y:=⟨_,List.getElem?_eq_getElem hb⟩
 have hc:=hS a b x y hab hx hy
 have r1:=kR hx
 have r2:=kR hy
 have hc':Value.bool (decide (qS y.fz1 y.aq y.aK x.fz1 x.aq x.aK<0))= .bool false:=by rw[hc]
 refine aK1 (mr z) (fn:=f137) hz (N:=100) ?_
 refine jo2 z zn kk C.length a b (A4 C) x y _ ?_
 (repeat' first|(with_reducible first|exact rfl|assumption|apply And.intro|exact(by omega:a<C.length))|exact(rfl:gS _ _=_)|exact q1)
theorem TZ(hz:ay z zn)(hk:z.get kk=some (.aw (A4 C)))(hS:pg C){a b c n:Nat}(hn:n=C.length)(hab:a<b)(hbc:b<c)(hc:c<C.length):
 A1 z zn 132 [tb kk n n,iv a,iv b,iv c,ip 0,iT] [(0,KU)] 1 1 (iv b) [(0,KU)]:=by
 have h1:=TW hz hk hS hn hab (by omega)
 have h2:=TW hz hk hS hn hbc hc
 refine aK1 (mr z) (fn:=f132) hz (N:=100) ?_
 refine jmd z zn kk n a b c _ ?_
 (repeat' first|(with_reducible first|exact rfl|assumption|apply And.intro)|exact h1|exact h2|exact q1|intro hq)
theorem rh{x:Int}(h: -9223372036854775808<=x)(h2:x<=9223372036854775807):Value.int .i64 (IntKind.i64.wrap x)=Value.int .i64 x:=by
 have:IntKind.i64.wrap x=x:=by
  simp only[IntKind.wrap,IntKind.signed,IntKind.bits]
  simp
  omega
 rw[this]
theorem Qw(hz:ay z zn)(hk:z.get kk=some (.aw (A4 C)))(hS:pg C){a n:Nat}(hn:n=C.length)(hc:a+2<C.length)(hs:C.length<100000):
 A1 z zn 131 [tb kk n n,iv (a+1),ip 0,iT] [(0,KU)] 1 1 (iv (a+1)) [(0,KU)]:=by
 have h1:=TZ hz hk hS hn (show a<a+1 by omega) (show a+1<a+2 by omega) hc
 have e:(((a+1:Nat):Int) - 1)=(a:Int):=by omega
 have w1:Value.int .i64 (IntKind.i64.wrap (((a+1:Nat):Int) - 1))=Value.int .i64 (((a+1:Nat):Int) - 1):=rh (by omega) (by omega)
 have w2:Value.int .i64 (IntKind.i64.wrap (((a+1:Nat):Int)+1))=Value.int .i64 ((a+1+1:Nat):Int):=bP (by omega)
 refine aK1 (mr z) (fn:=f131) hz (N:=100) ?_
 refine jma z zn kk n a _ ?_
 rw[e] at w1 ⊢
 (repeat' first|(with_reducible first|exact rfl|assumption|apply And.intro)|exact h1|exact q1|intro hq)
theorem XP(hz:ay z zn)(hk:z.get kk=some (.aw (A4 C)))(hS:pg C){n:Nat}(hn:n=C.length)(h8:12<n)(hs:C.length<100000):
 A1 z zn 117 [tb kk n n,I 0,iv n,iT] [] 0 1 (.tuple ⟨[iv (n / 4*2),I 1]⟩) []:=by
 have e0:((n:Int) - 0).tdiv 4=((n / 4:Nat):Int):=by rw[Int.sub_zero];rfl
 obtain⟨q,hv⟩: ∃q,n / 4=q:=⟨_,rfl⟩
 rw[hv] at e0 ⊢
 have e1:(0+(q:Int)*1)=((q:Nat):Int):=by omega
 have e2:(0+(q:Int)*2)=((q*2:Nat):Int):=by omega
 have e3:(0+(q:Int)*3)=((q*3:Nat):Int):=by omega
 have hq3:3<=q:=by omega
 have hq4:q*4<=n:=by omega
 have w0:Value.int .i64 (IntKind.i64.wrap ((n:Int) - 0))=Value.int .i64 ((n:Int) - 0):=rh (by omega) (by omega)
 have w1:Value.int .i64 (IntKind.i64.wrap (q:Int))=Value.int .i64 (q:Int):=rh (by omega) (by omega)
 have w2: ∀c:Int,0<=c->c<=3->Value.int .i64 (IntKind.i64.wrap ((q:Int)*c))=Value.int .i64 ((q:Int)*c):=fun c h1 h2=>rh (by
  have:c=0\/c=1\/c=2\/c=3:=by omega
  rcases this with rfl|rfl|rfl|rfl<;>omega) (by
  have:c=0\/c=1\/c=2\/c=3:=by omega
  rcases this with rfl|rfl|rfl|rfl<;>omega)
 have w3: ∀c:Nat,c<=3->Value.int .i64 (IntKind.i64.wrap ((q*c:Nat):Int))=Value.int .i64 ((q*c:Nat):Int):=fun c h2=>rh (by omega) (by
  have:q*c<=q*3:=Nat.mul_le_mul_left _ h2
  omega)
 have d8:Value.bool (decide ((n:Int) - 0>=8))=T1:=by rw[show decide ((n:Int) - 0>=8)=true by simp;omega]
 have m1:=TZ hz hk hS hn (show q<q*2 by omega) (show q*2<q*3 by omega) (by omega)
 obtain⟨q',rfl⟩: ∃q',q=q'+1:=⟨q - 1,by omega⟩
 have g1:=Qw hz hk hS (a:=q') hn (by omega) hs
 have g2:=Qw hz hk hS (a:=(q'+1)*2 - 1) hn (by omega) hs
 have g3:=Qw hz hk hS (a:=(q'+1)*3 - 1) hn (by omega) hs
 rw[show(q'+1)*2 - 1+1=(q'+1)*2 by omega] at g2
 rw[show(q'+1)*3 - 1+1=(q'+1)*3 by omega] at g3
 have w31:=w3 1 (by omega)
 rw[Nat.mul_one] at w31
 refine aK1 (mr z) (fn:=f117) hz (N:=100) ?_
 refine jcp z zn kk n 0 0 0 _ ?_
 rw[e0,e1,e2,e3]
 (repeat' first|(with_reducible first|exact rfl|assumption|apply And.intro|exact w2 _ (by decide) (by decide)|exact w3 _ (by decide)|exact q1)|exact m1|exact g1|exact g2|exact g3|intro hq)
theorem Mk(hz:ay z zn)(hk:z.get kk=some (.aw (A4 C)))(hS:pg C){n:Nat}(hn:n=C.length)(i:Nat)(hi:0<i)(hin:i<n)(hs:C.length<100000):
 ai prog (ah (ah (ag f114) 0) 0) 0 53 (Fh (tb kk n n) n i i) [] 0 z zn (Al.R (WY z zn (tb kk n n) n i).l):=by
 subst hn
 obtain⟨j,rfl⟩: ∃j,i=j+1:=⟨i - 1,by omega⟩
 obtain⟨x,hx⟩: ∃x,C[j]? =some x:=⟨_,List.getElem?_eq_getElem (by omega)⟩
 obtain⟨y,hy⟩: ∃y,C[j+1]? =some y:=⟨_,List.getElem?_eq_getElem hin⟩
 have hc:=hS j (j+1) x y (by omega) hx hy
 have r1:=kR hx
 have r2:=kR hy
 have hc':Value.bool (decide (qS y.fz1 y.aq y.aK x.fz1 x.aq x.aK<0))= .bool false:=by rw[hc]
 have w1:Value.int .i64 (IntKind.i64.wrap (((j+1:Nat):Int) - 1))=Value.int .i64 (((j+1:Nat):Int) - 1):=rh (by omega) (by omega)
 refine an hD (mr z) (α:=Unit) 0 53 0 (fun _=>True) (fun _=>Fh (tb kk C.length C.length) C.length (j+1) (j+1)) (fun _=>[]) (fun _=>z) (fun _=>zn) (fun _=>0) _ (fun _ hI=>?_) () trivial
 refine t100 (ji1 z zn kk C.length (j+1) j (A4 C) x y (ak _ _ _ _ _ _ _ _ _) ?_)
 (repeat' first|(with_reducible first|exact rfl|assumption|apply And.intro|exact(by omega:j<C.length)|exact(by omega:((j+1:Nat):Int) - 1=(j:Int)))|exact(rfl:gS _ _=_)|intro hq)
 all_goals first
  |exact bD trivial
theorem Ml(hz:ay z zn)(hk:z.get kk=some (.aw (A4 C)))(hS:pg C){n:Nat}(hn:n=C.length)(hs:C.length<100000):
 ai prog (ah (ag f114) 0) 0 53 (pQ (tb kk n n) n 1) [] 0 z zn (Al.R (Tj z zn (tb kk n n) n).l):=by
 refine an hD (mr z) (α:=Nat) 0 53 0 (fun i=>0<i/\i<=n+1) (fun i=>pQ (tb kk n n) n i) (fun _=>[]) (fun _=>z) (fun _=>zn) (fun i=>n+1 - i) _ (fun i hI=>?_) 1 ⟨by omega,by omega⟩
 obtain⟨h1,h2⟩:=hI
 refine t100 (ji0 z zn kk n i (ak _ _ _ _ _ _ _ _ _) ?_)
 by_cases hi:i<n
 ·have hL:=Mk hz hk hS hn i h1 hi hs
  have d1:decide ((i:Int)<(n:Int))=true:=by simp;omega
  refine⟨fun _=>?_,nC1 d1⟩
  (repeat' first|(with_reducible first|exact rfl|assumption|apply And.intro|exact bP (by omega))|exact hL|intro hq)
  all_goals first
   |exact⟨i+1,rfl,rfl,rfl,rfl,rfl,⟨by omega,by omega⟩,by show n+1 - (i+1)<n+1 - i;omega⟩
 ·have d1:decide ((i:Int)<(n:Int))=false:=by simp;omega
  refine⟨nC1 d1,fun _=>?_⟩
  (repeat' first|(with_reducible first|exact rfl|assumption|apply And.intro))
  all_goals exact bD trivial
theorem T2(hz:ay z zn)(hk:z.get kk=some (.aw (A4 C)))(hS:pg C){n:Nat}(hn:n=C.length)(hs:C.length<100000):
 A1 z zn 114 [tb kk n n,I 0,iv n,iT] [] 0 0 (.tuple ⟨[]⟩) []:=by
 have hL:=Ml hz hk hS hn hs
 refine aK1 (mr z) (fn:=f114) hz (N:=100) ?_
 refine ji z zn kk n _ ?_
 (repeat' first|(with_reducible first|exact rfl|assumption|apply And.intro|exact q1)|exact hL|intro hq)
theorem Qy(hz:ay z zn):A1 z zn 114 [az,I 0,iv 0,iT] [] 0 0 (.tuple ⟨[]⟩) []:=by
 have hL:ai prog (ah (ag f114) 0) 0 53 (pQ az 0 1) [] 0 z zn (Al.R (Tj z zn az 0).l):=by
  refine an hD (mr z) (α:=Unit) 0 53 0 (fun i=>True) (fun i=>pQ az 0 1) (fun _=>[]) (fun _=>z) (fun _=>zn) (fun i=>0) _ (fun i hI=>?_) () trivial
  refine t100 (Xd z zn (ak _ _ _ _ _ _ _ _ _) ?_)
  (repeat' first|(with_reducible first|exact rfl|assumption|apply And.intro))
  all_goals exact bD trivial
 refine aK1 (mr z) (fn:=f114) hz (N:=100) ?_
 refine jiz z zn _ ?_
 (repeat' first|(with_reducible first|exact rfl|assumption|apply And.intro|exact q1)|exact hL|intro hq)
theorem Ma(hz:ay z zn)(hk:z.get kk=some (.aw (A4 C)))(hS:pg C){n:Nat}(hn:n=C.length)(h1n:1<=n)(hs:C.length<100000):
 ai prog (ah (ah (ag f119) 0) 0) 0 141 (jL kk n 1 0) [] 0 z zn (Al.R (Ta z zn kk n).l):=by
 subst hn
 refine an hD (mr z) (α:=Nat) 0 141 0 (fun i=>i<C.length) (fun i=>jL kk C.length (i+1) 0) (fun _=>[]) (fun _=>z) (fun _=>zn) (fun i=>C.length - i) _ (fun i hI=>?_) 0 h1n
 obtain⟨x,hx⟩: ∃x,C[i]? =some x:=⟨_,List.getElem?_eq_getElem hI⟩
 by_cases hi:i+1<C.length
 ·obtain⟨y,hy⟩: ∃y,C[i+1]? =some y:=⟨_,List.getElem?_eq_getElem hi⟩
  have hc:=hS i (i+1) x y (by omega) hx hy
  have r1:=kR hx
  have r2:=kR hy
  have hc':Value.bool (decide (qS y.fz1 y.aq y.aK x.fz1 x.aq x.aK<0))= .bool false:=by rw[hc]
  have w1:Value.int .i64 (IntKind.i64.wrap (((i+1:Nat):Int) - 1))=Value.int .i64 (((i+1:Nat):Int) - 1):=rh (by omega) (by omega)
  have d1:decide (((i+1:Nat):Int)<(C.length:Int))=true:=by simp;omega
  refine t100 (ZZ z zn kk C.length i (A4 C) x y (ak _ _ _ _ _ _ _ _ _) ⟨fun _=>?_,nC1 d1⟩)
  (repeat' first|(with_reducible first|exact rfl|assumption|apply And.intro|exact(by omega:((i+1:Nat):Int) - 1=(i:Int))|exact bP (by omega))|exact(rfl:gS _ _=_))
  all_goals first
   |exact⟨i+1,rfl,rfl,rfl,rfl,rfl,hi,by show C.length - (i+1)<C.length - i;omega⟩
 ·have d1:decide (((i+1:Nat):Int)<(C.length:Int))=false:=by simp;omega
  refine t100 (ZZ z zn kk C.length i (A4 C) x x (ak _ _ _ _ _ _ _ _ _) ⟨nC1 d1,fun _=>?_⟩)
  have e:i+1=C.length:=by omega
  rw[←e]
  (repeat' first|(with_reducible first|exact rfl|assumption|apply And.intro))
  all_goals exact bD trivial
theorem Mb(hz:ay z zn)(hk:z.get kk=some (.aw (A4 C)))(hS:pg C){n:Nat}(hn:n=C.length)(h1n:1<=n)(hs:C.length<100000):
 ai prog (ah (ag f119) 0) 0 141 (jL kk n 1 0) [] 0 z zn (Al.R (Tb z zn kk n).l):=by
 have hL:=Ma hz hk hS hn h1n hs
 refine an hD (mr z) (α:=Unit) 0 141 0 (fun _=>True) (fun _=>jL kk n 1 0) (fun _=>[]) (fun _=>z) (fun _=>zn) (fun _=>0) _ (fun i hI=>?_) () trivial
 have hb:Value.bool ((n:Int)==(n:Int))=Value.bool true:=by simp
 refine t100 (jq0 z zn kk n (ak _ _ _ _ _ _ _ _ _) ?_)
 (repeat' first|(with_reducible first|exact rfl|assumption|apply And.intro)|exact hL|intro hq)
 all_goals first
  |exact bD trivial
theorem Qv(hz:ay z zn)(hk:z.get kk=some (.aw (A4 C)))(hS:pg C){n:Nat}(hn:n=C.length)(h1n:1<=n)(hs:C.length<100000):
 A1 z zn 119 [tb kk n n,I 0,iv n,iT] [] 0 0 T1 []:=by
 have hL:=Mb hz hk hS hn h1n hs
 refine aK1 (mr z) (fn:=f119) hz (N:=100) ?_
 refine jq z zn kk n _ ?_
 (repeat' first|(with_reducible first|exact rfl|assumption|apply And.intro|exact q1)|exact hL|intro hq)
theorem TU(hz:ay z zn)(hk:z.get kk=some (.aw (A4 C)))(hS:pg C){n:Nat}(hn:n=C.length)(hs:C.length<100000)(l:Nat)(hl:12<n->0<l):
 A1 z zn 105 [tb kk n n,I 0,iv n,iv l,iT] [] 0 0 (.tuple ⟨[]⟩) []:=by
 have hL:ai prog (ah (ag f105) 0) 0 148 (uw (tb kk n n) n l) [] 0 z zn (Al.R (Te z zn (tb kk n n) n l).l):=by
  refine an hD (mr z) (α:=Unit) 0 148 0 (fun _=>True) (fun _=>uw (tb kk n n) n l) (fun _=>[]) (fun _=>z) (fun _=>zn) (fun _=>0) _ (fun i hI=>?_) () trivial
  have w0:Value.int .i64 (IntKind.i64.wrap ((n:Int) - 0))=Value.int .i64 ((n:Int) - 0):=rh (by omega) (by omega)
  refine t100 (jp0 z zn kk n l (n / 4*2) (ak _ _ _ _ _ _ _ _ _) ⟨w0,?_⟩)
  by_cases h12:n<=12
  ·have d1:decide ((n:Int) - 0<=12)=true:=by simp;omega
   have h1:=T2 hz hk hS hn hs
   refine⟨fun _=>?_,nC1 d1⟩
   (repeat' first|(with_reducible first|exact rfl|assumption|apply And.intro)|intro hq)
   all_goals exact bD trivial
  ·have d1:decide ((n:Int) - 0<=12)=false:=by simp;omega
   have h1:=XP hz hk hS hn (by omega) hs
   have h2:=Qv hz hk hS hn (by omega) hs
   have hl0:Value.bool ((l:Int)==0)=Value.bool false:=by
    have:=hl (by omega)
    rw[show((l:Int)==0)=false by simp;omega]
   refine⟨nC1 d1,fun _=>?_⟩
   (repeat' first|(with_reducible first|exact rfl|assumption|apply And.intro)|intro hq)
   all_goals exact bD trivial
 refine aK1 (mr z) (fn:=f105) hz (N:=100) ?_
 refine jp z zn n l kk _ ?_
 (repeat' first|(with_reducible first|exact rfl|assumption|apply And.intro|exact q1)|exact hL|intro hq)
theorem Qu(hz:ay z zn)(l:Nat):A1 z zn 105 [az,I 0,iv 0,iv l,iT] [] 0 0 (.tuple ⟨[]⟩) []:=by
 have hL:ai prog (ah (ag f105) 0) 0 148 (uw az 0 l) [] 0 z zn (Al.R (Te z zn az 0 l).l):=by
  refine an hD (mr z) (α:=Unit) 0 148 0 (fun _=>True) (fun _=>uw az 0 l) (fun _=>[]) (fun _=>z) (fun _=>zn) (fun _=>0) _ (fun i hI=>?_) () trivial
  refine t100 (Xa z zn l (ak _ _ _ _ _ _ _ _ _) ?_)
  have h1:=Qy hz
  (repeat' first|(with_reducible first|exact rfl|assumption|apply And.intro)|exact h1|intro hq)
  all_goals exact bD trivial
 refine aK1 (mr z) (fn:=f105) hz (N:=100) ?_
 refine jpz z zn l _ ?_
 (repeat' first|(with_reducible first|exact rfl|assumption|apply And.intro|exact q1)|exact hL|intro hq)
theorem JX(hz:ay z zn){n:Nat}(h:n<100000):A1 z zn 106 [.int .u64 (IntKind.u64.wrap (n:Int))] [] 0 0 (iv (Lib.bitLen n)) []:=by
 have:IntKind.u64.wrap (n:Int)=(n:Int):=by
  simp only[IntKind.wrap,IntKind.signed,IntKind.bits]
  simp
  omega
 rw[this]
 refine Kb hz rfl rfl fun w=>?_
 have:=bitsLen (n:Int) w (by omega) (by omega)
 rw[Int.toNat_natCast] at this
 exact this
theorem C8{n:Nat}(h:12<n):0<Lib.bitLen n:=by
 unfold Lib.bitLen Lib.bitLenAux
 rw[if_neg (by omega)];omega
theorem Qn(hz:ay z zn)(hk:z.get kk=some (.aw (A4 C)))(hS:pg C){n:Nat}(hn:n=C.length)(hs:C.length<100000):
 A1 z zn 92 [tb kk n n,iT] [] 0 0 (.tuple ⟨[]⟩) []:=by
 have h1:=JX hz (n:=n) (by omega)
 have h2:=TU hz hk hS hn hs (Lib.bitLen n) C8
 refine aK1 (mr z) (fn:=f92) hz (N:=100) ?_
 refine js z zn kk n (Lib.bitLen n) _ ?_
 (repeat' first|(with_reducible first|exact rfl|assumption|apply And.intro|exact q1)|intro hq)
theorem M3(hz:ay z zn):A1 z zn 92 [az,iT] [] 0 0 (.tuple ⟨[]⟩) []:=by
 have h1:A1 z zn 106 [.int .u64 0] [] 0 0 (iv (Lib.bitLen 0)) []:=JX hz (n:=0) (by omega)
 have h2:=Qu hz (Lib.bitLen 0)
 refine aK1 (mr z) (fn:=f92) hz (N:=100) ?_
 refine jsz z zn (Lib.bitLen 0) _ ?_
 (repeat' first|(with_reducible first|exact rfl|assumption|apply And.intro|exact q1)|exact h2|intro hq)
end
theorem we{C:List ae}(hS:pg C)(hs:C.length<100000):kJ C:=fun z zn s h=>by
 obtain⟨oa,k,z',zn'⟩:=s
 have hz:=h.bQ
 rcases h.val with ⟨h1,h2,h3⟩|⟨h1,kk,k1,k2,h2,h3,h4⟩<;>simp only at h2 h3 hz
 ·subst h2 h3
  exact M3 hz
 ·simp only at h4
  subst h2 h3
  exact Qn hz h4 hS rfl hs
end Go.Proofs.Nw
namespace Go.Proofs.Nw
open Go Go.AV Tryz
set_option maxRecDepth 1000000
noncomputable section
noncomputable abbrev QJ:Code:=ah (ag f101) 0
noncomputable abbrev Oh:Code:=ah QJ 0
abbrev UX:List (Nat × aa):=[(3,FJ),(4,ES)]
abbrev Rq:Prop:=Rs (BQ [] 0 1 160)
abbrev Rp:Prop:=Rs (BQ [] 0 1 3)
abbrev Gz(z:T aa)(zn:Nat)(rc:List Value)(n:Nat):T aa:=jG z [(zn,4,BR rc (n*1) 1 3)]
abbrev UW(zn:Nat)(rc:List Value)(n:Nat):Prop:=KO (aA [(1,6)] [(zn,4,BR rc (n*1) 1 3)]) (BR rc (n*1) 1 3)
abbrev Og:Value:=SL 6 1 1
abbrev YHR(zn:Nat)(rc:List Value)(n:Nat):Prop:=aI (aA [(1,6)] [(zn,4,BR rc (n*1) 1 3)]) (BR [eJ zn n] 1 1 160)=some (BR [SL 4 n n] 1 1 160)
abbrev UU:List (Nat × aa):=[(1,BQ [] 0 1 160)]
abbrev Ro:List (Nat × Nat):=[(3,1),(4,2)]
theorem Ss(z:T aa)(zn n m cp:Nat)(b:Bool)(rc:List Value)(Q:QL)(hyp:Br (decide (0<(↑n:Int))) (Yg/\ai prog Oh 3 116 (lJ (tb 4 m cp) n b 0 0) UX 5 z zn (alt True (ax.mk ja [(0,tb 4 m cp),(1,iv n),jV b,(7,aX 3 0 0),(8,iv 0),(9,aX 4 n n)] [(3,FJ),(4,zP rc n)] 5 z zn) Al.nil).R/\E6 116 z zn (R7 (fJ m cp) (IV n) (gJ b) KA YM (SL 2 0 0) YM (Rq/\Rp/\ ∀(x:Unit),True->E3 116 (Rf (Gz z zn rc n)/\zn.le (zn+1)/\ay z zn/\zn<=zn/\zn<zn+1/\UW zn rc n/\aW (aA [(1,6)] [(zn,4,BR rc (n*1) 1 3)]) (fJ m cp)=some (fJ m cp)/\R4 (IV n) (gJ b) Og (I 1) (YHR zn rc n/\Q aN [(0,fJ m cp),eI n,jV b,(7,SL 1 1 1),(8,I 1)] [(1,BR [eJ zn n] 1 1 160)] 2 (Gz z zn rc n) (zn+1)))))) (E6 116 z zn (R4 (fJ m cp) (IV n) (gJ b) KA (Rq/\Q YO [(0,fJ m cp),eI n,jV b,(7,KA)] UU 2 z zn)))):ew prog gH jW QJ 116 (pP (tb 4 m cp) n b 0) z [(1,FJ)] 2 zn 1 Q:=K1t hyp ((tA 1 (Tr.lp 3 116 Ro [] (lJ (tb 4 m cp) n b 0 0) UX 5 z zn (Al.cons Unit Yx (fun(x:Unit)=>ax.mk ja [(0,tb 4 m cp),(1,iv n),jV b,(7,aX 3 0 0),(8,iv 0),(9,aX 4 n n)] [(3,FJ),(4,zP rc n)] 5 z zn) (fun(x:Unit)=>tA 2 (tE [(1,6)] [(zn,4,BR rc (n*1) 1 3)] [(0,fJ m cp),eI n,jV b,(7,SL 1 1 1),(8,I 1)] [(1,BR [eJ zn n] 1 1 160)] 2 (Gz z zn rc n) (zn+1))) Al.nil))).fork (tA 1 (tE Yf [] [(0,fJ m cp),eI n,jV b,(7,KA)] UU 2 z zn)))
abbrev Of(i:Nat):Value:=SL 6 (i+1) (i+1)
abbrev YHV(zn:Nat)(rc:List Value)(n:Nat)(cs:List Value)(i:Nat):Prop:=aI (aA [(1,6)] [(zn,4,BR rc (n*1) 1 3)]) (BR (cs++[eJ zn n]) ((i+1)*1) 1 160)=some (BR (cs++[SL 4 n n]) ((i+1)*1) 1 160)
abbrev UT(cs:List Value)(zn n i:Nat):List (Nat × aa):=[(1,BR (cs++[eJ zn n]) ((i+1)*1) 1 160)]
theorem Zy(z:T aa)(zn n i m cp:Nat)(b:Bool)(cs rc:List Value)(Q:QL)(hyp:Br (decide ((↑i:Int)<(↑n:Int))) (Yg/\ai prog Oh 3 116 (lJ (tb 4 m cp) n b i 0) [(3,Kx cs i),(4,ES)] 5 z zn (alt True (ax.mk ja [(0,tb 4 m cp),(1,iv n),jV b,(7,aX 3 i i),(8,iv i),(9,aX 4 n n)] [(3,Kx cs i),(4,zP rc n)] 5 z zn) Al.nil).R/\E6 116 z zn (R7 (fJ m cp) (IV n) (gJ b) (cQ i) (IV i) (SL 2 0 0) YM (KO (aA Ro []) (BR cs (i*1) 1 160)/\Rp/\ ∀(x:Unit),True->Rs [SL 4 n n]/\Rf i/\cs.length=i*1/\Rf (i*1)/\i+1<=1048576/\ZV (IntKind.i64.wrap ((↑i:Int)+1))=IV (i+1)/\E3 116 (Rf (Gz z zn rc n)/\zn.le (zn+1)/\ay z zn/\zn<=zn/\zn<zn+1/\UW zn rc n/\aW (aA [(1,6)] [(zn,4,BR rc (n*1) 1 3)]) (fJ m cp)=some (fJ m cp)/\R4 (IV n) (gJ b) (Of i) (IV (i+1)) (YHV zn rc n cs i/\Q aN [(0,fJ m cp),eI n,jV b,(7,SL 1 (i+1) (i+1)),Gk i] (UT cs zn n i) 2 (Gz z zn rc n) (zn+1)))))) (E6 116 z zn (R4 (fJ m cp) (IV n) (gJ b) (cQ i) (KO (aA Yf []) (BR cs (i*1) 1 160)/\Q YO [(0,fJ m cp),eI n,jV b,qY i] [(1,BR cs (i*1) 1 160)] 2 z zn)))):ew prog gH jW QJ 116 (pP (tb 4 m cp) n b i) z [(1,Kx cs i)] 2 zn 1 Q:=K1t hyp ((tA 1 (Tr.lp 3 116 Ro [] (lJ (tb 4 m cp) n b i 0) [(3,Kx cs i),(4,ES)] 5 z zn (Al.cons Unit Yx (fun(x:Unit)=>ax.mk ja [(0,tb 4 m cp),(1,iv n),jV b,(7,aX 3 i i),(8,iv i),(9,aX 4 n n)] [(3,Kx cs i),(4,zP rc n)] 5 z zn) (fun(x:Unit)=>tX (my.grow 1 [SL 4 n n]) (tO (dS i) (tE [(1,6)] [(zn,4,BR rc (n*1) 1 3)] [(0,fJ m cp),eI n,jV b,(7,SL 1 (i+1) (i+1)),Gk i] (UT cs zn n i) 2 (Gz z zn rc n) (zn+1)))) Al.nil))).fork (tA 1 (tE Yf [] [(0,fJ m cp),eI n,jV b,qY i] [(1,BR cs (i*1) 1 160)] 2 z zn)))
abbrev Oe:List (Nat × Nat):=[(3,3),(4,6)]
abbrev Kz:List Value:=[I 1099511627776]
abbrev zc(i:Nat):Nat × Value:=(7,SL 3 i i)
abbrev US(bl:ba):List (Nat × aa):=[(3,Y1 bl),(4,BR Kz 1 1 3)]
abbrev Gy:Value:=SL 4 0 0
abbrev Od:List (Nat × Nat):=[(3,3),(4,4)]
abbrev UR(bl:ba):List (Nat × aa):=[(3,Y1 bl),(4,BQ [] 0 1 3)]
theorem Wj(z:T aa)(zn n i m cp:Nat)(b:Bool)(bl:ba)(Q:QL)(hyp:Br (decide (0<(↑n:Int))) (E6 116 z zn (R7 (fJ m cp) (IV n) (gJ b) (SL 3 i i) (IV i) Og (I 1) (KO (aA Oe []) (Y1 bl)/\Rs (BR Kz 1 1 3)/\Q aN [(0,fJ m cp),eI n,jV b,zc i,(8,IV i),(9,SL 4 1 1),(10,I 1)] (US bl) 5 z zn))) (E6 116 z zn (R6 (fJ m cp) (IV n) (gJ b) (SL 3 i i) (IV i) Gy (KO (aA Od []) (Y1 bl)/\Rp/\Q ja [(0,fJ m cp),eI n,jV b,zc i,(8,IV i),(9,Gy)] (UR bl) 5 z zn)))):ew prog gH jW Oh 116 (lJ (tb 4 m cp) n b i 0) z [(3,Y1 bl),(4,ES)] 5 zn 3 Q:=K1t hyp ((tA 3 (tE Oe [] [(0,fJ m cp),eI n,jV b,zc i,(8,IV i),(9,SL 4 1 1),(10,I 1)] (US bl) 5 z zn)).fork (tA 1 (tE Od [] [(0,fJ m cp),eI n,jV b,zc i,(8,IV i),(9,Gy)] (UR bl) 5 z zn)))
abbrev UQ(bl:ba)(cs:List Value)(k:Nat):List (Nat × aa):=[(3,Y1 bl),(4,BR (cs++Kz) ((k+1)*1) 1 3)]
theorem Zx(z:T aa)(zn n i k m cp:Nat)(b:Bool)(bl:ba)(cs:List Value)(Q:QL)(hyp:Br (decide ((↑k:Int)<(↑n:Int))) (Rs Kz/\Rf k/\cs.length=k*1/\Rf (k*1)/\k+1<=1048576/\ZV (IntKind.i64.wrap ((↑k:Int)+1))=IV (k+1)/\E6 116 z zn (R7 (fJ m cp) (IV n) (gJ b) (SL 3 i i) (IV i) (Of k) (IV (k+1)) (K2 (aA Oe []) (Y1 bl) (BR (cs++Kz) ((k+1)*1) 1 3) (Q aN [(0,fJ m cp),eI n,jV b,zc i,(8,IV i),(9,SL 4 (k+1) (k+1)),(10,IV (k+1))] (UQ bl cs k) 5 z zn)))) (E6 116 z zn (R6 (fJ m cp) (IV n) (gJ b) (SL 3 i i) (IV i) (SL 4 k k) (K2 (aA Od []) (Y1 bl) (BR cs (k*1) 1 3) (Q ja [(0,fJ m cp),eI n,jV b,zc i,(8,IV i),(9,SL 4 k k)] [(3,Y1 bl),(4,BR cs (k*1) 1 3)] 5 z zn))))):ew prog gH jW Oh 116 (lJ (tb 4 m cp) n b i k) z [(3,Y1 bl),(4,zP cs k)] 5 zn 3 Q:=K1t hyp ((tA 1 (tX (my.grow 1 Kz) (tO (dS k) (tE Oe [] [(0,fJ m cp),eI n,jV b,zc i,(8,IV i),(9,SL 4 (k+1) (k+1)),(10,IV (k+1))] (UQ bl cs k) 5 z zn)))).fork (tA 1 (tE Od [] [(0,fJ m cp),eI n,jV b,zc i,(8,IV i),(9,SL 4 k k)] [(3,Y1 bl),(4,BR cs (k*1) 1 3)] 5 z zn)))
theorem NO(z:T aa)(zn n:Nat)(b:Bool)(rc:List Value)(Q:QL)(hyp:Br (decide (0<(↑n:Int))) (Yg/\ai prog Oh 3 116 (lJ az n b 0 0) UX 5 z zn (alt True (ax.mk ja [(0,az),(1,iv n),jV b,(7,aX 3 0 0),(8,iv 0),(9,aX 4 n n)] [(3,FJ),(4,zP rc n)] 5 z zn) Al.nil).R/\E6 116 z zn (R7 Yk (IV n) (gJ b) KA YM (SL 2 0 0) YM (Rq/\Rp/\ ∀(x:Unit),True->E3 116 (Rf (Gz z zn rc n)/\zn.le (zn+1)/\ay z zn/\zn<=zn/\zn<zn+1/\UW zn rc n/\R5 Yk (IV n) (gJ b) Og (I 1) (YHR zn rc n/\Q aN [(0,Yk),eI n,jV b,(7,SL 1 1 1),(8,I 1)] [(1,BR [eJ zn n] 1 1 160)] 2 (Gz z zn rc n) (zn+1)))))) (E6 116 z zn (R4 Yk (IV n) (gJ b) KA (Rq/\Q YO [(0,Yk),eI n,jV b,(7,KA)] UU 2 z zn)))):ew prog gH jW QJ 116 (pP az n b 0) z [(1,FJ)] 2 zn 1 Q:=K1t hyp ((tA 1 (Tr.lp 3 116 Ro [] (lJ az n b 0 0) UX 5 z zn (Al.cons Unit Yx (fun(x:Unit)=>ax.mk ja [(0,az),(1,iv n),jV b,(7,aX 3 0 0),(8,iv 0),(9,aX 4 n n)] [(3,FJ),(4,zP rc n)] 5 z zn) (fun(x:Unit)=>tA 2 (tE [(1,6)] [(zn,4,BR rc (n*1) 1 3)] [(0,Yk),eI n,jV b,(7,SL 1 1 1),(8,I 1)] [(1,BR [eJ zn n] 1 1 160)] 2 (Gz z zn rc n) (zn+1))) Al.nil))).fork (tA 1 (tE Yf [] [(0,Yk),eI n,jV b,(7,KA)] UU 2 z zn)))
theorem St(z:T aa)(zn n i:Nat)(b:Bool)(cs rc:List Value)(Q:QL)(hyp:Br (decide ((↑i:Int)<(↑n:Int))) (Yg/\ai prog Oh 3 116 (lJ az n b i 0) [(3,Kx cs i),(4,ES)] 5 z zn (alt True (ax.mk ja [(0,az),(1,iv n),jV b,(7,aX 3 i i),(8,iv i),(9,aX 4 n n)] [(3,Kx cs i),(4,zP rc n)] 5 z zn) Al.nil).R/\E6 116 z zn (R7 Yk (IV n) (gJ b) (cQ i) (IV i) (SL 2 0 0) YM (KO (aA Ro []) (BR cs (i*1) 1 160)/\Rp/\ ∀(x:Unit),True->Rs [SL 4 n n]/\Rf i/\cs.length=i*1/\Rf (i*1)/\i+1<=1048576/\ZV (IntKind.i64.wrap ((↑i:Int)+1))=IV (i+1)/\E3 116 (Rf (Gz z zn rc n)/\zn.le (zn+1)/\ay z zn/\zn<=zn/\zn<zn+1/\UW zn rc n/\R5 Yk (IV n) (gJ b) (Of i) (IV (i+1)) (YHV zn rc n cs i/\Q aN [(0,Yk),eI n,jV b,(7,SL 1 (i+1) (i+1)),Gk i] (UT cs zn n i) 2 (Gz z zn rc n) (zn+1)))))) (E6 116 z zn (R4 Yk (IV n) (gJ b) (cQ i) (KO (aA Yf []) (BR cs (i*1) 1 160)/\Q YO [(0,Yk),eI n,jV b,qY i] [(1,BR cs (i*1) 1 160)] 2 z zn)))):ew prog gH jW QJ 116 (pP az n b i) z [(1,Kx cs i)] 2 zn 1 Q:=K1t hyp ((tA 1 (Tr.lp 3 116 Ro [] (lJ az n b i 0) [(3,Kx cs i),(4,ES)] 5 z zn (Al.cons Unit Yx (fun(x:Unit)=>ax.mk ja [(0,az),(1,iv n),jV b,(7,aX 3 i i),(8,iv i),(9,aX 4 n n)] [(3,Kx cs i),(4,zP rc n)] 5 z zn) (fun(x:Unit)=>tX (my.grow 1 [SL 4 n n]) (tO (dS i) (tE [(1,6)] [(zn,4,BR rc (n*1) 1 3)] [(0,Yk),eI n,jV b,(7,SL 1 (i+1) (i+1)),Gk i] (UT cs zn n i) 2 (Gz z zn rc n) (zn+1)))) Al.nil))).fork (tA 1 (tE Yf [] [(0,Yk),eI n,jV b,qY i] [(1,BR cs (i*1) 1 160)] 2 z zn)))
theorem Sq(z:T aa)(zn n i:Nat)(b:Bool)(bl:ba)(Q:QL)(hyp:Br (decide (0<(↑n:Int))) (E6 116 z zn (R7 Yk (IV n) (gJ b) (SL 3 i i) (IV i) Og (I 1) (KO (aA Oe []) (Y1 bl)/\Rs (BR Kz 1 1 3)/\Q aN [(0,Yk),eI n,jV b,zc i,(8,IV i),(9,SL 4 1 1),(10,I 1)] (US bl) 5 z zn))) (E6 116 z zn (R6 Yk (IV n) (gJ b) (SL 3 i i) (IV i) Gy (KO (aA Od []) (Y1 bl)/\Rp/\Q ja [(0,Yk),eI n,jV b,zc i,(8,IV i),(9,Gy)] (UR bl) 5 z zn)))):ew prog gH jW Oh 116 (lJ az n b i 0) z [(3,Y1 bl),(4,ES)] 5 zn 3 Q:=K1t hyp ((tA 3 (tE Oe [] [(0,Yk),eI n,jV b,zc i,(8,IV i),(9,SL 4 1 1),(10,I 1)] (US bl) 5 z zn)).fork (tA 1 (tE Od [] [(0,Yk),eI n,jV b,zc i,(8,IV i),(9,Gy)] (UR bl) 5 z zn)))
theorem Sr(z:T aa)(zn n i k:Nat)(b:Bool)(bl:ba)(cs:List Value)(Q:QL)(hyp:Br (decide ((↑k:Int)<(↑n:Int))) (Rs Kz/\Rf k/\cs.length=k*1/\Rf (k*1)/\k+1<=1048576/\ZV (IntKind.i64.wrap ((↑k:Int)+1))=IV (k+1)/\E6 116 z zn (R7 Yk (IV n) (gJ b) (SL 3 i i) (IV i) (Of k) (IV (k+1)) (K2 (aA Oe []) (Y1 bl) (BR (cs++Kz) ((k+1)*1) 1 3) (Q aN [(0,Yk),eI n,jV b,zc i,(8,IV i),(9,SL 4 (k+1) (k+1)),(10,IV (k+1))] (UQ bl cs k) 5 z zn)))) (E6 116 z zn (R6 Yk (IV n) (gJ b) (SL 3 i i) (IV i) (SL 4 k k) (K2 (aA Od []) (Y1 bl) (BR cs (k*1) 1 3) (Q ja [(0,Yk),eI n,jV b,zc i,(8,IV i),(9,SL 4 k k)] [(3,Y1 bl),(4,BR cs (k*1) 1 3)] 5 z zn))))):ew prog gH jW Oh 116 (lJ az n b i k) z [(3,Y1 bl),(4,zP cs k)] 5 zn 3 Q:=K1t hyp ((tA 1 (tX (my.grow 1 Kz) (tO (dS k) (tE Oe [] [(0,Yk),eI n,jV b,zc i,(8,IV i),(9,SL 4 (k+1) (k+1)),(10,IV (k+1))] (UQ bl cs k) 5 z zn)))).fork (tA 1 (tE Od [] [(0,Yk),eI n,jV b,zc i,(8,IV i),(9,SL 4 k k)] [(3,Y1 bl),(4,BR cs (k*1) 1 3)] 5 z zn)))
abbrev ot(bl:ba)(nf kf n:Nat):Prop:=aE prog bl 160 (0+nf*1)=some (eJ kf n)
abbrev Nn(z:T aa)(kf:Nat)(cs:List Value)(kd:ba):T aa:=z.set kf (aa.aw (ba.mk cs kd.cap kd.jU kd.elem kd.exact kd.whole kd.bQ kd.own))
abbrev Ge(bl:ba):Prop:=KO (aA Yf []) (Y1 bl)
abbrev Rn(m cp n:Nat)(b:Bool)(i:Nat):List (Nat × Value):=[(0,fJ m cp),eI n,jV b,qY n,(11,IV (i+1))]
abbrev ni(bl:ba):List (Nat × aa):=[(1,Y1 bl)]
noncomputable abbrev UP:Code:=ah (ag f101) 2
theorem Zw(z:T aa)(zn m cp n i nf nt kf:Nat)(b:Bool)(bl kb kd:ba)(x:ae)(v w:Int)(cs:List Value)(Q:QL)(hyp:Br (decide ((↑i:Int)<(↑m:Int))) (Yz i/\i<m/\OI/\OH z kb/\Y4 kb i x/\Br x.sf (x.fz1=(↑nf:Int)/\nf<n/\ot bl nf kf n/\x.fz1=(↑nf:Int)/\nf<n/\ot bl nf kf n/\x.aq=(↑nt:Int)/\nt<n/\Y0 kf/\Y2 z kf kd/\ou kd nt v/\x.aq=(↑nt:Int)/\nt<n/\Y0 kf/\Y2 z kf kd/\kd.own=true/\kd.bQ=0/\overwrite kd.cells (0+nt*1) [ZV (if x.aK<v then x.aK else v)]=some cs/\cs.length<=kd.cap/\ZV (IntKind.i64.wrap ((↑i:Int)+1))=IV (i+1)/\E6 116 (Nn z kf cs kd) zn (R5 (fJ m cp) (IV n) (gJ b) (cQ n) (IV (i+1)) (Ge bl/\Q aN (Rn m cp n b i) (ni bl) 2 (Nn z kf cs kd) zn))) (Br (!b) (x.fz1=(↑nf:Int)/\nf<n/\ot bl nf kf n/\x.fz1=(↑nf:Int)/\nf<n/\ot bl nf kf n/\x.aq=(↑nt:Int)/\nt<n/\Y0 kf/\Y2 z kf kd/\ou kd nt v/\x.aq=(↑nt:Int)/\nt<n/\Y0 kf/\Y2 z kf kd/\kd.own=true/\kd.bQ=0/\overwrite kd.cells (0+nt*1) [ZV (if x.aK<v then x.aK else v)]=some cs/\cs.length<=kd.cap/\ZV (IntKind.i64.wrap ((↑i:Int)+1))=IV (i+1)/\E6 116 (Nn z kf cs kd) zn (R5 (fJ m cp) (IV n) (gJ b) (cQ n) (IV (i+1)) (Ge bl/\Q aN (Rn m cp n b i) (ni bl) 2 (Nn z kf cs kd) zn))) (ZV (IntKind.i64.wrap ((↑i:Int)+1))=IV (i+1)/\E6 116 z zn (R5 (fJ m cp) (IV n) (gJ b) (cQ n) (IV (i+1)) (Ge bl/\Q aN (Rn m cp n b i) (ni bl) 2 z zn))))) (E6 116 z zn (R2 (IV n) (cQ n) (Ge bl/\Q B0 [eI n,qY n] (ni bl) 2 z zn)))):ew prog gH jW UP 116 (Aw m cp n b i) z (ni bl) 2 zn 2 Q:=K1t hyp ((tA 1 (tO (Y9 i) (tO (OE kb x) (tA 1 ((tA 5 (tO (Y9 nf) (tO (nR kf n) (tA 2 (tO (Y9 nf) (tO (nR kf n) (tA 1 (tO (Y9 nt) (tO (pd kf kd v) (tA 2 (tO (Y9 nt) (tX (my.Rb kf kd cs) (tO (dS i) (tE Yf [] (Rn m cp n b i) (ni bl) 2 (Nn z kf cs kd) zn)))))))))))))).fork (tA 3 ((tA 1 (tO (Y9 nf) (tO (nR kf n) (tA 2 (tO (Y9 nf) (tO (nR kf n) (tA 1 (tO (Y9 nt) (tO (pd kf kd v) (tA 2 (tO (Y9 nt) (tX (my.Rb kf kd cs) (tO (dS i) (tE Yf [] (Rn m cp n b i) (ni bl) 2 (Nn z kf cs kd) zn)))))))))))))).fork (tO (dS i) (tE Yf [] (Rn m cp n b i) (ni bl) 2 z zn))))))))).fork (tA 1 (tE Yf [] [eI n,qY n] (ni bl) 2 z zn)))
noncomputable abbrev QI:Code:=ah (ag f101) 3
theorem Zt(z:T aa)(zn n k i j ki kk:Nat)(bl k1 k2:ba)(u v w x:Int)(cs:List Value)(Q:QL)(hyp:Br (decide ((↑j:Int)<(↑n:Int))) (Yz i/\i<n/\ot bl i ki n/\Yz i/\i<n/\ot bl i ki n/\Yz j/\j<n/\Y0 ki/\Y2 z ki k1/\ou k1 j u/\Yz i/\i<n/\ot bl i ki n/\Yz k/\k<n/\Y0 ki/\Y2 z ki k1/\ou k1 k v/\Yz k/\k<n/\ot bl k kk n/\Yz j/\j<n/\Y0 kk/\Y2 z kk k2/\ou k2 j w/\WQ1 (v+w)/\Yz j/\j<n/\Y0 ki/\Y2 z ki k1/\k1.own=true/\k1.bQ=0/\overwrite k1.cells (0+j*1) [ZV (if v+w<u then v+w else u)]=some cs/\cs.length<=k1.cap/\ZV (IntKind.i64.wrap ((↑j:Int)+1))=IV (j+1)/\E6 116 (Nn z ki cs k1) zn (R5 (IV n) (cQ n) (IV k) (IV i) (IV (j+1)) (Ge bl/\Q aN [eI n,qY n,(13,IV k),(14,IV i),(15,IV (j+1))] (ni bl) 2 (Nn z ki cs k1) zn))) (E6 116 z zn (R4 (IV n) (cQ n) (IV k) (IV i) (Ge bl/\Q (af.exit 10) [eI n,qY n,(13,IV k),(14,IV i)] (ni bl) 2 z zn)))):ew prog gH jW (ah (ah QI 0) 0) 116 (E8 n k i j) z (ni bl) 2 zn 2 Q:=K1t hyp ((tA 1 (tO (Y9 i) (tO (nR ki n) (tO (Y9 i) (tO (nR ki n) (tO (Y9 j) (tO (pd ki k1 u) (tO (Y9 i) (tO (nR ki n) (tO (Y9 k) (tO (pd ki k1 v) (tO (Y9 k) (tO (nR kk n) (tO (Y9 j) (tO (pd kk k2 w) (tO (An.val (ZV (v+w))) (tA 1 (tO (Y9 j) (tX (my.Rb ki k1 cs) (tO (dS j) (tE Yf [] [eI n,qY n,(13,IV k),(14,IV i),(15,IV (j+1))] (ni bl) 2 (Nn z ki cs k1) zn))))))))))))))))))))).fork (tA 1 (tE Yf [] [eI n,qY n,(13,IV k),(14,IV i)] (ni bl) 2 z zn)))
noncomputable abbrev Uc:T aa->Tr:=fun(x:T aa)=>eO
theorem Zu(z:T aa)(zn n k i:Nat)(bl:ba)(φ:T aa->Prop)(Q:QL)(hyp:Br (decide ((↑i:Int)<(↑n:Int))) (sZ/\ai prog (ah (ah QI 0) 0) 2 116 (E8 n k i 0) (ni bl) 2 z zn (Al.cons (T aa) φ (fun(z:T aa)=>ax.mk (af.exit 10) (yi n k i) (ni bl) 2 z zn) Uc Al.nil).R/\E6 116 z zn (R5 (IV n) (cQ n) (IV k) (IV i) YM (Ge bl/\ ∀(x:T aa),φ x->ZV (IntKind.i64.wrap ((↑i:Int)+1))=IV (i+1)/\E6 116 x zn (R4 (IV n) (cQ n) (IV k) (IV (i+1)) (Ge bl/\Q aN [eI n,qY n,(13,IV k),(14,IV (i+1))] (ni bl) 2 x zn))))) (E6 116 z zn (R3 (IV n) (cQ n) (IV k) (Ge bl/\Q (af.exit 8) [eI n,qY n,(13,IV k)] (ni bl) 2 z zn)))):ew prog gH jW (ah QI 0) 116 (yi n k i) z (ni bl) 2 zn 2 Q:=K1t hyp ((tA 1 (Tr.lp 2 116 Yf [] (E8 n k i 0) (ni bl) 2 z zn (Al.cons (T aa) φ (fun(z:T aa)=>ax.mk (af.exit 10) (yi n k i) (ni bl) 2 z zn) (fun(x:T aa)=>tO (dS i) (tE Yf [] [eI n,qY n,(13,IV k),(14,IV (i+1))] (ni bl) 2 x zn)) Al.nil))).fork (tA 1 (tE Yf [] [eI n,qY n,(13,IV k)] (ni bl) 2 z zn)))
theorem Zv(z:T aa)(zn n k:Nat)(bl:ba)(φ:T aa->Prop)(Q:QL)(hyp:Br (decide ((↑k:Int)<(↑n:Int))) (sZ/\ai prog (ah QI 0) 2 116 (yi n k 0) (ni bl) 2 z zn (Al.cons (T aa) φ (fun(z:T aa)=>ax.mk (af.exit 8) (qQ n k) (ni bl) 2 z zn) Uc Al.nil).R/\E6 116 z zn (R4 (IV n) (cQ n) (IV k) YM (Ge bl/\ ∀(x:T aa),φ x->ZV (IntKind.i64.wrap ((↑k:Int)+1))=IV (k+1)/\E6 116 x zn (R3 (IV n) (cQ n) (IV (k+1)) (Ge bl/\Q aN [eI n,qY n,(13,IV (k+1))] (ni bl) 2 x zn))))) (E6 116 z zn (Rs (cQ n)/\Ge bl/\Q (af.exit 6) [qY n] (ni bl) 2 z zn))):ew prog gH jW QI 116 (qQ n k) z (ni bl) 2 zn 2 Q:=K1t hyp ((tA 1 (Tr.lp 2 116 Yf [] (yi n k 0) (ni bl) 2 z zn (Al.cons (T aa) φ (fun(z:T aa)=>ax.mk (af.exit 8) (qQ n k) (ni bl) 2 z zn) (fun(x:T aa)=>tO (dS k) (tE Yf [] [eI n,qY n,(13,IV (k+1))] (ni bl) 2 x zn)) Al.nil))).fork (tA 1 (tE Yf [] [qY n] (ni bl) 2 z zn)))
abbrev kI(s:dy):aa:=aa.aw s.bl
noncomputable abbrev YHo(m cp n:Nat)(b:Bool)(s:dy):ax:=ax.mk YO [(0,tb 4 m cp),(1,iv n),jV b,(7,aX 1 n n)] [(1,kI s)] 2 s.z s.zn
noncomputable abbrev YHp(n:Nat)(x:dy)(z:T aa):ax:=ax.mk B0 [(1,iv n),(7,aX 1 n n)] [(1,kI x)] 2 z x.zn
abbrev UO(x:dy):Prop:=KO (aA Yf []) (kI x)
noncomputable abbrev YHr(n:Nat)(x:dy)(z:T aa):ax:=ax.mk (af.exit 6) [(7,aX 1 n n)] [(1,kI x)] 2 z x.zn
noncomputable abbrev UN(n:Nat)(x:dy):T aa->ax:=fun(z:T aa)=>YHr n x z
noncomputable abbrev YHt(n:Nat)(x:dy):T aa->Tr:=fun(x_2:T aa)=>tR [(0,1)] [] (ep n) [(0,kI x)] 1 x_2 x.zn
theorem rs(z:T aa)(zn m cp n:Nat)(b:Bool)(φ:dy->Prop)(ψ:dy->T aa->Prop)(χ:dy->T aa->T aa->Prop)(Q:QF)(hyp:YP/\ai prog QJ 1 116 (pP (tb 4 m cp) n b 0) [(1,FJ)] 2 z zn (Al.cons dy φ (fun(s:dy)=>YHo m cp n b s) (fun(x:dy)=>eO) Al.nil).R/\E6 116 z zn (R5 (fJ m cp) (IV n) (gJ b) (SL 0 0 0) YM (Rq/\ ∀(x:dy),φ x->sZ/\ai prog UP 2 116 (Aw m cp n b 0) [(1,kI x)] 2 x.z x.zn (Al.cons (T aa) (ψ x) (fun(z:T aa)=>YHp n x z) Uc Al.nil).R/\E6 116 x.z x.zn (R5 (fJ m cp) (IV n) (gJ b) (cQ n) YM (UO x/\ ∀(x_1:T aa),ψ x x_1->sZ/\ai prog QI 2 116 (qQ n 0) [(1,kI x)] 2 x_1 x.zn (Al.cons (T aa) (χ x x_1) (UN n x) Uc Al.nil).R/\E6 116 x_1 x.zn (R3 (IV n) (cQ n) YM (UO x/\ ∀(x_2:T aa),χ x x_1 x_2->E6 116 x_2 x.zn (KO (aA [(0,1)] []) (kI x)/\Rs (cQ n)/\Q (ep n) [(0,kI x)] 1 x_2 x.zn)))))))):ed prog gH jW f101 [tb 4 m cp,iv n,gJ b] z [] 0 zn Q:=K1t hyp (Tr.lp 1 116 BJ [] (pP (tb 4 m cp) n b 0) [(1,FJ)] 2 z zn (Al.cons dy φ (fun(s:dy)=>ax.mk YO [(0,tb 4 m cp),(1,iv n),jV b,(7,aX 1 n n)] [(1,kI s)] 2 s.z s.zn) (fun(x:dy)=>Tr.lp 2 116 Yf [] (Aw m cp n b 0) [(1,kI x)] 2 x.z x.zn (Al.cons (T aa) (ψ x) (fun(z:T aa)=>ax.mk B0 [(1,iv n),(7,aX 1 n n)] [(1,kI x)] 2 z x.zn) (fun(x_1:T aa)=>Tr.lp 2 116 Yf [] (qQ n 0) [(1,kI x)] 2 x_1 x.zn (Al.cons (T aa) (χ x x_1) (UN n x) (YHt n x) Al.nil)) Al.nil)) Al.nil))
theorem Wi(z:T aa)(zn n i:Nat)(b:Bool)(bl:ba)(Q:QL)(hyp:E6 116 z zn (R2 (IV n) (cQ n) (Ge bl/\Q B0 [eI n,qY n] (ni bl) 2 z zn))):ew prog gH jW UP 116 (wL n b 0) z (ni bl) 2 zn 2 Q:=K1t hyp (tA 2 (tE Yf [] [eI n,qY n] (ni bl) 2 z zn))
noncomputable abbrev YHu(n:Nat)(b:Bool)(s:dy):ax:=ax.mk YO [(0,az),(1,iv n),jV b,(7,aX 1 n n)] [(1,kI s)] 2 s.z s.zn
theorem rsn(z:T aa)(zn n:Nat)(b:Bool)(φ:dy->Prop)(χ:dy->T aa->Prop)(Q:QF)(hyp:YP/\ai prog QJ 1 116 (pP az n b 0) [(1,FJ)] 2 z zn (Al.cons dy φ (fun(s:dy)=>YHu n b s) (fun(x:dy)=>eO) Al.nil).R/\E6 116 z zn (R5 Yk (IV n) (gJ b) (SL 0 0 0) YM (Rq/\ ∀(x:dy),φ x->sZ/\ai prog UP 2 116 (wL n b 0) [(1,kI x)] 2 x.z x.zn (alt True (ax.mk B0 [(1,iv n),(7,aX 1 n n)] [(1,kI x)] 2 x.z x.zn) Al.nil).R/\E6 116 x.z x.zn (R5 Yk (IV n) (gJ b) (cQ n) YM (UO x/\ ∀(x_1:Unit),True->sZ/\ai prog QI 2 116 (qQ n 0) [(1,kI x)] 2 x.z x.zn (Al.cons (T aa) (χ x) (UN n x) Uc Al.nil).R/\E6 116 x.z x.zn (R3 (IV n) (cQ n) YM (UO x/\ ∀(x_2:T aa),χ x x_2->E6 116 x_2 x.zn (KO (aA [(0,1)] []) (kI x)/\Rs (cQ n)/\Q (ep n) [(0,kI x)] 1 x_2 x.zn)))))))):ed prog gH jW f101 [az,iv n,gJ b] z [] 0 zn Q:=K1t hyp (Tr.lp 1 116 BJ [] (pP az n b 0) [(1,FJ)] 2 z zn (Al.cons dy φ (fun(s:dy)=>ax.mk YO [(0,az),(1,iv n),jV b,(7,aX 1 n n)] [(1,kI s)] 2 s.z s.zn) (fun(x:dy)=>Tr.lp 2 116 Yf [] (wL n b 0) [(1,kI x)] 2 x.z x.zn (Al.cons Unit Yx (fun(x_1:Unit)=>ax.mk B0 [(1,iv n),(7,aX 1 n n)] [(1,kI x)] 2 x.z x.zn) (fun(x_1:Unit)=>Tr.lp 2 116 Yf [] (qQ n 0) [(1,kI x)] 2 x.z x.zn (Al.cons (T aa) (χ x) (UN n x) (YHt n x) Al.nil)) Al.nil)) Al.nil))
end
end Go.Proofs.Nw
namespace Go.Proofs.Nw
open Go Go.AV Tryz Go.jo
set_option maxHeartbeats 1000000
set_option maxRecDepth 100000
def Uv(pv:Value):Prop:=(∃m cp,pv=tb 4 m cp)\/pv=az
def eY(k:Nat):List Value:=List.replicate k (I 1099511627776)
theorem Bw(k:Nat):(eY k).length=k:=by simp[eY]
theorem xF(k:Nat):eY (k+1)=eY k++[I 1099511627776]:=by simp[eY,List.replicate_succ']
theorem tZ(k:Nat):bE (eY k)=true:=by
 rw[cU];intro v hv;rw[(List.mem_replicate.1 hv).2];rfl
theorem jJ(σ:Nat->Option Nat)(k c:Nat)(x y:Bool):aI σ (.aw (ba.mk (eY k) c 1 3 x y 0 true))=some (.aw (ba.mk (eY k) c 1 3 x y 0 true)):=cR (tZ k)
abbrev zO(cs:List Value)(n:Nat):ba:=⟨cs,n*1,1,3,false,false,0,true⟩
abbrev Ri(cs:List Value)(k:Nat):ba:=⟨cs,k*1,1,160,false,false,0,true⟩
def dO(b n i:Nat):ba:=if i=0 then ⟨[],0,1,160,true,true,0,true⟩ else Ri (mf b n i) i
section
variable{z:T aa}{zn:Nat}
theorem Il(hz:ay z zn)(pv:Value)(hp:Uv pv)(n:Nat)(h0:0<n)(hn:n<=64)(b:Bool)(i:Nat)(bl:ba)(hbl: ∀σ,aI (aA ((3,3)::σ) []) (.aw bl)=some (.aw bl)):
 ai prog (ah (ah (ag f101) 0) 0) 3 116 (lJ pv n b i 0) [(3, .aw bl),(4,ES)] 5 z zn (Al.R (PD z zn pv n b i (.aw bl) (eY n)).l):=by
 refine an hD (cS T.leaf) (α:=Nat) 3 116 5 (fun k=>k<=n) (fun k=>lJ pv n b i k) (fun k=>[(3, .aw bl),(4,if k=0 then ES else zP (eY k) k)]) (fun _=>z) (fun _=>zn) (fun k=>n - k) _ (fun k hk=>?_) 0 (Nat.zero_le _)
 have nx: ∀k',k'=k+1->k<n->ak (fun k=>k<=n) (fun k=>lJ pv n b i k) (fun k=>[(3, .aw bl),(4,if k=0 then ES else zP (eY k) k)]) 5 (fun _=>z) (fun _=>zn) (fun k=>n - k) (Al.R (PD z zn pv n b i (.aw bl) (eY n)).l) k .normal (lJ pv n b i k') [(3, .aw bl),(4,zP (eY k') k')] 5 z zn:=fun k' e h=>by
  subst e
  exact⟨k+1,rfl,by show _=[(3,aa.aw bl),(4,if k+1=0 then ES else zP (eY (k+1)) (k+1))];rw[if_neg (Nat.succ_ne_zero _)],rfl,rfl,rfl,h,by show n - (k+1)<n - k;omega⟩
 by_cases hk0:k=0
 ·subst hk0
  have hc:decide ((0:Int)<(n:Int))=true:=by simp;omega
  rw[if_pos rfl]
  rcases hp with ⟨m,cp,rfl⟩|rfl
  ·refine t100 (Wj z zn n i m cp b bl (ak _ _ _ _ _ _ _ _ _) ⟨fun _=>?_,nC1 hc⟩)
   (repeat' first|(with_reducible first|exact rfl|assumption|apply And.intro|exact hbl _))
   exact nx 1 rfl h0
  ·refine t100 (Sq z zn n i b bl (ak _ _ _ _ _ _ _ _ _) ⟨fun _=>?_,nC1 hc⟩)
   (repeat' first|(with_reducible first|exact rfl|assumption|apply And.intro|exact hbl _))
   exact nx 1 rfl h0
 ·rw[if_neg hk0]
  by_cases hlt:k<n
  ·have hc:decide ((k:Int)<(n:Int))=true:=by simp;omega
   have hr: ∀σ c x y,aI σ (.aw (ba.mk (eY k++[I 1099511627776]) c 1 3 x y 0 true))=some (.aw (ba.mk (eY k++[I 1099511627776]) c 1 3 x y 0 true)):=fun σ c x y=>by rw[←xF];exact jJ _ _ _ _ _
   have eT:ak (fun k=>k<=n) (fun k=>lJ pv n b i k) (fun k=>[(3, .aw bl),(4,if k=0 then ES else zP (eY k) k)]) 5 (fun _=>z) (fun _=>zn) (fun k=>n - k) (Al.R (PD z zn pv n b i (.aw bl) (eY n)).l) k .normal (lJ pv n b i (k+1)) [(3, .aw bl),(4,zP (eY k++[I 1099511627776]) (k+1))] 5 z zn:=by
    rw[←xF];exact nx (k+1) rfl hlt
   rcases hp with ⟨m,cp,rfl⟩|rfl
   ·refine t100 (Zx z zn n i k m cp b bl (eY k) (ak _ _ _ _ _ _ _ _ _) ⟨fun _=>?_,nC1 hc⟩)
    (repeat' first|(with_reducible first|exact rfl|assumption|apply And.intro|exact hbl _|exact hr _ _ _ _|exact(by rw[Bw,Nat.mul_one]:(eY k).length=k*1)|exact(by omega:k+1<=1048576)|exact bP (by omega)))
    exact eT
   ·refine t100 (Sr z zn n i k b bl (eY k) (ak _ _ _ _ _ _ _ _ _) ⟨fun _=>?_,nC1 hc⟩)
    (repeat' first|(with_reducible first|exact rfl|assumption|apply And.intro|exact hbl _|exact hr _ _ _ _|exact(by rw[Bw,Nat.mul_one]:(eY k).length=k*1)|exact(by omega:k+1<=1048576)|exact bP (by omega)))
    exact eT
  ·have hc:decide ((k:Int)<(n:Int))=false:=by simp;omega
   have:k=n:=by omega
   subst this
   rcases hp with ⟨m,cp,rfl⟩|rfl
   ·refine t100 (Zx z zn k i k m cp b bl (eY k) (ak _ _ _ _ _ _ _ _ _) ⟨nC1 hc,fun _=>?_⟩)
    (repeat' first|(with_reducible first|exact rfl|assumption|apply And.intro|exact hbl _|exact jJ _ _ _ _ _))
    exact bD trivial
   ·refine t100 (Sr z zn k i k b bl (eY k) (ak _ _ _ _ _ _ _ _ _) ⟨nC1 hc,fun _=>?_⟩)
    (repeat' first|(with_reducible first|exact rfl|assumption|apply And.intro|exact hbl _|exact jJ _ _ _ _ _))
    exact bD trivial
structure jn(z0:T aa)(n0 n i:Nat)(s:dy):Prop where
 bQ:ay s.z s.zn
 zn:s.zn=n0+i
 iL: ∀k,k<n0->s.z.get k=z0.get k
 row: ∀j,j<i->s.z.get (n0+j)=some (.aw (zO (eY n) n))
 bl:s.bl=dO n0 n i
theorem tP{σ:bu}(b n i c:Nat):aI (aA σ []) (.aw (ba.mk (mf b n i) c 1 160 false false 0 true))=some (.aw (ba.mk (mf b n i) c 1 160 false false 0 true)):=by
 have:=pC (σ:=aA σ []) (b:=b) (n:=n) (i:=i) fun j _=>Dv σ _
 simp only[aI,this]
theorem dA{σ:bu}(b n i:Nat):aI (aA σ []) (.aw (dO b n i))=some (.aw (dO b n i)):=by
 unfold dO
 split
 ·rfl
 ·exact tP _ _ _ _
theorem IL{z0:T aa}{n0 n i:Nat}{z:T aa}(h:jn z0 n0 n i ⟨dO n0 n i,z,n0+i⟩):jn z0 n0 n (i+1) ⟨Ri (mf n0 n i++[tb (n0+i) n n]) (i+1),z.set (n0+i) (.aw (zO (eY n) n)),n0+i+1⟩:=by
 have hz:ay z (n0+i):=h.bQ
 refine⟨jz hz (tZ n),rfl,fun k hk=>?_,fun j hj=>?_,?_⟩
 ·show(z.set (n0+i) _).get k=_
  rw[T.aP,if_neg (by omega)];exact h.iL k hk
 ·show(z.set (n0+i) _).get (n0+j)=_
  rw[T.aP]
  by_cases e:j=i
  ·subst e;rw[if_pos rfl]
  ·rw[if_neg (by omega)];exact h.row j (by omega)
 ·show _=dO n0 n (i+1)
  unfold dO
  rw[if_neg (Nat.succ_ne_zero _),pj]
theorem AK(z0:T aa)(n0:Nat)(hz0:ay z0 n0)(h5:5<=n0)(pv:Value)(hp:Uv pv)(n:Nat)(hn:n<=64)(b:Bool):
 ai prog (ah (ag f101) 0) 1 116 (pP pv n b 0) [(1,FJ)] 2 z0 n0 (Al.R (PE z0 n0 pv n b (jn z0 n0 n n)).l):=by
 refine an hD (cS T.leaf) (α:=Nat × T aa) 1 116 2 (fun t=>t.1<=n/\jn z0 n0 n t.1 ⟨dO n0 n t.1,t.2,n0+t.1⟩) (fun t=>pP pv n b t.1) (fun t=>[(1, .aw (dO n0 n t.1))]) (fun t=>t.2) (fun t=>n0+t.1) (fun t=>n - t.1) _ (fun t hI=>?_) (0,z0) ⟨Nat.zero_le _,hz0,rfl,fun _ _=>rfl,fun j hj=>absurd hj (Nat.not_lt_zero _),rfl⟩
 obtain⟨i,z⟩:=t
 obtain⟨hi,hs⟩:=hI
 simp only at hi hs ⊢
 have hz:ay z (n0+i):=hs.bQ
 have rX: ∀σ,aI (aA ((3,3)::σ) []) (.aw (dO n0 n i))=some (.aw (dO n0 n i)):=fun σ=>dA _ _ _
 have rT: ∀{σ:bu} {o:aa} {m cp:Nat},aW (aA σ [(n0+i,4,o)]) (tb 4 m cp)=some (tb 4 m cp):=fun {σ o m cp}=>by
  simp only[aW,ny (σ:=σ) (c:=4) (o:=o) (show 4≠n0+i by omega)]
 have rR: ∀σ o,aI (aA σ [(n0+i,4,o)]) (.aw (ba.mk (mf n0 n i++[tb (n0+i) n n]) ((i+1)*1) 1 160 false false 0 true))=some (.aw (ba.mk (mf n0 n i++[aX 4 n n]) ((i+1)*1) 1 160 false false 0 true)):=fun σ o=>by
  have q1:=pC (σ:=aA σ [(n0+i,4,o)]) (b:=n0) (n:=n) (i:=i) fun j hj=>ny (by omega)
  have q2:bz (aA σ [(n0+i,4,o)]) [tb (n0+i) n n]=some [aX 4 n n]:=by
   have:=pD (σ:=σ) (k:=n0+i) (c:=4) (n:=n) (m:=n) (o:=o)
   simp only[bz,this]
  simp only[aI,mG q1 q2]
 by_cases hlt:i<n
 ·have nx:ak (fun t:Nat × T aa=>t.1<=n/\jn z0 n0 n t.1 ⟨dO n0 n t.1,t.2,n0+t.1⟩) (fun t=>pP pv n b t.1) (fun t=>[(1, .aw (dO n0 n t.1))]) 2 (fun t=>t.2) (fun t=>n0+t.1) (fun t=>n - t.1) (Al.R (PE z0 n0 pv n b (jn z0 n0 n n)).l) (i,z) .normal (pP pv n b (i+1)) [(1, .aw (Ri (mf n0 n i++[tb (n0+i) n n]) (i+1)))] 2 (z.set (n0+i) (.aw (zO (eY n) n))) (n0+i+1):=by
   have e:dO n0 n (i+1)=Ri (mf n0 n i++[tb (n0+i) n n]) (i+1):=by
    unfold dO;rw[if_neg (Nat.succ_ne_zero _),pj]
   refine⟨(i+1,z.set (n0+i) (.aw (zO (eY n) n))),rfl,?_,rfl,rfl,rfl,⟨hlt,?_⟩,by show n - (i+1)<n - i;omega⟩
   ·show _=[(1,aa.aw (dO n0 n (i+1)))]
    rw[e]
   ·have:=IL hs
    rw[←e] at this;exact this
  have hl1:=Il hz pv hp n (by omega) hn b i (dO n0 n i) rX
  by_cases hi0:i=0
  ·subst hi0
   have hc:decide ((0:Int)<(n:Int))=true:=by simp;omega
   rw[show dO n0 n 0=⟨[],0,1,160,true,true,0,true⟩ from rfl] at hl1 ⊢
   have rR':=fun σ o=>rR σ o
   rcases hp with ⟨m,cp,rfl⟩|rfl
   ·refine t100 (Ss z (n0+0) n m cp b (eY n) (ak _ _ _ _ _ _ _ _ _) ⟨fun _=>?_,nC1 hc⟩)
    (repeat' first|(with_reducible first|exact rfl|assumption|apply And.intro|exact rT|exact jJ _ _ _ _ _|exact Nat.le_refl _|exact Nat.lt_succ_self _)|exact hl1|exact rR _ _|exact Nat.le_succ _|intro hq)
    exact nx
   ·refine t100 (NO z (n0+0) n b (eY n) (ak _ _ _ _ _ _ _ _ _) ⟨fun _=>?_,nC1 hc⟩)
    (repeat' first|(with_reducible first|exact rfl|assumption|apply And.intro|exact jJ _ _ _ _ _|exact Nat.le_refl _|exact Nat.lt_succ_self _)|exact hl1|exact rR _ _|exact Nat.le_succ _|intro hq)
    exact nx
  ·have hc:decide ((i:Int)<(n:Int))=true:=by simp;omega
   have eX:dO n0 n i=Ri (mf n0 n i) i:=by unfold dO;rw[if_neg hi0]
   rw[eX] at hl1 ⊢
   rcases hp with ⟨m,cp,rfl⟩|rfl
   ·refine t100 (Zy z (n0+i) n i m cp b (mf n0 n i) (eY n) (ak _ _ _ _ _ _ _ _ _) ⟨fun _=>?_,nC1 hc⟩)
    (repeat' first|(with_reducible first|exact rfl|assumption|apply And.intro|exact rT|exact rR _ _|exact tP _ _ _ _|exact jJ _ _ _ _ _|exact(by rw[pn,Nat.mul_one]:(mf n0 n i).length=i*1)|exact(by omega:i+1<=1048576)|exact bP (by omega)|exact Nat.le_refl _|exact Nat.lt_succ_self _)|exact hl1|exact Nat.le_succ _|intro hq)
    exact nx
   ·refine t100 (St z (n0+i) n i b (mf n0 n i) (eY n) (ak _ _ _ _ _ _ _ _ _) ⟨fun _=>?_,nC1 hc⟩)
    (repeat' first|(with_reducible first|exact rfl|assumption|apply And.intro|exact rR _ _|exact tP _ _ _ _|exact jJ _ _ _ _ _|exact(by rw[pn,Nat.mul_one]:(mf n0 n i).length=i*1)|exact(by omega:i+1<=1048576)|exact bP (by omega)|exact Nat.le_refl _|exact Nat.lt_succ_self _)|exact hl1|exact Nat.le_succ _|intro hq)
    exact nx
 ·have hin:i=n:=by omega
  subst hin
  have hc:decide ((i:Int)<(i:Int))=false:=by simp
  have fin:ak (fun t:Nat × T aa=>t.1<=i/\jn z0 n0 i t.1 ⟨dO n0 i t.1,t.2,n0+t.1⟩) (fun t=>pP pv i b t.1) (fun t=>[(1, .aw (dO n0 i t.1))]) 2 (fun t=>t.2) (fun t=>n0+t.1) (fun t=>i - t.1) (Al.R (PE z0 n0 pv i b (jn z0 n0 i i)).l) (i,z) (.exit 0) [(0,pv),(1,iv i),(2, .bool b),(7,aX 1 i i)] [(1, .aw (dO n0 i i))] 2 z (n0+i):=
   De (k:=fun _=>eO) (⟨dO n0 i i,z,n0+i⟩:dy) hs rfl
  by_cases hi0:i=0
  ·subst hi0
   have hc:decide ((0:Int)<((0:Nat):Int))=false:=by simp
   rcases hp with ⟨m,cp,rfl⟩|rfl
   ·refine t100 (Ss z (n0+0) 0 m cp b (eY 0) (ak _ _ _ _ _ _ _ _ _) ⟨nC1 hc,fun _=>?_⟩)
    (repeat' first|(with_reducible first|exact rfl|assumption|apply And.intro))
    exact fin
   ·refine t100 (NO z (n0+0) 0 b (eY 0) (ak _ _ _ _ _ _ _ _ _) ⟨nC1 hc,fun _=>?_⟩)
    (repeat' first|(with_reducible first|exact rfl|assumption|apply And.intro))
    exact fin
  ·have eX:dO n0 i i=Ri (mf n0 i i) i:=by unfold dO;rw[if_neg hi0]
   rw[eX] at fin ⊢
   rcases hp with ⟨m,cp,rfl⟩|rfl
   ·refine t100 (Zy z (n0+i) i i m cp b (mf n0 i i) (eY i) (ak _ _ _ _ _ _ _ _ _) ⟨nC1 hc,fun _=>?_⟩)
    (repeat' first|(with_reducible first|exact rfl|assumption|apply And.intro|exact tP _ _ _ _))
   ·refine t100 (St z (n0+i) i i b (mf n0 i i) (eY i) (ak _ _ _ _ _ _ _ _ _) ⟨nC1 hc,fun _=>?_⟩)
    (repeat' first|(with_reducible first|exact rfl|assumption|apply And.intro|exact tP _ _ _ _))
end
structure Gn(z0:T aa)(n0 n:Nat)(z:T aa)(M:Nat->Nat->Int):Prop where
 bQ:ay z (n0+n)
 iL: ∀k,k<n0->z.get k=z0.get k
 row: ∀i,i<n-> ∃l:List Int,z.get (n0+i)=some (.aw (zO (l.map zv) n))/\l.length=n/\ ∀j,j<n->l[j]? =some (M i j)
abbrev lS:Nat:=1099511627776
structure BM(n:Nat)(M:Nat->Nat->Int):Prop where
 le: ∀i j,i<n->j<n->M i j<=(lS:Int)
theorem pM{z0:T aa}{n0 n:Nat}{z:T aa}{M:Nat->Nat->Int}(h:Gn z0 n0 n z M){i j:Nat}(hi:i<n)(hj:j<n){l:List Int}(hl: ∀j,j<n->l[j]? =some (M i j)):aE prog (zO (l.map zv) n) 3 (0+j*1)=some (zv (M i j)):=
 ju (d:=_) underlying3 rfl (by show(l.map zv)[j]? =_;rw[List.getElem?_map,hl j hj];rfl)
theorem Hr(l:List Int):bE (l.map zv)=true:=by
 rw[cU];intro v hv
 obtain⟨x,_,rfl⟩:=List.mem_map.1 hv;rfl
theorem D0{z0:T aa}{n0 n:Nat}{z:T aa}{M:Nat->Nat->Int}(h:Gn z0 n0 n z M){i j:Nat}(hi:i<n)(hj:j<n){l:List Int}(hll:l.length=n)(hl: ∀j,j<n->l[j]? =some (M i j))(w:Int):Gn z0 n0 n (z.set (n0+i) (.aw (zO ((l.set j w).map zv) n))) (n9 M i j w):=by
 refine⟨A3 h.bQ (by omega) fun σ _=>cR (Hr _),fun k hk=>?_,fun a ha=>?_⟩
 ·rw[T.aP,if_neg (by omega)];exact h.iL k hk
 ·by_cases e:a=i
  ·subst e
   refine⟨l.set j w,by rw[T.aP,if_pos rfl],by rw[List.length_set,hll],fun b hb=>?_⟩
   rw[List.getElem?_set]
   unfold n9
   by_cases e2:j=b
   ·subst e2;rw[if_pos rfl,if_pos (by omega),if_pos ⟨rfl,rfl⟩]
   ·rw[if_neg e2,if_neg (fun h=>e2 h.2.symm)];exact hl b hb
  ·obtain⟨l',k1,k2,k3⟩:=h.row a ha
   refine⟨l',by rw[T.aP,if_neg (by omega)];exact k1,k2,fun b hb=>?_⟩
   unfold n9
   rw[if_neg (fun h=>e h.1)];exact k3 b hb
theorem FI(b n i:Nat):(dO b n i).cells=mf b n i:=by
 unfold dO
 split
 ·rename_i e;subst e;rfl
 ·rfl
theorem O3{b n m i:Nat}(h:i<m):(mf b n m)[i]? =some (tb (b+i) n n):=by
 unfold mf
 rw[List.getElem?_map,List.getElem?_range h];rfl
theorem qc{b n i:Nat}(h:i<n):aE prog (dO b n n) 160 (0+i*1)=some (tb (b+i) n n):=ju underlying160 rfl (by rw[FI];exact O3 h)
theorem QB{n:Nat}{M:Nat->Nat->Int}(h:BM n M)(i j:Nat){w:Int}(hw:w<=(lS:Int)):BM n (n9 M i j w):=⟨fun a b ha hb=>by
 unfold n9;split
 ·exact hw
 ·exact h.le a b ha hb⟩
section
variable{z0:T aa}{n0:Nat}
def FW(z0:T aa)(n0 n:Nat)(E:bU)(k i j:Nat)(z:T aa):Prop:= ∃M,Gn z0 n0 n z M/\BM n M/\Q7 E n lS k i j M
theorem FW.bQ{n:Nat}{E:bU}{k i j:Nat}{z:T aa}(h:FW z0 n0 n E k i j z):ay z (n0+n):=by obtain⟨M,h,_⟩:=h;exact h.bQ
theorem Ii(n:Nat)(hn:n<=64)(E:bU)(k i:Nat)(hk:k<n)(hi:i<n)(z:T aa)(hz:FW z0 n0 n E k i 0 z):
 ai prog (ah (ah (ah (ag f101) 3) 0) 0) 2 116 (E8 n k i 0) [(1, .aw (dO n0 n n))] 2 z (n0+n) (Al.R (WR (n0+n) n k i (dO n0 n n) (FW z0 n0 n E k i n)).l):=by
 refine an hD (cS T.leaf) (α:=Nat × T aa) 2 116 2 (fun t=>t.1<=n/\FW z0 n0 n E k i t.1 t.2) (fun t=>E8 n k i t.1) (fun t=>[(1, .aw (dO n0 n n))]) (fun t=>t.2) (fun t=>n0+n) (fun t=>n - t.1) _ (fun t hI=>?_) (0,z) ⟨Nat.zero_le _,hz⟩
 obtain⟨j,z⟩:=t
 obtain⟨hj,hs⟩:=hI
 simp only at hj hs ⊢
 have hfz:=hs.bQ
 obtain⟨M,h1,h2,h3⟩:=hs
 by_cases hlt:j<n
 ·have hc:decide ((j:Int)<(n:Int))=true:=by simp;omega
  obtain⟨li,i1,i2,i3⟩:=h1.row i hi
  obtain⟨lk,k1,k2,k3⟩:=h1.row k hk
  have r1:=pM h1 hi hlt i3
  have r2:=pM h1 hi hk i3
  have r3:=pM h1 hk hlt k3
  have d1:aE prog (dO n0 n n) 160 (0+i*1)=_:=qc hi
  have d2:aE prog (dO n0 n n) 160 (0+k*1)=_:=qc hk
  have b1:=h2.le i j hi hlt
  have b2:=h2.le i k hi hk
  have b3:=h2.le k j hk hlt
  have c2:=(h3.real i k hi hk).1
  have c3:=(h3.real k j hk hlt).1
  have hbig:(lS:Int)=1099511627776:=rfl
  have hwr:Value.int .i64 (IntKind.i64.wrap (M i k+M k j))=Value.int .i64 (M i k+M k j):=jC (by omega) (by omega)
  have hw:(if M i k+M k j<M i j then M i k+M k j else M i j)=min (M i j) (M i k+M k j):=by
   split<;>omega
  have ov:overwrite (zO (li.map zv) n).cells (0+j*1) [zv (if M i k+M k j<M i j then M i k+M k j else M i j)]=some ((li.set j (min (M i j) (M i k+M k j))).map zv):=by
   rw[hw,pI (cs:=li.map zv) (by simp;omega),←List.map_set]
  have hset:=D0 h1 hi hlt i2 i3 (min (M i j) (M i k+M k j))
  have hfw:FW z0 n0 n E k i (j+1) (z.set (n0+i) (.aw (zO ((li.set j (min (M i j) (M i k+M k j))).map zv) n))):=⟨_,hset,QB h2 i j (by omega),H4 h3 hk hi hlt⟩
  have hfz2:=hfw.bQ
  have hl:((li.set j (min (M i j) (M i k+M k j))).map zv).length<=n*1:=by simp[i2]
  refine t100 (Zt z (n0+n) n k i j (n0+i) (n0+k) (dO n0 n n) (zO (li.map zv) n) (zO (lk.map zv) n) (M i j) (M i k) (M k j) (min (M i j) (M i k+M k j)) ((li.set j (min (M i j) (M i k+M k j))).map zv) (ak _ _ _ _ _ _ _ _ _) ⟨fun _=>?_,nC1 hc⟩)
  (repeat' first|(with_reducible first|exact rfl|assumption|apply And.intro|exact dA _ _ _|exact bP (by omega)))
  exact⟨(j+1,_),rfl,rfl,rfl,rfl,rfl,⟨hlt,hfw⟩,by show n - (j+1)<n - j;omega⟩
 ·have hjn:j=n:=by omega
  subst hjn
  have hc:decide ((j:Int)<(j:Int))=false:=by simp
  refine t100 (Zt z (n0+j) j k i j 0 0 (dO n0 j j) ⟨[],0,0,0,true,true,0,true⟩ ⟨[],0,0,0,true,true,0,true⟩ 0 0 0 0 [] (ak _ _ _ _ _ _ _ _ _) ⟨nC1 hc,fun _=>?_⟩)
  (repeat' first|(with_reducible first|exact rfl|assumption|apply And.intro|exact dA _ _ _))
  exact De (k:=fun _=>eO) z ⟨M,h1,h2,h3⟩ rfl
theorem Ij(n:Nat)(hn:n<=64)(E:bU)(k:Nat)(hk:k<n)(z:T aa)(hz:FW z0 n0 n E k 0 0 z):
 ai prog (ah (ah (ag f101) 3) 0) 2 116 (yi n k 0) [(1, .aw (dO n0 n n))] 2 z (n0+n) (Al.R (WS (n0+n) n k (dO n0 n n) (FW z0 n0 n E k n 0)).l):=by
 refine an hD (cS T.leaf) (α:=Nat × T aa) 2 116 2 (fun t=>t.1<=n/\FW z0 n0 n E k t.1 0 t.2) (fun t=>yi n k t.1) (fun t=>[(1, .aw (dO n0 n n))]) (fun t=>t.2) (fun t=>n0+n) (fun t=>n - t.1) _ (fun t hI=>?_) (0,z) ⟨Nat.zero_le _,hz⟩
 obtain⟨i,z⟩:=t
 obtain⟨hi,hs⟩:=hI
 simp only at hi hs ⊢
 have hfz:=hs.bQ
 by_cases hlt:i<n
 ·have hc:decide ((i:Int)<(n:Int))=true:=by simp;omega
  have hlp:=Ii n hn E k i hk hlt z hs
  refine t100 (Zu z (n0+n) n k i (dO n0 n n) (FW z0 n0 n E k i n) (ak _ _ _ _ _ _ _ _ _) ⟨fun _=>?_,nC1 hc⟩)
  (repeat' first|(with_reducible first|exact rfl|assumption|apply And.intro|exact FW.bQ ‹_›|exact dA _ _ _|exact bP (by omega))|exact hlp|intro hq)
  rename_i x
  obtain⟨M,m1,m2,m3⟩:=hq
  exact⟨(i+1,x),rfl,rfl,rfl,rfl,rfl,⟨hlt,M,m1,m2,LL m3⟩,by show n - (i+1)<n - i;omega⟩
 ·have hin:i=n:=by omega
  subst hin
  have hc:decide ((i:Int)<(i:Int))=false:=by simp
  refine t100 (Zu z (n0+i) i k i (dO n0 i i) (fun _=>False) (ak _ _ _ _ _ _ _ _ _) ⟨nC1 hc,fun _=>?_⟩)
  (repeat' first|(with_reducible first|exact rfl|assumption|apply And.intro|exact dA _ _ _))
  exact De (k:=fun _=>eO) z hs rfl
def FH(z0:T aa)(n0 n:Nat)(E:bU)(k:Nat)(z:T aa):Prop:= ∃M,Gn z0 n0 n z M/\BM n M/\Head E n lS k M
theorem FH.bQ{n:Nat}{E:bU}{k:Nat}{z:T aa}(h:FH z0 n0 n E k z):ay z (n0+n):=by obtain⟨M,h,_⟩:=h;exact h.bQ
theorem AJ(n:Nat)(hn:n<=64)(E:bU)(z:T aa)(hz:FH z0 n0 n E 0 z):
 ai prog (ah (ag f101) 3) 2 116 (qQ n 0) [(1, .aw (dO n0 n n))] 2 z (n0+n) (Al.R (PC n ⟨dO n0 n n,z,n0+n⟩ (FH z0 n0 n E n)).l):=by
 refine an hD (cS T.leaf) (α:=Nat × T aa) 2 116 2 (fun t=>t.1<=n/\FH z0 n0 n E t.1 t.2) (fun t=>qQ n t.1) (fun t=>[(1, .aw (dO n0 n n))]) (fun t=>t.2) (fun t=>n0+n) (fun t=>n - t.1) _ (fun t hI=>?_) (0,z) ⟨Nat.zero_le _,hz⟩
 obtain⟨k,z⟩:=t
 obtain⟨hk,hs⟩:=hI
 simp only at hk hs ⊢
 have hfz:=hs.bQ
 by_cases hlt:k<n
 ·have hc:decide ((k:Int)<(n:Int))=true:=by simp;omega
  have hlp:=Ij (z0:=z0) (n0:=n0) n hn E k hlt z (by obtain⟨M,m1,m2,m3⟩:=hs;exact⟨M,m1,m2,E4 m3⟩)
  refine t100 (Zv z (n0+n) n k (dO n0 n n) (FW z0 n0 n E k n 0) (ak _ _ _ _ _ _ _ _ _) ⟨fun _=>?_,nC1 hc⟩)
  (repeat' first|(with_reducible first|exact rfl|assumption|apply And.intro|exact FW.bQ ‹_›|exact dA _ _ _|exact bP (by omega))|exact hlp|intro hq)
  rename_i x
  obtain⟨M,m1,m2,m3⟩:=hq
  exact⟨(k+1,x),rfl,rfl,rfl,rfl,rfl,⟨hlt,M,m1,m2,LM m3⟩,by show n - (k+1)<n - k;omega⟩
 ·have hkn:k=n:=by omega
  subst hkn
  have hc:decide ((k:Int)<(k:Int))=false:=by simp
  refine t100 (Zv z (n0+k) k k (dO n0 k k) (fun _=>False) (ak _ _ _ _ _ _ _ _ _) ⟨nC1 hc,fun _=>?_⟩)
  (repeat' first|(with_reducible first|exact rfl|assumption|apply And.intro|exact dA _ _ _))
  exact De (k:=fun _=>eO) z hs rfl
end
def fm(l:List ae)(b:Bool):List (Nat × Nat × Nat):=(l.filter (fC b)).map fun p=>(p.fz1.toNat,p.aq.toNat,p.aK.toNat)
theorem Ic{l:List ae}{b:Bool}{i:Nat}{x:ae}(hx:l[i]? =some x)(hu:fC b x=true):fm (l.take (i+1)) b=fm (l.take i) b++[(x.fz1.toNat,x.aq.toNat,x.aK.toNat)]:=by
 unfold fm
 rw[List.take_add_one,hx]
 simp[List.filter_append,hu]
theorem LR{l:List ae}{b:Bool}{i:Nat}{x:ae}(hx:l[i]? =some x)(hu:fC b x=false):fm (l.take (i+1)) b=fm (l.take i) b:=by
 unfold fm
 rw[List.take_add_one,hx]
 simp[List.filter_append,hu]
def FE(z0:T aa)(n0 n:Nat)(L:List (Nat × Nat × Nat))(z:T aa):Prop:= ∃M,Gn z0 n0 n z M/\BT L n lS M
section
variable{z0:T aa}{n0:Nat}
theorem FE.bQ{n:Nat}{L:List (Nat × Nat × Nat)}{z:T aa}(h:FE z0 n0 n L z):ay z (n0+n):=by obtain⟨M,h,_⟩:=h;exact h.bQ
theorem FE.head{n:Nat}{L:List (Nat × Nat × Nat)}{z:T aa}(h:FE z0 n0 n L z):FH z0 n0 n (cX L) 0 z:=by
 obtain⟨M,h1,h2⟩:=h
 exact⟨M,h1,⟨fun i j hi hj=>(h2 i j hi hj).2.1⟩,CI h2⟩
theorem A8{n:Nat}{s:dy}(h:jn z0 n0 n n s):FE z0 n0 n [] s.z:=by
 refine⟨fun _ _=>(lS:Int),⟨?_,h.iL,fun i hi=>?_⟩,Fq n lS⟩
 ·have:=h.bQ;rw[h.zn] at this;exact this
 ·refine⟨List.replicate n (lS:Int),?_,List.length_replicate ..,fun j hj=>by simp[hj]⟩
  rw[h.row i hi]
  show some (aa.aw (zO (eY n) n))=some (aa.aw (zO ((List.replicate n (lS:Int)).map zv) n))
  rw[List.map_replicate];rfl
theorem Ik(n:Nat)(hn:n<=64)(l:List ae)(hl:nm n l)(hll:l.length<=10000)(cp:Nat)(hL0:cf z0 4 (l.map ae.row))(hz0:ay z0 n0)(b:Bool)(s:dy)(hs:jn z0 n0 n n s):
 ai prog (ah (ag f101) 2) 2 116 (Aw l.length cp n b 0) [(1, .aw s.bl)] 2 s.z s.zn (Al.R (SY l.length cp n b s (FE z0 n0 n (fm l b))).l):=by
 have hst:=A8 hs
 obtain⟨bl,z,zn⟩:=s
 have e1:zn=n0+n:=hs.zn
 have e2:bl=dO n0 n n:=hs.bl
 subst e1 e2
 refine an hD (cS T.leaf) (α:=Nat × T aa) 2 116 2 (fun t=>t.1<=l.length/\FE z0 n0 n (fm (l.take t.1) b) t.2) (fun t=>Aw l.length cp n b t.1) (fun t=>[(1, .aw (dO n0 n n))]) (fun t=>t.2) (fun t=>n0+n) (fun t=>l.length - t.1) _ (fun t hI=>?_) (0,z) ⟨Nat.zero_le _,hst⟩
 obtain⟨i,z⟩:=t
 obtain⟨hi,hs⟩:=hI
 simp only at hi hs ⊢
 have hfz:=hs.bQ
 by_cases hlt:i<l.length
 ·obtain⟨x,hx⟩:=eV hlt
  have hc:decide ((i:Int)<(l.length:Int))=true:=by simp;omega
  obtain⟨p1,p2,p3,p4,_,p6,p7⟩:=hl.ok x (List.mem_of_getElem? hx)
  obtain⟨M,h1,h2⟩:=hs
  have hL:=dU hL0 hz0 h1.iL
  obtain⟨el,hel⟩:=hL.aw (i:=i) (by simp;omega)
  have r0:aE prog (bq el (l.map ae.row).flatten) 134 (0+i*4)=some (.agg ⟨x.row⟩):=bG (r:=x.row) (sz:=4) underlying134 rfl rfl (aQ (row:=ae.row) (sz:=4) l fun _=>rfl) (by rw[List.getElem?_map,hx];rfl)
  have hf:x.fz1.toNat<n:=by omega
  have ht:x.aq.toNat<n:=by omega
  have ef:x.fz1=(x.fz1.toNat:Int):=by omega
  have et:x.aq=(x.aq.toNat:Int):=by omega
  obtain⟨li,i1,i2,i3⟩:=h1.row _ hf
  have r1:=pM h1 hf ht i3
  have d1:aE prog (dO n0 n n) 160 (0+x.fz1.toNat*1)=_:=qc hf
  have hw:(if x.aK<M x.fz1.toNat x.aq.toNat then x.aK else M x.fz1.toNat x.aq.toNat)=min (M x.fz1.toNat x.aq.toNat) (x.aK.toNat:Int):=by
   split<;>omega
  have ov:overwrite (zO (li.map zv) n).cells (0+x.aq.toNat*1) [zv (if x.aK<M x.fz1.toNat x.aq.toNat then x.aK else M x.fz1.toNat x.aq.toNat)]=some ((li.set x.aq.toNat (min (M x.fz1.toNat x.aq.toNat) (x.aK.toNat:Int))).map zv):=by
   rw[hw,pI (cs:=li.map zv) (by simp;omega),←List.map_set]
  have hset:=D0 h1 hf ht i2 i3 (min (M x.fz1.toNat x.aq.toNat) (x.aK.toNat:Int))
  have hfz2:=hset.bQ
  have hlen:((li.set x.aq.toNat (min (M x.fz1.toNat x.aq.toNat) (x.aK.toNat:Int))).map zv).length<=n*1:=by simp[i2]
  have nx: ∀z',FE z0 n0 n (fm (l.take (i+1)) b) z'->ak (fun t:Nat × T aa=>t.1<=l.length/\FE z0 n0 n (fm (l.take t.1) b) t.2) (fun t=>Aw l.length cp n b t.1) (fun t=>[(1, .aw (dO n0 n n))]) 2 (fun t=>t.2) (fun t=>n0+n) (fun t=>l.length - t.1) (Al.R (SY l.length cp n b ⟨dO n0 n n,z,n0+n⟩ (FE z0 n0 n (fm l b))).l) (i,z) .normal (Aw l.length cp n b (i+1)) [(1, .aw (dO n0 n n))] 2 z' (n0+n):=fun z' h=>
   ⟨(i+1,z'),rfl,rfl,rfl,rfl,rfl,⟨hlt,h⟩,by show l.length - (i+1)<l.length - i;omega⟩
  have yes:fC b x=true->FE z0 n0 n (fm (l.take (i+1)) b) (z.set (n0+x.fz1.toNat) (.aw (zO ((li.set x.aq.toNat (min (M x.fz1.toNat x.aq.toNat) (x.aK.toNat:Int))).map zv) n))):=fun h=>⟨_,hset,by rw[Ic hx h];exact CH h2 _ _ _⟩
  have no:fC b x=false->FE z0 n0 n (fm (l.take (i+1)) b) z:=fun h=>⟨M,h1,by rw[LR hx h];exact h2⟩
  have u1:x.sf=true->fC b x=true:=fun h=>by unfold fC;rw[h,Bool.or_true]
  have u2:x.sf=false->(!b)=true->fC b x=true:=fun h h2=>by unfold fC;rw[h2,Bool.true_or]
  have u3:x.sf=false->(!b)=false->fC b x=false:=fun h h2=>by unfold fC;rw[h,h2];rfl
  refine t100 (Zw z (n0+n) l.length cp n i x.fz1.toNat x.aq.toNat (n0+x.fz1.toNat) b (dO n0 n n) (bq el (l.map ae.row).flatten) (zO (li.map zv) n) x (M x.fz1.toNat x.aq.toNat) 0 ((li.set x.aq.toNat (min (M x.fz1.toNat x.aq.toNat) (x.aK.toNat:Int))).map zv) (ak _ _ _ _ _ _ _ _ _) ⟨fun _=>?_,nC1 hc⟩)
  (repeat' first|(with_reducible first|exact rfl|assumption|apply And.intro|exact dA _ _ _|exact bP (by omega))|intro hq)
  all_goals first
   |exact nx _ (yes (u1 (by with_reducible assumption)))
   |exact nx _ (yes (u2 (by with_reducible assumption) (by with_reducible assumption)))
   |exact nx _ (no (u3 (by with_reducible assumption) (by with_reducible assumption)))
 ·have hil:i=l.length:=by omega
  have hc:decide ((i:Int)<(l.length:Int))=false:=by simp;omega
  refine t100 (Zw z (n0+n) l.length cp n i 0 0 0 b (dO n0 n n) ⟨[],0,0,0,true,true,0,true⟩ ⟨[],0,0,0,true,true,0,true⟩ ⟨0,0,0,true⟩ 0 0 [] (ak _ _ _ _ _ _ _ _ _) ⟨nC1 hc,fun _=>?_⟩)
  (repeat' first|(with_reducible first|exact rfl|assumption|apply And.intro|exact dA _ _ _))
  refine De (k:=fun _=>eO) z ?_ rfl
  rw[hil,List.take_of_length_le (Nat.le_refl _)] at hs
  exact hs
def oz(z:T aa)(zn n:Nat)(l:List ae)(b:Bool)(s:dy):Prop:=s.bl=dO zn n n/\s.zn=zn+n/\FH z zn n (cX (fm l b)) n s.z
theorem oz.bQ{z:T aa}{zn n:Nat}{l:List ae}{b:Bool}{s:dy}(h:oz z zn n l b s):ay s.z s.zn:=by
 rw[h.2.1];exact h.2.2.bQ
theorem Ej(hz:ay z0 n0)(h5:5<=n0)(n:Nat)(hn:n<=64)(l:List ae)(hl:nm n l)(hll:l.length<=10000)(cp:Nat)(hL:cf z0 4 (l.map ae.row))(b:Bool):
 bF prog z0 n0 101 [tb 4 l.length cp,iv n, .bool b] [] 0 1 (oz z0 n0 n l b) (fun _=>aX 0 n n) (fun s=>[(0, .aw s.bl)]) (fun s=>s.z) (fun s=>s.zn):=by
 have h0:=AK z0 n0 hz h5 (tb 4 l.length cp) (.inl ⟨_,_,rfl⟩) n hn b
 have h2: ∀s,jn z0 n0 n n s->_:=fun s hs=>Ik n hn l hl hll cp hL hz b s hs
 have h3: ∀s z2,jn z0 n0 n n s->FE z0 n0 n (fm l b) z2->ai prog (ah (ag f101) 3) 2 116 (qQ n 0) [(1, .aw s.bl)] 2 z2 s.zn (Al.R (PC n s (FH z0 n0 n (cX (fm l b)) n)).l):=fun s z2 hs h=>by
  have e1:=hs.zn
  have e2:=hs.bl
  obtain⟨bl,z,zn⟩:=s
  simp only at e1 e2
  subst e1 e2
  exact AJ n hn _ z2 h.head
 have rX: ∀s σ,jn z0 n0 n n s->aI (aA σ []) (.aw s.bl)=some (.aw s.bl):=fun s σ hs=>by rw[hs.bl];exact dA _ _ _
 have fe: ∀s z2,jn z0 n0 n n s->FE z0 n0 n (fm l b) z2->ay z2 s.zn:=fun s z2 hs h=>by rw[hs.zn];exact h.bQ
 have fh: ∀s z2,jn z0 n0 n n s->FH z0 n0 n (cX (fm l b)) n z2->ay z2 s.zn:=fun s z2 hs h=>by rw[hs.zn];exact h.bQ
 refine gi (cS T.leaf) (fn:=f101) (by kernel_rfl) (by kernel_rfl) hz ⟨by decide,by decide⟩ (fun s hs=>⟨rfl,by rw[hs.2.1];omega,hs.bQ⟩) (N:=100) ?_
 refine rs z0 n0 l.length cp n b (jn z0 n0 n n) (fun _=>FE z0 n0 n (fm l b)) (fun _ _=>FH z0 n0 n (cX (fm l b)) n) _ ?_
 (repeat' first|(with_reducible first|exact rfl|assumption|apply And.intro|exact jn.bQ ‹_›|exact fe _ _ ‹_› ‹_›|exact fh _ _ ‹_› ‹_›|exact rX _ _ ‹_›)|exact h0|exact h2 _ (by with_reducible assumption)|exact h3 _ _ (by with_reducible assumption) (by with_reducible assumption)|intro hq)
 rename_i s hs z2 _ z3
 exact q2 (⟨s.bl,z3,s.zn⟩:dy) ⟨hs.bl,hs.zn,hq⟩ rfl rfl rfl rfl rfl
theorem Fl(n:Nat)(b:Bool)(s:dy)(hs:jn z0 n0 n n s):
 ai prog (ah (ag f101) 2) 2 116 (wL n b 0) [(1, .aw s.bl)] 2 s.z s.zn (Al.R (SX n b s).l):=by
 have hfz:=hs.bQ
 have rX: ∀σ,aI (aA σ []) (.aw s.bl)=some (.aw s.bl):=fun σ=>by rw[hs.bl];exact dA _ _ _
 refine an hD (cS T.leaf) (α:=Unit) 2 116 2 (fun _=>True) (fun _=>wL n b 0) (fun t=>[(1, .aw s.bl)]) (fun t=>s.z) (fun t=>s.zn) (fun t=>0) _ (fun t hI=>?_) () trivial
 refine t100 (Wi s.z s.zn n 0 b s.bl (ak _ _ _ _ _ _ _ _ _) ?_)
 (repeat' first|(with_reducible first|exact rfl|assumption|apply And.intro|exact rX _))
 exact bD trivial
theorem Bt(hz:ay z0 n0)(h5:5<=n0)(n:Nat)(hn:n<=64)(b:Bool):
 bF prog z0 n0 101 [az,iv n, .bool b] [] 0 1 (oz z0 n0 n [] b) (fun _=>aX 0 n n) (fun s=>[(0, .aw s.bl)]) (fun s=>s.z) (fun s=>s.zn):=by
 have h0:=AK z0 n0 hz h5 az (.inr rfl) n hn b
 have h2: ∀s,jn z0 n0 n n s->_:=fun s hs=>Fl n b s hs
 have h3: ∀s,jn z0 n0 n n s->ai prog (ah (ag f101) 3) 2 116 (qQ n 0) [(1, .aw s.bl)] 2 s.2 s.zn (Al.R (PC n s (FH z0 n0 n (cX (fm [] b)) n)).l):=fun s hs=>by
  have h:=(A8 hs).head
  have e1:=hs.zn
  have e2:=hs.bl
  obtain⟨bl,z,zn⟩:=s
  simp only at e1 e2
  subst e1 e2
  exact AJ n hn _ z h
 have rX: ∀s σ,jn z0 n0 n n s->aI (aA σ []) (.aw s.bl)=some (.aw s.bl):=fun s σ hs=>by rw[hs.bl];exact dA _ _ _
 have fh: ∀s z2,jn z0 n0 n n s->FH z0 n0 n (cX (fm [] b)) n z2->ay z2 s.zn:=fun s z2 hs h=>by rw[hs.zn];exact h.bQ
 refine gi (cS T.leaf) (fn:=f101) (by kernel_rfl) (by kernel_rfl) hz ⟨by decide,by decide⟩ (fun s hs=>⟨rfl,by rw[hs.2.1];omega,hs.bQ⟩) (N:=100) ?_
 refine rsn z0 n0 n b (jn z0 n0 n n) (fun _=>FH z0 n0 n (cX (fm [] b)) n) _ ?_
 (repeat' first|(with_reducible first|exact rfl|assumption|apply And.intro|exact jn.bQ ‹_›|exact fh _ _ ‹_› ‹_›|exact rX _ _ ‹_›)|exact h0|exact h2 _ (by with_reducible assumption)|exact h3 _ (by with_reducible assumption)|intro hq)
 rename_i s hs _ _ z3
 exact q2 (⟨s.bl,z3,s.zn⟩:dy) ⟨hs.bl,hs.zn,hq⟩ rfl rfl rfl rfl rfl
end
end Go.Proofs.Nw
namespace Go.Proofs.Nw
open Go Go.AV Tryz
set_option maxRecDepth 1000000
noncomputable section
abbrev QH:List (Nat × Nat):=[YB,Ye,(4,4)]
abbrev Rm:Nat->Option Nat:=aA QH []
abbrev Ub:Prop:=Rs (BQ [] 0 4 134)
abbrev UM(n i j:Nat):List (Nat × Value):=[eI n,(5,ep n),(6,cQ n),(7,Gy),(8,IV i),Gj j]
abbrev Rl(d1 d2:ba):List (Nat × aa):=[(0,Y1 d1),(1,Y1 d2),(4,BQ [] 0 4 134)]
abbrev Ok:List (Nat × Nat):=[YB,Ye,(4,8)]
abbrev U2(n i j:Nat):List (Nat × Value):=[eI n,(5,ep n),(6,cQ n),(7,SL 4 2 2),(8,IV i),Gj j]
abbrev No:List (Nat × Nat):=[YB,Ye,(4,6)]
abbrev Oj:Nat->Option Nat:=aA No []
abbrev Oi(n i j:Nat):List (Nat × Value):=[eI n,(5,ep n),(6,cQ n),(7,SL 4 1 1),(8,IV i),Gj j]
abbrev U1(d1 d2:ba)(i j:Nat)(u:Int):List (Nat × aa):=[(0,Y1 d1),(1,Y1 d2),(4,BR [IV i,IV j,ZV u,T1] 4 4 134)]
abbrev U0(d1 d2:ba)(i j:Nat)(u:Int):List (Nat × aa):=[(0,Y1 d1),(1,Y1 d2),(4,BR [IV i,IV j,ZV u,F0] 4 4 134)]
noncomputable abbrev Ud:Code:=ah (ag f85) 0
theorem TQ(z:T aa)(zn n i j k1 k2:Nat)(d1 d2 b1 b2:ba)(u f:Int)(Q:QL)(hyp:Br (decide ((↑j:Int)<(↑n:Int))) (Br ((↑i:Int)==(↑j:Int)) (ZV (IntKind.i64.wrap ((↑j:Int)+1))=IV (j+1)/\E6 107 z zn (R6 (IV n) (ep n) (cQ n) Gy (IV i) (IV (j+1)) (K2 Rm (Y1 d1) (Y1 d2) (Ub/\Q aN (UM n i j) (Rl d1 d2) 5 z zn)))) (Yz i/\i<n/\ot d1 i k1 n/\Yz j/\j<n/\Y0 k1/\Y2 z k1 b1/\ou b1 j u/\Br (decide (u>14400)) (ZV (IntKind.i64.wrap ((↑j:Int)+1))=IV (j+1)/\E6 107 z zn (R6 (IV n) (ep n) (cQ n) Gy (IV i) (IV (j+1)) (K2 Rm (Y1 d1) (Y1 d2) (Ub/\Q aN (UM n i j) (Rl d1 d2) 5 z zn)))) (Yz i/\i<n/\ot d1 i k1 n/\Yz j/\j<n/\Y0 k1/\Y2 z k1 b1/\ou b1 j u/\Yz i/\i<n/\ot d2 i k2 n/\Yz j/\j<n/\Y0 k2/\Y2 z k2 b2/\ou b2 j f/\Yz i/\i<n/\ot d1 i k1 n/\Yz j/\j<n/\Y0 k1/\Y2 z k1 b1/\ou b1 j u/\Br (f==u) (Yz i/\i<n/\ot d2 i k2 n/\Yz j/\j<n/\Y0 k2/\Y2 z k2 b2/\ou b2 j f/\Yz i/\i<n/\ot d1 i k1 n/\Yz j/\j<n/\Y0 k1/\Y2 z k1 b1/\ou b1 j u/\Br (decide (f>u)) (Yz i/\i<n/\ot d2 i k2 n/\Yz j/\j<n/\Y0 k2/\Y2 z k2 b2/\ou b2 j f/\Br (decide (f<=14400)) (Yz i/\i<n/\ot d2 i k2 n/\Yz j/\j<n/\Y0 k2/\Y2 z k2 b2/\ou b2 j f/\ZV (IntKind.i64.wrap ((↑j:Int)+1))=IV (j+1)/\E6 107 z zn (R6 (IV n) (ep n) (cQ n) (SL 8 2 2) (IV i) (IV (j+1)) (K2 (aA Ok []) (Y1 d1) (Y1 d2) (Rs (BR [IV i,IV j,ZV u,T1,IV i,IV j,ZV f,T1] 8 4 134)/\Q aN (U2 n i j) [(0,Y1 d1),(1,Y1 d2),(4,BR [IV i,IV j,ZV u,T1,IV i,IV j,ZV f,T1] 8 4 134)] 5 z zn)))) (ZV (IntKind.i64.wrap ((↑j:Int)+1))=IV (j+1)/\E6 107 z zn (R6 (IV n) (ep n) (cQ n) Og (IV i) (IV (j+1)) (K2 Oj (Y1 d1) (Y1 d2) (Rs (BR [IV i,IV j,ZV u,T1] 4 4 134)/\Q aN (Oi n i j) (U1 d1 d2 i j u) 5 z zn))))) (ZV (IntKind.i64.wrap ((↑j:Int)+1))=IV (j+1)/\E6 107 z zn (R6 (IV n) (ep n) (cQ n) Og (IV i) (IV (j+1)) (K2 Oj (Y1 d1) (Y1 d2) (Rs (BR [IV i,IV j,ZV u,T1] 4 4 134)/\Q aN (Oi n i j) (U1 d1 d2 i j u) 5 z zn))))) (Yz i/\i<n/\ot d2 i k2 n/\Yz j/\j<n/\Y0 k2/\Y2 z k2 b2/\ou b2 j f/\Yz i/\i<n/\ot d1 i k1 n/\Yz j/\j<n/\Y0 k1/\Y2 z k1 b1/\ou b1 j u/\Br (decide (f>u)) (Yz i/\i<n/\ot d2 i k2 n/\Yz j/\j<n/\Y0 k2/\Y2 z k2 b2/\ou b2 j f/\Br (decide (f<=14400)) (Yz i/\i<n/\ot d2 i k2 n/\Yz j/\j<n/\Y0 k2/\Y2 z k2 b2/\ou b2 j f/\ZV (IntKind.i64.wrap ((↑j:Int)+1))=IV (j+1)/\E6 107 z zn (R6 (IV n) (ep n) (cQ n) (SL 8 2 2) (IV i) (IV (j+1)) (K2 (aA Ok []) (Y1 d1) (Y1 d2) (Rs (BR [IV i,IV j,ZV u,F0,IV i,IV j,ZV f,T1] 8 4 134)/\Q aN (U2 n i j) [(0,Y1 d1),(1,Y1 d2),(4,BR [IV i,IV j,ZV u,F0,IV i,IV j,ZV f,T1] 8 4 134)] 5 z zn)))) (ZV (IntKind.i64.wrap ((↑j:Int)+1))=IV (j+1)/\E6 107 z zn (R6 (IV n) (ep n) (cQ n) Og (IV i) (IV (j+1)) (K2 Oj (Y1 d1) (Y1 d2) (Rs (BR [IV i,IV j,ZV u,F0] 4 4 134)/\Q aN (Oi n i j) (U0 d1 d2 i j u) 5 z zn))))) (ZV (IntKind.i64.wrap ((↑j:Int)+1))=IV (j+1)/\E6 107 z zn (R6 (IV n) (ep n) (cQ n) Og (IV i) (IV (j+1)) (K2 Oj (Y1 d1) (Y1 d2) (Rs (BR [IV i,IV j,ZV u,F0] 4 4 134)/\Q aN (Oi n i j) (U0 d1 d2 i j u) 5 z zn)))))))) (E6 107 z zn (R5 (IV n) (ep n) (cQ n) Gy (IV i) (K2 Rm (Y1 d1) (Y1 d2) (Ub/\Q ja [eI n,(5,ep n),(6,cQ n),(7,Gy),(8,IV i)] (Rl d1 d2) 5
 z zn))))):ew prog gH jW (ah Ud 0) 107 (vN n 0 i j) z (qz d1 d2 Gw) 5 zn 4 Q:=K1t hyp ((tA 1 ((tA 10 (tO (dS j) (tE QH [] (UM n i j) (Rl d1 d2) 5 z zn))).fork (tA 3 (tO (Y9 i) (tA 1 (tO (nR k1 n) (tA 2 (tO (Y9 j) (tA 1 (tO (pd k1 b1 u) (tA 1 ((tA 2 (tO (dS j) (tE QH [] (UM n i j) (Rl d1 d2) 5 z zn))).fork (tA 2 (tO (Y9 i) (tO (nR k1 n) (tO (Y9 j) (tO (pd k1 b1 u) (tO (Y9 i) (tO (nR k2 n) (tO (Y9 j) (tO (pd k2 b2 f) (tO (Y9 i) (tO (nR k1 n) (tO (Y9 j) (tO (pd k1 b1 u) ((tA 1 (tO (Y9 i) (tO (nR k2 n) (tO (Y9 j) (tO (pd k2 b2 f) (tO (Y9 i) (tO (nR k1 n) (tO (Y9 j) (tO (pd k1 b1 u) ((tA 3 (tO (Y9 i) (tA 1 (tO (nR k2 n) (tA 2 (tO (Y9 j) (tA 1 (tO (pd k2 b2 f) (tA 1 ((tA 2 (tO (Y9 i) (tO (nR k2 n) (tO (Y9 j) (tO (pd k2 b2 f) (tA 1 (tO (dS j) (tE Ok [] (U2 n i j) [(0,Y1 d1),(1,Y1 d2),(4,BR [IV i,IV j,ZV u,T1,IV i,IV j,ZV f,T1] 8 4 134)] 5 z zn)))))))).fork (tA 2 (tO (dS j) (tE No [] (Oi n i j) (U1 d1 d2 i j u) 5 z zn))))))))))))).fork (tA 10 (tO (dS j) (tE No [] (Oi n i j) (U1 d1 d2 i j u) 5 z zn))))))))))))).fork (tA 1 (tO (Y9 i) (tO (nR k2 n) (tO (Y9 j) (tO (pd k2 b2 f) (tO (Y9 i) (tO (nR k1 n) (tO (Y9 j) (tO (pd k1 b1 u) ((tA 3 (tO (Y9 i) (tA 1 (tO (nR k2 n) (tA 2 (tO (Y9 j) (tA 1 (tO (pd k2 b2 f) (tA 1 ((tA 2 (tO (Y9 i) (tO (nR k2 n) (tO (Y9 j) (tO (pd k2 b2 f) (tA 1 (tO (dS j) (tE Ok [] (U2 n i j) [(0,Y1 d1),(1,Y1 d2),(4,BR [IV i,IV j,ZV u,F0,IV i,IV j,ZV f,T1] 8 4 134)] 5 z zn)))))))).fork (tA 2 (tO (dS j) (tE No [] (Oi n i j) (U0 d1 d2 i j u) 5 z zn))))))))))))).fork (tA 10 (tO (dS j) (tE No [] (Oi n i j) (U0 d1 d2 i j u) 5 z zn))))))))))))))))))))))))))))))))))))))).fork (tA 1 (tE QH [] [eI n,(5,ep n),(6,cQ n),(7,Gy),(8,IV i)] (Rl d1 d2) 5 z zn)))
abbrev UZ(n k i j:Nat):List (Nat × Value):=[eI n,(5,ep n),(6,cQ n),(7,SL 4 k k),(8,IV i),Gj j]
abbrev Rr(d1 d2:ba)(cs:List Value)(k:Nat):List (Nat × aa):=[(0,Y1 d1),(1,Y1 d2),(4,BR cs (k*4) 4 134)]
abbrev UL(n k i j:Nat):List (Nat × Value):=[eI n,(5,ep n),(6,cQ n),(7,SL 4 (k+1+1) (k+1+1)),(8,IV i),Gj j]
abbrev Oc(n k i j:Nat):List (Nat × Value):=[eI n,(5,ep n),(6,cQ n),(7,SL 4 (k+1) (k+1)),(8,IV i),Gj j]
abbrev UK(d1 d2:ba)(cs:List Value)(i j:Nat)(u:Int)(k:Nat):List (Nat × aa):=[(0,Y1 d1),(1,Y1 d2),(4,BR (cs++[IV i,IV j,ZV u,T1]) ((k+1)*4) 4 134)]
abbrev UJ(d1 d2:ba)(cs:List Value)(i j:Nat)(u:Int)(k:Nat):List (Nat × aa):=[(0,Y1 d1),(1,Y1 d2),(4,BR (cs++[IV i,IV j,ZV u,F0]) ((k+1)*4) 4 134)]
theorem Z4(z:T aa)(zn n k i j k1 k2:Nat)(d1 d2 b1 b2:ba)(u f:Int)(cs:List Value)(Q:QL)(hyp:Br (decide ((↑j:Int)<(↑n:Int))) (Br ((↑i:Int)==(↑j:Int)) (ZV (IntKind.i64.wrap ((↑j:Int)+1))=IV (j+1)/\E6 107 z zn (R6 (IV n) (ep n) (cQ n) (SL 4 k k) (IV i) (IV (j+1)) (K3 Rm (Y1 d1) (Y1 d2) (BR cs (k*4) 4 134) (Q aN (UZ n k i j) (Rr d1 d2 cs k) 5 z zn)))) (Yz i/\i<n/\ot d1 i k1 n/\Yz j/\j<n/\Y0 k1/\Y2 z k1 b1/\ou b1 j u/\Br (decide (u>14400)) (ZV (IntKind.i64.wrap ((↑j:Int)+1))=IV (j+1)/\E6 107 z zn (R6 (IV n) (ep n) (cQ n) (SL 4 k k) (IV i) (IV (j+1)) (K3 Rm (Y1 d1) (Y1 d2) (BR cs (k*4) 4 134) (Q aN (UZ n k i j) (Rr d1 d2 cs k) 5 z zn)))) (Yz i/\i<n/\ot d1 i k1 n/\Yz j/\j<n/\Y0 k1/\Y2 z k1 b1/\ou b1 j u/\Yz i/\i<n/\ot d2 i k2 n/\Yz j/\j<n/\Y0 k2/\Y2 z k2 b2/\ou b2 j f/\Yz i/\i<n/\ot d1 i k1 n/\Yz j/\j<n/\Y0 k1/\Y2 z k1 b1/\ou b1 j u/\Br (f==u) (Rs [IV i,IV j,ZV u,T1]/\Rf k/\cs.length=k*4/\Rf (k*4)/\k+1<=1048576/\Yz i/\i<n/\ot d2 i k2 n/\Yz j/\j<n/\Y0 k2/\Y2 z k2 b2/\ou b2 j f/\Yz i/\i<n/\ot d1 i k1 n/\Yz j/\j<n/\Y0 k1/\Y2 z k1 b1/\ou b1 j u/\Br (decide (f>u)) (Yz i/\i<n/\ot d2 i k2 n/\Yz j/\j<n/\Y0 k2/\Y2 z k2 b2/\ou b2 j f/\Br (decide (f<=14400)) (Yz i/\i<n/\ot d2 i k2 n/\Yz j/\j<n/\Y0 k2/\Y2 z k2 b2/\ou b2 j f/\Rs [IV i,IV j,ZV f,T1]/\Rf (k+1)/\(cs++[IV i,IV j,ZV u,T1]).length=(k+1)*4/\Rf ((k+1)*4)/\k+1+1<=1048576/\ZV (IntKind.i64.wrap ((↑j:Int)+1))=IV (j+1)/\E6 107 z zn (R6 (IV n) (ep n) (cQ n) (SL 8 (k+1+1) (k+1+1)) (IV i) (IV (j+1)) (K3 (aA Ok []) (Y1 d1) (Y1 d2) (BR (cs++[IV i,IV j,ZV u,T1]++[IV i,IV j,ZV f,T1]) ((k+1+1)*4) 4 134) (Q aN (UL n k i j) [(0,Y1 d1),(1,Y1 d2),(4,BR (cs++[IV i,IV j,ZV u,T1]++[IV i,IV j,ZV f,T1]) ((k+1+1)*4) 4 134)] 5 z zn)))) (ZV (IntKind.i64.wrap ((↑j:Int)+1))=IV (j+1)/\E6 107 z zn (R6 (IV n) (ep n) (cQ n) (Of k) (IV i) (IV (j+1)) (K3 Oj (Y1 d1) (Y1 d2) (BR (cs++[IV i,IV j,ZV u,T1]) ((k+1)*4) 4 134) (Q aN (Oc n k i j) (UK d1 d2 cs i j u k) 5 z zn))))) (ZV (IntKind.i64.wrap ((↑j:Int)+1))=IV (j+1)/\E6 107 z zn (R6 (IV n) (ep n) (cQ n) (Of k) (IV i) (IV (j+1)) (K3 Oj (Y1 d1) (Y1 d2) (BR (cs++[IV i,IV j,ZV u,T1]) ((k+1)*4) 4 134) (Q aN (Oc n k i j) (UK d1 d2 cs i j u k) 5 z zn))))) (Rs [IV i,IV j,ZV u,F0]/\Rf k/\cs.length=k*4/\Rf (k*4)/\k+1<=1048576/\Yz i/\i<n/\ot d2 i k2 n/\Yz j/\j<n/\Y0 k2/\Y2 z k2 b2/\ou b2 j f/\Yz i/\i<n/\ot d1 i k1 n/\Yz j/\j<n/\Y0 k1/\Y2 z k1 b1/\ou b1 j u/\Br (decide (f>u)) (Yz i/\i<n/\ot d2 i k2 n/\Yz j/\j<n/\Y0 k2/\Y2 z k2 b2/\ou b2 j f/\Br (decide (f<=14400)) (Yz i/\i<n/\ot d2 i k2 n/\Yz j/\j<n/\Y0 k2/\Y2 z k2 b2/\ou b2 j f/\Rs [IV i,IV j,ZV f,T1]/\Rf (k+1)/\(cs++[IV i,IV j,ZV u,F0]).length=(k+1)*4/\Rf ((k+1)*4)/\k+1+1<=1048576/\ZV (IntKind.i64.wrap ((↑j:Int)+1))=IV (j+1)/\E6 107 z zn (R6 (IV n) (ep n) (cQ n) (SL 8 (k+1+1) (k+1+1)) (IV i) (IV (j+1)) (K3 (aA Ok []) (Y1 d1) (Y1 d2) (BR (cs++[IV i,IV j,ZV u,F0]++[IV i,IV j,ZV f,T1]) ((k+1+1)*4) 4 134) (Q aN (UL n k i j) [(0,Y1 d1),(1,Y1 d2),(4,BR (cs++[IV i,IV j,ZV u,F0]++[IV i,IV j,ZV f,T1]) ((k+1+1)*4) 4 134)] 5 z zn)))) (ZV (IntKind.i64.wrap
 ((↑j:Int)+1))=IV (j+1)/\E6 107 z zn (R6 (IV n) (ep n) (cQ n) (Of k) (IV i) (IV (j+1)) (K3 Oj (Y1 d1) (Y1 d2) (BR (cs++[IV i,IV j,ZV u,F0]) ((k+1)*4) 4 134) (Q aN (Oc n k i j) (UJ d1 d2 cs i j u k) 5 z zn))))) (ZV (IntKind.i64.wrap ((↑j:Int)+1))=IV (j+1)/\E6 107 z zn (R6 (IV n) (ep n) (cQ n) (Of k) (IV i) (IV (j+1)) (K3 Oj (Y1 d1) (Y1 d2) (BR (cs++[IV i,IV j,ZV u,F0]) ((k+1)*4) 4 134) (Q aN (Oc n k i j) (UJ d1 d2 cs i j u k) 5 z zn)))))))) (E6 107 z zn (R5 (IV n) (ep n) (cQ n) (SL 4 k k) (IV i) (K3 Rm (Y1 d1) (Y1 d2) (BR cs (k*4) 4 134) (Q ja [eI n,(5,ep n),(6,cQ n),(7,SL 4 k k),(8,IV i)] (Rr d1 d2 cs k) 5 z zn))))):ew prog gH jW (ah Ud 0) 107 (vN n k i j) z (qz d1 d2 (Rh cs k)) 5 zn 4 Q:=K1t hyp ((tA 1 ((tA 10 (tO (dS j) (tE QH [] (UZ n k i j) (Rr d1 d2 cs k) 5 z zn))).fork (tA 3 (tO (Y9 i) (tA 1 (tO (nR k1 n) (tA 2 (tO (Y9 j) (tA 1 (tO (pd k1 b1 u) (tA 1 ((tA 2 (tO (dS j) (tE QH [] (UZ n k i j) (Rr d1 d2 cs k) 5 z zn))).fork (tA 2 (tO (Y9 i) (tO (nR k1 n) (tO (Y9 j) (tO (pd k1 b1 u) (tO (Y9 i) (tO (nR k2 n) (tO (Y9 j) (tO (pd k2 b2 f) (tO (Y9 i) (tO (nR k1 n) (tO (Y9 j) (tO (pd k1 b1 u) ((tX (my.grow 1 [IV i,IV j,ZV u,T1]) (tO (Y9 i) (tO (nR k2 n) (tO (Y9 j) (tO (pd k2 b2 f) (tO (Y9 i) (tO (nR k1 n) (tO (Y9 j) (tO (pd k1 b1 u) ((tA 3 (tO (Y9 i) (tA 1 (tO (nR k2 n) (tA 2 (tO (Y9 j) (tA 1 (tO (pd k2 b2 f) (tA 1 ((tA 2 (tO (Y9 i) (tO (nR k2 n) (tO (Y9 j) (tO (pd k2 b2 f) (tX (my.grow 1 [IV i,IV j,ZV f,T1]) (tO (dS j) (tE Ok [] (UL n k i j) [(0,Y1 d1),(1,Y1 d2),(4,BR (cs++[IV i,IV j,ZV u,T1]++[IV i,IV j,ZV f,T1]) ((k+1+1)*4) 4 134)] 5 z zn)))))))).fork (tA 2 (tO (dS j) (tE No [] (Oc n k i j) (UK d1 d2 cs i j u k) 5 z zn))))))))))))).fork (tA 10 (tO (dS j) (tE No [] (Oc n k i j) (UK d1 d2 cs i j u k) 5 z zn))))))))))))).fork (tX (my.grow 1 [IV i,IV j,ZV u,F0]) (tO (Y9 i) (tO (nR k2 n) (tO (Y9 j) (tO (pd k2 b2 f) (tO (Y9 i) (tO (nR k1 n) (tO (Y9 j) (tO (pd k1 b1 u) ((tA 3 (tO (Y9 i) (tA 1 (tO (nR k2 n) (tA 2 (tO (Y9 j) (tA 1 (tO (pd k2 b2 f) (tA 1 ((tA 2 (tO (Y9 i) (tO (nR k2 n) (tO (Y9 j) (tO (pd k2 b2 f) (tX (my.grow 1 [IV i,IV j,ZV f,T1]) (tO (dS j) (tE Ok [] (UL n k i j) [(0,Y1 d1),(1,Y1 d2),(4,BR (cs++[IV i,IV j,ZV u,F0]++[IV i,IV j,ZV f,T1]) ((k+1+1)*4) 4 134)] 5 z zn)))))))).fork (tA 2 (tO (dS j) (tE No [] (Oc n k i j) (UJ d1 d2 cs i j u k) 5 z zn))))))))))))).fork (tA 10 (tO (dS j) (tE No [] (Oc n k i j) (UJ d1 d2 cs i j u k) 5 z zn))))))))))))))))))))))))))))))))))))))).fork (tA 1 (tE QH [] [eI n,(5,ep n),(6,cQ n),(7,SL 4 k k),(8,IV i)] (Rr d1 d2 cs k) 5 z zn)))
noncomputable abbrev YIE(n i:Nat)(d1 d2:ba)(z:T aa)(zn:Nat):qs->ax:=fun(s:qs)=>ax.mk ja [(1,iv n),(5,aX 0 n n),(6,aX 1 n n),(7,aX 4 s.k s.k),(8,iv i)] (qz d1 d2 s.bl) 5 z zn
theorem Z5(z:T aa)(zn n k i:Nat)(d1 d2 o:ba)(φ:qs->Prop)(Q:QL)(hyp:Br (decide ((↑i:Int)<(↑n:Int))) (Rf 4/\ai prog (ah Ud 0) 4 107 (vN n k i 0) (qz d1 d2 o) 5 z zn (Al.cons qs φ (YIE n i d1 d2 z zn) (fun(x:qs)=>eO) Al.nil).R/\E6 107 z zn (R6 (IV n) (ep n) (cQ n) (SL 3 k k) (IV i) YM (K3 (aA [YB,Ye,(4,3)] []) (Y1 d1) (Y1 d2) (Y1 o) (∀(x:qs),φ x->ZV (IntKind.i64.wrap ((↑i:Int)+1))=IV (i+1)/\E6 107 z zn (R5 (IV n) (ep n) (cQ n) (SL 4 x.k x.k) (IV (i+1)) (K3 (aA [YB,Ye,(3,4)] []) (Y1 d1) (Y1 d2) (aa.aw x.bl) (Q aN [eI n,(5,ep n),(6,cQ n),(7,SL 3 x.k x.k),Gk i] [(0,Y1 d1),(1,Y1 d2),(3,aa.aw x.bl)] 4 z zn))))))) (E6 107 z zn (Rs (SL 3 k k)/\KO (aA [(3,3)] []) (Y1 o)/\Q YO [zc k] [(3,Y1 o)] 4 z zn))):ew prog gH jW Ud 107 (Az n k i) z (NI d1 d2 o) 4 zn 3 Q:=K1t hyp ((tA 1 (Tr.lp 4 107 [YB,Ye,(4,3)] [] (vN n k i 0) (qz d1 d2 o) 5 z zn (Al.cons qs φ (YIE n i d1 d2 z zn) (fun(x:qs)=>tO (dS i) (tE [YB,Ye,(3,4)] [] [eI n,(5,ep n),(6,cQ n),(7,SL 3 x.k x.k),Gk i] [(0,Y1 d1),(1,Y1 d2),(3,aa.aw x.bl)] 4 z zn)) Al.nil))).fork (tA 1 (tE [(3,3)] [] [zc k] [(3,Y1 o)] 4 z zn)))
abbrev Ob(n:Nat):dy->Value:=fun(x:dy)=>aX 0 n n
abbrev Oa:dy->Nat:=fun(x:dy)=>x.zn
noncomputable abbrev YIH(x_1:dy):qs->ax:=fun(s:qs)=>ax.mk YO [(7,aX 3 s.k s.k)] [(3,aa.aw s.bl)] 4 x_1.z x_1.zn
abbrev YII(n:Nat)(x x_1:dy)(χ:dy->dy->qs->Prop):Prop:=ai prog Ud 3 107 (Az n 0 0) (NI x.bl x_1.bl Gw) 4 x_1.z x_1.zn (Al.cons qs (χ x x_1) (YIH x_1) (fun(x:qs)=>eO) Al.nil).R
noncomputable abbrev YIJ(n:Nat)(x:dy)(χ:dy->dy->qs->Prop):dy->Tr:=fun(x_1:dy)=>Tr.lp 3 107 [YB,Ye,(3,2)] [] (Az n 0 0) (NI x.bl x_1.bl Gw) 4 x_1.z x_1.zn (Al.cons qs (χ x x_1) (YIH x_1) (fun(x:qs)=>tR [(0,3)] [] (SL 0 x.k x.k) [(0,aa.aw x.bl)] 1 x_1.z x_1.zn) Al.nil)
theorem cq(z:T aa)(zn m cp n:Nat)(φ:dy->Prop)(ψ:dy->dy->Prop)(χ:dy->dy->qs->Prop)(Q:QF)(hyp:bF prog z zn 101 [fJ m cp,IV n,F0] [] 0 1 φ (Ob n) (fun(s:dy)=>[(0,kI s)]) (fun(x:dy)=>x.z) Oa/\Rs [fJ m cp,IV n,F0]/\ ∀(x:dy),φ x->Rs (ep n)/\KO (sig YC) (kI x)/\bF prog x.z x.zn 101 [fJ m cp,IV n,T1] [] 0 1 (ψ x) (Ob n) (fun(s:dy)=>[(0,kI s)]) (fun(x:dy)=>x.z) Oa/\Rs [fJ m cp,IV n,T1]/\ ∀(x_1:dy),ψ x x_1->Rs (ep n)/\KO (sig BJ) (kI x_1)/\Yg/\YII n x x_1 χ/\E6 107 x_1.z x_1.zn (R5 (IV n) (ep n) (cQ n) (SL 2 0 0) YM (K2 (aA [YB,Ye,(3,2)] []) (kI x) (kI x_1) (Ub/\ ∀(x_2:qs),χ x x_1 x_2->E6 107 x_1.z x_1.zn (KO (aA [(0,3)] []) (aa.aw x_2.bl)/\Rs (SL 3 x_2.k x_2.k)/\Q (SL 0 x_2.k x_2.k) [(0,aa.aw x_2.bl)] 1 x_1.z x_1.zn))))):ed prog gH jW f85 [tb 4 m cp,iv n] z [] 0 zn Q:=K1t hyp (Tr.cm (Cm.mk [fJ m cp,IV n,F0] [] 0 1 [] YC 1) dy φ (Ob n) (fun(s:dy)=>[(0,kI s)]) (fun(x:dy)=>ep n) (fun(x:dy)=>[(0,kI x)]) (fun(x:dy)=>x.z) Oa fun(x:dy)=>Tr.cm (Cm.mk [fJ m cp,IV n,T1] [] 0 1 [] BJ 2) dy (ψ x) (Ob n) (fun(s:dy)=>[(0,kI s)]) (fun(x:dy)=>cQ n) (fun(x:dy)=>[(1,kI x)]) (fun(x:dy)=>x.z) Oa (YIJ n x χ))
theorem cqn(z:T aa)(zn n:Nat)(φ:dy->Prop)(ψ:dy->dy->Prop)(χ:dy->dy->qs->Prop)(Q:QF)(hyp:bF prog z zn 101 [Yk,IV n,F0] [] 0 1 φ (Ob n) (fun(s:dy)=>[(0,kI s)]) (fun(x:dy)=>x.z) Oa/\Rs [Yk,IV n,F0]/\ ∀(x:dy),φ x->Rs (ep n)/\KO (sig YC) (kI x)/\bF prog x.z x.zn 101 [Yk,IV n,T1] [] 0 1 (ψ x) (Ob n) (fun(s:dy)=>[(0,kI s)]) (fun(x:dy)=>x.z) Oa/\Rs [Yk,IV n,T1]/\ ∀(x_1:dy),ψ x x_1->Rs (ep n)/\KO (sig BJ) (kI x_1)/\Yg/\YII n x x_1 χ/\E6 107 x_1.z x_1.zn (R5 (IV n) (ep n) (cQ n) (SL 2 0 0) YM (K2 (aA [YB,Ye,(3,2)] []) (kI x) (kI x_1) (Ub/\ ∀(x_2:qs),χ x x_1 x_2->E6 107 x_1.z x_1.zn (KO (aA [(0,3)] []) (aa.aw x_2.bl)/\Rs (SL 3 x_2.k x_2.k)/\Q (SL 0 x_2.k x_2.k) [(0,aa.aw x_2.bl)] 1 x_1.z x_1.zn))))):ed prog gH jW f85 [az,iv n] z [] 0 zn Q:=K1t hyp (Tr.cm (Cm.mk [Yk,IV n,F0] [] 0 1 [] YC 1) dy φ (Ob n) (fun(s:dy)=>[(0,kI s)]) (fun(x:dy)=>ep n) (fun(x:dy)=>[(0,kI x)]) (fun(x:dy)=>x.z) Oa fun(x:dy)=>Tr.cm (Cm.mk [Yk,IV n,T1] [] 0 1 [] BJ 2) dy (ψ x) (Ob n) (fun(s:dy)=>[(0,kI s)]) (fun(x:dy)=>cQ n) (fun(x:dy)=>[(1,kI x)]) (fun(x:dy)=>x.z) Oa (YIJ n x χ))
abbrev Gd(x:ae):aa:=BQ [ZV x.fz1,ZV x.aq,ZV x.aK,Value.bool x.sf] 4 1 134
noncomputable abbrev Rk:Code:=ah (ag f71) 0
theorem ZP(z:T aa)(zn i k:Nat)(N:aM)(kb:ba)(x y:ae)(Q:QL)(hyp:Br (decide ((↑k:Int)<(↑i:Int))) (Yz k/\k<N.np/\OI/\OH z kb/\Y4 kb k y/\Br (y.fz1==x.fz1) (Br (y.aq==x.aq) (Br y.sf (Br x.sf (E6 111 z zn (R2 (IV i) (I 6) (Q af.ret (sX i) [] 2 z zn))) (ZV (IntKind.i64.wrap ((↑k:Int)+1))=IV (k+1)/\E6 111 z zn (R4 Yi (IV i) YU (IV (k+1)) (KO nS (mw N)/\Rs (Gd x)/\Q aN (KH i k) [(0,mw N),(1,Gd x)] 2 z zn)))) (Br x.sf (ZV (IntKind.i64.wrap ((↑k:Int)+1))=IV (k+1)/\E6 111 z zn (R4 Yi (IV i) YU (IV (k+1)) (KO nS (mw N)/\Rs (Gd x)/\Q aN (KH i k) [(0,mw N),(1,Gd x)] 2 z zn))) (E6 111 z zn (R2 (IV i) (I 6) (Q af.ret (sX i) [] 2 z zn))))) (ZV (IntKind.i64.wrap ((↑k:Int)+1))=IV (k+1)/\E6 111 z zn (R4 Yi (IV i) YU (IV (k+1)) (KO nS (mw N)/\Rs (Gd x)/\Q aN (KH i k) [(0,mw N),(1,Gd x)] 2 z zn)))) (ZV (IntKind.i64.wrap ((↑k:Int)+1))=IV (k+1)/\E6 111 z zn (R4 Yi (IV i) YU (IV (k+1)) (KO nS (mw N)/\Rs (Gd x)/\Q aN (KH i k) [(0,mw N),(1,Gd x)] 2 z zn)))) (E6 111 z zn (R2 Yi (IV i) (KO YD (mw N)/\Q ja [pf,(4,IV i)] [(0,mw N)] 2 z zn)))):ew prog gP z (ah Rk 0) 111 (yl i k) z [zl N,(1,ya x)] 2 zn 2 Q:=K1t hyp ((tA 2 (tO (Y9 k) (tO (OE kb y) (tA 3 ((tA 7 ((tA 3 ((tA 2 ((tA 4 (tE [] [] (sX i) [] 2 z zn)).fork (tA 4 (tO (dS k) (tE dq [] (KH i k) [(0,mw N),(1,Gd x)] 2 z zn))))).fork (tA 2 ((tA 4 (tO (dS k) (tE dq [] (KH i k) [(0,mw N),(1,Gd x)] 2 z zn))).fork (tA 4 (tE [] [] (sX i) [] 2 z zn)))))).fork (tA 8 (tO (dS k) (tE dq [] (KH i k) [(0,mw N),(1,Gd x)] 2 z zn))))).fork (tA 13 (tO (dS k) (tE dq [] (KH i k) [(0,mw N),(1,Gd x)] 2 z zn)))))))).fork (tA 1 (tE YC [] [pf,(4,IV i)] [(0,mw N)] 2 z zn)))
abbrev YIM(x:ae):Value:=Value.bool (decide (1<=x.aK) && decide (x.aK<=14400))
theorem ZQ(z:T aa)(zn i:Nat)(N:aM)(kb:ba)(x:ae)(b:Bool)(Q:QL)(hyp:Br (decide ((↑i:Int)<(↑N.np:Int))) (Yz i/\i<N.np/\OI/\OH z kb/\Y4 kb i x/\WQ1 ((↑N.ns:Int) - 1)/\Rf z/\gP 82 [ZV x.fz1,YM,ZV ((↑N.ns:Int) - 1)]=some (Value.bool (decide (0<=x.fz1) && decide (x.fz1<=(↑N.ns:Int) - 1)))/\Br (!(decide (0<=x.fz1) && decide (x.fz1<=(↑N.ns:Int) - 1))) ((!(decide (0<=x.fz1) && decide (x.fz1<=(↑N.ns:Int) - 1)))=true/\(!(decide (0<=x.fz1) && decide (x.fz1<=(↑N.ns:Int) - 1)))=true/\(!(decide (0<=x.fz1) && decide (x.fz1<=(↑N.ns:Int) - 1)))=true/\(!(decide (0<=x.fz1) && decide (x.fz1<=(↑N.ns:Int) - 1)))=true/\(!(decide (0<=x.fz1) && decide (x.fz1<=(↑N.ns:Int) - 1)))=true/\(!(decide (0<=x.fz1) && decide (x.fz1<=(↑N.ns:Int) - 1)))=true/\(!(decide (0<=x.fz1) && decide (x.fz1<=(↑N.ns:Int) - 1)))=true/\(!(decide (0<=x.fz1) && decide (x.fz1<=(↑N.ns:Int) - 1)))=true/\E6 111 z zn (R2 (IV i) (I 9) (Q af.ret [(2,IV i),(3,I 9)] [] 1 z zn))) ((!(decide (0<=x.fz1) && decide (x.fz1<=(↑N.ns:Int) - 1)))=false/\(!(decide (0<=x.fz1) && decide (x.fz1<=(↑N.ns:Int) - 1)))=false/\(!(decide (0<=x.fz1) && decide (x.fz1<=(↑N.ns:Int) - 1)))=false/\(!(decide (0<=x.fz1) && decide (x.fz1<=(↑N.ns:Int) - 1)))=false/\(!(decide (0<=x.fz1) && decide (x.fz1<=(↑N.ns:Int) - 1)))=false/\WQ1 ((↑N.ns:Int) - 1)/\(!(decide (0<=x.fz1) && decide (x.fz1<=(↑N.ns:Int) - 1)))=false/\Rf z/\gP 82 [ZV x.aq,YM,ZV ((↑N.ns:Int) - 1)]=some (Value.bool (decide (0<=x.aq) && decide (x.aq<=(↑N.ns:Int) - 1)))/\(!(decide (0<=x.fz1) && decide (x.fz1<=(↑N.ns:Int) - 1)))=false/\(!(decide (0<=x.fz1) && decide (x.fz1<=(↑N.ns:Int) - 1)))=false/\Br (!(decide (0<=x.aq) && decide (x.aq<=(↑N.ns:Int) - 1))) ((!(decide (0<=x.aq) && decide (x.aq<=(↑N.ns:Int) - 1)))=true/\(!(decide (0<=x.aq) && decide (x.aq<=(↑N.ns:Int) - 1)))=true/\(!(decide (0<=x.aq) && decide (x.aq<=(↑N.ns:Int) - 1)))=true/\(!(decide (0<=x.aq) && decide (x.aq<=(↑N.ns:Int) - 1)))=true/\(!(decide (0<=x.aq) && decide (x.aq<=(↑N.ns:Int) - 1)))=true/\E6 111 z zn (R2 (IV i) (I 9) (Q af.ret [(2,IV i),(3,I 9)] [] 1 z zn))) ((!(decide (0<=x.aq) && decide (x.aq<=(↑N.ns:Int) - 1)))=false/\(!(decide (0<=x.aq) && decide (x.aq<=(↑N.ns:Int) - 1)))=false/\(!(decide (0<=x.aq) && decide (x.aq<=(↑N.ns:Int) - 1)))=false/\(!(decide (0<=x.aq) && decide (x.aq<=(↑N.ns:Int) - 1)))=false/\Br (x.fz1==x.aq) ((!(decide (0<=x.aq) && decide (x.aq<=(↑N.ns:Int) - 1)))=false/\E6 111 z zn (R2 (IV i) (I 9) (Q af.ret [(2,IV i),(3,I 9)] [] 1 z zn))) ((!(decide (0<=x.aq) && decide (x.aq<=(↑N.ns:Int) - 1)))=false/\Rf z/\gP 82 [ZV x.aK,I 1,I 14400]=some (YIM x)/\Br (!(decide (1<=x.aK) && decide (x.aK<=14400))) (E6 111 z zn (R2 (IV i) cC (Q af.ret (qv i) [] 1 z zn))) (sZ/\ai prog (ah Rk 0) 2 111 (yl i 0) [zl N,(1,ya x)] 2 z zn (alt (b=true) (Vy i z zn) (alt (b=false) (ax.mk ja (mq i) [zl N] 2 z zn) Al.nil)).R/\E6 111 z zn (R4 Yi (IV i) YU YM (KO nS (mw N)/\Rs (Gd
 x)/\(∀(x:Unit),b=true->E6 111 z zn (R2 (IV i) (I 6) (Q af.ret (sX i) [] 1 z zn)))/\ ∀(x:Unit),b=false->ZV (IntKind.i64.wrap ((↑i:Int)+1))=IV (i+1)/\E6 111 z zn (R2 Yi (IV (i+1)) (KO YD (mw N)/\Q aN [pf,(4,IV (i+1))] [(0,mw N)] 1 z zn))))))))) (E6 111 z zn (B6/\KO YD (mw N)/\Q YO [pf] [(0,mw N)] 1 z zn))):ew prog gP z Rk 111 (mq i) z [zl N] 1 zn 1 Q:=K1t hyp (tA 1 ((tA 2 (tO (Y9 i) (tO (OE kb x) (tA 3 (tO (An.val (ZV ((↑N.ns:Int) - 1))) (tO (An.cl (Value.bool (decide (0<=x.fz1) && decide (x.fz1<=(↑N.ns:Int) - 1)))) ((tO cH (tO cH (tO cH (tO cH (tO cH (tO cH (tO cH (tO cH (tA 7 (tE [] [] [(2,IV i),(3,I 9)] [] 1 z zn)))))))))).fork (tO bO (tA 1 (tO bO (tO bO (tA 1 (tO bO (tO bO (tO (An.val (ZV ((↑N.ns:Int) - 1))) (tO bO (tO (An.cl (Value.bool (decide (0<=x.aq) && decide (x.aq<=(↑N.ns:Int) - 1)))) (tO bO (tO bO ((tO cH (tO cH (tO cH (tO cH (tO cH (tA 1 (tE [] [] [(2,IV i),(3,I 9)] [] 1 z zn))))))).fork (tO bO (tA 1 (tO bO (tO bO (tA 1 (tO bO ((tO bO (tA 1 (tE [] [] [(2,IV i),(3,I 9)] [] 1 z zn))).fork (tO bO (tA 2 (tO (An.cl (YIM x)) ((Kg i z zn).fork (Tr.lp 2 111 dq [] (yl i 0) [zl N,(1,ya x)] 2 z zn (Al.cons Unit (YR b) (fun(x:Unit)=>Vy i z zn) (fun(x:Unit)=>tE [] [] (sX i) [] 1 z zn) (Al.cons Unit (YS b) (fun(x:Unit)=>ax.mk ja (mq i) [zl N] 2 z zn) (fun(x:Unit)=>tO (dS i) (tE YC [] [pf,(4,IV (i+1))] [(0,mw N)] 1 z zn)) Al.nil)))))))))))))))))))))))))))))))))).fork (tA 1 (tE YC [] [pf] [(0,mw N)] 1 z zn))))
theorem WB(z:T aa)(zn:Nat)(N:aM)(Q:QL)(hyp:E6 111 z zn (B6/\KO YD (Ns N)/\Q YO [pf] [(0,Ns N)] 1 z zn)):ew prog gP z Rk 111 (mq 0) z [(0,N.bW az)] 1 zn 1 Q:=K1t hyp (tA 3 (tE YC [] [pf] [(0,Ns N)] 1 z zn))
noncomputable abbrev UI:Code:=ah (ag f71) 2
theorem ZO(z:T aa)(zn i k:Nat)(N:aM)(kb bl:ba)(x y:ae)(b:Bool)(Q:QL)(hyp:Br (decide ((↑i:Int)<(↑k:Int))) (Yz i/\i<k/\Y4 bl i y/\Yz i/\i<N.np/\OI/\OH z kb/\Y4 kb i x/\F7 prog BinOp.neq 134 (Operand.tmp 104) (Operand.tmp 109) (Y3 y) (Y3 x) (gJ b)/\Br b (E6 111 z zn (R2 YM (I 18) (Q af.ret [(2,YM),(3,I 18)] [] 2 z zn))) (ZV (IntKind.i64.wrap ((↑i:Int)+1))=IV (i+1)/\E6 111 z zn (R3 Yi (cQ k) (IV (i+1)) (K2 nS (mw N) (Y1 bl) (Q aN [pf,(8,cQ k),Gj i] [(0,mw N),(1,Y1 bl)] 2 z zn))))) (E6 111 z zn (Q B0 [] [] 2 z zn))):ew prog gP z UI 111 (su k i) z [zl N,(1,Y1 bl)] 2 zn 2 Q:=K1t hyp ((tA 1 (tO (Y9 i) (tO (An.D1 (AG y.row)) (tA 1 (tO (Y9 i) (tO (OE kb x) (tX (my.bin (gJ b)) ((tE [] [] [(2,YM),(3,I 18)] [] 2 z zn).fork (tO (dS i) (tE dq [] [pf,(8,cQ k),Gj i] [(0,mw N),(1,Y1 bl)] 2 z zn)))))))))).fork (tA 1 (tE [] [] [] [] 2 z zn)))
theorem WA(z:T aa)(zn:Nat)(N:aM)(bl:ba)(Q:QL)(hyp:E6 111 z zn (Q B0 [] [] 2 z zn)):ew prog gP z UI 111 (su 0 0) z [(0,N.bW az),(1,Y1 bl)] 2 zn 2 Q:=K1t hyp (tA 2 (tE [] [] [] [] 2 z zn))
abbrev UH:qy->Value:=fun(s:qy)=>aX 0 s.k s.k
abbrev UG:qy->List (Nat × aa):=fun(s:qy)=>[(0,aa.aw s.bl)]
abbrev qo:qy->T aa:=fun(x:qy)=>x.z
abbrev UF:qy->Nat:=fun(x:qy)=>x.zn
abbrev Kc:Value:=TP [YM,I 18]
noncomputable abbrev YIT(x:qy):ax:=ax.mk af.ret [(2,YM),(3,I 18)] [] 2 (qo x) x.zn
noncomputable abbrev YIU(b:Bool)(x:qy):ax->Prop:=(alt (b=false) (YIT x) (alt (b=true) (ax.mk B0 [] [] 2 (qo x) x.zn) Al.nil)).R
abbrev YIV:qy->List (Nat × aa):=fun(x:qy)=>[(1,aa.aw x.bl)]
noncomputable abbrev YIW(b:Bool)(x:qy):Al:=Al.cons Unit (YS b) (fun(x_1:Unit)=>YIT x) (fun(x_1:Unit)=>tR [] [] Kc [] 0 (qo x) x.zn) (Al.cons Unit (YR b) (fun(x_1:Unit)=>ax.mk B0 [] [] 2 (qo x) x.zn) (fun(x_1:Unit)=>tR [] [] sY [] 0 (qo x) x.zn) Al.nil)
theorem pp(z:T aa)(zn:Nat)(N:aM)(b:Bool)(r1 r2:Int)(φ:qy->Prop)(Q:QF)(hyp:YP/\ai prog Rk 1 111 (mq 0) [zl N] 1 z zn (alt (r2≠0) (ax.mk af.ret [(2,zv r1),(3,zv r2)] [] 1 z zn) (alt (r1=0/\r2=0) (ax.mk YO [(1,Y8)] [zl N] 1 z zn) Al.nil)).R/\E6 111 z zn (R2 Yi YM (KO YD (mw N)/\(∀(x:Unit),r2≠0->E6 111 z zn (BK r1 r2/\Q (GQ r1 r2) [] 0 z zn))/\ ∀(x:Unit),r1=0/\r2=0->bF prog z zn 85 [Kh N,IV N.ns] [] 0 1 φ UH UG qo UF/\Rs [Kh N,IV N.ns]/\ ∀(x:qy),φ x->Rs (SL 0 x.k x.k)/\KO (sig BJ) (aa.aw x.bl)/\(((↑x.k:Int) !=(↑N.np:Int))=true->E6 111 (qo x) x.zn (Rs Kc/\Q Kc [] 0 (qo x) x.zn))/\(((↑x.k:Int) !=(↑N.np:Int))=false->sZ/\ai prog UI 2 111 (su x.k 0) [zl N,(1,aa.aw x.bl)] 2 (qo x) x.zn (YIU b x)/\E6 111 (qo x) x.zn (R3 Yi (SL 1 x.k x.k) YM (K2 nS (mw N) (aa.aw x.bl) ((∀(x_1:Unit),b=false->E6 111 (qo x) x.zn (Rs Kc/\Q Kc [] 0 (qo x) x.zn))/\ ∀(x_1:Unit),b=true->E6 111 (qo x) x.zn (vW/\Q sY [] 0 (qo x) x.zn)))))))):ed prog gP z f71 [AG (N.iz N.p1)] z [] 0 zn Q:=K1t hyp (Tr.lp 1 111 YC [] (mq 0) [zl N] 1 z zn (Al.cons Unit (Ur r2) (fun(x:Unit)=>ax.mk af.ret [(2,zv r1),(3,zv r2)] [] 1 z zn) (RX r1 r2 z zn) (Al.cons Unit (Q3 r1 r2) (fun(x:Unit)=>ax.mk YO [(1,Y8)] [zl N] 1 z zn) (fun(x:Unit)=>tA 2 (Tr.cm (Cm.mk [Kh N,IV N.ns] [] 0 1 [] BJ 2) qy φ UH UG (fun(x:qy)=>SL 1 x.k x.k) YIV qo UF fun(x:qy)=>tA 1 ((tA 1 (tR [] [] Kc [] 0 (qo x) x.zn)).fork (tA 1 (Tr.lp 2 111 dq [] (su x.k 0) [zl N,(1,aa.aw x.bl)] 2 (qo x) x.zn (YIW b x)))))) Al.nil)))
theorem ppz(z:T aa)(zn:Nat)(N:aM)(b:Bool)(φ:qy->Prop)(Q:QF)(hyp:YP/\ai prog Rk 1 111 (mq 0) [(0,N.bW az)] 1 z zn (alt (0≠0) (ax.mk af.ret [(2,zv 0),(3,zv 0)] [] 1 z zn) (alt (r9/\r9) (ax.mk YO [(1,Y8)] [(0,N.bW az)] 1 z zn) Al.nil)).R/\E6 111 z zn (R2 Yi YM (KO YD (Ns N)/\(∀(x:Unit),0≠0->E6 111 z zn (vW/\Q sY [] 0 z zn))/\ ∀(x:Unit),r9/\r9->bF prog z zn 85 [Yk,IV N.ns] [] 0 1 φ UH UG qo UF/\Rs [Yk,IV N.ns]/\ ∀(x:qy),φ x->Rs (SL 0 x.k x.k)/\KO (sig BJ) (aa.aw x.bl)/\(((↑x.k:Int) !=0)=true->E6 111 (qo x) x.zn (Rs Kc/\Q Kc [] 0 (qo x) x.zn))/\(((↑x.k:Int) !=0)=false->sZ/\ai prog UI 2 111 (su x.k 0) [(0,N.bW az),(1,aa.aw x.bl)] 2 (qo x) x.zn (YIU b x)/\E6 111 (qo x) x.zn (R3 Yi (SL 1 x.k x.k) YM (K2 nS (Ns N) (aa.aw x.bl) ((∀(x_1:Unit),b=false->E6 111 (qo x) x.zn (Rs Kc/\Q Kc [] 0 (qo x) x.zn))/\ ∀(x_1:Unit),b=true->E6 111 (qo x) x.zn (vW/\Q sY [] 0 (qo x) x.zn)))))))):ed prog gP z f71 [AG (N.iz az)] z [] 0 zn Q:=K1t hyp (Tr.lp 1 111 YC [] (mq 0) [(0,N.bW az)] 1 z zn (Al.cons Unit (fun(x:Unit)=>0≠0) (fun(x:Unit)=>ax.mk af.ret [(2,zv 0),(3,zv 0)] [] 1 z zn) (KL z zn) (Al.cons Unit (fun(x:Unit)=>r9/\r9) (fun(x:Unit)=>ax.mk YO [(1,Y8)] [(0,N.bW az)] 1 z zn) (fun(x:Unit)=>tA 2 (Tr.cm (Cm.mk [Yk,IV N.ns] [] 0 1 [] BJ 2) qy φ UH UG (fun(x:qy)=>SL 1 x.k x.k) YIV qo UF fun(x:qy)=>tA 1 ((tA 1 (tR [] [] Kc [] 0 (qo x) x.zn)).fork (tA 1 (Tr.lp 2 111 dq [] (su x.k 0) [(0,N.bW az),(1,aa.aw x.bl)] 2 (qo x) x.zn (YIW b x)))))) Al.nil)))
end
end Go.Proofs.Nw
namespace Go.Proofs.Nw
open Go Go.AV Tryz Go.jo
set_option maxHeartbeats 1000000
set_option maxRecDepth 100000
def dt(L:List ae):ba:=if L=[] then Gw else Rh (L.map ae.row).flatten L.length
theorem wA(L:List ae)(x:ae):dt (L++[x])=Rh ((L.map ae.row).flatten++x.row) (L.length+1):=by
 unfold dt
 rw[if_neg (by simp),j8,List.length_append];rfl
theorem Hy(L:List ae)(x y:ae):dt (L++[x]++[y])=Rh ((L.map ae.row).flatten++x.row++y.row) (L.length+1+1):=by
 rw[wA,←j8 L x,List.length_append];rfl
def dW(M F:Nat->Nat->Int)(i:Nat)(L:List ae)(j:Nat):List ae:=
 if i=j\/14400<M i j then L else if M i j<F i j/\F i j<=14400 then L++[⟨i,j,M i j,F i j==M i j⟩]++[⟨i,j,F i j,true⟩] else L++[⟨i,j,M i j,F i j==M i j⟩]
def bN(M F:Nat->Nat->Int)(i:Nat)(L:List ae)(m:Nat):List ae:=(List.range m).foldl (dW M F i) L
def bZ(M F:Nat->Nat->Int)(n m:Nat):List ae:=(List.range m).foldl (fun L i=>bN M F i L n) []
theorem j7(M F:Nat->Nat->Int)(i:Nat)(L:List ae)(m:Nat):bN M F i L (m+1)=dW M F i (bN M F i L m) m:=by
 unfold bN;rw[List.range_succ,List.foldl_append];rfl
theorem iJ(M F:Nat->Nat->Int)(n m:Nat):bZ M F n (m+1)=bN M F m (bZ M F n m) n:=by
 unfold bZ;rw[List.range_succ,List.foldl_append];rfl
theorem zS(M F:Nat->Nat->Int)(i:Nat)(L:List ae)(j:Nat):(dW M F i L j).length<=L.length+2:=by
 unfold dW
 split
 ·omega
 ·split<;>simp
theorem tU(M F:Nat->Nat->Int)(i:Nat)(L:List ae)(m:Nat):(bN M F i L m).length<=L.length+2*m:=by
 induction m with
 |zero=>exact Nat.le_refl _
 |succ m ih=>rw[j7];have:=zS M F i (bN M F i L m) m;omega
theorem oL(M F:Nat->Nat->Int)(n m:Nat):(bZ M F n m).length<=m*(2*n):=by
 induction m with
 |zero=>exact Nat.zero_le _
 |succ m ih=>
  rw[iJ]
  have:=tU M F m (bZ M F n m) n
  have e:(m+1)*(2*n)=m*(2*n)+2*n:=Nat.succ_mul ..
  omega
theorem fD{σ:Nat->Option Nat}(L:List ae):aI σ (.aw (dt L))=some (.aw (dt L)):=by
 unfold dt
 split
 ·rfl
 ·exact cR (jK L)
theorem DC{σ:Nat->Option Nat}(L:List ae)(x y:ae)(c:Nat):aI σ (.aw (ba.mk ((L.map ae.row).flatten++x.row++y.row) c 4 134 false false 0 true))=some (.aw (ba.mk ((L.map ae.row).flatten++x.row++y.row) c 4 134 false false 0 true)):=cR (by
 rw[j8,j8];exact jK _)
def sg(z:T aa)(b n:Nat)(M:Nat->Nat->Int):Prop:= ∀i,i<n-> ∃l:List Int,z.get (b+i)=some (.aw (zO (l.map zv) n))/\l.length=n/\ ∀j,j<n->l[j]? =some (M i j)
theorem tI{z:T aa}{b n:Nat}{M:Nat->Nat->Int}(h:sg z b n M){i j:Nat}(hi:i<n)(hj:j<n): ∃k,z.get (b+i)=some (.aw k)/\aE prog k 3 (0+j*1)=some (zv (M i j)):=by
 obtain⟨l,h1,h2,h3⟩:=h i hi
 exact⟨_,h1,ju (d:=_) underlying3 rfl (by show(l.map zv)[j]? =_;rw[List.getElem?_map,h3 j hj];rfl)⟩
section
variable{z:T aa}{zn:Nat}
theorem Iz(hz:ay z zn)(n:Nat)(hn:n<=64)(b1 b2:Nat)(M F:Nat->Nat->Int)(hM:sg z b1 n M)(hF:sg z b2 n F)(i:Nat)(hi:i<n)(L:List ae)(hL:L.length<=10000):
 ai prog (ah (ah (ag f85) 0) 0) 4 107 (vN n L.length i 0) (qz (dO b1 n n) (dO b2 n n) (dt L)) 5 z zn (Al.R (PG z zn n L.length i (dO b1 n n) (dO b2 n n) (dt L) (fun s=>s=⟨(bN M F i L n).length,dt (bN M F i L n)⟩)).l):=by
 refine an hD (cS T.leaf) (α:=Nat) 4 107 5 (fun j=>j<=n) (fun j=>vN n (bN M F i L j).length i j) (fun j=>qz (dO b1 n n) (dO b2 n n) (dt (bN M F i L j))) (fun _=>z) (fun _=>zn) (fun j=>n - j) _ (fun j hj=>?_) 0 (Nat.zero_le _)
 have hrl:=tU M F i L j
 have nx: ∀L' k' bl,bN M F i L (j+1)=L'->k'=L'.length->bl=dt L'->j<n->ak (fun j=>j<=n) (fun j=>vN n (bN M F i L j).length i j) (fun j=>qz (dO b1 n n) (dO b2 n n) (dt (bN M F i L j))) 5 (fun _=>z) (fun _=>zn) (fun j=>n - j) (Al.R (PG z zn n L.length i (dO b1 n n) (dO b2 n n) (dt L) (fun s=>s=⟨(bN M F i L n).length,dt (bN M F i L n)⟩)).l) j .normal (vN n k' i (j+1)) (qz (dO b1 n n) (dO b2 n n) bl) 5 z zn:=fun L' k' bl e1 e2 e3 h=>by
  subst e1 e2 e3
  exact⟨j+1,rfl,rfl,rfl,rfl,rfl,h,by show n - (j+1)<n - j;omega⟩
 have fin:j=n->ak (fun j=>j<=n) (fun j=>vN n (bN M F i L j).length i j) (fun j=>qz (dO b1 n n) (dO b2 n n) (dt (bN M F i L j))) 5 (fun _=>z) (fun _=>zn) (fun j=>n - j) (Al.R (PG z zn n L.length i (dO b1 n n) (dO b2 n n) (dt L) (fun s=>s=⟨(bN M F i L n).length,dt (bN M F i L n)⟩)).l) j (.exit 2) [(1,iv n),(5,aX 0 n n),(6,aX 1 n n),(7,aX 4 (bN M F i L j).length (bN M F i L j).length),(8,iv i)] (qz (dO b1 n n) (dO b2 n n) (dt (bN M F i L j))) 5 z zn:=fun e=>by
  subst e
  exact Or.inl ⟨(⟨(bN M F i L j).length,dt (bN M F i L j)⟩:qs),rfl,rfl⟩
 have hsucc:=j7 M F i L j
 generalize bN M F i L j=K at hrl nx fin hsucc ⊢
 by_cases hlt:j<n
 ·have hc:decide ((j:Int)<(n:Int))=true:=by simp;omega
  obtain⟨k1,g1,r1⟩:=tI hM hi hlt
  obtain⟨k2,g2,r2⟩:=tI hF hi hlt
  have d1:aE prog (dO b1 n n) 160 (0+i*1)=_:=qc hi
  have d2:aE prog (dO b2 n n) 160 (0+i*1)=_:=qc hi
  have w0:((i:Int)==(j:Int))=true->bN M F i L (j+1)=K:=fun h=>by
   rw[hsucc];unfold dW;rw[if_pos (.inl (by simp at h;omega))]
  have w1:decide (M i j>14400)=true->bN M F i L (j+1)=K:=fun h=>by
   rw[hsucc];unfold dW;rw[if_pos (.inr (by simp at h;omega))]
  have w2:((i:Int)==(j:Int))=false->decide (M i j>14400)=false-> ∀fl,(F i j==M i j)=fl->decide (F i j>M i j)=true->decide (F i j<=14400)=true->bN M F i L (j+1)=K++[⟨i,j,M i j,fl⟩]++[⟨i,j,F i j,true⟩]:=fun h1 h2 fl h3 h4 h5=>by
   rw[hsucc];unfold dW
   rw[if_neg (by simp at h1 h2;omega),if_pos (by simp at h4 h5;omega),h3]
  have w3:((i:Int)==(j:Int))=false->decide (M i j>14400)=false-> ∀fl,(F i j==M i j)=fl->decide (F i j<=14400)=false->bN M F i L (j+1)=K++[⟨i,j,M i j,fl⟩]:=fun h1 h2 fl h3 h5=>by
   rw[hsucc];unfold dW
   rw[if_neg (by simp at h1 h2;omega),if_neg (by simp at h5;omega),h3]
  have w4:((i:Int)==(j:Int))=false->decide (M i j>14400)=false-> ∀fl,(F i j==M i j)=fl->decide (F i j>M i j)=false->bN M F i L (j+1)=K++[⟨i,j,M i j,fl⟩]:=fun h1 h2 fl h3 h5=>by
   rw[hsucc];unfold dW
   rw[if_neg (by simp at h1 h2;omega),if_neg (by simp at h5;omega),h3]
  by_cases hK:K=[]
  ·subst hK
   refine t100 (TQ z zn n i j (b1+i) (b2+i) (dO b1 n n) (dO b2 n n) k1 k2 (M i j) (F i j) (ak _ _ _ _ _ _ _ _ _) ⟨fun _=>?_,nC1 hc⟩)
   (repeat' first|(with_reducible first|exact rfl|assumption|apply And.intro|exact dA _ _ _|exact bP (by omega))|intro hq)
   all_goals first
    |exact nx _ _ _ (w0 (by with_reducible assumption)) rfl rfl hlt
    |exact nx _ _ _ (w1 (by with_reducible assumption)) rfl rfl hlt
    |exact nx _ _ _ (w2 (by with_reducible assumption) (by with_reducible assumption) _ (by with_reducible assumption) (by with_reducible assumption) (by with_reducible assumption)) rfl rfl hlt
    |exact nx _ _ _ (w3 (by with_reducible assumption) (by with_reducible assumption) _ (by with_reducible assumption) (by with_reducible assumption)) rfl rfl hlt
    |exact nx _ _ _ (w4 (by with_reducible assumption) (by with_reducible assumption) _ (by with_reducible assumption) (by with_reducible assumption)) rfl rfl hlt
  ·have eK:dt K=Rh (K.map ae.row).flatten K.length:=by unfold dt;rw[if_neg hK]
   have s1: ∀fl,(⟨(K.map ae.row).flatten++(⟨i,j,M i j,fl⟩:ae).row,(K.length+1)*4,4,134,false,false,0,true⟩:ba)=dt (K++[⟨i,j,M i j,fl⟩]):=fun fl=>(wA _ _).symm
   have s2: ∀fl,(⟨(K.map ae.row).flatten++(⟨i,j,M i j,fl⟩:ae).row++(⟨i,j,F i j,true⟩:ae).row,(K.length+1+1)*4,4,134,false,false,0,true⟩:ba)=dt (K++[⟨i,j,M i j,fl⟩]++[⟨i,j,F i j,true⟩]):=fun fl=>(Hy _ _ _).symm
   have m1: ∀x:ae,K.length+1=(K++[x]).length:=fun x=>by simp
   have m2: ∀x y:ae,K.length+1+1=(K++[x]++[y]).length:=fun x y=>by simp
   have p1: ∀fl,((K.map ae.row).flatten++(⟨i,j,M i j,fl⟩:ae).row).length=(K.length+1)*4:=fun fl=>by
    rw[j8,Cr];simp
   rw[eK]
   refine t100 (Z4 z zn n K.length i j (b1+i) (b2+i) (dO b1 n n) (dO b2 n n) k1 k2 (M i j) (F i j) (K.map ae.row).flatten (ak _ _ _ _ _ _ _ _ _) ⟨fun _=>?_,nC1 hc⟩)
   (repeat' first|(with_reducible first|exact rfl|assumption|apply And.intro|exact Cr K|exact p1 _|exact dA _ _ _|exact cR (jK K)|exact Ck K ⟨i,j,M i j,true⟩ _|exact Ck K ⟨i,j,M i j,false⟩ _|exact DC K ⟨i,j,M i j,true⟩ ⟨i,j,F i j,true⟩ _|exact DC K ⟨i,j,M i j,false⟩ ⟨i,j,F i j,true⟩ _|exact(by omega:K.length+1<=1048576)|exact(by omega:K.length+1+1<=1048576)|exact bP (by omega))|intro hq)
   all_goals first
    |exact nx _ _ _ (w0 (by with_reducible assumption)) rfl eK.symm hlt
    |exact nx _ _ _ (w1 (by with_reducible assumption)) rfl eK.symm hlt
    |exact nx _ _ _ (w2 (by with_reducible assumption) (by with_reducible assumption) _ (by with_reducible assumption) (by with_reducible assumption) (by with_reducible assumption)) (m2 _ _) (s2 _) hlt
    |exact nx _ _ _ (w3 (by with_reducible assumption) (by with_reducible assumption) _ (by with_reducible assumption) (by with_reducible assumption)) (m1 _) (s1 _) hlt
    |exact nx _ _ _ (w4 (by with_reducible assumption) (by with_reducible assumption) _ (by with_reducible assumption) (by with_reducible assumption)) (m1 _) (s1 _) hlt
 ·have hjn:j=n:=by omega
  have hc:decide ((j:Int)<(n:Int))=false:=by simp;omega
  by_cases hK:K=[]
  ·subst hK
   refine t100 (TQ z zn n i j 0 0 (dO b1 n n) (dO b2 n n) Gw Gw 0 0 (ak _ _ _ _ _ _ _ _ _) ⟨nC1 hc,fun _=>?_⟩)
   (repeat' first|(with_reducible first|exact rfl|assumption|apply And.intro|exact dA _ _ _))
   exact fin hjn
  ·have eK:dt K=Rh (K.map ae.row).flatten K.length:=by unfold dt;rw[if_neg hK]
   rw[eK] at fin ⊢
   refine t100 (Z4 z zn n K.length i j 0 0 (dO b1 n n) (dO b2 n n) Gw Gw 0 0 (K.map ae.row).flatten (ak _ _ _ _ _ _ _ _ _) ⟨nC1 hc,fun _=>?_⟩)
   (repeat' first|(with_reducible first|exact rfl|assumption|apply And.intro|exact dA _ _ _|exact cR (jK K)))
   exact fin hjn
end
section
variable{z:T aa}{zn:Nat}
theorem AN(hz:ay z zn)(n:Nat)(hn:n<=64)(b1 b2:Nat)(M F:Nat->Nat->Int)(hM:sg z b1 n M)(hF:sg z b2 n F):
 ai prog (ah (ag f85) 0) 3 107 (Az n 0 0) (NI (dO b1 n n) (dO b2 n n) Gw) 4 z zn (Al.R (PH z zn n (dO b1 n n) (dO b2 n n) (fun s=>s=⟨(bZ M F n n).length,dt (bZ M F n n)⟩)).l):=by
 refine an hD (cS T.leaf) (α:=Nat) 3 107 4 (fun i=>i<=n) (fun i=>Az n (bZ M F n i).length i) (fun i=>NI (dO b1 n n) (dO b2 n n) (dt (bZ M F n i))) (fun _=>z) (fun _=>zn) (fun i=>n - i) _ (fun i hi=>?_) 0 (Nat.zero_le _)
 by_cases hlt:i<n
 ·have hc:decide ((i:Int)<(n:Int))=true:=by simp;omega
  have hll:(bZ M F n i).length<=10000:=by
   have:=oL M F n i
   have h2:i*(2*n)<=64*(2*64):=Nat.mul_le_mul (by omega) (by omega)
   omega
  have hlp:=Iz hz n hn b1 b2 M F hM hF i hlt (bZ M F n i) hll
  refine t100 (Z5 z zn n (bZ M F n i).length i (dO b1 n n) (dO b2 n n) (dt (bZ M F n i)) (fun s=>s=⟨(bN M F i (bZ M F n i) n).length,dt (bN M F i (bZ M F n i) n)⟩) (ak _ _ _ _ _ _ _ _ _) ⟨fun _=>?_,nC1 hc⟩)
  have rq: ∀(σ:bu)(s:qs),s=⟨(bN M F i (bZ M F n i) n).length,dt (bN M F i (bZ M F n i) n)⟩->aI (aA σ []) (.aw s.bl)=some (.aw s.bl):=fun σ s h=>by rw[h];exact fD _
  (repeat' first|(with_reducible first|exact rfl|assumption|apply And.intro|exact dA _ _ _|exact fD _|exact rq _ _ ‹_›|exact bP (by omega))|exact hlp|intro hq)
  rename_i x hq
  subst hq
  exact⟨i+1,by simp only[iJ];rfl,by simp only[iJ],rfl,rfl,rfl,hlt,by show n - (i+1)<n - i;omega⟩
 ·have hin:i=n:=by omega
  subst hin
  have hc:decide ((i:Int)<(i:Int))=false:=by simp
  refine t100 (Z5 z zn i (bZ M F i i).length i (dO b1 i i) (dO b2 i i) (dt (bZ M F i i)) (fun _=>False) (ak _ _ _ _ _ _ _ _ _) ⟨nC1 hc,fun _=>?_⟩)
  (repeat' first|(with_reducible first|exact rfl|assumption|apply And.intro|exact fD _))
  exact Or.inl ⟨(⟨(bZ M F i i).length,dt (bZ M F i i)⟩:qs),rfl,rfl⟩
end
def Gp(E:bU)(n i j:Nat)(v:Int):Prop:=BU E n lS i j v/\v<=(lS:Int)
def MF(n:Nat)(l:List ae)(M F:Nat->Nat->Int):Prop:=(∀i j,i<n->j<n->Gp (cX (fm l false)) n i j (M i j))/\(∀i j,i<n->j<n->Gp (cX (fm l true)) n i j (F i j))
structure B8(z:T aa)(zn:Nat)(C:List ae)(s:qy):Prop where
 k:s.k=C.length
 bl:s.bl=dt C
 bQ:ay s.z s.zn
 le:zn<=s.zn
 iL: ∀k,k<zn->s.z.get k=z.get k
theorem ly{z:T aa}{zn n:Nat}{l:List ae}{b:Bool}{s:dy}(h:oz z zn n l b s): ∀k,k<zn->s.z.get k=z.get k:=by
 obtain⟨_,_,M,h,_⟩:=h;exact h.iL
theorem pt{z:T aa}{zn n:Nat}{l:List ae}{b:Bool}{s:dy}(h:oz z zn n l b s): ∃M,sg s.z zn n M/\ ∀i j,i<n->j<n->Gp (cX (fm l b)) n i j (M i j):=by
 obtain⟨_,_,M,h1,h2,h3⟩:=h
 exact⟨M,h1.row,fun i j hi hj=>⟨IZ h3 hi hj,h2.le i j hi hj⟩⟩
theorem tJ{z z':T aa}{b n m:Nat}{d:Nat->Nat->Int}(h:sg z b n d)(hb:b+n<=m)(hk: ∀k,k<m->z'.get k=z.get k):sg z' b n d:=fun i hi=>by
 obtain⟨l,h1,h2⟩:=h i hi
 exact⟨l,by rw[hk _ (by omega)];exact h1,h2⟩
section
variable{z:T aa}{zn:Nat}
theorem FY(hz:ay z zn)(h5:5<=zn)(n:Nat)(hn:n<=64)(l:List ae)(hl:nm n l)(hll:l.length<=10000)(cp:Nat)(hL:cf z 4 (l.map ae.row))(C:List ae)(hC: ∀M F,MF n l M F->bZ M F n n=C):
 bF prog z zn 85 [tb 4 l.length cp,iv n] [] 0 1 (B8 z zn C) (fun s=>aX 0 s.k s.k) (fun s=>[(0, .aw s.bl)]) (fun s=>s.z) (fun s=>s.zn):=by
 have d1:=Ej hz h5 n hn l hl hll cp hL false
 have d2: ∀s,oz z zn n l false s->bF prog s.z s.zn 101 [tb 4 l.length cp,iv n,T1] [] 0 1 (oz s.z s.zn n l true) (fun _=>aX 0 n n) (fun s=>[(0, .aw s.bl)]) (fun s=>s.z) (fun s=>s.zn):=fun s h=>Ej h.bQ (by rw[h.2.1];omega) n hn l hl hll cp (dU hL hz (ly h)) true
 have rb: ∀{z zn b s},oz z zn n l b s-> ∀σ,aI (aA σ []) (.aw s.bl)=some (.aw s.bl):=fun h σ=>by rw[h.1];exact dA _ _ _
 have rb2: ∀{z zn b s},oz z zn n l b s-> ∀σ,aI (sig σ) (.aw s.bl)=some (.aw s.bl):=fun h σ=>rb h σ
 have lp: ∀s1 s2,oz z zn n l false s1->oz s1.z s1.zn n l true s2->ai prog (ah (ag f85) 0) 3 107 (Az n 0 0) (NI s1.bl s2.bl Gw) 4 s2.z s2.zn (Al.R (PH s2.z s2.zn n s1.bl s2.bl (fun s=>s=⟨C.length,dt C⟩)).l):=fun s1 s2 h1 h2=>by
  obtain⟨M,m1,m2⟩:=pt h1
  obtain⟨F,f1,f2⟩:=pt h2
  have:=AN h2.bQ n hn zn s1.zn M F (tJ m1 (by rw[h1.2.1];exact Nat.le_refl _) (ly h2)) f1
  rw[hC M F ⟨m2,f2⟩] at this
  rw[h1.1,h2.1]
  exact this
 have ro: ∀(σ:bu)(s:qs),s=⟨C.length,dt C⟩->aI (aA σ []) (.aw s.bl)=some (.aw s.bl):=fun σ s h=>by rw[h];exact fD _
 have le2: ∀s1 s2,oz z zn n l false s1->oz s1.z s1.zn n l true s2->zn<=s2.zn:=fun s1 s2 h1 h2=>by rw[h2.2.1,h1.2.1];omega
 have fin: ∀s1 s2,oz z zn n l false s1->oz s1.z s1.zn n l true s2->B8 z zn C ⟨C.length,dt C,s2.z,s2.zn⟩:=fun s1 s2 h1 h2=>⟨rfl,rfl,h2.bQ,le2 s1 s2 h1 h2,fun k hk=>(ly h2 k (by rw[h1.2.1];omega)).trans (ly h1 k hk)⟩
 refine gi (cS T.leaf) (fn:=f85) (by kernel_rfl) (by kernel_rfl) hz ⟨by decide,by decide⟩ (fun s hs=>⟨rfl,hs.le,hs.bQ⟩) (N:=100) ?_
 refine cq z zn l.length cp n (oz z zn n l false) (fun s=>oz s.z s.zn n l true) (fun _ _ s=>s=⟨C.length,dt C⟩) _ ?_
 (repeat' first|(with_reducible first|exact rfl|assumption|apply And.intro|exact d2 _ ‹_›|exact oz.bQ ‹_›|exact rb ‹_› _|exact rb2 ‹_› _|exact ro _ _ ‹_›)|exact lp _ _ (by with_reducible assumption) (by with_reducible assumption)|intro hq)
 rename_i s1 h1 s2 h2 s
 subst hq
 exact q2 (⟨C.length,dt C,s2.z,s2.zn⟩:qy) (fin s1 s2 h1 h2) rfl rfl rfl rfl rfl
theorem C6(hz:ay z zn)(h5:5<=zn)(n:Nat)(hn:n<=64)(C:List ae)(hC: ∀M F,MF n [] M F->bZ M F n n=C):
 bF prog z zn 85 [az,iv n] [] 0 1 (B8 z zn C) (fun s=>aX 0 s.k s.k) (fun s=>[(0, .aw s.bl)]) (fun s=>s.z) (fun s=>s.zn):=by
 have d1:=Bt hz h5 n hn false
 have d2: ∀s,oz z zn n [] false s->bF prog s.z s.zn 101 [az,iv n,T1] [] 0 1 (oz s.z s.zn n [] true) (fun _=>aX 0 n n) (fun s=>[(0, .aw s.bl)]) (fun s=>s.z) (fun s=>s.zn):=fun s h=>Bt h.bQ (by rw[h.2.1];omega) n hn true
 have rb: ∀{z zn b s},oz z zn n [] b s-> ∀σ,aI (aA σ []) (.aw s.bl)=some (.aw s.bl):=fun h σ=>by rw[h.1];exact dA _ _ _
 have rb2: ∀{z zn b s},oz z zn n [] b s-> ∀σ,aI (sig σ) (.aw s.bl)=some (.aw s.bl):=fun h σ=>rb h σ
 have lp: ∀s1 s2,oz z zn n [] false s1->oz s1.z s1.zn n [] true s2->ai prog (ah (ag f85) 0) 3 107 (Az n 0 0) (NI s1.bl s2.bl Gw) 4 s2.z s2.zn (Al.R (PH s2.z s2.zn n s1.bl s2.bl (fun s=>s=⟨C.length,dt C⟩)).l):=fun s1 s2 h1 h2=>by
  obtain⟨M,m1,m2⟩:=pt h1
  obtain⟨F,f1,f2⟩:=pt h2
  have:=AN h2.bQ n hn zn s1.zn M F (tJ m1 (by rw[h1.2.1];exact Nat.le_refl _) (ly h2)) f1
  rw[hC M F ⟨m2,f2⟩] at this
  rw[h1.1,h2.1]
  exact this
 have ro: ∀(σ:bu)(s:qs),s=⟨C.length,dt C⟩->aI (aA σ []) (.aw s.bl)=some (.aw s.bl):=fun σ s h=>by rw[h];exact fD _
 have le2: ∀s1 s2,oz z zn n [] false s1->oz s1.z s1.zn n [] true s2->zn<=s2.zn:=fun s1 s2 h1 h2=>by rw[h2.2.1,h1.2.1];omega
 have fin: ∀s1 s2,oz z zn n [] false s1->oz s1.z s1.zn n [] true s2->B8 z zn C ⟨C.length,dt C,s2.z,s2.zn⟩:=fun s1 s2 h1 h2=>⟨rfl,rfl,h2.bQ,le2 s1 s2 h1 h2,fun k hk=>(ly h2 k (by rw[h1.2.1];omega)).trans (ly h1 k hk)⟩
 refine gi (cS T.leaf) (fn:=f85) (by kernel_rfl) (by kernel_rfl) hz ⟨by decide,by decide⟩ (fun s hs=>⟨rfl,hs.le,hs.bQ⟩) (N:=100) ?_
 refine cqn z zn n (oz z zn n [] false) (fun s=>oz s.z s.zn n [] true) (fun _ _ s=>s=⟨C.length,dt C⟩) _ ?_
 (repeat' first|(with_reducible first|exact rfl|assumption|apply And.intro|exact d2 _ ‹_›|exact oz.bQ ‹_›|exact rb ‹_› _|exact rb2 ‹_› _|exact ro _ _ ‹_›)|exact lp _ _ (by with_reducible assumption) (by with_reducible assumption)|intro hq)
 rename_i s1 h1 s2 h2 s
 subst hq
 exact q2 (⟨C.length,dt C,s2.z,s2.zn⟩:qy) (fin s1 s2 h1 h2) rfl rfl rfl rfl rfl
end
theorem IF{P:Nat->Prop}: ∀n,P n-> ∃m,P m/\ ∀k,P k->m<=k:=by
 intro n
 induction n using Nat.strongRecOn with
 |ind n ih=>
  intro hn
  by_cases h: ∃k,k<n/\P k
  ·obtain⟨k,h1,h2⟩:=h
   exact ih k h1 h2
  ·exact⟨n,hn,fun k hk=>Nat.le_of_not_lt fun hlt=>h ⟨k,hlt,hk⟩⟩
theorem D4(E:bU)(n i j:Nat): ∃v,Gp E n i j v:=by
 by_cases h: ∃L,L<lS/\Wk E n i j L
 ·obtain⟨L,h1,h2⟩:=h
  obtain⟨m,m1,m2⟩:=IF (P:=fun L=>Wk E n i j L) L h2
  have:=m2 L h2
  exact⟨(m:Int),⟨by omega,fun _=>by simpa using m1,fun k hk=>by have:=m2 k hk;omega⟩,Int.ofNat_le.2 (by omega)⟩
 ·refine⟨(lS:Int),⟨by omega,fun hlt=>absurd hlt (Int.lt_irrefl _),fun k hk=>?_⟩,Int.le_refl _⟩
  by_cases hb:k<lS
  ·exact absurd ⟨k,hb,hk⟩ h
  ·omega
theorem xf{E:bU}{n i j:Nat}{v w:Int}(h:Gp E n i j v)(k:Gp E n i j w):v=w:=by
 obtain⟨⟨a1,a2,a3⟩,a4⟩:=h
 obtain⟨⟨b1,b2,b3⟩,b4⟩:=k
 by_cases hv:v<(lS:Int)
 ·have:=b3 _ (a2 hv)
  have:=a3 _ (b2 (by omega))
  omega
 ·by_cases hw:w<(lS:Int)
  ·have:=a3 _ (b2 hw);omega
  ·omega
theorem wH(n:Nat)(l:List ae): ∃M F,MF n l M F:=by
 obtain⟨M,hM⟩:=Classical.axiomOfChoice fun i:Nat=>Classical.axiomOfChoice fun j:Nat=>D4 (cX (fm l false)) n i j
 obtain⟨F,hF⟩:=Classical.axiomOfChoice fun i:Nat=>Classical.axiomOfChoice fun j:Nat=>D4 (cX (fm l true)) n i j
 exact⟨M,F,fun i j _ _=>hM i j,fun i j _ _=>hF i j⟩
def O2(e:Nat × Nat × Int × Bool):ae:=⟨e.1,e.2.1,e.2.2.1,e.2.2.2⟩
theorem MX{d f:Nat->Nat->Int}{a b:Nat}(L:List ae)(h:a≠b):iF d f a L b=L++(sO a b (d a b) (f a b)).map O2:=by
 unfold iF sO iW
 rw[if_neg h]
 by_cases e:f a b=d a b
 ·rw[if_pos e,if_pos e,decide_eq_true e,List.append_nil]
  by_cases c:0<d a b/\d a b<=14400
  ·rw[if_pos c,if_pos c];rfl
  ·rw[if_neg c,if_neg c];simp
 ·rw[if_neg e,if_neg e,decide_eq_false e]
  by_cases c:0<d a b/\d a b<=14400<;>by_cases c2:0<f a b/\f a b<=14400
  ·rw[if_pos c,if_pos c,if_pos c2,if_pos c2];simp[O2]
  ·rw[if_pos c,if_pos c,if_neg c2,if_neg c2];simp[O2]
  ·rw[if_neg c,if_neg c,if_pos c2,if_pos c2];simp[O2]
  ·rw[if_neg c,if_neg c,if_neg c2,if_neg c2];simp
theorem Lo{M F:Nat->Nat->Int}{a b:Nat}(L:List ae)(h:a≠b):dW M F a L b=L++(x9 a b (M a b) (F a b)).map O2:=by
 unfold dW x9
 have hb:(F a b==M a b)=decide (F a b=M a b):=by
  by_cases e:F a b=M a b<;>simp[e]
 rw[hb]
 by_cases c:14400<M a b
 ·rw[if_pos (.inr c),if_pos c];simp
 ·rw[if_neg (by omega),if_neg c]
  by_cases c2:M a b<F a b/\F a b<=14400
  ·rw[if_pos c2,if_pos c2];simp[O2]
  ·rw[if_neg c2,if_neg c2];simp[O2]
theorem jM{α β:Type}{f g:α->β->α}: ∀(l:List β)(a:α),(∀a,∀b∈l,f a b=g a b)->l.foldl f a=l.foldl g a
 |[],_,_=>rfl
 |b::l,a,h=>by
  rw[List.foldl_cons,List.foldl_cons,h a b (List.mem_cons_self ..)]
  exact jM l _ fun a c hc=>h a c (List.mem_cons_of_mem _ hc)
theorem G9{n:Nat}{d f M F:Nat->Nat->Int}(h: ∀i j,i<n->j<n->i≠j->jo.Alike (M i j) (d i j)/\jo.Alike (F i j) (f i j)/\M i j<=F i j):eP d f n n=bZ M F n n:=by
 unfold eP bZ
 refine jM _ _ fun L a ha=>?_
 unfold cP bN
 refine jM _ _ fun L b hb=>?_
 by_cases e:a=b
 ·unfold iF dW
  rw[if_pos e,if_pos (.inl e)]
 ·obtain⟨h1,h2,h3⟩:=h a b (List.mem_range.1 ha) (List.mem_range.1 hb) e
  rw[MX L e,Lo L e,Jh h1 h2 h3]
theorem mM{l:List ae}{b:Bool}{u v w:Nat}:(u,v,w)∈fm l b↔ ∃p∈l,fC b p=true/\p.fz1.toNat=u/\p.aq.toNat=v/\p.aK.toNat=w:=by
 unfold fm
 simp only[List.mem_map,List.mem_filter,Prod.mk.injEq]
 constructor
 ·rintro⟨p,⟨h1,h2⟩,h3,h4,h5⟩;exact⟨p,h1,h2,h3,h4,h5⟩
 ·rintro⟨p,h1,h2,h3,h4,h5⟩;exact⟨p,⟨h1,h2⟩,h3,h4,h5⟩
theorem tG{n:Nat}{l:List ae}(hl:nm n l){b:Bool}{E:List eF}(h:Sk n l b E):xM (cX (fm l b)) (EE E):=by
 refine⟨fun u v w hm=>?_,fun u v w hm=>?_⟩
 ·obtain⟨p,p1,p2,p3,p4,p5⟩:=mM.1 hm
  obtain⟨k1,k2,k3,k4,_,k6,k7⟩:=hl.ok p p1
  obtain⟨e,e1,e2,e3,e4⟩:=h.all p p1 p2
  have:=h.ok.ok e e1
  exact⟨e.wt.toNat,by omega,e,e1,by omega,by omega,by omega⟩
 ·obtain⟨e,e1,e2,e3,e4⟩:=hm
  obtain⟨p,p1,p2,p3,p4,p5⟩:=h.sub e e1
  exact⟨w,Nat.le_refl _,mM.2 ⟨p,p1,p2,by omega,by omega,by omega⟩⟩
theorem DJ{n:Nat}{l:List ae}(hl:nm n l){b:Bool}:Pos (cX (fm l b)):=fun u v w hm=>by
 obtain⟨p,p1,p2,p3,p4,p5⟩:=mM.1 hm
 have:=hl.ok p p1
 omega
theorem N0{n:Nat}{E:List eF}(h:Gs n E): ∀a b w,EE E a b w->a<n/\b<n:=fun a b w ⟨e,e1,e2,e3,e4⟩=>by
 have:=h.ok e e1
 omega
theorem LP{l:List ae}: ∀a b w,cX (fm l true) a b w-> ∃w',w'<=w/\cX (fm l false) a b w':=fun a b w hm=>by
 obtain⟨p,p1,p2,p3⟩:=mM.1 hm
 exact⟨w,Nat.le_refl _,mM.2 ⟨p,p1,rfl,p3⟩⟩
theorem Jq{n:Nat}{l:List ae}(hl:nm n l){d f M F:Nat->Nat->Int}(h:DF n l d f)(k:MF n l M F):eP d f n n=bZ M F n n:=by
 obtain⟨E,G,hE,hG,h1,h2⟩:=h
 refine G9 fun i j hi hj hij=>⟨?_,?_,?_⟩
 ·exact BE (tG hl hE) (DJ hl) (N0 hE.ok) (by decide) (fun e=>hij e.symm) (k.1 i j hi hj).1 (h1 i j hi hj)
 ·exact BE (tG hl hG) (DJ hl) (N0 hG.ok) (by decide) (fun e=>hij e.symm) (k.2 i j hi hj).1 (h2 i j hi hj)
 ·rcases Am LP (k.1 i j hi hj).1 (k.2 i j hi hj).1 with h|h
  ·exact h
  ·exact Int.le_trans (k.1 i j hi hj).2 h
theorem Jr(n:Nat)(l:List ae): ∃C:List ae,(∃M F,MF n l M F/\C=bZ M F n n)/\ ∀M F,MF n l M F->bZ M F n n=C:=by
 obtain⟨M,F,h⟩:=wH n l
 refine⟨bZ M F n n,⟨M,F,h,rfl⟩,fun M' F' h'=>?_⟩
 unfold bZ
 refine jM _ _ fun L a ha=>?_
 unfold bN
 refine jM _ _ fun L b hb=>?_
 have ha:=List.mem_range.1 ha
 have hb:=List.mem_range.1 hb
 unfold dW
 rw[xf (h'.1 a b ha hb) (h.1 a b ha hb),xf (h'.2 a b ha hb) (h.2 a b ha hb)]
noncomputable def ie(n:Nat)(l:List ae):List ae:=Classical.choose (Jr n l)
theorem kV{n:Nat}{l:List ae}{M F:Nat->Nat->Int}(h:MF n l M F):bZ M F n n=ie n l:=(Classical.choose_spec (Jr n l)).2 M F h
theorem xz{n:Nat}{l:List ae}(hl:nm n l){d f:Nat->Nat->Int}(h:DF n l d f):eP d f n n=ie n l:=by
 obtain⟨M,F,hm⟩:=wH n l
 rw[Jq hl h hm];exact kV hm
open Classical in
theorem nQ{P:Program}{z:T aa}{zn f:Nat}{args:List Value}{nx:Nat}{α:Type}{φ:α->Prop}{v:Value}{zz:α->T aa}{zn':α->Nat}(h:bF P z zn f args [] nx nx φ (fun _=>v) (fun _=>[]) zz zn')(hv:au v=true)
 (ho: ∀x,φ x-> ∀k,k<zn->(zz x).get k=z.get k):aT P z zn f args [] nx nx (fun _:Unit=>True) (fun _=>v) (fun _=>[]):=by
 have hz:=h.1
 refine⟨h.1,h.2.1,h.2.2.1,fun _ _=>⟨fun b o hb=>by simp at hb,Nat.le_refl _,h.1⟩,fun ρ w args' n h1 h2 h3 h4=>(h.2.2.2.2 ρ w args' n h1 h2 h3 h4).mono fun e w' ⟨x,hx,hg⟩=>⟨(),trivial,?_⟩⟩
 obtain⟨ρ',v',e1,g1,g2,g3⟩:=hg
 have hle:=(h.2.2.2.1 x hx).le
 have hsub: ∀b o,(fW z [] nx).heap.get b=some o->(fW (zz x) [] nx).heap.get b=some o:=fun b o hb=>by
  obtain⟨k,e,hk⟩:=fg hb
  show(pB (zz x)).get b=_
  rw[e,fO]
  show(zz x).get k=_
  rw[ho x hx k (hz k o hk).1];exact hk
 have hfr: ∀b o,(fW z [] nx).heap.get b=some o-> ∃k,b=256*k+510/\k<zn/\z.get k=some o:=fun b o hb=>by
  obtain⟨k,e,hk⟩:=fg hb
  exact⟨k,e,(hz k o hk).1,hk⟩
 have hno: ∀b,j4 zn (zn' x) b->ρ b=none:=fun b ⟨k,e,k1,_⟩=>by rw[e];exact h4 k k1
 have hle':Ren.le (fun b=>if j4 zn (zn' x) b then none else ρ' b) ρ':=fun b L hL=>by
  simp only at hL
  split at hL
  ·cases hL
  ·exact hL
 refine⟨fun b=>if j4 zn (zn' x) b then none else ρ' b,v',e1,?_,⟨fun b o hb=>?_,fun i j oi oj Li Lj hi hj hij how hLi hLj=>g2.inj i j oi oj Li Lj (hsub _ _ hi) (hsub _ _ hj) hij how (hle' _ _ hLi) (hle' _ _ hLj)⟩,⟨⟨g3.core.os,g3.core.tape,g3.core.output,g3.core.size,g3.core.same,fun b o L hb ho hL=>g3.core.own b o L (hsub _ _ hb) ho (hle' _ _ hL),fun b o L hb hL=>g3.core.any b o L (hsub _ _ hb) (hle' _ _ hL)⟩,fun b L hL=>?_,fun b hb _=>?_⟩⟩
 ·have:=g1.plain hv
  subst this
  exact VR.aZ hv
 ·obtain⟨L,y,k1,k2,k3⟩:=g2.obj b o (hsub b o hb)
  obtain⟨k,e,hk,hzk⟩:=hfr b o hb
  have hnot: ∀k,k<zn-> ¬j4 zn (zn' x) (256*k+510):=fun k hk ⟨j,e,j1,_⟩=>by omega
  refine⟨L,y,(if_neg (by rw[e];exact hnot k hk)).trans k1,k2,?_⟩
  have:=(hz k o hzk).2 (fun b=>if∃j,j<zn/\b=256*j+510 then some b else none) fun j hj=>by rw[if_pos ⟨j,hj,rfl⟩]
  refine(nC this k3).mono fun c M hM=>?_
  simp only[dQ] at hM
  by_cases hc: ∃j,j<zn/\c=256*j+510
  ·rw[if_pos hc] at hM
   obtain⟨j,hj,e⟩:=hc
   exact(if_neg (by rw[e];exact hnot j hj)).trans hM
  ·rw[if_neg hc] at hM;cases hM
 ·by_cases hn:j4 zn (zn' x) b
  ·rw[hno b hn] at hL;cases hL
  ·exact(if_neg hn).trans (g3.ext _ _ hL)
 ·by_cases hn:j4 zn (zn' x) b
  ·exact(if_pos hn).trans (hno b hn).symm
  ·exact(if_neg hn).trans (g3.vB b hb hn)
def Jc(x y:ae):Bool:=decide (x.fz1=y.fz1) && (decide (x.aq=y.aq) && (decide (x.aK=y.aK) && (x.sf==y.sf)))
theorem J2(i j:Nat)(x y:ae):F7 prog .neq 134 (.tmp i) (.tmp j) (.agg ⟨x.row⟩) (.agg ⟨y.row⟩) (.bool (!Jc x y)):=by
 unfold F7
 rw[prun_bind]
 have h1:prun prog (eqGuard .neq 134 (.tmp i) (.tmp j) (.agg ⟨x.row⟩) (.agg ⟨y.row⟩))=some ():=by kernel_rfl
 rw[h1,Option.bind_some]
 show prun _ (Op.equal _ _ _>>=fun b=>pure (Value.bool (!b)))=_
 rw[prun_bind,Ja]
 rfl
theorem mX{x y:ae}:Jc x y=true↔x=y:=by
 obtain⟨a,b,c,d⟩:=x
 obtain⟨a',b',c',d'⟩:=y
 unfold Jc
 simp
instance:DecidableEq ae:=fun x y=>decidable_of_iff _ mX
section
variable{z:T aa}{zn:Nat}
theorem Mh(hz:ay z zn)(l C:List ae)(cp k:Nat)(hL:cf z 4 (l.map ae.row))(hk:z.get k=some (PZ (C.map ae.row).flatten C.length))(hlen:C.length=l.length)(hll:l.length<=10000)(b:Bool)(hb:b=decide (C=l)):
 ai prog (ah (ag f64) 0) 0 43 (CD k C.length l.length cp 0) [] 0 z zn (Al.R (Ti z zn k C.length l.length cp b).l):=by
 refine an hD (cS T.leaf) (α:=Nat) 0 43 0 (fun i=>i<=l.length/\ ∀j,j<i->C[j]? =l[j]?) (fun i=>CD k C.length l.length cp i) (fun _=>[]) (fun _=>z) (fun _=>zn) (fun i=>l.length - i) _ (fun i hI=>?_) 0 ⟨Nat.zero_le _,fun j hj=>absurd hj (Nat.not_lt_zero _)⟩
 obtain⟨hi,hs⟩:=hI
 by_cases hlt:i<l.length
 ·obtain⟨x,hx⟩:=eV hlt
  obtain⟨y,hy⟩:=eV (l:=C) (i:=i) (by omega)
  have hc:decide ((i:Int)<(C.length:Int))=true:=by simp;omega
  have hltC:i<C.length:=by omega
  obtain⟨el,hel⟩:=hL.aw (i:=i) (by simp;omega)
  have r1:aE prog (bq el (l.map ae.row).flatten) 134 (0+i*4)=some (.agg ⟨x.row⟩):=bG (r:=x.row) (sz:=4) underlying134 rfl rfl (aQ (row:=ae.row) (sz:=4) l fun _=>rfl) (by rw[List.getElem?_map,hx];rfl)
  have r2:aE prog ⟨(C.map ae.row).flatten,C.length*4,4,134,false,false,0,true⟩ 134 (0+i*4)=some (.agg ⟨y.row⟩):=iq (rows:=C.map ae.row) rfl (r:=y.row) (sz:=4) underlying134 rfl rfl (aQ (row:=ae.row) (sz:=4) C fun _=>rfl) (by rw[List.getElem?_map,hy];rfl)
  refine t100 (Z0 z zn k C.length l.length cp i (bq el (l.map ae.row).flatten) ⟨(C.map ae.row).flatten,C.length*4,4,134,false,false,0,true⟩ x y (!Jc y x) (ak _ _ _ _ _ _ _ _ _) ⟨fun _=>?_,nC1 hc⟩)
  (repeat' first|(with_reducible first|exact rfl|assumption|apply And.intro|exact J2 _ _ _ _|exact bP (by omega))|intro hq)
  ·refine bD ?_
   have hne: ¬y=x:=fun e=>by rw[mX.2 e] at hq;cases hq
   rw[hb];simp
   intro e;subst e;rw[hx] at hy;cases hy;exact hne rfl
  ·have he:y=x:=mX.1 (by simpa using hq)
   subst he
   exact⟨i+1,rfl,rfl,rfl,rfl,rfl,⟨by omega,fun j hj=>by
    by_cases e:j=i
    ·subst e;rw[hx,hy]
    ·exact hs j (by omega)⟩,by show l.length - (i+1)<l.length - i;omega⟩
 ·have hil:i=l.length:=by omega
  have hc:decide ((i:Int)<(C.length:Int))=false:=by simp;omega
  refine t100 (Z0 z zn k C.length l.length cp i ⟨[],0,0,0,true,true,0,true⟩ ⟨[],0,0,0,true,true,0,true⟩ ⟨0,0,0,true⟩ ⟨0,0,0,true⟩ true (ak _ _ _ _ _ _ _ _ _) ⟨nC1 hc,fun _=>?_⟩)
  (repeat' first|(with_reducible first|exact rfl|assumption|apply And.intro))
  refine dD (bD ?_)
  have:C=l:=by
   refine List.ext_getElem? fun j=>?_
   by_cases hj:j<i
   ·exact hs j hj
   ·rw[List.getElem?_eq_none (by omega),List.getElem?_eq_none (by omega)]
  rw[hb];simp[this]
end
theorem O9{x y:ae}(h:(y.fz1==x.fz1)=false):bX x y=false:=by
 unfold bX
 have: ¬y.fz1=x.fz1:=by simpa using h
 rw[decide_eq_false this];rfl
theorem O8{x y:ae}(h:(y.aq==x.aq)=false):bX x y=false:=by
 unfold bX
 have: ¬y.aq=x.aq:=by simpa using h
 rw[decide_eq_false this];simp
theorem O7{x y:ae}(h:y.sf=true)(h2:x.sf=false):bX x y=false:=by
 unfold bX
 rw[h,h2];simp
theorem O6{x y:ae}(h:y.sf=false)(h2:x.sf=true):bX x y=false:=by
 unfold bX
 rw[h,h2];simp
theorem NN{x y:ae}(h:(y.fz1==x.fz1)=true)(h2:(y.aq==x.aq)=true)(h3:y.sf=x.sf):bX x y=true:=by
 unfold bX
 rw[decide_eq_true (by simpa using h),decide_eq_true (by simpa using h2),h3];simp
section
variable{z:T aa}{zn:Nat}
theorem Ir(hz:ay z zn)(hg:fB prog z gP)(N:aM)(l:List ae)(hN:N.np=l.length)(hnet: ∀σ:bu,aI (aA σ []) (N.bW N.p1)=some (N.bW N.p1))(hL:cf z 4 (l.map ae.row))(i:Nat)(hi8:i<=10000)(x:ae)(hx:l[i]? =some x):
 ai prog (ah (ah (ag f71) 0) 0) 2 111 (yl i 0) [(0,N.bW N.p1),(1,ya x)] 2 z zn (Al.R (PJ z zn N i x ((l.take i).any (bX x))).l):=by
 have hi:i<l.length:=(List.getElem?_eq_some_iff.1 hx).1
 refine an hD hg (α:=Nat) 2 111 2 (fun k=>k<=i/\(l.take k).any (bX x)=false) (fun k=>yl i k) (fun k=>[(0,N.bW N.p1),(1,ya x)]) (fun _=>z) (fun _=>zn) (fun k=>i - k) _ (fun k hI=>?_) 0 ⟨Nat.zero_le _,by simp⟩
 obtain⟨hk,hs⟩:=hI
 by_cases hlt:k<i
 ·obtain⟨y,hy⟩:=eV (l:=l) (i:=k) (by omega)
  have hc:decide ((k:Int)<(i:Int))=true:=by simp;omega
  have hkn:k<N.np:=by omega
  obtain⟨el,hel⟩:=hL.aw (i:=k) (by simp;omega)
  have r0:aE prog (bq el (l.map ae.row).flatten) 134 (0+k*4)=some (.agg ⟨y.row⟩):=bG (r:=y.row) (sz:=4) underlying134 rfl rfl (aQ (row:=ae.row) (sz:=4) l fun _=>rfl) (by rw[List.getElem?_map,hy];rfl)
  have nx:bX x y=false->ak (fun k=>k<=i/\(l.take k).any (bX x)=false) (fun k=>yl i k) (fun k=>[(0,N.bW N.p1),(1,ya x)]) 2 (fun _=>z) (fun _=>zn) (fun k=>i - k) (Al.R (PJ z zn N i x ((l.take i).any (bX x))).l) k .normal (yl i (k+1)) [(0,N.bW N.p1),(1,ya x)] 2 z zn:=fun h=>
   ⟨k+1,rfl,rfl,rfl,rfl,rfl,⟨hlt,by rw[jR hy,hs,h];rfl⟩,by show i - (k+1)<i - k;omega⟩
  have ret:bX x y=true->ak (fun k=>k<=i/\(l.take k).any (bX x)=false) (fun k=>yl i k) (fun k=>[(0,N.bW N.p1),(1,ya x)]) 2 (fun _=>z) (fun _=>zn) (fun k=>i - k) (Al.R (PJ z zn N i x ((l.take i).any (bX x))).l) k .ret [(2,iv i),(3,I 6)] [] 2 z zn:=fun h=>by
   refine bD ?_
   rw[List.any_eq_true]
   exact⟨y,List.mem_of_getElem? (i:=k) (by rw[List.getElem?_take,if_pos hlt];exact hy),h⟩
  refine t100 (ZP z zn i k N (bq el (l.map ae.row).flatten) x y (ak _ _ _ _ _ _ _ _ _) ⟨fun _=>?_,nC1 hc⟩)
  (repeat' first|(with_reducible first|exact rfl|assumption|apply And.intro|exact bP (by omega))|exact hnet _|intro hq)
  all_goals first
   |exact nx (O9 (by with_reducible assumption))
   |exact nx (O8 (by with_reducible assumption))
   |exact ret (NN (by with_reducible assumption) (by with_reducible assumption) (Eq.trans (by with_reducible assumption:y.sf=true) (Eq.symm (by with_reducible assumption:x.sf=true))))
   |exact ret (NN (by with_reducible assumption) (by with_reducible assumption) (Eq.trans (by with_reducible assumption:y.sf=false) (Eq.symm (by with_reducible assumption:x.sf=false))))
   |exact nx (O7 (by with_reducible assumption) (by with_reducible assumption))
   |exact nx (O6 (by with_reducible assumption) (by with_reducible assumption))
 ·have hki:k=i:=by omega
  subst hki
  have hc:decide ((k:Int)<(k:Int))=false:=by simp
  refine t100 (ZP z zn k k N ⟨[],0,0,0,true,true,0,true⟩ x ⟨0,0,0,true⟩ (ak _ _ _ _ _ _ _ _ _) ⟨nC1 hc,fun _=>?_⟩)
  (repeat' first|(with_reducible first|exact rfl|assumption|apply And.intro)|exact hnet _)
  exact dD (bD hs)
theorem Iq(hz:ay z zn)(hg:fB prog z gP)(N:aM)(l C:List ae)(hN:N.np=l.length)(hlen:C.length=l.length)(hll:l.length<=10000)(hnet: ∀σ:bu,aI (aA σ []) (N.bW N.p1)=some (N.bW N.p1))(hL:cf z 4 (l.map ae.row))(s:qy)(hk:s.k=C.length)(hbl:s.bl=dt C)(hsz:s.z=z)(hszn:s.zn=zn)(b:Bool)(hb:b=decide (C=l)):
 ai prog (ah (ag f71) 2) 2 111 (su s.k 0) [(0,N.bW N.p1),(1, .aw s.bl)] 2 z zn (Al.R (PI N N.p1 b s).l):=by
 obtain⟨k,bl,z',zn'⟩:=s
 simp only at hk hbl hsz hszn
 subst hk hbl hsz hszn
 have hox:(dt C).cells=(C.map ae.row).flatten:=by
  unfold dt
  split
  ·rename_i e;subst e;rfl
  ·rfl
 refine an hD hg (α:=Nat) 2 111 2 (fun i=>i<=l.length/\ ∀j,j<i->C[j]? =l[j]?) (fun i=>su C.length i) (fun _=>[(0,N.bW N.p1),(1, .aw (dt C))]) (fun _=>z') (fun _=>zn') (fun i=>l.length - i) _ (fun i hI=>?_) 0 ⟨Nat.zero_le _,fun j hj=>absurd hj (Nat.not_lt_zero _)⟩
 obtain⟨hi,hs⟩:=hI
 by_cases hlt:i<l.length
 ·obtain⟨x,hx⟩:=eV hlt
  obtain⟨y,hy⟩:=eV (l:=C) (i:=i) (by omega)
  have hc:decide ((i:Int)<(C.length:Int))=true:=by simp;omega
  have hltC:i<C.length:=by omega
  have hltN:i<N.np:=by omega
  obtain⟨el,hel⟩:=hL.aw (i:=i) (by simp;omega)
  have r1:aE prog (bq el (l.map ae.row).flatten) 134 (0+i*4)=some (.agg ⟨x.row⟩):=bG (r:=x.row) (sz:=4) underlying134 rfl rfl (aQ (row:=ae.row) (sz:=4) l fun _=>rfl) (by rw[List.getElem?_map,hx];rfl)
  have r2:aE prog (dt C) 134 (0+i*4)=some (.agg ⟨y.row⟩):=iq (rows:=C.map ae.row) hox (r:=y.row) (sz:=4) underlying134 rfl rfl (aQ (row:=ae.row) (sz:=4) C fun _=>rfl) (by rw[List.getElem?_map,hy];rfl)
  refine t100 (ZO z' zn' i C.length N (bq el (l.map ae.row).flatten) (dt C) x y (!Jc y x) (ak _ _ _ _ _ _ _ _ _) ⟨fun _=>?_,nC1 hc⟩)
  (repeat' first|(with_reducible first|exact rfl|assumption|apply And.intro|exact J2 _ _ _ _|exact fD _|exact bP (by omega))|exact hnet _|intro hq)
  ·refine bD ?_
   have hne: ¬y=x:=fun e=>by rw[mX.2 e] at hq;cases hq
   rw[hb];simp
   intro e;subst e;rw[hx] at hy;cases hy;exact hne rfl
  ·have he:y=x:=mX.1 (by simpa using hq)
   subst he
   exact⟨i+1,rfl,rfl,rfl,rfl,rfl,⟨by omega,fun j hj=>by
    by_cases e:j=i
    ·subst e;rw[hx,hy]
    ·exact hs j (by omega)⟩,by show l.length - (i+1)<l.length - i;omega⟩
 ·have hil:i=l.length:=by omega
  have hc:decide ((i:Int)<(C.length:Int))=false:=by simp;omega
  refine t100 (ZO z' zn' i C.length N ⟨[],0,0,0,true,true,0,true⟩ (dt C) ⟨0,0,0,true⟩ ⟨0,0,0,true⟩ true (ak _ _ _ _ _ _ _ _ _) ⟨nC1 hc,fun _=>?_⟩)
  (repeat' first|(with_reducible first|exact rfl|assumption|apply And.intro))
  refine dD (bD ?_)
  have:C=l:=by
   refine List.ext_getElem? fun j=>?_
   by_cases hj:j<i
   ·exact hs j hj
   ·rw[List.getElem?_eq_none (by omega),List.getElem?_eq_none (by omega)]
  rw[hb];simp[this]
end
theorem D5{a m:Int}(h:(!(decide (0<=a) && decide (a<=m - 1)))=true):a<0\/m<=a:=by
 simp at h;omega
theorem AX{a m:Int}(h:(!(decide (0<=a) && decide (a<=m - 1)))=false): ¬a<0/\ ¬m<=a:=by
 simp at h;omega
theorem IT{a m k:Int}(h:(!(decide (k<=a) && decide (a<=m)))=true):a<k\/m<a:=by
 simp at h;omega
theorem xg{a m k:Int}(h:(!(decide (k<=a) && decide (a<=m)))=false): ¬(a<k\/m<a):=by
 simp at h;omega
section
variable{z:T aa}{zn:Nat}
theorem Is(hz:ay z zn)(hg:fB prog z gP)(N:aM)(hn:N.ns<=64)(l:List ae)(hN:N.np=l.length)(hnet: ∀σ:bu,aI (aA σ []) (N.bW N.p1)=some (N.bW N.p1))(hL:cf z 4 (l.map ae.row))(r:Int × Int)(hr:scan (cK N.ns l) l.length 0=r):
 ai prog (ah (ag f71) 0) 1 111 (mq 0) [(0,N.bW N.p1)] 1 z zn (Al.R (LV z zn N N.p1 r.1 r.2).l):=by
 refine an hD hg (α:=Nat) 1 111 1 (fun i=>i<=l.length/\scan (cK N.ns l) (l.length - i) i=r/\ ∀j,j<i->cK N.ns l j=none) (fun i=>mq i) (fun i=>[(0,N.bW N.p1)]) (fun _=>z) (fun _=>zn) (fun i=>l.length - i) _ (fun i hI=>?_) 0 ⟨Nat.zero_le _,hr,fun j hj=>absurd hj (Nat.not_lt_zero _)⟩
 obtain⟨h1,h2,h3⟩:=hI
 have hi8:=DL (n:=N.ns) (by omega) h1 h3
 by_cases hi:i<l.length
 ·obtain⟨x,hx⟩:=eV hi
  obtain⟨el,hel⟩:=hL.aw (i:=i) (by simp;omega)
  have hrow:aE prog (bq el (l.map ae.row).flatten) 134 (0+i*4)=some (.agg ⟨x.row⟩):=bG (r:=x.row) (sz:=4) underlying134 rfl rfl (aQ (row:=ae.row) (sz:=4) l fun _=>rfl) (by rw[List.getElem?_map,hx];rfl)
  have hlp:=Ir hz hg N l hN hnet hL i (by omega) x hx
  have hlk:fT N.ns l i x=if x.fz1<0\/(N.ns:Int)<=x.fz1\/x.aq<0\/(N.ns:Int)<=x.aq\/x.fz1=x.aq then 9 else if x.aK<1\/14400<x.aK then 2 else if (l.take i).any (bX x)=true then 6 else 0:=rfl
  have ret: ∀e:Int,fT N.ns l i x=e->e≠0->ak (fun i=>i<=l.length/\scan (cK N.ns l) (l.length - i) i=r/\ ∀j,j<i->cK N.ns l j=none) (fun i=>mq i) (fun i=>[(0,N.bW N.p1)]) 1 (fun _=>z) (fun _=>zn) (fun i=>l.length - i) (Al.R (LV z zn N N.p1 r.1 r.2).l) i .ret [(2,iv i),(3,zv e)] [] 1 z zn:=fun e h h0=>by
   have hb:cK N.ns l i=some e:=by unfold cK;rw[hx];simp only;rw[h,if_neg h0]
   have:r=((i:Int),e):=by rw[←h2,dr hi hb]
   rw[this]
   exact bD h0
  have jY:fT N.ns l i x=0->ak (fun i=>i<=l.length/\scan (cK N.ns l) (l.length - i) i=r/\ ∀j,j<i->cK N.ns l j=none) (fun i=>mq i) (fun i=>[(0,N.bW N.p1)]) 1 (fun _=>z) (fun _=>zn) (fun i=>l.length - i) (Al.R (LV z zn N N.p1 r.1 r.2).l) i .normal (mq (i+1)) [(0,N.bW N.p1)] 1 z zn:=fun h0=>by
   have hb:cK N.ns l i=none:=by unfold cK;rw[hx];simp only;rw[if_pos h0]
   exact⟨i+1,rfl,rfl,rfl,rfl,rfl,⟨hi,by rw[←cN hi hb];exact h2,fun j hj=>by
    by_cases e:j=i
    ·subst e;exact hb
    ·exact h3 j (by omega)⟩,by show l.length - (i+1)<l.length - i;omega⟩
  have e9a:(!(decide (0<=x.fz1) && decide (x.fz1<=(N.ns:Int) - 1)))=true->fT N.ns l i x=9:=fun h=>by
   have:=D5 h
   rw[hlk,if_pos (by omega)]
  have e9b:(!(decide (0<=x.aq) && decide (x.aq<=(N.ns:Int) - 1)))=true->fT N.ns l i x=9:=fun h=>by
   have:=D5 h
   rw[hlk,if_pos (by omega)]
  have e9c:(x.fz1==x.aq)=true->fT N.ns l i x=9:=fun h=>by
   have:x.fz1=x.aq:=by simpa using h
   rw[hlk,if_pos (by omega)]
  have no9:(!(decide (0<=x.fz1) && decide (x.fz1<=(N.ns:Int) - 1)))=false->(!(decide (0<=x.aq) && decide (x.aq<=(N.ns:Int) - 1)))=false->(x.fz1==x.aq)=false-> ¬(x.fz1<0\/(N.ns:Int)<=x.fz1\/x.aq<0\/(N.ns:Int)<=x.aq\/x.fz1=x.aq):=fun h1 h2 h3=>by
   have k1:=AX h1
   have k2:=AX h2
   have k3: ¬x.fz1=x.aq:=by simpa using h3
   omega
  have e2:(!(decide (0<=x.fz1) && decide (x.fz1<=(N.ns:Int) - 1)))=false->(!(decide (0<=x.aq) && decide (x.aq<=(N.ns:Int) - 1)))=false->(x.fz1==x.aq)=false->(!(decide (1<=x.aK) && decide (x.aK<=14400)))=true->fT N.ns l i x=2:=fun a b c d=>by
   rw[hlk,if_neg (no9 a b c),if_pos (IT d)]
  have e6:(!(decide (0<=x.fz1) && decide (x.fz1<=(N.ns:Int) - 1)))=false->(!(decide (0<=x.aq) && decide (x.aq<=(N.ns:Int) - 1)))=false->(x.fz1==x.aq)=false->(!(decide (1<=x.aK) && decide (x.aK<=14400)))=false->(l.take i).any (bX x)=true->fT N.ns l i x=6:=fun a b c d e=>by
   rw[hlk,if_neg (no9 a b c),if_neg (xg d),if_pos e]
  have e0:(!(decide (0<=x.fz1) && decide (x.fz1<=(N.ns:Int) - 1)))=false->(!(decide (0<=x.aq) && decide (x.aq<=(N.ns:Int) - 1)))=false->(x.fz1==x.aq)=false->(!(decide (1<=x.aK) && decide (x.aK<=14400)))=false->(l.take i).any (bX x)=false->fT N.ns l i x=0:=fun a b c d e=>by
   rw[hlk,if_neg (no9 a b c),if_neg (xg d),if_neg (by rw[e];decide)]
  have hc:decide ((i:Int)<(N.np:Int))=true:=by simp;omega
  have hiN:i<N.np:=by omega
  have hwr:Value.int .i64 (IntKind.i64.wrap ((N.ns:Int) - 1))=Value.int .i64 ((N.ns:Int) - 1):=jC (by omega) (by omega)
  refine t100 (ZQ z zn i N (bq el (l.map ae.row).flatten) x ((l.take i).any (bX x)) (ak _ _ _ _ _ _ _ _ _) ⟨fun _=>?_,nC1 hc⟩)
  (repeat' first|(with_reducible first|exact rfl|assumption|apply And.intro|exact bP (by omega))|exact(rfl:gP _ _=_)|exact hnet _|exact hlp|intro hq)
  all_goals first
   |exact ret 9 (e9a (by with_reducible assumption)) (by decide)
   |exact ret 9 (e9b (by with_reducible assumption)) (by decide)
   |exact ret 9 (e9c (by with_reducible assumption)) (by decide)
   |exact ret 2 (e2 (by with_reducible assumption) (by with_reducible assumption) (by with_reducible assumption) (by with_reducible assumption)) (by decide)
   |exact ret 6 (e6 (by with_reducible assumption) (by with_reducible assumption) (by with_reducible assumption) (by with_reducible assumption) (by with_reducible assumption)) (by decide)
   |exact jY (e0 (by with_reducible assumption) (by with_reducible assumption) (by with_reducible assumption) (by with_reducible assumption) (by with_reducible assumption))
 ·have hc:decide ((i:Int)<(N.np:Int))=false:=by simp;omega
  rw[dH (by omega)] at h2
  refine t100 (ZQ z zn i N ⟨[],0,0,0,true,true,0,true⟩ ⟨0,0,0,true⟩ true (ak _ _ _ _ _ _ _ _ _) ⟨nC1 hc,fun _=>?_⟩)
  (repeat' first|(with_reducible first|exact rfl|assumption|apply And.intro)|exact hnet _)
  refine dD (bD ?_)
  rw[←h2];exact⟨rfl,rfl⟩
end
theorem qT{P:Program}{z:T aa}{zn f:Nat}{args:List Value}{aR:bS}{nx eT:Nat}{α β:Type}{φ:α->Prop}{v:α->Value}{zo:α->bS}{zz:α->T aa}{zn':α->Nat}{ψ:β->Prop}{u:β->Value}{yo:β->bS}{yy:β->T aa}{yn:β->Nat}(h:bF P z zn f args aR nx eT φ v zo zz zn')
 (hm: ∀x,φ x-> ∃y,ψ y/\v x=u y/\zo x=yo y/\zz x=yy y/\zn' x=yn y) (hb: ∀y,ψ y->vA zn (yo y) (yy y) (yn y)):bF P z zn f args aR nx eT ψ u yo yy yn:=
 ⟨h.1,h.2.1,h.2.2.1,hb,fun ρ w args' n h1 h2 h3 h4=>(h.2.2.2.2 ρ w args' n h1 h2 h3 h4).mono fun e w' ⟨x,hx,hg⟩=>by
   obtain⟨y,hy,e1,e2,e3,e4⟩:=hm x hx
   exact⟨y,hy,by rw[←e1,←e2,←e3,←e4];exact hg⟩⟩
def zp(z:T aa)(zn:Nat)(t:T aa × Nat):Prop:=ay t.1 t.2/\zn<=t.2/\ ∀k,k<zn->t.1.get k=z.get k
theorem zp.bQ{z:T aa}{zn:Nat}{t:T aa × Nat}(h:zp z zn t):ay t.1 t.2:=h.1
theorem WJ(n:Nat):(if (0:Int)>(n:Int) then 0 else (n:Int))=n:=by rw[if_neg (by omega)]
section
variable{z:T aa}{zn:Nat}
theorem AL(hz:ay z zn)(v:Value)(hv: ∀σ,aW (aA σ []) v=some v):ai prog (ah (ag f64) 0) 0 43 (og v) [] 0 z zn (Al.R (Ie z zn v).l):=by
 refine an hD (cS T.leaf) (α:=Unit) 0 43 0 (fun _=>True) (fun _=>og v) (fun _=>[]) (fun _=>z) (fun _=>zn) (fun _=>0) _ (fun _ _=>?_) () trivial
 refine t100 (Xg z zn v (ak _ _ _ _ _ _ _ _ _) ?_)
 (repeat' first|(with_reducible first|exact rfl|assumption|apply And.intro))
 exact bD trivial
theorem F5(hz:ay z zn)(n:Nat)(hn:n<=64)(l:List ae)(hl:nm n l)(hll:l.length<=10000)(cp:Nat)(hL:cf z 4 (l.map ae.row))(C:List ae)(hC: ∀d f,DF n l d f->eP d f n n=C)(hS:kJ C)
 (hso:A1 z zn 75 [tb 4 l.length cp,iv n] [] 0 0 (.tuple ⟨[zv 0,zv 0]⟩) []):
 bF prog z zn 64 [tb 4 l.length cp,iv n] [] 0 0 (zp z zn) (fun _=> .bool (decide (C=l))) (fun _=>[]) (fun t=>t.1) (fun t=>t.2):=by
 have hc:=T4 hz n hn l hl hll cp hL C hC hS
 have hgt:decide ((n:Int)>64)=false:=by simp;omega
 by_cases hnil:C=[]
 ·have hcz:bF prog z zn 76 [tb 4 l.length cp, .int .i64 (if 0>(n:Int) then 0 else (n:Int))] [] 0 0 (zp z zn) (fun _=>az) (fun _=>[]) (fun t=>t.1) (fun t=>t.2):=by
   rw[WJ]
   refine qT hc (fun s hs=>⟨(s.z,s.zn),⟨hs.bQ,hs.le,hs.iL⟩,?_,rfl,rfl,rfl⟩) fun t ht=>⟨fun b o hb=>by simp at hb,ht.2.1,ht.1⟩
   rcases hs.val with ⟨_,e1,e2⟩|⟨h,_⟩
   ·obtain⟨oa,k,z,zn⟩:=s
    simp only at e1 e2;subst e1 e2;rfl
   ·exact absurd hnil h
  have lp: ∀t,zp z zn t->ai prog (ah (ag f64) 0) 0 43 (og (tb 4 l.length cp)) [] 0 t.1 t.2 (Al.R (Ie t.1 t.2 (tb 4 l.length cp)).l):=fun t ht=>AL ht.1 _ fun σ=>qH σ _ _ _
  refine gi (cS T.leaf) (fn:=f64) (by kernel_rfl) (by kernel_rfl) hz ⟨by decide,by decide⟩ (fun t ht=>⟨rfl,ht.2.1,ht.1⟩) (N:=100) ?_
  refine icz z zn n l.length cp (zp z zn) _ ⟨nC1 hgt,fun _=>?_⟩
  (repeat' first|(with_reducible first|exact rfl|assumption|apply And.intro|exact zp.bQ ‹_›)|exact lp _ (by with_reducible assumption)|intro hq)
  ·rename_i t ht
   refine q2 t ht rfl ?_ rfl rfl rfl
   have: ¬C=l:=fun e=>by
    rw[←e,hnil] at hq;simp at hq
   rw[decide_eq_false this]
  ·rename_i t ht h0 _
   refine q2 t ht rfl ?_ rfl rfl rfl
   have:C=l:=by
    have:l.length=0:=by simp at h0;omega
    rw[hnil];exact(List.eq_nil_of_length_eq_zero this).symm
   rw[decide_eq_true this]
 ·have hct:bF prog z zn 76 [tb 4 l.length cp, .int .i64 (if 0>(n:Int) then 0 else (n:Int))] [] 0 0 (fun t:Nat × Nat × T aa × Nat=>zp z zn (t.2.2.1,t.2.2.2)/\t.2.1=C.length/\t.2.2.1.get t.1=some (PZ (C.map ae.row).flatten C.length)) (fun s=>tb s.1 s.2.1 s.2.1) (fun _=>[]) (fun t=>t.2.2.1) (fun t=>t.2.2.2):=by
   rw[WJ]
   refine qT hc (fun s hs=>?_) fun t ht=>⟨fun b o hb=>by simp at hb,ht.1.2.1,ht.1.1⟩
   rcases hs.val with ⟨h,_⟩|⟨_,kk,_,_,e1,e2,e3⟩
   ·exact absurd h hnil
   ·refine⟨(kk,C.length,s.z,s.zn),⟨⟨hs.bQ,hs.le,hs.iL⟩,rfl,e3⟩,?_,rfl,rfl,rfl⟩
    obtain⟨oa,k,z,zn⟩:=s
    simp only at e1 e2;subst e1 e2;rfl
  have lp: ∀t:Nat × Nat × T aa × Nat,(zp z zn (t.2.2.1,t.2.2.2)/\t.2.1=C.length/\t.2.2.1.get t.1=some (PZ (C.map ae.row).flatten C.length))->((t.2.1:Int) !=(l.length:Int))=false->ai prog (ah (ag f64) 0) 0 43 (CD t.1 t.2.1 l.length cp 0) [] 0 t.2.2.1 t.2.2.2 (Al.R (Ti t.2.2.1 t.2.2.2 t.1 t.2.1 l.length cp (decide (C=l))).l):=fun t ⟨ht,h1,h2⟩ h3=>by
   rw[h1] at h3 ⊢
   exact Mh ht.1 l C cp t.1 (dU hL hz ht.2.2) h2 (by simp at h3;omega) hll _ rfl
  refine gi (cS T.leaf) (fn:=f64) (by kernel_rfl) (by kernel_rfl) hz ⟨by decide,by decide⟩ (fun t ht=>⟨rfl,ht.2.1,ht.1⟩) (N:=100) ?_
  refine ict z zn n l.length cp (decide (C=l)) (fun t:Nat × Nat × T aa × Nat=>zp z zn (t.2.2.1,t.2.2.2)/\t.2.1=C.length/\t.2.2.1.get t.1=some (PZ (C.map ae.row).flatten C.length)) _ ⟨nC1 hgt,fun _=>?_⟩
  (repeat' first|(with_reducible first|exact rfl|assumption|apply And.intro|exact zp.bQ (And.left ‹_›))|exact lp _ (by with_reducible assumption) (by with_reducible assumption)|intro hq)
  ·rename_i t ht
   refine q2 (t.2.2.1,t.2.2.2) ht.1 rfl ?_ rfl rfl rfl
   have: ¬C=l:=fun e=>by
    rw[ht.2.1,e] at hq;simp at hq
   rw[decide_eq_false this]
  ·rename_i t ht _ _
   refine q2 (t.2.2.1,t.2.2.2) ht.1 rfl ?_ rfl rfl rfl
   rw[hq]
  ·rename_i t ht _ _
   refine q2 (t.2.2.1,t.2.2.2) ht.1 rfl ?_ rfl rfl rfl
   rw[hq]
theorem JS(hz:ay z zn)(n:Nat)(hn:n<=64)(l:List ae)(hl:nm n l)(hll:l.length<=10000)(cp:Nat)(hL:cf z 4 (l.map ae.row))(C:List ae)(hC: ∀d f,DF n l d f->eP d f n n=C)(hS:kJ C)
 (hso:A1 z zn 75 [tb 4 l.length cp,iv n] [] 0 0 (.tuple ⟨[zv 0,zv 0]⟩) []):
 A1 z zn 64 [tb 4 l.length cp,iv n] [] 0 0 (.bool (decide (C=l))) []:=
 nQ (F5 hz n hn l hl hll cp hL C hC hS hso) rfl fun t ht=>ht.2.2
theorem F4(hz:ay z zn)(n:Nat)(hn:n<=64)(hC: ∀d f,DF n [] d f->eP d f n n=[])(hS:kJ [])
 (hso:A1 z zn 75 [az,iv n] [] 0 0 (.tuple ⟨[zv 0,zv 0]⟩) []):
 A1 z zn 64 [az,iv n] [] 0 0 (.bool true) []:=by
 have hc:=Qz hz n hn [] hC hS
 have hgt:decide ((n:Int)>64)=false:=by simp;omega
 have hcz:bF prog z zn 76 [az, .int .i64 (if 0>(n:Int) then 0 else (n:Int))] [] 0 0 (zp z zn) (fun _=>az) (fun _=>[]) (fun t=>t.1) (fun t=>t.2):=by
  rw[WJ]
  refine qT hc (fun s hs=>⟨(s.z,s.zn),⟨hs.bQ,hs.le,hs.iL⟩,?_,rfl,rfl,rfl⟩) fun t ht=>⟨fun b o hb=>by simp at hb,ht.2.1,ht.1⟩
  rcases hs.val with ⟨_,e1,e2⟩|⟨h,_⟩
  ·obtain⟨oa,k,z,zn⟩:=s
   simp only at e1 e2;subst e1 e2;rfl
  ·exact absurd rfl h
 have lp: ∀t,zp z zn t->ai prog (ah (ag f64) 0) 0 43 (og az) [] 0 t.1 t.2 (Al.R (Ie t.1 t.2 az).l):=fun t ht=>AL ht.1 _ fun σ=>rfl
 refine nQ (φ:=zp z zn) (zz:=fun t=>t.1) (zn':=fun t=>t.2) ?_ rfl fun t ht=>ht.2.2
 refine gi (cS T.leaf) (fn:=f64) (by kernel_rfl) (by kernel_rfl) hz ⟨by decide,by decide⟩ (fun t ht=>⟨rfl,ht.2.1,ht.1⟩) (N:=100) ?_
 refine icn z zn n (zp z zn) _ ⟨nC1 hgt,fun _=>?_⟩
 (repeat' first|(with_reducible first|exact rfl|assumption|apply And.intro|exact zp.bQ ‹_›)|exact lp _ (by with_reducible assumption)|intro hq)
 rename_i t ht _
 exact q2 t ht rfl rfl rfl rfl rfl
end
theorem vd{n:Int}{l:List ae}(i:Nat):cK n l i≠some 0:=by
 unfold cK
 split
 ·split
  ·simp
  ·rename_i h;intro e;exact h (by simpa using e)
 ·simp
theorem Hw{n:Nat}{l:List ae}(h:(aS n l).2=0):nm n l:=⟨fun p hp=>by
 obtain⟨i,hi⟩:=List.mem_iff_getElem?.1 hp
 have hlt:=(List.getElem?_eq_some_iff.1 hi).1
 have:=im vd l.length 0 h i (Nat.zero_le _) (by omega)
 unfold cK at this
 rw[hi] at this
 simp only at this
 split at this
 ·rename_i h0
  unfold fT at h0
  split at h0
  ·cases h0
  ·split at h0
   ·cases h0
   ·omega
 ·cases this⟩
theorem vK{n:Int}{l:List ae}(h:(aS n l).2=0):aS n l=(0,0):=by
 have hn:=im vd l.length 0 h
 have: ∀(m i:Nat),(∀j,i<=j->j<i+m->cK n l j=none)->scan (cK n l) m i=(0,0):=by
  intro m
  induction m with
  |zero=>intro i _;rfl
  |succ m ih=>
   intro i hb
   have:=cN (bad:=cK n l) (n:=i+(m+1)) (i:=i) (by omega) (hb i (Nat.le_refl _) (by omega))
   rw[show i+(m+1) - i=m+1 by omega,show i+(m+1) - (i+1)=m by omega] at this
   rw[this]
   exact ih (i+1) fun j h1 h2=>hb j (by omega) (by omega)
 exact this _ _ hn
section
variable{z:T aa}{zn:Nat}
theorem Js{n:Nat}(hn:n<=64)(l:List ae):(ie n l).length<=10000:=by
 obtain⟨M,F,h⟩:=wH n l
 rw[←kV h]
 have:=oL M F n n
 have h2:n*(2*n)<=64*(2*64):=Nat.mul_le_mul (by omega) (by omega)
 omega
theorem Po{n:Nat}(hn:n<=64){l:List ae}(h:(aS n l).2=0):l.length<=10000:=by
 have hb:=im vd l.length 0 h
 have:=DL (n:=n) (by omega) (Nat.le_refl l.length) fun j hj=>hb j (Nat.zero_le _) (by omega)
 omega
theorem JD(hz:ay z zn)(h5:5<=zn)(N:aM)(hn:N.ns<=64)(l:List ae)(hN:N.np=l.length)(hnet: ∀σ:bu,aI (aA σ []) (N.bW N.p1)=some (N.bW N.p1))(hL:cf z 4 (l.map ae.row))(p:Int × Int)
 (hp:p=if (aS N.ns l).2≠0 then aS N.ns l else if ie N.ns l=l then (0,0) else (0,18)):
 A1 z zn 71 [.agg ⟨N.iz N.p1⟩] [] 0 0 (.tuple ⟨[zv p.1,zv p.2]⟩) []:=by
 have h0:=Is hz (fX z) N hn l hN hnet hL (aS N.ns l) rfl
 have hcl:(aS N.ns l).1=0/\(aS N.ns l).2=0->bF prog z zn 85 [tb 4 N.np N.pc,iv N.ns] [] 0 1 (B8 z zn (ie N.ns l)) (fun s=>aX 0 s.k s.k) (fun s=>[(0, .aw s.bl)]) (fun s=>s.z) (fun s=>s.zn):=fun h=>by
  rw[hN]
  exact FY hz h5 N.ns hn l (Hw h.2) (Po hn h.2) N.pc hL (ie N.ns l) fun M F hm=>kV hm
 have lp: ∀s,B8 z zn (ie N.ns l) s->((s.k:Int) !=(N.np:Int))=false->ai prog (ah (ag f71) 2) 2 111 (su s.k 0) [(0,N.bW N.p1),(1, .aw s.bl)] 2 s.z s.zn (Al.R (PI N N.p1 (decide (ie N.ns l=l)) s).l):=fun s hs hk=>by
  have:s.k=N.np:=by simp at hk;omega
  exact Iq hs.bQ (fX s.z) N l (ie N.ns l) hN (by rw[←hs.k,this,hN]) (by have:=hs.k;have:=Js hn l;omega) hnet (dU hL hz hs.iL) s hs.k hs.bl rfl rfl _ rfl
 have rb: ∀s σ,B8 z zn (ie N.ns l) s->aI (sig σ) (.aw s.bl)=some (.aw s.bl):=fun s σ h=>by rw[h.bl];exact fD _
 have rb2: ∀s σ,B8 z zn (ie N.ns l) s->aI (aA σ []) (.aw s.bl)=some (.aw s.bl):=fun s σ h=>by rw[h.bl];exact fD _
 have fz: ∀s,B8 z zn (ie N.ns l) s->ay s.3 s.zn:=fun s h=>h.bQ
 refine nQ (φ:=zp z zn) (zz:=fun t=>t.1) (zn':=fun t=>t.2) ?_ rfl fun t ht=>ht.2.2
 refine gi (fX z) (fn:=f71) (by kernel_rfl) (by kernel_rfl) hz ⟨by decide,by decide⟩ (fun t ht=>⟨rfl,ht.2.1,ht.1⟩) (N:=100) ?_
 refine pp z zn N (decide (ie N.ns l=l)) (aS N.ns l).1 (aS N.ns l).2 (B8 z zn (ie N.ns l)) _ ?_
 (repeat' first|(with_reducible first|exact rfl|assumption|apply And.intro|exact hcl ‹_›|exact fz _ ‹_›|exact rb _ _ ‹_›|exact rb2 _ _ ‹_›)|exact h0|exact lp _ (by with_reducible assumption) (by with_reducible assumption)|exact hnet _|intro hq)
 ·refine q2 (z,zn) ⟨hz,Nat.le_refl _,fun _ _=>rfl⟩ rfl ?_ rfl rfl rfl
  rw[hp,if_pos hq]
 ·rename_i h s hs
  refine q2 (s.z,s.zn) ⟨hs.bQ,hs.le,hs.iL⟩ rfl ?_ rfl rfl rfl
  have hne: ¬ie N.ns l=l:=fun e=>by
   have h1:=hs.k
   rw[e,←hN] at h1
   rw[h1] at hq;simp at hq
  rw[hp,if_neg (fun h'=>h' h.2),if_neg hne];rfl
 ·rename_i h s hs _ _
  refine q2 (s.z,s.zn) ⟨hs.bQ,hs.le,hs.iL⟩ rfl ?_ rfl rfl rfl
  rw[hp,if_neg (fun h'=>h' h.2),if_neg (of_decide_eq_false hq)];rfl
 ·rename_i h s hs _ _
  refine q2 (s.z,s.zn) ⟨hs.bQ,hs.le,hs.iL⟩ rfl ?_ rfl rfl rfl
  rw[hp,if_neg (fun h'=>h' h.2),if_pos (of_decide_eq_true hq)];rfl
end
theorem SI{b:Bool}{k i j L:Nat}(t:Wk (cX (fm [] b)) k i j L):False:=by
 have: ∀u v w,¬cX (fm [] b) u v w:=fun u v w h=>by simp[cX,fm] at h
 cases t with
 |mY h=>exact this _ _ _ h
 |cons h _ _=>exact this _ _ _ h
theorem DG{n:Nat}{M F:Nat->Nat->Int}(h:MF n [] M F):bZ M F n n=[]:=by
 have h1: ∀m,m<=n-> ∀i,i<n->bN M F i [] m=[]:=by
  intro m
  induction m with
  |zero=>intro _ i _;rfl
  |succ m ih=>
   intro hm i hi
   rw[j7,ih (by omega) i hi]
   unfold dW
   have:=(h.1 i m hi (by omega)).1.2.1
   have hbig: ¬M i m<(lS:Int):=fun hlt=>SI (this hlt)
   have hb:(lS:Int)=1099511627776:=rfl
   rw[if_pos (.inr (by omega))]
 have h2: ∀m,m<=n->bZ M F n m=[]:=by
  intro m
  induction m with
  |zero=>intro _;rfl
  |succ m ih=>
   intro hm
   rw[iJ,ih (by omega)]
   exact h1 n (Nat.le_refl _) m (by omega)
 exact h2 n (Nat.le_refl _)
theorem uS(n:Nat):ie n []=[]:=by
 obtain⟨M,F,h⟩:=wH n []
 rw[←kV h];exact DG h
section
variable{z:T aa}{zn:Nat}
theorem FV(hz:ay z zn)(h5:5<=zn)(N:aM)(hn:N.ns<=64)(hnet: ∀σ:bu,aI (aA σ []) (N.bW az)=some (N.bW az)):
 A1 z zn 71 [.agg ⟨N.iz az⟩] [] 0 0 (.tuple ⟨[zv 0,zv 0]⟩) []:=by
 have h0:ai prog (ah (ag f71) 0) 1 111 (mq 0) [(0,N.bW az)] 1 z zn (Al.R (LV z zn N az 0 0).l):=by
  refine an hD (fX z) (α:=Unit) 1 111 1 (fun _=>True) (fun _=>mq 0) (fun _=>[(0,N.bW az)]) (fun _=>z) (fun _=>zn) (fun _=>0) _ (fun _ _=>?_) () trivial
  refine t100 (WB z zn N (ak _ _ _ _ _ _ _ _ _) ?_)
  (repeat' first|(with_reducible first|exact rfl|assumption|apply And.intro)|exact hnet _)
  exact dD (bD ⟨rfl,rfl⟩)
 have h0':ai prog (ah (ag f71) 0) 1 111 (mq 0) [(0,N.bW az)] 1 z zn (Al.R (alt ((0:Nat)≠0) (ax.mk af.ret [(2,zv 0),(3,zv 0)] [] 1 z zn) (alt ((0:Nat)=0/\(0:Nat)=0) (ax.mk (af.exit 0) [(1,ip 0)] [(0,N.bW az)] 1 z zn) Al.nil))):=by
  refine oR h0 fun o ho=>?_
  rcases ho with ⟨_,h,_⟩|⟨_,_,h⟩|h
  ·exact absurd rfl h
  ·exact dD (h ▸ bD ⟨rfl,rfl⟩)
  ·exact h.elim
 have hcl:bF prog z zn 85 [az,iv N.ns] [] 0 1 (B8 z zn []) (fun s=>aX 0 s.k s.k) (fun s=>[(0, .aw s.bl)]) (fun s=>s.z) (fun s=>s.zn):=
  C6 hz h5 N.ns hn [] fun M F hm=>DG hm
 have lp: ∀s,B8 z zn [] s->ai prog (ah (ag f71) 2) 2 111 (su s.k 0) [(0,N.bW az),(1, .aw s.bl)] 2 s.z s.zn (Al.R (PI N az true s).l):=fun s hs=>by
  have hk:=hs.k
  have hfz:=hs.bQ
  have rb: ∀σ,aI (aA σ []) (.aw s.bl)=some (.aw s.bl):=fun σ=>by rw[hs.bl];exact fD _
  obtain⟨k,bl,z',zn'⟩:=s
  simp only[List.length_nil] at hk hfz rb ⊢
  subst hk
  refine an hD (fX z') (α:=Unit) 2 111 2 (fun _=>True) (fun _=>su 0 0) (fun _=>[(0,N.bW az),(1, .aw bl)]) (fun _=>z') (fun _=>zn') (fun _=>0) _ (fun _ _=>?_) () trivial
  refine t100 (WA z' zn' N bl (ak _ _ _ _ _ _ _ _ _) ?_)
  (repeat' first|(with_reducible first|exact rfl|assumption|apply And.intro))
  exact dD (bD rfl)
 have rb: ∀s σ,B8 z zn [] s->aI (sig σ) (.aw s.bl)=some (.aw s.bl):=fun s σ h=>by rw[h.bl];exact fD _
 have rb2: ∀s σ,B8 z zn [] s->aI (aA σ []) (.aw s.bl)=some (.aw s.bl):=fun s σ h=>by rw[h.bl];exact fD _
 have fz: ∀s,B8 z zn [] s->ay s.3 s.zn:=fun s h=>h.bQ
 refine nQ (φ:=zp z zn) (zz:=fun t=>t.1) (zn':=fun t=>t.2) ?_ rfl fun t ht=>ht.2.2
 refine gi (fX z) (fn:=f71) (by kernel_rfl) (by kernel_rfl) hz ⟨by decide,by decide⟩ (fun t ht=>⟨rfl,ht.2.1,ht.1⟩) (N:=100) ?_
 refine ppz z zn N true (B8 z zn []) _ ?_
 (repeat' first|(with_reducible first|exact rfl|assumption|apply And.intro|exact fz _ ‹_›|exact rb _ _ ‹_›|exact rb2 _ _ ‹_›)|exact lp _ (by with_reducible assumption)|exact hnet _|intro hq)
 ·exact absurd rfl hq
 ·rename_i h s hs
  rw[hs.k] at hq;simp at hq
 ·exact absurd hq (by decide)
 ·rename_i h s hs _ _
  exact q2 (s.z,s.zn) ⟨hs.bQ,hs.le,hs.iL⟩ rfl rfl rfl rfl rfl
end
section
variable{z:T aa}{zn:Nat}
theorem JN(hz:ay z zn)(N:aM)(hn:N.ns<=64)(l:List ae)(hN:N.np=l.length)(hll:l.length<=10000)(hnet: ∀σ:bu,aI (aA σ []) (N.bW N.p1)=some (N.bW N.p1))(hL:cf z 4 (l.map ae.row))(hS:(aS N.ns l).2=0->kJ (ie N.ns l))(r:Int × Int × Int)
 (hr:r=if (aS N.ns l).2≠0 then (4,aS N.ns l) else if ie N.ns l=l then (0,0,0) else (4,0,18)):
 A1 z zn 48 [.agg ⟨N.iz N.p1⟩] [] 0 0 (.agg ⟨[zv r.1,zv r.2.1,zv r.2.2]⟩) []:=by
 refine Na hz (fX z) N hn l hN hnet hL (decide (ie N.ns l=l)) (fun h=>?_) r (by rw[hr];simp only[decide_eq_true_eq])
 have hso:=M1 hz (fX z) N.ns (by omega) l N.pc hL
 rw[vK h] at hso
 have:=JS hz N.ns hn l (Hw h) hll N.pc hL (ie N.ns l) (fun d f hd=>xz (Hw h) hd) (hS h) hso
 show A1 z zn _ [tb 4 N.np N.pc,iv N.ns] [] 0 0 _ []
 rw[hN];exact this
theorem F3(hz:ay z zn)(N:aM)(hn:N.ns<=64)(hnet: ∀σ:bu,aI (aA σ []) (N.bW az)=some (N.bW az))(hS:kJ []):
 A1 z zn 48 [.agg ⟨N.iz az⟩] [] 0 0 (.agg ⟨[zv 0,zv 0,zv 0]⟩) []:=by
 have hl:nm N.ns []:=⟨fun p hp=>by simp at hp⟩
 have:=F4 hz N.ns hn (fun d f hd=>by rw[xz hl hd];exact uS _) hS (JB hz (fX z) N.ns)
 exact JL hz (fX z) N hnet true this (0,0,0) rfl
end
def LO(x y:ae):Prop:=x.fz1<y.fz1\/(x.fz1=y.fz1/\(x.aq<y.aq\/(x.aq=y.aq/\x.aK<y.aK)))
theorem MW{x y:ae}(h:LO x y):decide (qS y.fz1 y.aq y.aK x.fz1 x.aq x.aK<0)=false:=by
 rw[decide_eq_false_iff_not]
 unfold qS Kv Bk
 unfold LO at h
 (repeat' split)<;>omega
theorem O5{C:List ae}(h:C.Pairwise LO):pg C:=fun i j x y hij hx hy=>by
 obtain⟨h1,e1⟩:=List.getElem?_eq_some_iff.1 hx
 obtain⟨h2,e2⟩:=List.getElem?_eq_some_iff.1 hy
 have:=List.pairwise_iff_getElem.1 h i j h1 h2 hij
 rw[e1,e2] at this
 exact MW this
theorem KZ{M F:Nat->Nat->Int}{i j:Nat}{L:List ae}(h:L.Pairwise LO)(hb: ∀p∈L,p.fz1<(i:Int)\/(p.fz1=(i:Int)/\p.aq<(j:Int))):
 (dW M F i L j).Pairwise LO/\ ∀p∈dW M F i L j,p.fz1<(i:Int)\/(p.fz1=(i:Int)/\p.aq<((j+1:Nat):Int)):=by
 have lt1: ∀p∈L,∀s b,LO p ⟨i,j,s,b⟩:=fun p hp s b=>by
  rcases hb p hp with q|⟨q1,q2⟩
  ·exact .inl q
  ·exact .inr ⟨q1, .inl q2⟩
 have up: ∀p∈L,p.fz1<(i:Int)\/(p.fz1=(i:Int)/\p.aq<((j+1:Nat):Int)):=fun p hp=>by
  rcases hb p hp with q|⟨q1,q2⟩
  ·exact .inl q
  ·exact .inr ⟨q1,by omega⟩
 have new: ∀s b,(⟨i,j,s,b⟩:ae).fz1<(i:Int)\/((⟨i,j,s,b⟩:ae).fz1=(i:Int)/\(⟨i,j,s,b⟩:ae).aq<((j+1:Nat):Int)):=fun s b=> .inr ⟨rfl,by show(j:Int)<_;omega⟩
 unfold dW
 split
 ·exact⟨h,up⟩
 ·split
  ·rename_i hlt
   refine⟨?_,fun p hp=>?_⟩
   ·rw[List.append_assoc,List.pairwise_append]
    refine⟨h,?_,fun a ha b hb2=>?_⟩
    ·simp only[List.cons_append,List.nil_append,List.pairwise_cons,List.mem_cons,List.not_mem_nil,or_false,forall_eq,false_implies,implies_true,List.Pairwise.nil,and_true]
     exact .inr ⟨rfl, .inr ⟨rfl,hlt.1⟩⟩
    ·simp only[List.cons_append,List.nil_append,List.mem_cons,List.not_mem_nil,or_false] at hb2
     rcases hb2 with rfl|rfl
     ·exact lt1 a ha _ _
     ·exact lt1 a ha _ _
   ·simp only[List.mem_append,List.mem_cons,List.not_mem_nil,or_false] at hp
    rcases hp with (hp|rfl)|rfl
    ·exact up p hp
    ·exact new _ _
    ·exact new _ _
  ·refine⟨?_,fun p hp=>?_⟩
   ·rw[List.pairwise_append]
    refine⟨h,by simp,fun a ha b hb2=>?_⟩
    simp only[List.mem_cons,List.not_mem_nil,or_false] at hb2
    subst hb2
    exact lt1 a ha _ _
   ·simp only[List.mem_append,List.mem_cons,List.not_mem_nil,or_false] at hp
    rcases hp with hp|rfl
    ·exact up p hp
    ·exact new _ _
theorem He{M F:Nat->Nat->Int}{i:Nat}{L:List ae}(h:L.Pairwise LO)(hb: ∀p∈L,p.fz1<(i:Int)): ∀m,(bN M F i L m).Pairwise LO/\ ∀p∈bN M F i L m,p.fz1<(i:Int)\/(p.fz1=(i:Int)/\p.aq<(m:Int))
 |0=>⟨h,fun p hp=> .inl (hb p hp)⟩
 |m+1=>by
  obtain⟨h1,h2⟩:=He h hb m
  rw[j7]
  exact KZ h1 h2
theorem J7{M F:Nat->Nat->Int}{n:Nat}: ∀m,(bZ M F n m).Pairwise LO/\ ∀p∈bZ M F n m,p.fz1<(m:Int)
 |0=>⟨List.Pairwise.nil,fun p hp=>by cases hp⟩
 |m+1=>by
  obtain⟨h1,h2⟩:=J7 m
  obtain⟨h3,h4⟩:=He (M:=M) (F:=F) h1 h2 n
  rw[iJ]
  exact⟨h3,fun p hp=>by rcases h4 p hp with q|⟨q,_⟩<;>omega⟩
theorem G6(n:Nat)(l:List ae):pg (ie n l):=by
 obtain⟨M,F,h⟩:=wH n l
 rw[←kV h]
 exact O5 (J7 n).1
theorem zD(n:Nat)(hn:n<=64)(l:List ae):kJ (ie n l):=by
 refine we (G6 n l) ?_
 obtain⟨M,F,h⟩:=wH n l
 rw[←kV h]
 have h1:=oL M F n n
 have h2:n*(2*n)<=64*(2*64):=Nat.mul_le_mul hn (by omega)
 omega
theorem Cf:kJ []:=we (fun i j x y _ h=>by cases h) (by decide)
section
variable{z:T aa}{zn:Nat}
theorem JM(hz:ay z zn)(N:aM)(hn:N.ns<=64)(l:List ae)(hN:N.np=l.length)(hll:l.length<=10000)(hnet: ∀σ:bu,aI (aA σ []) (N.bW N.p1)=some (N.bW N.p1))(hL:cf z 4 (l.map ae.row))(r:Int × Int × Int)
 (hr:r=if (aS N.ns l).2≠0 then (4,aS N.ns l) else if ie N.ns l=l then (0,0,0) else (4,0,18)):
 A1 z zn 48 [.agg ⟨N.iz N.p1⟩] [] 0 0 (.agg ⟨[zv r.1,zv r.2.1,zv r.2.2]⟩) []:=
 JN hz N hn l hN hll hnet hL (fun _=>zD N.ns hn l) r hr
theorem F2(hz:ay z zn)(N:aM)(hn:N.ns<=64)(hnet: ∀σ:bu,aI (aA σ []) (N.bW az)=some (N.bW az)):
 A1 z zn 48 [.agg ⟨N.iz az⟩] [] 0 0 (.agg ⟨[zv 0,zv 0,zv 0]⟩) []:=F3 hz N hn hnet Cf
end
end Go.Proofs.Nw
namespace Go.Proofs.Nw
open Go Go.AV Tryz
set_option maxHeartbeats 1000000
set_option maxRecDepth 100000
structure BP where
 stops:List bJ
 eL:List aY
 runs:List RunT
 dX:List aH
 paths:List ae
 iK:List bI
structure jb(z:T aa)(N:aM)(D:BP):Prop where
 s:B7 2 N.sa N.ns N.sc D.stops.length
 r:B7 3 N.ra N.nr N.rc D.eL.length
 u:B7 1 N.ua N.nu N.uc D.runs.length
 l:B7 0 N.la N.nl N.lc D.dX.length
 p:B7 4 N.pa N.np N.pc D.paths.length
 f:B7 5 N.fa N.nf N.fc D.iK.length
 ts:cf z 2 (D.stops.map bJ.row)
 tr:cf z 3 (D.eL.map aY.row)
 tu:qp z D.runs
 tl:cf z 0 (D.dX.map aH.row)
 tp:cf z 4 (D.paths.map ae.row)
 tf:cf z 5 (D.iK.map bI.row)
theorem nB{k:Nat}{a:Option Addr}{n c len:Nat}(h:B7 k a n c len)(σ:bu):aW (aA σ []) (.slice a n c)=some (.slice a n c):=by
 rcases h with ⟨rfl,rfl,rfl,_⟩|⟨rfl,rfl⟩
 ·rfl
 ·exact qH σ k _ _
theorem gl{k:Nat}{a:Option Addr}{n c len:Nat}(h:B7 k a n c len)(σ:bu):aW (sig σ) (.slice a n c)=some (.slice a n c):=by
 rcases h with ⟨rfl,rfl,rfl,_⟩|⟨rfl,rfl⟩
 ·rfl
 ·have:sig σ (256*k+510)=some (256*k+510):=by
   unfold sig
   rw[Nat.ble_eq_true_of_le (by unfold cI;omega)]
  simp only[aW,this]
section
variable{z:T aa}{zn:Nat}{N:aM}{D:BP}
theorem jb.Ql(h:jb z N D)(σ:bu):bz (aA σ []) N.cells=some N.cells:=by
 have e: ∀x:Int,aW (aA σ []) (zv x)=some (zv x):=fun _=>rfl
 simp only[bz,nB h.s,nB h.r,nB h.u,nB h.l,nB h.p,nB h.f,e]
theorem jb.Qk(h:jb z N D)(σ:bu):bz (sig σ) N.cells=some N.cells:=by
 have e: ∀x:Int,aW (sig σ) (zv x)=some (zv x):=fun _=>rfl
 simp only[bz,gl h.s,gl h.r,gl h.u,gl h.l,gl h.p,gl h.f,e]
theorem jb.box(h:jb z N D)(σ:bu):aI (aA σ []) N.box=some N.box:=by
 simp only[aI,h.Ql]
theorem jb.val(h:jb z N D)(σ:bu):aW (sig σ) (.agg ⟨N.cells⟩)=some (.agg ⟨N.cells⟩):=by
 simp only[aW,h.Qk]
theorem Ha(hz:ay z zn){a:Option Addr}{n c:Nat}{l:List bJ}(h:B7 2 a n c l.length)(ht:cf z 2 (l.map bJ.row)):
 A1 z zn 41 [.slice a n c] [] 0 0 (.tuple ⟨[zv (b9 l).1,zv (b9 l).2]⟩) []/\A1 z zn 67 [.slice a n c] [] 0 0 (.tuple ⟨[zv (b9 l).1,zv (b9 l).2]⟩) []:=by
 rcases h with ⟨rfl,rfl,rfl,h⟩|⟨rfl,rfl⟩
 ·have:=List.length_eq_zero_iff.1 h
  subst this
  exact⟨M0 hz (fX z),FT hz (fX z)⟩
 ·exact⟨Qm hz (fX z) l c ht,JC hz (fX z) l c ht⟩
theorem Dx(hz:ay z zn){a:Option Addr}{n c:Nat}{l:List aY}(h:B7 3 a n c l.length)(ht:cf z 3 (l.map aY.row)):
 A1 z zn 42 [.slice a n c] [] 0 0 (.tuple ⟨[zv (bY l).1,zv (bY l).2]⟩) []/\A1 z zn 68 [.slice a n c] [] 0 0 (.tuple ⟨[zv (bY l).1,zv (bY l).2]⟩) []:=by
 rcases h with ⟨rfl,rfl,rfl,h⟩|⟨rfl,rfl⟩
 ·have:=List.length_eq_zero_iff.1 h
  subst this
  exact⟨JE hz (fX z),C5 hz (fX z)⟩
 ·exact⟨M5 hz (fX z) l c ht,FU hz (fX z) l c ht⟩
theorem Hc(hz:ay z zn){a:Option Addr}{n c:Nat}{l:List bI}(h:B7 5 a n c l.length)(ht:cf z 5 (l.map bI.row))(d w cc:Int):
 A1 z zn 47 [.agg ⟨[.slice a n c,zv d,zv w,zv cc]⟩] [] 0 0 (.tuple ⟨[zv (bB d w cc l).1,zv (bB d w cc l).2]⟩) []/\A1 z zn 72 [.agg ⟨[.slice a n c,zv d,zv w,zv cc]⟩] [] 0 0 (.tuple ⟨[zv (bB d w cc l).1,zv (bB d w cc l).2]⟩) []:=by
 rcases h with ⟨rfl,rfl,rfl,h⟩|⟨rfl,rfl⟩
 ·have:=List.length_eq_zero_iff.1 h
  subst this
  exact⟨M9 hz (fX z) d w cc,FX hz (fX z) d w cc⟩
 ·exact⟨Qs hz (fX z) l c ht d w cc,JH hz (fX z) l c ht d w cc⟩
theorem M4(hz:ay z zn)(N:aM)(hnet: ∀σ:bu,aI (aA σ []) (N.cA az N.l0)=some (N.cA az N.l0)):
 A1 z zn 45 [.agg ⟨N.eA az N.l0⟩] [] 0 0 (.agg ⟨[I 0,I 0,I 0]⟩) []:=by
 have hL:ai prog (ah (ag f45) 0) 3 96 E7 [(0,N.cA az N.l0),(1,c7 0 0 0),(2,bb [])] 3 z zn (Al.R (WQ z zn N).l):=by
  refine an hD (fX z) (α:=Unit) 3 96 3 (fun i=>True) (fun i=>E7) (fun i=>[(0,N.cA az N.l0),(1,c7 0 0 0),(2,bb [])]) (fun _=>z) (fun _=>zn) (fun i=>0) _ (fun i hI=>?_) () trivial
  refine t100 (ruz z zn N (ak _ _ _ _ _ _ _ _ _) ?_)
  (repeat' first|(with_reducible first|exact rfl|assumption|apply And.intro))
  all_goals first|exact bD trivial|trace_state
 refine aK1 (fX z) (fn:=f45) hz (fuz z zn N _ ?_)
 (repeat' first|(with_reducible first|exact rfl|assumption|apply And.intro|exact q1)|exact hL|exact hnet _|intro hq)
theorem Pc(hz:ay z zn)(h:jb z N D):
 A1 z zn 45 [.agg ⟨N.cells⟩] [] 0 0 (.agg ⟨[zv (if (cG N.ns N.nr D.runs).2=0 then 0 else 2),zv (cG N.ns N.nr D.runs).1,zv (cG N.ns N.nr D.runs).2]⟩) []:=by
 obtain⟨sa,ns,sc,ra,nr,rc,ua,nu,uc,la,nl,lc,pa,np,pc,fa,nf,fc,d,w,c⟩:=N
 have hb:=h.box
 rcases h.u with ⟨h1,h2,h3,h4⟩|⟨h1,h2⟩<;>simp only at h1 h2
 ·simp only at h3
  subst h1 h2 h3
  rw[List.length_eq_zero_iff.1 h4]
  exact M4 hz _ hb
 ·subst h1 h2
  exact Qp hz (fX z) _ D.runs rfl h.tu hb
theorem Pd(hz:ay z zn)(h:jb z N D)(hl:D.runs.length<100000)(i:Nat)(hi:i<N.nu):
 A1 z zn 69 [.agg ⟨N.cells⟩,iv i] [] 0 0 (zv ((dm N.ns N.nr D.runs i).getD 0)) []:=by
 obtain⟨sa,ns,sc,ra,nr,rc,ua,nu,uc,la,nl,lc,pa,np,pc,fa,nf,fc,d,w,c⟩:=N
 have hb:=h.box
 rcases h.u with ⟨h1,h2,h3,h4⟩|⟨h1,h2⟩<;>simp only at h1 h2
 ·simp only at hi;omega
 ·subst h1 h2
  exact Qq hz (fX z) _ D.runs hl rfl h.tu hb i hi
theorem K8(hz:ay z zn)(h:jb z N D)(hU:nj D.runs):
 A1 z zn 46 [.agg ⟨N.cells⟩] [] 0 0 (.agg ⟨[zv (if (bL D.runs D.dX).2=0 then 0 else 3),zv (bL D.runs D.dX).1,zv (bL D.runs D.dX).2]⟩) []:=by
 obtain⟨sa,ns,sc,ra,nr,rc,ua,nu,uc,la,nl,lc,pa,np,pc,fa,nf,fc,d,w,c⟩:=N
 have hb:=h.box
 rcases h.l with ⟨k1,k2,k3,k4⟩|⟨k1,k2⟩<;>simp only at k1 k2
 ·simp only at k3
  subst k1 k2 k3
  rw[List.length_eq_zero_iff.1 k4]
  exact JO hz (fX z) _ hb
 ·subst k1 k2
  rcases h.u with ⟨h1,h2,h3,h4⟩|⟨h1,h2⟩<;>simp only at h1 h2
  ·simp only at h3
   subst h1 h2 h3
   rw[List.length_eq_zero_iff.1 h4]
   exact JP hz (fX z) _ D.dX rfl h.tl hb
  ·subst h1 h2
   exact Nb hz (fX z) _ D.runs D.dX rfl rfl h.tl h.tu hU hb
theorem K6(hz:ay z zn)(h:jb z N D)(hU:nj D.runs)(hl:D.dX.length<100000)(i:Nat)(hi:i<N.nl):
 A1 z zn 70 [.agg ⟨N.cells⟩,iv i] [] 0 0 (zv ((fw D.runs D.dX i).getD 0)) []:=by
 obtain⟨sa,ns,sc,ra,nr,rc,ua,nu,uc,la,nl,lc,pa,np,pc,fa,nf,fc,d,w,c⟩:=N
 have hb:=h.box
 have hv:=h.val []
 rcases h.l with ⟨k1,k2,k3,k4⟩|⟨k1,k2⟩<;>simp only at k1 k2
 ·simp only at hi;omega
 ·subst k1 k2
  obtain⟨x,hx⟩:=eV hi
  have e:(fw D.runs D.dX i).getD 0=iM D.runs D.dX i x:=by
   unfold fw
   rw[hx]
   simp only
   split
   ·rename_i h0;rw[h0];rfl
   ·rfl
  rw[e]
  rcases h.u with ⟨h1,h2,h3,h4⟩|⟨h1,h2⟩<;>simp only at h1 h2
  ·simp only at h3
   subst h1 h2 h3
   rw[List.length_eq_zero_iff.1 h4]
   exact JF hz (fX z) _ D.dX rfl h.tl i x hx
  ·subst h1 h2
   exact M6 hz (fX z) _ D.runs D.dX hl rfl rfl h.tl h.tu hU hb (lF hv rfl) i x hx
noncomputable def fV(n:Nat)(l:List ae):Int × Int:=by
 classical
 exact if (aS n l).2≠0 then aS n l else if ie n l=l then (0,0) else (0,18)
theorem qe(n:Nat)(l:List ae)[Decidable (ie n l=l)]:fV n l=if (aS n l).2≠0 then aS n l else if ie n l=l then (0,0) else (0,18):=by
 unfold fV
 congr
theorem K7(hz:ay z zn)(h:jb z N D)(hn:N.ns<=64)(hll:D.paths.length<=10000):
 A1 z zn 48 [.agg ⟨N.cells⟩] [] 0 0 (.agg ⟨[zv (if (fV N.ns D.paths).2=0 then 0 else 4),zv (fV N.ns D.paths).1,zv (fV N.ns D.paths).2]⟩) []:=by
 classical
 obtain⟨sa,ns,sc,ra,nr,rc,ua,nu,uc,la,nl,lc,pa,np,pc,fa,nf,fc,d,w,c⟩:=N
 have hb:=h.box
 rcases h.p with ⟨k1,k2,k3,k4⟩|⟨k1,k2⟩<;>simp only at k1 k2
 ·simp only at k3 hn
  subst k1 k2 k3
  rw[List.length_eq_zero_iff.1 k4]
  have e:fV ns []=(0,0):=by rw[qe,if_neg (by simp[aS,scan]),if_pos (uS _)]
  show A1 z zn _ _ [] 0 0 (.agg ⟨[zv (if (fV ns []).2=0 then 0 else 4),zv (fV ns []).1,zv (fV ns []).2]⟩) []
  rw[e]
  exact F2 hz _ hn hb
 ·subst k1 k2
  refine JM hz _ hn D.paths rfl hll hb h.tp (if (fV ns D.paths).2=0 then 0 else 4,(fV ns D.paths).1,(fV ns D.paths).2) ?_
  rw[qe]
  show _=if (aS ns D.paths).2≠0 then (4,aS ns D.paths) else if ie ns D.paths=D.paths then (0,0,0) else (4,0,18)
  by_cases h1:(aS ns D.paths).2=0<;>by_cases h2:ie ns D.paths=D.paths<;>simp[h1,h2]
theorem Hb(hz:ay z zn)(h5:5<=zn)(h:jb z N D)(hn:N.ns<=64):
 A1 z zn 71 [.agg ⟨N.cells⟩] [] 0 0 (.tuple ⟨[zv (fV N.ns D.paths).1,zv (fV N.ns D.paths).2]⟩) []:=by
 classical
 obtain⟨sa,ns,sc,ra,nr,rc,ua,nu,uc,la,nl,lc,pa,np,pc,fa,nf,fc,d,w,c⟩:=N
 have hb:=h.box
 rcases h.p with ⟨k1,k2,k3,k4⟩|⟨k1,k2⟩<;>simp only at k1 k2
 ·simp only at k3 hn
  subst k1 k2 k3
  rw[List.length_eq_zero_iff.1 k4]
  have e:fV ns []=(0,0):=by rw[qe,if_neg (by simp[aS,scan]),if_pos (uS _)]
  show A1 z zn _ _ [] 0 0 (.tuple ⟨[zv (fV ns []).1,zv (fV ns []).2]⟩) []
  rw[e]
  exact FV hz h5 _ hn hb
 ·subst k1 k2
  exact JD hz h5 _ hn D.paths rfl hb h.tp (fV ns D.paths) (qe _ _)
noncomputable def fG(N:aM)(D:BP):Int × Int × Int:=iy (b9 D.stops) (bY D.eL) (2,cG N.ns N.nr D.runs) (3,bL D.runs D.dX) (4,fV N.ns D.paths) (bB N.d N.w N.c D.iK)
theorem yD(s r u k p f:Int × Int):iy s r (if u.2=0 then 0 else 2,u) (if k.2=0 then 0 else 3,k) (if p.2=0 then 0 else 4,p) f=iy s r (2,u) (3,k) (4,p) f:=by
 unfold iy
 by_cases h1:u.2=0<;>by_cases h2:k.2=0<;>by_cases h3:p.2=0<;>simp[h1,h2,h3]
theorem sI{k:Nat}{a:Option Addr}{n c len:Nat}(h:B7 k a n c len):n=len:=by
 rcases h with ⟨_,rfl,_,rfl⟩|⟨_,rfl⟩<;>rfl
theorem Dt{l:List bJ}(h:(b9 l).2=0):l.length<=64:=by
 unfold b9 at h
 split at h
 ·cases h
 ·omega
theorem rE{f:Nat->Option Nat}{v:Value}(h:aW f v=some v):bz f [v]=some [v]:=by simp only[bz,h]
theorem JU(hz:ay z zn)(h:jb z N D)(hll:D.paths.length<=10000):
 A1 z zn 26 [.agg ⟨N.cells⟩] [] 0 0 (.tuple ⟨[zv (fG N D).1,zv (fG N D).2.1,zv (fG N D).2.2]⟩) []:=by
 have:=Nf hz (fX z) N (b9 D.stops) (bY D.eL) (if (cG N.ns N.nr D.runs).2=0 then 0 else 2,cG N.ns N.nr D.runs) (if (bL D.runs D.dX).2=0 then 0 else 3,bL D.runs D.dX) (if (fV N.ns D.paths).2=0 then 0 else 4,fV N.ns D.paths) (bB N.d N.w N.c D.iK)
  (rE (h.val [])) (rE (gl h.s _)) (rE (gl h.r _)) (rE (by
    have e: ∀x:Int,aW (sig []) (zv x)=some (zv x):=fun _=>rfl
    have e2:=gl h.f []
    have e3:bz (sig []) [.slice N.fa N.nf N.fc,zv N.d,zv N.w,zv N.c]=some [.slice N.fa N.nf N.fc,zv N.d,zv N.w,zv N.c]:=by simp only[bz,e2,e]
    show(match bz (sig []) [.slice N.fa N.nf N.fc,zv N.d,zv N.w,zv N.c] with|some m=>some (Value.agg ⟨m⟩)|none=>none)=_
    rw[e3]))
  (Ha hz h.s h.ts).1 (Dx hz h.r h.tr).1 (fun _ _=>Pc hz h) (fun _ _ hu=>K8 hz h (wj (ns:=N.ns) (nr:=N.nr) (by simpa using hu)))
  (fun hs _ _ _=>K7 hz h (by have:=sI h.s;have:=Dt hs;omega) hll) (Hc hz h.f h.tf N.d N.w N.c).1
 rw[yD] at this
 exact this
theorem FZ(hz:ay z zn)(h5:5<=zn)(h:jb z N D):
 A1 z zn 54 [.agg ⟨N.cells⟩] [] 0 0 (.tuple ⟨[zv (fG N D).1,zv (fG N D).2.1,zv (fG N D).2.2]⟩) []:=by
 have hun:=sI h.u
 have hln:=sI h.l
 refine JI hz (fX z) N (b9 D.stops) (bY D.eL) (fV N.ns D.paths) (bB N.d N.w N.c D.iK) (cG N.ns N.nr D.runs) (bL D.runs D.dX) (fun i=>(dm N.ns N.nr D.runs i).getD 0) (fun i=>(fw D.runs D.dX i).getD 0)
  h.box (h.val []) (rE (gl h.s _)) (rE (gl h.r _)) (rE (by
   have e: ∀x:Int,aW (sig []) (zv x)=some (zv x):=fun _=>rfl
   have e2:=gl h.f []
   have e3:bz (sig []) [.slice N.fa N.nf N.fc,zv N.d,zv N.w,zv N.c]=some [.slice N.fa N.nf N.fc,zv N.d,zv N.w,zv N.c]:=by simp only[bz,e2,e]
   show(match bz (sig []) [.slice N.fa N.nf N.fc,zv N.d,zv N.w,zv N.c] with|some m=>some (Value.agg ⟨m⟩)|none=>none)=_
   rw[e3]))
  (Ha hz h.s h.ts).2 (Dx hz h.r h.tr).2 (fun _ _ h1024 i hi _=>Pd hz h (by omega) i hi) (by rw[hun];exact Pe _ _ _) (fun _ _ hu h1024 i hi _=>K6 hz h (wj (ns:=N.ns) (nr:=N.nr) hu) (by omega) i hi) (by rw[hln];exact Ms _ _)
  (fun hs _ _ _=>Hb hz h5 h (by have:=sI h.s;have:=Dt hs;omega)) (Hc hz h.f h.tf N.d N.w N.c).2
end
end Go.Proofs.Nw
namespace Go.Proofs.Nw
open Go Go.AV Tryz Go.RowKit
set_option maxRecDepth 100000
theorem Dy{α:Type}{row:α->List Value}{Q:α->Prop}: ∀{rows:List (List Value)},(∀r∈rows,∃x,r=row x/\Q x)-> ∃l:List α,rows=l.map row/\ ∀x∈l,Q x
 |[],_=>⟨[],rfl,fun x hx=>by cases hx⟩
 |r::rows,h=>by
  obtain⟨x,rfl,hx⟩:=h r (by simp)
  obtain⟨l,rfl,hl⟩:=Dy (rows:=rows) fun s hs=>h s (List.mem_cons_of_mem _ hs)
  exact⟨x::l,rfl,fun y hy=>by
   rcases List.mem_cons.1 hy with rfl|hy
   ·exact hx
   ·exact hl y hy⟩
structure cd where
 sv:Value
 rv:Value
 uv:Value
 lv:Value
 pv:Value
 fv:Value
 d:Int
 w:Int
 c:Int
 stops:List bJ
 eL:List aY
 runs:List gO
 dX:List aH
 paths:List ae
 iK:List bI
def cd.cells(N:cd):List Value:=[N.sv,N.rv,N.uv,N.lv,N.pv,N.fv,zv N.d,zv N.w,zv N.c]
def nn(v:Value):Prop:= ∀a n c,v= .slice (some a) n c->a.spot=none
structure nq(w:World)(N:cd):Prop where
 stops:jl w N.sv 4 (N.stops.map bJ.row)
 eL:jl w N.rv 3 (N.eL.map aY.row)
 runs:jl w N.uv 8 (N.runs.map fun r=>r.row r.cv)
 dX:jl w N.lv 5 (N.dX.map aH.row)
 paths:jl w N.pv 4 (N.paths.map ae.row)
 iK:jl w N.fv 6 (N.iK.map bI.row)
 calls: ∀r∈N.runs,jl w r.cv 5 (r.calls.map bw.row)
 zs: ∀x∈N.stops,x.id.size<=9223372036854775807
 zr: ∀x∈N.eL,x.id.size<=9223372036854775807
 zu: ∀x∈N.runs,x.id.size<=9223372036854775807
 zf: ∀x∈N.iK,x.id.size<=9223372036854775807
 ns:nn N.sv
 nr:nn N.rv
 nu:nn N.uv
 nl:nn N.lv
 np:nn N.pv
 nf:nn N.fv
 zi: ∀x∈N.runs,x.inst<=9223372036854775807
section
variable{H:Type}{enc:TypeId × Value->H}{W:World}{base:Nat}
section
variable{P:Program}
theorem Hd{r:List Value}(h:cD enc P W base [.s, .i .i64, .b, .i .i64] r): ∃x:bJ,r=x.row/\x.id.size<=9223372036854775807:=by
 obtain⟨x0,l0,rfl,z0,h0⟩:=h.s
 obtain⟨x1,l1,rfl,_,h1⟩:=h0.i
 obtain⟨x2,l2,rfl,h2⟩:=h1.b
 obtain⟨x3,l3,rfl,_,h3⟩:=h2.i
 obtain rfl:=h3.e
 exact⟨⟨x0,x1,x2,x3⟩,rfl,z0⟩
theorem EN{r:List Value}(h:cD enc P W base [.s, .i .i64, .b] r): ∃x:aY,r=x.row/\x.id.size<=9223372036854775807:=by
 obtain⟨x0,l0,rfl,z0,h0⟩:=h.s
 obtain⟨x1,l1,rfl,_,h1⟩:=h0.i
 obtain⟨x2,l2,rfl,h2⟩:=h1.b
 obtain rfl:=h2.e
 exact⟨⟨x0,x1,x2⟩,rfl,z0⟩
theorem Hf{r:List Value}(h:cD enc P W base [.s, .i .i64, .i .i64, .i .i64, .i .i64, .i .i64] r): ∃x:bI,r=x.row/\x.id.size<=9223372036854775807:=by
 obtain⟨x0,l0,rfl,z0,h0⟩:=h.s
 obtain⟨x1,l1,rfl,_,h1⟩:=h0.i
 obtain⟨x2,l2,rfl,_,h2⟩:=h1.i
 obtain⟨x3,l3,rfl,_,h3⟩:=h2.i
 obtain⟨x4,l4,rfl,_,h4⟩:=h3.i
 obtain⟨x5,l5,rfl,_,h5⟩:=h4.i
 obtain rfl:=h5.e
 exact⟨⟨x0,x1,x2,x3,x4,x5⟩,rfl,z0⟩
theorem Hh{r:List Value}(h:cD enc P W base [.i .i64, .i .i64, .i .i64, .i .i64, .b] r): ∃x:aH,r=x.row/\True:=by
 obtain⟨x0,l0,rfl,_,h0⟩:=h.i
 obtain⟨x1,l1,rfl,_,h1⟩:=h0.i
 obtain⟨x2,l2,rfl,_,h2⟩:=h1.i
 obtain⟨x3,l3,rfl,_,h3⟩:=h2.i
 obtain⟨x4,l4,rfl,h4⟩:=h3.b
 obtain rfl:=h4.e
 exact⟨⟨x0,x1,x2,x3,x4⟩,rfl,trivial⟩
theorem Hg{r:List Value}(h:cD enc P W base [.i .i64, .i .i64, .i .i64, .b] r): ∃x:ae,r=x.row/\True:=by
 obtain⟨x0,l0,rfl,_,h0⟩:=h.i
 obtain⟨x1,l1,rfl,_,h1⟩:=h0.i
 obtain⟨x2,l2,rfl,_,h2⟩:=h1.i
 obtain⟨x3,l3,rfl,h3⟩:=h2.b
 obtain rfl:=h3.e
 exact⟨⟨x0,x1,x2,x3⟩,rfl,trivial⟩
theorem Hj{r:List Value}(h:cD enc P W base [.i .i64, .i .i64, .i .i64, .b, .b] r): ∃x:bw,r=x.row/\True:=by
 obtain⟨x0,l0,rfl,_,h0⟩:=h.i
 obtain⟨x1,l1,rfl,_,h1⟩:=h0.i
 obtain⟨x2,l2,rfl,_,h2⟩:=h1.i
 obtain⟨x3,l3,rfl,h3⟩:=h2.b
 obtain⟨x4,l4,rfl,h4⟩:=h3.b
 obtain rfl:=h4.e
 exact⟨⟨x0,x1,x2,x3,x4⟩,rfl,trivial⟩
theorem Lc{t:TypeId}{r:List Value}(h:cD enc P W base [.i .i64, .i .i64, .i .i64, .s, .i .i64, .b, .b, .sl t] r): ∃(a b c:Int)(d:ByteArray)(e:Int)(f g:Bool)(v:Value)(n:Nat)(y:DataW H × List MemPlace),r=[zv a,zv b,zv c, .string d,zv e, .bool f, .bool g,v]/\d.size<=9223372036854775807/\c<=9223372036854775807/\DataW.trod enc P W base (fun _=>true) true n t [v]=some y:=by
 obtain⟨x0,l0,rfl,_,h0⟩:=h.i
 obtain⟨x1,l1,rfl,_,h1⟩:=h0.i
 obtain⟨x2,l2,rfl,b2,h2⟩:=h1.i
 obtain⟨x3,l3,rfl,z3,h3⟩:=h2.s
 obtain⟨x4,l4,rfl,_,h4⟩:=h3.i
 obtain⟨x5,l5,rfl,h5⟩:=h4.b
 obtain⟨x6,l6,rfl,h6⟩:=h5.b
 obtain⟨x7,l7,rfl,g7,h7⟩:=h6.sl
 obtain rfl:=h7.e
 obtain⟨n,y,hy⟩:=g7
 exact⟨_,_,_,_,_,_,_,_,n,y,rfl,z3,by simp[Lit.wf] at b2;exact b2.2,hy⟩
theorem Le{t0 t1 t2 t3 t4 t5:TypeId}{r:List Value}(h:cD enc P W base [.sl t0, .sl t1, .sl t2, .sl t3, .sl t4, .sl t5, .i .i64, .i .i64, .i .i64] r): ∃(v0 v1 v2 v3 v4 v5:Value)(a b c:Int),r=[v0,v1,v2,v3,v4,v5,zv a,zv b,zv c]/\
 (∃n y,DataW.trod enc P W base (fun _=>true) true n t0 [v0]=some y)/\(∃n y,DataW.trod enc P W base (fun _=>true) true n t1 [v1]=some y)/\(∃n y,DataW.trod enc P W base (fun _=>true) true n t2 [v2]=some y)/\
 (∃n y,DataW.trod enc P W base (fun _=>true) true n t3 [v3]=some y)/\(∃n y,DataW.trod enc P W base (fun _=>true) true n t4 [v4]=some y)/\ ∃n y,DataW.trod enc P W base (fun _=>true) true n t5 [v5]=some y:=by
 obtain⟨x0,l0,rfl,g0,h0⟩:=h.sl
 obtain⟨x1,l1,rfl,g1,h1⟩:=h0.sl
 obtain⟨x2,l2,rfl,g2,h2⟩:=h1.sl
 obtain⟨x3,l3,rfl,g3,h3⟩:=h2.sl
 obtain⟨x4,l4,rfl,g4,h4⟩:=h3.sl
 obtain⟨x5,l5,rfl,g5,h5⟩:=h4.sl
 obtain⟨x6,l6,rfl,_,h6⟩:=h5.i
 obtain⟨x7,l7,rfl,_,h7⟩:=h6.i
 obtain⟨x8,l8,rfl,_,h8⟩:=h7.i
 obtain rfl:=h8.e
 exact⟨x0,x1,x2,x3,x4,x5,x6,x7,x8,rfl,g0,g1,g2,g3,g4,g5⟩
end
theorem NW{t:TypeId}(h:(match prog.underlying t with|some (.struct _)=>true|_=>false)=true): ∃fs,prog.underlying t=some (.struct fs):=by
 split at h
 ·exact⟨_,by assumption⟩
 ·cases h
theorem lh{n:Nat}{t e:TypeId}{sz:Nat}{v:Value}{x:DataW H × List MemPlace}{sh:List Kd}{α:Type}{row:α->List Value}{Q:α->Prop}(ht:prog.underlying t=some (.slice e))(hsz:prog.cellsOf e=sz)(h0:0<sz)(hst:(match prog.underlying e with|some (.struct _)=>true|_=>false)=true)(hsh:shapeOf prog 5 e=some sh)(hl:sh.length=sz)(hrow: ∀r,cD enc prog W base sh r-> ∃x,r=row x/\Q x)
 (h:DataW.trod enc prog W base (fun _=>true) true n t [v]=some x): ∃l:List α,jl W v sz (l.map row)/\ ∀x∈l,Q x:=by
 obtain⟨rows,h1,h2⟩:=tx ht hsz h0 h
 obtain⟨fs,hfs⟩:=NW hst
 obtain⟨l,rfl,hl⟩:=Dy (row:=row) (Q:=Q) (rows:=rows) fun r hr=>by
  obtain⟨_,m,y,hy⟩:=h2 r hr
  exact hrow r (zw hfs (by rw[hsz,hl]) hsh hy)
 exact⟨l,h1,hl⟩
theorem La{r:List Value}(h:cD enc prog W base [.i .i64, .i .i64, .i .i64, .s, .i .i64, .b, .b, .sl 40] r): ∃x:gO,r=x.row x.cv/\(x.id.size<=9223372036854775807/\jl W x.cv 5 (x.calls.map bw.row)/\x.inst<=9223372036854775807):=by
 obtain⟨a,b,c,d,e,f,g,v,n,y,rfl,hd,hi,hy⟩:=Lc h
 ·obtain⟨l,h1,_⟩:=lh (sh:=[.i .i64, .i .i64, .i .i64, .b, .b]) (row:=bw.row) (e:=127) (sz:=5) (by kernel_rfl) (by kernel_rfl) (by decide) (by kernel_rfl) (by kernel_rfl) rfl (fun r hr=>Hj hr) hy
  exact⟨⟨a,b,c,d,e,f,g,v,l⟩,rfl,hd,h1,hi⟩
theorem LH{r:Reach}{b:Nat}{v0:Value}{n:Nat}{x:DataW H × List MemPlace}(hok:Value.okWide prog W r b 31 v0)(h:DataW.trod enc prog W base (fun _=>true) true n 31 v0.cells.toList=some x):
 ∃N:cd,v0= .agg ⟨N.cells⟩/\nq W N:=by
 obtain⟨fs,hfs⟩: ∃fs,prog.underlying 31=some (.struct fs):=NW (by kernel_rfl)
 unfold Value.okWide at hok
 rw[hfs] at hok
 obtain⟨cs,rfl,hsz,ts,hts,_,hcell⟩:=hok
 have hcs:(Value.agg cs).cells.toList=cs.toList:=rfl
 rw[hcs] at h
 have hr:=zw (sh:=[.sl 22, .sl 23, .sl 24, .sl 25, .sl 26, .sl 27, .i .i64, .i .i64, .i .i64]) (fuel:=5) hfs (by kernel_rfl) (by kernel_rfl) h
 have hts':ts=[22,23,24,25,26,27,3,3,3]:=by
  have:prog.cellTypes prog.depth 31=some [22,23,24,25,26,27,3,3,3]:=by kernel_rfl
  rw[this] at hts;cases hts;rfl
 subst hts'
 obtain⟨l⟩:=cs
 obtain⟨sv,rv,uv,lv,pv,fv,d,e,f,rfl,⟨n0,y0,g0⟩,⟨n1,y1,g1⟩,⟨n2,y2,g2⟩,⟨n3,y3,g3⟩,⟨n4,y4,g4⟩,⟨n5,y5,g5⟩⟩:=Le hr
 ·obtain⟨ls,s1,s2⟩:=lh (sh:=[.s, .i .i64, .b, .i .i64]) (row:=bJ.row) (e:=86) (sz:=4) (by kernel_rfl) (by kernel_rfl) (by decide) (by kernel_rfl) (by kernel_rfl) rfl (fun r hr=>Hd hr) g0
  obtain⟨lr,r1,r2⟩:=lh (sh:=[.s, .i .i64, .b]) (row:=aY.row) (e:=113) (sz:=3) (by kernel_rfl) (by kernel_rfl) (by decide) (by kernel_rfl) (by kernel_rfl) rfl (fun r hr=>EN hr) g1
  obtain⟨lu,u1,u2⟩:=lh (sh:=[.i .i64, .i .i64, .i .i64, .s, .i .i64, .b, .b, .sl 40]) (row:=fun x:gO=>x.row x.cv) (e:=42) (sz:=8) (by kernel_rfl) (by kernel_rfl) (by decide) (by kernel_rfl) (by kernel_rfl) rfl (fun r hr=>La hr) g2
  obtain⟨ll,l1,_⟩:=lh (sh:=[.i .i64, .i .i64, .i .i64, .i .i64, .b]) (row:=aH.row) (e:=123) (sz:=5) (by kernel_rfl) (by kernel_rfl) (by decide) (by kernel_rfl) (by kernel_rfl) rfl (fun r hr=>Hh hr) g3
  obtain⟨lp,p1,_⟩:=lh (sh:=[.i .i64, .i .i64, .i .i64, .b]) (row:=ae.row) (e:=134) (sz:=4) (by kernel_rfl) (by kernel_rfl) (by decide) (by kernel_rfl) (by kernel_rfl) rfl (fun r hr=>Hg hr) g4
  obtain⟨lf,f1,f2⟩:=lh (sh:=[.s, .i .i64, .i .i64, .i .i64, .i .i64, .i .i64]) (row:=bI.row) (e:=131) (sz:=6) (by kernel_rfl) (by kernel_rfl) (by decide) (by kernel_rfl) (by kernel_rfl) rfl (fun r hr=>Hf hr) g5
  have sp: ∀(i:Nat)(t e2:TypeId)(v:Value),[sv,rv,uv,lv,pv,fv,zv d,zv e,zv f][i]? =some v->[22,23,24,25,26,27,3,3,3][i % 9]? =some t->prog.underlying t=some (.slice e2)->nn v:=fun i t e' v hv ht hu a n c hvv=>by
   subst hvv
   obtain⟨u,h1,h2⟩:=hcell i _ (by simpa using hv)
   have:u=t:=by
    have h3:[22,23,24,25,26,27,3,3,3][i % 9]? =some u:=h1
    rw[h3] at ht;cases ht;rfl
   subst this
   exact FQ hu h2
  refine⟨⟨sv,rv,uv,lv,pv,fv,d,e,f,ls,lr,lu,ll,lp,lf⟩,rfl,s1,r1,u1,l1,p1,f1,fun r hr=>(u2 r hr).2.1,s2,r2,fun r hr=>(u2 r hr).1,f2,sp 0 _ 86 _ rfl rfl (by kernel_rfl),sp 1 _ 113 _ rfl rfl (by kernel_rfl),sp 2 _ 42 _ rfl rfl (by kernel_rfl),sp 3 _ 123 _ rfl rfl (by kernel_rfl),sp 4 _ 134 _ rfl rfl (by kernel_rfl),sp 5 _ 131 _ rfl rfl (by kernel_rfl),fun r hr=>(u2 r hr).2.2⟩
end
def gO.abs(j:Nat)(r:gO):RunT:=⟨⟨r.oC,r.day,r.inst,r.id,r.gE,r.sf,r.cancelled,vo (6+j) r.cv,vm r.cv,vn r.cv⟩,r.calls⟩
def cd.T(N:cd):BP:=⟨N.stops,N.eL,N.runs.mapIdx gO.abs,N.dX,N.paths,N.iK⟩
def cd.V(N:cd):aM:=⟨vo 2 N.sv,vm N.sv,vn N.sv,vo 3 N.rv,vm N.rv,vn N.rv,vo 1 N.uv,vm N.uv,vn N.uv,vo 0 N.lv,vm N.lv,vn N.lv,vo 4 N.pv,vm N.pv,vn N.pv,vo 5 N.fv,vm N.fv,vn N.fv,N.d,N.w,N.c⟩
def yO(N:cd):List (List Value):=(N.runs.mapIdx gO.abs).map fun r=>r.v.row
def cd.Gx(N:cd):Gq
 |0=>jN N.lv (N.dX.map aH.row).flatten
 |1=>jN N.uv (yO N).flatten
 |2=>jN N.sv (N.stops.map bJ.row).flatten
 |3=>jN N.rv (N.eL.map aY.row).flatten
 |4=>jN N.pv (N.paths.map ae.row).flatten
 |5=>jN N.fv (N.iK.map bI.row).flatten
 |j+6=>match N.runs[j]? with
  |some r=>jN r.cv (r.calls.map bw.row).flatten
  |none=>none
theorem xI{N:cd}{i:Nat}:(yO N)[i]? =(N.runs[i]?).map fun r=>(gO.abs i r).v.row:=by
 unfold yO
 rw[List.getElem?_map,List.getElem?_mapIdx,Option.map_map]
 rfl
theorem xH{N:cd}: ∀r∈yO N,r.length=8:=by
 intro r hr
 obtain⟨x,_,rfl⟩:=List.mem_map.1 hr
 rfl
theorem EX{l:List Value}(h:bE l=true){x:Value}(hx:x∈l):au x=true:=by
 induction l with
 |nil=>cases hx
 |cons v l ih=>
  simp only[bE] at h
  cases hv:au v with
  |false=>simp[hv] at h
  |true=>
   rw[hv] at h
   rcases List.mem_cons.1 hx with rfl|hx
   ·exact hv
   ·exact ih h hx
theorem qJ{α:Type}{F:Gq}(row:α->List Value)(l:List α)(hp: ∀x,bE (row x)=true):
 (∀(i:Nat)(r:List Value)(j:Nat)(x:Value),(l.map row)[i]? =some r->r[j]? =some x-> ∃r' x',(l.map row)[i]? =some r'/\r'[j]? =some x'/\VR (j5 F) x x')/\ ∀σ,∀r∈l.map row,bz σ r=some r:=by
 refine⟨fun i r j x h1 h2=>⟨r,x,h1,h2,VR.aZ ?_⟩,fun σ r hr=>?_⟩
 ·obtain⟨y,_,rfl⟩:=List.mem_map.1 (List.mem_of_getElem? h1)
  exact EX (hp y) (List.mem_of_getElem? h2)
 ·obtain⟨y,_,rfl⟩:=List.mem_map.1 hr
  exact fE (hp y)
section
variable{w:World}{N:cd}
theorem H3(h:nq w N):Km N.Gx (N.runs.length+6) w:=by
 intro k g o cs hF
 match k with
 |0=>
  obtain⟨h1,h2⟩:=qJ (F:=N.Gx) aH.row N.dX (fun _=>rfl)
  exact lO h.dX (aQ _ fun _=>rfl) h1 (fun σ _=>h2 σ) hF
 |1=>
  refine lO h.runs xH (fun i r j x h1 h2=>?_) (fun σ hσ r hr=>?_) hF
  ·rw[xI] at h1
   cases hc:N.runs[i]? with
   |none=>rw[hc] at h1;cases h1
   |some y=>
    rw[hc] at h1
    simp only[Option.map_some,Option.some.injEq] at h1
    subst h1
    have hy:=List.mem_of_getElem? hc
    refine⟨y.row y.cv,?_⟩
    rw[List.getElem?_map,hc]
    match j with
    |0=>cases h2;exact⟨_,rfl,rfl, .sc _ rfl⟩
    |1=>cases h2;exact⟨_,rfl,rfl, .sc _ rfl⟩
    |2=>cases h2;exact⟨_,rfl,rfl, .sc _ rfl⟩
    |3=>cases h2;exact⟨_,rfl,rfl, .sc _ rfl⟩
    |4=>cases h2;exact⟨_,rfl,rfl, .sc _ rfl⟩
    |5=>cases h2;exact⟨_,rfl,rfl, .sc _ rfl⟩
    |6=>cases h2;exact⟨_,rfl,rfl, .sc _ rfl⟩
    |7=>
     cases h2
     refine⟨_,rfl,rfl,lZ (h.calls y hy) (cs:=(y.calls.map bw.row).flatten) ?_⟩
     rw[Nat.add_comm 6 i]
     show(match N.runs[i]? with|some r=>jN r.cv (r.calls.map bw.row).flatten|none=>none)=_
     rw[hc]
    |j+8=>simp[gO.abs] at h2
  ·obtain⟨i,hi⟩:=List.mem_iff_getElem?.1 hr
   rw[xI] at hi
   cases hc:N.runs[i]? with
   |none=>rw[hc] at hi;cases hi
   |some y=>
    rw[hc] at hi
    simp only[Option.map_some,Option.some.injEq] at hi
    subst hi
    have hlt:=(List.getElem?_eq_some_iff.1 hc).1
    have:=Ka (k:=6+i) (h.calls y (List.mem_of_getElem? hc)) (fun _=>by omega) (by omega) hσ
    have e: ∀x:Int,aW σ (zv x)=some (zv x):=fun _=>rfl
    have e1: ∀s:ByteArray,aW σ (.string s)=some (.string s):=fun _=>rfl
    have e2: ∀s:Bool,aW σ (.bool s)=some (.bool s):=fun _=>rfl
    simp only[gO.abs,bz,e,e1,e2,this]
 |2=>
  obtain⟨h1,h2⟩:=qJ (F:=N.Gx) bJ.row N.stops (fun _=>rfl)
  exact lO h.stops (aQ _ fun _=>rfl) h1 (fun σ _=>h2 σ) hF
 |3=>
  obtain⟨h1,h2⟩:=qJ (F:=N.Gx) aY.row N.eL (fun _=>rfl)
  exact lO h.eL (aQ _ fun _=>rfl) h1 (fun σ _=>h2 σ) hF
 |4=>
  obtain⟨h1,h2⟩:=qJ (F:=N.Gx) ae.row N.paths (fun _=>rfl)
  exact lO h.paths (aQ _ fun _=>rfl) h1 (fun σ _=>h2 σ) hF
 |5=>
  obtain⟨h1,h2⟩:=qJ (F:=N.Gx) bI.row N.iK (fun _=>rfl)
  exact lO h.iK (aQ _ fun _=>rfl) h1 (fun σ _=>h2 σ) hF
 |j+6=>
  have hF':(match N.runs[j]? with|some r=>jN r.cv (r.calls.map bw.row).flatten|none=>none)=some (g,o,some cs):=hF
  split at hF'
  ·rename_i r hr
   obtain⟨h1,h2⟩:=qJ (F:=N.Gx) bw.row r.calls (fun _=>rfl)
   exact lO (h.calls r (List.mem_of_getElem? hr)) (aQ _ fun _=>rfl) h1 (fun σ _=>h2 σ) hF'
  ·cases hF'
theorem Cy(N:cd): ∀k x,N.Gx k=some x->k<N.runs.length+6:=by
 intro k x h
 match k with
 |0|1|2|3|4|5=>omega
 |j+6=>
  have h':(match N.runs[j]? with|some r=>jN r.cv (r.calls.map bw.row).flatten|none=>none)=some x:=h
  split at h'
  ·rename_i r hr
   have:=(List.getElem?_eq_some_iff.1 hr).1
   omega
  ·cases h'
theorem qB{k sz:Nat}{v:Value}{rows:List (List Value)}{m:Nat}(h:jl w v sz rows)(hn:nn v)(hm:rows.length=m):B7 k (vo k v) (vm v) (vn v) m:=by
 subst hm
 rcases h with ⟨rfl,rfl⟩|⟨⟨g,o,s,rfl⟩,rfl⟩|⟨g,o,c,rfl,_⟩
 ·exact .inl ⟨rfl,rfl,rfl,rfl⟩
 ·have:=hn _ _ _ rfl;cases this
 ·exact .inr ⟨rfl,rfl⟩
theorem Pb{k sz:Nat}{v:Value}{rows:List (List Value)}{m:Nat}(h:jl w v sz rows)(hm:rows.length=m):Sh k (vo k v) (vm v) (vn v) m:=by
 subst hm
 rcases h with ⟨rfl,rfl⟩|⟨⟨g,o,s,rfl⟩,rfl⟩|⟨g,o,c,rfl,_⟩
 ·exact .inl (.inl ⟨rfl,rfl,rfl,rfl⟩)
 ·exact .inr ⟨⟨g,o,s,rfl⟩,rfl,rfl,rfl⟩
 ·exact .inl (.inr ⟨rfl,rfl⟩)
theorem MK{sz:Nat}(hs:0<sz){rows:List (List Value)}(hl: ∀r∈rows,r.length=sz)(h:rows≠[]):rows.flatten≠[]:=by
 cases rows with
 |nil=>exact(h rfl).elim
 |cons r rows=>
  have:=hl r (by simp)
  cases r with
  |nil=>simp at this;omega
  |cons v r=>simp
theorem Cd{F:Gq}{z:T aa}{k sz:Nat}{v:Value}{rows ar:List (List Value)}(hg: ∀k g o cs,F k=some (g,o,some cs)-> ∃e,z.get k=some (.aw (bq e cs)))(h:jl w v sz rows)(hn:ar.length=rows.length)(hs:0<sz)(hl: ∀r∈ar,r.length=sz)
 (hF:F k=jN v ar.flatten) (hsz: ∀r∈ar,∀s:ByteArray,Value.string s∈r->s.size<=9223372036854775807):cf z k ar:=by
 refine⟨fun hne=>?_,hsz⟩
 have hr:rows≠[]:=fun e=>by rw[e] at hn;exact hne (List.length_eq_zero_iff.1 hn)
 rcases h with ⟨_,e⟩|⟨_,e⟩|⟨g,off,cap,rfl,_⟩
 ·exact(hr e).elim
 ·exact(hr e).elim
 ·have hf:=MK hs hl hne
  cases hc:ar.flatten with
  |nil=>exact(hf hc).elim
  |cons x l=>
   rw[hc] at hF
   exact hg k g off (x::l) hF
theorem Pt(h:nq w N){F:Gq}(hF: ∀k,k<N.runs.length+6->F k=N.Gx k){z:T aa}(h4: ∀k g o cs,F k=some (g,o,some cs)-> ∃e,z.get k=some (.aw (bq e cs))):jb z N.V N.T:=by
 have cc: ∀(j:Nat)(r:gO),N.runs[j]? =some r->cf z (6+j) (r.calls.map bw.row):=fun j r hr=>by
  refine Cd h4 (h.calls r (List.mem_of_getElem? hr)) rfl (by decide) (aQ _ fun _=>rfl) ((hF (6+j) (by have:=(List.getElem?_eq_some_iff.1 hr).1;omega)).trans ?_) (fun r hr s hs=>?_)
  ·rw[Nat.add_comm 6 j]
   show(match N.runs[j]? with|some r=>jN r.cv (r.calls.map bw.row).flatten|none=>none)=_
   rw[hr]
  ·obtain⟨x,_,rfl⟩:=List.mem_map.1 hr
   simp at hs
 have gr: ∀(j:Nat)(r:RunT),(N.runs.mapIdx gO.abs)[j]? =some r-> ∃y,N.runs[j]? =some y/\r=gO.abs j y:=fun j r hr=>by
  rw[List.getElem?_mapIdx] at hr
  cases hc:N.runs[j]? with
  |none=>rw[hc] at hr;cases hr
  |some y=>rw[hc] at hr;cases hr;exact⟨y,rfl,rfl⟩
 exact {
  s:=qB h.stops h.ns (by simp[cd.T])
  r:=qB h.eL h.nr (by simp[cd.T])
  u:=qB h.runs h.nu (by simp[cd.T])
  l:=qB h.dX h.nl (by simp[cd.T])
  p:=qB h.paths h.np (by simp[cd.T])
  f:=qB h.iK h.nf (by simp[cd.T])
  ts:=Cd h4 h.stops rfl (by decide) (aQ _ fun _=>rfl) (hF 2 (by omega)) (fun r hr s hs=>by
   obtain⟨x,hx,rfl⟩:=List.mem_map.1 hr
   have:=h.zs x hx
   simp at hs;subst hs;exact this)
  tr:=Cd h4 h.eL rfl (by decide) (aQ _ fun _=>rfl) (hF 3 (by omega)) (fun r hr s hs=>by
   obtain⟨x,hx,rfl⟩:=List.mem_map.1 hr
   have:=h.zr x hx
   simp at hs;subst hs;exact this)
  tu:={
   Kt:=Cd h4 h.runs (by simp[cd.T]) (by decide) (xH (N:=N)) (hF 1 (by omega)) (fun r hr s hs=>by
    obtain⟨x,hx,rfl⟩:=List.mem_map.1 hr
    obtain⟨i,hi⟩:=List.mem_iff_getElem?.1 hx
    obtain⟨y,hy,rfl⟩:=gr i x hi
    have:=h.zu y (List.mem_of_getElem? hy)
    simp[gO.abs] at hs;subst hs;exact this)
   sl:=fun j r hr=>by
    obtain⟨y,hy,rfl⟩:=gr j r hr
    exact Pb (h.calls y (List.mem_of_getElem? hy)) (by simp[gO.abs])
   calls:=fun j r hr=>by
    obtain⟨y,hy,rfl⟩:=gr j r hr
    exact cc j y hy}
  tl:=Cd h4 h.dX rfl (by decide) (aQ _ fun _=>rfl) (hF 0 (by omega)) (fun r hr s hs=>by
   obtain⟨x,hx,rfl⟩:=List.mem_map.1 hr
   simp at hs)
  tp:=Cd h4 h.paths rfl (by decide) (aQ _ fun _=>rfl) (hF 4 (by omega)) (fun r hr s hs=>by
   obtain⟨x,hx,rfl⟩:=List.mem_map.1 hr
   simp at hs)
  tf:=Cd h4 h.iK rfl (by decide) (aQ _ fun _=>rfl) (hF 5 (by omega)) (fun r hr s hs=>by
   obtain⟨x,hx,rfl⟩:=List.mem_map.1 hr
   have:=h.zf x hx
   simp at hs;subst hs;exact this)}
theorem LG(h:nq w N){F:Gq}(hF: ∀k,k<N.runs.length+6->F k=N.Gx k){l l':List Value}(hl:cT (j5 F) l l'):cT (j5 F) (.agg ⟨N.V.cells⟩::l) (.agg ⟨N.cells⟩::l'):=by
 exact .cons _ _ _ _ (.agg _ _ (.cons _ _ _ _ (lZ h.stops (hF 2 (by omega))) (.cons _ _ _ _ (lZ h.eL (hF 3 (by omega))) (.cons _ _ _ _ (lZ h.runs (hF 1 (by omega))) (.cons _ _ _ _ (lZ h.dX (hF 0 (by omega))) (.cons _ _ _ _ (lZ h.paths (hF 4 (by omega))) (.cons _ _ _ _ (lZ h.iK (hF 5 (by omega)))
  (.cons _ _ _ _ (.sc _ rfl) (.cons _ _ _ _ (.sc _ rfl) (.cons _ _ _ _ (.sc _ rfl) .nil)))))))))) hl
end
end Go.Proofs.Nw
namespace Go.Proofs.Nw
open Go Go.Proofs Go.AV Go.RowKit
structure eG where
 df:Bool
 run:Int
 ek:Int
 off:Int
 fz1:Int
 aq:Int
 dep:Int
 arr:Int
 stay:Bool
abbrev eG.row(l:eG):List Value:=[.bool l.df,zv l.run,zv l.ek,zv l.off,zv l.fz1,zv l.aq,zv l.dep,zv l.arr, .bool l.stay]
structure gy where
 jv:Value
 eD:List eG
 dep:Int
 arr:Int
 bT:Int
 yA:Int
 walk:Int
 tv:Value
abbrev gy.row(o:gy):List Value:=[o.jv,zv o.dep,zv o.arr,zv o.bT,zv o.yA,zv o.walk,o.tv]
abbrev jg(n:Int):Prop:= -9223372036854775808<=n/\n<=9223372036854775807
def eG.ok(l:eG):Prop:=jg l.run/\jg l.ek/\jg l.off/\jg l.fz1/\jg l.aq/\jg l.dep/\jg l.arr
def oH(r:gO):List UInt8:=r.id.data.toList++(64::(dec r.day++(35::dec r.inst)))
def SJ:gO:=⟨0,0,0,⟨#[]⟩,0,false,false, .slice none 0 0,[]⟩
def cd.run(N:cd)(i:Int):gO:=N.runs[i.toNat]?.getD SJ
def cd.stop(N:cd)(i:Int):ByteArray:=(N.stops[i.toNat]?.map (·.id)).getD ⟨#[]⟩
def pY(N:cd)(l:eG):Bool:=decide (0<=l.run) && (decide (l.run<N.runs.length) && (decide (0<=l.ek) && (decide (l.ek<l.off) && decide (l.off<(N.run l.run).calls.length))))
def kB(N:cd)(l:eG):Bool:=decide (l.fz1<0)||(decide ((N.stops.length:Int)<=l.fz1)||(decide (l.aq<0)||(decide ((N.stops.length:Int)<=l.aq)||(l.df && !pY N l))))
def vM(N:cd)(l:eG):List UInt8:=if l.df then oH (N.run l.run) else [119,97,108,107]
def rm(b:Bool):List UInt8:=if b then [32,115,116,97,121] else []
def mN(N:cd)(l:eG):List UInt8:=(N.stop l.fz1).data.toList++(32::(dec l.dep++(32::(vM N l++(rm l.stay++(32::((N.stop l.aq).data.toList++(32::(dec l.arr++[10])))))))))
def nU(N:cd):List eG->List UInt8->List UInt8 × Int
 |[],acc=>(acc,0)
 |l::r,acc=>if kB N l then ([],9) else nU N r (acc++mN N l)
def ig(code:Int)(N:cd)(G:List eG):List UInt8 × Int:=if code=0 then nU N G [] else ([],21)
def ez(c:Int):List UInt8:=dec (c / 100)++(46::(dec (c / 10 % 10)++dec (c % 10)))
def ue(i:Nat)(o:gy):List UInt8:=dec (i+1)++(32::(dec o.dep++(32::(dec o.arr++(32::(dec o.bT++(32::(ez o.yA++(32::(dec o.walk++[10]))))))))))
def mJ(code:Int)(N:cd):Nat->List gy->List UInt8->List UInt8 × Int
 |_,[],acc=>(acc,0)
 |i,o::r,acc=>if (ig code N o.eD).2≠0 then ([],(ig code N o.eD).2) else if o.yA<0\/1000000<o.yA then ([],2) else mJ code N (i+1) r (acc++(ue i o++(ig code N o.eD).1))
end Go.Proofs.Nw
namespace Go.Proofs.Nw
open Go Go.Proofs Go.RowKit
set_option maxRecDepth 1000000
theorem blt{a b c:World}(h:Below a.heap.size a b)(k:Below b.heap.size b c):Below a.heap.size a c:=h.trans (k.mono h.size)
theorem dZ{a b:World}(h:Below a.heap.size a b)(o:Obj):Below a.heap.size a (b.alloc o):=h.alloc h.size o
theorem kG{a b:World}(h:Below a.heap.size a b):Below a.heap.size a b.drew:=h.drew
theorem da(w:World):Below w.heap.size w w:=Below.refl _ _
theorem kH(a b:ByteArray):(a++b).data.toList=a.data.toList++b.data.toList:=by simp[ByteArray.data_append]
theorem rZ{a:ByteArray}{l:List UInt8}(h:a.data.toList=l):a=⟨l.toArray⟩:=by
 obtain⟨⟨x⟩⟩:=a
 simp at h
 subst h
 rfl
theorem fQ(n:Int):(dec n).length<=21:=by
 unfold dec
 have:=qR 20 n.natAbs []
 split<;>simp at this ⊢ <;>omega
theorem kF(n:Int):(aB n).data.toList=dec n:=rfl
theorem c9(n:Int):(aB n).size<=21:=fQ n
theorem Ed(d:Nat)(h:d<10):dec (d:Int)=[digit d]:=by
 have:ft 20 d []=[digit d]:=by rw[ft,if_neg (by omega)]
 simp[dec,this]
theorem GU(x:Int): -9223372036854775808<=IntKind.i64.wrap x/\IntKind.i64.wrap x<=9223372036854775807:=by
 simp only[IntKind.wrap,IntKind.signed,IntKind.bits]
 simp
 omega
theorem V7(x:Int): -9223372036854775808<=IntKind.i64.wrap x:=(GU x).1
theorem V8(x:Int):IntKind.i64.wrap x<=9223372036854775807:=(GU x).2
theorem Jo(w:World)(g:Nat)(x y:Int)(a b:UInt8)(hx:x=a.toNat)(hy:y=b.toNat)(h:w.heap[g]? =some (Obj.cells #[Value.int .u8 x,Value.int .u8 y] 5 (0,0))):(convert 57 9 (Value.slice (some ⟨g,0,none⟩) 2 2)).run Tryz.prog w= .ok (.string ⟨#[a,b]⟩) w:=by
 refine run_convert_bytes_back (P:=Tryz.prog) _ 57 9 5 ⟨g,0,none⟩ 2 [a,b] (by kernel_rfl) (by kernel_rfl) (by kernel_rfl) ?_
 intro j hj
 have hj':j=0\/j=1:=by simp at hj;omega
 rcases hj' with rfl|rfl
 ·show(match w.heap[g]? with|some (Obj.cells c _ _)=>c[0]? |_=>none)=_
  rw[h,hx];rfl
 ·show(match w.heap[g]? with|some (Obj.cells c _ _)=>c[1]? |_=>none)=_
  rw[h,hy];rfl
theorem Ls(m:Nat)(w:World)(h:m<=1000000):
 Calls Tryz.prog 19 #[.int .i64 m] w fun e w'=>e= .returned (.string ⟨(ez m).toArray⟩)/\Below w.heap.size w w':=by
 have z1:=c9 ((m:Int) / 100)
 have z2:=c9 ((m:Int) / 10 % 10)
 have z3:=c9 ((m:Int) % 10)
 have m0:(0:Int)<=(m:Int):=Int.natCast_nonneg _
 have m1:(m:Int)<=9223372036854775807:=by omega
 have q0:(0:Int)<=(m:Int) / 100:=by omega
 have q1:(m:Int) / 100<=9223372036854775807:=by omega
 have r0:(0:Int)<=(m:Int) / 10:=by omega
 have r1:(m:Int) / 10<=9223372036854775807:=by omega
 have s0:(0:Int)<=(m:Int) / 10 % 10:=by omega
 have s1:(m:Int) / 10 % 10<=9223372036854775807:=by omega
 have t0:(0:Int)<=(m:Int) % 10:=by omega
 have t1:(m:Int) % 10<=9223372036854775807:=by omega
 have g1: ¬(9223372036854775807<(aB ((m:Int) / 100)).size+1):=by omega
 have g2: ¬(9223372036854775807<(aB ((m:Int) / 100)).size+1+(aB ((m:Int) / 10 % 10)).size):=by omega
 have g3: ¬(9223372036854775807<(aB ((m:Int) / 100)).size+1+(aB ((m:Int) / 10 % 10)).size+(aB ((m:Int) % 10)).size):=by omega
 have e:((aB ((m:Int) / 100)++⟨#[46]⟩)++aB ((m:Int) / 10 % 10))++aB ((m:Int) % 10)=⟨(ez m).toArray⟩:=rZ (by simp[kH,kF,ez])
 have E:=Lib.hid e
 clear e
 go_enter Tryz.func19,Tryz.ntmps19
 go_wp2_with (go_at_call 18;refine(eU _ _ (by omega) (by omega)).mono ?_;rintro e w' ⟨rfl,hb⟩)
 go_ret
 rename_i w1 h1 w2 h2
 exact⟨by rw[E.out];rfl,blt (blt h1 h2) hb⟩
set_option maxHeartbeats 800000 in
theorem P2(m:Nat)(w:World)(h:m<=1000000):
 Calls Tryz.prog 12 #[.int .i64 m] w fun e w'=>e= .returned (.tuple #[.string ⟨(ez m).toArray⟩, .int .i64 0])/\Below w.heap.size w w':=by
 have z1:=c9 ((m:Int) / 100)
 have m0:(0:Int)<=(m:Int):=Int.natCast_nonneg _
 have m1:(m:Int)<=9223372036854775807:=by omega
 have m2: ¬(1000000:Int)<(m:Int):=by omega
 have m3: ¬(m:Int)<0:=by omega
 have q0:(0:Int)<=(m:Int) / 100:=by omega
 have q1:(m:Int) / 100<=9223372036854775807:=by omega
 have r0:(0:Int)<=(m:Int) % 100:=by omega
 have r1:(m:Int) % 100<=99:=by omega
 have s0:(0:Int)<=(m:Int) % 100 / 10:=by omega
 have s1:(m:Int) % 100 / 10<=9:=by omega
 have t0:(0:Int)<=(m:Int) % 100 % 10:=by omega
 have t1:(m:Int) % 100 % 10<=9:=by omega
 have g1: ¬(9223372036854775807<(aB ((m:Int) / 100)).size+1):=by omega
 have g2: ¬(9223372036854775807<(aB ((m:Int) / 100)).size+1+2):=by omega
 have e:(aB ((m:Int) / 100)++⟨#[46]⟩)++⟨#[digit (m / 10),digit m]⟩=⟨(ez m).toArray⟩:=rZ (by
  have e3:digit (m / 10 % 10)=digit (m / 10):=by simp[digit]
  have e4:digit (m % 10)=digit m:=by simp[digit]
  simp only[kH,kF,ez]
  rw[show((m:Int) / 10 % 10)=(((m / 10 % 10:Nat)):Int) by omega,show((m:Int) % 10)=(((m % 10:Nat)):Int) by omega,Ed _ (Nat.mod_lt _ (by decide)),Ed _ (Nat.mod_lt _ (by decide)),e3,e4]
  simp)
 have E:=Lib.hid e
 clear e
 go_enter Tryz.func12,Tryz.ntmps12
 go_wp2
 have w1:IntKind.i64.wrap ((m:Int) / 100)=(m:Int) / 100:=by simp only[IntKind.wrap,IntKind.signed,IntKind.bits];simp;omega
 have x1:IntKind.u8.wrap (IntKind.i64.wrap (48+IntKind.i64.wrap (((m:Int) % 100).tdiv 10)))=((digit (m / 10)).toNat:Int):=by
  rw[Int.tdiv_eq_ediv_of_nonneg r0]
  simp only[IntKind.wrap,IntKind.signed,IntKind.bits,digit]
  simp[UInt8.toNat_ofNat']
  omega
 have x2:IntKind.u8.wrap (IntKind.i64.wrap (48+((m:Int) % 100).tmod 10))=((digit m).toNat:Int):=by
  rw[Int.tmod_eq_emod_of_nonneg r0]
  simp only[IntKind.wrap,IntKind.signed,IntKind.bits,digit]
  simp[UInt8.toNat_ofNat']
  omega
 have hc0: ∀W:World,(convert 57 9 (Value.slice (some ⟨W.heap.size,0,none⟩) 2 2)).run Tryz.prog (W.alloc (Obj.cells #[Value.int .u8 (IntKind.u8.wrap (IntKind.i64.wrap (48+IntKind.i64.wrap (((m:Int) % 100).tdiv 10)))),Value.int .u8 (IntKind.u8.wrap (IntKind.i64.wrap (48+((m:Int) % 100).tmod 10)))] 5))= .ok (.string ⟨#[digit (m / 10),digit m]⟩) (W.alloc (Obj.cells #[Value.int .u8 (IntKind.u8.wrap (IntKind.i64.wrap (48+IntKind.i64.wrap (((m:Int) % 100).tdiv 10)))),Value.int .u8 (IntKind.u8.wrap (IntKind.i64.wrap (48+((m:Int) % 100).tmod 10)))] 5)):=fun W=>Jo _ _ _ _ _ _ x1 x2 (heap_alloc W _)
 have hc1: ∀W:World,(convert 57 9 (Value.slice (some ⟨W.heap.size,0,none⟩) 2 2)).run Tryz.prog ((W.alloc (Obj.cells #[Value.int .u8 (IntKind.u8.wrap (IntKind.i64.wrap (48+IntKind.i64.wrap (((m:Int) % 100).tdiv 10)))),Value.int .u8 (IntKind.u8.wrap (IntKind.i64.wrap (48+((m:Int) % 100).tmod 10)))] 5)).drew)= .ok (.string ⟨#[digit (m / 10),digit m]⟩) ((W.alloc (Obj.cells #[Value.int .u8 (IntKind.u8.wrap (IntKind.i64.wrap (48+IntKind.i64.wrap (((m:Int) % 100).tdiv 10)))),Value.int .u8 (IntKind.u8.wrap (IntKind.i64.wrap (48+((m:Int) % 100).tmod 10)))] 5)).drew):=fun W=>Jo _ _ _ _ _ _ x1 x2 (heap_alloc W _)
 rw[←w1] at g1 g2
 have W1:=Lib.hid w1
 have X1:=Lib.hid x1
 have X2:=Lib.hid x2
 clear w1 x1 x2 z1 q0 q1 s0 s1 t0 t1
 go_region_with (go_at_call 15;refine(A6 _ _ (V7 _) (V8 _)).mono ?_;rintro e w' ⟨rfl,hb⟩;try (have c1:(convert 57 9 (Value.slice (some ⟨w.heap.size,0,none⟩) 2 2)).run Tryz.prog w'= .ok (.string ⟨#[digit (m / 10),digit m]⟩) w':=Jo _ _ _ _ _ _ X1.out X2.out ((hb.block w.heap.size (by simp)).trans (heap_alloc _ _))))
 all_goals go_wp2
 all_goals (go_ret2;refine⟨?_,?_⟩)
 all_goals first
  |exact congrArg (fun s=>Ending.returned (Value.tuple #[.string s, .int .i64 0])) (show(aB (IntKind.i64.wrap ((m:Int) / 100))++⟨#[46]⟩)++⟨#[digit (m / 10),digit m]⟩=⟨(ez m).toArray⟩ by rw[W1.out];exact E.out)
  |(repeat' first|exact da _|(apply blt _ (by assumption))|apply dZ|apply kG)
theorem FC(c:Int)(w:World)(h:c<0\/1000000<c):
 Calls Tryz.prog 12 #[.int .i64 c] w fun e w'=>e= .returned (.tuple #[.string ⟨#[]⟩, .int .i64 2])/\Below w.heap.size w w':=by
 by_cases h0:c<0
 ·go_enter Tryz.func12,Tryz.ntmps12
  go_wp2
  go_ret2
  exact⟨rfl,Below.refl _ _⟩
 ·have h1:1000000<c:=by omega
  go_enter Tryz.func12,Tryz.ntmps12
  go_wp2
  go_ret2
  exact⟨rfl,Below.refl _ _⟩
end Go.Proofs.Nw
namespace Go.Proofs
open Go.Shelf
def Tryz.rM:Go.Shelf.Ren:=⟨fun|156=>14|165=>31|166=>13|169=>16|240=>30|241=>53|276=>52|277=>66|n=>n,fun|31=>68|9=>9|3=>3|4=>4|0=>0|20=>20|72=>59|76=>64|70=>56|37=>57|75=>63|127=>91|164=>107|5=>5|80=>69|n=>n,fun|n=>n⟩
theorem Tryz.pT:Go.Proofs.Lays.n156 Tryz.prog Tryz.rM:={
 mixed:=by kernel_rfl
 f156:=Tryz.func14.trans (congrArg some (by kernel_rfl))
 f165:=Tryz.func31.trans (congrArg some (by kernel_rfl))
 f166:=Tryz.func13.trans (congrArg some (by kernel_rfl))
 f169:=Tryz.func16.trans (congrArg some (by kernel_rfl))
 f240:=Tryz.func30.trans (congrArg some (by kernel_rfl))
 f241:=Tryz.func53.trans (congrArg some (by kernel_rfl))
 f276:=Tryz.func52.trans (congrArg some (by kernel_rfl))
 f277:=Tryz.func66.trans (congrArg some (by kernel_rfl))
 t0:=Tryz.underlying0
 a0:=Tryz.isAgg0
 z0:=Tryz.sizeOf0
 v0:=Tryz.zeroValue0
 t3:=Tryz.underlying3
 a3:=Tryz.isAgg3
 z3:=Tryz.sizeOf3
 v3:=Tryz.zeroValue3
 t4:=Tryz.underlying4
 a4:=Tryz.isAgg4
 z4:=Tryz.sizeOf4
 v4:=Tryz.zeroValue4
 t9:=Tryz.underlying9
 a9:=Tryz.isAgg9
 z9:=Tryz.sizeOf9
 v9:=Tryz.zeroValue9
 t20:=Tryz.underlying20
 a20:=Tryz.isAgg20
 z20:=Tryz.sizeOf20
 v20:=Tryz.zeroValue20
 t31:=Tryz.underlying68
 a31:=Tryz.isAgg68
 z31:=Tryz.sizeOf68
 v31:=Tryz.zeroValue68
 t37:=Tryz.underlying57
 a37:=Tryz.isAgg57
 z37:=Tryz.sizeOf57
 v37:=Tryz.zeroValue57
 t70:=Tryz.underlying56
 a70:=Tryz.isAgg56
 z70:=Tryz.sizeOf56
 v70:=Tryz.zeroValue56
 t72:=Tryz.underlying59
 a72:=Tryz.isAgg59
 z72:=Tryz.sizeOf59
 v72:=Tryz.zeroValue59
 t75:=Tryz.underlying63
 a75:=Tryz.isAgg63
 z75:=Tryz.sizeOf63
 v75:=Tryz.zeroValue63
 t76:=Tryz.underlying64
 a76:=Tryz.isAgg64
 z76:=Tryz.sizeOf64
 v76:=Tryz.zeroValue64
 t127:=Tryz.underlying91
 a127:=Tryz.isAgg91
 z127:=Tryz.sizeOf91
 v127:=Tryz.zeroValue91
 t164:=Tryz.underlying107
 a164:=Tryz.isAgg107
 z164:=Tryz.sizeOf107
 v164:=Tryz.zeroValue107}
theorem Tryz.eg:Builder.Extra Tryz.prog Tryz.rM:={
 sizeBuilder:=by kernel_rfl
 liesBuilder:=by kernel_rfl
 t5:=Tryz.underlying5
 a5:=Tryz.isAgg5
 z5:=Tryz.sizeOf5
 v5:=Tryz.zeroValue5
 infoByte:=by kernel_rfl
 cellsByte:=by kernel_rfl
 sizeByte:=by kernel_rfl
 neB5:=by decide}
open Go.RowKit in
theorem Tryz.strings_Join(bk o c:Nat)(xs:List ByteArray)(sep:ByteArray)(w:World)(hcells: ∀(j:Nat) x,xs[j]? =some x->w.cell? ⟨bk,o+j,none⟩=some (.string x))(hbk:bk<w.heap.size)(hN:xs.length<=140737488355328)(hcap:xs.length<=c)(hlen:(Lib.join (xs.map (·.data.toList)) sep.data.toList).length<=140737488355328):
 Calls Tryz.prog 14 #[.slice (some ⟨bk,o,none⟩) xs.length c, .string sep] w fun e w'=>e= .returned (.string ⟨(Lib.join (xs.map (·.data.toList)) sep.data.toList).toArray⟩)/\Below w.heap.size w w':=Any.strings_Join Tryz.pT Tryz.eg bk o c xs sep w hcells hbk hN hcap hlen
def Tryz.yr:Go.Shelf.Ren:=⟨fun|171=>28|243=>49|246=>65|283=>77|284=>78|285=>79|286=>80|129=>97|317=>96|318=>98|319=>99|320=>100|337=>108|338=>109|n=>n,fun|3=>3|9=>9|2=>2|4=>4|171=>144|0=>0|53=>90|37=>57|5=>5|173=>147|212=>166|51=>167|20=>20|213=>168|46=>153|232=>193|233=>194|n=>n,fun|17=>1|18=>2|19=>3|n=>n⟩
theorem Tryz.IK:Go.Proofs.LaysM.n171 Tryz.prog Tryz.yr:={
 mixed:=by kernel_rfl
 f129:=Tryz.func97.trans (congrArg some (by kernel_rfl))
 f171:=Tryz.func28.trans (congrArg some (by kernel_rfl))
 f243:=Tryz.func49.trans (congrArg some (by kernel_rfl))
 f246:=Tryz.func65.trans (congrArg some (by kernel_rfl))
 f283:=Tryz.func77.trans (congrArg some (by kernel_rfl))
 f284:=Tryz.func78.trans (congrArg some (by kernel_rfl))
 f285:=Tryz.func79.trans (congrArg some (by kernel_rfl))
 f286:=Tryz.func80.trans (congrArg some (by kernel_rfl))
 f317:=Tryz.func96.trans (congrArg some (by kernel_rfl))
 f318:=Tryz.func98.trans (congrArg some (by kernel_rfl))
 f319:=Tryz.func99.trans (congrArg some (by kernel_rfl))
 f320:=Tryz.func100.trans (congrArg some (by kernel_rfl))
 f337:=Tryz.func108.trans (congrArg some (by kernel_rfl))
 f338:=Tryz.func109.trans (congrArg some (by kernel_rfl))
 t0:=Tryz.underlying0
 a0:=Tryz.isAgg0
 z0:=Tryz.sizeOf0
 v0:=Tryz.zeroValue0
 t2:=Tryz.underlying2
 a2:=Tryz.isAgg2
 z2:=Tryz.sizeOf2
 v2:=Tryz.zeroValue2
 t3:=Tryz.underlying3
 a3:=Tryz.isAgg3
 z3:=Tryz.sizeOf3
 v3:=Tryz.zeroValue3
 t4:=Tryz.underlying4
 a4:=Tryz.isAgg4
 z4:=Tryz.sizeOf4
 v4:=Tryz.zeroValue4
 t5:=Tryz.underlying5
 a5:=Tryz.isAgg5
 z5:=Tryz.sizeOf5
 v5:=Tryz.zeroValue5
 t9:=Tryz.underlying9
 a9:=Tryz.isAgg9
 z9:=Tryz.sizeOf9
 v9:=Tryz.zeroValue9
 t20:=Tryz.underlying20
 a20:=Tryz.isAgg20
 z20:=Tryz.sizeOf20
 v20:=Tryz.zeroValue20
 t37:=Tryz.underlying57
 a37:=Tryz.isAgg57
 z37:=Tryz.sizeOf57
 v37:=Tryz.zeroValue57
 t46:=Tryz.underlying153
 a46:=Tryz.isAgg153
 z46:=Tryz.sizeOf153
 v46:=Tryz.zeroValue153
 t51:=Tryz.underlying167
 a51:=Tryz.isAgg167
 z51:=Tryz.sizeOf167
 v51:=Tryz.zeroValue167
 t53:=Tryz.underlying90
 a53:=Tryz.isAgg90
 z53:=Tryz.sizeOf90
 v53:=Tryz.zeroValue90
 t171:=Tryz.underlying144
 a171:=Tryz.isAgg144
 z171:=Tryz.sizeOf144
 v171:=Tryz.zeroValue144
 t173:=Tryz.underlying147
 a173:=Tryz.isAgg147
 z173:=Tryz.sizeOf147
 v173:=Tryz.zeroValue147
 t212:=Tryz.underlying166
 a212:=Tryz.isAgg166
 z212:=Tryz.sizeOf166
 v212:=Tryz.zeroValue166
 t213:=Tryz.underlying168
 a213:=Tryz.isAgg168
 z213:=Tryz.sizeOf168
 t232:=Tryz.underlying193
 a232:=Tryz.isAgg193
 z232:=Tryz.sizeOf193
 v232:=Tryz.zeroValue193
 t233:=Tryz.underlying194
 a233:=Tryz.isAgg194
 z233:=Tryz.sizeOf194
 v233:=Tryz.zeroValue194
 g17:=by kernel_rfl
 g18:=by kernel_rfl
 g19:=by kernel_rfl
 i0:=by kernel_rfl
 i2:=by kernel_rfl
 i3:=by kernel_rfl
 i4:=by kernel_rfl
 i5:=by kernel_rfl
 i9:=by kernel_rfl
 i20:=by kernel_rfl
 i37:=by kernel_rfl
 i46:=by kernel_rfl
 i51:=by kernel_rfl
 i53:=by kernel_rfl
 i171:=by kernel_rfl
 i173:=by kernel_rfl
 i212:=by kernel_rfl
 i232:=by kernel_rfl
 i233:=by kernel_rfl
 m17:=by kernel_rfl
 m18:=by kernel_rfl
 m19:=by kernel_rfl}
open Go.RowKit Go.Sort Go.Lib in
theorem Tryz.strconv_Itoa(n:Int)(h0: -9223372036854775808<=n)(h1:n<=9223372036854775807)(w:World)(htab:Lib.TabIs Tryz.prog w "internal/strconv.uint64pow10" .u64 Lib.pow10Tab):
 Calls Tryz.prog 28 #[.int .i64 n] w fun e w'=>e= .returned (.string ⟨(Lib.itoa n).toArray⟩)/\ ∃k os,w'=grow (w.drewN k) os:=Any.strconv_Itoa Tryz.IK n h0 h1 w htab
open Go.RowKit in
theorem Tryz.Builder_String_any(B b:Nat)(l:List UInt8)(w:World)(h:Lib.IsBuilder 59 5 B b (Lib.byteCells l) w)(hBw:B<=w.heap.size):
 Calls Tryz.prog 16 #[.pointer (some ⟨b,0,none⟩)] w fun e w'=>e= .returned (.string ⟨l.toArray⟩)/\Below B w w':=Any.Builder_String_any {Tryz.pT with} Tryz.eg B b l w h hBw
open Go.RowKit in
theorem Tryz.Builder_WriteString(B b:Nat)(bs:List Value)(s:ByteArray)(w:World)(h:Lib.IsBuilder 59 5 B b bs w)(hlen:bs.length+s.size<=140737488355328)(hBw:B<=w.heap.size):
 Calls Tryz.prog 13 #[.pointer (some ⟨b,0,none⟩), .string s] w fun e w'=>e= .returned (.tuple #[.int .i64 s.size, .nilIface])/\(Lib.BuilderAt 59 5 B b (.pointer (some ⟨b,0,none⟩)) (bs++Lib.strCells s) w'/\Below B w w'):=Any.Builder_WriteString {Tryz.pT with} Tryz.eg B b bs s w h hlen hBw
end Go.Proofs
namespace Go.Proofs.Nw
open Go Go.AV Tryz
end Go.Proofs.Nw
namespace Go.Proofs.Nw
open Go Go.AV Tryz
set_option maxRecDepth 1000000
noncomputable section
theorem qvl(z:T aa)(zn:Nat)(N:aM)(a b c:Int)(Q:QF)(hyp:aT prog z zn 54 [AG (xL N)] [] 0 0 Yx (fun(x:Unit)=>TP [zv a,zv b,zv c]) db/\Ut N/\ ∀(x:Unit),True->Rs (TP [ZV a,ZV b,ZV c])/\Br (c==0) (E6 14 z zn (YA/\Q T1 [] 0 z zn)) (E6 14 z zn (YQ/\Q F0 [] 0 z zn))):ed prog GN z f32 [AG N.cells] z [] 0 zn Q:=K1t hyp (tA 1 (Tr.cm (Cm.mk [AG (xL N)] [] 0 0 [] [] 1) Unit Yx (fun(x:Unit)=>TP [zv a,zv b,zv c]) db (fun(x:Unit)=>TP [ZV a,ZV b,ZV c]) db (fZ z) (fY zn) fun(x:Unit)=>(tR [] [] T1 [] 0 z zn).fork (GM z zn)))
end
end Go.Proofs.Nw
namespace Go.Proofs.Nw
open Go Go.AV Tryz
set_option maxHeartbeats 1000000
set_option maxRecDepth 100000
theorem jb.c8{z z':T aa}{zn:Nat}{N:aM}{D:BP}(h:jb z N D)(hz:ay z zn)(ho: ∀j,j<zn->z'.get j=z.get j):jb z' N D:=
 ⟨h.s,h.r,h.u,h.l,h.p,h.f,dU h.ts hz ho,dU h.tr hz ho,⟨dU h.tu.Kt hz ho,h.tu.sl,fun j r hr=>dU (h.tu.calls j r hr) hz ho⟩,dU h.tl hz ho,dU h.tp hz ho,dU h.tf hz ho⟩
section
variable{z:T aa}{N:aM}{D:BP}
theorem jb.run(h:jb z N D){k:Nat}{x:RunT}(hx:D.runs[k]? =some x): ∃kl,z.get 1=some (.aw kl)/\aE prog kl 42 (0+k*8)=some (.agg ⟨x.v.row⟩)/\aE prog kl 4 (0+k*8+6)=some (.bool x.v.cancelled)/\aE prog kl 40 (0+k*8+7)=some (.slice x.v.ca x.v.cn x.v.cc):=by
 obtain⟨el,hel⟩:=h.tu.Kt.aw (i:=k) (by simpa using (List.getElem?_eq_some_iff.1 hx).1)
 have hlen:=aQ (row:=fun r:RunT=>r.v.row) (sz:=8) D.runs fun _=>rfl
 have hr:(D.runs.map fun r:RunT=>r.v.row)[k]? =some x.v.row:=by rw[List.getElem?_map,hx];rfl
 exact⟨_,hel,bG (r:=x.v.row) (sz:=8) underlying42 rfl rfl hlen hr,bc underlying4 rfl hlen hr rfl,bc underlying40 rfl hlen hr rfl⟩
theorem jb.call(h:jb z N D){k:Nat}{x:RunT}(hx:D.runs[k]? =some x){i:Nat}{c:bw}(hc:x.calls[i]? =some c):x.v.ca=some ⟨256*(6+k)+510,0,none⟩/\x.v.cn=x.calls.length/\ ∃kl,z.get (6+k)=some (.aw kl)/\aE prog kl 3 (0+i*5+1)=some (zv c.arr)/\aE prog kl 3 (0+i*5+2)=some (zv c.dep):=by
 have hi:=(List.getElem?_eq_some_iff.1 hc).1
 obtain⟨el,hel⟩:=(h.tu.calls k x hx).aw (i:=i) (by simpa using hi)
 have hs:x.v.ca=some ⟨256*(6+k)+510,0,none⟩/\x.v.cn=x.calls.length:=by
  rcases h.tu.sl k x hx with (⟨_,_,_,h4⟩|h)|⟨_,_,_,h4⟩
  ·omega
  ·exact h
  ·omega
 have hlen:=aQ (row:=bw.row) (sz:=5) x.calls fun _=>rfl
 have hr:(x.calls.map bw.row)[i]? =some c.row:=by rw[List.getElem?_map,hc];rfl
 exact⟨hs.1,hs.2,_,hel,bc underlying3 rfl hlen hr rfl,bc underlying3 rfl hlen hr rfl⟩
end
section
variable{z:T aa}{zn:Nat}{N:aM}{D:BP}
theorem MZ(hz:ay z zn)(h5:5<=zn)(hN:jb z N D):A1 z zn 32 [.agg ⟨N.cells⟩] [] 0 0 (.bool ((fG N D).2.2==0)) []:=by
 have hv:=rE (hN.val [])
 have hb:=hN.box
 have hc:=FZ hz h5 hN
 refine aK1 (mR (zg:=z)) (fn:=f32) hz (qvl z zn N (fG N D).1 (fG N D).2.1 (fG N D).2.2 _ ?_)
 (repeat' first|(with_reducible first|exact rfl|assumption|apply And.intro)|intro hq)
 all_goals (refine zU ?_;rw[hq])
end
end Go.Proofs.Nw
namespace Go.Proofs.Nw
open Go Go.AV Tryz Go.RowKit
set_option maxRecDepth 100000
theorem Fy{z:T aa}{ρ:Ren}{w w':World}(h:ND z ρ w)(hb:Below w.heap.size w w'):ND z ρ w':=
 ⟨fun k o hk=>let ⟨L,x,a,b,c⟩:=h.r k o hk;⟨L,x,a,(hb.block L.φ (Array.getElem?_eq_some_iff.1 b).1).trans b,c⟩,h.own,h.lo⟩
theorem N9{z:T aa}{zn f:Nat}{args args':List Value}{v:Value}{ρ:Ren}{w w':World}(h:A1 z zn f args [] 0 0 v [])(hp:au v=true)(hz:ND z ρ w)(hfb:fK ρ zn)(ha:cT ρ args args')(hb:Below w.heap.size w w'):
 Calls prog f ⟨args'⟩ w' fun e w''=>e= .returned v/\Below w'.heap.size w' w'':=
 (xA h (Fy hz hb) hfb ha).mono fun e w'' ⟨x,ρ',v',_,h2,h3,_,_,_,h4⟩=>⟨by rw[h2,h3.plain hp],h4⟩
theorem ga{w:World}{v:Value}{k:Nat}{rows:List (List Value)}(h:jl w v k rows): ∃(a:Option Addr)(n c:Nat),v= .slice a n c/\n=rows.length:=by
 rcases h with ⟨rfl,rfl⟩|⟨⟨g,o,s,rfl⟩,rfl⟩|⟨g,o,c,rfl,_⟩
 ·exact⟨_,_,_,rfl,rfl⟩
 ·exact⟨_,_,_,rfl,rfl⟩
 ·exact⟨_,_,_,rfl,rfl⟩
theorem qf{w:World}{a:Addr}{v:Value}(h:w.cell? a=some v):a.block<w.heap.size:=by
 rcases Nat.lt_or_ge a.block w.heap.size with h'|h'
 ·exact h'
 ·unfold World.cell? at h
  rw[Array.getElem?_eq_none h'] at h
  simp at h
end Go.Proofs.Nw
namespace Go.Proofs.Nw
open Go Go.Proofs Go.AV Go.RowKit Go.Shelf Go.Sort
set_option maxRecDepth 1000000
abbrev Pow(w:World):Prop:=Lib.TabIs Tryz.prog w "internal/strconv.uint64pow10" .u64 Lib.pow10Tab
theorem jx{w w':World}(h:Pow w)(hb:Below w.heap.size w w'):Pow w':=by
 unfold Pow Lib.TabIs World.var? at*
 cases hg:Tryz.prog.globalNamed "internal/strconv.uint64pow10" with
 |none=>simp[hg] at h
 |some g=>
  simp only[hg,Option.bind_some] at h ⊢
  have hlt:g<w.heap.size:=by
   rcases Nat.lt_or_ge g w.heap.size with h'|h'
   ·exact h'
   ·rw[Array.getElem?_eq_none h'] at h;simp at h
  rw[hb.block g hlt]
  exact h
theorem xn: ∀(i m:Nat)(l:List UInt8),m<10 ^ (i+1)->ft (i+1) m l=Lib.decDigits m++l
 |0,m,l,h=>by
  have hm:m<10:=by simpa using h
  rw[ft,if_neg (by omega),Lib.decDigits_one hm]
  simp[digit,Nat.mod_eq_of_lt hm]
 |i+1,m,l,h=>by
  rw[ft]
  split
  ·rename_i hm
   rw[xn i (m / 10) _ (by rw[Nat.pow_succ] at h;omega),Lib.decDigits.eq_1 m,dif_neg (by omega)]
   simp[digit]
  ·rename_i hm
   have hm:m<10:=by omega
   rw[Lib.decDigits_one hm]
   simp[digit,Nat.mod_eq_of_lt hm]
theorem IP(n:Int)(h:jg n):Lib.itoa n=dec n:=by
 have:=xn 19 n.natAbs [] (by have:=h.1;have:=h.2;omega)
 simp only[List.append_nil] at this
 unfold Lib.itoa dec
 rw[this]
 by_cases h0:n<0
 ·rw[if_pos h0,if_pos h0];rfl
 ·rw[if_neg h0,if_neg h0,show n.toNat=n.natAbs by omega];rfl
theorem C9(w:World)(k:Nat)(os:Array Obj):Below w.heap.size w (grow (w.drewN k) os):=by
 have e:(w.drewN k).heap=w.heap:=by simp
 refine⟨rfl,rfl,rfl,by simp[grow,e],fun j hj=>?_⟩
 show(((w.drewN k).heap++os)[j]?)=_
 rw[e,Array.getElem?_append_left hj]
theorem IQ(n:Int)(h:jg n)(w:World)(ht:Pow w):
 Calls Tryz.prog 28 #[.int .i64 n] w fun e w'=>e= .returned (.string (aB n))/\Below w.heap.size w w':=by
 refine(Tryz.strconv_Itoa n h.1 h.2 w ht).mono ?_
 rintro e w' ⟨rfl,k,os,rfl⟩
 exact⟨by rw[IP n h];rfl,C9 _ _ _⟩
theorem Qf(d:Int)(w:World)(h0:0<=d)(h1:d<=36524):Calls Tryz.prog 51 #[.int .i64 d] w fun e w'=>e= .returned (.bool true)/\w=w':=by
 go_enter Tryz.func51,Tryz.ntmps51
 go_wp2
 go_ret
 exact⟨rfl,rfl⟩
theorem aG{w1 w2:World}{b o:Nat}{x:Option Value}(hb:Below w1.heap.size w1 w2)(hlt:b<w1.heap.size)(h:w1.cell? ⟨b,o,none⟩=x):w2.cell? ⟨b,o,none⟩=x:=by
 rw[hb.cell (p:=⟨b,o,none⟩) hlt];exact h
theorem NU{w w1 w2:World}{x y z:Option Value}(hb:Below w1.heap.size w1 w2)(h:w1.cell? ⟨w.heap.size,1,none⟩=x/\w1.cell? ⟨w.heap.size,2,none⟩=y/\w1.cell? ⟨w.heap.size,3,none⟩=z/\w.heap.size<w1.heap.size/\Below w.heap.size w w1):
 w2.cell? ⟨w.heap.size,1,none⟩=x/\w2.cell? ⟨w.heap.size,2,none⟩=y/\w2.cell? ⟨w.heap.size,3,none⟩=z/\w.heap.size<w2.heap.size/\Below w.heap.size w w2:=
 ⟨aG hb h.2.2.2.1 h.1,aG hb h.2.2.2.1 h.2.1,aG hb h.2.2.2.1 h.2.2.1,Nat.lt_of_lt_of_le h.2.2.2.1 hb.size,h.2.2.2.2.trans (hb.mono (Nat.le_of_lt h.2.2.2.1))⟩
abbrev Fs(r:gO):ByteArray:=⟨(oH r).toArray⟩
theorem nE{s:ByteArray}(h:bK s=true):s.size<=32:=by
 simp only[bK,Bool.and_eq_true,decide_eq_true_eq] at h
 exact h.2
theorem Ch(r:gO)(h:bK r.id=true):(oH r).length<=80:=by
 have h1:=nE h
 have h2:=fQ r.day
 have h3:=fQ r.inst
 have h4:r.id.data.toList.length=r.id.size:=Array.length_toList
 simp only[oH,List.length_append,List.length_cons]
 omega
set_option maxHeartbeats 1600000 in
theorem Tz(r:gO)(cv:Value)(w:World)(ht:Pow w)(hid:bK r.id=true)(d0:0<=r.day)(d1:r.day<=36524)(i0:0<=r.inst)(i1:r.inst<=9223372036854775807):
 Calls Tryz.prog 29 #[.agg #[zv r.oC,zv r.day,zv r.inst, .string r.id,zv r.gE, .bool r.sf, .bool r.cancelled,cv]] w fun e w'=>e= .returned (.tuple #[.string (Fs r), .int .i64 0])/\Below w.heap.size w w':=by
 obtain⟨tr,day,inst,id,rt,sf,cx,cv',cl⟩:=r
 simp only at*
 have hsz:=nE hid
 have n0: ¬inst<0:=by omega
 have z1:=c9 day
 have z2:=c9 inst
 have g1: ¬(9223372036854775807<id.size+1):=by omega
 have g2: ¬(9223372036854775807<id.size+1+(aB day).size):=by omega
 have g3: ¬(9223372036854775807<id.size+1+(aB day).size+1):=by omega
 have g4: ¬(9223372036854775807<id.size+1+(aB day).size+1+(aB inst).size):=by omega
 have e:(((id++⟨#[64]⟩)++aB day)++⟨#[35]⟩)++aB inst=Fs ⟨tr,day,inst,id,rt,sf,cx,cv',cl⟩:=rZ (by simp[kH,kF,oH])
 have E:=Lib.hid e
 have HT:=Lib.hid ht
 clear e ht z1 z2
 go_enter Tryz.func29,Tryz.ntmps29
 go_wp2_with (first|(go_at_call 50;refine(GX _ _ (by omega)).mono ?_;rw[hid];rintro e w' ⟨rfl,rfl⟩)|(go_at_call 51;refine(Qf _ _ d0 d1).mono ?_;rintro e w' ⟨rfl,rfl⟩))
 have hS:(w.alloc (Obj.cells #[zv tr,zv day,zv inst,Value.string id,zv rt,Value.bool sf,Value.bool cx,cv] 42)).cell? ⟨w.heap.size,1,none⟩=some (zv day)/\(w.alloc (Obj.cells #[zv tr,zv day,zv inst,Value.string id,zv rt,Value.bool sf,Value.bool cx,cv] 42)).cell? ⟨w.heap.size,2,none⟩=some (zv inst)/\(w.alloc (Obj.cells #[zv tr,zv day,zv inst,Value.string id,zv rt,Value.bool sf,Value.bool cx,cv] 42)).cell? ⟨w.heap.size,3,none⟩=some (.string id)/\w.heap.size<(w.alloc (Obj.cells #[zv tr,zv day,zv inst,Value.string id,zv rt,Value.bool sf,Value.bool cx,cv] 42)).heap.size/\Below w.heap.size w (w.alloc (Obj.cells #[zv tr,zv day,zv inst,Value.string id,zv rt,Value.bool sf,Value.bool cx,cv] 42)):=by
  refine⟨?_,?_,?_,by simp,(Below.refl _ _).alloc (Nat.le_refl _) _⟩<;>(simp only[World.cell?,heap_alloc];rfl)
 go_region_held3 (fun wx=>wx.cell? ⟨w.heap.size,1,none⟩=some (zv day)/\wx.cell? ⟨w.heap.size,2,none⟩=some (zv inst)/\wx.cell? ⟨w.heap.size,3,none⟩=some (.string id)/\w.heap.size<wx.heap.size/\Below w.heap.size w wx)
  (first|(exact NU (by assumption) (by assumption))|(exact NU (kG (da _)) (by assumption))|go_keep)
  (first|(go_at_call 28;refine(IQ _ ⟨by omega,by omega⟩ _ (jx HT.out (by first|exact kG (dZ (da _) _)|exact blt (kG (dZ (da _) _)) (by assumption)))).mono ?_;rintro e w' ⟨rfl,hb⟩))
 go_wp2_with fail
 go_ret2
 rename_i hH
 exact⟨congrArg (fun s=>Ending.returned (Value.tuple #[.string s, .int .i64 0])) E.out,hH.2.2.2.2⟩
structure NF(w:World)(N:cd)(a0:Option Addr)(l0:Nat)(a2:Option Addr)(l2:Nat):Prop where
 e0:l0=N.stops.length
 e2:l2=N.runs.length
 st: ∀i x,N.stops[i]? =some x-> ∃g f,a0=some ⟨g,f,none⟩/\g<w.heap.size/\w.cell? ⟨g,f+i*4,none⟩=some (.string x.id)
 ru: ∀i x,N.runs[i]? =some x-> ∃g f ca cc,a2=some ⟨g,f,none⟩/\g<w.heap.size/\w.cell? ⟨g,f+i*8,none⟩=some (zv x.oC)/\w.cell? ⟨g,f+i*8+1,none⟩=some (zv x.day)/\w.cell? ⟨g,f+i*8+2,none⟩=some (zv x.inst)/\w.cell? ⟨g,f+i*8+3,none⟩=some (.string x.id)/\w.cell? ⟨g,f+i*8+4,none⟩=some (zv x.gE)/\w.cell? ⟨g,f+i*8+5,none⟩=some (.bool x.sf)/\w.cell? ⟨g,f+i*8+6,none⟩=some (.bool x.cancelled)/\w.cell? ⟨g,f+i*8+7,none⟩=some (.slice ca x.calls.length cc)
theorem NF.below{w W:World}{N:cd}{a0 a2:Option Addr}{l0 l2:Nat}(h:NF w N a0 l0 a2 l2)(hb:Below w.heap.size w W):NF W N a0 l0 a2 l2:=by
 refine⟨h.e0,h.e2,fun i x hx=>?_,fun i x hx=>?_⟩
 ·obtain⟨g,f,h1,h2,h3⟩:=h.st i x hx
  exact⟨g,f,h1,Nat.lt_of_lt_of_le h2 hb.size,aG hb h2 h3⟩
 ·obtain⟨g,f,ca,cc,h1,h2,q0,q1,q2,q3,q4,q5,q6,q7⟩:=h.ru i x hx
  exact⟨g,f,ca,cc,h1,Nat.lt_of_lt_of_le h2 hb.size,aG hb h2 q0,aG hb h2 q1,aG hb h2 q2,aG hb h2 q3,aG hb h2 q4,aG hb h2 q5,aG hb h2 q6,aG hb h2 q7⟩
theorem run_get{N:cd}{i:Nat}{x:gO}(h:N.runs[i]? =some x):N.run (i:Int)=x:=by simp[cd.run,h]
theorem CS{N:cd}{l:eG}(h:pY N l=true):0<=l.run/\l.run<N.runs.length/\0<=l.ek/\l.ek<l.off/\l.off<(N.run l.run).calls.length:=by
 simpa only[pY,Bool.and_eq_true,decide_eq_true_eq] using h
theorem N5{a b:World}(h:Below a.heap.size a b)(n:Nat):Below a.heap.size a (b.drewN n):=by
 refine⟨h.os,h.tape,h.output,?_,fun k hk=>?_⟩
 ·simpa using h.size
 ·simpa using h.block k hk
set_option maxHeartbeats 1600000 in
theorem A9{W:World}{N:cd}{a0 a1 a2 a3 a4 a5:Option Addr}{l0 l1 l2 l3 l4 l5 c0 c1 c2 c3 c4 c5:Nat}{n6 n7 n8:Value}(hF:NF W N a0 l0 a2 l2)(df:Bool)(run ek off fr tt dp ar:Int)(stay:Bool):
 Calls Tryz.prog 27 #[.agg #[.slice a0 l0 c0, .slice a1 l1 c1, .slice a2 l2 c2, .slice a3 l3 c3, .slice a4 l4 c4, .slice a5 l5 c5,n6,n7,n8], .agg #[.bool df,zv run,zv ek,zv off,zv fr,zv tt,zv dp,zv ar, .bool stay]] W fun e w'=>e= .returned (.bool (pY N ⟨df,run,ek,off,fr,tt,dp,ar,stay⟩))/\Below W.heap.size W w':=by
 obtain rfl:=hF.e2
 by_cases h0:0<=run
 ·obtain⟨i,rfl⟩: ∃i:Nat,run=i:=⟨run.toNat,by omega⟩
  have d0:decide ((0:Int)<=i)=true:=by simp
  by_cases h1:(i:Int)<N.runs.length
  ·have hi:i<N.runs.length:=by omega
   have d1:decide ((i:Int)<N.runs.length)=true:=decide_eq_true h1
   obtain⟨g,f,ca,cc,ha,hg,-,-,-,-,-,-,-,q7⟩:=hF.ru i _ (List.getElem?_eq_getElem hi)
   have hr:=run_get (List.getElem?_eq_getElem hi)
   subst ha
   by_cases h2:0<=ek
   ·have d2:decide (0<=ek)=true:=decide_eq_true h2
    by_cases h3:ek<off
    ·have d3:decide (ek<off)=true:=decide_eq_true h3
     rw[show pY N ⟨df,i,ek,off,fr,tt,dp,ar,stay⟩=decide (off<(N.runs[i].calls.length:Int)) by unfold pY;simp only[hr];simp[h2,h3,hi]]
     clear hr hF
     go_enter Tryz.func27,Tryz.ntmps27
     go_wp2
     go_quiet (fail)
     go_wp2
     go_ret
     exact⟨rfl,N5 (dZ (dZ (da _) _) _) _⟩
    ·have d3:decide (ek<off)=false:=decide_eq_false h3
     rw[show pY N ⟨df,i,ek,off,fr,tt,dp,ar,stay⟩=false by unfold pY;simp[h3]]
     clear hr hF
     go_enter Tryz.func27,Tryz.ntmps27
     go_wp2
     go_quiet (fail)
     go_wp2
     go_ret
     exact⟨rfl,N5 (dZ (dZ (da _) _) _) _⟩
   ·have d2:decide (0<=ek)=false:=decide_eq_false h2
    rw[show pY N ⟨df,i,ek,off,fr,tt,dp,ar,stay⟩=false by unfold pY;simp[h2]]
    clear hr hF
    go_enter Tryz.func27,Tryz.ntmps27
    go_wp2
    go_quiet (fail)
    go_wp2
    go_ret
    exact⟨rfl,N5 (dZ (dZ (da _) _) _) _⟩
  ·have d1:decide ((i:Int)<N.runs.length)=false:=decide_eq_false h1
   have d1':decide (i<N.runs.length)=false:=decide_eq_false (by omega)
   rw[show pY N ⟨df,i,ek,off,fr,tt,dp,ar,stay⟩=false by unfold pY;simp;omega]
   clear hF
   go_enter Tryz.func27,Tryz.ntmps27
   go_wp2
   go_quiet (fail)
   go_wp2
   go_ret
   exact⟨rfl,N5 (dZ (dZ (da _) _) _) _⟩
 ·have d0:decide (0<=run)=false:=decide_eq_false h0
  rw[show pY N ⟨df,run,ek,off,fr,tt,dp,ar,stay⟩=false by unfold pY;simp[h0]]
  clear hF
  go_enter Tryz.func27,Tryz.ntmps27
  go_wp2
  go_quiet (fail)
  go_wp2
  go_ret
  exact⟨rfl,N5 (dZ (dZ (da _) _) _) _⟩
set_option maxHeartbeats 1600000 in
theorem uM{W:World}{N:cd}{a0 a1 a2 a3 a4 a5:Option Addr}{l0 l1 l2 l3 l4 l5 c0 c1 c2 c3 c4 c5:Nat}{n6 n7 n8:Value}(hF:NF W N a0 l0 a2 l2)(df:Bool)(run ek off fr tt dp ar:Int)(stay:Bool):
 Calls Tryz.prog 33 #[.agg #[.slice a0 l0 c0, .slice a1 l1 c1, .slice a2 l2 c2, .slice a3 l3 c3, .slice a4 l4 c4, .slice a5 l5 c5,n6,n7,n8], .agg #[.bool df,zv run,zv ek,zv off,zv fr,zv tt,zv dp,zv ar, .bool stay]] W fun e w'=>e= .returned (.bool (pY N ⟨df,run,ek,off,fr,tt,dp,ar,stay⟩))/\Below W.heap.size W w':=by
 obtain rfl:=hF.e2
 by_cases h0:0<=run
 ·obtain⟨i,rfl⟩: ∃i:Nat,run=i:=⟨run.toNat,by omega⟩
  have d0:decide ((i:Int)<0)=false:=decide_eq_false (by omega)
  by_cases h1:(i:Int)<N.runs.length
  ·have hi:i<N.runs.length:=by omega
   have d1:decide ((i:Int)>=N.runs.length)=false:=decide_eq_false (by omega)
   have d1':decide (N.runs.length<=i)=false:=decide_eq_false (by omega)
   obtain⟨g,f,ca,cc,ha,hg,-,-,-,-,-,-,-,q7⟩:=hF.ru i _ (List.getElem?_eq_getElem hi)
   have hr:=run_get (List.getElem?_eq_getElem hi)
   subst ha
   by_cases h2:0<=ek
   ·have d2:decide (ek>=0)=true:=decide_eq_true h2
    by_cases h3:ek<off
    ·have d3:decide (ek<off)=true:=decide_eq_true h3
     rw[show pY N ⟨df,i,ek,off,fr,tt,dp,ar,stay⟩=decide (off<(N.runs[i].calls.length:Int)) by unfold pY;simp only[hr];simp[h2,h3,hi]]
     clear hr hF
     go_enter Tryz.func33,Tryz.ntmps33
     go_wp2
     go_quiet (fail)
     go_wp2
     go_ret
     exact⟨rfl,N5 (dZ (dZ (da _) _) _) _⟩
    ·have d3:decide (ek<off)=false:=decide_eq_false h3
     rw[show pY N ⟨df,i,ek,off,fr,tt,dp,ar,stay⟩=false by unfold pY;simp[h3]]
     clear hr hF
     go_enter Tryz.func33,Tryz.ntmps33
     go_wp2
     go_quiet (fail)
     go_wp2
     go_ret
     exact⟨rfl,N5 (dZ (dZ (da _) _) _) _⟩
   ·have d2:decide (ek>=0)=false:=decide_eq_false h2
    rw[show pY N ⟨df,i,ek,off,fr,tt,dp,ar,stay⟩=false by unfold pY;simp[h2]]
    clear hr hF
    go_enter Tryz.func33,Tryz.ntmps33
    go_wp2
    go_quiet (fail)
    go_wp2
    go_ret
    exact⟨rfl,N5 (dZ (dZ (da _) _) _) _⟩
  ·have d1:decide ((i:Int)>=N.runs.length)=true:=decide_eq_true (by omega)
   have d1':decide (N.runs.length<=i)=true:=decide_eq_true (by omega)
   rw[show pY N ⟨df,i,ek,off,fr,tt,dp,ar,stay⟩=false by unfold pY;simp;omega]
   clear hF
   go_enter Tryz.func33,Tryz.ntmps33
   go_wp2
   go_ret
   exact⟨rfl,dZ (dZ (da _) _) _⟩
 ·have d0:decide (run<0)=true:=decide_eq_true (by omega)
  rw[show pY N ⟨df,run,ek,off,fr,tt,dp,ar,stay⟩=false by unfold pY;simp[h0]]
  clear hF
  go_enter Tryz.func33,Tryz.ntmps33
  go_wp2
  go_ret
  exact⟨rfl,dZ (dZ (da _) _) _⟩
structure LF(w:World)(G:List eG)(a:Option Addr)(l:Nat):Prop where
 e:l=G.length
 le: ∀i x,G[i]? =some x-> ∃g f,a=some ⟨g,f,none⟩/\g<w.heap.size/\w.cell? ⟨g,f+i*9,none⟩=some (.bool x.df)/\w.cell? ⟨g,f+i*9+1,none⟩=some (zv x.run)/\w.cell? ⟨g,f+i*9+2,none⟩=some (zv x.ek)/\w.cell? ⟨g,f+i*9+3,none⟩=some (zv x.off)/\w.cell? ⟨g,f+i*9+4,none⟩=some (zv x.fz1)/\w.cell? ⟨g,f+i*9+5,none⟩=some (zv x.aq)/\w.cell? ⟨g,f+i*9+6,none⟩=some (zv x.dep)/\w.cell? ⟨g,f+i*9+7,none⟩=some (zv x.arr)/\w.cell? ⟨g,f+i*9+8,none⟩=some (.bool x.stay)
theorem LF.below{w W:World}{G:List eG}{a:Option Addr}{l:Nat}(h:LF w G a l)(hb:Below w.heap.size w W):LF W G a l:=by
 refine⟨h.e,fun i x hx=>?_⟩
 obtain⟨g,f,h1,h2,q0,q1,q2,q3,q4,q5,q6,q7,q8⟩:=h.le i x hx
 exact⟨g,f,h1,Nat.lt_of_lt_of_le h2 hb.size,aG hb h2 q0,aG hb h2 q1,aG hb h2 q2,aG hb h2 q3,aG hb h2 q4,aG hb h2 q5,aG hb h2 q6,aG hb h2 q7,aG hb h2 q8⟩
structure NV(N:cd):Prop where
 st: ∀x∈N.stops,x.id.size<=32
 ru: ∀x∈N.runs,bK x.id=true/\0<=x.day/\x.day<=36524/\0<=x.inst/\x.inst<=9223372036854775807
structure Bx(w W:World)(q c:Array Value)(u:TypeId):Prop where
 r0:W.heap[w.heap.size]? =some (.cells q 31 (0,0))
 r1:W.heap[w.heap.size+1]? =some (.cells c u (0,0))
 du:Below w.heap.size w W
theorem Bx.lt{w W:World}{q c:Array Value}{u:TypeId}(h:Bx w W q c u):w.heap.size+1<W.heap.size:=(Array.getElem?_eq_some_iff.1 h.r1).1
theorem Bx.after{w W W':World}{q c:Array Value}{u:TypeId}(h:Bx w W q c u)(hb:Below W.heap.size W W'):Bx w W' q c u:=by
 have:=h.lt
 exact⟨(hb.block _ (by omega)).trans h.r0,(hb.block _ (by omega)).trans h.r1,h.du.trans (hb.mono (by omega))⟩
theorem Bx.start(w:World)(q c:Array Value)(u:TypeId):Bx w ((w.alloc (.cells q 31)).alloc (.cells c u)) q c u:=by
 have e1:(w.alloc (.cells q 31)).heap.size=w.heap.size+1:=by simp
 refine⟨?_,?_,dZ (dZ (da _) _) _⟩
 ·rw[Below.heap_alloc _ _ _ (by omega)];exact heap_alloc _ _
 ·rw[←e1];exact heap_alloc _ _
theorem bh{w:World}{b:Nat}{cs:Array Value}{e:TypeId}(h:w.heap[b]? =some (.cells cs e (0,0)))(o:Nat):w.cell? ⟨b,o,none⟩=cs[o]? :=by simp[World.cell?,h]
abbrev ku(wr:World)(B b:Nat)(v0 v2 jv:Value)(x:eG)(g f i k:Nat)(s0 s1:ByteArray)(wx:World):Prop:=
 wx.cell? ⟨B,0,none⟩=some v0/\wx.cell? ⟨B,2,none⟩=some v2/\wx.cell? ⟨B+1,0,none⟩=some jv/\wx.cell? ⟨b,0,none⟩=some (.bool x.df)/\wx.cell? ⟨b,1,none⟩=some (zv x.run)/\wx.cell? ⟨b,4,none⟩=some (zv x.fz1)/\wx.cell? ⟨b,5,none⟩=some (zv x.aq)/\wx.cell? ⟨b,6,none⟩=some (zv x.dep)/\wx.cell? ⟨b,7,none⟩=some (zv x.arr)/\wx.cell? ⟨b,8,none⟩=some (.bool x.stay)/\wx.cell? ⟨g,f+i*4,none⟩=some (.string s0)/\wx.cell? ⟨g,f+k*4,none⟩=some (.string s1)/\b<wx.heap.size/\Below wr.heap.size wr wx
theorem ku.c8{wr w1 w2:World}{B b:Nat}{v0 v2 jv:Value}{x:eG}{g f i k:Nat}{s0 s1:ByteArray}(hb:Below w1.heap.size w1 w2)(hB:B+1<wr.heap.size)(hG:g<wr.heap.size)(h:ku wr B b v0 v2 jv x g f i k s0 s1 w1):ku wr B b v0 v2 jv x g f i k s0 s1 w2:=by
 obtain⟨q0,q1,q2,q3,q4,q5,q6,q7,q8,q9,q10,q11,hs,hw⟩:=h
 have hz:=hw.size
 have h0:B<w1.heap.size:=by omega
 have h1:B+1<w1.heap.size:=by omega
 have hg:g<w1.heap.size:=by omega
 exact⟨aG hb h0 q0,aG hb h0 q1,aG hb h1 q2,aG hb hs q3,aG hb hs q4,aG hb hs q5,aG hb hs q6,aG hb hs q7,aG hb hs q8,aG hb hs q9,aG hb hg q10,aG hb hg q11,Nat.lt_of_lt_of_le hs hb.size,hw.trans (hb.mono hz)⟩
abbrev vY(wr:World)(B b:Nat)(v0 v2 jv:Value)(x:eG)(g f i k:Nat)(s0 s1:ByteArray)(g2 f2 r:Nat)(y:gO)(ca:Option Addr)(cc:Nat)(wx:World):Prop:=
 wx.cell? ⟨B,0,none⟩=some v0/\wx.cell? ⟨B,2,none⟩=some v2/\wx.cell? ⟨B+1,0,none⟩=some jv/\wx.cell? ⟨b,0,none⟩=some (.bool x.df)/\wx.cell? ⟨b,1,none⟩=some (zv x.run)/\wx.cell? ⟨b,4,none⟩=some (zv x.fz1)/\wx.cell? ⟨b,5,none⟩=some (zv x.aq)/\wx.cell? ⟨b,6,none⟩=some (zv x.dep)/\wx.cell? ⟨b,7,none⟩=some (zv x.arr)/\wx.cell? ⟨b,8,none⟩=some (.bool x.stay)/\wx.cell? ⟨g,f+i*4,none⟩=some (.string s0)/\wx.cell? ⟨g,f+k*4,none⟩=some (.string s1)/\wx.cell? ⟨g2,f2+r*8,none⟩=some (zv y.oC)/\wx.cell? ⟨g2,f2+r*8+1,none⟩=some (zv y.day)/\wx.cell? ⟨g2,f2+r*8+2,none⟩=some (zv y.inst)/\wx.cell? ⟨g2,f2+r*8+3,none⟩=some (.string y.id)/\wx.cell? ⟨g2,f2+r*8+4,none⟩=some (zv y.gE)/\wx.cell? ⟨g2,f2+r*8+5,none⟩=some (.bool y.sf)/\wx.cell? ⟨g2,f2+r*8+6,none⟩=some (.bool y.cancelled)/\wx.cell? ⟨g2,f2+r*8+7,none⟩=some (.slice ca y.calls.length cc)/\b<wx.heap.size/\Below wr.heap.size wr wx
theorem vY.c8{wr w1 w2:World}{B b:Nat}{v0 v2 jv:Value}{x:eG}{g f i k:Nat}{s0 s1:ByteArray}{g2 f2 r:Nat}{y:gO}{ca:Option Addr}{cc:Nat}(hb:Below w1.heap.size w1 w2)(hB:B+1<wr.heap.size)(hG:g<wr.heap.size)(hR:g2<wr.heap.size)(h:vY wr B b v0 v2 jv x g f i k s0 s1 g2 f2 r y ca cc w1):vY wr B b v0 v2 jv x g f i k s0 s1 g2 f2 r y ca cc w2:=by
 obtain⟨q0,q1,q2,q3,q4,q5,q6,q7,q8,q9,q10,q11,q12,q13,q14,q15,q16,q17,q18,q19,hs,hw⟩:=h
 have hz:=hw.size
 have h0:B<w1.heap.size:=by omega
 have h1:B+1<w1.heap.size:=by omega
 have hg:g<w1.heap.size:=by omega
 have hr:g2<w1.heap.size:=by omega
 exact⟨aG hb h0 q0,aG hb h0 q1,aG hb h1 q2,aG hb hs q3,aG hb hs q4,aG hb hs q5,aG hb hs q6,aG hb hs q7,aG hb hs q8,aG hb hs q9,aG hb hg q10,aG hb hg q11,aG hb hr q12,aG hb hr q13,aG hb hr q14,aG hb hr q15,aG hb hr q16,aG hb hr q17,aG hb hr q18,aG hb hr q19,Nat.lt_of_lt_of_le hs hb.size,hw.trans (hb.mono hz)⟩
end Go.Proofs.Nw
