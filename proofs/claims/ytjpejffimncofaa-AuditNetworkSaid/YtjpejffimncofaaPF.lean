/-
  A part of the proof: lemmas of my own.
-/
import Derived.Test.YtjpejffimncofaaPE
import Derived.ProofKit
import Derived.ChangeMaps
import Derived.KernelRfl
import Derived.Test.YtjpejffimncofaaProg
set_option linter.unusedVariables false
set_option linter.unusedSimpArgs false
namespace Go.Proofs.Nw
open Go Go.AV Go.jm
set_option maxHeartbeats 1000000
set_option maxRecDepth 100000
def KN(x y:ae):Prop:=x.from_<y.from_\/(x.from_=y.from_/\(x.ax<y.ax\/(x.ax=y.ax/\x.aI<y.aI)))
theorem L7{x y:ae}(h:KN x y):decide (qR y.from_ y.ax y.aI x.from_ x.ax x.aI<0)=false:=by
 rw[decide_eq_false_iff_not]
 unfold qR JO A3
 unfold KN at h
 (repeat' split)<;>omega
theorem Ow{C:List ae}(h:C.Pairwise KN):oX C:=fun i j x y hij hx hy=>by
 obtain⟨h1,e1⟩:=List.getElem?_eq_some_iff.1 hx
 obtain⟨h2,e2⟩:=List.getElem?_eq_some_iff.1 hy
 have:=List.pairwise_iff_getElem.1 h i j h1 h2 hij
 rw[e1,e2] at this
 exact L7 this
theorem Kh{M F:Nat->Nat->Int}{i j:Nat}{L:List ae}(h:L.Pairwise KN)(hb: ∀p∈L,p.from_<(i:Int)\/(p.from_=(i:Int)/\p.ax<(j:Int))):
 (eh M F i L j).Pairwise KN/\ ∀p∈eh M F i L j,p.from_<(i:Int)\/(p.from_=(i:Int)/\p.ax<((j+1:Nat):Int)):=by
 have lt1: ∀p∈L,∀s b,KN p ⟨i,j,s,b⟩:=fun p hp s b=>by
  rcases hb p hp with q|⟨q1,q2⟩
  ·exact .inl q
  ·exact .inr ⟨q1, .inl q2⟩
 have up: ∀p∈L,p.from_<(i:Int)\/(p.from_=(i:Int)/\p.ax<((j+1:Nat):Int)):=fun p hp=>by
  rcases hb p hp with q|⟨q1,q2⟩
  ·exact .inl q
  ·exact .inr ⟨q1,by omega⟩
 have new: ∀s b,(⟨i,j,s,b⟩:ae).from_<(i:Int)\/((⟨i,j,s,b⟩:ae).from_=(i:Int)/\(⟨i,j,s,b⟩:ae).ax<((j+1:Nat):Int)):=fun s b=> .inr ⟨rfl,by show(j:Int)<_;omega⟩
 unfold eh
 split
 ·exact⟨h,up⟩
 ·split
  ·rename_i hlt
   refine⟨?_,fun p hp=>?_⟩
   ·rw[List.append_assoc,List.pairwise_append]
    refine⟨h,?_,fun a ha b hb2=>?_⟩
    ·simp only[List.cons_append,List.nil_append,List.pairwise_cons,List.mem_cons,List.not_mem_nil,or_false,forall_eq,false_implies,implies_true,List.Pairwise.nil,and_true]
     exact .inr ⟨rfl, .inr ⟨rfl,hlt.1⟩⟩
    ·simp only[List.cons_append,List.nil_append,List.mem_cons,List.not_mem_nil,or_false] at hb2
     rcases hb2 with rfl|rfl
     ·exact lt1 a ha _ _
     ·exact lt1 a ha _ _
   ·simp only[List.mem_append,List.mem_cons,List.not_mem_nil,or_false] at hp
    rcases hp with (hp|rfl)|rfl
    ·exact up p hp
    ·exact new _ _
    ·exact new _ _
  ·refine⟨?_,fun p hp=>?_⟩
   ·rw[List.pairwise_append]
    refine⟨h,by simp,fun a ha b hb2=>?_⟩
    simp only[List.mem_cons,List.not_mem_nil,or_false] at hb2
    subst hb2
    exact lt1 a ha _ _
   ·simp only[List.mem_append,List.mem_cons,List.not_mem_nil,or_false] at hp
    rcases hp with hp|rfl
    ·exact up p hp
    ·exact new _ _
theorem GS{M F:Nat->Nat->Int}{i:Nat}{L:List ae}(h:L.Pairwise KN)(hb: ∀p∈L,p.from_<(i:Int)): ∀m,(bT M F i L m).Pairwise KN/\ ∀p∈bT M F i L m,p.from_<(i:Int)\/(p.from_=(i:Int)/\p.ax<(m:Int))
 |0=>⟨h,fun p hp=> .inl (hb p hp)⟩
 |m+1=>by
  obtain⟨h1,h2⟩:=GS h hb m
  rw[jX]
  exact Kh h1 h2
theorem Jo{M F:Nat->Nat->Int}{n:Nat}: ∀m,(cg M F n m).Pairwise KN/\ ∀p∈cg M F n m,p.from_<(m:Int)
 |0=>⟨List.Pairwise.nil,fun p hp=>by cases hp⟩
 |m+1=>by
  obtain⟨h1,h2⟩:=Jo m
  obtain⟨h3,h4⟩:=GS (M:=M) (F:=F) h1 h2 n
  rw[iJ]
  exact⟨h3,fun p hp=>by rcases h4 p hp with q|⟨q,_⟩<;>omega⟩
theorem GJ(n:Nat)(l:List ae):oX (im n l):=by
 obtain⟨M,F,h⟩:=Af n l
 rw[←mX h]
 exact Ow (Jo n).1
theorem zA(n:Nat)(hn:n<=64)(l:List ae):kE (im n l):=by
 refine v9 (GJ n l) ?_
 obtain⟨M,F,h⟩:=Af n l
 rw[←mX h]
 have h1:=tH M F n n
 have h2:n*(2*n)<=64*(2*64):=Nat.mul_le_mul hn (by omega)
 omega
theorem BW:kE []:=v9 (fun i j x y _ h=>by cases h) (by decide)
section
variable{z:T aa}{zn:Nat}
theorem I5(hz:an z zn)(N:aA)(hn:N.ns<=64)(l:List ae)(hN:N.np=l.length)(hll:l.length<=10000)(hnet: ∀σ:bd,aE (aq σ []) (N.cu N.p1)=some (N.cu N.p1))(hL:cy z 4 (l.map ae.row))(r:Int × Int × Int)
 (hr:r=if (aY N.ns l).2≠0 then (4,aY N.ns l) else if im N.ns l=l then (0,0,0) else (4,0,18)):
 A1 z zn 18 [.agg ⟨N.ir N.p1⟩] [] 0 0 (.agg ⟨[zv r.1,zv r.2.1,zv r.2.2]⟩) []:=
 I6 hz N hn l hN hll hnet hL (fun _=>zA N.ns hn l) r hr
theorem FM(hz:an z zn)(N:aA)(hn:N.ns<=64)(hnet: ∀σ:bd,aE (aq σ []) (N.cu aw)=some (N.cu aw)):
 A1 z zn 18 [.agg ⟨N.ir aw⟩] [] 0 0 (.agg ⟨[zv 0,zv 0,zv 0]⟩) []:=FN hz N hn hnet BW
end
end Go.Proofs.Nw
namespace Go.Proofs.Nw
open Go Go.AV
set_option maxHeartbeats 1000000
set_option maxRecDepth 100000
structure fL where
 stops:List bS
 fX:List bm
 runs:List RunT
 bE:List aC
 paths:List ae
 jb:List bP
structure eS(z:T aa)(N:aA)(D:fL):Prop where
 s:zp 2 N.sa N.ns N.sc D.stops.length
 r:zp 3 N.ra N.nr N.rc D.fX.length
 u:zp 1 N.ua N.nu N.uc D.runs.length
 l:zp 0 N.la N.nl N.lc D.bE.length
 p:zp 4 N.pa N.np N.pc D.paths.length
 f:zp 5 N.fa N.nf N.fc D.jb.length
 ts:cy z 2 (D.stops.map bS.row)
 tr:cy z 3 (D.fX.map bm.row)
 tu:ql z D.runs
 tl:cy z 0 (D.bE.map aC.row)
 tp:cy z 4 (D.paths.map ae.row)
 tf:cy z 5 (D.jb.map bP.row)
theorem fo{k:Nat}{a:Option Addr}{n c len:Nat}(h:zp k a n c len)(σ:bd):aO (aq σ []) (.slice a n c)=some (.slice a n c):=by
 rcases h with ⟨rfl,rfl,rfl,_⟩|⟨rfl,rfl⟩
 ·rfl
 ·exact aT σ k _ _
theorem dM{k:Nat}{a:Option Addr}{n c len:Nat}(h:zp k a n c len)(σ:bd):aO (sig σ) (.slice a n c)=some (.slice a n c):=by
 rcases h with ⟨rfl,rfl,rfl,_⟩|⟨rfl,rfl⟩
 ·rfl
 ·have:sig σ (256*k+510)=some (256*k+510):=by
   unfold sig
   rw[Nat.ble_eq_true_of_le (by unfold cP;omega)]
  simp only[aO,this]
section
variable{z:T aa}{zn:Nat}{N:aA}{D:fL}
theorem eS.PC(h:eS z N D)(σ:bd):bh (aq σ []) N.cells=some N.cells:=by
 have e: ∀x:Int,aO (aq σ []) (zv x)=some (zv x):=fun _=>rfl
 simp only[bh,fo h.s,fo h.r,fo h.u,fo h.l,fo h.p,fo h.f,e]
theorem eS.yx(h:eS z N D)(σ:bd):bh (sig σ) N.cells=some N.cells:=by
 have e: ∀x:Int,aO (sig σ) (zv x)=some (zv x):=fun _=>rfl
 simp only[bh,dM h.s,dM h.r,dM h.u,dM h.l,dM h.p,dM h.f,e]
theorem eS.box(h:eS z N D)(σ:bd):aE (aq σ []) N.box=some N.box:=by
 simp only[aE,h.PC]
theorem eS.val(h:eS z N D)(σ:bd):aO (sig σ) (.agg ⟨N.cells⟩)=some (.agg ⟨N.cells⟩):=by
 simp only[aO,h.yx]
theorem GN(hz:an z zn){a:Option Addr}{n c:Nat}{l:List bS}(h:zp 2 a n c l.length)(ht:cy z 2 (l.map bS.row)):
 A1 z zn 11 [.slice a n c] [] 0 0 (.tuple ⟨[zv (cR l).1,zv (cR l).2]⟩) []/\A1 z zn 32 [.slice a n c] [] 0 0 (.tuple ⟨[zv (cR l).1,zv (cR l).2]⟩) []:=by
 rcases h with ⟨rfl,rfl,rfl,h⟩|⟨rfl,rfl⟩
 ·have:=List.length_eq_zero_iff.1 h
  subst this
  exact⟨Ma hz (fZ z),FD hz (fZ z)⟩
 ·exact⟨PD hz (fZ z) l c ht,IU hz (fZ z) l c ht⟩
theorem Dc(hz:an z zn){a:Option Addr}{n c:Nat}{l:List bm}(h:zp 3 a n c l.length)(ht:cy z 3 (l.map bm.row)):
 A1 z zn 12 [.slice a n c] [] 0 0 (.tuple ⟨[zv (cF l).1,zv (cF l).2]⟩) []/\A1 z zn 33 [.slice a n c] [] 0 0 (.tuple ⟨[zv (cF l).1,zv (cF l).2]⟩) []:=by
 rcases h with ⟨rfl,rfl,rfl,h⟩|⟨rfl,rfl⟩
 ·have:=List.length_eq_zero_iff.1 h
  subst this
  exact⟨IX hz (fZ z),CL hz (fZ z)⟩
 ·exact⟨Mf hz (fZ z) l c ht,FF hz (fZ z) l c ht⟩
theorem GP(hz:an z zn){a:Option Addr}{n c:Nat}{l:List bP}(h:zp 5 a n c l.length)(ht:cy z 5 (l.map bP.row))(d w cc:Int):
 A1 z zn 17 [.agg ⟨[.slice a n c,zv d,zv w,zv cc]⟩] [] 0 0 (.tuple ⟨[zv (bM d w cc l).1,zv (bM d w cc l).2]⟩) []/\A1 z zn 37 [.agg ⟨[.slice a n c,zv d,zv w,zv cc]⟩] [] 0 0 (.tuple ⟨[zv (bM d w cc l).1,zv (bM d w cc l).2]⟩) []:=by
 rcases h with ⟨rfl,rfl,rfl,h⟩|⟨rfl,rfl⟩
 ·have:=List.length_eq_zero_iff.1 h
  subst this
  exact⟨Ml hz (fZ z) d w cc,FI hz (fZ z) d w cc⟩
 ·exact⟨PJ hz (fZ z) l c ht d w cc,I0 hz (fZ z) l c ht d w cc⟩
theorem Me(hz:an z zn)(N:aA)(hnet: ∀σ:bd,aE (aq σ []) (N.cx aw N.l0)=some (N.cx aw N.l0)):
 A1 z zn 15 [.agg ⟨N.ey aw N.l0⟩] [] 0 0 (.agg ⟨[I 0,I 0,I 0]⟩) []:=by
 have hL:ai Try.prog (ah (ag Try.f15) 0) 3 96 ET [(0,N.cx aw N.l0),(1,df 0 0 0),(2,bB [])] 3 z zn (Al.R (VO z zn N).l):=by
  refine ak hD (fZ z) (α:=Unit) 3 96 3 (fun i=>True) (fun i=>ET) (fun i=>[(0,N.cx aw N.l0),(1,df 0 0 0),(2,bB [])]) (fun _=>z) (fun _=>zn) (fun i=>0) _ (fun i hI=>?_) () trivial
  refine t100 (ruz z zn N (aj _ _ _ _ _ _ _ _ _) ?_)
  (repeat' first|(with_reducible first|exact rfl|exact True.intro|assumption|apply And.intro|exact hz|exact hnet _)|exact(rfl:Int.ofNat _=_)|exact hz|exact hnet _|intro hq)
  all_goals first|exact bJ trivial|trace_state
 refine bt (fZ z) (fn:=Try.f15) (by kernel_rfl) (by kernel_rfl) hz ⟨by decide,by decide⟩ rfl (fuz z zn N _ ?_)
 (repeat' first|(with_reducible first|exact rfl|exact True.intro|assumption|apply And.intro|exact hz|exact hL|exact hnet _|exact q1)|exact(rfl:Int.ofNat _=_)|exact hz|exact hL|exact hnet _|exact q1|intro hq)
theorem OD(hz:an z zn)(h:eS z N D):
 A1 z zn 15 [.agg ⟨N.cells⟩] [] 0 0 (.agg ⟨[zv (if (cK N.ns N.nr D.runs).2=0 then 0 else 2),zv (cK N.ns N.nr D.runs).1,zv (cK N.ns N.nr D.runs).2]⟩) []:=by
 obtain⟨sa,ns,sc,ra,nr,rc,ua,nu,uc,la,nl,lc,pa,np,pc,fa,nf,fc,d,w,c⟩:=N
 have hb:=h.box
 rcases h.u with ⟨h1,h2,h3,h4⟩|⟨h1,h2⟩<;>simp only at h1 h2
 ·simp only at h3
  subst h1 h2 h3
  rw[List.length_eq_zero_iff.1 h4]
  exact Me hz _ hb
 ·subst h1 h2
  exact PG hz (fZ z) _ D.runs rfl h.tu hb
theorem OE(hz:an z zn)(h:eS z N D)(hl:D.runs.length<100000)(i:Nat)(hi:i<N.nu):
 A1 z zn 34 [.agg ⟨N.cells⟩,iv i] [] 0 0 (zv ((dp N.ns N.nr D.runs i).getD 0)) []:=by
 obtain⟨sa,ns,sc,ra,nr,rc,ua,nu,uc,la,nl,lc,pa,np,pc,fa,nf,fc,d,w,c⟩:=N
 have hb:=h.box
 rcases h.u with ⟨h1,h2,h3,h4⟩|⟨h1,h2⟩<;>simp only at h1 h2
 ·simp only at hi;omega
 ·subst h1 h2
  exact PH hz (fZ z) _ D.runs hl rfl h.tu hb i hi
theorem Ko(hz:an z zn)(h:eS z N D)(hU:nh D.runs):
 A1 z zn 16 [.agg ⟨N.cells⟩] [] 0 0 (.agg ⟨[zv (if (bK D.runs D.bE).2=0 then 0 else 3),zv (bK D.runs D.bE).1,zv (bK D.runs D.bE).2]⟩) []:=by
 obtain⟨sa,ns,sc,ra,nr,rc,ua,nu,uc,la,nl,lc,pa,np,pc,fa,nf,fc,d,w,c⟩:=N
 have hb:=h.box
 rcases h.l with ⟨k1,k2,k3,k4⟩|⟨k1,k2⟩<;>simp only at k1 k2
 ·simp only at k3
  subst k1 k2 k3
  rw[List.length_eq_zero_iff.1 k4]
  exact I7 hz (fZ z) _ hb
 ·subst k1 k2
  rcases h.u with ⟨h1,h2,h3,h4⟩|⟨h1,h2⟩<;>simp only at h1 h2
  ·simp only at h3
   subst h1 h2 h3
   rw[List.length_eq_zero_iff.1 h4]
   exact I8 hz (fZ z) _ D.bE rfl h.tl hb
  ·subst h1 h2
   exact Mn hz (fZ z) _ D.runs D.bE rfl rfl h.tl h.tu hU hb
theorem Km(hz:an z zn)(h:eS z N D)(hU:nh D.runs)(hl:D.bE.length<100000)(i:Nat)(hi:i<N.nl):
 A1 z zn 35 [.agg ⟨N.cells⟩,iv i] [] 0 0 (zv ((eV D.runs D.bE i).getD 0)) []:=by
 obtain⟨sa,ns,sc,ra,nr,rc,ua,nu,uc,la,nl,lc,pa,np,pc,fa,nf,fc,d,w,c⟩:=N
 have hb:=h.box
 have hv:=h.val []
 rcases h.l with ⟨k1,k2,k3,k4⟩|⟨k1,k2⟩<;>simp only at k1 k2
 ·simp only at hi;omega
 ·subst k1 k2
  obtain⟨x,hx⟩:=ej hi
  have e:(eV D.runs D.bE i).getD 0=hX D.runs D.bE i x:=by
   unfold eV
   rw[hx]
   simp only
   split
   ·rename_i h0;rw[h0];rfl
   ·rfl
  rw[e]
  rcases h.u with ⟨h1,h2,h3,h4⟩|⟨h1,h2⟩<;>simp only at h1 h2
  ·simp only at h3
   subst h1 h2 h3
   rw[List.length_eq_zero_iff.1 h4]
   exact IY hz (fZ z) _ D.bE rfl h.tl i x hx
  ·subst h1 h2
   exact Mg hz (fZ z) _ D.runs D.bE hl rfl rfl h.tl h.tu hU hb (lJ hv rfl) i x hx
noncomputable def fW(n:Nat)(l:List ae):Int × Int:=by
 classical
 exact if (aY n l).2≠0 then aY n l else if im n l=l then (0,0) else (0,18)
theorem pY(n:Nat)(l:List ae)[Decidable (im n l=l)]:fW n l=if (aY n l).2≠0 then aY n l else if im n l=l then (0,0) else (0,18):=by
 unfold fW
 congr
theorem Kn(hz:an z zn)(h:eS z N D)(hn:N.ns<=64)(hll:D.paths.length<=10000):
 A1 z zn 18 [.agg ⟨N.cells⟩] [] 0 0 (.agg ⟨[zv (if (fW N.ns D.paths).2=0 then 0 else 4),zv (fW N.ns D.paths).1,zv (fW N.ns D.paths).2]⟩) []:=by
 classical
 obtain⟨sa,ns,sc,ra,nr,rc,ua,nu,uc,la,nl,lc,pa,np,pc,fa,nf,fc,d,w,c⟩:=N
 have hb:=h.box
 rcases h.p with ⟨k1,k2,k3,k4⟩|⟨k1,k2⟩<;>simp only at k1 k2
 ·simp only at k3 hn
  subst k1 k2 k3
  rw[List.length_eq_zero_iff.1 k4]
  have e:fW ns []=(0,0):=by rw[pY,if_neg (by simp[aY,scan]),if_pos (uL _)]
  show A1 z zn _ _ [] 0 0 (.agg ⟨[zv (if (fW ns []).2=0 then 0 else 4),zv (fW ns []).1,zv (fW ns []).2]⟩) []
  rw[e]
  exact FM hz _ hn hb
 ·subst k1 k2
  refine I5 hz _ hn D.paths rfl hll hb h.tp (if (fW ns D.paths).2=0 then 0 else 4,(fW ns D.paths).1,(fW ns D.paths).2) ?_
  rw[pY]
  show _=if (aY ns D.paths).2≠0 then (4,aY ns D.paths) else if im ns D.paths=D.paths then (0,0,0) else (4,0,18)
  by_cases h1:(aY ns D.paths).2=0<;>by_cases h2:im ns D.paths=D.paths<;>simp[h1,h2]
theorem GO(hz:an z zn)(h5:5<=zn)(h:eS z N D)(hn:N.ns<=64)(hll:D.paths.length<=10000):
 A1 z zn 36 [.agg ⟨N.cells⟩] [] 0 0 (.tuple ⟨[zv (fW N.ns D.paths).1,zv (fW N.ns D.paths).2]⟩) []:=by
 classical
 obtain⟨sa,ns,sc,ra,nr,rc,ua,nu,uc,la,nl,lc,pa,np,pc,fa,nf,fc,d,w,c⟩:=N
 have hb:=h.box
 rcases h.p with ⟨k1,k2,k3,k4⟩|⟨k1,k2⟩<;>simp only at k1 k2
 ·simp only at k3 hn
  subst k1 k2 k3
  rw[List.length_eq_zero_iff.1 k4]
  have e:fW ns []=(0,0):=by rw[pY,if_neg (by simp[aY,scan]),if_pos (uL _)]
  show A1 z zn _ _ [] 0 0 (.tuple ⟨[zv (fW ns []).1,zv (fW ns []).2]⟩) []
  rw[e]
  exact FG hz h5 _ hn hb
 ·subst k1 k2
  exact IW hz h5 _ hn D.paths rfl hll hb h.tp (fW ns D.paths) (pY _ _)
noncomputable def aP(N:aA)(D:fL):Int × Int × Int:=iq (cR D.stops) (cF D.fX) (2,cK N.ns N.nr D.runs) (3,bK D.runs D.bE) (4,fW N.ns D.paths) (bM N.d N.w N.c D.jb)
theorem yw(s r u k p f:Int × Int):iq s r (if u.2=0 then 0 else 2,u) (if k.2=0 then 0 else 3,k) (if p.2=0 then 0 else 4,p) f=iq s r (2,u) (3,k) (4,p) f:=by
 unfold iq
 by_cases h1:u.2=0<;>by_cases h2:k.2=0<;>by_cases h3:p.2=0<;>simp[h1,h2,h3]
theorem fm{k:Nat}{a:Option Addr}{n c len:Nat}(h:zp k a n c len):n=len:=by
 rcases h with ⟨_,rfl,_,rfl⟩|⟨_,rfl⟩<;>rfl
theorem C8{l:List bS}(h:(cR l).2=0):l.length<=64:=by
 unfold cR at h
 split at h
 ·cases h
 ·omega
theorem mF{f:Nat->Option Nat}{v:Value}(h:aO f v=some v):bh f [v]=some [v]:=by simp only[bh,h]
theorem uQ(hz:an z zn)(h:eS z N D)(hll:D.paths.length<=10000):
 A1 z zn 6 [.agg ⟨N.cells⟩] [] 0 0 (.tuple ⟨[zv (aP N D).1,zv (aP N D).2.1,zv (aP N D).2.2]⟩) []:=by
 have:=Mq hz (fZ z) N (cR D.stops) (cF D.fX) (if (cK N.ns N.nr D.runs).2=0 then 0 else 2,cK N.ns N.nr D.runs) (if (bK D.runs D.bE).2=0 then 0 else 3,bK D.runs D.bE) (if (fW N.ns D.paths).2=0 then 0 else 4,fW N.ns D.paths) (bM N.d N.w N.c D.jb)
  (mF (h.val [])) (mF (dM h.s _)) (mF (dM h.r _)) (mF (by
    have e: ∀x:Int,aO (sig []) (zv x)=some (zv x):=fun _=>rfl
    have e2:=dM h.f []
    have e3:bh (sig []) [.slice N.fa N.nf N.fc,zv N.d,zv N.w,zv N.c]=some [.slice N.fa N.nf N.fc,zv N.d,zv N.w,zv N.c]:=by simp only[bh,e2,e]
    show(match bh (sig []) [.slice N.fa N.nf N.fc,zv N.d,zv N.w,zv N.c] with|some m=>some (Value.agg ⟨m⟩)|none=>none)=_
    rw[e3]))
  (GN hz h.s h.ts).1 (Dc hz h.r h.tr).1 (fun _ _=>OD hz h) (fun _ _ hu=>Ko hz h (qA (ns:=N.ns) (nr:=N.nr) (by simpa using hu)))
  (fun hs _ _ _=>Kn hz h (by have:=fm h.s;have:=C8 hs;omega) hll) (GP hz h.f h.tf N.d N.w N.c).1
 rw[yw] at this
 exact this
theorem FK(hz:an z zn)(h5:5<=zn)(h:eS z N D)(hll:D.paths.length<=10000)(hul:D.runs.length<100000)(hkl:D.bE.length<100000):
 A1 z zn 21 [.agg ⟨N.cells⟩] [] 0 0 (.tuple ⟨[zv (aP N D).1,zv (aP N D).2.1,zv (aP N D).2.2]⟩) []:=by
 have hun:=fm h.u
 have hln:=fm h.l
 refine I1 hz (fZ z) N (cR D.stops) (cF D.fX) (fW N.ns D.paths) (bM N.d N.w N.c D.jb) (cK N.ns N.nr D.runs) (bK D.runs D.bE) (fun i=>(dp N.ns N.nr D.runs i).getD 0) (fun i=>(eV D.runs D.bE i).getD 0)
  h.box (h.val []) (mF (dM h.s _)) (mF (dM h.r _)) (mF (by
   have e: ∀x:Int,aO (sig []) (zv x)=some (zv x):=fun _=>rfl
   have e2:=dM h.f []
   have e3:bh (sig []) [.slice N.fa N.nf N.fc,zv N.d,zv N.w,zv N.c]=some [.slice N.fa N.nf N.fc,zv N.d,zv N.w,zv N.c]:=by simp only[bh,e2,e]
   show(match bh (sig []) [.slice N.fa N.nf N.fc,zv N.d,zv N.w,zv N.c] with|some m=>some (Value.agg ⟨m⟩)|none=>none)=_
   rw[e3]))
  (GN hz h.s h.ts).2 (Dc hz h.r h.tr).2 (fun _ _ i hi _=>OE hz h hul i hi) (by rw[hun];exact OF _ _ _) (fun _ _ hu i hi _=>Km hz h (qA (ns:=N.ns) (nr:=N.nr) hu) hkl i hi) (by rw[hln];exact Lz _ _)
  (fun hs _ _ _=>GO hz h5 h (by have:=fm h.s;have:=C8 hs;omega) hll) (GP hz h.f h.tf N.d N.w N.c).2
end
end Go.Proofs.Nw
namespace Go.Proofs.Nw
open Go Go.AV Go.RowKit
set_option maxRecDepth 100000
theorem Dd{α:Type}{row:α->List Value}{Q:α->Prop}: ∀{rows:List (List Value)},(∀r∈rows,∃x,r=row x/\Q x)-> ∃l:List α,rows=l.map row/\ ∀x∈l,Q x
 |[],_=>⟨[],rfl,fun x hx=>by cases hx⟩
 |r::rows,h=>by
  obtain⟨x,rfl,hx⟩:=h r (by simp)
  obtain⟨l,rfl,hl⟩:=Dd (rows:=rows) fun s hs=>h s (List.mem_cons_of_mem _ hs)
  exact⟨x::l,rfl,fun y hy=>by
   rcases List.mem_cons.1 hy with rfl|hy
   ·exact hx
   ·exact hl y hy⟩
structure jT where
 sv:Value
 rv:Value
 uv:Value
 lv:Value
 pv:Value
 fv:Value
 d:Int
 w:Int
 c:Int
 stops:List bS
 fX:List bm
 runs:List ni
 bE:List aC
 paths:List ae
 jb:List bP
def jT.cells(N:jT):List Value:=[N.sv,N.rv,N.uv,N.lv,N.pv,N.fv,zv N.d,zv N.w,zv N.c]
def nm(v:Value):Prop:= ∀a n c,v= .slice (some a) n c->a.spot=none
structure C0(w:World)(N:jT):Prop where
 stops:nU w N.sv 4 (N.stops.map bS.row)
 fX:nU w N.rv 3 (N.fX.map bm.row)
 runs:nU w N.uv 8 (N.runs.map fun r=>r.row r.cv)
 bE:nU w N.lv 5 (N.bE.map aC.row)
 paths:nU w N.pv 4 (N.paths.map ae.row)
 jb:nU w N.fv 6 (N.jb.map bP.row)
 calls: ∀r∈N.runs,nU w r.cv 5 (r.calls.map bk.row)
 zs: ∀x∈N.stops,x.id.size<=9223372036854775807
 zr: ∀x∈N.fX,x.id.size<=9223372036854775807
 zu: ∀x∈N.runs,x.id.size<=9223372036854775807
 zf: ∀x∈N.jb,x.id.size<=9223372036854775807
 ns:nm N.sv
 nr:nm N.rv
 nu:nm N.uv
 nl:nm N.lv
 np:nm N.pv
 nf:nm N.fv
section
variable{H:Type}{enc:TypeId × Value->H}{W:World}{base:Nat}
section
variable{P:Program}
theorem GR{r:List Value}(h:cO enc P W base [.s, .i .i64, .b, .i .i64] r): ∃x:bS,r=x.row/\x.id.size<=9223372036854775807:=by
 obtain⟨x0,l0,rfl,z0,h0⟩:=h.s
 obtain⟨x1,l1,rfl,_,h1⟩:=h0.i
 obtain⟨x2,l2,rfl,h2⟩:=h1.b
 obtain⟨x3,l3,rfl,_,h3⟩:=h2.i
 obtain rfl:=h3.e
 exact⟨⟨x0,x1,x2,x3⟩,rfl,z0⟩
theorem EC{r:List Value}(h:cO enc P W base [.s, .i .i64, .b] r): ∃x:bm,r=x.row/\x.id.size<=9223372036854775807:=by
 obtain⟨x0,l0,rfl,z0,h0⟩:=h.s
 obtain⟨x1,l1,rfl,_,h1⟩:=h0.i
 obtain⟨x2,l2,rfl,h2⟩:=h1.b
 obtain rfl:=h2.e
 exact⟨⟨x0,x1,x2⟩,rfl,z0⟩
theorem GU{r:List Value}(h:cO enc P W base [.s, .i .i64, .i .i64, .i .i64, .i .i64, .i .i64] r): ∃x:bP,r=x.row/\x.id.size<=9223372036854775807:=by
 obtain⟨x0,l0,rfl,z0,h0⟩:=h.s
 obtain⟨x1,l1,rfl,_,h1⟩:=h0.i
 obtain⟨x2,l2,rfl,_,h2⟩:=h1.i
 obtain⟨x3,l3,rfl,_,h3⟩:=h2.i
 obtain⟨x4,l4,rfl,_,h4⟩:=h3.i
 obtain⟨x5,l5,rfl,_,h5⟩:=h4.i
 obtain rfl:=h5.e
 exact⟨⟨x0,x1,x2,x3,x4,x5⟩,rfl,z0⟩
theorem GW{r:List Value}(h:cO enc P W base [.i .i64, .i .i64, .i .i64, .i .i64, .b] r): ∃x:aC,r=x.row/\True:=by
 obtain⟨x0,l0,rfl,_,h0⟩:=h.i
 obtain⟨x1,l1,rfl,_,h1⟩:=h0.i
 obtain⟨x2,l2,rfl,_,h2⟩:=h1.i
 obtain⟨x3,l3,rfl,_,h3⟩:=h2.i
 obtain⟨x4,l4,rfl,h4⟩:=h3.b
 obtain rfl:=h4.e
 exact⟨⟨x0,x1,x2,x3,x4⟩,rfl,trivial⟩
theorem GV{r:List Value}(h:cO enc P W base [.i .i64, .i .i64, .i .i64, .b] r): ∃x:ae,r=x.row/\True:=by
 obtain⟨x0,l0,rfl,_,h0⟩:=h.i
 obtain⟨x1,l1,rfl,_,h1⟩:=h0.i
 obtain⟨x2,l2,rfl,_,h2⟩:=h1.i
 obtain⟨x3,l3,rfl,h3⟩:=h2.b
 obtain rfl:=h3.e
 exact⟨⟨x0,x1,x2,x3⟩,rfl,trivial⟩
theorem GX{r:List Value}(h:cO enc P W base [.i .i64, .i .i64, .i .i64, .b, .b] r): ∃x:bk,r=x.row/\True:=by
 obtain⟨x0,l0,rfl,_,h0⟩:=h.i
 obtain⟨x1,l1,rfl,_,h1⟩:=h0.i
 obtain⟨x2,l2,rfl,_,h2⟩:=h1.i
 obtain⟨x3,l3,rfl,h3⟩:=h2.b
 obtain⟨x4,l4,rfl,h4⟩:=h3.b
 obtain rfl:=h4.e
 exact⟨⟨x0,x1,x2,x3,x4⟩,rfl,trivial⟩
theorem Kr{t:TypeId}{r:List Value}(h:cO enc P W base [.i .i64, .i .i64, .i .i64, .s, .i .i64, .b, .b, .sl t] r): ∃(a b c:Int)(d:ByteArray)(e:Int)(f g:Bool)(v:Value)(n:Nat)(y:DataW H × List MemPlace),r=[zv a,zv b,zv c, .string d,zv e, .bool f, .bool g,v]/\d.size<=9223372036854775807/\DataW.trod enc P W base (fun _=>true) true n t [v]=some y:=by
 obtain⟨x0,l0,rfl,_,h0⟩:=h.i
 obtain⟨x1,l1,rfl,_,h1⟩:=h0.i
 obtain⟨x2,l2,rfl,_,h2⟩:=h1.i
 obtain⟨x3,l3,rfl,z3,h3⟩:=h2.s
 obtain⟨x4,l4,rfl,_,h4⟩:=h3.i
 obtain⟨x5,l5,rfl,h5⟩:=h4.b
 obtain⟨x6,l6,rfl,h6⟩:=h5.b
 obtain⟨x7,l7,rfl,g7,h7⟩:=h6.sl
 obtain rfl:=h7.e
 obtain⟨n,y,hy⟩:=g7
 exact⟨_,_,_,_,_,_,_,_,n,y,rfl,z3,hy⟩
theorem Ks{t0 t1 t2 t3 t4 t5:TypeId}{r:List Value}(h:cO enc P W base [.sl t0, .sl t1, .sl t2, .sl t3, .sl t4, .sl t5, .i .i64, .i .i64, .i .i64] r): ∃(v0 v1 v2 v3 v4 v5:Value)(a b c:Int),r=[v0,v1,v2,v3,v4,v5,zv a,zv b,zv c]/\
 (∃n y,DataW.trod enc P W base (fun _=>true) true n t0 [v0]=some y)/\(∃n y,DataW.trod enc P W base (fun _=>true) true n t1 [v1]=some y)/\(∃n y,DataW.trod enc P W base (fun _=>true) true n t2 [v2]=some y)/\
 (∃n y,DataW.trod enc P W base (fun _=>true) true n t3 [v3]=some y)/\(∃n y,DataW.trod enc P W base (fun _=>true) true n t4 [v4]=some y)/\ ∃n y,DataW.trod enc P W base (fun _=>true) true n t5 [v5]=some y:=by
 obtain⟨x0,l0,rfl,g0,h0⟩:=h.sl
 obtain⟨x1,l1,rfl,g1,h1⟩:=h0.sl
 obtain⟨x2,l2,rfl,g2,h2⟩:=h1.sl
 obtain⟨x3,l3,rfl,g3,h3⟩:=h2.sl
 obtain⟨x4,l4,rfl,g4,h4⟩:=h3.sl
 obtain⟨x5,l5,rfl,g5,h5⟩:=h4.sl
 obtain⟨x6,l6,rfl,_,h6⟩:=h5.i
 obtain⟨x7,l7,rfl,_,h7⟩:=h6.i
 obtain⟨x8,l8,rfl,_,h8⟩:=h7.i
 obtain rfl:=h8.e
 exact⟨x0,x1,x2,x3,x4,x5,x6,x7,x8,rfl,g0,g1,g2,g3,g4,g5⟩
end
theorem Ng{t:TypeId}(h:(match Try.prog.underlying t with|some (.struct _)=>true|_=>false)=true): ∃fs,Try.prog.underlying t=some (.struct fs):=by
 split at h
 ·exact⟨_,by assumption⟩
 ·cases h
theorem oq{n:Nat}{t e:TypeId}{sz:Nat}{v:Value}{x:DataW H × List MemPlace}{sh:List Kd}{α:Type}{row:α->List Value}{Q:α->Prop}(ht:Try.prog.underlying t=some (.slice e))(hsz:Try.prog.cellsOf e=sz)(h0:0<sz)(hst:(match Try.prog.underlying e with|some (.struct _)=>true|_=>false)=true)(hsh:shapeOf Try.prog 5 e=some sh)(hl:sh.length=sz)(hrow: ∀r,cO enc Try.prog W base sh r-> ∃x,r=row x/\Q x)
 (h:DataW.trod enc Try.prog W base (fun _=>true) true n t [v]=some x): ∃l:List α,nU W v sz (l.map row)/\ ∀x∈l,Q x:=by
 obtain⟨rows,h1,h2⟩:=BX ht hsz h0 h
 obtain⟨fs,hfs⟩:=Ng hst
 obtain⟨l,rfl,hl⟩:=Dd (row:=row) (Q:=Q) (rows:=rows) fun r hr=>by
  obtain⟨_,m,y,hy⟩:=h2 r hr
  exact hrow r (zt hfs (by rw[hsz,hl]) hsh hy)
 exact⟨l,h1,hl⟩
theorem Kq{r:List Value}(h:cO enc Try.prog W base [.i .i64, .i .i64, .i .i64, .s, .i .i64, .b, .b, .sl 42] r): ∃x:ni,r=x.row x.cv/\(x.id.size<=9223372036854775807/\nU W x.cv 5 (x.calls.map bk.row)):=by
 obtain⟨a,b,c,d,e,f,g,v,n,y,rfl,hd,hy⟩:=Kr h
 ·obtain⟨l,h1,_⟩:=oq (sh:=[.i .i64, .i .i64, .i .i64, .b, .b]) (row:=bk.row) (e:=50) (sz:=5) (by kernel_rfl) (by kernel_rfl) (by decide) (by kernel_rfl) (by kernel_rfl) rfl (fun r hr=>GX hr) hy
  exact⟨⟨a,b,c,d,e,f,g,v,l⟩,rfl,hd,h1⟩
theorem KG{r:Reach}{b:Nat}{v0:Value}{n:Nat}{x:DataW H × List MemPlace}(hok:Value.okWide Try.prog W r b 31 v0)(h:DataW.trod enc Try.prog W base (fun _=>true) true n 31 v0.cells.toList=some x):
 ∃N:jT,v0= .agg ⟨N.cells⟩/\C0 W N:=by
 obtain⟨fs,hfs⟩: ∃fs,Try.prog.underlying 31=some (.struct fs):=Ng (by kernel_rfl)
 unfold Value.okWide at hok
 rw[hfs] at hok
 obtain⟨cs,rfl,hsz,ts,hts,_,hcell⟩:=hok
 have hcs:(Value.agg cs).cells.toList=cs.toList:=rfl
 rw[hcs] at h
 have hr:=zt (sh:=[.sl 22, .sl 23, .sl 24, .sl 25, .sl 26, .sl 27, .i .i64, .i .i64, .i .i64]) (fuel:=5) hfs (by kernel_rfl) (by kernel_rfl) h
 have hts':ts=[22,23,24,25,26,27,3,3,3]:=by
  have:Try.prog.cellTypes Try.prog.depth 31=some [22,23,24,25,26,27,3,3,3]:=by kernel_rfl
  rw[this] at hts;cases hts;rfl
 subst hts'
 obtain⟨l⟩:=cs
 obtain⟨sv,rv,uv,lv,pv,fv,d,e,f,rfl,⟨n0,y0,g0⟩,⟨n1,y1,g1⟩,⟨n2,y2,g2⟩,⟨n3,y3,g3⟩,⟨n4,y4,g4⟩,⟨n5,y5,g5⟩⟩:=Ks hr
 ·obtain⟨ls,s1,s2⟩:=oq (sh:=[.s, .i .i64, .b, .i .i64]) (row:=bS.row) (e:=46) (sz:=4) (by kernel_rfl) (by kernel_rfl) (by decide) (by kernel_rfl) (by kernel_rfl) rfl (fun r hr=>GR hr) g0
  obtain⟨lr,r1,r2⟩:=oq (sh:=[.s, .i .i64, .b]) (row:=bm.row) (e:=48) (sz:=3) (by kernel_rfl) (by kernel_rfl) (by decide) (by kernel_rfl) (by kernel_rfl) rfl (fun r hr=>EC hr) g1
  obtain⟨lu,u1,u2⟩:=oq (sh:=[.i .i64, .i .i64, .i .i64, .s, .i .i64, .b, .b, .sl 42]) (row:=fun x:ni=>x.row x.cv) (e:=44) (sz:=8) (by kernel_rfl) (by kernel_rfl) (by decide) (by kernel_rfl) (by kernel_rfl) rfl (fun r hr=>Kq hr) g2
  obtain⟨ll,l1,_⟩:=oq (sh:=[.i .i64, .i .i64, .i .i64, .i .i64, .b]) (row:=aC.row) (e:=52) (sz:=5) (by kernel_rfl) (by kernel_rfl) (by decide) (by kernel_rfl) (by kernel_rfl) rfl (fun r hr=>GW hr) g3
  obtain⟨lp,p1,_⟩:=oq (sh:=[.i .i64, .i .i64, .i .i64, .b]) (row:=ae.row) (e:=89) (sz:=4) (by kernel_rfl) (by kernel_rfl) (by decide) (by kernel_rfl) (by kernel_rfl) rfl (fun r hr=>GV hr) g4
  obtain⟨lf,f1,f2⟩:=oq (sh:=[.s, .i .i64, .i .i64, .i .i64, .i .i64, .i .i64]) (row:=bP.row) (e:=86) (sz:=6) (by kernel_rfl) (by kernel_rfl) (by decide) (by kernel_rfl) (by kernel_rfl) rfl (fun r hr=>GU hr) g5
  have sp: ∀(i:Nat)(t e2:TypeId)(v:Value),[sv,rv,uv,lv,pv,fv,zv d,zv e,zv f][i]? =some v->[22,23,24,25,26,27,3,3,3][i % 9]? =some t->Try.prog.underlying t=some (.slice e2)->nm v:=fun i t e' v hv ht hu a n c hvv=>by
   subst hvv
   obtain⟨u,h1,h2⟩:=hcell i _ (by simpa using hv)
   have:u=t:=by
    have h3:[22,23,24,25,26,27,3,3,3][i % 9]? =some u:=h1
    rw[h3] at ht;cases ht;rfl
   subst this
   exact FB hu h2
  refine⟨⟨sv,rv,uv,lv,pv,fv,d,e,f,ls,lr,lu,ll,lp,lf⟩,rfl,s1,r1,u1,l1,p1,f1,fun r hr=>(u2 r hr).2,s2,r2,fun r hr=>(u2 r hr).1,f2,sp 0 _ 46 _ rfl rfl (by kernel_rfl),sp 1 _ 48 _ rfl rfl (by kernel_rfl),sp 2 _ 44 _ rfl rfl (by kernel_rfl),sp 3 _ 52 _ rfl rfl (by kernel_rfl),sp 4 _ 89 _ rfl rfl (by kernel_rfl),sp 5 _ 86 _ rfl rfl (by kernel_rfl)⟩
end
def ni.abs(j:Nat)(r:ni):RunT:=⟨⟨r.vB,r.day,r.inst,r.id,r.jB,r.sf,r.cancelled,vc (6+j) r.cv,u7 r.cv,u9 r.cv⟩,r.calls⟩
def jT.T(N:jT):fL:=⟨N.stops,N.fX,N.runs.mapIdx ni.abs,N.bE,N.paths,N.jb⟩
def jT.V(N:jT):aA:=⟨vc 2 N.sv,u7 N.sv,u9 N.sv,vc 3 N.rv,u7 N.rv,u9 N.rv,vc 1 N.uv,u7 N.uv,u9 N.uv,vc 0 N.lv,u7 N.lv,u9 N.lv,vc 4 N.pv,u7 N.pv,u9 N.pv,vc 5 N.fv,u7 N.fv,u9 N.fv,N.d,N.w,N.c⟩
def yO(N:jT):List (List Value):=(N.runs.mapIdx ni.abs).map fun r=>r.v.row
def jT.Gi(N:jT):JG
 |0=>jH N.lv (N.bE.map aC.row).flatten
 |1=>jH N.uv (yO N).flatten
 |2=>jH N.sv (N.stops.map bS.row).flatten
 |3=>jH N.rv (N.fX.map bm.row).flatten
 |4=>jH N.pv (N.paths.map ae.row).flatten
 |5=>jH N.fv (N.jb.map bP.row).flatten
 |j+6=>match N.runs[j]? with
  |some r=>jH r.cv (r.calls.map bk.row).flatten
  |none=>none
theorem xw{N:jT}{i:Nat}:(yO N)[i]? =(N.runs[i]?).map fun r=>(ni.abs i r).v.row:=by
 unfold yO
 rw[List.getElem?_map,List.getElem?_mapIdx,Option.map_map]
 rfl
theorem xv{N:jT}: ∀r∈yO N,r.length=8:=by
 intro r hr
 obtain⟨x,_,rfl⟩:=List.mem_map.1 hr
 rfl
theorem EK{l:List Value}(h:bH l=true){x:Value}(hx:x∈l):az x=true:=by
 induction l with
 |nil=>cases hx
 |cons v l ih=>
  simp only[bH] at h
  cases hv:az v with
  |false=>simp[hv] at h
  |true=>
   rw[hv] at h
   rcases List.mem_cons.1 hx with rfl|hx
   ·exact hv
   ·exact ih h hx
theorem qH{α:Type}{F:JG}(row:α->List Value)(l:List α)(hp: ∀x,bH (row x)=true):
 (∀(i:Nat)(r:List Value)(j:Nat)(x:Value),(l.map row)[i]? =some r->r[j]? =some x-> ∃r' x',(l.map row)[i]? =some r'/\r'[j]? =some x'/\VR (jU F) x x')/\ ∀σ,∀r∈l.map row,bh σ r=some r:=by
 refine⟨fun i r j x h1 h2=>⟨r,x,h1,h2,VR.bq ?_⟩,fun σ r hr=>?_⟩
 ·obtain⟨y,_,rfl⟩:=List.mem_map.1 (List.mem_of_getElem? h1)
  exact EK (hp y) (List.mem_of_getElem? h2)
 ·obtain⟨y,_,rfl⟩:=List.mem_map.1 hr
  exact fF (hp y)
section
variable{w:World}{N:jT}
theorem Hg(h:C0 w N):JF N.Gi (N.runs.length+6) w:=by
 intro k g o cs hF
 match k with
 |0=>
  obtain⟨h1,h2⟩:=qH (F:=N.Gi) aC.row N.bE (fun _=>rfl)
  exact lR h.bE (aM _ fun _=>rfl) h1 (fun σ _=>h2 σ) hF
 |1=>
  refine lR h.runs xv (fun i r j x h1 h2=>?_) (fun σ hσ r hr=>?_) hF
  ·rw[xw] at h1
   cases hc:N.runs[i]? with
   |none=>rw[hc] at h1;cases h1
   |some y=>
    rw[hc] at h1
    simp only[Option.map_some,Option.some.injEq] at h1
    subst h1
    have hy:=List.mem_of_getElem? hc
    refine⟨y.row y.cv,?_⟩
    rw[List.getElem?_map,hc]
    match j with
    |0=>cases h2;exact⟨_,rfl,rfl, .sc _ rfl⟩
    |1=>cases h2;exact⟨_,rfl,rfl, .sc _ rfl⟩
    |2=>cases h2;exact⟨_,rfl,rfl, .sc _ rfl⟩
    |3=>cases h2;exact⟨_,rfl,rfl, .sc _ rfl⟩
    |4=>cases h2;exact⟨_,rfl,rfl, .sc _ rfl⟩
    |5=>cases h2;exact⟨_,rfl,rfl, .sc _ rfl⟩
    |6=>cases h2;exact⟨_,rfl,rfl, .sc _ rfl⟩
    |7=>
     cases h2
     refine⟨_,rfl,rfl,l9 (h.calls y hy) (cs:=(y.calls.map bk.row).flatten) ?_⟩
     rw[Nat.add_comm 6 i]
     show(match N.runs[i]? with|some r=>jH r.cv (r.calls.map bk.row).flatten|none=>none)=_
     rw[hc]
    |j+8=>simp[ni.abs] at h2
  ·obtain⟨i,hi⟩:=List.mem_iff_getElem?.1 hr
   rw[xw] at hi
   cases hc:N.runs[i]? with
   |none=>rw[hc] at hi;cases hi
   |some y=>
    rw[hc] at hi
    simp only[Option.map_some,Option.some.injEq] at hi
    subst hi
    have hlt:=(List.getElem?_eq_some_iff.1 hc).1
    have:=Jr (k:=6+i) (h.calls y (List.mem_of_getElem? hc)) (fun _=>by omega) (by omega) hσ
    have e: ∀x:Int,aO σ (zv x)=some (zv x):=fun _=>rfl
    have e1: ∀s:ByteArray,aO σ (.string s)=some (.string s):=fun _=>rfl
    have e2: ∀s:Bool,aO σ (.bool s)=some (.bool s):=fun _=>rfl
    simp only[ni.abs,bh,e,e1,e2,this]
 |2=>
  obtain⟨h1,h2⟩:=qH (F:=N.Gi) bS.row N.stops (fun _=>rfl)
  exact lR h.stops (aM _ fun _=>rfl) h1 (fun σ _=>h2 σ) hF
 |3=>
  obtain⟨h1,h2⟩:=qH (F:=N.Gi) bm.row N.fX (fun _=>rfl)
  exact lR h.fX (aM _ fun _=>rfl) h1 (fun σ _=>h2 σ) hF
 |4=>
  obtain⟨h1,h2⟩:=qH (F:=N.Gi) ae.row N.paths (fun _=>rfl)
  exact lR h.paths (aM _ fun _=>rfl) h1 (fun σ _=>h2 σ) hF
 |5=>
  obtain⟨h1,h2⟩:=qH (F:=N.Gi) bP.row N.jb (fun _=>rfl)
  exact lR h.jb (aM _ fun _=>rfl) h1 (fun σ _=>h2 σ) hF
 |j+6=>
  have hF':(match N.runs[j]? with|some r=>jH r.cv (r.calls.map bk.row).flatten|none=>none)=some (g,o,some cs):=hF
  split at hF'
  ·rename_i r hr
   obtain⟨h1,h2⟩:=qH (F:=N.Gi) bk.row r.calls (fun _=>rfl)
   exact lR (h.calls r (List.mem_of_getElem? hr)) (aM _ fun _=>rfl) h1 (fun σ _=>h2 σ) hF'
  ·cases hF'
theorem Cd(N:jT): ∀k x,N.Gi k=some x->k<N.runs.length+6:=by
 intro k x h
 match k with
 |0|1|2|3|4|5=>omega
 |j+6=>
  have h':(match N.runs[j]? with|some r=>jH r.cv (r.calls.map bk.row).flatten|none=>none)=some x:=h
  split at h'
  ·rename_i r hr
   have:=(List.getElem?_eq_some_iff.1 hr).1
   omega
  ·cases h'
theorem qx{k sz:Nat}{v:Value}{rows:List (List Value)}{m:Nat}(h:nU w v sz rows)(hn:nm v)(hm:rows.length=m):zp k (vc k v) (u7 v) (u9 v) m:=by
 subst hm
 rcases h with ⟨rfl,rfl⟩|⟨⟨g,o,s,rfl⟩,rfl⟩|⟨g,o,c,rfl,_⟩
 ·exact .inl ⟨rfl,rfl,rfl,rfl⟩
 ·have:=hn _ _ _ rfl;cases this
 ·exact .inr ⟨rfl,rfl⟩
theorem OC{k sz:Nat}{v:Value}{rows:List (List Value)}{m:Nat}(h:nU w v sz rows)(hm:rows.length=m):Re k (vc k v) (u7 v) (u9 v) m:=by
 subst hm
 rcases h with ⟨rfl,rfl⟩|⟨⟨g,o,s,rfl⟩,rfl⟩|⟨g,o,c,rfl,_⟩
 ·exact .inl (.inl ⟨rfl,rfl,rfl,rfl⟩)
 ·exact .inr ⟨⟨g,o,s,rfl⟩,rfl,rfl,rfl⟩
 ·exact .inl (.inr ⟨rfl,rfl⟩)
theorem LP{sz:Nat}(hs:0<sz){rows:List (List Value)}(hl: ∀r∈rows,r.length=sz)(h:rows≠[]):rows.flatten≠[]:=by
 cases rows with
 |nil=>exact(h rfl).elim
 |cons r rows=>
  have:=hl r (by simp)
  cases r with
  |nil=>simp at this;omega
  |cons v r=>simp
theorem BU{F:JG}{z:T aa}{k sz:Nat}{v:Value}{rows ar:List (List Value)}(hg: ∀k g o cs,F k=some (g,o,some cs)-> ∃e,z.get k=some (.ay (bC e cs)))(h:nU w v sz rows)(hn:ar.length=rows.length)(hs:0<sz)(hl: ∀r∈ar,r.length=sz)
 (hF:F k=jH v ar.flatten) (hsz: ∀r∈ar,∀s:ByteArray,Value.string s∈r->s.size<=9223372036854775807):cy z k ar:=by
 refine⟨fun hne=>?_,hsz⟩
 have hr:rows≠[]:=fun e=>by rw[e] at hn;exact hne (List.length_eq_zero_iff.1 hn)
 rcases h with ⟨_,e⟩|⟨_,e⟩|⟨g,off,cap,rfl,_⟩
 ·exact(hr e).elim
 ·exact(hr e).elim
 ·have hf:=LP hs hl hne
  cases hc:ar.flatten with
  |nil=>exact(hf hc).elim
  |cons x l=>
   rw[hc] at hF
   exact hg k g off (x::l) hF
theorem OQ(h:C0 w N): ∃z,Qn z (jU N.Gi) w/\an z (N.runs.length+6)/\fM (jU N.Gi) (N.runs.length+6)/\eS z N.V N.T/\c9 (jU N.Gi) [.agg ⟨N.V.cells⟩] [.agg ⟨N.cells⟩]:=by
 obtain⟨z,h1,h2,h3,h4⟩:=Im N.Gi (N.runs.length+6) w (Cd N) (Hg h)
 have cc: ∀(j:Nat)(r:ni),N.runs[j]? =some r->cy z (6+j) (r.calls.map bk.row):=fun j r hr=>by
  refine BU h4 (h.calls r (List.mem_of_getElem? hr)) rfl (by decide) (aM _ fun _=>rfl) ?_ (fun r hr s hs=>?_)
  ·rw[Nat.add_comm 6 j]
   show(match N.runs[j]? with|some r=>jH r.cv (r.calls.map bk.row).flatten|none=>none)=_
   rw[hr]
  ·obtain⟨x,_,rfl⟩:=List.mem_map.1 hr
   simp at hs
 have gr: ∀(j:Nat)(r:RunT),(N.runs.mapIdx ni.abs)[j]? =some r-> ∃y,N.runs[j]? =some y/\r=ni.abs j y:=fun j r hr=>by
  rw[List.getElem?_mapIdx] at hr
  cases hc:N.runs[j]? with
  |none=>rw[hc] at hr;cases hr
  |some y=>rw[hc] at hr;cases hr;exact⟨y,rfl,rfl⟩
 refine⟨z,h1,h2,h3,?_,?_⟩
 ·exact {
   s:=qx h.stops h.ns (by simp[jT.T])
   r:=qx h.fX h.nr (by simp[jT.T])
   u:=qx h.runs h.nu (by simp[jT.T])
   l:=qx h.bE h.nl (by simp[jT.T])
   p:=qx h.paths h.np (by simp[jT.T])
   f:=qx h.jb h.nf (by simp[jT.T])
   ts:=BU h4 h.stops rfl (by decide) (aM _ fun _=>rfl) rfl (fun r hr s hs=>by
    obtain⟨x,hx,rfl⟩:=List.mem_map.1 hr
    have:=h.zs x hx
    simp at hs;subst hs;exact this)
   tr:=BU h4 h.fX rfl (by decide) (aM _ fun _=>rfl) rfl (fun r hr s hs=>by
    obtain⟨x,hx,rfl⟩:=List.mem_map.1 hr
    have:=h.zr x hx
    simp at hs;subst hs;exact this)
   tu:={
    JM:=BU h4 h.runs (by simp[jT.T]) (by decide) (xv (N:=N)) rfl (fun r hr s hs=>by
     obtain⟨x,hx,rfl⟩:=List.mem_map.1 hr
     obtain⟨i,hi⟩:=List.mem_iff_getElem?.1 hx
     obtain⟨y,hy,rfl⟩:=gr i x hi
     have:=h.zu y (List.mem_of_getElem? hy)
     simp[ni.abs] at hs;subst hs;exact this)
    sl:=fun j r hr=>by
     obtain⟨y,hy,rfl⟩:=gr j r hr
     exact OC (h.calls y (List.mem_of_getElem? hy)) (by simp[ni.abs])
    calls:=fun j r hr=>by
     obtain⟨y,hy,rfl⟩:=gr j r hr
     exact cc j y hy}
   tl:=BU h4 h.bE rfl (by decide) (aM _ fun _=>rfl) rfl (fun r hr s hs=>by
    obtain⟨x,hx,rfl⟩:=List.mem_map.1 hr
    simp at hs)
   tp:=BU h4 h.paths rfl (by decide) (aM _ fun _=>rfl) rfl (fun r hr s hs=>by
    obtain⟨x,hx,rfl⟩:=List.mem_map.1 hr
    simp at hs)
   tf:=BU h4 h.jb rfl (by decide) (aM _ fun _=>rfl) rfl (fun r hr s hs=>by
    obtain⟨x,hx,rfl⟩:=List.mem_map.1 hr
    have:=h.zf x hx
    simp at hs;subst hs;exact this)}
 ·exact .cons _ _ _ _ (.agg _ _ (.cons _ _ _ _ (l9 h.stops rfl) (.cons _ _ _ _ (l9 h.fX rfl) (.cons _ _ _ _ (l9 h.runs rfl) (.cons _ _ _ _ (l9 h.bE rfl) (.cons _ _ _ _ (l9 h.paths rfl) (.cons _ _ _ _ (l9 h.jb rfl)
   (.cons _ _ _ _ (.sc _ rfl) (.cons _ _ _ _ (.sc _ rfl) (.cons _ _ _ _ (.sc _ rfl) .nil)))))))))) .nil
end
end Go.Proofs.Nw
namespace Go.Proofs.Nw
open Go Go.AV
structure ff where
 kind:Int
 a:Int
 b:Int
 err:Int
abbrev ff.row(x:ff):List Value:=[zv x.kind,zv x.a,zv x.b,zv x.err]
abbrev oF(v:Value):aa:=nR 37 [v]
abbrev uE(cs:List Value)(n:Nat):aa:= .ay ⟨cs,n*4,4,41,false,false,0,true⟩
abbrev CS:Value:= .func (.func 31) #[] #[ip 0]
abbrev Ii:Value:= .func (.func 20) #[] #[ip 0]
abbrev q8(v:Value)(o:aa):bX:=[(0,oF v),(1,o)]
def yd(l:Value)(n i:Nat):Live:=[(0,CS),(1,ip 1),(27,l),(28,iv n),(29,iv i)]
def Sg(z:T aa)(zn:Nat)(N:aA)(φ:bg->Prop):e9:=⟨2,84,[],yd N.l0 N.nl 0,q8 aw N.box,2,none,
 .cons bg φ (fun s=>⟨.exit 0,[(0,CS),(1,ip 1)],q8 s.v N.box,2,s.z,s.zn⟩) (fun _=>dN) .nil⟩
def yc(l:Value)(n i:Nat):Live:=[(0,CS),(70,l),(71,iv n),(72,iv i)]
def Sf(N:aA)(φ:bg->bg->Prop)(s0:bg):e9:=⟨2,84,[],yc N.u0 N.nu 0,[(0,oF s0.v),(1,N.box)],2,some (s0.z,s0.zn),
 .cons bg (φ s0) (fun s=>⟨.exit 2,[],q8 s.v N.box,2,s.z,s.zn⟩) (fun _=>dN) .nil⟩
def vI(v l:Value)(n i:Nat):Live:=[(1,ip 0),(6,v),(25,l),(26,iv n),(27,iv i)]
def Sd(z:T aa)(zn:Nat)(N:aA)(φ:bg->Prop):e9:=⟨1,88,[],vI aw N.l0 N.nl 0,[(0,N.box)],1,none,
 .cons bg φ (fun s=>⟨.exit 0,[(1,ip 0),(6,s.v)],[(0,N.box)],1,s.z,s.zn⟩) (fun _=>dN) .nil⟩
def vH(v l:Value)(n i:Nat):Live:=[(1,ip 0),(6,v),(70,l),(71,iv n),(72,iv i)]
def Sc(N:aA)(φ:bg->bg->Prop)(s0:bg):e9:=⟨1,88,[],vH s0.v N.u0 N.nu 0,[(0,N.box)],1,some (s0.z,s0.zn),
 .cons bg (φ s0) (fun s=>⟨.exit 2,[(6,s.v)],[],1,s.z,s.zn⟩) (fun _=>dN) .nil⟩
def EU(a b n i:Nat):Live:=[(0,tb a n n),(1,tb b n n),(12,iv n),(13,iv i)]
def VP(z:T aa)(zn a b n:Nat):e9:=⟨0,26,[],EU a b n 0,[],0,none,alt True ⟨.exit 0,[],[],0,z,zn⟩ .nil⟩
def wE:Live:=[(12,iv 0),(13,iv 0)]
def RL(z:T aa)(zn:Nat):e9:=⟨0,26,[],wE,[],0,none,alt True ⟨.exit 0,[],[],0,z,zn⟩ .nil⟩
def Ci(n i:Nat):Live:=[(1,ip 0),(41,iv n),(42,iv i)]
def VX(z:T aa)(zn:Nat)(N:aA)(b:Bool):e9:=⟨1,54,[],Ci N.nu 0,[(0,N.box)],1,none,alt (b=false) ⟨.ret,[(2,F0)],[],1,z,zn⟩ (alt (b=true) ⟨.exit 0,[],[],1,z,zn⟩ .nil)⟩
end Go.Proofs.Nw
namespace Go.Proofs.Nw
open Go Go.AV
set_option maxRecDepth 1000000
noncomputable section
abbrev yX(x:ff):List Value:=[ZV x.kind,ZV x.a,ZV x.b,ZV x.err]
theorem Zj(z:T aa)(zn:Nat)(x:ff)(Q:QF)(hyp:E3 7 (Rf (ez z [(zn,3,BR (yX x) 4 4 41)])/\zn.le (zn+1)/\an z zn/\zn<=zn/\zn<zn+1/\Rs (BR (yX x) 4 4 41)/\aE (aq YC [(zn,3,BR (yX x) 4 4 41)]) (BQ [sO zn] 1 1 37)=some (BQ [SL 3 1 1] 1 1 37)/\kg/\Q kX [(0,BQ [sO zn] 1 1 37)] 1 (ez z [(zn,3,BR (yX x) 4 4 41)]) (zn+1))):FnT Try.prog mu fA Try.f31 [AG x.row,ip 0] z [(0,oF aw)] 1 zn Q:=⟨tA 4 (tR YC [(zn,3,BR (yX x) 4 4 41)] kX [(0,BQ [sO zn] 1 1 37)] 1 (ez z [(zn,3,BR (yX x) 4 4 41)]) (zn+1)),Eq.mp (by kernel_rfl) hyp⟩
theorem fa1(z:T aa)(zn k r:Nat)(kb:aZ)(x:ff)(Q:QF)(hyp:ia k/\iA z k kb/\kb.exact=false/\kb.own=true/\kb.bb=0/\kb.j7=4/\kb.elem=41/\Rs (yX x)/\Rf r/\kb.cells.length=r*4/\kb.cap=r*4/\r+1<=1048576/\E3 7 (Rf (ez (z.del k) [(zn,3,BR (kb.cells++yX x) ((r+1)*4) 4 41)])/\zn.le (zn+1)/\an (z.del k) zn/\zn<=zn/\zn<zn+1/\KO (aq YC [(zn,3,BR (kb.cells++yX x) ((r+1)*4) 4 41)]) (BR (kb.cells++yX x) ((r+1)*4) 4 41)/\aE (aq YC [(zn,3,BR (kb.cells++yX x) ((r+1)*4) 4 41)]) (BQ [CW zn r] 1 1 37)=some (BQ [SL 3 (r+1) (r+1)] 1 1 37)/\kg/\Q kX [(0,BQ [CW zn r] 1 1 37)] 1 (ez (z.del k) [(zn,3,BR (kb.cells++yX x) ((r+1)*4) 4 41)]) (zn+1))):FnT Try.prog mu fA Try.f31 [AG x.row,ip 0] z [(0,oF (tb k r r))] 1 zn Q:=⟨tA 2 (tX (kZ.Nf k kb 1 (yX x)) (tA 1 (tR YC [(zn,3,BR (kb.cells++yX x) ((r+1)*4) 4 41)] kX [(0,BQ [CW zn r] 1 1 37)] 1 (ez (z.del k) [(zn,3,BR (kb.cells++yX x) ((r+1)*4) 4 41)]) (zn+1)))),Eq.mp (by kernel_rfl) hyp⟩
abbrev W4(ka:aZ)(fc:Nat)(arr:Int):Prop:=aB Try.prog ka 3 (0+fc*5+1)=some (ZV arr)
abbrev W3(kb:aZ)(tc:Nat)(dep:Int):Prop:=aB Try.prog kb 3 (0+tc*5+2)=some (ZV dep)
abbrev nM(s0:bg):aa:=BQ [kD s0] 1 1 37
abbrev Qu:bg->List (Nat × aa):=fun(s:bg)=>[(0,oF s.v)]
abbrev S4(s0:bg):Prop:=KO (sig YC) (nM s0)
abbrev FZ:Value:=Value.func (Fn.func 31) ME (Array.mk [bA])
abbrev TG(N:aA)(i:Nat):List (Nat × Value):=[(0,FZ),(1,eW),(27,rQ N),(28,IV N.nl),(29,IV (i+1))]
abbrev TF:List (Nat × Value):=[(0,FZ),(1,eW)]
noncomputable abbrev W2:Code:=ah (ag Try.f20) 0
noncomputable abbrev YIs(i:Nat)(N:aA):bg->Tr:=fun(x:bg)=>tO (Ym i) (tE cY [] (TG N i) [(0,nM x),(1,me N)] 2 (dR x) x.zn)
theorem na1(z:T aa)(zn i:Nat)(N:aA)(x:aC)(f tn fc tc ma ca mb cb:Nat)(kl kr ka kb:aZ)(arr dep:Int)(s0:bg)(φ:bg->Prop)(Q:QL)(hyp:Br (decide ((↑i:Int)<(↑N.nl:Int))) (YU i/\i<N.nl/\F6/\F5 z kl/\MN kl i x/\x.from_=(↑f:Int)/\f<N.nu/\Bt/\Bs z kr/\J3 kr f ma ca/\x.fc=(↑fc:Int)/\fc<ma/\Gu f/\Gt z f ka/\W4 ka fc arr/\x.ax=(↑tn:Int)/\tn<N.nu/\Bt/\Bs z kr/\J3 kr tn mb cb/\x.tc=(↑tc:Int)/\tc<mb/\Gu tn/\Gt z tn kb/\W3 kb tc dep/\Br (decide (dep<arr)) (ZV (IntKind.i64.wrap (arr - dep))=ZV (arr - dep)/\aV Try.prog z zn 31 [AG [I 4,IV i,ZV (arr - dep),YM],bA] [(0,nM s0)] 1 1 φ vo Qu dR vd/\Rs [AG [I 4,IV i,ZV (arr - dep),YM],bA]/\S4 s0/\ ∀(x:bg),φ x->kg/\S4 x/\ZV (IntKind.i64.wrap ((↑i:Int)+1))=IV (i+1)/\E6 84 (dR x) x.zn (R5 FZ eW (rQ N) (IV N.nl) (IV (i+1)) (K2 jv (nM x) (me N) (Q aN (TG N i) [(0,nM x),(1,me N)] 2 (dR x) x.zn)))) (ZV (IntKind.i64.wrap ((↑i:Int)+1))=IV (i+1)/\E6 84 z zn (R5 FZ eW (rQ N) (IV N.nl) (IV (i+1)) (K2 jv (nM s0) (me N) (Q aN (TG N i) [(0,nM s0),(1,me N)] 2 z zn))))) (E6 84 z zn (R2 FZ eW (K2 jv (nM s0) (me N) (Q YO TF [(0,nM s0),(1,me N)] 2 z zn))))):RdT Try.prog mu fA W2 84 (yd N.l1 N.nl i) z (q8 s0.v (N.cx N.u1 N.l1)) 2 zn 2 Q:=⟨(tA 1 (tO (Yj i) (tO (MJ kl x) (tA 3 (tO (Yj f) (tO (J2 kr f ma ca) (tA 1 (tO (Yj fc) (tO (Gr f ka arr) (tA 2 (tO (Yj tn) (tO (J2 kr tn mb cb) (tA 1 (tO (Yj tc) (tO (Gr tn kb dep) ((tA 1 (tO (An.val (ZV (arr - dep))) (Tr.cm (Cm.mk [AG [I 4,IV i,ZV (arr - dep),YM],bA] [(0,nM s0)] 1 1 YC YC 3) bg φ vo Qu vo (fun(x:bg)=>[(0,nM x)]) dR vd (YIs i N)))).fork (tA 1 (tO (Ym i) (tE cY [] (TG N i) [(0,nM s0),(1,me N)] 2 z zn))))))))))))))))))).fork (tA 1 (tE cY [] TF [(0,nM s0),(1,me N)] 2 z zn)),Eq.mp (by kernel_rfl) hyp⟩
abbrev Nz(s0:bg)(N:aA):List (Nat × aa):=[(0,nM s0),(1,BF N)]
theorem VH(z:T aa)(zn i:Nat)(N:aA)(s0:bg)(Q:QL)(hyp:Value.bool (decide ((↑i:Int)<(↑N.nl:Int)))=F0/\E6 84 z zn (R2 FZ eW (K2 jv (nM s0) (BF N) (Q YO TF (Nz s0 N) 2 z zn)))):RdT Try.prog mu fA W2 84 (yd N.l0 N.nl i) z (q8 s0.v N.box) 2 zn 2 Q:=⟨tO xA (tA 1 (tE cY [] TF (Nz s0 N) 2 z zn)),Eq.mp (by kernel_rfl) hyp⟩
abbrev TE(N:aA)(i:Nat):List (Nat × Value):=[(0,FZ),(70,vi N),(71,IV N.nu),(72,IV (i+1))]
noncomputable abbrev W1:Code:=ah (ag Try.f20) 1
noncomputable abbrev YIw(i:Nat)(N:aA):bg->Tr:=fun(x:bg)=>tO (Ym i) (tE cY [] (TE N i) [(0,nM x),(1,nS N)] 2 (dR x) x.zn)
theorem na2(z:T aa)(zn i:Nat)(N:aA)(x:ja)(kr:aZ)(s0:bg)(φ:bg->Prop)(Q:QL)(hyp:Br (decide ((↑i:Int)<(↑N.nu:Int))) (YU i/\i<N.nu/\Bt/\Bs z kr/\UJ kr i x/\Br x.cancelled (aV Try.prog z zn 31 [AG [I 5,IV i,YM,YM],bA] [(0,nM s0)] 1 1 φ vo Qu dR vd/\Rs [AG [I 5,IV i,YM,YM],bA]/\S4 s0/\ ∀(x:bg),φ x->kg/\S4 x/\ZV (IntKind.i64.wrap ((↑i:Int)+1))=IV (i+1)/\E6 84 (dR x) x.zn (R4 FZ (vi N) (IV N.nu) (IV (i+1)) (K2 jv (nM x) (nS N) (Q aN (TE N i) [(0,nM x),(1,nS N)] 2 (dR x) x.zn)))) (ZV (IntKind.i64.wrap ((↑i:Int)+1))=IV (i+1)/\E6 84 z zn (R4 FZ (vi N) (IV N.nu) (IV (i+1)) (K2 jv (nM s0) (nS N) (Q aN (TE N i) [(0,nM s0),(1,nS N)] 2 z zn))))) (E6 84 z zn (K2 jv (nM s0) (nS N) (Q Y8 [] [(0,nM s0),(1,nS N)] 2 z zn)))):RdT Try.prog mu fA W1 84 (yc N.u1 N.nu i) z (q8 s0.v N.iu) 2 zn 2 Q:=⟨(tA 1 (tO (Yj i) (tO (An.ld 1 kr (AG x.row)) (tA 1 ((tA 1 (Tr.cm (Cm.mk [AG [I 5,IV i,YM,YM],bA] [(0,nM s0)] 1 1 YC YC 3) bg φ vo Qu vo (fun(x:bg)=>[(0,nM x)]) dR vd (YIw i N))).fork (tA 1 (tO (Ym i) (tE cY [] (TE N i) [(0,nM s0),(1,nS N)] 2 z zn)))))))).fork (tA 1 (tE cY [] [] [(0,nM s0),(1,nS N)] 2 z zn)),Eq.mp (by kernel_rfl) hyp⟩
theorem VG(z:T aa)(zn i:Nat)(N:aA)(s0:bg)(Q:QL)(hyp:Value.bool (decide ((↑i:Int)<(↑N.nu:Int)))=F0/\E6 84 z zn (K2 jv (nM s0) (BF N) (Q Y8 [] (Nz s0 N) 2 z zn))):RdT Try.prog mu fA W1 84 (yc N.u0 N.nu i) z (q8 s0.v N.box) 2 zn 2 Q:=⟨tO xA (tA 1 (tE cY [] [] (Nz s0 N) 2 z zn)),Eq.mp (by kernel_rfl) hyp⟩
abbrev JT(a b c:Int):Unit->Value:=fun(x:Unit)=>TP [zv a,zv b,zv c]
abbrev W0:Prop:=Rs (BQ [Y5] 1 1 37)
noncomputable abbrev Zu(N:aA):bg->au:=fun(s:bg)=>au.mk YO [(0,CS),(1,ip 1)] (q8 s.v N.box) 2 (dR s) s.zn
noncomputable abbrev ZE(N:aA):bg->au:=fun(s:bg)=>au.mk Y8 [] (q8 s.v N.box) 2 (dR s) s.zn
abbrev S6(a b c:Int):Unit->Value:=fun(x:Unit)=>TP [ZV a,ZV b,ZV c]
theorem na(z:T aa)(zn:Nat)(N:aA)(a b c:Int)(φ ψ:bg->Prop)(χ:bg->bg->Prop)(Q:QF)(hyp:aQ Try.prog z zn 6 (vT N) [] 0 0 Yy (JT a b c) cd/\BG N/\ ∀(x:Unit),True->P9 a b c/\Br (c !=0) (aV Try.prog z zn 31 [AG [I 3,ZV a,ZV b,ZV c],bA] [(0,BQ [Y5] 1 1 37)] 1 1 φ vo Qu dR vd/\Rs [AG [I 3,ZV a,ZV b,ZV c],bA]/\W0/\ ∀(x:bg),φ x->kg/\S4 x/\E6 84 (dR x) x.zn (K2 jv (nM x) (BF N) (kg/\Q kX (Nz x N) 2 (dR x) x.zn))) (rS/\ai Try.prog W2 2 84 (yd N.l0 N.nl 0) (q8 aw N.box) 2 z zn (Al.cons bg ψ (Zu N) QH Al.nil).R/\E6 84 z zn (R2 FZ eW (aO jv (MM N)=some (MM N)/\R2 (IV N.nl) YM (W0/\KO jv (BF N)/\ ∀(x:bg),ψ x->rS/\ai Try.prog W1 2 84 (yc N.u0 N.nu 0) [(0,oF x.v),(1,N.box)] 2 (dR x) x.zn (Al.cons bg (χ x) (ZE N) QH Al.nil).R/\E6 84 (dR x) x.zn (Rs FZ/\aO jv (ML N)=some (ML N)/\R2 (IV N.nu) YM (K2 jv (nM x) (BF N) (∀(x_1:bg),χ x x_1->E6 84 (dR x_1) x_1.zn (K2 jv (nM x_1) (BF N) (kg/\Q kX (Nz x_1 N) 2 (dR x_1) x_1.zn)))))))))):FnT Try.prog mu fA Try.f20 [CS,ip 1] z (q8 aw N.box) 2 zn Q:=⟨tA 1 (Tr.cm (Cm.mk (vT N) [] 0 0 [] [] 2) Unit Yy (JT a b c) cd (S6 a b c) cd (fw z) (ft zn) fun(x:Unit)=>(tA 1 (Tr.cm (Cm.mk [AG [I 3,ZV a,ZV b,ZV c],bA] [(0,BQ [Y5] 1 1 37)] 1 1 YC YC 2) bg φ vo Qu vo (fun(x:bg)=>[(0,nM x)]) dR vd fun(x:bg)=>tR cY [] kX (Nz x N) 2 (dR x) x.zn)).fork (tA 2 (Tr.lp 2 84 cY [] (yd N.l0 N.nl 0) (q8 aw N.box) 2 z zn (Al.cons bg ψ (Zu N) (fun(x:bg)=>tA 1 (Tr.lp 2 84 cY [] (yc N.u0 N.nu 0) [(0,oF x.v),(1,N.box)] 2 (dR x) x.zn (Al.cons bg (χ x) (ZE N) (fun(x:bg)=>tR cY [] kX (Nz x N) 2 (dR x) x.zn) Al.nil))) Al.nil)))),Eq.mp (by kernel_rfl) hyp⟩
abbrev Xf(x:bg):Prop:=aO YD (kD x)=some (kD x)
theorem Zb(z:T aa)(zn:Nat)(N:aA)(φ:bg->Prop)(Q:QF)(hyp:aV Try.prog z zn 20 [FZ,eW] [(0,BQ [Y5] 1 1 37),(1,BF N)] 2 2 φ vo (fun(s:bg)=>q8 s.v N.box) dR vd/\Rs [Value.func (Fn.func 31) ME (Array.mk [eW]),bA]/\W0/\KO (sig [(0,1),(1,0)]) (BF N)/\ ∀(x:bg),φ x->kg/\K2 (sig [(1,0),(0,1)]) (nM x) (BF N) (E6 8 (dR x) x.zn (Jx N/\Xf x/\Q (kD x) (CX N) 1 (dR x) x.zn))):FnT Try.prog mu fA Try.f19 [Ii] z (vf N) 1 zn Q:=⟨Tr.cm (Cm.mk [FZ,eW] [(0,BQ [Y5] 1 1 37),(1,BF N)] 2 2 [(0,1),(1,0)] [(1,0),(0,1)] 2) bg φ vo (fun(s:bg)=>q8 s.v N.box) vo (fun(x:bg)=>[(1,nM x),(0,BF N)]) dR vd fun(x:bg)=>tA 1 (tR YC [] (kD x) (CX N) 1 (dR x) x.zn),Eq.mp (by kernel_rfl) hyp⟩
abbrev Xe:List Value:=[Value.func (Fn.func 20) ME (Array.mk [bA])]
theorem Za(z:T aa)(zn:Nat)(N:aA)(φ:bg->Prop)(Q:QF)(hyp:aV Try.prog z zn 19 Xe (CX N) 1 1 φ (fun(s:bg)=>s.v) (fun(s:bg)=>vf N) dR vd/\Rs Xe/\KO (sig YC) (BF N)/\ ∀(x:bg),φ x->aO (sig YC) (kD x)=some (kD x)/\KO (sig YC) (BF N)/\E6 5 (dR x) x.zn (Tb x/\Q (kD x) [] 0 (dR x) x.zn)):FnT Try.prog mu fA Try.f7 [AG N.cells] z [] 0 zn Q:=⟨Tr.cm (Cm.mk Xe (CX N) 1 1 YC YC 1) bg φ (fun(s:bg)=>s.v) (fun(s:bg)=>vf N) kD (fun(x:bg)=>CX N) dR vd Xg,Eq.mp (by kernel_rfl) hyp⟩
end
noncomputable section
noncomputable abbrev TQ:Code:=ah (ag Try.f9) 0
theorem oa1(z:T aa)(zn i:Nat)(N:aA)(x:aC)(f tn fc tc ma ca mb cb:Nat)(kl kr ka kb:aZ)(arr dep:Int)(Q:QL)(hyp:Br (decide ((↑i:Int)<(↑N.nl:Int))) (YU i/\i<N.nl/\F6/\F5 z kl/\MN kl i x/\x.from_=(↑f:Int)/\f<N.nu/\Bt/\Bs z kr/\J3 kr f ma ca/\x.fc=(↑fc:Int)/\fc<ma/\Gu f/\Gt z f ka/\W4 ka fc arr/\x.ax=(↑tn:Int)/\tn<N.nu/\Bt/\Bs z kr/\J3 kr tn mb cb/\x.tc=(↑tc:Int)/\tc<mb/\Gu tn/\Gt z tn kb/\W3 kb tc dep/\ZV (IntKind.i64.wrap (arr - dep))=ZV (arr - dep)/\Br (decide (arr - dep>0)) (ZV (IntKind.i64.wrap ((↑i:Int)+1))=IV (i+1)/\E3 88 (Rf (ez z [(zn,3,BR [I 4,IV i,ZV (arr - dep),YM] 4 4 41)])/\zn.le (zn+1)/\an z zn/\zn<=zn/\zn<zn+1/\Rs (BR [I 4,IV i,ZV (arr - dep),YM] 4 4 41)/\vu/\aO (aq YC [(zn,3,BR [I 4,IV i,ZV (arr - dep),YM] 4 4 41)]) (sO zn)=some (SL 3 1 1)/\aO (aq YC [(zn,3,BR [I 4,IV i,ZV (arr - dep),YM] 4 4 41)]) (rQ N)=some (rQ N)/\R2 (IV N.nl) (IV (i+1)) (KO (aq YC [(zn,3,BR [I 4,IV i,ZV (arr - dep),YM] 4 4 41)]) (me N)/\Q aN [iB,(6,sO zn),(25,rQ N),(26,IV N.nl),(27,IV (i+1))] [(0,me N)] 1 (ez z [(zn,3,BR [I 4,IV i,ZV (arr - dep),YM] 4 4 41)]) (zn+1)))) (ZV (IntKind.i64.wrap ((↑i:Int)+1))=IV (i+1)/\E6 88 z zn (R5 bA Y5 (rQ N) (IV N.nl) (IV (i+1)) (KO YD (me N)/\Q aN [iB,(6,Y5),(25,rQ N),(26,IV N.nl),(27,IV (i+1))] [(0,me N)] 1 z zn)))) (E6 88 z zn (R2 bA Y5 (KO YD (me N)/\Q YO [iB,(6,Y5)] [(0,me N)] 1 z zn)))):RdT Try.prog mu fA TQ 88 (vI aw N.l1 N.nl i) z [(0,N.cx N.u1 N.l1)] 1 zn 1 Q:=⟨(tA 2 (tO (Yj i) (tO (MJ kl x) (tA 3 (tO (Yj f) (tO (J2 kr f ma ca) (tA 1 (tO (Yj fc) (tO (Gr f ka arr) (tA 2 (tO (Yj tn) (tO (J2 kr tn mb cb) (tA 1 (tO (Yj tc) (tO (Gr tn kb dep) (tO (An.val (ZV (arr - dep))) ((tA 2 (tO (Ym i) (tE YC [(zn,3,BR [I 4,IV i,ZV (arr - dep),YM] 4 4 41)] [iB,(6,sO zn),(25,rQ N),(26,IV N.nl),(27,IV (i+1))] [(0,me N)] 1 (ez z [(zn,3,BR [I 4,IV i,ZV (arr - dep),YM] 4 4 41)]) (zn+1)))).fork (tA 1 (tO (Ym i) (tE YC [] [iB,(6,Y5),(25,rQ N),(26,IV N.nl),(27,IV (i+1))] [(0,me N)] 1 z zn)))))))))))))))))))).fork (tA 1 (tE YC [] [iB,(6,Y5)] [(0,me N)] 1 z zn)),Eq.mp (by kernel_rfl) hyp⟩
theorem VD(z:T aa)(zn i k r:Nat)(kq:aZ)(N:aA)(x:aC)(f tn fc tc ma ca mb cb:Nat)(kl kr ka kb:aZ)(arr dep:Int)(Q:QL)(hyp:Br (decide ((↑i:Int)<(↑N.nl:Int))) (YU i/\i<N.nl/\F6/\F5 z kl/\MN kl i x/\x.from_=(↑f:Int)/\f<N.nu/\Bt/\Bs z kr/\J3 kr f ma ca/\x.fc=(↑fc:Int)/\fc<ma/\Gu f/\Gt z f ka/\W4 ka fc arr/\x.ax=(↑tn:Int)/\tn<N.nu/\Bt/\Bs z kr/\J3 kr tn mb cb/\x.tc=(↑tc:Int)/\tc<mb/\Gu tn/\Gt z tn kb/\W3 kb tc dep/\ZV (IntKind.i64.wrap (arr - dep))=ZV (arr - dep)/\Br (decide (arr - dep>0)) (ia k/\iA z k kq/\kq.exact=false/\kq.own=true/\kq.bb=0/\kq.j7=4/\kq.elem=41/\Rs [I 4,IV i,ZV (arr - dep),YM]/\Rf r/\kq.cells.length=r*4/\kq.cap=r*4/\r+1<=1048576/\ZV (IntKind.i64.wrap ((↑i:Int)+1))=IV (i+1)/\E3 88 (Rf (ez (z.del k) [(zn,3,BR (kq.cells++[I 4,IV i,ZV (arr - dep),YM]) ((r+1)*4) 4 41)])/\zn.le (zn+1)/\an (z.del k) zn/\zn<=zn/\zn<zn+1/\KO (aq YC [(zn,3,BR (kq.cells++[I 4,IV i,ZV (arr - dep),YM]) ((r+1)*4) 4 41)]) (BR (kq.cells++[I 4,IV i,ZV (arr - dep),YM]) ((r+1)*4) 4 41)/\vu/\aO (aq YC [(zn,3,BR (kq.cells++[I 4,IV i,ZV (arr - dep),YM]) ((r+1)*4) 4 41)]) (CW zn r)=some (SL 3 (r+1) (r+1))/\aO (aq YC [(zn,3,BR (kq.cells++[I 4,IV i,ZV (arr - dep),YM]) ((r+1)*4) 4 41)]) (rQ N)=some (rQ N)/\R2 (IV N.nl) (IV (i+1)) (KO (aq YC [(zn,3,BR (kq.cells++[I 4,IV i,ZV (arr - dep),YM]) ((r+1)*4) 4 41)]) (me N)/\Q aN [iB,(6,CW zn r),(25,rQ N),(26,IV N.nl),(27,IV (i+1))] [(0,me N)] 1 (ez (z.del k) [(zn,3,BR (kq.cells++[I 4,IV i,ZV (arr - dep),YM]) ((r+1)*4) 4 41)]) (zn+1)))) (ZV (IntKind.i64.wrap ((↑i:Int)+1))=IV (i+1)/\E6 88 z zn (R5 bA (dx k r) (rQ N) (IV N.nl) (IV (i+1)) (KO YD (me N)/\Q aN [iB,(6,dx k r),(25,rQ N),(26,IV N.nl),(27,IV (i+1))] [(0,me N)] 1 z zn)))) (E6 88 z zn (R2 bA (dx k r) (KO YD (me N)/\Q YO [iB,(6,dx k r)] [(0,me N)] 1 z zn)))):RdT Try.prog mu fA TQ 88 (vI (tb k r r) N.l1 N.nl i) z [(0,N.cx N.u1 N.l1)] 1 zn 1 Q:=⟨(tA 2 (tO (Yj i) (tO (MJ kl x) (tA 3 (tO (Yj f) (tO (J2 kr f ma ca) (tA 1 (tO (Yj fc) (tO (Gr f ka arr) (tA 2 (tO (Yj tn) (tO (J2 kr tn mb cb) (tA 1 (tO (Yj tc) (tO (Gr tn kb dep) (tO (An.val (ZV (arr - dep))) ((tA 1 (tX (kZ.Nf k kq 1 [I 4,IV i,ZV (arr - dep),YM]) (tO (Ym i) (tE YC [(zn,3,BR (kq.cells++[I 4,IV i,ZV (arr - dep),YM]) ((r+1)*4) 4 41)] [iB,(6,CW zn r),(25,rQ N),(26,IV N.nl),(27,IV (i+1))] [(0,me N)] 1 (ez (z.del k) [(zn,3,BR (kq.cells++[I 4,IV i,ZV (arr - dep),YM]) ((r+1)*4) 4 41)]) (zn+1))))).fork (tA 1 (tO (Ym i) (tE YC [] [iB,(6,dx k r),(25,rQ N),(26,IV N.nl),(27,IV (i+1))] [(0,me N)] 1 z zn)))))))))))))))))))).fork (tA 1 (tE YC [] [iB,(6,dx k r)] [(0,me N)] 1 z zn)),Eq.mp (by kernel_rfl) hyp⟩
theorem VE(z:T aa)(zn i:Nat)(N:aA)(s0:bg)(Q:QL)(hyp:Value.bool (decide ((↑i:Int)<(↑N.nl:Int)))=F0/\E6 88 z zn (vu/\Xf s0/\Jx N/\Q YO [iB,(6,kD s0)] (CX N) 1 z zn)):RdT Try.prog mu fA TQ 88 (vI s0.v N.l0 N.nl i) z (vf N) 1 zn 1 Q:=⟨tO xA (tA 1 (tE YC [] [iB,(6,kD s0)] (CX N) 1 z zn)),Eq.mp (by kernel_rfl) hyp⟩
abbrev Xd(z:T aa)(zn i:Nat):T aa:=ez z [(zn,2,BR [I 5,IV i,YM,YM] 4 4 41)]
abbrev Xc(zn i:Nat):Nat->Option Nat:=aq YC [(zn,2,BR [I 5,IV i,YM,YM] 4 4 41)]
noncomputable abbrev TO:Code:=ah (ag Try.f9) 1
theorem oa2(z:T aa)(zn i:Nat)(N:aA)(kr:aZ)(b:Bool)(Q:QL)(hyp:Br (decide ((↑i:Int)<(↑N.nu:Int))) (YU i/\i<N.nu/\Bt/\Bs z kr/\aB Try.prog kr 4 (0+i*8+6)=some (gb b)/\Br b (ZV (IntKind.i64.wrap ((↑i:Int)+1))=IV (i+1)/\E3 88 (Rf (Xd z zn i)/\zn.le (zn+1)/\an z zn/\zn<=zn/\zn<zn+1/\Rs (BR [I 5,IV i,YM,YM] 4 4 41)/\vu/\aO (Xc zn i) (sO zn)=some (SL 2 1 1)/\aO (Xc zn i) (vi N)=some (vi N)/\R2 (IV N.nu) (IV (i+1)) (KO (Xc zn i) (nS N)/\Q aN [iB,(6,sO zn),(70,vi N),(71,IV N.nu),(72,IV (i+1))] [(0,nS N)] 1 (Xd z zn i) (zn+1)))) (ZV (IntKind.i64.wrap ((↑i:Int)+1))=IV (i+1)/\E6 88 z zn (R5 bA Y5 (vi N) (IV N.nu) (IV (i+1)) (KO YD (nS N)/\Q aN [iB,(6,Y5),(70,vi N),(71,IV N.nu),(72,IV (i+1))] [(0,nS N)] 1 z zn)))) (E6 88 z zn (Rs Y5/\Q Y8 [(6,Y5)] [] 1 z zn))):RdT Try.prog mu fA TO 88 (vH aw N.u1 N.nu i) z [(0,N.iu)] 1 zn 1 Q:=⟨(tA 2 (tO (Yj i) (tO (An.ld 1 kr (gb b)) ((tA 1 (tO (Ym i) (tE YC [(zn,2,BR [I 5,IV i,YM,YM] 4 4 41)] [iB,(6,sO zn),(70,vi N),(71,IV N.nu),(72,IV (i+1))] [(0,nS N)] 1 (Xd z zn i) (zn+1)))).fork (tO (Ym i) (tE YC [] [iB,(6,Y5),(70,vi N),(71,IV N.nu),(72,IV (i+1))] [(0,nS N)] 1 z zn)))))).fork (tA 1 (tE [] [] [(6,Y5)] [] 1 z zn)),Eq.mp (by kernel_rfl) hyp⟩
abbrev NA(zn:Nat)(kq:aZ)(i r:Nat):List (Nat × Nat × aa):=[(zn,2,BR (kq.cells++[I 5,IV i,YM,YM]) ((r+1)*4) 4 41)]
theorem VB(z:T aa)(zn i k r:Nat)(kq:aZ)(N:aA)(kr:aZ)(b:Bool)(Q:QL)(hyp:Br (decide ((↑i:Int)<(↑N.nu:Int))) (YU i/\i<N.nu/\Bt/\Bs z kr/\aB Try.prog kr 4 (0+i*8+6)=some (gb b)/\Br b (ia k/\iA z k kq/\kq.exact=false/\kq.own=true/\kq.bb=0/\kq.j7=4/\kq.elem=41/\Rs [I 5,IV i,YM,YM]/\Rf r/\kq.cells.length=r*4/\kq.cap=r*4/\r+1<=1048576/\ZV (IntKind.i64.wrap ((↑i:Int)+1))=IV (i+1)/\E3 88 (Rf (ez (z.del k) (NA zn kq i r))/\zn.le (zn+1)/\an (z.del k) zn/\zn<=zn/\zn<zn+1/\KO (aq YC (NA zn kq i r)) (BR (kq.cells++[I 5,IV i,YM,YM]) ((r+1)*4) 4 41)/\vu/\aO (aq YC (NA zn kq i r)) (CW zn r)=some (SL 2 (r+1) (r+1))/\aO (aq YC (NA zn kq i r)) (vi N)=some (vi N)/\R2 (IV N.nu) (IV (i+1)) (KO (aq YC (NA zn kq i r)) (nS N)/\Q aN [iB,(6,CW zn r),(70,vi N),(71,IV N.nu),(72,IV (i+1))] [(0,nS N)] 1 (ez (z.del k) (NA zn kq i r)) (zn+1)))) (ZV (IntKind.i64.wrap ((↑i:Int)+1))=IV (i+1)/\E6 88 z zn (R5 bA (dx k r) (vi N) (IV N.nu) (IV (i+1)) (KO YD (nS N)/\Q aN [iB,(6,dx k r),(70,vi N),(71,IV N.nu),(72,IV (i+1))] [(0,nS N)] 1 z zn)))) (E6 88 z zn (Rs (dx k r)/\Q Y8 [(6,dx k r)] [] 1 z zn))):RdT Try.prog mu fA TO 88 (vH (tb k r r) N.u1 N.nu i) z [(0,N.iu)] 1 zn 1 Q:=⟨(tA 2 (tO (Yj i) (tO (An.ld 1 kr (gb b)) ((tX (kZ.Nf k kq 1 [I 5,IV i,YM,YM]) (tO (Ym i) (tE YC (NA zn kq i r) [iB,(6,CW zn r),(70,vi N),(71,IV N.nu),(72,IV (i+1))] [(0,nS N)] 1 (ez (z.del k) (NA zn kq i r)) (zn+1)))).fork (tO (Ym i) (tE YC [] [iB,(6,dx k r),(70,vi N),(71,IV N.nu),(72,IV (i+1))] [(0,nS N)] 1 z zn)))))).fork (tA 1 (tE [] [] [(6,dx k r)] [] 1 z zn)),Eq.mp (by kernel_rfl) hyp⟩
theorem VC(z:T aa)(zn i:Nat)(N:aA)(s0:bg)(Q:QL)(hyp:Value.bool (decide ((↑i:Int)<(↑N.nu:Int)))=F0/\E6 88 z zn (Tb s0/\Q Y8 [(6,kD s0)] [] 1 z zn)):RdT Try.prog mu fA TO 88 (vH s0.v N.u0 N.nu i) z (vf N) 1 zn 1 Q:=⟨tO xA (tA 1 (tE [] [] [(6,kD s0)] [] 1 z zn)),Eq.mp (by kernel_rfl) hyp⟩
noncomputable abbrev ZD(N:aA):bg->au:=fun(s:bg)=>au.mk YO [(1,ip 0),(6,s.v)] (vf N) 1 (dR s) s.zn
noncomputable abbrev YJA(s:bg):au:=au.mk Y8 [(6,s.v)] [] 1 (dR s) s.zn
noncomputable abbrev Zs:bg->au:=fun(s:bg)=>YJA s
theorem oaf(z:T aa)(zn:Nat)(N:aA)(a b c:Int)(hc:True)(ψ:bg->Prop)(χ:bg->bg->Prop)(Q:QF)(hyp:aQ Try.prog z zn 21 (vT N) [] 0 0 Yy (JT a b c) cd/\BG N/\ ∀(x:Unit),True->P9 a b c/\Value.bool (c !=0)=F0/\YP/\ai Try.prog TQ 1 88 (vI aw N.l0 N.nl 0) (vf N) 1 z zn (Al.cons bg ψ (ZD N) QH Al.nil).R/\E6 88 z zn (R2 bA Y5 (aO YD (MM N)=some (MM N)/\R2 (IV N.nl) YM (Jx N/\ ∀(x:bg),ψ x->YP/\ai Try.prog TO 1 88 (vH x.v N.u0 N.nu 0) (vf N) 1 (dR x) x.zn (Al.cons bg (χ x) Zs QH Al.nil).R/\E6 88 (dR x) x.zn (vu/\Xf x/\aO YD (ML N)=some (ML N)/\R2 (IV N.nu) YM (Jx N/\ ∀(x_1:bg),χ x x_1->E6 88 (dR x_1) x_1.zn (Tb x_1/\Q (kD x_1) [] 0 (dR x_1) x_1.zn))))))):FnT Try.prog mu fA Try.f9 [AG N.cells] z [] 0 zn Q:=⟨tA 1 (Tr.cm (Gq N) Unit Yy (JT a b c) cd (S6 a b c) cd (fw z) (ft zn) fun(x:Unit)=>tO xA (tA 2 (Tr.lp 1 88 YC [] (vI aw N.l0 N.nl 0) (vf N) 1 z zn (Al.cons bg ψ (ZD N) (fun(x:bg)=>tA 1 (Tr.lp 1 88 YC [] (vH x.v N.u0 N.nu 0) (vf N) 1 (dR x) x.zn (Al.cons bg (χ x) Zs Xg Al.nil))) Al.nil)))),Eq.mp (by kernel_rfl) hyp⟩
theorem VA(z:T aa)(zn:Nat)(N:aA)(a b c:Int)(Q:QF)(hyp:aQ Try.prog z zn 21 (vT N) [] 0 0 Yy (JT a b c) cd/\BG N/\ ∀(x:Unit),True->P9 a b c/\Value.bool (c !=0)=T1/\E3 88 (Rf (ez z [(zn,1,BQ [I 3,ZV a,ZV b,ZV c] 4 4 41)])/\zn.le (zn+1)/\an z zn/\zn<=zn/\zn<zn+1/\Rs (BQ [I 3,ZV a,ZV b,ZV c] 4 4 41)/\aO (aq [] [(zn,1,BQ [I 3,ZV a,ZV b,ZV c] 4 4 41)]) (sO zn)=some (SL 1 1 1)/\Q (sO zn) [] 0 (ez z [(zn,1,BQ [I 3,ZV a,ZV b,ZV c] 4 4 41)]) (zn+1))):FnT Try.prog mu fA Try.f9 [AG N.cells] z [] 0 zn Q:=⟨tA 1 (Tr.cm (Gq N) Unit Yy (JT a b c) cd (S6 a b c) cd (fw z) (ft zn) fun(x:Unit)=>tO Of (tA 1 (tR [] [(zn,1,BQ [I 3,ZV a,ZV b,ZV c] 4 4 41)] (sO zn) [] 0 (ez z [(zn,1,BQ [I 3,ZV a,ZV b,ZV c] 4 4 41)]) (zn+1)))),Eq.mp (by kernel_rfl) hyp⟩
end
noncomputable section
noncomputable abbrev TD:Code:=ah (ag Try.f8) 0
theorem XI(z:T aa)(zn a b n i:Nat)(k1 k2:aZ)(x:ff)(Q:QL)(hyp:Br (decide ((↑i:Int)<(↑n:Int))) (YU i/\i<n/\ia a/\iA z a k1/\aB Try.prog k1 41 (0+i*4)=some (AG (yX x))/\YU i/\i<n/\ia b/\iA z b k2/\aB Try.prog k2 41 (0+i*4)=some (AG (yX x))/\yE Try.prog BinOp.neq 41 (Operand.tmp 19) (Operand.tmp 23) (AG (yX x)) (AG (yX x)) F0/\ZV (IntKind.i64.wrap ((↑i:Int)+1))=IV (i+1)/\E6 26 z zn (R4 (dx a n) (dx b n) (IV n) (IV (i+1)) (Q aN [(0,dx a n),(1,dx b n),(12,IV n),(13,IV (i+1))] [] 0 z zn))) (E6 26 z zn (Q YO [] [] 0 z zn))):RdT Try.prog mu fA TD 26 (EU a b n i) z [] 0 zn 0 Q:=⟨(tA 1 (tO (Yj i) (tO (An.ld a k1 (AG x.row)) (tO (Yj i) (tO (An.ld b k2 (AG x.row)) (tX (kZ.bin F0) (tA 1 (tO (Ym i) (tE [] [] [(0,dx a n),(1,dx b n),(12,IV n),(13,IV (i+1))] [] 0 z zn))))))))).fork (Od z zn),Eq.mp (by kernel_rfl) hyp⟩
theorem Vc(z:T aa)(zn:Nat)(Q:QL)(hyp:E6 26 z zn (Q YO [] [] 0 z zn)):RdT Try.prog mu fA TD 26 wE z [] 0 zn 0 Q:=⟨Tg z zn,Eq.mp (by kernel_rfl) hyp⟩
theorem sa(z:T aa)(zn a b n:Nat)(Q:QF)(hyp:Value.bool ((↑n:Int) !=(↑n:Int))=F0/\qs/\ai Try.prog TD 0 26 (EU a b n 0) [] 0 z zn (QT z zn)/\E6 26 z zn (R4 (dx a n) (dx b n) (IV n) YM (∀(x:Unit),True->E6 26 z zn (YA/\Q T1 [] 0 z zn)))):FnT Try.prog mu fA Try.f8 [tb a n n,tb b n n] z [] 0 zn Q:=⟨tO xA (tA 1 (Tr.lp 0 26 [] [] (EU a b n 0) [] 0 z zn (Al.cons Unit Yy (MO z zn) (Q8 z zn) Al.nil))),Eq.mp (by kernel_rfl) hyp⟩
theorem saz(z:T aa)(zn:Nat)(Q:QF)(hyp:qs/\ai Try.prog TD 0 26 wE [] 0 z zn (QT z zn)/\E6 26 z zn (R2 YM YM (∀(x:Unit),True->E6 26 z zn (YA/\Q T1 [] 0 z zn)))):FnT Try.prog mu fA Try.f8 [aw,aw] z [] 0 zn Q:=⟨tA 2 (Tr.lp 0 26 [] [] wE [] 0 z zn (Al.cons Unit Yy (MO z zn) (Q8 z zn) Al.nil)),Eq.mp (by kernel_rfl) hyp⟩
noncomputable abbrev WZ:Code:=ah (ag Try.f4) 0
theorem li1(z:T aa)(zn i n cc:Nat)(ca:Option Addr)(N:aA)(kr:aZ)(Q:QL)(hyp:Br (decide ((↑i:Int)<(↑N.nu:Int))) (YU i/\i<N.nu/\Bt/\Bs z kr/\aB Try.prog kr 42 (0+i*8+7)=some (Value.slice ca n cc)/\Br (decide ((↑n:Int)>40)) (E6 54 z zn (YQ/\Q af.ret [(2,F0)] [] 1 z zn)) (ZV (IntKind.i64.wrap ((↑i:Int)+1))=IV (i+1)/\E6 54 z zn (R3 bA (IV N.nu) (IV (i+1)) (KO YD (nS N)/\Q aN [iB,(41,IV N.nu),(42,IV (i+1))] [(0,nS N)] 1 z zn)))) (E6 54 z zn (Q YO [] [] 1 z zn))):RdT Try.prog mu fA WZ 54 (Ci N.nu i) z [(0,N.iu)] 1 zn 1 Q:=⟨(tA 2 (tO (Yj i) (tO (An.ld 1 kr (Value.slice ca n cc)) ((tA 1 (tE [] [] [(2,F0)] [] 1 z zn)).fork (tA 1 (tO (Ym i) (tE YC [] [iB,(41,IV N.nu),(42,IV (i+1))] [(0,nS N)] 1 z zn))))))).fork (Yn z zn),Eq.mp (by kernel_rfl) hyp⟩
theorem V4(z:T aa)(zn i:Nat)(N:aA)(Q:QL)(hyp:Value.bool (decide ((↑i:Int)<(↑N.nu:Int)))=F0/\E6 54 z zn (Q YO [] [] 1 z zn)):RdT Try.prog mu fA WZ 54 (Ci N.nu i) z (vf N) 1 zn 1 Q:=⟨tO xA (Yn z zn),Eq.mp (by kernel_rfl) hyp⟩
theorem li(z:T aa)(zn:Nat)(N:aA)(b:Bool)(Q:QF)(hyp:Br (decide ((↑N.ns:Int)>20)) (E6 54 z zn (YQ/\Q F0 [] 0 z zn)) (Br (decide ((↑N.nr:Int)>20)) (E6 54 z zn (YQ/\Q F0 [] 0 z zn)) (Br (decide ((↑N.nu:Int)>20)) (E6 54 z zn (YQ/\Q F0 [] 0 z zn)) (Br (decide ((↑N.nl:Int)>40)) (E6 54 z zn (YQ/\Q F0 [] 0 z zn)) (Br (decide ((↑N.np:Int)>200)) (E6 54 z zn (YQ/\Q F0 [] 0 z zn)) (Br (decide ((↑N.nf:Int)>20)) (E6 54 z zn (YQ/\Q F0 [] 0 z zn)) (YP/\ai Try.prog WZ 1 54 (Ci N.nu 0) (vf N) 1 z zn (alt (b=false) (au.mk af.ret [(2,F0)] [] 1 z zn) (alt (b=true) (au.mk YO [] [] 1 z zn) Al.nil)).R/\E6 54 z zn (R3 bA (IV N.nu) YM (Jx N/\(∀(x:Unit),b=false->E6 54 z zn (YQ/\Q F0 [] 0 z zn))/\ ∀(x:Unit),b=true->E6 54 z zn (YA/\Q T1 [] 0 z zn)))))))))):FnT Try.prog mu fA Try.f4 [AG N.cells] z [] 0 zn Q:=⟨tA 1 ((tA 27 (zl z zn)).fork (tA 5 ((tA 23 (zl z zn)).fork (tA 6 ((tA 18 (zl z zn)).fork (tA 6 ((tA 13 (zl z zn)).fork (tA 6 ((tA 8 (zl z zn)).fork (tA 7 ((tA 2 (zl z zn)).fork (tA 3 (Tr.lp 1 54 YC [] (Ci N.nu 0) (vf N) 1 z zn (Al.cons Unit (YS b) (fun(x:Unit)=>au.mk af.ret [(2,F0)] [] 1 z zn) (fun(x:Unit)=>zl z zn) (Al.cons Unit (YR b) (Y1 z zn) (Q8 z zn) Al.nil))))))))))))))),Eq.mp (by kernel_rfl) hyp⟩
end
noncomputable section
abbrev Mz:bg->List (Nat × aa):=fun(x:bg)=>[]
abbrev WY(x:bg):Prop:=aO (sig []) (kD x)=some (kD x)
noncomputable abbrev YJG(N:aA)(χ:bg->bg->Prop)(x:bg):Tr:=tA 1 (Tr.cm (Gq N) bg (χ x) (fun(s:bg)=>s.v) Mz kD Mz dR vd fun(x_1:bg)=>Tr.cm (Cm.mk [kD x,kD x_1] [] 0 0 [] [] 1) Unit Yy sN cd sN cd (fun(x:Unit)=>dR x_1) (fun(x:Unit)=>x_1.zn) fun(x:Unit)=>tA 2 (tO Of (tA 10 (Tr.cm (Cm.mk [] [] 0 0 [] [] 1) Unit Yy sN cd sN cd (fun(x:Unit)=>dR x_1) (fun(x:Unit)=>x_1.zn) fun(x:Unit)=>tA 1 (tR [] [] T1 [] 0 (dR x_1) x_1.zn)))))
theorem lwa(z:T aa)(zn:Nat)(N:aA)(a b c:Int)(φ:bg->Prop)(χ:bg->bg->Prop)(Q:QF)(hyp:aQ Try.prog z zn 4 (vT N) [] 0 0 Yy sN cd/\BG N/\ ∀(x:Unit),True->YA/\aQ Try.prog z zn 6 (vT N) [] 0 0 Yy (JT a b c) cd/\BG N/\ ∀(x:Unit),True->P9 a b c/\aV Try.prog z zn 7 (vT N) [] 0 0 φ (fun(s:bg)=>s.v) Mz dR vd/\BG N/\ ∀(x:bg),φ x->WY x/\aV Try.prog (dR x) x.zn 9 (vT N) [] 0 0 (χ x) (fun(s:bg)=>s.v) Mz dR vd/\BG N/\ ∀(x_1:bg),χ x x_1->WY x_1/\aQ Try.prog (dR x_1) x_1.zn 8 [kD x,kD x_1] [] 0 0 Yy sN cd/\bh (sig []) [kD x,kD x_1]=some [kD x,kD x_1]/\ ∀(x:Unit),True->YA/\Value.bool (c==0)=T1/\aQ Try.prog (dR x_1) x_1.zn 5 [] [] 0 0 Yy sN cd/\Rs OP/\ ∀(x:Unit),True->YA/\E6 42 (dR x_1) x_1.zn (YA/\Q T1 [] 0 (dR x_1) x_1.zn)):FnT Try.prog mu fA Try.f3 [AG N.cells] z [] 0 zn Q:=⟨tA 1 (Tr.cm (Gq N) Unit Yy sN cd sN cd (fw z) (ft zn) fun(x:Unit)=>tA 2 (Tr.cm (Gq N) Unit Yy (JT a b c) cd (S6 a b c) cd (fw z) (ft zn) fun(x:Unit)=>tA 1 (Tr.cm (Gq N) bg φ (fun(s:bg)=>s.v) Mz kD Mz dR vd fun(x:bg)=>YJG N χ x))),Eq.mp (by kernel_rfl) hyp⟩
theorem lwe(z:T aa)(zn:Nat)(N:aA)(a b c:Int)(kb:aZ)(x:ff)(χ:bg->Prop)(Q:QF)(hyp:aQ Try.prog z zn 4 (vT N) [] 0 0 Yy sN cd/\BG N/\ ∀(x_1:Unit),True->YA/\aQ Try.prog z zn 6 (vT N) [] 0 0 Yy (JT a b c) cd/\BG N/\ ∀(x_2:Unit),True->P9 a b c/\(aV Try.prog z zn 7 (vT N) [] 0 0 Yy (fun(x:Unit)=>tb zn 1 1) cd (fun(x_3:Unit)=>z.set zn (uE x.row 1)) fun(x:Unit)=>zn+1)/\BG N/\ ∀(x_3:Unit),True->Rs (sO zn)/\aV Try.prog (z.set zn (uE x.row 1)) (zn+1) 9 (vT N) [] 0 0 χ (fun(s:bg)=>s.v) Mz dR vd/\BG N/\ ∀(x:bg),χ x->WY x/\aQ Try.prog (dR x) x.zn 8 [sO zn,kD x] [] 0 0 Yy sN cd/\bh (sig []) [sO zn,kD x]=some [sO zn,kD x]/\ ∀(x_4:Unit),True->YA/\Value.bool (c==0)=F0/\ia zn/\(dR x).get zn=some (YW kb)/\aB Try.prog kb 3 0=some (I 3)/\aQ Try.prog (dR x) x.zn 5 [] [] 0 0 Yy sN cd/\Rs OP/\ ∀(x_5:Unit),True->YA/\E6 42 (dR x) x.zn (YA/\Q T1 [] 0 (dR x) x.zn)):FnT Try.prog mu fA Try.f3 [AG N.cells] z [] 0 zn Q:=⟨tA 1 (Tr.cm (Gq N) Unit Yy sN cd sN cd (fw z) (ft zn) fun(x_1:Unit)=>tA 2 (Tr.cm (Gq N) Unit Yy (JT a b c) cd (S6 a b c) cd (fw z) (ft zn) fun(x_2:Unit)=>tA 1 (Tr.cm (Gq N) Unit Yy (fun(x:Unit)=>tb zn 1 1) cd (fun(x:Unit)=>sO zn) cd (fun(x_3:Unit)=>z.set zn (uE x.row 1)) (fun(x:Unit)=>zn+1) fun(x:Unit)=>tA 1 (Tr.cm (Gq N) bg χ (fun(s:bg)=>s.v) Mz kD Mz dR vd fun(x:bg)=>Tr.cm (Cm.mk [sO zn,kD x] [] 0 0 [] [] 1) Unit Yy sN cd sN cd (fun(x_3:Unit)=>dR x) (fun(x_3:Unit)=>x.zn) fun(x_3:Unit)=>tA 2 (tO xA (tA 11 (tO (An.ld zn kb (I 3)) (tA 8 (Tr.cm (Cm.mk [] [] 0 0 [] [] 1) Unit Yy sN cd sN cd (fun(x_4:Unit)=>dR x) (fun(x_4:Unit)=>x.zn) fun(x_4:Unit)=>tA 1 (tR [] [] T1 [] 0 (dR x) x.zn)))))))))),Eq.mp (by kernel_rfl) hyp⟩
theorem lwf(z:T aa)(zn:Nat)(N:aA)(Q:QF)(hyp:aQ Try.prog z zn 4 (vT N) [] 0 0 Yy CU cd/\BG N/\ ∀(x:Unit),True->YQ/\aQ Try.prog z zn 5 [] [] 0 0 Yy sN cd/\Rs OP/\ ∀(x:Unit),True->YA/\E6 42 z zn (YA/\Q T1 [] 0 z zn)):FnT Try.prog mu fA Try.f3 [AG N.cells] z [] 0 zn Q:=⟨tA 1 (Tr.cm (Gq N) Unit Yy CU cd CU cd (fw z) (ft zn) fun(x:Unit)=>tA 1 (Tr.cm (Cm.mk [] [] 0 0 [] [] 1) Unit Yy sN cd sN cd (fw z) (ft zn) (Q8 z zn))),Eq.mp (by kernel_rfl) hyp⟩
end
end Go.Proofs.Nw
namespace Go.Proofs.Nw
open Go Go.AV
set_option maxHeartbeats 1000000
set_option maxRecDepth 100000
def Nx(U:List RunT)(f c:Int):Int:=match U[f.toNat]? with|some r=>(match r.calls[c.toNat]? with|some x=>x.arr|none=>0)|none=>0
def Nn(U:List RunT)(f c:Int):Int:=match U[f.toNat]? with|some r=>(match r.calls[c.toNat]? with|some x=>x.dep|none=>0)|none=>0
def oN(U:List RunT)(x:aC):Int:=Nx U x.from_ x.fc - Nn U x.ax x.tc
def Nk(D:fL)(L:List ff)(k:Nat):List ff:=match D.bE[k]? with|some x=>if 0<oN D.runs x then L++[⟨4,k,oN D.runs x,0⟩] else L|none=>L
def dH(D:fL)(m:Nat):List ff:=(List.range m).foldl (Nk D) []
def Nj(D:fL)(L:List ff)(k:Nat):List ff:=match D.runs[k]? with|some r=>if r.v.cancelled=true then L++[⟨5,k,0,0⟩] else L|none=>L
def eI(D:fL)(L:List ff)(m:Nat):List ff:=(List.range m).foldl (Nj D) L
theorem kR(D:fL)(m:Nat):dH D (m+1)=Nk D (dH D m) m:=by
 unfold dH;rw[List.range_succ,List.foldl_append];rfl
theorem kQ(D:fL)(L:List ff)(m:Nat):eI D L (m+1)=Nj D (eI D L m) m:=by
 unfold eI;rw[List.range_succ,List.foldl_append];rfl
theorem LU(D:fL)(L:List ff)(k:Nat):(Nk D L k).length<=L.length+1:=by
 unfold Nk;split<;>(try split)<;>simp
theorem LR(D:fL)(L:List ff)(k:Nat):(Nj D L k).length<=L.length+1:=by
 unfold Nj;split<;>(try split)<;>simp
theorem kS(D:fL): ∀m,(dH D m).length<=m
 |0=>Nat.le_refl _
 |m+1=>by rw[kR];have:=LU D (dH D m) m;have:=kS D m;omega
theorem pO(D:fL)(L:List ff): ∀m,(eI D L m).length<=L.length+m
 |0=>Nat.le_refl _
 |m+1=>by rw[kQ];have:=LR D (eI D L m) m;have:=pO D L m;omega
noncomputable def bL(N:aA)(D:fL):List ff:=if (aP N D).2.2≠0 then [⟨3,(aP N D).1,(aP N D).2.1,(aP N D).2.2⟩] else eI D (dH D D.bE.length) D.runs.length
structure JE(U:List RunT)(x:aC):Prop where
 ex: ∃(f tn fc tc:Nat)(rf rt:RunT)(ca cb:bk),x.from_=(f:Int)/\x.ax=(tn:Int)/\x.fc=(fc:Int)/\x.tc=(tc:Int)/\U[f]? =some rf/\U[tn]? =some rt/\rf.calls[fc]? =some ca/\rt.calls[tc]? =some cb/\
  0<=ca.arr/\ca.arr<=3155932800/\0<=cb.dep/\cb.dep<=3155932800
theorem CJ(l:List bk)(s lo hi:Int)(i:Nat):eQ l s lo hi i≠some 0:=by
 unfold eQ
 split
 ·split
  ·simp
  ·rename_i h;intro e;exact h (by simpa using e)
 ·simp
theorem xo{l:List bk}{s lo hi:Int}(h:(bF l s lo hi).2=0){i:Nat}{x:bk}(hx:l[i]? =some x):lo<=x.arr/\x.arr<=x.dep/\x.dep<=hi:=by
 unfold bF at h
 split at h
 ·cases h
 ·have hi':=(List.getElem?_eq_some_iff.1 hx).1
  have:=ig (CJ l s lo hi) _ _ h i (Nat.zero_le _) (by omega)
  unfold eQ at this
  rw[hx] at this
  simp only at this
  split at this
  ·rename_i h0
   unfold br at h0
   (repeat' split at h0)<;>first|(cases h0;done)|omega
  ·cases this
theorem wc{ns nr:Nat}{l:List RunT}(h:(cK ns nr l).2=0){i:Nat}{r:RunT}(hr:l[i]? =some r):(bF r.calls ns 0 3155932800).2=0:=by
 unfold cK at h
 split at h
 ·cases h
 have hlt:=(List.getElem?_eq_some_iff.1 hr).1
 have:=ig (qT ns nr l) _ _ h i (Nat.zero_le _) (by omega)
 unfold dp at this
 rw[hr] at this
 simp only at this
 by_cases hc:xN ns r=0
 ·exact hc
 ·(repeat' split at this)<;>simp_all
theorem Fc{ns nr:Nat}{U:List RunT}{L:List aC}(hU:(cK ns nr U).2=0)(hL:(bK U L).2=0){k:Nat}{x:aC}(hx:L[k]? =some x):JE U x:=by
 unfold bK at hL
 split at hL
 ·cases hL
 have hlt:=(List.getElem?_eq_some_iff.1 hx).1
 have:=ig (Bf U L) _ _ hL k (Nat.zero_le _) (by omega)
 unfold eV at this
 rw[hx] at this
 simp only at this
 split at this
 ·rename_i h0
  unfold hX at h0
  split at h0
  ·cases h0
  rename_i a1
  split at h0
  ·cases h0
  rename_i a2
  obtain⟨rf,hrf⟩: ∃r,U[x.from_.toNat]? =some r:=⟨_,List.getElem?_eq_getElem (by omega)⟩
  obtain⟨rt,hrt⟩: ∃r,U[x.ax.toNat]? =some r:=⟨_,List.getElem?_eq_getElem (by omega)⟩
  have e1:ie U x.from_=rf.calls.length:=by unfold ie;rw[hrf]
  have e2:ie U x.ax=rt.calls.length:=by unfold ie;rw[hrt]
  rw[e1,e2] at a2
  obtain⟨ca,hca⟩: ∃r,rf.calls[x.fc.toNat]? =some r:=⟨_,List.getElem?_eq_getElem (by omega)⟩
  obtain⟨cb,hcb⟩: ∃r,rt.calls[x.tc.toNat]? =some r:=⟨_,List.getElem?_eq_getElem (by omega)⟩
  have c1:=xo (wc hU hrf) hca
  have c2:=xo (wc hU hrt) hcb
  exact⟨x.from_.toNat,x.ax.toNat,x.fc.toNat,x.tc.toNat,rf,rt,ca,cb,by omega,by omega,by omega,by omega,hrf,hrt,hca,hcb,by omega,by omega,by omega,by omega⟩
 ·cases this
theorem EO{N:aA}{D:fL}(h:(aP N D).2.2=0):(cK N.ns N.nr D.runs).2=0/\(bK D.runs D.bE).2=0:=by
 unfold aP iq at h
 (repeat' split at h)<;>simp_all
structure Bw(D:fL):Prop where
 bE: ∀(k:Nat)(x:aC),D.bE[k]? =some x->JE D.runs x
 nl:D.bE.length<=1024
 nu:D.runs.length<=1024
theorem mH{N:aA}{D:fL}(h:(aP N D).2.2=0):Bw D:=by
 obtain⟨h1,h2⟩:=EO h
 refine⟨fun k x hx=>Fc h1 h2 hx,?_,(qA h1).len⟩
 unfold bK at h2
 split at h2
 ·cases h2
 ·omega
theorem eS.Fg{z z':T aa}{zn:Nat}{N:aA}{D:fL}(h:eS z N D)(hz:an z zn)(ho: ∀j,j<zn->z'.get j=z.get j):eS z' N D:=
 ⟨h.s,h.r,h.u,h.l,h.p,h.f,dX h.ts hz ho,dX h.tr hz ho,⟨dX h.tu.JM hz ho,h.tu.sl,fun j r hr=>dX (h.tu.calls j r hr) hz ho⟩,dX h.tl hz ho,dX h.tp hz ho,dX h.tf hz ho⟩
section
variable{z:T aa}{N:aA}{D:fL}
theorem eS.link(h:eS z N D){k:Nat}{x:aC}(hx:D.bE[k]? =some x): ∃kl,z.get 0=some (.ay kl)/\aB Try.prog kl 52 (0+k*5)=some (.agg ⟨x.row⟩):=by
 obtain⟨el,hel⟩:=h.tl.ay (i:=k) (by simpa using (List.getElem?_eq_some_iff.1 hx).1)
 exact⟨_,hel,bO (r:=x.row) (sz:=5) Try.underlying52 rfl rfl (aM (row:=aC.row) (sz:=5) D.bE fun _=>rfl) (by rw[List.getElem?_map,hx];rfl)⟩
theorem eS.run(h:eS z N D){k:Nat}{x:RunT}(hx:D.runs[k]? =some x): ∃kl,z.get 1=some (.ay kl)/\aB Try.prog kl 44 (0+k*8)=some (.agg ⟨x.v.row⟩)/\aB Try.prog kl 4 (0+k*8+6)=some (.bool x.v.cancelled)/\aB Try.prog kl 42 (0+k*8+7)=some (.slice x.v.ca x.v.cn x.v.cc):=by
 obtain⟨el,hel⟩:=h.tu.JM.ay (i:=k) (by simpa using (List.getElem?_eq_some_iff.1 hx).1)
 have hlen:=aM (row:=fun r:RunT=>r.v.row) (sz:=8) D.runs fun _=>rfl
 have hr:(D.runs.map fun r:RunT=>r.v.row)[k]? =some x.v.row:=by rw[List.getElem?_map,hx];rfl
 exact⟨_,hel,bO (r:=x.v.row) (sz:=8) Try.underlying44 rfl rfl hlen hr,bu Try.underlying4 rfl hlen hr rfl,bu Try.underlying42 rfl hlen hr rfl⟩
theorem eS.call(h:eS z N D){k:Nat}{x:RunT}(hx:D.runs[k]? =some x){i:Nat}{c:bk}(hc:x.calls[i]? =some c):x.v.ca=some ⟨256*(6+k)+510,0,none⟩/\x.v.cn=x.calls.length/\ ∃kl,z.get (6+k)=some (.ay kl)/\aB Try.prog kl 3 (0+i*5+1)=some (zv c.arr)/\aB Try.prog kl 3 (0+i*5+2)=some (zv c.dep):=by
 have hi:=(List.getElem?_eq_some_iff.1 hc).1
 obtain⟨el,hel⟩:=(h.tu.calls k x hx).ay (i:=i) (by simpa using hi)
 have hs:x.v.ca=some ⟨256*(6+k)+510,0,none⟩/\x.v.cn=x.calls.length:=by
  rcases h.tu.sl k x hx with (⟨_,_,_,h4⟩|h)|⟨_,_,_,h4⟩
  ·omega
  ·exact h
  ·omega
 have hlen:=aM (row:=bk.row) (sz:=5) x.calls fun _=>rfl
 have hr:(x.calls.map bk.row)[i]? =some c.row:=by rw[List.getElem?_map,hc];rfl
 exact⟨hs.1,hs.2,_,hel,bu Try.underlying3 rfl hlen hr rfl,bu Try.underlying3 rfl hlen hr rfl⟩
end
structure fj(z0:T aa)(n0:Nat)(L:List ff)(s:bg):Prop where
 bb:an s.z s.zn
 le:n0<=s.zn
 fP: ∀k,k<n0->s.z.get k=z0.get k
 val:(L=[]/\s.oa=none/\s.k=0)\/(L≠[]/\ ∃kk,n0<=kk/\kk<s.zn/\s.oa=some ⟨256*kk+510,0,none⟩/\s.k=L.length/\s.z.get kk=some (uE (L.map ff.row).flatten L.length))
theorem zW(L:List ff):bH (L.map ff.row).flatten=true:=jC (row:=ff.row) (fun _=>rfl) L
theorem qP(L:List ff):(L.map ff.row).flatten.length=L.length*4:=by
 have:=jG (sz:=4) (rows:=L.map ff.row) (aM (row:=ff.row) (sz:=4) L fun _=>rfl)
 simpa using this
theorem ym(L:List ff)(x:ff):(L.map ff.row).flatten++x.row=((L++[x]).map ff.row).flatten:=by
 rw[List.map_append,List.flatten_append];simp
theorem ny{σ:bd}{k c n m:Nat}{o:aa}:aE (aq σ [(k,c,o)]) (oF (tb k n m))=some (oF (bc c n m)):=by
 have:=eA (σ:=σ) (k:=k) (c:=c) (n:=n) (m:=m) (o:=o)
 simp only[aE,bh,this]
 rfl
theorem qE{σ:Nat->Option Nat}(L:List ff)(x:ff)(c:Nat):aE σ (.ay (aZ.mk ((L.map ff.row).flatten++x.row) c 4 41 false false 0 true))=some (.ay (aZ.mk ((L.map ff.row).flatten++x.row) c 4 41 false false 0 true)):=cG (by
 rw[ym];exact zW _)
theorem qQ{z:T aa}{zn:Nat}(hz:an z zn):fj z zn [] ⟨none,0,z,zn⟩:=⟨hz,Nat.le_refl _,fun _ _=>rfl, .inl ⟨rfl,rfl,rfl⟩⟩
theorem pP{z0:T aa}{n0:Nat}{z:T aa}{zn:Nat}(hz:an z zn)(hle:n0<=zn)(ho: ∀k,k<n0->z.get k=z0.get k)(x:ff):fj z0 n0 [x] ⟨some ⟨256*zn+510,0,none⟩,1,z.set zn (uE x.row 1),zn+1⟩:=
 ⟨fT hz (by show bH x.row=true;rfl),by show n0<=zn+1;omega,fun k hk=>by
   show(z.set zn _).get k=_
   rw[T.aK,if_neg (by omega)];exact ho k hk, .inr ⟨by simp,zn,hle,Nat.lt_succ_self _,rfl,rfl,by
   show(z.set zn _).get zn=_
   rw[T.aK,if_pos rfl];simp⟩⟩
theorem uD{z0:T aa}{n0:Nat}{z:T aa}{zn:Nat}(hz:an z zn)(hle:n0<=zn)(ho: ∀k,k<n0->z.get k=z0.get k){kk:Nat}(hk:n0<=kk)(L:List ff)(x:ff):fj z0 n0 (L++[x]) ⟨some ⟨256*zn+510,0,none⟩,L.length+1,(z.del kk).set zn (uE ((L.map ff.row).flatten++x.row) (L.length+1)),zn+1⟩:=by
 refine⟨fT (fH hz _) (by rw[ym];exact zW _),by show n0<=zn+1;omega,fun k hk'=>?_, .inr ⟨by simp,zn,hle,Nat.lt_succ_self _,rfl,by simp,?_⟩⟩
 ·show((z.del kk).set zn _).get k=_
  rw[T.aK,if_neg (by omega),T.fS,if_neg (by omega)];exact ho k hk'
 ·show((z.del kk).set zn _).get zn=_
  rw[T.aK,if_pos rfl,ym,List.length_append];rfl
theorem PS(z0:T aa)(n0:Nat)(L:List ff)(hL:L.length<100000)(s:bg)(hs:fj z0 n0 L s)(x:ff):
 aV Try.prog s.z s.zn 31 [.agg ⟨x.row⟩,ip 0] [(0,oF s.v)] 1 1 (fun s'=>fj z0 n0 (L++[x]) s'/\s.zn<=s'.zn) (fun _=> .tuple ⟨[]⟩) (fun s=>[(0,oF s.v)]) (fun s=>s.z) (fun s=>s.zn):=by
 obtain⟨oa,r,z,zn⟩:=s
 have hz:an z zn:=hs.bb
 have hold:=hs.fP
 have hle:=hs.le
 simp only at hold hle
 refine dJ (dP (zg:=T.leaf)) (fn:=Try.f31) (by kernel_rfl) (by kernel_rfl) hz ⟨by decide,by decide⟩ (fun s' hs'=>⟨rfl,hs'.2,hs'.1.bb⟩) (N:=100) ?_
 rcases hs.val with ⟨h1,h2,h3⟩|⟨h1,kk,k1,k2,h2,h3,h4⟩<;>simp only at h2 h3
 ·subst h2 h3 h1
  refine Zj z zn x _ ?_
  (repeat' first|(with_reducible first|exact rfl|exact True.intro|assumption|apply And.intro|exact hz|exact ny|exact Nat.le_succ _|exact Nat.le_refl _|exact Nat.lt_succ_self _)|exact(rfl:Int.ofNat _=_)|exact hz|exact ny|exact Nat.le_succ _|exact Nat.le_refl _|exact Nat.lt_succ_self _|intro hq)
  exact q2 _ ⟨pP hz hle hold x,Nat.le_succ _⟩ rfl rfl rfl rfl rfl
 ·simp only at h4
  subst h2 h3
  refine fa1 z zn kk L.length ⟨(L.map ff.row).flatten,L.length*4,4,41,false,false,0,true⟩ x _ ?_
  (repeat' first|(with_reducible first|exact rfl|exact True.intro|assumption|apply And.intro|exact hz|exact h4|exact qP L|exact Nat.le_succ _|exact Nat.le_refl _|exact Nat.lt_succ_self _|exact fH hz _|exact ny|exact qE L x _|exact(by show L.length+1<=1048576;omega))|exact(rfl:Int.ofNat _=_)|exact hz|exact h4|exact qP L|exact Nat.le_succ _|exact Nat.le_refl _|exact Nat.lt_succ_self _|exact fH hz _|exact ny|exact qE L x _|exact(by show L.length+1<=1048576;omega)|intro hq)
  exact q2 _ ⟨uD hz hle hold k1 L x,Nat.le_succ _⟩ rfl rfl rfl rfl rfl
theorem b9{z0:T aa}{n0:Nat}{σ:bd}{L:List ff}{s:bg}(h:fj z0 n0 L s):aO (aq σ []) s.v=some s.v/\aO (sig σ) s.v=some s.v:=by
 rcases h.val with ⟨_,e1,e2⟩|⟨_,kk,_,_,e1,e2,_⟩
 ·obtain⟨oa,k,z,zn⟩:=s
  simp only at e1 e2;subst e1 e2;exact⟨rfl,rfl⟩
 ·obtain⟨oa,k,z,zn⟩:=s
  simp only at e1 e2;subst e1 e2
  exact⟨aT σ kk _ _,dM (k:=kk) (len:=L.length) (.inr ⟨rfl,rfl⟩) σ⟩
theorem bZ{z0:T aa}{n0:Nat}{σ:bd}{L:List ff}{s:bg}(h:fj z0 n0 L s):aE (aq σ []) (oF s.v)=some (oF s.v):=by
 simp only[aE,bh,(b9 (σ:=σ) h).1]
theorem cI{z0:T aa}{n0:Nat}{σ:bd}{L:List ff}{s:bg}(h:fj z0 n0 L s):aE (sig σ) (oF s.v)=some (oF s.v):=by
 simp only[aE,bh,(b9 (σ:=σ) h).2]
theorem D0{D:fL}{L:List ff}{k:Nat}{x:aC}(hx:D.bE[k]? =some x)(h:0<oN D.runs x):Nk D L k=L++[⟨4,k,oN D.runs x,0⟩]:=by
 unfold Nk;rw[hx];exact if_pos h
theorem Il{D:fL}{L:List ff}{k:Nat}{x:aC}(hx:D.bE[k]? =some x)(h: ¬0<oN D.runs x):Nk D L k=L:=by
 unfold Nk;rw[hx];exact if_neg h
theorem DZ{D:fL}{L:List ff}{k:Nat}{x:RunT}(hx:D.runs[k]? =some x)(h:x.v.cancelled=true):Nj D L k=L++[⟨5,k,0,0⟩]:=by
 unfold Nj;rw[hx];exact if_pos h
theorem Ik{D:fL}{L:List ff}{k:Nat}{x:RunT}(hx:D.runs[k]? =some x)(h:x.v.cancelled=false):Nj D L k=L:=by
 unfold Nj;rw[hx];exact if_neg (by rw[h];simp)
theorem DO{U:List RunT}{x:aC}{f tn fc tc:Nat}{rf rt:RunT}{ca cb:bk}(e1:x.from_=(f:Int))(e2:x.ax=(tn:Int))(e3:x.fc=(fc:Int))(e4:x.tc=(tc:Int))(h1:U[f]? =some rf)(h2:U[tn]? =some rt)(h3:rf.calls[fc]? =some ca)(h4:rt.calls[tc]? =some cb):oN U x=ca.arr - cb.dep:=by
 unfold oN Nx Nn
 rw[e1,e2,e3,e4,Int.toNat_natCast,Int.toNat_natCast,Int.toNat_natCast,Int.toNat_natCast,h1,h2]
 simp only
 rw[h3,h4]
section
variable{z0:T aa}{n0:Nat}{N:aA}{D:fL}
theorem Lh(hz0:an z0 n0)(hN:eS z0 N D)(hO:Bw D):
 ai Try.prog (ah (ag Try.f20) 0) 2 84 (yd N.l0 N.nl 0) (q8 aw N.box) 2 z0 n0 (Al.R (Sg z0 n0 N (fun s=>fj z0 n0 (dH D D.bE.length) s)).l):=by
 refine ak hD (dP (zg:=T.leaf)) (α:=Nat × bg) 2 84 2 (fun t=>t.1<=N.nl/\fj z0 n0 (dH D t.1) t.2) (fun t=>yd N.l0 N.nl t.1) (fun t=>q8 t.2.v N.box) (fun t=>t.2.z) (fun t=>t.2.zn) (fun t=>N.nl - t.1) _ (fun t hI=>?_) (0,⟨none,0,z0,n0⟩) ⟨Nat.zero_le _,qQ hz0⟩
 obtain⟨i,s⟩:=t
 obtain⟨hi,hs⟩:=hI
 simp only at hi hs ⊢
 have hz:=hs.bb
 have hNs:=hN.Fg hz0 hs.fP
 have hnl:=fm hN.l
 have hb:=hN.box
 have hle:=hO.nl
 have hlen:=kS D i
 have nx:i<N.nl-> ∀s',fj z0 n0 (dH D (i+1)) s'->aj (fun t:Nat × bg=>t.1<=N.nl/\fj z0 n0 (dH D t.1) t.2) (fun t=>yd N.l0 N.nl t.1) (fun t=>q8 t.2.v N.box) 2 (fun t=>t.2.z) (fun t=>t.2.zn) (fun t=>N.nl - t.1) (Al.R (Sg z0 n0 N (fun s=>fj z0 n0 (dH D D.bE.length) s)).l) (i,s) .normal (yd N.l0 N.nl (i+1)) (q8 s'.v N.box) 2 s'.z s'.zn:=fun h s' h1=>
  ⟨(i+1,s'),rfl,rfl,rfl,rfl,rfl,⟨by show i+1<=N.nl;omega,h1⟩,by show N.nl - (i+1)<N.nl - i;omega⟩
 by_cases hlt:i<N.nl
 ·obtain⟨x,hx⟩:=ej (l:=D.bE) (i:=i) (by omega)
  obtain⟨f,tn,fc,tc,rf,rt,ca,cb,e1,e2,e3,e4,h1,h2,h3,h4,b1,b2,b3,b4⟩:=(hO.bE i x hx).ex
  have hl:=DO e1 e2 e3 e4 h1 h2 h3 h4
  have y1:0<ca.arr - cb.dep->dH D (i+1)=dH D i++[⟨4,i,ca.arr - cb.dep,0⟩]:=fun h=>by rw[kR,D0 hx (by rw[hl];exact h),hl]
  have y2: ¬0<ca.arr - cb.dep->dH D (i+1)=dH D i:=fun h=>by rw[kR,Il hx (by rw[hl];exact h)]
  have hla:N.la=some ⟨510,0,none⟩:=by
   rcases hN.l with ⟨_,q,_⟩|⟨q,_⟩
   ·omega
   ·exact q
  have hul:=(List.getElem?_eq_some_iff.1 h1).1
  have htl:=(List.getElem?_eq_some_iff.1 h2).1
  have hun:=fm hN.u
  have hua:N.ua=some ⟨766,0,none⟩:=by
   rcases hN.u with ⟨_,q,_⟩|⟨q,_⟩
   ·omega
   ·exact q
  obtain⟨kl,g1,r1⟩:=hNs.link hx
  obtain⟨kr,g2,_,_,r2⟩:=hNs.run h1
  obtain⟨kr',g2',_,_,r2'⟩:=hNs.run h2
  rw[g2] at g2';cases g2'
  obtain⟨q1,q2,ka,g3,r3,_⟩:=hNs.call h1 h3
  obtain⟨q3,q4,kb,g4,_,r4⟩:=hNs.call h2 h4
  rw[q1,q2] at r2
  rw[q3,q4] at r2'
  have hcf:=(List.getElem?_eq_some_iff.1 h3).1
  have hct:=(List.getElem?_eq_some_iff.1 h4).1
  have hadd:=PS z0 n0 (dH D i) (by omega) s hs ⟨4,i,ca.arr - cb.dep,0⟩
  have hw:Value.int .i64 (IntKind.i64.wrap (ca.arr - cb.dep))=Value.int .i64 (ca.arr - cb.dep):=nX (by omega) (by omega)
  have hc:decide ((i:Int)<(N.nl:Int))=true:=by simp;omega
  obtain⟨sa,ns,sc,ra,nr,rc,ua,nu,uc,la,nl,lc,pa,np,pc,fa,nf,fc',d,w,c⟩:=N
  simp only at hla hua hlt hul htl hun
  subst hla hua
  refine t100 (na1 s.z s.zn i _ x f tn fc tc rf.calls.length rf.v.cc rt.calls.length rt.v.cc kl kr ka kb ca.arr cb.dep s (fun s'=>fj z0 n0 (dH D i++[⟨4,i,ca.arr - cb.dep,0⟩]) s'/\s.zn<=s'.zn) (aj _ _ _ _ _ _ _ _ _) ⟨fun _=>?_,fun h=>(by rw[hc] at h;cases h)⟩)
  (repeat' first|(with_reducible first|exact rfl|exact True.intro|assumption|apply And.intro|exact hz|exact hlt|exact(by omega:f<nu)|exact(by omega:tn<nu)|exact g1|exact g2|exact g3|exact g4|exact r1|exact r2|exact r2'|exact r3|exact r4|exact e1|exact e2|exact e3|exact e4|exact hcf|exact hct|exact hw|exact hadd|exact hb _|exact bZ hs|exact cI hs|exact bZ (And.left (by with_reducible assumption))|exact cI (And.left (by with_reducible assumption))|exact fj.bb (And.left (by with_reducible assumption))|exact aG (by omega))|exact(rfl:Int.ofNat _=_)|exact hz|exact hlt|exact(by omega:f<nu)|exact(by omega:tn<nu)|exact g1|exact g2|exact g3|exact g4|exact r1|exact r2|exact r2'|exact r3|exact r4|exact e1|exact e2|exact e3|exact e4|exact hcf|exact hct|exact hw|exact hadd|exact hb _|exact bZ hs|exact cI hs|exact bZ (And.left (by with_reducible assumption))|exact cI (And.left (by with_reducible assumption))|exact fj.bb (And.left (by with_reducible assumption))|exact aG (by omega)|intro hq)
  all_goals first
   |(rename_i y
     exact nx hlt y (by rw[y1 (by have:=of_decide_eq_true (by with_reducible assumption:decide (cb.dep<ca.arr)=true);omega)];exact hq.1))
   |exact nx hlt s (by rw[y2 (by have:=of_decide_eq_false (by with_reducible assumption:decide (cb.dep<ca.arr)=false);omega)];exact hs)
 ·have e:i=D.bE.length:=by omega
  have hc:Value.bool (decide ((i:Int)<(N.nl:Int)))=Value.bool false:=by
   rw[show decide ((i:Int)<(N.nl:Int))=false by simp;omega]
  refine t100 (VH s.z s.zn i N s (aj _ _ _ _ _ _ _ _ _) ?_)
  (repeat' first|(with_reducible first|exact rfl|exact True.intro|assumption|apply And.intro|exact hz|exact hc|exact hb _|exact bZ hs)|exact(rfl:Int.ofNat _=_)|exact hz|exact hc|exact hb _|exact bZ hs|intro hq)
  all_goals first
   |exact yT (k:=fun _=>dN) s (by rw[←e];exact hs) rfl
theorem Lg(hz0:an z0 n0)(hN:eS z0 N D)(hO:Bw D)(L:List ff)(hL:L.length<=2000)(s0:bg)(hs0:fj z0 n0 L s0):
 ai Try.prog (ah (ag Try.f20) 1) 2 84 (yc N.u0 N.nu 0) (q8 s0.v N.box) 2 s0.z s0.zn (Al.R (Sf N (fun _ s=>fj z0 n0 (eI D L D.runs.length) s) s0).l):=by
 refine ak hD (dP (zg:=T.leaf)) (α:=Nat × bg) 2 84 2 (fun t=>t.1<=N.nu/\fj z0 n0 (eI D L t.1) t.2) (fun t=>yc N.u0 N.nu t.1) (fun t=>q8 t.2.v N.box) (fun t=>t.2.z) (fun t=>t.2.zn) (fun t=>N.nu - t.1) _ (fun t hI=>?_) (0,s0) ⟨Nat.zero_le _,hs0⟩
 obtain⟨i,s⟩:=t
 obtain⟨hi,hs⟩:=hI
 simp only at hi hs ⊢
 have hz:=hs.bb
 have hNs:=hN.Fg hz0 hs.fP
 have hnu:=fm hN.u
 have hb:=hN.box
 have hle:=hO.nu
 have hlen:=pO D L i
 have nx:i<N.nu-> ∀s',fj z0 n0 (eI D L (i+1)) s'->aj (fun t:Nat × bg=>t.1<=N.nu/\fj z0 n0 (eI D L t.1) t.2) (fun t=>yc N.u0 N.nu t.1) (fun t=>q8 t.2.v N.box) 2 (fun t=>t.2.z) (fun t=>t.2.zn) (fun t=>N.nu - t.1) (Al.R (Sf N (fun _ s=>fj z0 n0 (eI D L D.runs.length) s) s0).l) (i,s) .normal (yc N.u0 N.nu (i+1)) (q8 s'.v N.box) 2 s'.z s'.zn:=fun h s' h1=>
  ⟨(i+1,s'),rfl,rfl,rfl,rfl,rfl,⟨by show i+1<=N.nu;omega,h1⟩,by show N.nu - (i+1)<N.nu - i;omega⟩
 by_cases hlt:i<N.nu
 ·obtain⟨x,hx⟩:=ej (l:=D.runs) (i:=i) (by omega)
  have y1:x.v.cancelled=true->eI D L (i+1)=eI D L i++[⟨5,i,0,0⟩]:=fun h=>by rw[kQ,DZ hx h]
  have y2:x.v.cancelled=false->eI D L (i+1)=eI D L i:=fun h=>by rw[kQ,Ik hx h]
  have hua:N.ua=some ⟨766,0,none⟩:=by
   rcases hN.u with ⟨_,q,_⟩|⟨q,_⟩
   ·omega
   ·exact q
  obtain⟨kr,g2,r2,_,_⟩:=hNs.run hx
  have hadd:=PS z0 n0 (eI D L i) (by omega) s hs ⟨5,i,0,0⟩
  have hc:decide ((i:Int)<(N.nu:Int))=true:=by simp;omega
  have hslx:aO (sig []) (.slice x.v.ca x.v.cn x.v.cc)=some (.slice x.v.ca x.v.cn x.v.cc):=by
   rcases hN.tu.sl i x hx with h|⟨⟨b,o,sp,e⟩,e2,e3,_⟩
   ·exact dM h _
   ·rw[e,e2,e3];rfl
  obtain⟨sa,ns,sc,ra,nr,rc,ua,nu,uc,la,nl,lc,pa,np,pc,fa,nf,fc',d,w,c⟩:=N
  simp only at hua hlt
  subst hua
  refine t100 (na2 s.z s.zn i _ x.v kr s (fun s'=>fj z0 n0 (eI D L i++[⟨5,i,0,0⟩]) s'/\s.zn<=s'.zn) (aj _ _ _ _ _ _ _ _ _) ⟨fun _=>?_,fun h=>(by rw[hc] at h;cases h)⟩)
  (repeat' first|(with_reducible first|exact rfl|exact True.intro|assumption|apply And.intro|exact hz|exact hlt|exact g2|exact r2|exact hadd|exact hb _|exact hslx|exact bZ hs|exact cI hs|exact bZ (And.left (by with_reducible assumption))|exact cI (And.left (by with_reducible assumption))|exact fj.bb (And.left (by with_reducible assumption))|exact aG (by omega))|exact(rfl:Int.ofNat _=_)|exact hz|exact hlt|exact g2|exact r2|exact hadd|exact hb _|exact hslx|exact bZ hs|exact cI hs|exact bZ (And.left (by with_reducible assumption))|exact cI (And.left (by with_reducible assumption))|exact fj.bb (And.left (by with_reducible assumption))|exact aG (by omega)|intro hq)
  all_goals first
   |(rename_i y
     exact nx hlt y (by rw[y1 (by with_reducible assumption)];exact hq.1))
   |exact nx hlt s (by rw[y2 (by with_reducible assumption)];exact hs)
 ·have e:i=D.runs.length:=by omega
  have hc:Value.bool (decide ((i:Int)<(N.nu:Int)))=Value.bool false:=by
   rw[show decide ((i:Int)<(N.nu:Int))=false by simp;omega]
  refine t100 (VG s.z s.zn i N s (aj _ _ _ _ _ _ _ _ _) ?_)
  (repeat' first|(with_reducible first|exact rfl|exact True.intro|assumption|apply And.intro|exact hz|exact hc|exact hb _|exact bZ hs)|exact(rfl:Int.ofNat _=_)|exact hz|exact hc|exact hb _|exact bZ hs|intro hq)
  all_goals first
   |exact yT (k:=fun _=>dN) s (by rw[←e];exact hs) rfl
theorem WV(hz:an z0 n0)(hN:eS z0 N D)(hll:D.paths.length<=10000):
 aV Try.prog z0 n0 20 [CS,ip 1] (q8 aw N.box) 2 2 (fj z0 n0 (bL N D)) (fun _=> .tuple ⟨[]⟩) (fun s=>q8 s.v N.box) (fun s=>s.z) (fun s=>s.zn):=by
 have hchk:=uQ hz hN hll
 have hv:=mF (hN.val [])
 have hb:=hN.box
 have hadd:=PS z0 n0 [] (by simp) ⟨none,0,z0,n0⟩ (qQ hz) ⟨3,(aP N D).1,(aP N D).2.1,(aP N D).2.2⟩
 have h1:(aP N D).2.2=0->_:=fun h=>Lh (N:=N) hz hN (mH h)
 have h2:(aP N D).2.2=0-> ∀s,fj z0 n0 (dH D D.bE.length) s->_:=fun h s hs=>Lg (N:=N) hz hN (mH h) (dH D D.bE.length) (by have:=kS D D.bE.length;have:=(mH h).nl;omega) s hs
 have e1:(aP N D).2.2≠0->bL N D=[⟨3,(aP N D).1,(aP N D).2.1,(aP N D).2.2⟩]:=fun h=>if_pos h
 have e2:(aP N D).2.2=0->bL N D=eI D (dH D D.bE.length) D.runs.length:=fun h=>if_neg (by simpa using h)
 refine dJ (dP (zg:=T.leaf)) (fn:=Try.f20) (by kernel_rfl) (by kernel_rfl) hz ⟨by decide,by decide⟩ (fun s' hs'=>⟨rfl,hs'.le,hs'.bb⟩) (N:=100) ?_
 refine na z0 n0 N (aP N D).1 (aP N D).2.1 (aP N D).2.2 (fun s'=>fj z0 n0 [⟨3,(aP N D).1,(aP N D).2.1,(aP N D).2.2⟩] s'/\n0<=s'.zn) (fun s=>fj z0 n0 (dH D D.bE.length) s) (fun _ s=>fj z0 n0 (eI D (dH D D.bE.length) D.runs.length) s) _ ?_
 (repeat' first|(with_reducible first|exact rfl|exact True.intro|assumption|apply And.intro|exact hz|exact hchk|exact hv|exact hadd|exact hb _|exact h1 (ew (by with_reducible assumption))|exact h2 (ew (by with_reducible assumption)) _ (by with_reducible assumption)|exact fo hN.l _|exact fo hN.u _|exact bZ (And.left (by with_reducible assumption))|exact cI (And.left (by with_reducible assumption))|exact bZ (by with_reducible assumption)|exact cI (by with_reducible assumption)|exact fj.bb (And.left (by with_reducible assumption))|exact fj.bb (by with_reducible assumption))|exact(rfl:Int.ofNat _=_)|exact hz|exact hchk|exact hv|exact hadd|exact hb _|exact h1 (ew (by with_reducible assumption))|exact h2 (ew (by with_reducible assumption)) _ (by with_reducible assumption)|exact fo hN.l _|exact fo hN.u _|exact bZ (And.left (by with_reducible assumption))|exact cI (And.left (by with_reducible assumption))|exact bZ (by with_reducible assumption)|exact cI (by with_reducible assumption)|exact fj.bb (And.left (by with_reducible assumption))|exact fj.bb (by with_reducible assumption)|intro hq)
 all_goals first
  |(rename_i h9 s9
    exact q2 s9 (by rw[e1 (by simpa using (by with_reducible assumption:((aP N D).2.2 !=0)=true))];exact hq.1) rfl rfl rfl rfl rfl)
  |(rename_i s9
    exact q2 s9 (by rw[e2 (ew (by with_reducible assumption))];exact hq) rfl rfl rfl rfl rfl)
theorem SR(hz:an z0 n0)(hN:eS z0 N D)(hll:D.paths.length<=10000):
 aV Try.prog z0 n0 19 [Ii] [(0,N.box)] 1 1 (fj z0 n0 (bL N D)) (fun s=>s.v) (fun _=>[(0,N.box)]) (fun s=>s.z) (fun s=>s.zn):=by
 have h1:=WV hz hN hll
 have hb:=hN.box
 have hb2:aE (sig [(0,1),(1,0)]) N.box=some N.box:=by
  simp only[aE,hN.yx]
 refine dJ (dP (zg:=T.leaf)) (fn:=Try.f19) (by kernel_rfl) (by kernel_rfl) hz ⟨by decide,by decide⟩ (fun s' hs'=>⟨rfl,hs'.le,hs'.bb⟩) (N:=100) ?_
 refine Zb z0 n0 N (fj z0 n0 (bL N D)) _ ?_
 (repeat' first|(with_reducible first|exact rfl|exact True.intro|assumption|apply And.intro|exact hz|exact h1|exact hb _|exact hb2|exact(b9 (by with_reducible assumption)).1|exact(b9 (by with_reducible assumption)).2|exact bZ (by with_reducible assumption)|exact cI (by with_reducible assumption)|exact fj.bb (by with_reducible assumption))|exact(rfl:Int.ofNat _=_)|exact hz|exact h1|exact hb _|exact hb2|exact(b9 (by with_reducible assumption)).1|exact(b9 (by with_reducible assumption)).2|exact bZ (by with_reducible assumption)|exact cI (by with_reducible assumption)|exact fj.bb (by with_reducible assumption)|intro hq)
 all_goals first
  |(rename_i s9
    exact q2 s9 hq rfl rfl rfl rfl rfl)
theorem FO(hz:an z0 n0)(hN:eS z0 N D)(hll:D.paths.length<=10000):
 aV Try.prog z0 n0 7 [.agg ⟨N.cells⟩] [] 0 0 (fj z0 n0 (bL N D)) (fun s=>s.v) (fun _=>[]) (fun s=>s.z) (fun s=>s.zn):=by
 have h1:=SR hz hN hll
 have hb:=hN.box
 have hb2: ∀σ,aE (sig σ) N.box=some N.box:=fun σ=>by
  simp only[aE,hN.yx]
 refine dJ (dP (zg:=T.leaf)) (fn:=Try.f7) (by kernel_rfl) (by kernel_rfl) hz ⟨by decide,by decide⟩ (fun s' hs'=>⟨rfl,hs'.le,hs'.bb⟩) (N:=100) ?_
 refine Za z0 n0 N (fj z0 n0 (bL N D)) _ ?_
 (repeat' first|(with_reducible first|exact rfl|exact True.intro|assumption|apply And.intro|exact hz|exact h1|exact hb _|exact hb2 _|exact(b9 (by with_reducible assumption)).1|exact(b9 (by with_reducible assumption)).2|exact bZ (by with_reducible assumption)|exact cI (by with_reducible assumption)|exact fj.bb (by with_reducible assumption))|exact(rfl:Int.ofNat _=_)|exact hz|exact h1|exact hb _|exact hb2 _|exact(b9 (by with_reducible assumption)).1|exact(b9 (by with_reducible assumption)).2|exact bZ (by with_reducible assumption)|exact cI (by with_reducible assumption)|exact fj.bb (by with_reducible assumption)|intro hq)
 all_goals first
  |(rename_i s9
    exact q2 s9 hq rfl rfl rfl rfl rfl)
end
structure vV(z0:T aa)(n0:Nat)(L:List ff)(s:bg):Prop where
 bb:an s.z s.zn
 le:n0<=s.zn
 fP: ∀k,k<n0->s.z.get k=z0.get k
 val:(L=[]/\s.oa=none/\s.k=0)\/(L≠[]/\ ∃kk kb,n0<=kk/\kk<s.zn/\s.oa=some ⟨256*kk+510,0,none⟩/\s.k=L.length/\s.z.get kk=some (.ay kb)/\kb.cells=(L.map ff.row).flatten)
theorem fj.o{z0:T aa}{n0:Nat}{L:List ff}{s:bg}(h:fj z0 n0 L s):vV z0 n0 L s:=
 ⟨h.bb,h.le,h.fP,by
   rcases h.val with h|⟨h1,kk,h2,h3,h4,h5,h6⟩
   ·exact .inl h
   ·exact .inr ⟨h1,kk,_,h2,h3,h4,h5,h6,rfl⟩⟩
theorem o8{k:Nat}{a:Option Addr}{n c len:Nat}(h:zp k a n c len)(hn:0<n):a=some ⟨256*k+510,0,none⟩:=by
 rcases h with ⟨_,q,_⟩|⟨q,_⟩
 ·omega
 ·exact q
theorem jV{k:Nat}{a:Option Addr}{n c len:Nat}(h:zp k a n c len){kz cn:Nat}{o:aa}(hk:k≠kz)(σ:bd):aO (aq σ [(kz,cn,o)]) (.slice a n c)=some (.slice a n c):=by
 rcases h with ⟨rfl,rfl,rfl,_⟩|⟨rfl,rfl⟩
 ·rfl
 ·simp only[aO,lz hk]
theorem eS.S0{z:T aa}{N:aA}{D:fL}(h:eS z N D){kz cn:Nat}{o:aa}(hk:6<=kz)(σ:bd):aE (aq σ [(kz,cn,o)]) N.box=some N.box:=by
 have e: ∀x:Int,aO (aq σ [(kz,cn,o)]) (zv x)=some (zv x):=fun _=>rfl
 simp only[aE,bh,jV h.s (show 2≠kz by omega),jV h.r (show 3≠kz by omega),jV h.u (show 1≠kz by omega),jV h.l (show 0≠kz by omega),jV h.p (show 4≠kz by omega),jV h.f (show 5≠kz by omega),e]
section
variable{z0:T aa}{n0:Nat}{N:aA}{D:fL}
theorem Le(h6:6<=n0)(hz0:an z0 n0)(hN:eS z0 N D)(hO:Bw D):
 ai Try.prog (ah (ag Try.f9) 0) 1 88 (vI aw N.l0 N.nl 0) [(0,N.box)] 1 z0 n0 (Al.R (Sd z0 n0 N (fun s=>fj z0 n0 (dH D D.bE.length) s)).l):=by
 refine ak hD (dP (zg:=T.leaf)) (α:=Nat × bg) 1 88 1 (fun t=>t.1<=N.nl/\fj z0 n0 (dH D t.1) t.2) (fun t=>vI t.2.v N.l0 N.nl t.1) (fun t=>[(0,N.box)]) (fun t=>t.2.z) (fun t=>t.2.zn) (fun t=>N.nl - t.1) _ (fun t hI=>?_) (0,⟨none,0,z0,n0⟩) ⟨Nat.zero_le _,qQ hz0⟩
 obtain⟨i,s⟩:=t
 obtain⟨hi,hs⟩:=hI
 simp only at hi hs ⊢
 have hz:=hs.bb
 have hNs:=hN.Fg hz0 hs.fP
 have hnl:=fm hN.l
 have hb:=hN.box
 have hle:=hO.nl
 have hlen:=kS D i
 have nx:i<N.nl-> ∀s',fj z0 n0 (dH D (i+1)) s'->aj (fun t:Nat × bg=>t.1<=N.nl/\fj z0 n0 (dH D t.1) t.2) (fun t=>vI t.2.v N.l0 N.nl t.1) (fun t=>[(0,N.box)]) 1 (fun t=>t.2.z) (fun t=>t.2.zn) (fun t=>N.nl - t.1) (Al.R (Sd z0 n0 N (fun s=>fj z0 n0 (dH D D.bE.length) s)).l) (i,s) .normal (vI s'.v N.l0 N.nl (i+1)) [(0,N.box)] 1 s'.z s'.zn:=fun h s' h1=>
  ⟨(i+1,s'),rfl,rfl,rfl,rfl,rfl,⟨by show i+1<=N.nl;omega,h1⟩,by show N.nl - (i+1)<N.nl - i;omega⟩
 by_cases hlt:i<N.nl
 ·obtain⟨x,hx⟩:=ej (l:=D.bE) (i:=i) (by omega)
  obtain⟨f,tn,fc,tc,rf,rt,ca,cb,e1,e2,e3,e4,h1,h2,h3,h4,b1,b2,b3,b4⟩:=(hO.bE i x hx).ex
  have hl:=DO e1 e2 e3 e4 h1 h2 h3 h4
  have y1:0<ca.arr - cb.dep->dH D (i+1)=dH D i++[⟨4,i,ca.arr - cb.dep,0⟩]:=fun h=>by rw[kR,D0 hx (by rw[hl];exact h),hl]
  have y2: ¬0<ca.arr - cb.dep->dH D (i+1)=dH D i:=fun h=>by rw[kR,Il hx (by rw[hl];exact h)]
  have hla:=o8 hN.l (by omega)
  have hul:=(List.getElem?_eq_some_iff.1 h1).1
  have htl:=(List.getElem?_eq_some_iff.1 h2).1
  have hun:=fm hN.u
  have hua:=o8 hN.u (by omega)
  obtain⟨kl,g1,r1⟩:=hNs.link hx
  obtain⟨kr,g2,_,_,r2⟩:=hNs.run h1
  obtain⟨kr',g2',_,_,r2'⟩:=hNs.run h2
  rw[g2] at g2';cases g2'
  obtain⟨q1,q2,ka,g3,r3,_⟩:=hNs.call h1 h3
  obtain⟨q3,q4,kb,g4,_,r4⟩:=hNs.call h2 h4
  rw[q1,q2] at r2
  rw[q3,q4] at r2'
  have hcf:=(List.getElem?_eq_some_iff.1 h3).1
  have hct:=(List.getElem?_eq_some_iff.1 h4).1
  have hw:Value.int .i64 (IntKind.i64.wrap (ca.arr - cb.dep))=Value.int .i64 (ca.arr - cb.dep):=nX (by omega) (by omega)
  have hc:decide ((i:Int)<(N.nl:Int))=true:=by simp;omega
  obtain⟨sa,ns,sc,ra,nr,rc,ua,nu,uc,la,nl,lc,pa,np,pc,fa,nf,fc',d,w,c⟩:=N
  simp only at hla hua hlt hul htl hun
  subst hla hua
  have hle0:=hs.le
  have hbm: ∀(σ:bd)(kn:Nat)(o:aa),_:=fun σ kn o=>hN.S0 (kz:=s.zn) (cn:=kn) (o:=o) (by omega) σ
  have hlm: ∀(σ:bd)(kn:Nat)(o:aa),_:=fun σ kn o=>jV hN.l (kz:=s.zn) (cn:=kn) (o:=o) (by omega) σ
  obtain⟨oa,r,z,zn⟩:=s
  rcases hs.val with ⟨v1,v2,v3⟩|⟨v1,kk,k1,k2,v2,v3,v4⟩<;>simp only at v2 v3
  ·subst v2 v3
   refine t100 (oa1 z zn i _ x f tn fc tc rf.calls.length rf.v.cc rt.calls.length rt.v.cc kl kr ka kb ca.arr cb.dep (aj _ _ _ _ _ _ _ _ _) ⟨fun _=>?_,fun h=>(by rw[hc] at h;cases h)⟩)
   (repeat' first|(with_reducible first|exact rfl|exact True.intro|assumption|apply And.intro|exact hz|exact hlt|exact(by omega:f<nu)|exact(by omega:tn<nu)|exact g1|exact g2|exact g3|exact g4|exact r1|exact r2|exact r2'|exact r3|exact r4|exact e1|exact e2|exact e3|exact e4|exact hcf|exact hct|exact hw|exact hb _|exact hbm _ _ _|exact hlm _ _ _|exact Nat.le_succ _|exact Nat.le_refl _|exact Nat.lt_succ_self _|exact eA|exact aG (by omega))|exact(rfl:Int.ofNat _=_)|exact hz|exact hlt|exact(by omega:f<nu)|exact(by omega:tn<nu)|exact g1|exact g2|exact g3|exact g4|exact r1|exact r2|exact r2'|exact r3|exact r4|exact e1|exact e2|exact e3|exact e4|exact hcf|exact hct|exact hw|exact hb _|exact hbm _ _ _|exact hlm _ _ _|exact Nat.le_succ _|exact Nat.le_refl _|exact Nat.lt_succ_self _|exact eA|exact aG (by omega)|intro hq)
   all_goals first
    |exact nx hlt ⟨some ⟨256*zn+510,0,none⟩,1,z.set zn (uE (ff.row ⟨4,i,ca.arr - cb.dep,0⟩) 1),zn+1⟩ (by
     rw[y1 (by have:=of_decide_eq_true (by with_reducible assumption:decide (ca.arr - cb.dep>0)=true);omega),v1]
     exact pP hz hle0 hs.fP _)
    |exact nx hlt ⟨none,0,z,zn⟩ (by rw[y2 (by have:=of_decide_eq_false (by with_reducible assumption:decide (ca.arr - cb.dep>0)=false);omega)];exact hs)
  ·simp only at v4 hle0
   subst v2 v3
   have hkz:kk≠zn:=by simp only at k2;omega
   refine t100 (VD z zn i kk (dH D i).length ⟨((dH D i).map ff.row).flatten,(dH D i).length*4,4,41,false,false,0,true⟩ _ x f tn fc tc rf.calls.length rf.v.cc rt.calls.length rt.v.cc kl kr ka kb ca.arr cb.dep (aj _ _ _ _ _ _ _ _ _) ⟨fun _=>?_,fun h=>(by rw[hc] at h;cases h)⟩)
   (repeat' first|(with_reducible first|exact rfl|exact True.intro|assumption|apply And.intro|exact hz|exact hlt|exact(by omega:f<nu)|exact(by omega:tn<nu)|exact g1|exact g2|exact g3|exact g4|exact r1|exact r2|exact r2'|exact r3|exact r4|exact e1|exact e2|exact e3|exact e4|exact hcf|exact hct|exact hw|exact v4|exact qP _|exact hb _|exact hbm _ _ _|exact hlm _ _ _|exact Nat.le_succ _|exact Nat.le_refl _|exact Nat.lt_succ_self _|exact fH hz _|exact eA|exact aT _ _ _ _|exact qE _ ⟨4,i,ca.arr - cb.dep,0⟩ _|exact(by show(dH D i).length+1<=1048576;omega)|exact aG (by omega))|exact(rfl:Int.ofNat _=_)|exact hz|exact hlt|exact(by omega:f<nu)|exact(by omega:tn<nu)|exact g1|exact g2|exact g3|exact g4|exact r1|exact r2|exact r2'|exact r3|exact r4|exact e1|exact e2|exact e3|exact e4|exact hcf|exact hct|exact hw|exact v4|exact qP _|exact hb _|exact hbm _ _ _|exact hlm _ _ _|exact Nat.le_succ _|exact Nat.le_refl _|exact Nat.lt_succ_self _|exact fH hz _|exact eA|exact aT _ _ _ _|exact qE _ ⟨4,i,ca.arr - cb.dep,0⟩ _|exact(by show(dH D i).length+1<=1048576;omega)|exact aG (by omega)|intro hq)
   all_goals first
    |exact nx hlt ⟨some ⟨256*zn+510,0,none⟩,(dH D i).length+1,(z.del kk).set zn (uE (((dH D i).map ff.row).flatten++ff.row ⟨4,i,ca.arr - cb.dep,0⟩) ((dH D i).length+1)),zn+1⟩ (by
     rw[y1 (by have:=of_decide_eq_true (by with_reducible assumption:decide (ca.arr - cb.dep>0)=true);omega)]
     exact uD hz hle0 hs.fP k1 _ _)
    |exact nx hlt ⟨some ⟨256*kk+510,0,none⟩,(dH D i).length,z,zn⟩ (by rw[y2 (by have:=of_decide_eq_false (by with_reducible assumption:decide (ca.arr - cb.dep>0)=false);omega)];exact hs)
 ·have e:i=D.bE.length:=by omega
  have hc:Value.bool (decide ((i:Int)<(N.nl:Int)))=Value.bool false:=by
   rw[show decide ((i:Int)<(N.nl:Int))=false by simp;omega]
  refine t100 (VE s.z s.zn i N s (aj _ _ _ _ _ _ _ _ _) ?_)
  (repeat' first|(with_reducible first|exact rfl|exact True.intro|assumption|apply And.intro|exact hz|exact hc|exact hb _|exact(b9 hs).1)|exact(rfl:Int.ofNat _=_)|exact hz|exact hc|exact hb _|exact(b9 hs).1|intro hq)
  all_goals first
   |exact yT (k:=fun _=>dN) s (by rw[←e];exact hs) rfl
theorem Lc(h6:6<=n0)(hz0:an z0 n0)(hN:eS z0 N D)(hO:Bw D)(L:List ff)(hL:L.length<=2000)(s0:bg)(hs0:fj z0 n0 L s0):
 ai Try.prog (ah (ag Try.f9) 1) 1 88 (vH s0.v N.u0 N.nu 0) [(0,N.box)] 1 s0.z s0.zn (Al.R (Sc N (fun _ s=>fj z0 n0 (eI D L D.runs.length) s) s0).l):=by
 refine ak hD (dP (zg:=T.leaf)) (α:=Nat × bg) 1 88 1 (fun t=>t.1<=N.nu/\fj z0 n0 (eI D L t.1) t.2) (fun t=>vH t.2.v N.u0 N.nu t.1) (fun t=>[(0,N.box)]) (fun t=>t.2.z) (fun t=>t.2.zn) (fun t=>N.nu - t.1) _ (fun t hI=>?_) (0,s0) ⟨Nat.zero_le _,hs0⟩
 obtain⟨i,s⟩:=t
 obtain⟨hi,hs⟩:=hI
 simp only at hi hs ⊢
 have hz:=hs.bb
 have hNs:=hN.Fg hz0 hs.fP
 have hnu:=fm hN.u
 have hb:=hN.box
 have hle:=hO.nu
 have hlen:=pO D L i
 have nx:i<N.nu-> ∀s',fj z0 n0 (eI D L (i+1)) s'->aj (fun t:Nat × bg=>t.1<=N.nu/\fj z0 n0 (eI D L t.1) t.2) (fun t=>vH t.2.v N.u0 N.nu t.1) (fun t=>[(0,N.box)]) 1 (fun t=>t.2.z) (fun t=>t.2.zn) (fun t=>N.nu - t.1) (Al.R (Sc N (fun _ s=>fj z0 n0 (eI D L D.runs.length) s) s0).l) (i,s) .normal (vH s'.v N.u0 N.nu (i+1)) [(0,N.box)] 1 s'.z s'.zn:=fun h s' h1=>
  ⟨(i+1,s'),rfl,rfl,rfl,rfl,rfl,⟨by show i+1<=N.nu;omega,h1⟩,by show N.nu - (i+1)<N.nu - i;omega⟩
 by_cases hlt:i<N.nu
 ·obtain⟨x,hx⟩:=ej (l:=D.runs) (i:=i) (by omega)
  have y1:x.v.cancelled=true->eI D L (i+1)=eI D L i++[⟨5,i,0,0⟩]:=fun h=>by rw[kQ,DZ hx h]
  have y2:x.v.cancelled=false->eI D L (i+1)=eI D L i:=fun h=>by rw[kQ,Ik hx h]
  have hua:=o8 hN.u (by omega)
  obtain⟨kr,g2,_,r2,_⟩:=hNs.run hx
  have hc:decide ((i:Int)<(N.nu:Int))=true:=by simp;omega
  obtain⟨sa,ns,sc,ra,nr,rc,ua,nu,uc,la,nl,lc,pa,np,pc,fa,nf,fc',d,w,c⟩:=N
  simp only at hua hlt
  subst hua
  have hle0:=hs.le
  have hbm: ∀(σ:bd)(kn:Nat)(o:aa),_:=fun σ kn o=>hN.S0 (kz:=s.zn) (cn:=kn) (o:=o) (by omega) σ
  have hlm: ∀(σ:bd)(kn:Nat)(o:aa),_:=fun σ kn o=>jV hN.u (kz:=s.zn) (cn:=kn) (o:=o) (by omega) σ
  obtain⟨oa,r,z,zn⟩:=s
  rcases hs.val with ⟨v1,v2,v3⟩|⟨v1,kk,k1,k2,v2,v3,v4⟩<;>simp only at v2 v3
  ·subst v2 v3
   refine t100 (oa2 z zn i _ kr x.v.cancelled (aj _ _ _ _ _ _ _ _ _) ⟨fun _=>?_,fun h=>(by rw[hc] at h;cases h)⟩)
   (repeat' first|(with_reducible first|exact rfl|exact True.intro|assumption|apply And.intro|exact hz|exact hlt|exact g2|exact r2|exact hb _|exact hbm _ _ _|exact hlm _ _ _|exact Nat.le_succ _|exact Nat.le_refl _|exact Nat.lt_succ_self _|exact eA|exact aG (by omega))|exact(rfl:Int.ofNat _=_)|exact hz|exact hlt|exact g2|exact r2|exact hb _|exact hbm _ _ _|exact hlm _ _ _|exact Nat.le_succ _|exact Nat.le_refl _|exact Nat.lt_succ_self _|exact eA|exact aG (by omega)|intro hq)
   all_goals first
    |exact nx hlt ⟨some ⟨256*zn+510,0,none⟩,1,z.set zn (uE (ff.row ⟨5,i,0,0⟩) 1),zn+1⟩ (by
     rw[y1 (by with_reducible assumption),v1]
     exact pP hz hle0 hs.fP _)
    |exact nx hlt ⟨none,0,z,zn⟩ (by rw[y2 (by with_reducible assumption)];exact hs)
  ·simp only at v4 hle0
   subst v2 v3
   have hkz:kk≠zn:=by simp only at k2;omega
   refine t100 (VB z zn i kk (eI D L i).length ⟨((eI D L i).map ff.row).flatten,(eI D L i).length*4,4,41,false,false,0,true⟩ _ kr x.v.cancelled (aj _ _ _ _ _ _ _ _ _) ⟨fun _=>?_,fun h=>(by rw[hc] at h;cases h)⟩)
   (repeat' first|(with_reducible first|exact rfl|exact True.intro|assumption|apply And.intro|exact hz|exact hlt|exact g2|exact r2|exact v4|exact qP _|exact hb _|exact hbm _ _ _|exact hlm _ _ _|exact Nat.le_succ _|exact Nat.le_refl _|exact Nat.lt_succ_self _|exact fH hz _|exact eA|exact aT _ _ _ _|exact qE _ ⟨5,i,0,0⟩ _|exact(by show(eI D L i).length+1<=1048576;omega)|exact aG (by omega))|exact(rfl:Int.ofNat _=_)|exact hz|exact hlt|exact g2|exact r2|exact v4|exact qP _|exact hb _|exact hbm _ _ _|exact hlm _ _ _|exact Nat.le_succ _|exact Nat.le_refl _|exact Nat.lt_succ_self _|exact fH hz _|exact eA|exact aT _ _ _ _|exact qE _ ⟨5,i,0,0⟩ _|exact(by show(eI D L i).length+1<=1048576;omega)|exact aG (by omega)|intro hq)
   all_goals first
    |exact nx hlt ⟨some ⟨256*zn+510,0,none⟩,(eI D L i).length+1,(z.del kk).set zn (uE (((eI D L i).map ff.row).flatten++ff.row ⟨5,i,0,0⟩) ((eI D L i).length+1)),zn+1⟩ (by
     rw[y1 (by with_reducible assumption)]
     exact uD hz hle0 hs.fP k1 _ _)
    |exact nx hlt ⟨some ⟨256*kk+510,0,none⟩,(eI D L i).length,z,zn⟩ (by rw[y2 (by with_reducible assumption)];exact hs)
 ·have e:i=D.runs.length:=by omega
  have hc:Value.bool (decide ((i:Int)<(N.nu:Int)))=Value.bool false:=by
   rw[show decide ((i:Int)<(N.nu:Int))=false by simp;omega]
  refine t100 (VC s.z s.zn i N s (aj _ _ _ _ _ _ _ _ _) ?_)
  (repeat' first|(with_reducible first|exact rfl|exact True.intro|assumption|apply And.intro|exact hz|exact hc|exact hb _|exact(b9 hs).1)|exact(rfl:Int.ofNat _=_)|exact hz|exact hc|exact hb _|exact(b9 hs).1|intro hq)
  all_goals first
   |exact yT (k:=fun _=>dN) s (by rw[←e];exact hs) rfl
theorem SN(h6:6<=n0)(hz:an z0 n0)(hN:eS z0 N D)(hll:D.paths.length<=10000)(hul:D.runs.length<100000)(hkl:D.bE.length<100000):
 aV Try.prog z0 n0 9 [.agg ⟨N.cells⟩] [] 0 0 (vV z0 n0 (bL N D)) (fun s=>s.v) (fun _=>[]) (fun s=>s.z) (fun s=>s.zn):=by
 have hchk:=FK hz (by omega) hN hll hul hkl
 have hv:=mF (hN.val [])
 have hb:=hN.box
 refine dJ (dP (zg:=T.leaf)) (fn:=Try.f9) (by kernel_rfl) (by kernel_rfl) hz ⟨by decide,by decide⟩ (fun s' hs'=>⟨rfl,hs'.le,hs'.bb⟩) (N:=100) ?_
 by_cases h:(aP N D).2.2=0
 ·have e2:bL N D=eI D (dH D D.bE.length) D.runs.length:=if_neg (by simpa using h)
  have hO:=mH h
  have h1:=Le (N:=N) h6 hz hN hO
  have h2: ∀s,fj z0 n0 (dH D D.bE.length) s->_:=fun s hs=>Lc (N:=N) h6 hz hN hO (dH D D.bE.length) (by have:=kS D D.bE.length;have:=hO.nl;omega) s hs
  have hb0:Value.bool ((aP N D).2.2 !=0)=Value.bool false:=by rw[h];rfl
  refine oaf z0 n0 N (aP N D).1 (aP N D).2.1 (aP N D).2.2 trivial (fun s=>fj z0 n0 (dH D D.bE.length) s) (fun _ s=>fj z0 n0 (eI D (dH D D.bE.length) D.runs.length) s) _ ?_
  (repeat' first|(with_reducible first|exact rfl|exact True.intro|assumption|apply And.intro|exact hz|exact hchk|exact hv|exact hb _|exact hb0|exact h1|exact h2 _ (by with_reducible assumption)|exact fo hN.l _|exact fo hN.u _|exact(b9 (by with_reducible assumption)).1|exact(b9 (by with_reducible assumption)).2|exact fj.bb (by with_reducible assumption))|exact(rfl:Int.ofNat _=_)|exact hz|exact hchk|exact hv|exact hb _|exact hb0|exact h1|exact h2 _ (by with_reducible assumption)|exact fo hN.l _|exact fo hN.u _|exact(b9 (by with_reducible assumption)).1|exact(b9 (by with_reducible assumption)).2|exact fj.bb (by with_reducible assumption)|intro hq)
  all_goals first
   |(rename_i s9
     exact q2 s9 (by rw[e2];exact fj.o hq) rfl rfl rfl rfl rfl)
 ·have e1:bL N D=[⟨3,(aP N D).1,(aP N D).2.1,(aP N D).2.2⟩]:=if_pos h
  have hb0:Value.bool ((aP N D).2.2 !=0)=Value.bool true:=by
   rw[show((aP N D).2.2 !=0)=true by simpa using h]
  refine VA z0 n0 N (aP N D).1 (aP N D).2.1 (aP N D).2.2 _ ?_
  (repeat' first|(with_reducible first|exact rfl|exact True.intro|assumption|apply And.intro|exact hz|exact hchk|exact hv|exact hb0|exact Nat.le_succ _|exact Nat.le_refl _|exact Nat.lt_succ_self _|exact eA)|exact(rfl:Int.ofNat _=_)|exact hz|exact hchk|exact hv|exact hb0|exact Nat.le_succ _|exact Nat.le_refl _|exact Nat.lt_succ_self _|exact eA|intro hq)
  refine q2 (⟨some ⟨256*n0+510,0,none⟩,1,z0.set n0 (.ay ⟨ff.row ⟨3,(aP N D).1,(aP N D).2.1,(aP N D).2.2⟩,4,4,41,true,true,0,true⟩),n0+1⟩:bg) ?_ rfl rfl rfl rfl rfl
  rw[e1]
  refine⟨fT hz (by rfl),Nat.le_succ _,fun k hk=>?_, .inr ⟨by simp,n0,⟨ff.row ⟨3,(aP N D).1,(aP N D).2.1,(aP N D).2.2⟩,4,4,41,true,true,0,true⟩,Nat.le_refl _,Nat.lt_succ_self _,rfl,rfl,?_,by simp⟩⟩
  ·show(z0.set n0 _).get k=_
   rw[T.aK,if_neg (by omega)]
  ·show(z0.set n0 _).get n0=_
   rw[T.aK,if_pos rfl]
end
theorem eqE(a b:Int):prun Try.prog (Op.equalIn 9999 34 (zv a) (zv b))=some (decide (a=b)):=by kernel_rfl
theorem WO(a b c d x y z w:Int):prun Try.prog (Op.equal 41 (.agg ⟨[zv a,zv b,zv c,zv d]⟩) (.agg ⟨[zv x,zv y,zv z,zv w]⟩))=some (decide (a=x) && (decide (b=y) && (decide (c=z) && decide (d=w)))):=by
 have hm:(Try.prog.fieldsOf 41).toList.map fx=[(true,3,0),(true,3,1),(true,3,2),(true,34,3)]:=by kernel_rfl
 obtain⟨f0,f1,f2,f3,hl,h0,h1,h2,h3⟩:=Nc hm
 have hs:prun Try.prog (underlying 41)=some (.struct (Try.prog.fieldsOf 41)):=by kernel_rfl
 show prun _ (Op.equalIn (9999+1) _ _ _)=_
 rw[jY _ _ _ _ _ hs (by kernel_rfl),hl,step_eq h0 (by kernel_rfl) (by kernel_rfl) (D2 a x),step_eq h1 (by kernel_rfl) (by kernel_rfl) (D2 b y),step_eq h2 (by kernel_rfl) (by kernel_rfl) (D2 c z),step_eq h3 (by kernel_rfl) (by kernel_rfl) (eqE d w)]
 cases decide (a=x)<;>cases decide (b=y)<;>cases decide (c=z)<;>cases decide (d=w)<;>rfl
theorem Jj(i j:Nat)(x:ff):yE Try.prog .neq 41 (.tmp i) (.tmp j) (.agg ⟨x.row⟩) (.agg ⟨x.row⟩) F0:=by
 unfold yE
 rw[prun_bind]
 have h1:prun Try.prog (eqGuard .neq 41 (.tmp i) (.tmp j) (.agg ⟨x.row⟩) (.agg ⟨x.row⟩))=some ():=by kernel_rfl
 rw[h1,Option.bind_some]
 show prun _ (Op.equal _ _ _>>=fun b=>pure (Value.bool (!b)))=_
 rw[prun_bind,WO]
 simp
 rfl
section
variable{z:T aa}{zn:Nat}
theorem DY{k:aZ}{L:List ff}(hk:k.cells=(L.map ff.row).flatten){i:Nat}{x:ff}(hx:L[i]? =some x):aB Try.prog k 41 (0+i*4)=some (.agg ⟨x.row⟩):=
 gE (rows:=L.map ff.row) hk (r:=x.row) (sz:=4) Try.underlying41 rfl rfl (aM (row:=ff.row) (sz:=4) L fun _=>rfl) (by rw[List.getElem?_map,hx];rfl)
theorem IT(hz:an z zn){a b n:Nat}{k1 k2:aZ}{L:List ff}(hn:n=L.length)(hl:L.length<100000)(g1:z.get a=some (.ay k1))(g2:z.get b=some (.ay k2))(h1:k1.cells=(L.map ff.row).flatten)(h2:k2.cells=(L.map ff.row).flatten):
 A1 z zn 8 [tb a n n,tb b n n] [] 0 0 T1 []:=by
 have hL:ai Try.prog (ah (ag Try.f8) 0) 0 26 (EU a b n 0) [] 0 z zn (Al.R (VP z zn a b n).l):=by
  refine ak hD (dP (zg:=T.leaf)) (α:=Nat) 0 26 0 (fun i=>i<=n) (fun i=>EU a b n i) (fun _=>[]) (fun _=>z) (fun _=>zn) (fun i=>n - i) _ (fun i hI=>?_) 0 (Nat.zero_le _)
  by_cases hlt:i<n
  ·obtain⟨x,hx⟩:=ej (l:=L) (i:=i) (by omega)
   have r1:=DY h1 hx
   have r2:=DY h2 hx
   have hc:decide ((i:Int)<(n:Int))=true:=by simp;omega
   refine t100 (XI z zn a b n i k1 k2 x (aj _ _ _ _ _ _ _ _ _) ⟨fun _=>?_,fun h=>(by rw[hc] at h;cases h)⟩)
   (repeat' first|(with_reducible first|exact rfl|exact True.intro|assumption|apply And.intro|exact hz|exact hlt|exact g1|exact g2|exact r1|exact r2|exact Jj _ _ _|exact aG (by omega))|exact(rfl:Int.ofNat _=_)|exact hz|exact hlt|exact g1|exact g2|exact r1|exact r2|exact Jj _ _ _|exact aG (by omega)|intro hq)
   exact⟨i+1,rfl,rfl,rfl,rfl,rfl,hlt,by show n - (i+1)<n - i;omega⟩
  ·have hc:decide ((i:Int)<(n:Int))=false:=by simp;omega
   refine t100 (XI z zn a b n i k1 k2 ⟨0,0,0,0⟩ (aj _ _ _ _ _ _ _ _ _) ⟨fun h=>(by rw[hc] at h;cases h),fun _=>?_⟩)
   (repeat' first|(with_reducible first|exact rfl|exact True.intro|assumption|apply And.intro|exact hz)|exact(rfl:Int.ofNat _=_)|exact hz|intro hq)
   exact bJ trivial
 have hb:Value.bool ((n:Int) !=(n:Int))=Value.bool false:=by simp
 refine bt (dP (zg:=T.leaf)) (fn:=Try.f8) (by kernel_rfl) (by kernel_rfl) hz ⟨by decide,by decide⟩ rfl (N:=100) ?_
 refine sa z zn a b n _ ?_
 (repeat' first|(with_reducible first|exact rfl|exact True.intro|assumption|apply And.intro|exact hz|exact hL|exact hb|exact q1)|exact(rfl:Int.ofNat _=_)|exact hz|exact hL|exact hb|exact q1|intro hq)
theorem Md(hz:an z zn):A1 z zn 8 [aw,aw] [] 0 0 T1 []:=by
 have hL:ai Try.prog (ah (ag Try.f8) 0) 0 26 wE [] 0 z zn (Al.R (RL z zn).l):=by
  refine ak hD (dP (zg:=T.leaf)) (α:=Unit) 0 26 0 (fun i=>True) (fun i=>wE) (fun _=>[]) (fun _=>z) (fun _=>zn) (fun i=>0) _ (fun i hI=>?_) () trivial
  refine t100 (Vc z zn (aj _ _ _ _ _ _ _ _ _) ?_)
  (repeat' first|(with_reducible first|exact rfl|exact True.intro|assumption|apply And.intro|exact hz)|exact(rfl:Int.ofNat _=_)|exact hz|intro hq)
  all_goals exact bJ trivial
 refine bt (dP (zg:=T.leaf)) (fn:=Try.f8) (by kernel_rfl) (by kernel_rfl) hz ⟨by decide,by decide⟩ rfl (N:=100) ?_
 refine saz z zn _ ?_
 (repeat' first|(with_reducible first|exact rfl|exact True.intro|assumption|apply And.intro|exact hz|exact hL|exact q1)|exact(rfl:Int.ofNat _=_)|exact hz|exact hL|exact q1|intro hq)
def mL(N:aA)(D:fL):Bool:=decide (N.ns<=20) && decide (N.nr<=20) && decide (N.nu<=20) && decide (N.nl<=40) && decide (N.np<=200) && decide (N.nf<=20) && D.runs.all fun r=>decide (r.v.cn<=40)
theorem HP{N:aA}{D:fL}(h:20<N.ns\/20<N.nr\/20<N.nu\/40<N.nl\/200<N.np\/20<N.nf):mL N D=false:=by
 unfold mL
 rcases h with h|h|h|h|h|h
 ·rw[decide_eq_false (show¬N.ns<=20 by omega)];simp
 ·rw[decide_eq_false (show¬N.nr<=20 by omega)];simp
 ·rw[decide_eq_false (show¬N.nu<=20 by omega)];simp
 ·rw[decide_eq_false (show¬N.nl<=40 by omega)];simp
 ·rw[decide_eq_false (show¬N.np<=200 by omega)];simp
 ·rw[decide_eq_false (show¬N.nf<=20 by omega)];simp
theorem wU{N:aA}{D:fL}(h1:N.ns<=20)(h2:N.nr<=20)(h3:N.nu<=20)(h4:N.nl<=40)(h5:N.np<=200)(h6:N.nf<=20):mL N D=D.runs.all fun r=>decide (r.v.cn<=40):=by
 unfold mL
 rw[decide_eq_true h1,decide_eq_true h2,decide_eq_true h3,decide_eq_true h4,decide_eq_true h5,decide_eq_true h6];simp
theorem HQ{N:aA}{D:fL}(h:mL N D=true):N.nu<=20/\N.nl<=40/\N.np<=200:=by
 unfold mL at h
 simp only[Bool.and_eq_true,decide_eq_true_eq] at h
 omega
variable{N:aA}{D:fL}
theorem Mo(hz:an z zn)(hN:eS z N D):A1 z zn 4 [.agg ⟨N.cells⟩] [] 0 0 (.bool (mL N D)) []:=by
 have hb:=hN.box
 have hnu:=fm hN.u
 have hL:N.nu<=20->ai Try.prog (ah (ag Try.f4) 0) 1 54 (Ci N.nu 0) [(0,N.box)] 1 z zn (Al.R (VX z zn N (D.runs.all fun r=>decide (r.v.cn<=40))).l):=fun h20=>by
  refine ak hD (dP (zg:=T.leaf)) (α:=Nat) 1 54 1 (fun i=>i<=N.nu/\ ∀j r,j<i->D.runs[j]? =some r->r.v.cn<=40) (fun i=>Ci N.nu i) (fun _=>[(0,N.box)]) (fun _=>z) (fun _=>zn) (fun i=>N.nu - i) _ (fun i hI=>?_) 0 ⟨Nat.zero_le _,fun j r hj=>absurd hj (Nat.not_lt_zero _)⟩
  obtain⟨h1,h2⟩:=hI
  by_cases hlt:i<N.nu
  ·obtain⟨x,hx⟩:=ej (l:=D.runs) (i:=i) (by omega)
   have hua:=o8 hN.u (by omega)
   obtain⟨kr,g2,_,_,r2⟩:=hN.run hx
   have hc:decide ((i:Int)<(N.nu:Int))=true:=by simp;omega
   have no: ¬x.v.cn<=40->(D.runs.all fun r=>decide (r.v.cn<=40))=false:=fun h=>by
    rw[List.all_eq_false]
    exact⟨x,List.mem_of_getElem? hx,by simpa using h⟩
   have nx:x.v.cn<=40->i+1<=N.nu/\ ∀j r,j<i+1->D.runs[j]? =some r->r.v.cn<=40:=fun h=>⟨hlt,fun j r hj hr=>by
    by_cases e:j=i
    ·subst e;rw[hx] at hr;cases hr;exact h
    ·exact h2 j r (by omega) hr⟩
   obtain⟨sa,ns,sc,ra,nr,rc,ua,nu,uc,la,nl,lc,pa,np,pc,fa,nf,fc',d,w,c⟩:=N
   simp only at hua hlt
   subst hua
   refine t100 (li1 z zn i x.v.cn x.v.cc x.v.ca _ kr (aj _ _ _ _ _ _ _ _ _) ⟨fun _=>?_,fun h=>(by rw[hc] at h;cases h)⟩)
   (repeat' first|(with_reducible first|exact rfl|exact True.intro|assumption|apply And.intro|exact hz|exact hlt|exact g2|exact r2|exact hb _|exact aG (by omega))|exact(rfl:Int.ofNat _=_)|exact hz|exact hlt|exact g2|exact r2|exact hb _|exact aG (by omega)|intro hq)
   all_goals first
    |exact bJ (no (by have:=of_decide_eq_true (by with_reducible assumption:decide ((x.v.cn:Int)>40)=true);omega))
    |exact⟨i+1,rfl,rfl,rfl,rfl,rfl,nx (by have:=of_decide_eq_false (by with_reducible assumption:decide ((x.v.cn:Int)>40)=false);omega),by show nu - (i+1)<nu - i;omega⟩
  ·have hc:Value.bool (decide ((i:Int)<(N.nu:Int)))=Value.bool false:=by
    rw[show decide ((i:Int)<(N.nu:Int))=false by simp;omega]
   refine t100 (V4 z zn i N (aj _ _ _ _ _ _ _ _ _) ?_)
   (repeat' first|(with_reducible first|exact rfl|exact True.intro|assumption|apply And.intro|exact hz|exact hc|exact hb _)|exact(rfl:Int.ofNat _=_)|exact hz|exact hc|exact hb _|intro hq)
   refine dw (bJ ?_)
   rw[List.all_eq_true]
   intro r hr
   obtain⟨j,hj⟩:=List.mem_iff_getElem?.1 hr
   have:=(List.getElem?_eq_some_iff.1 hj).1
   simpa using h2 j r (by omega) hj
 refine bt (dP (zg:=T.leaf)) (fn:=Try.f4) (by kernel_rfl) (by kernel_rfl) hz ⟨by decide,by decide⟩ rfl (N:=100) ?_
 refine li z zn N (D.runs.all fun r=>decide (r.v.cn<=40)) _ ?_
 (repeat' first|(with_reducible first|exact rfl|exact True.intro|assumption|apply And.intro|exact hz|exact hb _|exact hL (by have:=of_decide_eq_false (by with_reducible assumption:decide ((N.nu:Int)>20)=false);omega))|exact(rfl:Int.ofNat _=_)|exact hz|exact hb _|exact hL (by have:=of_decide_eq_false (by with_reducible assumption:decide ((N.nu:Int)>20)=false);omega)|intro hq)
 all_goals simp only[decide_eq_true_eq,decide_eq_false_iff_not,gt_iff_lt] at*
 all_goals first
  |(rw[HP (N:=N) (D:=D) (by omega)];exact q1)
  |(rw[wU (N:=N) (D:=D) (by omega) (by omega) (by omega) (by omega) (by omega) (by omega),(by assumption:(D.runs.all fun r=>decide (r.v.cn<=40))=true)];exact q1)
  |(rw[wU (N:=N) (D:=D) (by omega) (by omega) (by omega) (by omega) (by omega) (by omega),(by assumption:(D.runs.all fun r=>decide (r.v.cn<=40))=false)];exact q1)
end
end Go.Proofs.Nw
namespace Go.Proofs
open Go Go.AV
set_option maxRecDepth 100000
def q0:BO:=(6, .ay ⟨[(S [65]),(I 0),F0,(I 0),(S [66]),(I 0),F0,(I 0)],8,4,46,true,true,0,true⟩)
def q1:BO:=(7, .ay ⟨[(S [82]),(I 0),F0],3,3,48,true,true,0,true⟩)
def q2:BO:=(8, .ay ⟨[(I 0),(I 0),(I 0),F0,F0,(I 1),(I 90),(I 90),F0,F0],10,5,50,true,true,0,true⟩)
def q3:BO:=(9, .ay ⟨[(I 1),(I 30),(I 30),F0,F0,(I 0),(I 60),(I 60),F0,F0],10,5,50,true,true,0,true⟩)
def q4:BO:=(10, .ay ⟨[(I 0),(I 0),(I 0),(S [116]),(I 0),F0,F0,(.slice (some ⟨8,0,none⟩) 2 2),(I 0),(I 0),(I 0),(S [117]),(I 0),F0,F0,(.slice (some ⟨9,0,none⟩) 2 2)],16,8,44,true,true,0,true⟩)
def q5:BO:=(11, .ay ⟨[(I 0),(I 1),(I 1),(I 0),T1],5,5,52,true,true,0,true⟩)
def e0:qm:=⟨6,[(.agg ⟨[(.slice (some ⟨6,0,none⟩) 2 2),(.slice (some ⟨7,0,none⟩) 1 1),(.slice (some ⟨10,0,none⟩) 2 2),(.slice (some ⟨11,0,none⟩) 1 1),(.slice none 0 0),(.slice none 0 0),(I 0),(I 0),(I 0)]⟩)],[q0,q1,q2,q3,q4,q5],15,(.tuple ⟨[(I 0),(I 0),(I 0)]⟩),[],142,[]⟩
def e1:qm:=⟨5,[],[],6, .bool true,[],156,[]⟩
theorem JA:iC Try.prog:=Iz (by kernel_rfl)
theorem SG:xE Try.prog e0:=Iy JA (es:=[]) (.nil) 30000 (by kernel_rfl)
theorem SF:xE Try.prog e1:=Iy JA (es:=[e0]) (.cons SG (.nil)) 30000 (by kernel_rfl)
end Go.Proofs
namespace Go.Proofs.Nw
open Go Go.AV
set_option maxHeartbeats 1000000
set_option maxRecDepth 100000
theorem Jt{z:T aa}{zn:Nat}(hz:an z zn){f:Nat}{args:List Value}{v:Value}(hp:bH args=true)(hv:az v=true)(h: ∀w,Calls Try.prog f ⟨args⟩ w fun e w'=>e= .returned v/\Go.RowKit.Below w.heap.size w w'):A1 z zn f args [] 0 0 v []:=by
 refine⟨hz,Nat.le_refl _,by decide,fun _ _=>Jm hz (fun b o h=>by cases h),fun ρ w args' n hargs hh hf hfb=>callsIn_wide.2 ?_⟩
 have e:=hargs.plain hp
 subst e
 refine(h w).mono fun e w' ⟨h1,h2⟩=>?_
 rw[h1]
 obtain⟨ρ',v',g1,g2,g3,g4⟩:=uA (h:=fY z [] 0) hv hh h2
 exact⟨(),trivial,ρ',v',g1,g2,g3,g4.z zn⟩
theorem WW{z:T aa}{zn:Nat}(hz:an z zn):A1 z zn 5 [] [] 0 0 T1 []:=
 Jt hz rfl rfl fun w=>(yz SF w).mono fun e w' ⟨h1,h2,h3,h4,h5,h6⟩=>⟨h1,h2,h3,h4,h5,h6⟩
section
variable{z0:T aa}{n0:Nat}{N:aA}{D:fL}
noncomputable abbrev hY(N:aA)(D:fL):ff:=⟨3,(aP N D).1,(aP N D).2.1,(aP N D).2.2⟩
noncomputable abbrev BZ(z0:T aa)(n0:Nat)(N:aA)(D:fL):bg:=⟨some ⟨256*n0+510,0,none⟩,1,z0.set n0 (uE (hY N D).row 1),n0+1⟩
theorem SW(hz:an z0 n0)(x:ff):
 aV Try.prog z0 n0 31 [.agg ⟨x.row⟩,ip 0] [(0,oF aw)] 1 1 (fun s':bg=>s'=⟨some ⟨256*n0+510,0,none⟩,1,z0.set n0 (uE x.row 1),n0+1⟩) (fun _=> .tuple ⟨[]⟩) (fun s=>[(0,oF s.v)]) (fun s=>s.z) (fun s=>s.zn):=by
 have hn:=pP hz (Nat.le_refl n0) (fun _ _=>rfl) x
 refine dJ (dP (zg:=T.leaf)) (fn:=Try.f31) (by kernel_rfl) (by kernel_rfl) hz ⟨by decide,by decide⟩ (fun s' hs'=>by subst hs';exact⟨rfl,Nat.le_succ _,hn.bb⟩) (N:=100) ?_
 refine Zj z0 n0 x _ ?_
 (repeat' first|(with_reducible first|exact rfl|exact True.intro|assumption|apply And.intro|exact hz|exact ny|exact Nat.le_succ _|exact Nat.le_refl _|exact Nat.lt_succ_self _)|exact(rfl:Int.ofNat _=_)|exact hz|exact ny|exact Nat.le_succ _|exact Nat.le_refl _|exact Nat.lt_succ_self _|intro hq)
 exact q2 (φ:=fun s':bg=>s'=⟨some ⟨256*n0+510,0,none⟩,1,z0.set n0 (uE x.row 1),n0+1⟩) ⟨some ⟨256*n0+510,0,none⟩,1,z0.set n0 (uE x.row 1),n0+1⟩ rfl rfl rfl rfl rfl rfl
theorem GQ(hz:an z0 n0):fj z0 n0 [hY N D] (BZ z0 n0 N D):=pP hz (Nat.le_refl n0) (fun _ _=>rfl) _
theorem PN(hz:an z0 n0)(hN:eS z0 N D)(hll:D.paths.length<=10000)(h:(aP N D).2.2≠0):
 aV Try.prog z0 n0 7 [.agg ⟨N.cells⟩] [] 0 0 (fun _:Unit=>True) (fun _=>tb n0 1 1) (fun _=>[]) (fun _=>z0.set n0 (uE (hY N D).row 1)) (fun _=>n0+1):=by
 have hI:=GQ (N:=N) (D:=D) hz
 have hchk:=uQ hz hN hll
 have hv:=mF (hN.val [])
 have hb:=hN.box
 have hadd:=SW hz (hY N D)
 have hne:((aP N D).2.2 !=0)=true:=by simpa using h
 have rI: ∀s:bg,s=BZ z0 n0 N D->fj z0 n0 [hY N D] s:=fun s e=>by rw[e];exact hI
 have h1:aV Try.prog z0 n0 20 [CS,ip 1] (q8 aw N.box) 2 2 (fun s':bg=>s'=BZ z0 n0 N D) (fun _=> .tuple ⟨[]⟩) (fun s=>q8 s.v N.box) (fun s=>s.z) (fun s=>s.zn):=by
  refine dJ (dP (zg:=T.leaf)) (fn:=Try.f20) (by kernel_rfl) (by kernel_rfl) hz ⟨by decide,by decide⟩ (fun s' hs'=>⟨rfl,(rI s' hs').le,(rI s' hs').bb⟩) (N:=100) ?_
  refine na z0 n0 N (aP N D).1 (aP N D).2.1 (aP N D).2.2 (fun s'=>s'=BZ z0 n0 N D) (fun s=>False) (fun _ s=>False) _ ?_
  (repeat' first|(with_reducible first|exact rfl|exact True.intro|assumption|apply And.intro|exact hz|exact hchk|exact hv|exact hadd|exact hb _|exact bZ (rI _ (by with_reducible assumption))|exact cI (rI _ (by with_reducible assumption))|exact fj.bb (rI _ (by with_reducible assumption)))|exact(rfl:Int.ofNat _=_)|exact hz|exact hchk|exact hv|exact hadd|exact hb _|exact bZ (rI _ (by with_reducible assumption))|exact cI (rI _ (by with_reducible assumption))|exact fj.bb (rI _ (by with_reducible assumption))|intro hq)
  all_goals first
   |(exfalso;rw[hne] at*;simp at*;done)
   |(exfalso;have h9:=(by with_reducible assumption:((aP N D).2.2 !=0)=false);rw[hne] at h9;cases h9;done)
   |(rename_i h9 s9
     exact q2 s9 hq rfl rfl rfl rfl rfl)
 have hb2: ∀σ,aE (sig σ) N.box=some N.box:=fun σ=>by simp only[aE,hN.yx]
 have h2:aV Try.prog z0 n0 19 [Ii] [(0,N.box)] 1 1 (fun s':bg=>s'=BZ z0 n0 N D) (fun s=>s.v) (fun _=>[(0,N.box)]) (fun s=>s.z) (fun s=>s.zn):=by
  refine dJ (dP (zg:=T.leaf)) (fn:=Try.f19) (by kernel_rfl) (by kernel_rfl) hz ⟨by decide,by decide⟩ (fun s' hs'=>⟨rfl,(rI s' hs').le,(rI s' hs').bb⟩) (N:=100) ?_
  refine Zb z0 n0 N (fun s'=>s'=BZ z0 n0 N D) _ ?_
  (repeat' first|(with_reducible first|exact rfl|exact True.intro|assumption|apply And.intro|exact hz|exact h1|exact hb _|exact hb2 _|exact(b9 (rI _ (by with_reducible assumption))).1|exact(b9 (rI _ (by with_reducible assumption))).2|exact bZ (rI _ (by with_reducible assumption))|exact cI (rI _ (by with_reducible assumption))|exact fj.bb (rI _ (by with_reducible assumption)))|exact(rfl:Int.ofNat _=_)|exact hz|exact h1|exact hb _|exact hb2 _|exact(b9 (rI _ (by with_reducible assumption))).1|exact(b9 (rI _ (by with_reducible assumption))).2|exact bZ (rI _ (by with_reducible assumption))|exact cI (rI _ (by with_reducible assumption))|exact fj.bb (rI _ (by with_reducible assumption))|intro hq)
  all_goals first
   |(rename_i s9
     exact q2 s9 hq rfl rfl rfl rfl rfl)
 refine dJ (dP (zg:=T.leaf)) (fn:=Try.f7) (by kernel_rfl) (by kernel_rfl) hz ⟨by decide,by decide⟩ (fun s' hs'=>⟨rfl,Nat.le_succ _,hI.bb⟩) (N:=100) ?_
 refine Za z0 n0 N (fun s'=>s'=BZ z0 n0 N D) _ ?_
 (repeat' first|(with_reducible first|exact rfl|exact True.intro|assumption|apply And.intro|exact hz|exact h2|exact hb _|exact hb2 _|exact(b9 (rI _ (by with_reducible assumption))).1|exact(b9 (rI _ (by with_reducible assumption))).2|exact fj.bb (rI _ (by with_reducible assumption)))|exact(rfl:Int.ofNat _=_)|exact hz|exact h2|exact hb _|exact hb2 _|exact(b9 (rI _ (by with_reducible assumption))).1|exact(b9 (rI _ (by with_reducible assumption))).2|exact fj.bb (rI _ (by with_reducible assumption))|intro hq)
 all_goals first
  |(subst hq
    exact q2 () trivial rfl rfl rfl rfl rfl)
def XE(n0:Nat)(s:T aa × Nat):Prop:=an s.1 s.2/\n0<=s.2
theorem SU(h6:6<=n0)(hz:an z0 n0)(hN:eS z0 N D):
 aV Try.prog z0 n0 3 [.agg ⟨N.cells⟩] [] 0 0 (XE n0) (fun _=>T1) (fun _=>[]) (fun s=>s.1) (fun s=>s.2):=by
 have hv:=mF (hN.val [])
 have hb:=hN.box
 have hli:=Mo hz hN
 have hex: ∀{z:T aa} {zn:Nat},an z zn->_:=fun {z zn} h=>WW (z:=z) (zn:=zn) h
 refine dJ (dP (zg:=T.leaf)) (fn:=Try.f3) (by kernel_rfl) (by kernel_rfl) hz ⟨by decide,by decide⟩ (fun s' hs'=>⟨rfl,hs'.2,hs'.1⟩) (N:=100) ?_
 cases hl:mL N D with
 |false=>
  rw[hl] at hli
  refine lwf z0 n0 N _ ?_
  (repeat' first|(with_reducible first|exact rfl|exact True.intro|assumption|apply And.intro|exact hz|exact hli|exact hv|exact hex hz)|exact(rfl:Int.ofNat _=_)|exact hz|exact hli|exact hv|exact hex hz|intro hq)
  all_goals first
   |exact q2 ((z0,n0):T aa × Nat) ⟨hz,Nat.le_refl _⟩ rfl rfl rfl rfl rfl
 |true=>
  rw[hl] at hli
  obtain⟨l1,l2,l3⟩:=HQ hl
  have hnu:=fm hN.u
  have hnl:=fm hN.l
  have hnp:=fm hN.p
  have hll:D.paths.length<=10000:=by omega
  have hchk:=uQ hz hN hll
  by_cases h:(aP N D).2.2=0
  ·have hO:=mH h
   have hlen:(bL N D).length<=3000:=by
    have e2:bL N D=eI D (dH D D.bE.length) D.runs.length:=if_neg (by simpa using h)
    rw[e2]
    have:=pO D (dH D D.bE.length) D.runs.length
    have:=kS D D.bE.length
    omega
   have hnet:=FO hz hN hll
   have hof: ∀s,fj z0 n0 (bL N D) s->aV Try.prog s.z s.zn 9 [.agg ⟨N.cells⟩] [] 0 0 (vV s.z s.zn (bL N D)) (fun s=>s.v) (fun _=>[]) (fun s=>s.z) (fun s=>s.zn):=fun s hs=>SN (by have:=hs.le;omega) hs.bb (hN.Fg hz hs.fP) hll (by omega) (by omega)
   have hsm: ∀s,fj z0 n0 (bL N D) s-> ∀y,vV s.z s.zn (bL N D) y->A1 y.z y.zn 8 [s.v,y.v] [] 0 0 T1 []:=fun s hs y hy=>by
    obtain⟨oa,k,z,zn⟩:=s
    obtain⟨oa',k',z',zn'⟩:=y
    rcases hs.val with ⟨v1,v2,v3⟩|⟨v1,kk,k1,k2,v2,v3,v4⟩<;>rcases hy.val with ⟨w1,w2,w3⟩|⟨w1,kj,kb,j1,j2,w2,w3,w4,w5⟩<;>simp only at v2 v3 w2 w3
    ·subst v2 v3 w2 w3
     exact Md hy.bb
    ·exact absurd v1 w1
    ·exact absurd w1 v1
    ·simp only at v4 w4 k2
     subst v2 v3 w2 w3
     exact IT hy.bb rfl (by omega) ((hy.fP kk k2).trans v4) w4 rfl w5
   have rv2: ∀s y,fj z0 n0 (bL N D) s->vV s.z s.zn (bL N D) y->bh (sig []) [s.v,y.v]=some [s.v,y.v]:=fun s y hs hy=>by
    have e1:=(b9 (σ:=[]) hs).2
    have e2:aO (sig []) y.v=some y.v:=by
     obtain⟨oa',k',z',zn'⟩:=y
     rcases hy.val with ⟨w1,w2,w3⟩|⟨w1,kj,kb,j1,j2,w2,w3,w4,w5⟩<;>simp only at w2 w3
     ·subst w2 w3;rfl
     ·subst w2 w3
      exact dM (k:=kj) (len:=(bL N D).length) (.inr ⟨rfl,rfl⟩) []
    simp only[bh,e1,e2]
   have rv1: ∀(s y:bg),vV s.z s.zn (bL N D) y->aO (sig []) y.v=some y.v:=fun s y hy=>by
    obtain⟨oa',k',z',zn'⟩:=y
    rcases hy.val with ⟨w1,w2,w3⟩|⟨w1,kj,kb,j1,j2,w2,w3,w4,w5⟩<;>simp only at w2 w3
    ·subst w2 w3;rfl
    ·subst w2 w3
     exact dM (k:=kj) (len:=(bL N D).length) (.inr ⟨rfl,rfl⟩) []
   have hc0:Value.bool ((aP N D).2.2==0)=Value.bool true:=by rw[h];rfl
   refine lwa z0 n0 N (aP N D).1 (aP N D).2.1 (aP N D).2.2 (fj z0 n0 (bL N D)) (fun s=>vV s.z s.zn (bL N D)) _ ?_
   (repeat' first|(with_reducible first|exact rfl|exact True.intro|assumption|apply And.intro|exact hz|exact hli|exact hv|exact hchk|exact hnet|exact hof _ (by with_reducible assumption)|exact hsm _ (by with_reducible assumption) _ (by with_reducible assumption)|exact hc0|exact(b9 (by with_reducible assumption)).2|exact rv1 _ _ (by with_reducible assumption)|exact rv2 _ _ (by with_reducible assumption) (by with_reducible assumption)|exact fj.bb (by with_reducible assumption)|exact vV.bb (by with_reducible assumption)|exact hex (vV.bb (by with_reducible assumption)))|exact(rfl:Int.ofNat _=_)|exact hz|exact hli|exact hv|exact hchk|exact hnet|exact hof _ (by with_reducible assumption)|exact hsm _ (by with_reducible assumption) _ (by with_reducible assumption)|exact hc0|exact(b9 (by with_reducible assumption)).2|exact rv1 _ _ (by with_reducible assumption)|exact rv2 _ _ (by with_reducible assumption) (by with_reducible assumption)|exact fj.bb (by with_reducible assumption)|exact vV.bb (by with_reducible assumption)|exact hex (vV.bb (by with_reducible assumption))|intro hq)
   all_goals first
    |(rename_i s8 h8 y9 h9 u1 t1 u2
      exact q2 ((y9.z,y9.zn):T aa × Nat) ⟨h9.bb,Nat.le_trans h8.le h9.le⟩ rfl rfl rfl rfl rfl)
  ·have e1:bL N D=[hY N D]:=if_pos h
   have hI:=GQ (N:=N) (D:=D) hz
   have hnet:=PN hz hN hll h
   have hof:aV Try.prog (z0.set n0 (uE (hY N D).row 1)) (n0+1) 9 [.agg ⟨N.cells⟩] [] 0 0 (vV (z0.set n0 (uE (hY N D).row 1)) (n0+1) (bL N D)) (fun s=>s.v) (fun _=>[]) (fun s=>s.z) (fun s=>s.zn):=SN (by omega) hI.bb (hN.Fg hz hI.fP) hll (by omega) (by omega)
   have zc: ∀y,vV (z0.set n0 (uE (hY N D).row 1)) (n0+1) (bL N D) y->y.z.get n0=some (uE (hY N D).row 1):=fun y hy=>by
    rw[hy.fP n0 (by omega),T.aK,if_pos rfl]
   have hsm: ∀y,vV (z0.set n0 (uE (hY N D).row 1)) (n0+1) (bL N D) y->A1 y.z y.zn 8 [tb n0 1 1,y.v] [] 0 0 T1 []:=fun y hy=>by
    have g:=zc y hy
    rw[e1] at hy
    obtain⟨oa',k',z',zn'⟩:=y
    rcases hy.val with ⟨w1,w2,w3⟩|⟨w1,kj,kb,j1,j2,w2,w3,w4,w5⟩<;>simp only at w2 w3
    ·cases w1
    ·subst w2 w3
     exact IT (L:=[hY N D]) hy.bb rfl (by simp) g w4 (by simp) w5
   have rvy: ∀y,vV (z0.set n0 (uE (hY N D).row 1)) (n0+1) (bL N D) y->aO (sig []) y.v=some y.v:=fun y hy=>by
    obtain⟨oa',k',z',zn'⟩:=y
    rcases hy.val with ⟨w1,w2,w3⟩|⟨w1,kj,kb,j1,j2,w2,w3,w4,w5⟩<;>simp only at w2 w3
    ·subst w2 w3;rfl
    ·subst w2 w3
     exact dM (k:=kj) (len:=(bL N D).length) (.inr ⟨rfl,rfl⟩) []
   have rt:aO (sig []) (tb n0 1 1)=some (tb n0 1 1):=dM (k:=n0) (len:=1) (.inr ⟨rfl,rfl⟩) []
   have rv2: ∀y,vV (z0.set n0 (uE (hY N D).row 1)) (n0+1) (bL N D) y->bh (sig []) [tb n0 1 1,y.v]=some [tb n0 1 1,y.v]:=fun y hy=>by
    have e2:=rvy y hy
    simp only[bh,rt,e2]
   have hc0:Value.bool ((aP N D).2.2==0)=Value.bool false:=by
    rw[show((aP N D).2.2==0)=false by simpa using h]
   have hrd:aB Try.prog (aZ.mk (hY N D).row (1*4) 4 41 false false 0 true) 3 0=some (I 3):=rfl
   refine lwe z0 n0 N (aP N D).1 (aP N D).2.1 (aP N D).2.2 ⟨(hY N D).row,1*4,4,41,false,false,0,true⟩ (hY N D) (vV (z0.set n0 (uE (hY N D).row 1)) (n0+1) (bL N D)) _ ?_
   (repeat' first|(with_reducible first|exact rfl|exact True.intro|assumption|apply And.intro|exact hz|exact hli|exact hv|exact hchk|exact hnet|exact hof|exact rt|exact zc _ (by with_reducible assumption)|exact hsm _ (by with_reducible assumption)|exact hc0|exact hrd|exact rvy _ (by with_reducible assumption)|exact rv2 _ (by with_reducible assumption)|exact vV.bb (by with_reducible assumption)|exact hex (vV.bb (by with_reducible assumption)))|exact(rfl:Int.ofNat _=_)|exact hz|exact hli|exact hv|exact hchk|exact hnet|exact hof|exact rt|exact zc _ (by with_reducible assumption)|exact hsm _ (by with_reducible assumption)|exact hc0|exact hrd|exact rvy _ (by with_reducible assumption)|exact rv2 _ (by with_reducible assumption)|exact vV.bb (by with_reducible assumption)|exact hex (vV.bb (by with_reducible assumption))|intro hq)
   all_goals first
    |(rename_i y9 h9 u1 t1 u2
      exact q2 ((y9.z,y9.zn):T aa × Nat) ⟨h9.bb,Nat.le_trans (Nat.le_succ _) h9.le⟩ rfl rfl rfl rfl rfl)
end
end Go.Proofs.Nw
