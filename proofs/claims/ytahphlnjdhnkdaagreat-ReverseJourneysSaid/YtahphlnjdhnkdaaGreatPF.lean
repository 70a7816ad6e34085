/-
  A part of the proof: lemmas of my own.
-/
import Derived.Test.YtahphlnjdhnkdaaGreatPE
import Derived.KernelRfl
import Derived.ChangeArms
import Derived.DataReads
import Derived.ProofKit
import Derived.ChangeMaps
set_option linter.unusedVariables false
set_option linter.unusedSimpArgs false
namespace Go.Proofs.Nw
open Go Go.AV Tryz
set_option maxHeartbeats 1000000
set_option maxRecDepth 100000
structure gM where
 stops:List bG
 ek:List ba
 runs:List RunT
 ew:List aH
 paths:List ab
 jk:List bJ
structure dt(z:T aa)(N:aw)(D:gM):Prop where
 s:pP 2 N.sa N.ns N.sc D.stops.length
 r:pP 3 N.ra N.nr N.rc D.ek.length
 u:pP 1 N.ua N.nu N.uc D.runs.length
 l:pP 0 N.la N.nl N.lc D.ew.length
 p:pP 4 N.pa N.np N.pc D.paths.length
 f:pP 5 N.fa N.nf N.fc D.jk.length
 ts:bM z 2 (D.stops.map bG.row)
 tr:bM z 3 (D.ek.map ba.row)
 tu:rh z D.runs
 tl:bM z 0 (D.ew.map aH.row)
 tp:bM z 4 (D.paths.map ab.row)
 tf:bM z 5 (D.jk.map bJ.row)
theorem n6{k:Nat}{a:Option Addr}{n c len:Nat}(h:pP k a n c len)(σ:bb):aJ (aj σ []) (.slice a n c)=some (.slice a n c):=by
 rcases h with ⟨rfl,rfl,rfl,_⟩|⟨rfl,rfl⟩
 ·rfl
 ·exact jL σ k _ _
theorem gh{k:Nat}{a:Option Addr}{n c len:Nat}(h:pP k a n c len)(σ:bb):aJ (sig σ) (.slice a n c)=some (.slice a n c):=by
 rcases h with ⟨rfl,rfl,rfl,_⟩|⟨rfl,rfl⟩
 ·rfl
 ·have:sig σ (256*k+510)=some (256*k+510):=by
   unfold sig
   rw[Nat.ble_eq_true_of_le (by unfold cM;omega)]
  simp only[aJ,this]
section
variable{z:T aa}{zn:Nat}{N:aw}{D:gM}
theorem dt.Q7(h:dt z N D)(σ:bb):aT (aj σ []) N.cells=some N.cells:=by
 have e: ∀x:Int,aJ (aj σ []) (zv x)=some (zv x):=fun _=>rfl
 simp only[aT,n6 h.s,n6 h.r,n6 h.u,n6 h.l,n6 h.p,n6 h.f,e]
theorem dt.Q6(h:dt z N D)(σ:bb):aT (sig σ) N.cells=some N.cells:=by
 have e: ∀x:Int,aJ (sig σ) (zv x)=some (zv x):=fun _=>rfl
 simp only[aT,gh h.s,gh h.r,gh h.u,gh h.l,gh h.p,gh h.f,e]
theorem dt.box(h:dt z N D)(σ:bb):aC (aj σ []) N.box=some N.box:=by
 simp only[aC,h.Q7]
theorem dt.val(h:dt z N D)(σ:bb):aJ (sig σ) (.agg ⟨N.cells⟩)=some (.agg ⟨N.cells⟩):=by
 simp only[aJ,h.Q6]
theorem H8(hz:au z zn){a:Option Addr}{n c:Nat}{l:List bG}(h:pP 2 a n c l.length)(ht:bM z 2 (l.map bG.row)):
 A1 z zn 79 [.slice a n c] [] 0 0 (.tuple ⟨[zv (cf l).1,zv (cf l).2]⟩) []/\A1 z zn 87 [.slice a n c] [] 0 0 (.tuple ⟨[zv (cf l).1,zv (cf l).2]⟩) []:=by
 rcases h with ⟨rfl,rfl,rfl,h⟩|⟨rfl,rfl⟩
 ·have:=List.length_eq_zero_iff.1 h
  subst this
  exact⟨NN hz (fW z),GQ hz (fW z)⟩
 ·exact⟨Q8 hz (fW z) l c ht,J5 hz (fW z) l c ht⟩
theorem D8(hz:au z zn){a:Option Addr}{n c:Nat}{l:List ba}(h:pP 3 a n c l.length)(ht:bM z 3 (l.map ba.row)):
 A1 z zn 80 [.slice a n c] [] 0 0 (.tuple ⟨[zv (bR l).1,zv (bR l).2]⟩) []/\A1 z zn 88 [.slice a n c] [] 0 0 (.tuple ⟨[zv (bR l).1,zv (bR l).2]⟩) []:=by
 rcases h with ⟨rfl,rfl,rfl,h⟩|⟨rfl,rfl⟩
 ·have:=List.length_eq_zero_iff.1 h
  subst this
  exact⟨J7 hz (fW z),DE hz (fW z)⟩
 ·exact⟨NR hz (fW z) l c ht,GR hz (fW z) l c ht⟩
theorem Ia(hz:au z zn){a:Option Addr}{n c:Nat}{l:List bJ}(h:pP 5 a n c l.length)(ht:bM z 5 (l.map bJ.row))(d w cc:Int):
 A1 z zn 85 [.agg ⟨[.slice a n c,zv d,zv w,zv cc]⟩] [] 0 0 (.tuple ⟨[zv (bB d w cc l).1,zv (bB d w cc l).2]⟩) []/\A1 z zn 92 [.agg ⟨[.slice a n c,zv d,zv w,zv cc]⟩] [] 0 0 (.tuple ⟨[zv (bB d w cc l).1,zv (bB d w cc l).2]⟩) []:=by
 rcases h with ⟨rfl,rfl,rfl,h⟩|⟨rfl,rfl⟩
 ·have:=List.length_eq_zero_iff.1 h
  subst this
  exact⟨NV hz (fW z) d w cc,GU hz (fW z) d w cc⟩
 ·exact⟨Rh hz (fW z) l c ht d w cc,Ka hz (fW z) l c ht d w cc⟩
theorem NQ(hz:au z zn)(N:aw)(hnet: ∀σ:bb,aC (aj σ []) (N.cC ak N.l0)=some (N.cC ak N.l0)):
 A1 z zn 83 [.agg ⟨N.dX ak N.l0⟩] [] 0 0 (.agg ⟨[I 0,I 0,I 0]⟩) []:=by
 have hL:ai prog (ah (ag f83) 0) 3 96 F9 [(0,N.cC ak N.l0),(1,dg 0 0 0),(2,bs [])] 3 z zn (Al.R (XK z zn N).l):=by
  refine ax hD (fW z) (α:=Unit) 3 96 3 (fun i=>True) (fun i=>F9) (fun i=>[(0,N.cC ak N.l0),(1,dg 0 0 0),(2,bs [])]) (fun _=>z) (fun _=>zn) (fun i=>0) _ (fun i hI=>?_) () trivial
  refine t100 (ruz z zn N (an _ _ _ _ _ _ _ _ _) ?_)
  (repeat' first|(with_reducible first|exact rfl|assumption|apply And.intro))
  all_goals first|exact bu trivial|trace_state
 refine aK1 (fW z) (fn:=f83) hz (fuz z zn N _ ?_)
 (repeat' first|(with_reducible first|exact rfl|assumption|apply And.intro|exact q1)|exact hL|exact hnet _|intro hq)
theorem PU(hz:au z zn)(h:dt z N D):
 A1 z zn 83 [.agg ⟨N.cells⟩] [] 0 0 (.agg ⟨[zv (if (cL N.ns N.nr D.runs).2=0 then 0 else 2),zv (cL N.ns N.nr D.runs).1,zv (cL N.ns N.nr D.runs).2]⟩) []:=by
 obtain⟨sa,ns,sc,ra,nr,rc,ua,nu,uc,la,nl,lc,pa,np,pc,fa,nf,fc,d,w,c⟩:=N
 have hb:=h.box
 rcases h.u with ⟨h1,h2,h3,h4⟩|⟨h1,h2⟩<;>simp only at h1 h2
 ·simp only at h3
  subst h1 h2 h3
  rw[List.length_eq_zero_iff.1 h4]
  exact NQ hz _ hb
 ·subst h1 h2
  exact Rb hz (fW z) _ D.runs rfl h.tu hb
theorem PV(hz:au z zn)(h:dt z N D)(hl:D.runs.length<100000)(i:Nat)(hi:i<N.nu):
 A1 z zn 89 [.agg ⟨N.cells⟩,iv i] [] 0 0 (zv ((dz N.ns N.nr D.runs i).getD 0)) []:=by
 obtain⟨sa,ns,sc,ra,nr,rc,ua,nu,uc,la,nl,lc,pa,np,pc,fa,nf,fc,d,w,c⟩:=N
 have hb:=h.box
 rcases h.u with ⟨h1,h2,h3,h4⟩|⟨h1,h2⟩<;>simp only at h1 h2
 ·simp only at hi;omega
 ·subst h1 h2
  exact Rd hz (fW z) _ D.runs hl rfl h.tu hb i hi
theorem LV(hz:au z zn)(h:dt z N D)(hU:gu D.runs):
 A1 z zn 84 [.agg ⟨N.cells⟩] [] 0 0 (.agg ⟨[zv (if (bK D.runs D.ew).2=0 then 0 else 3),zv (bK D.runs D.ew).1,zv (bK D.runs D.ew).2]⟩) []:=by
 obtain⟨sa,ns,sc,ra,nr,rc,ua,nu,uc,la,nl,lc,pa,np,pc,fa,nf,fc,d,w,c⟩:=N
 have hb:=h.box
 rcases h.l with ⟨k1,k2,k3,k4⟩|⟨k1,k2⟩<;>simp only at k1 k2
 ·simp only at k3
  subst k1 k2 k3
  rw[List.length_eq_zero_iff.1 k4]
  exact Ki hz (fW z) _ hb
 ·subst k1 k2
  rcases h.u with ⟨h1,h2,h3,h4⟩|⟨h1,h2⟩<;>simp only at h1 h2
  ·simp only at h3
   subst h1 h2 h3
   rw[List.length_eq_zero_iff.1 h4]
   exact Kj hz (fW z) _ D.ew rfl h.tl hb
  ·subst h1 h2
   exact NX hz (fW z) _ D.runs D.ew rfl rfl h.tl h.tu hU hb
theorem LR(hz:au z zn)(h:dt z N D)(hU:gu D.runs)(hl:D.ew.length<100000)(i:Nat)(hi:i<N.nl):
 A1 z zn 90 [.agg ⟨N.cells⟩,iv i] [] 0 0 (zv ((ft D.runs D.ew i).getD 0)) []:=by
 obtain⟨sa,ns,sc,ra,nr,rc,ua,nu,uc,la,nl,lc,pa,np,pc,fa,nf,fc,d,w,c⟩:=N
 have hb:=h.box
 have hv:=h.val []
 rcases h.l with ⟨k1,k2,k3,k4⟩|⟨k1,k2⟩<;>simp only at k1 k2
 ·simp only at hi;omega
 ·subst k1 k2
  obtain⟨x,hx⟩:=dh hi
  have e:(ft D.runs D.ew i).getD 0=iM D.runs D.ew i x:=by
   unfold ft
   rw[hx]
   simp only
   split
   ·rename_i h0;rw[h0];rfl
   ·rfl
  rw[e]
  rcases h.u with ⟨h1,h2,h3,h4⟩|⟨h1,h2⟩<;>simp only at h1 h2
  ·simp only at h3
   subst h1 h2 h3
   rw[List.length_eq_zero_iff.1 h4]
   exact J8 hz (fW z) _ D.ew rfl h.tl i x hx
  ·subst h1 h2
   exact NS hz (fW z) _ D.runs D.ew hl rfl rfl h.tl h.tu hU hb (eP hv rfl) i x hx
noncomputable def fV(n:Nat)(l:List ab):Int × Int:=by
 classical
 exact if (aV n l).2≠0 then aV n l else if ic n l=l then (0,0) else (0,18)
theorem qN(n:Nat)(l:List ab)[Decidable (ic n l=l)]:fV n l=if (aV n l).2≠0 then aV n l else if ic n l=l then (0,0) else (0,18):=by
 unfold fV
 congr
theorem LU(hz:au z zn)(h:dt z N D)(hn:N.ns<=64)(hll:D.paths.length<=10000):
 A1 z zn 86 [.agg ⟨N.cells⟩] [] 0 0 (.agg ⟨[zv (if (fV N.ns D.paths).2=0 then 0 else 4),zv (fV N.ns D.paths).1,zv (fV N.ns D.paths).2]⟩) []:=by
 classical
 obtain⟨sa,ns,sc,ra,nr,rc,ua,nu,uc,la,nl,lc,pa,np,pc,fa,nf,fc,d,w,c⟩:=N
 have hb:=h.box
 rcases h.p with ⟨k1,k2,k3,k4⟩|⟨k1,k2⟩<;>simp only at k1 k2
 ·simp only at k3 hn
  subst k1 k2 k3
  rw[List.length_eq_zero_iff.1 k4]
  have e:fV ns []=(0,0):=by rw[qN,if_neg (by simp[aV,scan]),if_pos (vJ _)]
  show A1 z zn _ _ [] 0 0 (.agg ⟨[zv (if (fV ns []).2=0 then 0 else 4),zv (fV ns []).1,zv (fV ns []).2]⟩) []
  rw[e]
  exact GY hz _ hn hb
 ·subst k1 k2
  refine Kg hz _ hn D.paths rfl hll hb h.tp (if (fV ns D.paths).2=0 then 0 else 4,(fV ns D.paths).1,(fV ns D.paths).2) ?_
  rw[qN]
  show _=if (aV ns D.paths).2≠0 then (4,aV ns D.paths) else if ic ns D.paths=D.paths then (0,0,0) else (4,0,18)
  by_cases h1:(aV ns D.paths).2=0<;>by_cases h2:ic ns D.paths=D.paths<;>simp[h1,h2]
theorem H9(hz:au z zn)(h5:5<=zn)(h:dt z N D)(hn:N.ns<=64):
 A1 z zn 91 [.agg ⟨N.cells⟩] [] 0 0 (.tuple ⟨[zv (fV N.ns D.paths).1,zv (fV N.ns D.paths).2]⟩) []:=by
 classical
 obtain⟨sa,ns,sc,ra,nr,rc,ua,nu,uc,la,nl,lc,pa,np,pc,fa,nf,fc,d,w,c⟩:=N
 have hb:=h.box
 rcases h.p with ⟨k1,k2,k3,k4⟩|⟨k1,k2⟩<;>simp only at k1 k2
 ·simp only at k3 hn
  subst k1 k2 k3
  rw[List.length_eq_zero_iff.1 k4]
  have e:fV ns []=(0,0):=by rw[qN,if_neg (by simp[aV,scan]),if_pos (vJ _)]
  show A1 z zn _ _ [] 0 0 (.tuple ⟨[zv (fV ns []).1,zv (fV ns []).2]⟩) []
  rw[e]
  exact GS hz h5 _ hn hb
 ·subst k1 k2
  exact J6 hz h5 _ hn D.paths rfl hb h.tp (fV ns D.paths) (qN _ _)
noncomputable def bT(N:aw)(D:gM):Int × Int × Int:=iy (cf D.stops) (bR D.ek) (2,cL N.ns N.nr D.runs) (3,bK D.runs D.ew) (4,fV N.ns D.paths) (bB N.d N.w N.c D.jk)
theorem zw(s r u k p f:Int × Int):iy s r (if u.2=0 then 0 else 2,u) (if k.2=0 then 0 else 3,k) (if p.2=0 then 0 else 4,p) f=iy s r (2,u) (3,k) (4,p) f:=by
 unfold iy
 by_cases h1:u.2=0<;>by_cases h2:k.2=0<;>by_cases h3:p.2=0<;>simp[h1,h2,h3]
theorem cK{k:Nat}{a:Option Addr}{n c len:Nat}(h:pP k a n c len):n=len:=by
 rcases h with ⟨_,rfl,_,rfl⟩|⟨_,rfl⟩<;>rfl
theorem D4{l:List bG}(h:(cf l).2=0):l.length<=64:=by
 unfold cf at h
 split at h
 ·cases h
 ·omega
theorem jP{f:Nat->Option Nat}{v:Value}(h:aJ f v=some v):aT f [v]=some [v]:=by simp only[aT,h]
theorem Ko(hz:au z zn)(h:dt z N D)(hll:D.paths.length<=10000):
 A1 z zn 39 [.agg ⟨N.cells⟩] [] 0 0 (.tuple ⟨[zv (bT N D).1,zv (bT N D).2.1,zv (bT N D).2.2]⟩) []:=by
 have:=N0 hz (fW z) N (cf D.stops) (bR D.ek) (if (cL N.ns N.nr D.runs).2=0 then 0 else 2,cL N.ns N.nr D.runs) (if (bK D.runs D.ew).2=0 then 0 else 3,bK D.runs D.ew) (if (fV N.ns D.paths).2=0 then 0 else 4,fV N.ns D.paths) (bB N.d N.w N.c D.jk)
  (jP (h.val [])) (jP (gh h.s _)) (jP (gh h.r _)) (jP (by
    have e: ∀x:Int,aJ (sig []) (zv x)=some (zv x):=fun _=>rfl
    have e2:=gh h.f []
    have e3:aT (sig []) [.slice N.fa N.nf N.fc,zv N.d,zv N.w,zv N.c]=some [.slice N.fa N.nf N.fc,zv N.d,zv N.w,zv N.c]:=by simp only[aT,e2,e]
    show(match aT (sig []) [.slice N.fa N.nf N.fc,zv N.d,zv N.w,zv N.c] with|some m=>some (Value.agg ⟨m⟩)|none=>none)=_
    rw[e3]))
  (H8 hz h.s h.ts).1 (D8 hz h.r h.tr).1 (fun _ _=>PU hz h) (fun _ _ hu=>LV hz h (gx (ns:=N.ns) (nr:=N.nr) (by simpa using hu)))
  (fun hs _ _ _=>LU hz h (by have:=cK h.s;have:=D4 hs;omega) hll) (Ia hz h.f h.tf N.d N.w N.c).1
 rw[zw] at this
 exact this
theorem GW(hz:au z zn)(h5:5<=zn)(h:dt z N D):
 A1 z zn 42 [.agg ⟨N.cells⟩] [] 0 0 (.tuple ⟨[zv (bT N D).1,zv (bT N D).2.1,zv (bT N D).2.2]⟩) []:=by
 have hun:=cK h.u
 have hln:=cK h.l
 refine Kb hz (fW z) N (cf D.stops) (bR D.ek) (fV N.ns D.paths) (bB N.d N.w N.c D.jk) (cL N.ns N.nr D.runs) (bK D.runs D.ew) (fun i=>(dz N.ns N.nr D.runs i).getD 0) (fun i=>(ft D.runs D.ew i).getD 0)
  h.box (h.val []) (jP (gh h.s _)) (jP (gh h.r _)) (jP (by
   have e: ∀x:Int,aJ (sig []) (zv x)=some (zv x):=fun _=>rfl
   have e2:=gh h.f []
   have e3:aT (sig []) [.slice N.fa N.nf N.fc,zv N.d,zv N.w,zv N.c]=some [.slice N.fa N.nf N.fc,zv N.d,zv N.w,zv N.c]:=by simp only[aT,e2,e]
   show(match aT (sig []) [.slice N.fa N.nf N.fc,zv N.d,zv N.w,zv N.c] with|some m=>some (Value.agg ⟨m⟩)|none=>none)=_
   rw[e3]))
  (H8 hz h.s h.ts).2 (D8 hz h.r h.tr).2 (fun _ _ h1024 i hi _=>PV hz h (by omega) i hi) (by rw[hun];exact PW _ _ _) (fun _ _ hu h1024 i hi _=>LR hz h (gx (ns:=N.ns) (nr:=N.nr) hu) (by omega) i hi) (by rw[hln];exact Nd _ _)
  (fun hs _ _ _=>H9 hz h5 h (by have:=cK h.s;have:=D4 hs;omega)) (Ia hz h.f h.tf N.d N.w N.c).2
end
theorem gR{k:Nat}{a:Option Addr}{n c len:Nat}(h:pP k a n c len)(hn:0<n):a=some ⟨256*k+510,0,none⟩:=by
 rcases h with ⟨_,q,_⟩|⟨q,_⟩
 ·omega
 ·exact q
theorem dt.Nk{z z':T aa}{zn:Nat}{N:aw}{D:gM}(h:dt z N D)(hz:au z zn)(ho: ∀j,j<zn->z'.get j=z.get j):dt z' N D:=
 ⟨h.s,h.r,h.u,h.l,h.p,h.f,cH h.ts hz ho,cH h.tr hz ho,⟨cH h.tu.HT hz ho,h.tu.sl,fun j r hr=>cH (h.tu.calls j r hr) hz ho⟩,cH h.tl hz ho,cH h.tp hz ho,cH h.tf hz ho⟩
section
variable{z:T aa}{N:aw}{D:gM}
theorem dt.run(h:dt z N D){k:Nat}{x:RunT}(hx:D.runs[k]? =some x): ∃kl,z.get 1=some (.ay kl)/\aq prog kl 53 (0+k*8)=some (.agg ⟨x.v.row⟩)/\aq prog kl 4 (0+k*8+6)=some (.bool x.v.cancelled)/\aq prog kl 51 (0+k*8+7)=some (.slice x.v.ca x.v.cn x.v.cc):=by
 obtain⟨el,hel⟩:=h.tu.HT.ay (i:=k) (by simpa using (List.getElem?_eq_some_iff.1 hx).1)
 have hlen:=aM (row:=fun r:RunT=>r.v.row) (sz:=8) D.runs fun _=>rfl
 have hr:(D.runs.map fun r:RunT=>r.v.row)[k]? =some x.v.row:=by rw[List.getElem?_map,hx];rfl
 exact⟨_,hel,bD (r:=x.v.row) (sz:=8) underlying53 rfl rfl hlen hr,aS underlying4 rfl hlen hr rfl,aS underlying51 rfl hlen hr rfl⟩
theorem dt.call(h:dt z N D){k:Nat}{x:RunT}(hx:D.runs[k]? =some x){i:Nat}{c:bd}(hc:x.calls[i]? =some c):x.v.ca=some ⟨256*(6+k)+510,0,none⟩/\x.v.cn=x.calls.length/\ ∃kl,z.get (6+k)=some (.ay kl)/\aq prog kl 3 (0+i*5+1)=some (zv c.arr)/\aq prog kl 3 (0+i*5+2)=some (zv c.dep):=by
 have hi:=(List.getElem?_eq_some_iff.1 hc).1
 obtain⟨el,hel⟩:=(h.tu.calls k x hx).ay (i:=i) (by simpa using hi)
 have hs:x.v.ca=some ⟨256*(6+k)+510,0,none⟩/\x.v.cn=x.calls.length:=by
  rcases h.tu.sl k x hx with (⟨_,_,_,h4⟩|h)|⟨_,_,_,h4⟩
  ·omega
  ·exact h
  ·omega
 have hlen:=aM (row:=bd.row) (sz:=5) x.calls fun _=>rfl
 have hr:(x.calls.map bd.row)[i]? =some c.row:=by rw[List.getElem?_map,hc];rfl
 exact⟨hs.1,hs.2,_,hel,aS underlying3 rfl hlen hr rfl,aS underlying3 rfl hlen hr rfl⟩
end
section
variable{z:T aa}{zn:Nat}{N:aw}{D:gM}
theorem Fc(hz:au z zn)(h5:5<=zn)(hN:dt z N D):A1 z zn 23 [.agg ⟨N.cells⟩] [] 0 0 (.bool ((bT N D).2.2==0)) []:=by
 have hv:=jP (hN.val [])
 have hb:=hN.box
 have hc:=GW hz h5 hN
 refine aK1 (cg (zg:=z)) (fn:=f23) hz (qvl z zn N (bT N D).1 (bT N D).2.1 (bT N D).2.2 _ ?_)
 (repeat' first|(with_reducible first|exact rfl|assumption|apply And.intro)|intro hq)
 all_goals (refine uL ?_;rw[hq])
end
end Go.Proofs.Nw
namespace Go.Proofs.Nw
open Go Go.AV Tryz
structure az where
 aW:Bool
 run:Int
 ez:Int
 off:Int
 fz1:Int
 aB:Int
 dep:Int
 arr:Int
 stay:Bool
abbrev az.row(l:az):List Value:=[.bool l.aW,zv l.run,zv l.ez,zv l.off,zv l.fz1,zv l.aB,zv l.dep,zv l.arr, .bool l.stay]
abbrev wr(x:Int):Int:=IntKind.i64.wrap x
abbrev lM:Int:=3155932800
def nm(n:Nat)(st:Bool)(l:az):az:=⟨l.aW,l.run,if l.aW then (n:Int) - 1 - l.off else l.ez,if l.aW then (n:Int) - 1 - l.ez else l.off,l.aB,l.fz1,wr (lM - l.arr),wr (lM - l.dep),st⟩
def mg(L:List az)(m:az):az:=match L.getLast? with
 |some p=>if !m.aW && p.aW then {m with dep:=p.arr,arr:=wr (p.arr+wr (m.arr - m.dep))} else m
 |none=>m
structure lq where
 a:Option Addr
 n:Nat
 c:Nat
abbrev lq.v(J:lq):Value:= .slice J.a J.n J.c
abbrev lq.jn(J:lq):Value:= .agg ⟨[J.v]⟩
abbrev mP(cs:List Value)(n:Nat):aa:= .ay ⟨cs,n*9,9,62,false,false,0,true⟩
abbrev iJ(cs:List Value)(n:Nat):aa:= .ay ⟨cs,n*4,4,103,false,false,0,true⟩
abbrev jB(v:Value):aa:=nK 34 [v]
def C9(J:lq)(i:Nat):Live:=[(2,ip 0),(3,ip 1),(4,ip 2),(19,J.v),(20,iv J.n),(21,iv i)]
def T4(z:T aa)(zn:Nat)(N:aw)(J:lq)(e:Int):fj:=⟨3,99,[],C9 J 0,[(0,N.box),(1,jB J.v),(2,jB ak)],3,none,alt (e≠0) ⟨.ret,[(4,ip 2),(5,zv e)],[(2,jB ak)],3,z,zn⟩ (alt (e=0) ⟨.exit 0,[(2,ip 0),(3,ip 1),(4,ip 2)],[(0,N.box),(1,jB J.v),(2,jB ak)],3,z,zn⟩ .nil)⟩
def lD(st:Bool)(y:Int):Live:=[(2,ip 0),(3,ip 1),(4,ip 2),(8,ip 3),(9, .bool st),(10,zv y)]
def MH(z:T aa)(zn:Nat)(N:aw)(J:lq)(y:Int)(φ:bI->Prop):fj:=⟨4,99,[],lD false y,[(0,N.box),(1,jB J.v),(2,jB ak),(3,jB ak)],4,none,
 .cons bI φ (fun s=>⟨.exit 2,[(4,ip 2),(8,ip 3)],[(2,jB ak),(3,jB s.v)],4,s.z,s.zn⟩) (fun _=>dP) .nil⟩
abbrev aw.U(N:aw):aw:={N with sa:=some ⟨1022,0,none⟩,ra:=some ⟨1278,0,none⟩,ua:=some ⟨766,0,none⟩}
abbrev E4:aa:= .ay ⟨[],0,4,103,true,true,0,true⟩
abbrev Hw:Value:= .slice (some ⟨2,0,none⟩) 0 0
def ju(v:Value)(i:Nat):Live:=[(2,ip 0),(3,ip 1),(6,v),(7,iv i)]
def Gk(z:T aa)(zn:Nat)(N:aw)(J:lq)(e:Int)(φ ψ:bI->Prop):fj:=⟨3,120,[],ju Hw 0,[(0,N.box),(1,jB J.v),(2,E4)],3,none,
 .cons bI ψ (fun s=>⟨.ret,[(4,ak),(5,zv e)],[],3,s.z,s.zn⟩) (fun _=>dP) (.cons bI φ (fun s=>⟨.exit 0,[(6,s.v)],[],3,s.z,s.zn⟩) (fun _=>dP) .nil)⟩
abbrev Uj(x:az):aa:=nK 62 x.row
def Ba(s:Int)(r m c b:Nat):Live:=[(2,ip 0),(3,ip 1),(5,zv s),(6,tb (6+r) m c),(7,iv b)]
def XI(z:T aa)(zn:Nat)(N:aw)(x:az)(r m c b:Nat)(s:Int):fj:=⟨2,37,[],Ba 0 r m c b,[(0,N.U.box),(1,Uj x)],2,none,alt True ⟨.exit 0,[(5,zv s)],[],2,z,zn⟩ .nil⟩
def jf(v:Value)(y:Int):Live:=[(2,ip 0),(3,ip 1),(4,ip 2),(8,v),(9,zv y)]
def MD(z:T aa)(zn:Nat)(N:aw)(J:lq)(y:Int)(φ:bI->Prop):fj:=⟨3,131,[],jf ak y,[(0,N.box),(1,jB J.v),(2,jB ak)],3,none,
 .cons bI φ (fun s=>⟨.exit 0,[(4,ip 2),(8,s.v)],[(2,jB ak)],3,s.z,s.zn⟩) (fun _=>dP) .nil⟩
def vf(i:Nat):Live:=[(2,ip 0),(3,ip 1),(5,iv i)]
def TC(z:T aa)(zn:Nat)(v w:Value):fj:=⟨2,31,[],vf 0,[(0,jB v),(1,jB w)],2,none,alt True ⟨.exit 0,[],[],2,z,zn⟩ .nil⟩
def C5(v:Value)(n i:Nat):Live:=[(1,ip 0),(41,v),(42,iv n),(43,iv i)]
def XJ(z:T aa)(zn:Nat)(N:aw)(b:Bool):fj:=⟨1,52,[],C5 (.slice N.ua N.nu N.uc) N.nu 0,[(0,N.box)],1,none,alt (b=false) ⟨.ret,[(2,F0)],[],1,z,zn⟩ (alt (b=true) ⟨.exit 0,[],[],1,z,zn⟩ .nil)⟩
end Go.Proofs.Nw
namespace Go.Proofs.Nw
open Go Go.AV Tryz
set_option maxRecDepth 1000000
noncomputable section
theorem yva(z:T aa)(zn:Nat)(N:aw)(a b c:Int)(Q:QF)(hyp:aP prog z zn 39 (CB N) [] 0 0 Yy (fun(x:Unit)=>TP [zv a,zv b,zv c]) bQ/\HI N/\ ∀(x:Unit),True->Rs (TP [ZV a,ZV b,ZV c])/\Br (c==0) (E6 14 z zn (YA/\Q T1 [] 0 z zn)) (E6 14 z zn (YQ/\Q F0 [] 0 z zn))):FnT prog jo z f19 [AG N.cells] z [] 0 zn Q:=K1t hyp (YIp N a b c z zn)
abbrev Ha(x:az):Value:=Value.bool x.aW
abbrev rC(x:az):Value:=Value.bool x.stay
abbrev sy(x:az):List Value:=[Ha x,ZV x.run,ZV x.ez,ZV x.off,ZV x.fz1,ZV x.aB,ZV x.dep,ZV x.arr,rC x]
abbrev Ac(kj:aR)(i:Nat)(x:az):Prop:=aq prog kj 62 (0+i*9)=some (AG (sy x))
noncomputable abbrev Ab(K:Nat)(kj:aR)(x:az):An:=An.ld K kj (AG x.row)
theorem ywa(z:T aa)(zn K n cp i:Nat)(N:aw)(kj:aR)(x:az)(pr:Bool)(Q:QF)(hyp:YU i/\i<n/\dC K/\dJ z K kj/\Ac kj i x/\Value.bool x.aW=F0/\Br x.stay (Value.bool x.aW=F0/\E6 74 z zn (Lr/\Q qZ [] 0 z zn)) (E6 74 z zn (FI/\Q YM [] 0 z zn))):FnT prog jo z f20 [AG N.cells,AG [tb K n cp],iv i] z [] 0 zn Q:=K1t hyp (tA 1 (tO (Yj i) (tO (Ab K kj x) (tA 1 (tO lj (tA 13 ((tA 2 (tO lj (tA 19 (Pl z zn)))).fork (tA 9 (LA z zn)))))))))
theorem ywb(z:T aa)(zn K n cp i:Nat)(N:aw)(kj:aR)(x:az)(pr:Bool)(Q:QF)(hyp:YU i/\i<n/\dC K/\dJ z K kj/\Ac kj i x/\Value.bool x.aW=T1/\Value.bool (decide (x.run<0))=T1/\E6 74 z zn (Ak/\Q fS [] 0 z zn)):FnT prog jo z f20 [AG N.cells,AG [tb K n cp],iv i] z [] 0 zn Q:=K1t hyp (tA 1 (tO (Yj i) (tO (Ab K kj x) (tA 1 (tO mC (tA 4 (tO mC (tA 39 (CF z zn)))))))))
theorem ywc(z:T aa)(zn K n cp i:Nat)(N:aw)(kj:aR)(x:az)(Q:QF)(hyp:YU i/\i<n/\dC K/\dJ z K kj/\Ac kj i x/\Value.bool x.aW=T1/\Value.bool (decide (x.run<0))=F0/\Value.bool (decide (x.run>=(↑N.nu:Int)))=T1/\E6 74 z zn (Ak/\Q fS [] 0 z zn)):FnT prog jo z f20 [AG N.mq,AG [tb K n cp],iv i] z [] 0 zn Q:=K1t hyp (tA 1 (tO (Yj i) (tO (Ab K kj x) (tA 1 (tO mC (tA 4 (tO lj (tA 9 (tO mC (tA 32 (CF z zn)))))))))))
abbrev ZW(kj:aR)(i:Nat)(pr:Bool):Prop:=aq prog kj 4 (0+(i - 1)*9+0)=some (fy pr)
theorem ywd(z:T aa)(zn K n cp i r m c:Nat)(N:aw)(kj kr:aR)(x:az)(pr:Bool)(Q:QF)(hyp:YU i/\i<n/\dC K/\dJ z K kj/\Ac kj i x/\Value.bool x.aW=T1/\Value.bool (decide (x.run<0))=F0/\Value.bool (decide (x.run>=(↑N.nu:Int)))=F0/\Br (decide (x.ez<0)) (E6 74 z zn (Ak/\Q fS [] 0 z zn)) (Br (decide (x.ez>=x.off)) (E6 74 z zn (Ak/\Q fS [] 0 z zn)) (x.run=(↑r:Int)/\r<N.nu/\Cl/\Ck z kr/\Lp kr r m c/\Br (decide (x.off>=(↑m:Int))) (E6 74 z zn (Ak/\Q fS [] 0 z zn)) (Br x.stay (Value.bool x.aW=T1/\Br ((↑i:Int)==0) (E6 74 z zn (Lr/\Q qZ [] 0 z zn)) (WQ1 ((↑i:Int) - 1)/\(↑i:Int) - 1=(↑(i - 1):Int)/\i - 1<n/\dC K/\dJ z K kj/\ZW kj i pr/\Br (!pr) (E6 74 z zn (Lr/\Q qZ [] 0 z zn)) (E6 74 z zn (FI/\Q YM [] 0 z zn)))) (E6 74 z zn (FI/\Q YM [] 0 z zn)))))):FnT prog jo z f20 [AG N.mq,AG [tb K n cp],iv i] z [] 0 zn Q:=K1t hyp (tA 1 (tO (Yj i) (tO (Ab K kj x) (tA 1 (tO mC (tA 4 (tO lj (tA 9 (tO lj (tA 7 ((tA 26 (CF z zn)).fork (tA 10 ((tA 18 (CF z zn)).fork (tA 13 (tO (Yj r) (tA 2 (tO (Lo kr r m c) (tA 2 ((tA 4 (CF z zn)).fork (tA 4 ((tA 2 (tO mC (tA 4 ((tA 15 (Pl z zn)).fork (tA 8 (tO (An.val (ZV ((↑i:Int) - 1))) (tA 1 (tO (yp i) (tA 2 (tO (An.ld K kj (fy pr)) (tA 4 ((Pl z zn).fork (LA z zn))))))))))))).fork (tA 9 (LA z zn)))))))))))))))))))))))
theorem ywz(z:T aa)(zn K n cp i:Nat)(N:aw)(kj:aR)(x:az)(Q:QF)(hyp:YU i/\i<n/\dC K/\dJ z K kj/\Ac kj i x/\Value.bool x.aW=T1/\Value.bool (decide (x.run<0))=F0/\Value.bool (decide (x.run>=0))=T1/\E6 74 z zn (Ak/\Q fS [] 0 z zn)):FnT prog jo z f20 [AG (N.dX ak N.l0),AG [tb K n cp],iv i] z [] 0 zn Q:=K1t hyp (tA 1 (tO (Yj i) (tO (Ab K kj x) (tA 1 (tO mC (tA 4 (tO lj (tA 9 (tO mC (tA 32 (CF z zn)))))))))))
abbrev yi(x:az)(va vd:Int):List Value:=[Ha x,ZV x.run,ZV x.ez,ZV x.off,ZV x.aB,ZV x.fz1,ZV va,ZV vd,F0]
noncomputable abbrev sx(va:Int):An:=An.val (ZV va)
theorem yma(z:T aa)(zn:Nat)(N:aw)(x:az)(va vd:Int)(Q:QF)(hyp:WP1 (3155932800 - x.arr) va/\WP1 (3155932800 - x.dep) vd/\Value.bool x.aW=F0/\E6 45 z zn (Rs (AG (yi x va vd))/\Q (AG (yi x va vd)) [] 0 z zn)):FnT prog jo z f21 [AG N.cells,AG x.row] z [] 0 zn Q:=K1t hyp (tA 7 (tO (sx va) (tA 1 (tO (sx vd) (tA 3 (tO lj (tA 3 (tR [] [] (AG (yi x va vd)) [] 0 z zn))))))))
abbrev Fw(x:az)(v1 v2 va vd:Int):List Value:=[Ha x,ZV x.run,ZV v1,ZV v2,ZV x.aB,ZV x.fz1,ZV va,ZV vd,F0]
theorem ymb(z:T aa)(zn r m c:Nat)(N:aw)(kr:aR)(x:az)(va vd v1 v2:Int)(Q:QF)(hyp:WP1 (3155932800 - x.arr) va/\WP1 (3155932800 - x.dep) vd/\Value.bool x.aW=T1/\x.run=(↑r:Int)/\r<N.nu/\Cl/\Ck z kr/\Lp kr r m c/\WQ1 ((↑m:Int) - 1)/\WP1 ((↑m:Int) - 1 - x.off) v1/\WP1 ((↑m:Int) - 1 - x.ez) v2/\E6 45 z zn (Rs (AG (Fw x v1 v2 va vd))/\Q (AG (Fw x v1 v2 va vd)) [] 0 z zn)):FnT prog jo z f21 [AG N.mq,AG x.row] z [] 0 zn Q:=K1t hyp (tA 7 (tO (sx va) (tA 1 (tO (sx vd) (tA 3 (tO mC (tA 3 (tO (Yj r) (tO (Lo kr r m c) (tO (An.val (ZV ((↑m:Int) - 1))) (tA 1 (tO (sx v1) (tA 1 (tO (sx v2) (tA 4 (tR [] [] (AG (Fw x v1 v2 va vd)) [] 0 z zn))))))))))))))))
theorem yea(z:T aa)(zn:Nat)(N:aw)(x:az)(Q:QF)(hyp:Value.bool (decide (x.run<0))=T1/\E6 39 z zn (YQ/\Q F0 [] 0 z zn)):FnT prog jo z f40 [AG N.cells,AG x.row] z [] 0 zn Q:=K1t hyp (tA 1 (tO mC (tA 8 (ue z zn))))
theorem yeb(z:T aa)(zn:Nat)(N:aw)(x:az)(Q:QF)(hyp:Value.bool (decide (x.run<0))=F0/\Value.bool (decide (x.run>=(↑N.nu:Int)))=T1/\E6 39 z zn (YQ/\Q F0 [] 0 z zn)):FnT prog jo z f40 [AG N.cells,AG x.row] z [] 0 zn Q:=K1t hyp (tA 1 (tO lj (tA 8 (tO mC (tA 2 (ue z zn))))))
theorem yec(z:T aa)(zn r m c:Nat)(N:aw)(kr:aR)(x:az)(Q:QF)(hyp:Value.bool (decide (x.run<0))=F0/\Value.bool (decide (x.run>=(↑N.nu:Int)))=F0/\Br (decide (x.ez>=0)) (Br (decide (x.ez<x.off)) (x.run=(↑r:Int)/\r<N.nu/\Cl/\Ck z kr/\Lp kr r m c/\Br (decide (x.off<(↑m:Int))) (E6 39 z zn (YA/\Q T1 [] 0 z zn)) (E6 39 z zn (YQ/\Q F0 [] 0 z zn))) (E6 39 z zn (YQ/\Q F0 [] 0 z zn))) (E6 39 z zn (YQ/\Q F0 [] 0 z zn))):FnT prog jo z f40 [AG N.mq,AG x.row] z [] 0 zn Q:=K1t hyp (tA 1 (tO lj (tA 8 (tO lj (tA 3 ((tA 7 ((tA 11 (tO (Yj r) (tA 2 (tO (Lo kr r m c) (tA 2 ((tA 1 (tR [] [] T1 [] 0 z zn)).fork (tA 1 (ue z zn)))))))).fork (tA 13 (ue z zn)))).fork (tA 18 (ue z zn))))))))
end
end Go.Proofs.Nw
namespace Go.Proofs.Nw
open Go Go.AV Tryz
set_option maxHeartbeats 1000000
set_option maxRecDepth 100000
def gm(G:List az)(i:Nat):Bool:=match G[i]? with|some l=>l.aW|none=>false
def dU(G:List az)(i:Nat):Bool:=match G[i]? with|some l=>l.stay|none=>false
def fU(U:List RunT)(l:az):Bool:=decide (0<=l.run) && (decide (l.run<(U.length:Int)) && (decide (0<=l.ez) && (decide (l.ez<l.off) && decide (l.off<(dA U l.run:Int)))))
def dm(U:List RunT)(G:List az)(i:Nat)(l:az):Int:=if l.aW=true/\fU U l=false then 9 else if l.stay=true/\(l.aW=false\/i=0\/gm G (i - 1)=false) then 19 else 0
def cw(U:List RunT)(G:List az)(i:Nat):Option Int:=match G[i]? with
 |none=>none
 |some l=>if dm U G i l=0 then none else some (dm U G i l)
def sQ(U:List RunT)(G:List az)(i:Nat)(l:az):az:=nm (dA U l.run) (dU G (i+1)) l
def yX(U:List RunT)(G:List az)(L:List az)(i:Nat):List az:=match G[i]? with|some l=>L++[mg L (sQ U G i l)]|none=>L
def cT(U:List RunT)(G:List az):Nat->List az
 |0=>[]
 |m+1=>yX U G (cT U G m) (G.length - 1 - m)
theorem qs(U:List RunT)(G:List az): ∀m,m<=G.length->(cT U G m).length=m
 |0,_=>rfl
 |m+1,h=>by
  obtain⟨x,hx⟩:=dh (l:=G) (i:=G.length - 1 - m) (by omega)
  simp only[cT,yX,hx]
  rw[List.length_append,qs U G m (by omega)]
  rfl
theorem vm(G:List az):(G.map az.row).flatten.length=G.length*9:=by
 have:=jU (sz:=9) (rows:=G.map az.row) (aM (row:=az.row) (sz:=9) G fun _=>rfl)
 simpa using this
theorem uR(G:List az):bE (G.map az.row).flatten=true:=jQ (row:=az.row) (fun _=>rfl) G
theorem se(G:List az)(x:az):(G.map az.row).flatten++x.row=((G++[x]).map az.row).flatten:=by
 rw[List.map_append,List.flatten_append];simp
section
variable{z:T aa}{zn:Nat}{N:aw}{D:gM}
theorem Dd{k:Nat}{G:List az}(h:bM z k (G.map az.row)){i:Nat}{x:az}(hx:G[i]? =some x): ∃kl,z.get k=some (.ay kl)/\aq prog kl 62 (0+i*9)=some (.agg ⟨x.row⟩)/\aq prog kl 4 (0+i*9)=some (.bool x.aW)/\aq prog kl 4 (0+i*9+8)=some (.bool x.stay):=by
 obtain⟨el,hel⟩:=h.ay (i:=i) (by simpa using (List.getElem?_eq_some_iff.1 hx).1)
 have hlen:=aM (row:=az.row) (sz:=9) G fun _=>rfl
 have hr:(G.map az.row)[i]? =some x.row:=by rw[List.getElem?_map,hx];rfl
 exact⟨_,hel,bD (r:=x.row) (sz:=9) underlying62 rfl rfl hlen hr,aS (j:=0) underlying4 rfl hlen hr rfl,aS (j:=8) underlying4 rfl hlen hr rfl⟩
end
theorem xy{P:Program}(hD:h9 P){α:Type}{b:Code}(base n nx:Nat)(I:α->Prop)(live:α->Live)(aQ:α->bN)(z:α->T aa)(zn:α->Nat)(μ:α->Nat)(R:aA->Prop)
 (step: ∀x,I x-> ∃g zg,eN P zg g/\ ∃N t,dp P g zg N b (ko n (live x)) (dI (z x) (aQ x) nx) (zn x) (nG base n (an I live aQ nx z zn μ R x)) t) (x0:α) (hI:I x0):ai P b base n (live x0) (aQ x0) nx (z x0) (zn x0) R:=by
 intro wG h0 zn0 σ0 hb hw
 refine Wp.loop base I (fun x=>(ko n (live x),dI (z x) (aQ x) nx)) zn μ (fun x hx=>?_) hw hI hb
 obtain⟨g,zg,hg,N,t,hk⟩:=step x hx
 refine(eD hD hg N b _ _ _ _ t hk).mono fun e fr1 h1 zn1 ⟨t',q⟩=>?_
 unfold nG at q
 split at q
 ·rename_i σ mv ny mV eI z' zn'
  obtain⟨q1,q2⟩:=dq.1 q
  have hw2:=pS q1
  cases e with
  |normal=>
   obtain⟨x',k1,k2,k3,k6,k7,k4,k5⟩:=q2
   rw[k1,k2,k3,k6,k7] at hw2
   exact .inl ⟨rfl,x',_,hw2,k4,k5⟩
  |exit i=>exact .inr ⟨by simp,_,_,_,_,hw2,⟨af.exit i,ny,mV,eI,z',zn'⟩,q2,rfl,rfl,rfl,rfl⟩
  |goto i=>exact .inr ⟨by simp,_,_,_,_,hw2,⟨af.goto i,ny,mV,eI,z',zn'⟩,q2,rfl,rfl,rfl,rfl⟩
  |ret=>exact .inr ⟨by simp,_,_,_,_,hw2,⟨af.ret,ny,mV,eI,z',zn'⟩,q2,rfl,rfl,rfl,rfl⟩
 ·exact q.elim
section
variable{N:aw}{D:gM}
theorem gv(h:(bT N D).2.2=0):(cf D.stops).2=0/\(bR D.ek).2=0/\(cL N.ns N.nr D.runs).2=0:=by
 unfold bT iy at h
 by_cases e1:(cf D.stops).2=0
 ·rw[if_neg (by simpa using e1)] at h
  by_cases e2:(bR D.ek).2=0
  ·rw[if_neg (by simpa using e2)] at h
   by_cases e3:(cL N.ns N.nr D.runs).2=0
   ·exact⟨e1,e2,e3⟩
   ·rw[if_pos e3] at h;exact(e3 h).elim
  ·rw[if_pos e2] at h;exact(e2 h).elim
 ·rw[if_pos e1] at h;exact(e1 h).elim
theorem FP{l:List bG}(h:(cf l).2=0){i:Nat}{x:bG}(hx:l[i]? =some x):0<=x.aQ:=by
 unfold cf at h
 split at h
 ·cases h
 have:=eZ (b:=dF l) (fun i hi=>by unfold dF at hi;(repeat' split at hi)<;>simp at hi) _ _ h i (Nat.zero_le _) (by have:=(List.getElem?_eq_some_iff.1 hx).1;omega)
 unfold dF at this
 rw[hx] at this
 simp only at this
 (repeat' split at this)<;>simp_all<;>omega
theorem CP{l:List ba}(h:(bR l).2=0){i:Nat}{x:ba}(hx:l[i]? =some x):0<=x.mode:=by
 unfold bR at h
 split at h
 ·cases h
 have:=eZ (b:=cN l) (fun i hi=>by unfold cN at hi;(repeat' split at hi)<;>simp at hi) _ _ h i (Nat.zero_le _) (by have:=(List.getElem?_eq_some_iff.1 hx).1;omega)
 unfold cN at this
 rw[hx] at this
 simp only at this
 (repeat' split at this)<;>simp_all<;>omega
theorem GO{l:List bd}{s lo hi:Int}(h:(bA l s lo hi).2=0){i:Nat}{x:bd}(hx:l[i]? =some x):0<=x.stop/\x.stop<s:=by
 unfold bA at h
 split at h
 ·cases h
 have:=eZ (b:=eS l s lo hi) (fun i hi=>by unfold eS at hi;(repeat' split at hi)<;>simp at hi;exact absurd hi (by assumption)) _ _ h i (Nat.zero_le _) (by have:=(List.getElem?_eq_some_iff.1 hx).1;omega)
 unfold eS at this
 rw[hx] at this
 simp only at this
 split at this
 ·rename_i h0
  unfold bk at h0
  by_cases hc:x.stop<0\/s<=x.stop
  ·rw[if_pos hc] at h0;cases h0
  ·omega
 ·cases this
theorem rK{ns nr:Nat}{l:List RunT}(h:(cL ns nr l).2=0){i:Nat}{x:RunT}(hx:l[i]? =some x):0<=x.v.eJ/\x.v.eJ<(nr:Int)/\ ∀(j:Nat)(c:bd),x.calls[j]? =some c->0<=c.stop/\c.stop<(ns:Int):=by
 unfold cL at h
 split at h
 ·cases h
 have:=eZ (so ns nr l) _ _ h i (Nat.zero_le _) (by have:=(List.getElem?_eq_some_iff.1 hx).1;omega)
 unfold dz at this
 rw[hx] at this
 simp only at this
 have hr: ¬(x.v.eJ<0\/(nr:Int)<=x.v.eJ):=fun hc=>by
  (repeat' split at this)<;>simp_all
 have he:yI ns x=0:=by
  (repeat' split at this)<;>simp_all
 exact⟨by omega,by omega,fun j c hc=>GO (l:=x.calls) (s:=ns) he hc⟩
end
section
variable{z:T aa}{zn:Nat}{N:aw}{D:gM}
theorem mY(hN:dt z N D)(hU:gu D.runs){y:Int}(h0:0<=y)(h1:y<(D.runs.length:Int)): ∃(u:RunT)(kr:aR)(cc:Nat),D.runs[y.toNat]? =some u/\N.ua=some ⟨766,0,none⟩/\z.get 1=some (.ay kr)/\aq prog kr 3 (0+y.toNat*8+4)=some (zv u.v.eJ)/\aq prog kr 51 (0+y.toNat*8+7)=some (tb (6+y.toNat) (dA D.runs y) cc)/\dA D.runs y=u.calls.length:=by
 obtain⟨u,hu⟩:=dh (l:=D.runs) (i:=y.toNat) (by omega)
 obtain⟨el,hel⟩:=hN.tu.HT.ay (i:=y.toNat) (by simpa using (List.getElem?_eq_some_iff.1 hu).1)
 have hlen:=aM (row:=fun r:RunT=>r.v.row) (sz:=8) D.runs fun _=>rfl
 have hr:(D.runs.map fun r:RunT=>r.v.row)[y.toNat]? =some u.v.row:=by rw[List.getElem?_map,hu];rfl
 have hc:=hU.calls u (List.mem_of_getElem? hu)
 have hl:dA D.runs y=u.calls.length:=by unfold dA;rw[hu]
 have hs:u.v.ca=some ⟨256*(6+y.toNat)+510,0,none⟩/\u.v.cn=u.calls.length:=by
  rcases hN.tu.sl _ u hu with (⟨_,_,_,h4⟩|h)|⟨_,_,_,h4⟩
  ·omega
  ·exact h
  ·omega
 have r7:aq prog (bg el (D.runs.map fun r:RunT=>r.v.row).flatten) 51 (0+y.toNat*8+7)=some (.slice u.v.ca u.v.cn u.v.cc):=aS underlying51 rfl hlen hr rfl
 rw[hs.1,hs.2,←hl] at r7
 exact⟨u,_,u.v.cc,hu,gR hN.u (by have:=cK hN.u;omega),hel,aS (j:=4) underlying3 rfl hlen hr rfl,r7,hl⟩
theorem nU{N:aw}(a1:N.sa=some ⟨1022,0,none⟩)(a2:N.ra=some ⟨1278,0,none⟩)(a3:N.ua=some ⟨766,0,none⟩): ∃M:aw,N=M.U:=⟨N,by cases N;simp only at a1 a2 a3;subst a1 a2 a3;rfl⟩
theorem oh{U:List RunT}{x:az}(h:x.run<0\/(U.length:Int)<=x.run):fU U x=false:=by
 unfold fU
 rcases h with h|h
 ·rw[decide_eq_false (show¬0<=x.run by omega)];rfl
 ·rw[decide_eq_false (show¬x.run<(U.length:Int) by omega)];simp
theorem lH{U:List RunT}{x:az}(h:fU U x=true):0<=x.run/\x.run<(U.length:Int)/\0<=x.ez/\x.ez<x.off/\x.off<(dA U x.run:Int):=by
 unfold fU at h
 simp only[Bool.and_eq_true,decide_eq_true_eq] at h
 exact h
theorem Kl(hz:au z zn)(hN:dt z N D)(hU:gu D.runs)(x:az):A1 z zn 40 [.agg ⟨N.cells⟩, .agg ⟨x.row⟩] [] 0 0 (.bool (fU D.runs x)) []:=by
 have hnu:=cK hN.u
 by_cases h0:x.run<0
 ·rw[oh (.inl h0)]
  have e1:Value.bool (decide (x.run<0))=Value.bool true:=by rw[decide_eq_true h0]
  refine aK1 (cg (zg:=z)) (fn:=f40) hz (yea z zn N x _ ?_)
  (repeat' first|(with_reducible first|exact rfl|assumption|apply And.intro|exact q1))
 have e1:Value.bool (decide (x.run<0))=Value.bool false:=by rw[decide_eq_false h0]
 by_cases h1:(N.nu:Int)<=x.run
 ·rw[oh (.inr (by omega))]
  have e2:Value.bool (decide (x.run>=(N.nu:Int)))=Value.bool true:=by rw[decide_eq_true (show x.run>=(N.nu:Int) by omega)]
  refine aK1 (cg (zg:=z)) (fn:=f40) hz (yeb z zn N x _ ?_)
  (repeat' first|(with_reducible first|exact rfl|assumption|apply And.intro|exact q1))
 have e2:Value.bool (decide (x.run>=(N.nu:Int)))=Value.bool false:=by rw[decide_eq_false (show¬x.run>=(N.nu:Int) by omega)]
 obtain⟨u,kr,cc,hu,ha,g1,_,r7,hl⟩:=mY hN hU (y:=x.run) (by omega) (by omega)
 obtain⟨sa,ns,sc,ra,nr,rc,ua,nu,uc,la,nl,lc,pa,np,pc,fa,nf,fc,d,w,c⟩:=N
 simp only at ha hnu h1 e2
 subst ha
 refine aK1 (cg (zg:=z)) (fn:=f40) hz (yec z zn x.run.toNat (dA D.runs x.run) cc ⟨sa,ns,sc,ra,nr,rc,some ⟨766,0,none⟩,nu,uc,la,nl,lc,pa,np,pc,fa,nf,fc,d,w,c⟩ kr x _ ?_)
 (repeat' first|(with_reducible first|exact rfl|assumption|apply And.intro|exact(by omega:x.run=((x.run.toNat:Nat):Int))|exact(by omega:x.run.toNat<nu))|intro hq)
 all_goals (refine uL (congrArg Value.bool ?_);clear hN hz hU g1 r7 e1 e2;simp only[decide_eq_true_eq,decide_eq_false_iff_not,ge_iff_le] at*;apply Eq.symm;unfold fU;simp;intros;omega)
theorem F1{G:List az}{i:Nat}(h0:i≠0)(hi:i<G.length){k:Nat}(h:bM z k (G.map az.row)): ∃kl,z.get k=some (.ay kl)/\aq prog kl 4 (0+(i - 1)*9+0)=some (.bool (gm G (i - 1))):=by
 obtain⟨p,hp⟩:=dh (l:=G) (i:=i - 1) (by omega)
 obtain⟨kl,h1,_,h2,_⟩:=Dd h hp
 have:gm G (i - 1)=p.aW:=by unfold gm;rw[hp]
 exact⟨kl,h1,by rw[this];exact h2⟩
theorem tT{k:Nat}{G:List az}(h:bM z k (G.map az.row)){i:Nat}{x:az}(hx:G[i]? =some x): ∃kl,z.get k=some (.ay kl)/\aq prog kl 62 (0+i*9)=some (.agg ⟨x.row⟩)/\(i≠0->aq prog kl 4 (0+(i - 1)*9+0)=some (.bool (gm G (i - 1))))/\aq prog kl 4 (0+i*9+8)=some (.bool x.stay)/\ ∀y,G[i+1]? =some y->aq prog kl 4 (0+(i+1)*9+8)=some (.bool y.stay):=by
 obtain⟨kl,h1,h2,_,h4⟩:=Dd h hx
 refine⟨kl,h1,h2,fun h0=>?_,h4,fun y hy=>?_⟩
 ·obtain⟨k2,g1,g2⟩:=F1 h0 (List.getElem?_eq_some_iff.1 hx).1 h
  rw[h1] at g1;cases g1;exact g2
 ·obtain⟨k2,g1,_,_,g2⟩:=Dd h hy
  rw[h1] at g1;cases g1;exact g2
theorem J4(hz:au z zn)(hN:dt z N D)(hll:D.paths.length<=10000):A1 z zn 19 [.agg ⟨N.cells⟩] [] 0 0 (.bool ((bT N D).2.2==0)) []:=by
 have hv:=jP (hN.val [])
 have hc:=Ko hz hN hll
 refine aK1 (cg (zg:=z)) (fn:=f19) hz (yva z zn N (bT N D).1 (bT N D).2.1 (bT N D).2.2 _ ?_)
 (repeat' first|(with_reducible first|exact rfl|assumption|apply And.intro)|intro hq)
 all_goals (refine uL ?_;rw[hq])
end
open Classical in
noncomputable def gJ(f0:Nat)(c:List Value)(P:az->Prop)(v:az->Value):Nat->List Value->Option Value
 |f,[.agg ⟨c'⟩, .agg ⟨[.bool a, .int .i64 b, .int .i64 d, .int .i64 e, .int .i64 p, .int .i64 q, .int .i64 r, .int .i64 s, .bool t]⟩]=>if f=f0/\c'=c/\P ⟨a,b,d,e,p,q,r,s,t⟩ then some (v ⟨a,b,d,e,p,q,r,s,t⟩) else none
 |_,_=>none
theorem OE{f0:Nat}{c:List Value}{P:az->Prop}{v:az->Value}{x:az}(h:P x):gJ f0 c P v f0 [.agg ⟨c⟩, .agg ⟨x.row⟩]=some (v x):=by
 obtain⟨a,b,d,e,p,q,r,s,t⟩:=x
 exact if_pos ⟨rfl,rfl,h⟩
theorem vM{P:Program}{z0 z:T aa}(hs: ∀k o,z0.get k=some o->z.get k=some o){f:Nat}{args:List Value}{v:Value}(h:mN P z0 f args v):mN P z f args v:=
 ⟨h.1,fun ρ W args' hz ha=>h.2 ρ W args' (fun k o hk=>hz k o (hs k o hk)) ha⟩
theorem Uq{P:Program}{z:T aa}{f0:Nat}{c:List Value}{Q:az->Prop}{v:az->Value}(h: ∀x,Q x->mN P z f0 [.agg ⟨c⟩, .agg ⟨x.row⟩] (v x)):eN P z (gJ f0 c Q v):=by
 intro f args u hu
 unfold gJ at hu
 split at hu
 ·split at hu
  ·rename_i hc
   obtain⟨rfl,rfl,hq⟩:=hc
   cases hu
   exact h _ hq
  ·cases hu
 ·cases hu
theorem nX{k:Nat}{a:Option Addr}{n c len m:Nat}(h:pP k a n c len)(hk:k<m){σ:Nat->Option Nat}(hσ: ∀j,j<m->σ (256*j+510)=some (256*j+510)):aJ σ (.slice a n c)=some (.slice a n c):=by
 rcases h with ⟨rfl,rfl,rfl,_⟩|⟨rfl,rfl⟩
 ·rfl
 ·simp only[aJ,hσ k hk]
theorem EB{z:T aa}{N:aw}{D:gM}(h:dt z N D){m:Nat}(hm:6<=m)(x:az):Vu m [.agg ⟨N.cells⟩, .agg ⟨x.row⟩]:=fun σ hσ=>by
 have e: ∀x:Int,aJ σ (zv x)=some (zv x):=fun _=>rfl
 have hc:aT σ N.cells=some N.cells:=by
  simp only[aT,nX h.s (show 2<m by omega) hσ,nX h.r (show 3<m by omega) hσ,nX h.u (show 1<m by omega) hσ,nX h.l (show 0<m by omega) hσ,nX h.p (show 4<m by omega) hσ,nX h.f (show 5<m by omega) hσ,e]
 exact eP (by simp only[aJ,hc]) (eo rfl)
theorem lz{k:Nat}{a:Option Addr}{n c len:Nat}(h:pP k a n c len){kz cn:Nat}{o:aa}(hk:k≠kz)(σ:bb):aJ (aj σ [(kz,cn,o)]) (.slice a n c)=some (.slice a n c):=by
 rcases h with ⟨rfl,rfl,rfl,_⟩|⟨rfl,rfl⟩
 ·rfl
 ·simp only[aJ,ky hk]
theorem dt.Ku{z:T aa}{N:aw}{D:gM}(h:dt z N D){kz cn:Nat}{o:aa}(hk:6<=kz)(σ:bb):aC (aj σ [(kz,cn,o)]) N.box=some N.box:=by
 have e: ∀x:Int,aJ (aj σ [(kz,cn,o)]) (zv x)=some (zv x):=fun _=>rfl
 simp only[aC,aT,lz h.s (show 2≠kz by omega),lz h.r (show 3≠kz by omega),lz h.u (show 1≠kz by omega),lz h.l (show 0≠kz by omega),lz h.p (show 4≠kz by omega),lz h.f (show 5≠kz by omega),e]
theorem rV{mm:Nat}{st:Bool}{x:az}(hr:x.aW=false):nm mm st x=⟨x.aW,x.run,x.ez,x.off,x.aB,x.fz1,wr (lM - x.arr),wr (lM - x.dep),st⟩:=by
 unfold nm;simp[hr]
theorem rW{mm:Nat}{st:Bool}{x:az}(hr:x.aW=true):nm mm st x=⟨x.aW,x.run,(mm:Int) - 1 - x.off,(mm:Int) - 1 - x.ez,x.aB,x.fz1,wr (lM - x.arr),wr (lM - x.dep),st⟩:=by
 unfold nm;simp[hr]
section
variable{z:T aa}{zn:Nat}{N:aw}{D:gM}
theorem NM(hz:au z zn)(hN:dt z N D)(hU:gu D.runs){K cp:Nat}{G:List az}(hT:bM z K (G.map az.row))(hG:G.length<1000000000){i:Nat}{x:az}(hx:G[i]? =some x):A1 z zn 20 [.agg ⟨N.cells⟩, .agg ⟨[tb K G.length cp]⟩,iv i] [] 0 0 (zv (dm D.runs G i x)) []:=by
 have hnu:=cK hN.u
 have hi:=(List.getElem?_eq_some_iff.1 hx).1
 obtain⟨kj,k1,k2,k3,_,_⟩:=tT hT hx
 have kp:((i:Int)==0)=false->aq prog kj 4 (0+(i - 1)*9+0)=some (.bool (gm G (i - 1))):=fun h=>k3 (by simp at h;omega)
 have ip:((i:Int)==0)=false->(i:Int) - 1=((i - 1:Nat):Int):=fun h=>by simp at h;omega
 have wp:((i:Int)==0)=false->Value.int .i64 (IntKind.i64.wrap ((i:Int) - 1))=Value.int .i64 ((i:Int) - 1):=fun h=>Ap (by simp at h;omega) (by omega)
 cases hr:x.aW with
 |false=>
  have e0:Value.bool x.aW=Value.bool false:=by rw[hr]
  refine aK1 (cg (zg:=z)) (fn:=f20) hz (ywa z zn K G.length cp i N kj x (gm G (i - 1)) _ ?_)
  (repeat' first|(with_reducible first|exact rfl|assumption|apply And.intro)|intro hq)
  all_goals (refine uL (congrArg (Value.int .i64) ?_);unfold dm;simp[hr,hq])
 |true=>
  have e0:Value.bool x.aW=Value.bool true:=by rw[hr]
  by_cases h0:x.run<0
  ·have e1:Value.bool (decide (x.run<0))=Value.bool true:=by rw[decide_eq_true h0]
   have el:dm D.runs G i x=9:=by unfold dm;rw[if_pos ⟨hr,oh (.inl h0)⟩]
   rw[el]
   refine aK1 (cg (zg:=z)) (fn:=f20) hz (ywb z zn K G.length cp i N kj x false _ ?_)
   (repeat' first|(with_reducible first|exact rfl|assumption|apply And.intro)|exact q1)
  have e1:Value.bool (decide (x.run<0))=Value.bool false:=by rw[decide_eq_false h0]
  by_cases h1:(N.nu:Int)<=x.run
  ·have el:dm D.runs G i x=9:=by unfold dm;rw[if_pos ⟨hr,oh (.inr (by omega))⟩]
   rw[el]
   have e2:Value.bool (decide (x.run>=(N.nu:Int)))=Value.bool true:=by rw[decide_eq_true (show x.run>=(N.nu:Int) by omega)]
   have e3:Value.bool (decide (x.run>=0))=Value.bool true:=by rw[decide_eq_true (show x.run>=0 by omega)]
   have hu:=hN.u
   obtain⟨sa,ns,sc,ra,nr,rc,ua,nu,uc,la,nl,lc,pa,np,pc,fa,nf,fc,d,w,c⟩:=N
   rcases hu with ⟨q1',q2',q3',_⟩|⟨q1',_⟩<;>simp only at q1'
   ·simp only at q2' q3'
    subst q1' q2' q3'
    refine aK1 (cg (zg:=z)) (fn:=f20) hz (ywz z zn K G.length cp i ⟨sa,ns,sc,ra,nr,rc,none,0,0,la,nl,lc,pa,np,pc,fa,nf,fc,d,w,c⟩ kj x _ ?_)
    (repeat' first|(with_reducible first|exact rfl|assumption|apply And.intro)|exact q1)
   ·subst q1'
    refine aK1 (cg (zg:=z)) (fn:=f20) hz (ywc z zn K G.length cp i ⟨sa,ns,sc,ra,nr,rc,some ⟨766,0,none⟩,nu,uc,la,nl,lc,pa,np,pc,fa,nf,fc,d,w,c⟩ kj x _ ?_)
    (repeat' first|(with_reducible first|exact rfl|assumption|apply And.intro)|exact q1)
  have e2:Value.bool (decide (x.run>=(N.nu:Int)))=Value.bool false:=by rw[decide_eq_false (show¬x.run>=(N.nu:Int) by omega)]
  obtain⟨u,kr,cc,hu,ha,g1,_,r7,hl⟩:=mY hN hU (y:=x.run) (by omega) (by omega)
  obtain⟨sa,ns,sc,ra,nr,rc,ua,nu,uc,la,nl,lc,pa,np,pc,fa,nf,fc,d,w,c⟩:=N
  simp only at ha hnu h1 e2
  subst ha
  have hex:fU D.runs x=(decide (0<=x.ez) && (decide (x.ez<x.off) && decide (x.off<(dA D.runs x.run:Int)))):=by
   unfold fU
   rw[decide_eq_true (show 0<=x.run by omega),decide_eq_true (show x.run<(D.runs.length:Int) by omega)];rfl
  refine aK1 (cg (zg:=z)) (fn:=f20) hz (ywd z zn K G.length cp i x.run.toNat (dA D.runs x.run) cc ⟨sa,ns,sc,ra,nr,rc,some ⟨766,0,none⟩,nu,uc,la,nl,lc,pa,np,pc,fa,nf,fc,d,w,c⟩ kj kr x (gm G (i - 1)) _ ?_)
  (repeat' first|(with_reducible first|exact rfl|assumption|apply And.intro|exact kp ‹_›|exact ip ‹_›|exact wp ‹_›|exact(by omega:i - 1<G.length)|exact(by omega:x.run=((x.run.toNat:Nat):Int))|exact(by omega:x.run.toNat<nu))|intro hq)
  all_goals
   refine uL (congrArg (Value.int .i64) ?_)
   unfold dm
   rw[hex]
   clear hN hz hU g1 r7 e0 e1 e2 k1 k2 k3 kp ip wp hT hex
   simp only[decide_eq_true_eq,decide_eq_false_iff_not,ge_iff_le,Bool.not_eq_true',Bool.not_eq_false',bS3] at*
   apply Eq.symm
   first
    |(rw[if_pos ⟨hr,by apply Bool.eq_false_iff.2;intro hh;simp only[Bool.and_eq_true,decide_eq_true_eq] at hh;omega⟩];rfl)
    |(rw[if_neg (fun hh=>absurd hh.2 (by rw[Bool.not_eq_false];simp only[Bool.and_eq_true,decide_eq_true_eq];omega))]
      first
       |(rw[if_pos (by simp_all;done)];rfl)
       |(rw[if_neg (by simp_all;done)];rfl))
theorem Rl(hz:au z zn)(hN:dt z N D)(hU:gu D.runs)(x:az)(hx:x.aW=true->fU D.runs x=true):A1 z zn 21 [.agg ⟨N.cells⟩, .agg ⟨x.row⟩] [] 0 0 (.agg ⟨(nm (dA D.runs x.run) false x).row⟩) []:=by
 have hnu:=cK hN.u
 cases hr:x.aW with
 |false=>
  have e0:Value.bool x.aW=Value.bool false:=by rw[hr]
  refine aK1 (cg (zg:=z)) (fn:=f21) hz (yma z zn N x (wr (lM - x.arr)) (wr (lM - x.dep)) _ ?_)
  (repeat' first|(with_reducible first|exact rfl|assumption|apply And.intro))
  refine uL ?_
  show _=Value.agg ⟨az.row _⟩
  rw[rV hr]
 |true=>
  have e0:Value.bool x.aW=Value.bool true:=by rw[hr]
  obtain⟨x1,x2,x3,x4,x5⟩:=lH (hx hr)
  have hul:=pT hU x.run
  obtain⟨u,kr,cc,hu,ha,g1,_,r7,hl⟩:=mY hN hU x1 x2
  obtain⟨sa,ns,sc,ra,nr,rc,ua,nu,uc,la,nl,lc,pa,np,pc,fa,nf,fc,d,w,c⟩:=N
  simp only at ha hnu
  subst ha
  refine aK1 (cg (zg:=z)) (fn:=f21) hz (ymb z zn x.run.toNat (dA D.runs x.run) cc ⟨sa,ns,sc,ra,nr,rc,some ⟨766,0,none⟩,nu,uc,la,nl,lc,pa,np,pc,fa,nf,fc,d,w,c⟩ kr x (wr (lM - x.arr)) (wr (lM - x.dep)) ((dA D.runs x.run:Int) - 1 - x.off) ((dA D.runs x.run:Int) - 1 - x.ez) _ ?_)
  (repeat' first|(with_reducible first|exact rfl|assumption|apply And.intro|exact(by omega:x.run=((x.run.toNat:Nat):Int))|exact(by omega:x.run.toNat<nu)|exact cX (by omega) (by omega)))
  refine uL ?_
  show _=Value.agg ⟨az.row _⟩
  rw[rW hr]
theorem Zf(hz0:au z zn)(hown: ∀k o,z.get k=some o->o.owned=false)(h6:6<=zn)(hN:dt z N D)(hU:gu D.runs){z':T aa}(hs: ∀k o,z.get k=some o->z'.get k=some o):eN prog z' (gJ 21 N.cells (fun x=>x.aW=true->fU D.runs x=true) fun x=> .agg ⟨(nm (dA D.runs x.run) false x).row⟩):=
 Uq fun x hx=>vM hs (oz (Rl hz0 hN hU x hx) (fun _ _=>rfl) rfl hown (EB hN h6 x))
end
end Go.Proofs.Nw
namespace Go.Proofs.Nw
open Go Go.AV Tryz
set_option maxRecDepth 1000000
noncomputable section
abbrev Aa(J:lq):Value:=Value.slice J.a J.n J.c
abbrev oI:Prop:=Rs (BQ [Y5] 1 1 34)
abbrev jb:Nat × Value:=(4,fo)
abbrev ta:Nat × aa:=(2,BQ [Y5] 1 1 34)
abbrev Hc(J:lq):aa:=BQ [Aa J] 1 1 34
abbrev jH:Nat × Value:=(3,dr)
abbrev DO:Nat × aa:=(2,jB ak)
abbrev RG(N:aw)(J:lq):List (Nat × aa):=[(0,N.box),(1,jB J.v),DO]
theorem yja(z:T aa)(zn i:Nat)(N:aw)(J:lq)(e:Int)(Q:QL)(hyp:Br (decide ((↑i:Int)<(↑J.n:Int))) (aP prog z zn 20 [AG (ub N),AG [Aa J],IV i] [] 0 0 Yy (Lu e) bQ/\aT wa [AG (ub N),AG [Aa J],IV i]=some [AG (ub N),AG [Aa J],IV i]/\ ∀(x:Unit),True->Rs (ZV e)/\Br (e !=0) (E6 99 z zn (R2 fo (ZV e) (oI/\Q af.ret [jb,(5,ZV e)] [ta] 3 z zn))) (ZV (IntKind.i64.wrap ((↑i:Int)+1))=IV (i+1)/\E6 99 z zn (R3 bh dr fo (aJ rf (Aa J)=some (Aa J)/\R2 (IV J.n) (IV (i+1)) (K2 rf (kv N) (Hc J) (oI/\Q aN [g8,jH,jb,(19,Aa J),(20,IV J.n),(21,IV (i+1))] [(0,kv N),(1,Hc J),ta] 3 z zn)))))) (E6 99 z zn (R3 bh dr fo (K2 rf (kv N) (Hc J) (oI/\Q YO [g8,jH,jb] [(0,kv N),(1,Hc J),ta] 3 z zn))))):RdT prog jo fC (ah (ag Tryz.f7) 0) 99 (C9 J i) z (RG N J) 3 zn 3 Q:=K1t hyp ((tA 3 (Tr.cm (Cm.mk [AG (ub N),AG [Aa J],IV i] [] 0 0 [] [] 3) Unit Yy (Lu e) bQ (Vk e) bQ (eG z) (eF zn) fun(x:Unit)=>(tA 2 (tE [j9] [] [jb,(5,ZV e)] [ta] 3 z zn)).fork (tA 1 (tO (Ym i) (tE ib [] [g8,jH,jb,(19,Aa J),(20,IV J.n),(21,IV (i+1))] [(0,kv N),(1,Hc J),ta] 3 z zn))))).fork (tA 1 (tE ib [] [g8,jH,jb] [(0,kv N),(1,Hc J),ta] 3 z zn)))
abbrev Ad(m:az)(st:Bool):List Value:=[Ha m,ZV m.run,ZV m.ez,ZV m.off,ZV m.fz1,ZV m.aB,ZV m.dep,ZV m.arr,fy st]
abbrev Ss(z:T aa)(zn:Nat)(m:az)(st:Bool):T aa:=cF z [(zn,6,BR (Ad m st) 9 9 62)]
abbrev Fx:List (Nat × Nat):=[YB,jh,j9,(3,3)]
abbrev k9(K n cp:Nat):aa:=BQ [SL (tF K) n cp] 1 1 34
abbrev YJB(zn:Nat)(m:az)(st:Bool):Prop:=aC (aj Fx [(zn,6,BR (Ad m st) 9 9 62)]) (BQ [v8 zn] 1 1 34)=some (BQ [Ob] 1 1 34)
abbrev Cz:Nat × Value:=(8,PT 3)
abbrev VL(N:aw)(K n cp zn:Nat):List (Nat × aa):=[(0,kv N),(1,k9 K n cp),ta,(3,BQ [v8 zn] 1 1 34)]
noncomputable abbrev VK:Code:=ah (ag Tryz.f7) 1
abbrev Fu(K n cp:Nat):Nat × aa:=(1,jB (tb K n cp))
theorem yjb(z zg:T aa)(g:Nat->List Value->Option Value)(zn i K n cp:Nat)(N:aw)(st:Bool)(y:Int)(m x:az)(kj:aR)(Q:QL)(hyp:Br (decide (y>=0)) (y=(↑i:Int)/\i<n/\dC K/\dJ z K kj/\Ac kj i x/\z=zg/\g 21 [AG (ub N),AG (sy x)]=some (AG (sy m))/\y=(↑i:Int)/\i<n/\dC K/\dJ z K kj/\aq prog kj 4 (0+i*9+8)=some (rC x)/\Br m.aW (WQ1 (y - 1)/\E3 99 (Rf (Ss z zn m st)/\zn.le (zn+1)/\au z zn/\zn<=zn/\zn<zn+1/\Rs (BR (Ad m st) 9 9 62)/\R6 bh dr fo (PT 3) (rC x) (ZV (y - 1)) (K2 (aj Fx [(zn,6,BR (Ad m st) 9 9 62)]) (kv N) (k9 K n cp) (oI/\YJB zn m st/\Q aN [g8,jH,jb,Cz,(9,rC x),(10,ZV (y - 1))] (VL N K n cp zn) 4 (Ss z zn m st) (zn+1))))) (WQ1 (y - 1)/\E3 99 (Rf (Ss z zn m st)/\zn.le (zn+1)/\au z zn/\zn<=zn/\zn<zn+1/\Rs (BR (Ad m st) 9 9 62)/\R6 bh dr fo (PT 3) (rC x) (ZV (y - 1)) (K2 (aj Fx [(zn,6,BR (Ad m st) 9 9 62)]) (kv N) (k9 K n cp) (oI/\YJB zn m st/\Q aN [g8,jH,jb,Cz,(9,rC x),(10,ZV (y - 1))] (VL N K n cp zn) 4 (Ss z zn m st) (zn+1)))))) (E6 99 z zn (R2 fo (PT 3) (oI/\oI/\Q Y8 [jb,Cz] [ta,(3,BQ [Y5] 1 1 34)] 4 z zn)))):RdT prog g zg VK 99 (lD st y) z [(0,N.box),Fu K n cp,DO,(3,jB ak)] 4 zn 4 Q:=K1t hyp ((tA 3 (tO (Yj i) (tO (Ab K kj x) (tO (An.cl (AG (sy m))) (tA 2 (tO (Yj i) (tO (An.ld K kj (rC x)) (tA 2 ((tA 16 (tO (An.val (ZV (y - 1))) (tE Fx [(zn,6,BR (Ad m st) 9 9 62)] [g8,jH,jb,Cz,(9,rC x),(10,ZV (y - 1))] (VL N K n cp zn) 4 (Ss z zn m st) (zn+1)))).fork (tA 17 (tO (An.val (ZV (y - 1))) (tE Fx [(zn,6,BR (Ad m st) 9 9 62)] [g8,jH,jb,Cz,(9,rC x),(10,ZV (y - 1))] (VL N K n cp zn) 4 (Ss z zn m st) (zn+1))))))))))))).fork (tA 1 (tE [j9,(3,3)] [] [jb,Cz] [ta,(3,BQ [Y5] 1 1 34)] 4 z zn)))
abbrev So(z:T aa)(k zn:Nat)(kb:aR)(m:az)(st:Bool)(r:Nat):T aa:=cF (z.del k) [(zn,6,BR (kb.cells++Ad m st) ((r+1)*9) 9 62)]
abbrev Sn(zn:Nat)(kb:aR)(m:az)(st:Bool)(r:Nat):Nat->Option Nat:=aj Fx [(zn,6,BR (kb.cells++Ad m st) ((r+1)*9) 9 62)]
abbrev Sm(N:aw)(K n cp zn r:Nat):List (Nat × aa):=[(0,kv N),(1,k9 K n cp),ta,(3,BQ [pN zn r] 1 1 34)]
abbrev ZU(kb:aR)(r:Nat)(p:az):Prop:=aq prog kb 4 (0+(r - 1)*9+0)=some (Ha p)
abbrev U6(kb:aR)(r:Nat)(p:az):Prop:=aq prog kb 3 (0+(r - 1)*9+7)=some (ZV p.arr)
abbrev VI(m p:az)(vd:Int)(st:Bool):List Value:=[Ha m,ZV m.run,ZV m.ez,ZV m.off,ZV m.fz1,ZV m.aB,ZV p.arr,ZV vd,fy st]
abbrev RA(zn:Nat)(kb:aR)(m p:az)(vd:Int)(st:Bool)(r:Nat):List (Nat × Nat × aa):=[(zn,6,BR (kb.cells++VI m p vd st) ((r+1)*9) 9 62)]
theorem yjc(z zg:T aa)(g:Nat->List Value->Option Value)(zn i K n cp k r:Nat)(N:aw)(st:Bool)(y:Int)(m x p:az)(kj kb:aR)(va vd:Int)(Q:QL)(hyp:Br (decide (y>=0)) (y=(↑i:Int)/\i<n/\dC K/\dJ z K kj/\Ac kj i x/\z=zg/\g 21 [AG (ub N),AG (sy x)]=some (AG (sy m))/\y=(↑i:Int)/\i<n/\dC K/\dJ z K kj/\aq prog kj 4 (0+i*9+8)=some (rC x)/\Br m.aW (dC k/\dJ z k kb/\kb.exact=false/\kb.own=true/\kb.bH=0/\kb.jV=9/\kb.elem=62/\Rs (Ad m st)/\Rf r/\kb.cells.length=r*9/\kb.cap=r*9/\r+1<=1048576/\WQ1 (y - 1)/\E3 99 (Rf (So z k zn kb m st r)/\zn.le (zn+1)/\au (z.del k) zn/\zn<=zn/\zn<zn+1/\KO (Sn zn kb m st r) (BR (kb.cells++Ad m st) ((r+1)*9) 9 62)/\R6 bh dr fo (PT 3) (rC x) (ZV (y - 1)) (K2 (Sn zn kb m st r) (kv N) (k9 K n cp) (oI/\aC (Sn zn kb m st r) (BQ [pN zn r] 1 1 34)=some (BQ [KL r] 1 1 34)/\Q aN [g8,jH,jb,Cz,(9,rC x),(10,ZV (y - 1))] (Sm N K n cp zn r) 4 (So z k zn kb m st r) (zn+1))))) (Value.bool (decide ((↑r:Int)>0))=T1/\WQ1 ((↑r:Int) - 1)/\(↑r:Int) - 1=(↑(r - 1):Int)/\r - 1<r/\dC k/\dJ z k kb/\ZU kb r p/\Br p.aW (WQ1 ((↑r:Int) - 1)/\(↑r:Int) - 1=(↑(r - 1):Int)/\r - 1<r/\dC k/\dJ z k kb/\U6 kb r p/\WP1 (m.arr - m.dep) va/\WP1 (p.arr+va) vd/\dC k/\dJ z k kb/\kb.exact=false/\kb.own=true/\kb.bH=0/\kb.jV=9/\kb.elem=62/\Rs (VI m p vd st)/\Rf r/\kb.cells.length=r*9/\kb.cap=r*9/\r+1<=1048576/\WQ1 (y - 1)/\E3 99 (Rf (cF (z.del k) (RA zn kb m p vd st r))/\zn.le (zn+1)/\au (z.del k) zn/\zn<=zn/\zn<zn+1/\KO (aj Fx (RA zn kb m p vd st r)) (BR (kb.cells++VI m p vd st) ((r+1)*9) 9 62)/\R6 bh dr fo (PT 3) (rC x) (ZV (y - 1)) (K2 (aj Fx (RA zn kb m p vd st r)) (kv N) (k9 K n cp) (oI/\aC (aj Fx (RA zn kb m p vd st r)) (BQ [pN zn r] 1 1 34)=some (BQ [KL r] 1 1 34)/\Q aN [g8,jH,jb,Cz,(9,rC x),(10,ZV (y - 1))] (Sm N K n cp zn r) 4 (cF (z.del k) (RA zn kb m p vd st r)) (zn+1))))) (dC k/\dJ z k kb/\kb.exact=false/\kb.own=true/\kb.bH=0/\kb.jV=9/\kb.elem=62/\Rs (Ad m st)/\Rf r/\kb.cells.length=r*9/\kb.cap=r*9/\r+1<=1048576/\WQ1 (y - 1)/\E3 99 (Rf (So z k zn kb m st r)/\zn.le (zn+1)/\au (z.del k) zn/\zn<=zn/\zn<zn+1/\KO (Sn zn kb m st r) (BR (kb.cells++Ad m st) ((r+1)*9) 9 62)/\R6 bh dr fo (PT 3) (rC x) (ZV (y - 1)) (K2 (Sn zn kb m st r) (kv N) (k9 K n cp) (oI/\aC (Sn zn kb m st r) (BQ [pN zn r] 1 1 34)=some (BQ [KL r] 1 1 34)/\Q aN [g8,jH,jb,Cz,(9,rC x),(10,ZV (y - 1))] (Sm N K n cp zn r) 4 (So z k zn kb m st r) (zn+1))))))) (E6 99 z zn (R2 fo (PT 3) (oI/\Rs (BQ [dw k r] 1 1 34)/\Q Y8 [jb,Cz] [ta,(3,BQ [dw k r] 1 1 34)] 4 z zn)))):RdT prog g zg VK 99 (lD st y) z [(0,N.box),Fu K n cp,DO,(3,jB (tb k r r))] 4 zn 4 Q:=K1t hyp ((tA 3 (tO (Yj i) (tO (Ab K kj x) (tO (An.cl (AG (sy m))) (tA 2 (tO (Yj i) (tO (An.ld K kj (rC x)) (tA 2 ((tA 14 (tX (iD.Dn k kb 1 (Ad m st)) (tA 1 (tO (An.val (ZV (y - 1))) (tE Fx
 [(zn,6,BR (kb.cells++Ad m st) ((r+1)*9) 9 62)] [g8,jH,jb,Cz,(9,rC x),(10,ZV (y - 1))] (Sm N K n cp zn r) 4 (So z k zn kb m st r) (zn+1)))))).fork (tA 2 (tO mC (tA 6 (tO (An.val (ZV ((↑r:Int) - 1))) (tA 1 (tO (yp r) (tA 2 (tO (An.ld k kb (Ha p)) (tA 1 ((tA 1 (tO (An.val (ZV ((↑r:Int) - 1))) (tO (yp r) (tO (An.ld k kb (zv p.arr)) (tA 2 (tO (sx va) (tO (sx vd) (tA 4 (tX (iD.Dn k kb 1 (VI m p vd st)) (tA 1 (tO (An.val (ZV (y - 1))) (tE Fx (RA zn kb m p vd st r) [g8,jH,jb,Cz,(9,rC x),(10,ZV (y - 1))] (Sm N K n cp zn r) 4 (cF (z.del k) (RA zn kb m p vd st r)) (zn+1))))))))))))).fork (tA 2 (tX (iD.Dn k kb 1 (Ad m st)) (tA 1 (tO (An.val (ZV (y - 1))) (tE Fx [(zn,6,BR (kb.cells++Ad m st) ((r+1)*9) 9 62)] [g8,jH,jb,Cz,(9,rC x),(10,ZV (y - 1))] (Sm N K n cp zn r) 4 (So z k zn kb m st r) (zn+1))))))))))))))))))))))))).fork (tA 1 (tE [j9,(3,3)] [] [jb,Cz] [ta,(3,BQ [dw k r] 1 1 34)] 4 z zn)))
theorem yjz(z:T aa)(zn:Nat)(N:aw)(J:lq)(st:Bool)(v:Value)(y:Int)(Q:QL)(hyp:Value.bool (decide (y>=0))=F0/\E6 99 z zn (R2 fo (PT 3) (oI/\KO (aj [j9,(3,3)] []) (Hc J)/\Q Y8 [jb,Cz] [ta,(3,Hc J)] 4 z zn))):RdT prog jo fC VK 99 (lD st y) z [(0,N.box),(1,jB v),DO,(3,jB (Aa J))] 4 zn 4 Q:=K1t hyp (tO lj (tA 1 (tE [j9,(3,3)] [] [jb,Cz] [ta,(3,Hc J)] 4 z zn)))
abbrev ZT:Value:=TP [AG [Y5],I 21]
abbrev La(e:Int):Value:=TP [AG [Y5],ZV e]
noncomputable abbrev YJP(s:bI):aA:=aA.mk Y8 [(4,ip 2),(8,ip 3)] [DO,(3,jB s.v)] 4 (gf s) s.zn
noncomputable abbrev YJQ:bI->aA:=fun(s:bI)=>YJP s
abbrev Ft(x:bI):Value:=TP [AG [pR x],YM]
abbrev OV(N:aw)(J:lq):List Value:=[AG N.cells,J.jn]
noncomputable abbrev YJT:bI->Tr:=fun(x:bI)=>tA 2 (tR [] [] (Ft x) [] 0 (gf x) x.zn)
theorem yj(z:T aa)(zn:Nat)(N:aw)(J:lq)(b:Bool)(e:Int)(φ:bI->Prop)(Q:QF)(hyp:aP prog z zn 19 (CB N) [] 0 0 Yy (wq b) bQ/\HI N/\ ∀(x:Unit),True->Rs (fy b)/\Br (!b) (E6 99 z zn (Rs ZT/\Q ZT [] 0 z zn)) (zU/\ai prog (ah (ag Tryz.f7) 0) 3 99 (C9 J 0) (RG N J) 3 z zn (alt (e≠0) (aA.mk af.ret [(4,ip 2),(5,zv e)] [DO] 3 z zn) (alt (e=0) (aA.mk YO [(2,ip 0),(3,ip 1),(4,ip 2)] (RG N J) 3 z zn) Al.nil)).R/\E6 99 z zn (R3 bh dr fo (aJ rf (Aa J)=some (Aa J)/\R2 (IV J.n) YM (K2 rf (kv N) (Hc J) (oI/\(∀(x:Unit),e≠0->E6 99 z zn (Rs (La e)/\Q (La e) [] 0 z zn))/\ ∀(x:Unit),e=0->WQ1 ((↑J.n:Int) - 1)/\Rf 4/\ai prog VK 4 99 (lD false ((↑J.n:Int) - 1)) [(0,N.box),(1,jB J.v),DO,(3,jB ak)] 4 z zn (Al.cons bI φ YJQ SA Al.nil).R/\E6 99 z zn (R6 bh dr fo (PT 3) F0 (ZV ((↑J.n:Int) - 1)) (K2 (aj Fx []) (kv N) (Hc J) (oI/\oI/\ ∀(x:bI),φ x->E6 99 (gf x) x.zn (aJ (aj [] []) (Ft x)=some (Ft x)/\Q (Ft x) [] 0 (gf x) x.zn)))))))))):FnT prog jo fC Tryz.f7 (OV N J) z [] 0 zn Q:=K1t hyp (tA 1 (Tr.cm (Wz N) Unit Yy (wq b) bQ (wq b) bQ (eG z) (eF zn) fun(x:Unit)=>(tA 1 (tR [] [] ZT [] 0 z zn)).fork (tA 1 (Tr.lp 3 99 ib [] (C9 J 0) (RG N J) 3 z zn (Al.cons Unit (SP e) (fun(x:Unit)=>aA.mk af.ret [(4,ip 2),(5,zv e)] [DO] 3 z zn) (fun(x:Unit)=>tR [] [] (La e) [] 0 z zn) (Al.cons Unit (S3 e) (fun(x:Unit)=>aA.mk YO [(2,ip 0),(3,ip 1),(4,ip 2)] (RG N J) 3 z zn) (fun(x:Unit)=>tA 1 (tO (An.val (ZV ((↑J.n:Int) - 1))) (Tr.lp 4 99 Fx [] (lD false ((↑J.n:Int) - 1)) [(0,N.box),(1,jB J.v),DO,(3,jB ak)] 4 z zn (Al.cons bI φ YJQ YJT Al.nil)))) Al.nil))))))
end
end Go.Proofs.Nw
namespace Go.Proofs.Nw
open Go Go.AV Tryz
set_option maxHeartbeats 1000000
set_option maxRecDepth 100000
structure ke(z0:T aa)(n0:Nat)(L:List az)(s:bI):Prop where
 bH:au s.z s.zn
 le:n0<=s.zn
 fE: ∀k,k<n0->s.z.get k=z0.get k
 val:(L=[]/\s.oa=none/\s.k=0)\/(L≠[]/\ ∃kk,n0<=kk/\kk<s.zn/\s.oa=some ⟨256*kk+510,0,none⟩/\s.k=L.length/\s.z.get kk=some (mP (L.map az.row).flatten L.length))
theorem Mo(n:Nat):Nat.le n (n+1):=Nat.le_succ n
abbrev eV(N:aw):aa:= .ay ⟨N.cells,9,1,31,true,true,0,true⟩
theorem EP{L:List az}{r:Nat}{p:az}(hr:L.length=r+1)(hp:L.getLast? =some p):aq prog (aR.mk (L.map az.row).flatten (L.length*9) 9 62 false false 0 true) 4 (0+r*9+0)=some (.bool p.aW)/\aq prog (aR.mk (L.map az.row).flatten (L.length*9) 9 62 false false 0 true) 3 (0+r*9+7)=some (zv p.arr):=by
 have hx:(L.map az.row)[r]? =some p.row:=by
  rw[List.getLast?_eq_getElem?,hr] at hp
  rw[List.getElem?_map,show r=r+1 - 1 by omega,hp];rfl
 have hlen:=aM (row:=az.row) (sz:=9) L fun _=>rfl
 exact⟨pq (rows:=L.map az.row) (j:=0) rfl underlying4 rfl hlen hx rfl,pq (rows:=L.map az.row) (j:=7) rfl underlying3 rfl hlen hx rfl⟩
theorem ng{σ:Nat->Option Nat}{v:Value}(h:aJ σ v=some v):aJ σ (.agg ⟨[v]⟩)=some (.agg ⟨[v]⟩):=by
 have:=jP h
 simp only[aJ,this]
theorem na{σ:Nat->Option Nat}(L:List az)(M:az)(c:Nat):aC σ (.ay (aR.mk ((L.map az.row).flatten++M.row) c 9 62 false false 0 true))=some (.ay (aR.mk ((L.map az.row).flatten++M.row) c 9 62 false false 0 true)):=bX (by rw[se];exact uR _)
theorem Ef{σ:bb}{k c n m:Nat}{o:aa}:aC (aj σ [(k,c,o)]) (.ay ⟨[tb k n m],1,1,34,true,true,0,true⟩)=some (.ay ⟨[bc c n m],1,1,34,true,true,0,true⟩):=by
 have:=fO (σ:=σ) (k:=k) (c:=c) (n:=n) (m:=m) (o:=o)
 simp only[aC,aT,this]
theorem kA{σ:bb}{K k c n m:Nat}{o:aa}(h:K≠k):aC (aj σ [(k,c,o)]) (.ay ⟨[tb K n m],1,1,34,true,true,0,true⟩)=some (.ay ⟨[tb K n m],1,1,34,true,true,0,true⟩):=by
 have:aJ (aj σ [(k,c,o)]) (tb K n m)=some (tb K n m):=by simp only[aJ,ky h]
 simp only[aC,aT,this]
theorem L6{σ:bb}{K n m:Nat}:aC (aj σ []) (jB (tb K n m))=some (jB (tb K n m)):=by
 simp only[aC,aT,jL]
theorem EM{z0:T aa}{n0:Nat}{s:bI}(hs:ke z0 n0 [] s)(m:az):ke z0 n0 [m] ⟨some ⟨256*s.zn+510,0,none⟩,1,s.z.set s.zn (mP m.row 1),s.zn+1⟩:=
 ⟨eC hs.bH rfl,by have:=hs.le;show n0<=s.zn+1;omega,fun k hk=>by
   have:=hs.le
   show(s.z.set s.zn _).get k=_
   rw[T.aG,if_neg (by omega)];exact hs.fE k hk, .inr ⟨by simp,s.zn,hs.le,Nat.lt_succ_self _,rfl,rfl,by
   show(s.z.set s.zn _).get s.zn=_
   rw[T.aG,if_pos rfl];rfl⟩⟩
theorem Bx{z0:T aa}{n0:Nat}{s:bI}{L:List az}(hs:ke z0 n0 L s)(m:az){kk:Nat}(hk:n0<=kk):ke z0 n0 (L++[m]) ⟨some ⟨256*s.zn+510,0,none⟩,L.length+1,(s.z.del kk).set s.zn (mP ((L.map az.row).flatten++m.row) (L.length+1)),s.zn+1⟩:=
 ⟨eC (gY hs.bH _) (by show bE ((L.map az.row).flatten++m.row)=true;rw[se];exact uR _),by have:=hs.le;show n0<=s.zn+1;omega,fun k hk'=>by
   have:=hs.le
   show((s.z.del kk).set s.zn _).get k=_
   rw[T.aG,if_neg (by omega),T.fq,if_neg (by omega)];exact hs.fE k hk', .inr ⟨by simp,s.zn,hs.le,Nat.lt_succ_self _,rfl,by simp,by
   show((s.z.del kk).set s.zn _).get s.zn=_
   rw[T.aG,if_pos rfl,se,List.length_append];rfl⟩⟩
theorem xN{L:List az}{m:az}(h:m.aW=true):mg L m=m:=by
 unfold mg
 split
 ·rw[if_neg (by simp[h])]
 ·rfl
theorem E1{L:List az}{m p:az}(hp:L.getLast? =some p)(h:p.aW=false):mg L m=m:=by
 unfold mg
 rw[hp]
 simp[h]
theorem BJ{L:List az}{m p:az}(hp:L.getLast? =some p)(hm:m.aW=false)(h:p.aW=true):mg L m={m with dep:=p.arr,arr:=wr (p.arr+wr (m.arr - m.dep))}:=by
 unfold mg
 rw[hp]
 simp[h,hm]
section
variable{z:T aa}{g:Nat->List Value->Option Value}{zn i K n cp kk:Nat}{N:aw}{st:Bool}{y:Int}{m x p:az}{kj:aR}{L:List az}{Q:af->Live->bN->Nat->T aa->Nat->Prop}
theorem P7(hz:au z zn)(h0:0<=y)(hy:y=(i:Int))(hi:i<n)(k1:z.get K=some (.ay kj))(k2:aq prog kj 62 (0+i*9)=some (.agg ⟨x.row⟩))(k3:aq prog kj 4 (0+i*9+8)=some (.bool x.stay))(hge:g 21 [.agg ⟨N.cells⟩, .agg ⟨x.row⟩]=some (.agg ⟨m.row⟩))(wy:Value.int .i64 (IntKind.i64.wrap (y - 1))=Value.int .i64 (y - 1))(sU: ∀(σ:bb)(c:Nat)(o:aa),aC (aj σ [(zn,c,o)]) (eV N)=some (eV N))(hK:K≠zn)
 (nx:Q .normal (lD x.stay (y - 1)) [(0,N.box),(1,jB (tb K n cp)),(2,jB ak),(3,jB (tb zn 1 1))] 4 (z.set zn (mP ({m with stay:=st}:az).row 1)) (zn+1)):
 ∃t,dp prog g z 100 (ah (ag Tryz.f7) 1) (ko 99 (lD st y)) (dI z [(0,N.box),(1,jB (tb K n cp)),(2,jB ak),(3,jB ak)] 4) zn (nG 4 99 Q) t:=by
 have hc:decide (y>=0)=true:=by simpa using h0
 refine yjb z z g zn i K n cp N st y m x kj Q ⟨fun _=>?_,nC1 hc⟩
 (repeat' first|(with_reducible first|exact rfl|assumption|apply And.intro|exact sU _ _ _|exact kA hK|exact Ef|exact Mo _|exact Nat.le_refl _|exact Nat.lt_succ_self _)|intro hq)
 all_goals exact nx
theorem P6(hz:au z zn)(h0:0<=y)(hy:y=(i:Int))(hi:i<n)(k1:z.get K=some (.ay kj))(k2:aq prog kj 62 (0+i*9)=some (.agg ⟨x.row⟩))(k3:aq prog kj 4 (0+i*9+8)=some (.bool x.stay))(hge:g 21 [.agg ⟨N.cells⟩, .agg ⟨x.row⟩]=some (.agg ⟨m.row⟩))(wy:Value.int .i64 (IntKind.i64.wrap (y - 1))=Value.int .i64 (y - 1))(sU: ∀(σ:bb)(c:Nat)(o:aa),aC (aj σ [(zn,c,o)]) (eV N)=some (eV N))(hK:K≠zn)
 (v6:z.get kk=some (mP (L.map az.row).flatten L.length)) (hp:L.getLast? =some p) (hl:L.length<=1000)
 (nx: ∀M:az,mg L {m with stay:=st}=M->Q .normal (lD x.stay (y - 1)) [(0,N.box),(1,jB (tb K n cp)),(2,jB ak),(3,jB (tb zn (L.length+1) (L.length+1)))] 4 ((z.del kk).set zn (mP ((L.map az.row).flatten++M.row) (L.length+1))) (zn+1)):
 ∃t,dp prog g z 100 (ah (ag Tryz.f7) 1) (ko 99 (lD st y)) (dI z [(0,N.box),(1,jB (tb K n cp)),(2,jB ak),(3,jB (tb kk L.length L.length))] 4) zn (nG 4 99 Q) t:=by
 have hc:decide (y>=0)=true:=by simpa using h0
 have hm0:0<L.length:=by
  cases L with
  |nil=>cases hp
  |cons a l=>simp
 obtain⟨p1,p2⟩:=EP (r:=L.length - 1) (by omega) hp
 have hlv:Value.bool (decide ((L.length:Int)>0))=Value.bool true:=by rw[decide_eq_true (show(L.length:Int)>0 by omega)]
 have hr1:((L.length:Nat):Int) - 1=((L.length - 1:Nat):Int):=by omega
 have hw1:Value.int .i64 (IntKind.i64.wrap ((L.length:Int) - 1))=Value.int .i64 ((L.length:Int) - 1):=cX (by omega) (by omega)
 have hln:=vm L
 refine yjc z z g zn i K n cp kk L.length N st y m x p kj ⟨(L.map az.row).flatten,L.length*9,9,62,false,false,0,true⟩ (wr (m.arr - m.dep)) (wr (p.arr+wr (m.arr - m.dep))) Q ⟨fun _=>?_,nC1 hc⟩
 (repeat' first|(with_reducible first|exact rfl|assumption|apply And.intro|exact(by omega:L.length - 1<L.length)|exact sU _ _ _|exact kA hK|exact Ef|exact na L ⟨m.aW,m.run,m.ez,m.off,m.fz1,m.aB,m.dep,m.arr,st⟩ _|exact na L ⟨m.aW,m.run,m.ez,m.off,m.fz1,m.aB,p.arr,wr (p.arr+wr (m.arr - m.dep)),st⟩ _|exact gY hz _|exact(by omega:L.length+1<=1048576)|exact Mo _|exact Nat.le_refl _|exact Nat.lt_succ_self _)|intro hq)
 ·exact nx _ (xN (by assumption))
 ·exact nx _ (BJ hp (by assumption) (by assumption))
 ·exact nx _ (E1 hp (by assumption))
end
section
variable{z:T aa}{zn:Nat}{N:aw}{D:gM}
theorem G3(U:List RunT)(G:List az)(i:Nat):cw U G i≠some 0:=by
 unfold cw
 split
 ·simp
 ·split
  ·simp
  ·rename_i h;simpa using h
theorem EL(hz:au z zn)(hN:dt z N D)(hU:gu D.runs){K:Nat}{G:List az}(hG:G.length<1000000000){J:lq}(hJ:pP K J.a J.n J.c G.length)(hT:bM z K (G.map az.row))(r:Int × Int)(hr:scan (cw D.runs G) G.length 0=r):
 ai prog (ah (ag Tryz.f7) 0) 3 99 (C9 J 0) [(0,N.box),(1,jB J.v),(2,jB ak)] 3 z zn (Al.R (T4 z zn N J r.2).l):=by
 refine ax hD (cg (zg:=T.leaf)) (α:=Nat) 3 99 3 (fun i=>i<=G.length/\scan (cw D.runs G) (G.length - i) i=r) (fun i=>C9 J i) (fun _=>[(0,N.box),(1,jB J.v),(2,jB ak)]) (fun _=>z) (fun _=>zn) (fun i=>G.length - i) _ (fun i hI=>?_) 0 ⟨Nat.zero_le _,hr⟩
 obtain⟨h1,h2⟩:=hI
 have hb:=hN.box
 have hJr:=hJ.tv
 have hjb: ∀σ,aC (aj σ []) (jB J.v)=some (jB J.v):=fun σ=>by simp only[aC,aT,hJr σ]
 have hjn:=cK hJ
 by_cases hi:i<G.length
 ·obtain⟨x,hx⟩:=dh hi
  have hc:decide ((i:Int)<(J.n:Int))=true:=by simp;omega
  have hw:A1 z zn 20 [.agg ⟨N.cells⟩, .agg ⟨[J.v]⟩,iv i] [] 0 0 (zv (dm D.runs G i x)) []:=by
   have ha:=gR hJ (by omega)
   obtain⟨ja,jn,jc⟩:=J
   simp only at ha hjn
   subst ha hjn
   exact NM hz hN hU hT hG hx
  have ha1:aT (sig []) [.agg ⟨N.cells⟩, .agg ⟨[J.v]⟩,iv i]=some [.agg ⟨N.cells⟩, .agg ⟨[J.v]⟩,iv i]:=by
   have:=hJr []
   rw[pZ] at this
   exact eP (hN.val []) (eP (ng this) rfl)
  refine t100 (yja z zn i N J (dm D.runs G i x) (an _ _ _ _ _ _ _ _ _) ⟨fun _=>?_,nC1 hc⟩)
  (repeat' first|(with_reducible first|exact rfl|assumption|apply And.intro|exact hJr _|exact bF (by omega))|exact hjb _|exact hb _|intro hq)
  ·have he:cw D.runs G i=some (dm D.runs G i x):=by
    unfold cw;rw[hx];exact if_neg (by simpa using hq)
   have:r=((i:Int),dm D.runs G i x):=by rw[←h2,cY hi he]
   rw[this]
   exact bu (by simpa using hq)
  ·have he:cw D.runs G i=none:=by
    unfold cw;rw[hx];exact if_pos (by simpa using hq)
   exact⟨i+1,rfl,rfl,rfl,rfl,rfl,⟨hi,by rw[←h2,cD hi he]⟩,by show G.length - (i+1)<G.length - i;omega⟩
 ·have hc:decide ((i:Int)<(J.n:Int))=false:=by simp;omega
  refine t100 (yja z zn i N J 0 (an _ _ _ _ _ _ _ _ _) ⟨nC1 hc,fun _=>?_⟩)
  (repeat' first|(with_reducible first|exact rfl|assumption|apply And.intro)|exact hjb _|exact hb _)
  refine dv (bu ?_)
  rw[←h2,show G.length - i=0 by omega];rfl
theorem H3(G:List az):dU G G.length=false:=by
 unfold dU
 rw[List.getElem?_eq_none (Nat.le_refl _)]
theorem xc{U:List RunT}{G:List az}{m:Nat}{x:az}(hx:G[G.length - 1 - m]? =some x):cT U G (m+1)=cT U G m++[mg (cT U G m) (sQ U G (G.length - 1 - m) x)]:=by
 simp only[cT,yX,hx]
def DY(U:List RunT)(G:List az):Prop:= ∀(i:Nat)(x:az),G[i]? =some x->x.aW=true->fU U x=true
theorem xF{U:List RunT}{G:List az}(h:(scan (cw U G) G.length 0).2=0):DY U G:=fun i x hx hr=>by
 have:=eZ (G3 U G) _ _ h i (Nat.zero_le _) (by have:=(List.getElem?_eq_some_iff.1 hx).1;omega)
 unfold cw at this
 rw[hx] at this
 simp only at this
 split at this
 ·rename_i h0
  unfold dm at h0
  cases he:fU U x with
  |true=>rfl
  |false=>rw[if_pos ⟨hr,he⟩] at h0;cases h0
 ·cases this
theorem M3(hz:au z zn)(hown: ∀k o,z.get k=some o->o.owned=false)(hN:dt z N D)(hU:gu D.runs){K:Nat}(hK:6<=K)(hKn:K<zn){G:List az}(hG:G.length<=1000)(hL:DY D.runs G){J:lq}(hJ:pP K J.a J.n J.c G.length)(hT:bM z K (G.map az.row)):
 ai prog (ah (ag Tryz.f7) 1) 4 99 (lD false ((J.n:Int) - 1)) [(0,N.box),(1,jB J.v),(2,jB ak),(3,jB ak)] 4 z zn (Al.R (MH z zn N J ((J.n:Int) - 1) (fun s=>ke z zn (cT D.runs G G.length) s)).l):=by
 have hjn:=cK hJ
 have e0:lD false ((J.n:Int) - 1)=lD (dU G (G.length - 0)) ((G.length:Int) - 1 - ((0:Nat):Int)):=by
  rw[Nat.sub_zero,H3,show(J.n:Int) - 1=(G.length:Int) - 1 - ((0:Nat):Int) by omega]
 rw[e0]
 refine xy hD (α:=Nat × bI) 4 99 4 (fun t=>t.1<=G.length/\ke z zn (cT D.runs G t.1) t.2) (fun t=>lD (dU G (G.length - t.1)) ((G.length:Int) - 1 - (t.1:Int))) (fun t=>[(0,N.box),(1,jB J.v),(2,jB ak),(3,jB t.2.v)]) (fun t=>t.2.z) (fun t=>t.2.zn) (fun t=>G.length - t.1) _ (fun t hI=>?_) (0,⟨none,0,z,zn⟩) ⟨Nat.zero_le _,hz,Nat.le_refl _,fun _ _=>rfl, .inl ⟨rfl,rfl,rfl⟩⟩
 obtain⟨m,oa,k,sz,szn⟩:=t
 obtain⟨h1,hs⟩:=hI
 simp only at h1 hs ⊢
 have hsz:au sz szn:=hs.bH
 have hle:zn<=szn:=hs.le
 have hold: ∀k,k<zn->sz.get k=z.get k:=hs.fE
 have hb:=hN.box
 have sU: ∀(σ:bb)(c:Nat)(o:aa),aC (aj σ [(szn,c,o)]) N.box=some N.box:=fun σ c o=>hN.Ku (by omega) σ
 have hKs:K≠szn:=by omega
 have hsub: ∀k o,z.get k=some o->sz.get k=some o:=fun k o hk=>by
  rw[hold k (hz k o hk).1];exact hk
 by_cases hi:m<G.length
 ·obtain⟨x,hx⟩:=dh (l:=G) (i:=G.length - 1 - m) (by omega)
  have ha:=gR hJ (by omega)
  obtain⟨ja,jn,jc⟩:=J
  simp only at ha hjn
  subst ha hjn
  have hg:=Zf hz hown (by omega) hN hU hsub
  have hge:=OE (f0:=21) (c:=N.cells) (P:=fun x=>x.aW=true->fU D.runs x=true) (v:=fun x=> .agg ⟨(nm (dA D.runs x.run) false x).row⟩) (x:=x) (hL _ _ hx)
  have hTs:=cH hT hz hold
  obtain⟨kj,k1,k2,_,k3,_⟩:=tT hTs hx
  have hst:dU G (G.length - m)=dU G (G.length - 1 - m+1):=by rw[show G.length - 1 - m+1=G.length - m by omega]
  have hsx:dU G (G.length - (m+1))=x.stay:=by
   unfold dU;rw[show G.length - (m+1)=G.length - 1 - m by omega,hx]
  have hy:(G.length:Int) - 1 - (m:Int)=((G.length - 1 - m:Nat):Int):=by omega
  have hm:=xc (U:=D.runs) hx
  have hml:=qs D.runs G m (by omega)
  have wy:Value.int .i64 (IntKind.i64.wrap ((G.length:Int) - 1 - (m:Int) - 1))=Value.int .i64 ((G.length:Int) - 1 - (m:Int) - 1):=cX (by omega) (by omega)
  have nx: ∀s',ke z zn (cT D.runs G (m+1)) s'->an (fun t:Nat × bI=>t.1<=G.length/\ke z zn (cT D.runs G t.1) t.2) (fun t=>lD (dU G (G.length - t.1)) ((G.length:Int) - 1 - (t.1:Int))) (fun t=>[(0,N.box),(1,jB (tb K G.length jc)),(2,jB ak),(3,jB t.2.v)]) 4 (fun t=>t.2.z) (fun t=>t.2.zn) (fun t=>G.length - t.1) (Al.R (MH z zn N ⟨some ⟨256*K+510,0,none⟩,G.length,jc⟩ ((G.length:Int) - 1) (fun s=>ke z zn (cT D.runs G G.length) s)).l) (m,⟨oa,k,sz,szn⟩) .normal (lD x.stay ((G.length:Int) - 1 - (m:Int) - 1)) [(0,N.box),(1,jB (tb K G.length jc)),(2,jB ak),(3,jB s'.v)] 4 s'.z s'.zn:=fun s' h=>
   ⟨(m+1,s'),by show lD x.stay _=lD (dU G (G.length - (m+1))) _;rw[hsx,show(G.length:Int) - 1 - ((m+1:Nat):Int)=(G.length:Int) - 1 - (m:Int) - 1 by omega],rfl,rfl,rfl,rfl,⟨hi,h⟩,by show G.length - (m+1)<G.length - m;omega⟩
  rw[hst]
  refine⟨_,sz,hg,100,?_⟩
  have hir:G.length - 1 - m<G.length:=by omega
  have hy0:0<=(G.length:Int) - 1 - (m:Int):=by omega
  rcases hs.val with ⟨v1,v2,v3⟩|⟨v1,kk,v2,v3,v4,v5,v6⟩
  ·simp only at v2 v3
   subst v2 v3
   refine P7 hsz hy0 hy hir k1 k2 k3 hge wy sU hKs (nx ⟨some ⟨256*szn+510,0,none⟩,1,sz.set szn (mP (sQ D.runs G (G.length - 1 - m) x).row 1),szn+1⟩ ?_)
   rw[hm]
   have:mg (cT D.runs G m) (sQ D.runs G (G.length - 1 - m) x)=sQ D.runs G (G.length - 1 - m) x:=by rw[v1];rfl
   rw[this,v1]
   rw[v1] at hs
   exact EM hs _
  ·simp only at v2 v3 v4 v5 v6
   subst v4 v5
   obtain⟨p,hp⟩: ∃p,(cT D.runs G m).getLast? =some p:=by
    cases hc:(cT D.runs G m).getLast? with
    |none=>exact(v1 (List.getLast?_eq_none_iff.1 hc)).elim
    |some p=>exact⟨p,rfl⟩
   refine P6 hsz hy0 hy hir k1 k2 k3 hge wy sU hKs v6 hp (by omega) fun M hM=>nx ⟨some ⟨256*szn+510,0,none⟩,(cT D.runs G m).length+1,(sz.del kk).set szn (mP (((cT D.runs G m).map az.row).flatten++M.row) ((cT D.runs G m).length+1)),szn+1⟩ ?_
   rw[hm]
   have:mg (cT D.runs G m) (sQ D.runs G (G.length - 1 - m) x)=M:=hM
   rw[this]
   exact Bx hs M v2
 ·have hc:decide ((G.length:Int) - 1 - (m:Int)>=0)=false:=by simp;omega
  have hmG:m=G.length:=by omega
  subst hmG
  refine⟨_,T.leaf,cg (zg:=T.leaf),100,?_⟩
  have hv2: ∀σ,aC (aj σ []) (jB (.slice oa k k))=some (jB (.slice oa k k)):=fun σ=>by
   rcases hs.val with ⟨_,e1,e2⟩|⟨_,kk,_,_,e1,e2,_⟩<;>simp only at e1 e2
   ·subst e1 e2;rfl
   ·subst e1 e2;exact L6
  have hfin:Al.R (MH z zn N J ((J.n:Int) - 1) (fun s=>ke z zn (cT D.runs G G.length) s)).l ⟨.exit 2,[(4,ip 2),(8,ip 3)],[(2,jB ak),(3,jB (.slice oa k k))],4,sz,szn⟩:=yh (k:=fun _=>dP) (⟨oa,k,sz,szn⟩:bI) hs rfl
  have e1:dU G (G.length - G.length)=dU G 0:=by rw[Nat.sub_self]
  have hst0: ∀(st:Bool)(y:Int),decide (y>=0)=false-> ∃t,dp prog (fun _ _=>none) (T.leaf:T aa) 100 (ah (ag Tryz.f7) 1) (ko 99 (lD st y)) (dI sz [(0,N.box),(1,jB J.v),(2,jB ak),(3,jB (.slice oa k k))] 4) szn (nG 4 99 (an (fun t:Nat × bI=>t.1<=G.length/\ke z zn (cT D.runs G t.1) t.2) (fun t=>lD (dU G (G.length - t.1)) ((G.length:Int) - 1 - (t.1:Int))) (fun t=>[(0,N.box),(1,jB J.v),(2,jB ak),(3,jB t.2.v)]) 4 (fun t=>t.2.z) (fun t=>t.2.zn) (fun t=>G.length - t.1) (Al.R (MH z zn N J ((J.n:Int) - 1) (fun s=>ke z zn (cT D.runs G G.length) s)).l) (G.length,⟨oa,k,sz,szn⟩))) t:=fun st y hy=>by
   have hyv:Value.bool (decide (y>=0))=Value.bool false:=by rw[hy]
   refine yjz sz szn N ⟨oa,k,k⟩ st J.v y (an _ _ _ _ _ _ _ _ _) ?_
   (repeat' first|(with_reducible first|exact rfl|assumption|apply And.intro)|exact hv2 _|exact hfin)
  exact hst0 _ _ hc
end
noncomputable def jE(N:aw)(D:gM)(G:List az):Int:=if (bT N D).2.2=0 then (scan (cw D.runs G) G.length 0).2 else 21
section
variable{z:T aa}{zn:Nat}{N:aw}{D:gM}
theorem Jl(hN:dt z N D){J:lq}(hJr: ∀σ,aJ (aj σ []) J.v=some J.v):aT (sig []) [.agg ⟨N.cells⟩,J.jn]=some [.agg ⟨N.cells⟩,J.jn]:=by
 have:=hJr []
 rw[pZ] at this
 exact eP (hN.val []) (eP (ng this) rfl)
theorem Bz{J:lq}(hJr: ∀σ,aJ (aj σ []) J.v=some J.v)(σ:bb):aC (aj σ []) (.ay ⟨[.slice J.a J.n J.c],1,1,34,true,true,0,true⟩)=some (.ay ⟨[.slice J.a J.n J.c],1,1,34,true,true,0,true⟩):=by
 simp only[aC,aT,hJr σ]
theorem za{z0:T aa}{n0:Nat}{L:List az}{s:bI}(h:ke z0 n0 L s):aJ (sig []) (.slice s.oa s.k s.k)=some (.slice s.oa s.k s.k):=by
 rcases h.val with ⟨_,e1,e2⟩|⟨_,kk,_,_,e1,e2,_⟩
 ·rw[e1,e2];rfl
 ·rw[e1,e2];exact jL [] kk _ _
theorem Bw{z0:T aa}{n0:Nat}{L:List az}{s:bI}(h:ke z0 n0 L s):aJ (sig []) (.tuple ⟨[.agg ⟨[.slice s.oa s.k s.k]⟩,I 0]⟩)=some (.tuple ⟨[.agg ⟨[.slice s.oa s.k s.k]⟩,I 0]⟩):=by
 have:aT (sig []) [.agg ⟨[.slice s.oa s.k s.k]⟩,I 0]=some [.agg ⟨[.slice s.oa s.k s.k]⟩,I 0]:=eP (ng (za h)) rfl
 simp only[aJ,this]
theorem xC{z0:T aa}{n0:Nat}{L:List az}{s:bI}(h:ke z0 n0 L s):aJ (aj [] []) (.tuple ⟨[.agg ⟨[.slice s.oa s.k s.k]⟩,I 0]⟩)=some (.tuple ⟨[.agg ⟨[.slice s.oa s.k s.k]⟩,I 0]⟩):=Bw h
theorem UM(hz:au z zn)(hN:dt z N D)(hll:D.paths.length<=10000){K:Nat}{G:List az}(hG:G.length<=1000){J:lq}(hJ:pP K J.a J.n J.c G.length)(hT:bM z K (G.map az.row))(he:jE N D G≠0):
 A1 z zn 7 [.agg ⟨N.cells⟩,J.jn] [] 0 0 (.tuple ⟨[.agg ⟨[ak]⟩,zv (jE N D G)]⟩) []:=by
 have hv:=jP (hN.val [])
 have hb: ∀σ,aC (aj σ []) (eV N)=some (eV N):=hN.box
 have hJr:=hJ.tv
 have hjb:=Bz hJr
 have hc:=J4 hz hN hll
 have hja:(bT N D).2.2=0->ai prog (ah (ag Tryz.f7) 0) 3 99 (C9 J 0) [(0,N.box),(1,jB J.v),(2,jB ak)] 3 z zn (Al.R (T4 z zn N J (scan (cw D.runs G) G.length 0).2).l):=fun h=>EL hz hN (gx (gv h).2.2) (by omega) hJ hT _ rfl
 have hjn:=cK hJ
 have wn:Value.int .i64 (IntKind.i64.wrap ((J.n:Int) - 1))=Value.int .i64 ((J.n:Int) - 1):=cX (by omega) (by omega)
 have e1:(bT N D).2.2≠0->jE N D G=21:=fun h=>if_neg h
 have e2:(bT N D).2.2=0->jE N D G=(scan (cw D.runs G) G.length 0).2:=fun h=>if_pos h
 have no:(!((bT N D).2.2==0))=false->(scan (cw D.runs G) G.length 0).2=0->False:=fun h1 h2=>he (by rw[e2 (by simpa using h1)];exact h2)
 refine aK1 (cg (zg:=T.leaf)) (fn:=Tryz.f7) hz (N:=100) ?_
 refine yj z zn N J ((bT N D).2.2==0) (scan (cw D.runs G) G.length 0).2 (fun _=>False) _ ?_
 (repeat' first|(with_reducible first|exact rfl|assumption|apply And.intro|exact hb _|exact hJr _|exact hjb _)|exact hja (by simpa using (by with_reducible assumption:(!((bT N D).2.2==0))=false))|exact(no (by with_reducible assumption) (by with_reducible assumption)).elim|intro hq)
 ·rw[e1 (by simpa using hq)];exact q1
 ·rename_i h1 _
  rw[e2 (by simpa using h1)];exact q1
theorem ZF(hz:au z zn)(hown: ∀k o,z.get k=some o->o.owned=false)(hN:dt z N D)(hll:D.paths.length<=10000){K:Nat}(hK:6<=K)(hKn:K<zn){G:List az}(hG:G.length<=1000){J:lq}(hJ:pP K J.a J.n J.c G.length)(hT:bM z K (G.map az.row))(he:jE N D G=0):
 bq prog z zn 7 [.agg ⟨N.cells⟩,J.jn] [] 0 0 (fun s=>ke z zn (cT D.runs G G.length) s) (fun s=> .tuple ⟨[.agg ⟨[s.v]⟩,I 0]⟩) (fun _=>[]) (fun s=>s.z) (fun s=>s.zn):=by
 have hv:=jP (hN.val [])
 have hb: ∀σ,aC (aj σ []) (eV N)=some (eV N):=hN.box
 have hJr:=hJ.tv
 have hjb:=Bz hJr
 have hc:=J4 hz hN hll
 have hr0:(bT N D).2.2=0:=by
  unfold jE at he
  split at he
  ·assumption
  ·cases he
 have hs0:(scan (cw D.runs G) G.length 0).2=0:=by
  unfold jE at he
  rw[if_pos hr0] at he
  exact he
 have hU:=gx (gv hr0).2.2
 have hja:=EL hz hN hU (by omega) hJ hT _ rfl
 rw[hs0] at hja
 have hjb2:=M3 hz hown hN hU hK hKn hG (xF hs0) hJ hT
 have hjn:=cK hJ
 have wn:Value.int .i64 (IntKind.i64.wrap ((J.n:Int) - 1))=Value.int .i64 ((J.n:Int) - 1):=cX (by omega) (by omega)
 rw[show((bT N D).2.2==0)=true by simpa using hr0] at hc
 refine eM (cg (zg:=T.leaf)) (fn:=Tryz.f7) (by kernel_rfl) (by kernel_rfl) hz ⟨by decide,by decide⟩ (fun s hs=>⟨rfl,hs.le,hs.bH⟩) (N:=100) ?_
 refine yj z zn N J true 0 (fun s=>ke z zn (cT D.runs G G.length) s) _ ?_
 (repeat' first|(with_reducible first|exact rfl|assumption|apply And.intro|exact hb _|exact hJr _|exact hjb _|exact xC ‹_›|exact ke.bH ‹_›)|exact hja|exact hjb2|exact absurd rfl (by with_reducible assumption: ¬(0:Int)=0)|intro hq)
 ·cases hq
 ·rename_i x
  exact q2 x hq rfl rfl rfl rfl rfl
end
end Go.Proofs.Nw
namespace Go.Proofs.Nw
open Go Go.AV Tryz
set_option maxRecDepth 1000000
noncomputable section
abbrev Hy:List (Nat × Value):=[(4,Y5),(5,qZ)]
abbrev U5:Prop:=Rs (BQ [] 0 4 103)
abbrev U4(z:T aa)(zn:Nat):T aa:=cF z [(zn,2,BQ [] 0 4 103)]
abbrev YJX(zn:Nat):Prop:=aJ (aj [] [(zn,2,BQ [] 0 4 103)]) (SL (tF zn) 0 0)=some Fy
noncomputable abbrev Rz:Code:=ah (ag f22) 0
noncomputable abbrev YJZ(N:aw)(x:az)(ex:Bool)(z:T aa)(zn:Nat):Tr:=tA 5 (Tr.cm (Cm.mk [AG (ub N),AG (sy x)] [] 0 0 [] [] 4) Unit Yy (wq ex) bQ (wq ex) bQ (eG z) (eF zn) fun(x:Unit)=>tA 2 (tO cG (tE [] [] [(4,Y5),(5,fS)] [] 3 z zn)))
noncomputable abbrev YJa(zn:Nat)(z:T aa):Tr:=tA 1 (tE [] [(zn,2,BQ [] 0 4 103)] [(6,SL (tF zn) 0 0)] [] 3 (U4 z zn) (zn+1))
theorem yra(z:T aa)(zn i K n cp:Nat)(N:aw)(x:az)(pr ex:Bool)(e:Int)(kj:aR)(Q:QL)(hyp:Br (decide ((↑i:Int)<(↑n:Int))) (YU i/\i<n/\dC K/\dJ z K kj/\Ac kj i x/\Br x.aW (aP prog z zn 40 [AG (ub N),AG (sy x)] [] 0 0 Yy (wq ex) bQ/\aT wa [AG (ub N),AG (sy x)]=some [AG (ub N),AG (sy x)]/\ ∀(x:Unit),True->Rs (fy ex)/\(!ex)=true/\E6 120 z zn (R2 Y5 fS (Q af.ret [(4,Y5),(5,fS)] [] 3 z zn))) (Br x.stay (Value.bool x.aW=F0/\E6 120 z zn (R2 Y5 qZ (Q af.ret Hy [] 3 z zn))) (Value.bool x.aW=F0/\ZV (IntKind.i64.wrap ((↑i:Int)+1))=IV (i+1)/\E6 120 z zn (R4 bh dr Fy (IV (i+1)) (KO rf (kv N)/\Rs (k9 K n cp)/\U5/\Q aN [g8,jH,(6,Fy),Aj i] [(0,kv N),(1,k9 K n cp),(2,BQ [] 0 4 103)] 3 z zn))))) (E3 120 (Rf (U4 z zn)/\zn.le (zn+1)/\au z zn/\zn<=zn/\zn<zn+1/\U5/\YJX zn/\Q YO [(6,SL (tF zn) 0 0)] [] 3 (U4 z zn) (zn+1)))):RdT prog jo fC Rz 120 (ju Hw i) z [(0,N.box),Fu K n cp,(2,E4)] 3 zn 3 Q:=K1t hyp (tA 1 ((tA 2 (tO (Yj i) (tO (Ab K kj x) (tA 1 ((YJZ N x ex z zn).fork (tA 6 ((tA 2 (tO lj (tA 19 (tE [] [] Hy [] 3 z zn)))).fork (tA 9 (tO lj (tA 1 (tO (Ym i) (tE ib [] [g8,jH,(6,Fy),Aj i] [(0,kv N),(1,k9 K n cp),(2,BQ [] 0 4 103)] 3 z zn)))))))))))).fork (YJa zn z)))
abbrev OU(N:aw):List Value:=[SL 1022 N.U.ns N.U.sc,SL 1278 N.U.nr N.U.rc,SL 766 N.U.nu N.U.uc,Value.slice N.U.la N.U.nl N.U.lc,Value.slice N.U.pa N.U.np N.U.pc,Value.slice N.U.fa N.U.nf N.U.fc,ZV N.U.d,ZV N.U.w,ZV N.U.c]
abbrev ZS(z:T aa)(zn:Nat)(N:aw)(x:az):Prop:=aP prog z zn 40 [AG (OU N),AG (sy x)] [] 0 0 Yy pM bQ
abbrev ZR(N:aw)(x:az):Prop:=aT wa [AG (OU N),AG (sy x)]=some [AG (OU N),AG (sy x)]
abbrev ZQ(kr:aR)(r:Nat)(rt:Int):Prop:=aq prog kr 3 (0+r*8+4)=some (ZV rt)
abbrev ZP(kq:aR)(q:Nat)(md:Int):Prop:=aq prog kq 3 (0+q*3+1)=some (ZV md)
abbrev VH:Operand:=Operand.const ig
abbrev U3:Option Value:=some (SL 5 1 1)
abbrev z9(N:aw):aa:=BQ (OU N) 9 1 31
noncomputable abbrev ZO(N:aw)(x:az):Cm:=Cm.mk [AG (OU N),AG (sy x)] [] 0 0 [] [] 4
theorem yrb(z zg:T aa)(g:Nat->List Value->Option Value)(zn i K n cp r q:Nat)(N:aw)(x:az)(pr:Bool)(w rt md zs:Int)(kj kr kq:aR)(Q:QL)(hyp:Br (decide ((↑i:Int)<(↑n:Int))) (YU i/\i<n/\dC K/\dJ z K kj/\Ac kj i x/\Value.bool x.aW=T1/\ZS z zn N x/\ZR N x/\ ∀(x_1:Unit),True->YA/\Br x.stay (Value.bool x.aW=T1/\Br ((↑i:Int)==0) (E6 120 z zn (R2 Y5 qZ (Q af.ret Hy [] 3 z zn))) (WQ1 ((↑i:Int) - 1)/\(↑i:Int) - 1=(↑(i - 1):Int)/\i - 1<n/\dC K/\dJ z K kj/\ZW kj i pr/\(!pr)=true/\E6 120 z zn (R2 Y5 qZ (Q af.ret Hy [] 3 z zn)))) (Value.bool x.aW=T1/\x.run=(↑r:Int)/\r<N.U.nu/\Cl/\Ck z kr/\ZQ kr r rt/\rt=(↑q:Int)/\q<N.U.nr/\Pw/\z.get 3=YX kq/\ZP kq q md/\pI prog BinOp.shl 3 VH (Operand.tmp 70) ig (ZV md) (ZV w)/\Value.bool x.stay=F0/\z=zg/\g 41 [AG (OU N),AG (sy x)]=some (ZV zs)/\ZV (IntKind.i64.wrap ((↑i:Int)+1))=IV (i+1)/\E3 120 (Rf (cF z [(zn,5,BR [ZV x.dep,ZV x.arr,ZV zs,ZV w] 4 4 103)])/\zn.le (zn+1)/\au z zn/\zn<=zn/\zn<zn+1/\Rs (BR [ZV x.dep,ZV x.arr,ZV zs,ZV w] 4 4 103)/\R2 bh dr (aJ (aj c9 [(zn,5,BR [ZV x.dep,ZV x.arr,ZV zs,ZV w] 4 4 103)]) (v8 zn)=U3/\Rs (IV (i+1))/\K2 (aj c9 [(zn,5,BR [ZV x.dep,ZV x.arr,ZV zs,ZV w] 4 4 103)]) (z9 N) (k9 K n cp) (Q aN [g8,jH,(6,v8 zn),Aj i] [(0,z9 N),(1,k9 K n cp)] 3 (cF z [(zn,5,BR [ZV x.dep,ZV x.arr,ZV zs,ZV w] 4 4 103)]) (zn+1)))))) (E6 120 z zn (Rs Fy/\U5/\Q YO [(6,Fy)] [(2,BQ [] 0 4 103)] 3 z zn))):RdT prog g zg Rz 120 (ju Hw i) z [(0,N.U.box),Fu K n cp,(2,E4)] 3 zn 3 Q:=K1t hyp (tA 1 ((tA 2 (tO (Yj i) (tO (Ab K kj x) (tA 1 (tO mC (tA 5 (Tr.cm (ZO N x) Unit Yy pM bQ pM bQ (eG z) (eF zn) fun(x_1:Unit)=>tA 3 ((tA 2 (tO mC (tA 4 ((tA 15 (tE [] [] Hy [] 3 z zn)).fork (tA 8 (tO (An.val (ZV ((↑i:Int) - 1))) (tA 1 (tO (yp i) (tA 2 (tO (An.ld K kj (fy pr)) (tA 4 (tO cG (tE [] [] Hy [] 3 z zn))))))))))))).fork (tA 9 (tO mC (tA 4 (tO (Yj r) (tO (An.ld 1 kr (zv rt)) (tO (Yj q) (tO (An.ld 3 kq (zv md)) (tX (iD.bin (zv w)) (tO lj (tA 5 (tO (An.cl (ZV zs)) (tA 1 (tO (Ym i) (tE c9 [(zn,5,BR [ZV x.dep,ZV x.arr,ZV zs,ZV w] 4 4 103)] [g8,jH,(6,v8 zn),Aj i] [(0,z9 N),(1,k9 K n cp)] 3 (cF z [(zn,5,BR [ZV x.dep,ZV x.arr,ZV zs,ZV w] 4 4 103)]) (zn+1))))))))))))))))))))))).fork (tA 1 (tE [j9] [] [(6,Fy)] [(2,BQ [] 0 4 103)] 3 z zn))))
theorem yrc(z:T aa)(zn i K n cp k r:Nat)(N:aw)(x:az)(pr ex:Bool)(kj:aR)(Q:QL)(hyp:Br (decide ((↑i:Int)<(↑n:Int))) (YU i/\i<n/\dC K/\dJ z K kj/\Ac kj i x/\Br x.aW (aP prog z zn 40 [AG (ub N),AG (sy x)] [] 0 0 Yy (wq ex) bQ/\aT wa [AG (ub N),AG (sy x)]=some [AG (ub N),AG (sy x)]/\ ∀(x:Unit),True->Rs (fy ex)/\(!ex)=true/\E6 120 z zn (R2 Y5 fS (Q af.ret [(4,Y5),(5,fS)] [] 3 z zn))) (Br x.stay (Value.bool x.aW=F0/\E6 120 z zn (R2 Y5 qZ (Q af.ret Hy [] 3 z zn))) (Value.bool x.aW=F0/\ZV (IntKind.i64.wrap ((↑i:Int)+1))=IV (i+1)/\E6 120 z zn (R4 bh dr (dw k r) (IV (i+1)) (KO mM (kv N)/\Rs (k9 K n cp)/\Q aN [g8,jH,(6,dw k r),Aj i] [(0,kv N),(1,k9 K n cp)] 3 z zn))))) (E6 120 z zn (Rs (dw k r)/\Q YO [(6,dw k r)] [] 3 z zn))):RdT prog jo fC Rz 120 (ju (tb k r r) i) z [(0,N.box),Fu K n cp] 3 zn 3 Q:=K1t hyp (tA 1 ((tA 2 (tO (Yj i) (tO (Ab K kj x) (tA 1 ((YJZ N x ex z zn).fork (tA 6 ((tA 2 (tO lj (tA 19 (tE [] [] Hy [] 3 z zn)))).fork (tA 9 (tO lj (tA 1 (tO (Ym i) (tE c9 [] [g8,jH,(6,dw k r),Aj i] [(0,kv N),(1,k9 K n cp)] 3 z zn)))))))))))).fork (tA 1 (tE [] [] [(6,dw k r)] [] 3 z zn))))
theorem yrd(z zg:T aa)(g:Nat->List Value->Option Value)(zn i K n cp k r q qq:Nat)(N:aw)(x:az)(pr:Bool)(w rt md a b zs va vb:Int)(kj kr kq kb kb1 kb2:aR)(cs1 cs2 cs3:List Value)(Q:QL)(hyp:Br (decide ((↑i:Int)<(↑n:Int))) (YU i/\i<n/\dC K/\dJ z K kj/\Ac kj i x/\Value.bool x.aW=T1/\ZS z zn N x/\ZR N x/\ ∀(x_1:Unit),True->YA/\Value.bool x.stay=T1/\Value.bool x.aW=T1/\Br ((↑i:Int)==0) (E6 120 z zn (R2 Y5 qZ (Q af.ret Hy [] 3 z zn))) (WQ1 ((↑i:Int) - 1)/\(↑i:Int) - 1=(↑(i - 1):Int)/\i - 1<n/\dC K/\dJ z K kj/\ZW kj i pr/\Br (!pr) (E6 120 z zn (R2 Y5 qZ (Q af.ret Hy [] 3 z zn))) (Value.bool x.aW=T1/\x.run=(↑q:Int)/\q<N.U.nu/\Cl/\Ck z kr/\ZQ kr q rt/\rt=(↑qq:Int)/\qq<N.U.nr/\Pw/\z.get 3=YX kq/\ZP kq qq md/\pI prog BinOp.shl 3 VH (Operand.tmp 70) ig (ZV md) (ZV w)/\Value.bool x.stay=T1/\WQ1 ((↑r:Int) - 1)/\(↑r:Int) - 1=(↑(r - 1):Int)/\r - 1<r/\dC k/\dJ z k kb/\kb.own=true/\kb.bH=0/\overwrite kb.cells (0+(r - 1)*4+1) [ZV x.arr]=some cs1/\cs1.length<=kb.cap/\(↑r:Int) - 1=(↑(r - 1):Int)/\r - 1<r/\dC k/\(z.set k (tG cs1 kb)).get k=YX kb1/\aq prog kb1 3 (0+(r - 1)*4+2)=some (ZV a)/\z.set k (tG cs1 kb)=zg/\g 41 [AG (OU N),AG (sy x)]=some (ZV zs)/\WP1 (↑(BitVec.ofInt IntKind.i64.bits a|||BitVec.ofInt IntKind.i64.bits zs).toNat:Int) va/\(↑r:Int) - 1=(↑(r - 1):Int)/\r - 1<r/\dC k/\(z.set k (tG cs1 kb)).get k=YX kb1/\kb1.own=true/\kb1.bH=0/\overwrite kb1.cells (0+(r - 1)*4+2) [ZV va]=some cs2/\cs2.length<=kb1.cap/\(↑r:Int) - 1=(↑(r - 1):Int)/\r - 1<r/\dC k/\((z.set k (tG cs1 kb)).set k (tG cs2 kb1)).get k=YX kb2/\aq prog kb2 3 (0+(r - 1)*4+3)=some (ZV b)/\WP1 (↑(BitVec.ofInt IntKind.i64.bits b|||BitVec.ofInt IntKind.i64.bits w).toNat:Int) vb/\(↑r:Int) - 1=(↑(r - 1):Int)/\r - 1<r/\dC k/\((z.set k (tG cs1 kb)).set k (tG cs2 kb1)).get k=YX kb2/\kb2.own=true/\kb2.bH=0/\overwrite kb2.cells (0+(r - 1)*4+3) [ZV vb]=some cs3/\cs3.length<=kb2.cap/\ZV (IntKind.i64.wrap ((↑i:Int)+1))=IV (i+1)/\E6 120 (((z.set k (tG cs1 kb)).set k (tG cs2 kb1)).set k (tG cs3 kb2)) zn (R4 bh dr (dw k r) (IV (i+1)) (KO mM (z9 N)/\Rs (k9 K n cp)/\Q aN [g8,jH,(6,dw k r),Aj i] [(0,z9 N),(1,k9 K n cp)] 3 (((z.set k (tG cs1 kb)).set k (tG cs2 kb1)).set k (tG cs3 kb2)) zn))))) (E6 120 z zn (Rs (dw k r)/\Q YO [(6,dw k r)] [] 3 z zn))):RdT prog g zg Rz 120 (ju (tb k r r) i) z [(0,N.U.box),Fu K n cp] 3 zn 3 Q:=K1t hyp (tA 1 ((tA 2 (tO (Yj i) (tO (Ab K kj x) (tA 1 (tO mC (tA 5 (Tr.cm (ZO N x) Unit Yy pM bQ pM bQ (eG z) (eF zn) fun(x:Unit)=>tA 3 (tO mC (tA 2 (tO mC (tA 4 ((tA 15 (tE [] [] Hy [] 3 z zn)).fork (tA 8 (tO (An.val (ZV ((↑i:Int) - 1))) (tA 1 (tO (yp i) (tA 2 (tO (An.ld K kj (fy pr)) (tA 4 ((tE [] [] Hy [] 3 z zn).fork (tO mC (tA 4 (tO (Yj q) (tO (An.ld 1 kr (zv rt)) (tO (Yj qq) (tO (An.ld 3 kq (zv md)) (tX (iD.bin (zv w)) (tO mC (tA 1 (tO (An.val (ZV ((↑r:Int) - 1))) (tA 1 (tO (yp r) (tX (iD.LJ k kb cs1) (tO
 (yp r) (tO (oJ k kb1 a) (tA 2 (tO (An.cl (ZV zs)) (tO (sx va) (tO (yp r) (tX (iD.LJ k kb1 cs2) (tO (yp r) (tO (oJ k kb2 b) (tO (sx vb) (tO (yp r) (tX (iD.LJ k kb2 cs3) (tO (Ym i) (tE c9 [] [g8,jH,(6,dw k r),Aj i] [(0,z9 N),(1,k9 K n cp)] 3 (((z.set k (tG cs1 kb)).set k (tG cs2 kb1)).set k (tG cs3 kb2)) zn))))))))))))))))))))))))))))))))))))))))))))))).fork (tA 1 (tE [] [] [(6,dw k r)] [] 3 z zn))))
abbrev ZN(z:T aa)(k zn:Nat)(kb:aR)(x:az)(zs w:Int)(r:Nat):T aa:=cF (z.del k) [(zn,5,BR (kb.cells++[ZV x.dep,ZV x.arr,ZV zs,ZV w]) ((r+1)*4) 4 103)]
abbrev ZM(zn:Nat)(kb:aR)(x:az)(zs w:Int)(r:Nat):Nat->Option Nat:=aj c9 [(zn,5,BR (kb.cells++[ZV x.dep,ZV x.arr,ZV zs,ZV w]) ((r+1)*4) 4 103)]
abbrev Ry(r:Nat):Option Value:=some (SL 5 (r+1) (r+1))
theorem yre(z zg:T aa)(g:Nat->List Value->Option Value)(zn i K n cp k r q qq:Nat)(N:aw)(x:az)(w rt md zs:Int)(kj kr kq kb:aR)(Q:QL)(hyp:Br (decide ((↑i:Int)<(↑n:Int))) (YU i/\i<n/\dC K/\dJ z K kj/\Ac kj i x/\Value.bool x.aW=T1/\ZS z zn N x/\ZR N x/\ ∀(x_1:Unit),True->YA/\Value.bool x.stay=F0/\Value.bool x.aW=T1/\x.run=(↑q:Int)/\q<N.U.nu/\Cl/\Ck z kr/\ZQ kr q rt/\rt=(↑qq:Int)/\qq<N.U.nr/\Pw/\z.get 3=YX kq/\ZP kq qq md/\pI prog BinOp.shl 3 VH (Operand.tmp 70) ig (ZV md) (ZV w)/\Value.bool x.stay=F0/\z=zg/\g 41 [AG (OU N),AG (sy x)]=some (ZV zs)/\dC k/\dJ z k kb/\kb.exact=false/\kb.own=true/\kb.bH=0/\kb.jV=4/\kb.elem=103/\Rs [ZV x.dep,ZV x.arr,ZV zs,ZV w]/\Rf r/\kb.cells.length=r*4/\kb.cap=r*4/\r+1<=1048576/\ZV (IntKind.i64.wrap ((↑i:Int)+1))=IV (i+1)/\E3 120 (Rf (ZN z k zn kb x zs w r)/\zn.le (zn+1)/\au (z.del k) zn/\zn<=zn/\zn<zn+1/\KO (ZM zn kb x zs w r) (BR (kb.cells++[ZV x.dep,ZV x.arr,ZV zs,ZV w]) ((r+1)*4) 4 103)/\R2 bh dr (aJ (ZM zn kb x zs w r) (pN zn r)=Ry r/\Rs (IV (i+1))/\K2 (ZM zn kb x zs w r) (z9 N) (k9 K n cp) (Q aN [g8,jH,(6,pN zn r),Aj i] [(0,z9 N),(1,k9 K n cp)] 3 (ZN z k zn kb x zs w r) (zn+1))))) (E6 120 z zn (Rs (dw k r)/\Q YO [(6,dw k r)] [] 3 z zn))):RdT prog g zg Rz 120 (ju (tb k r r) i) z [(0,N.U.box),Fu K n cp] 3 zn 3 Q:=K1t hyp (tA 1 ((tA 2 (tO (Yj i) (tO (Ab K kj x) (tA 1 (tO mC (tA 5 (Tr.cm (ZO N x) Unit Yy pM bQ pM bQ (eG z) (eF zn) fun(x_1:Unit)=>tA 3 (tO lj (tA 9 (tO mC (tA 4 (tO (Yj q) (tO (An.ld 1 kr (zv rt)) (tO (Yj qq) (tO (An.ld 3 kq (zv md)) (tX (iD.bin (zv w)) (tO lj (tA 5 (tO (An.cl (ZV zs)) (tX (iD.Dn k kb 1 [ZV x.dep,ZV x.arr,ZV zs,ZV w]) (tO (Ym i) (tE c9 [(zn,5,BR (kb.cells++[ZV x.dep,ZV x.arr,ZV zs,ZV w]) ((r+1)*4) 4 103)] [g8,jH,(6,pN zn r),Aj i] [(0,z9 N),(1,k9 K n cp)] 3 (ZN z k zn kb x zs w r) (zn+1))))))))))))))))))))))).fork (tA 1 (tE [] [] [(6,dw k r)] [] 3 z zn))))
theorem yrz(z:T aa)(zn i:Nat)(N:aw)(J:lq)(Q:QL)(hyp:Value.bool (decide ((↑i:Int)<(↑J.n:Int)))=F0/\E3 120 (Rf (U4 z zn)/\zn.le (zn+1)/\au z zn/\zn<=zn/\zn<zn+1/\U5/\YJX zn/\Q YO [(6,SL (tF zn) 0 0)] [] 3 (U4 z zn) (zn+1))):RdT prog jo fC Rz 120 (ju Hw i) z [(0,N.box),(1,jB J.v),(2,E4)] 3 zn 3 Q:=K1t hyp (tA 1 (tO lj (YJa zn z)))
noncomputable abbrev YJn(e:Int)(s:bI):aA:=aA.mk af.ret [(4,ak),(5,zv e)] [] 3 (gf s) s.zn
noncomputable abbrev YJo(s:bI):aA:=aA.mk YO [(6,s.v)] [] 3 (gf s) s.zn
noncomputable abbrev YJp:bI->aA:=fun(s:bI)=>YJo s
noncomputable abbrev U2(N:aw):Cm:=Cm.mk (CB N) [] 0 0 [] [] 2
noncomputable abbrev YJr(e:Int):bI->Tr:=fun(x:bI)=>tR [] [] (TP [Y5,ZV e]) [] 0 (gf x) x.zn
noncomputable abbrev YJs:bI->Tr:=fun(x:bI)=>tR [] [] (TP [pR x,YM]) [] 0 (gf x) x.zn
theorem yr(z:T aa)(zn:Nat)(N:aw)(J:lq)(b:Bool)(e:Int)(φ ψ:bI->Prop)(Q:QF)(hyp:aP prog z zn 23 (CB N) [] 0 0 Yy (wq b) bQ/\HI N/\ ∀(x:Unit),True->Rs (fy b)/\Br (!b) (E6 120 z zn (Rs (TP [Y5,I 21])/\Q (TP [Y5,I 21]) [] 0 z zn)) (zU/\ai prog Rz 3 120 (ju Hw 0) [(0,N.box),(1,jB J.v),(2,E4)] 3 z zn (Al.cons bI ψ (fun(s:bI)=>YJn e s) SA (Al.cons bI φ YJp SA Al.nil)).R/\E6 120 z zn (R4 bh dr Fy YM (K2 rf (kv N) (Hc J) (U5/\(∀(x:bI),ψ x->E6 120 (gf x) x.zn (Rs (TP [Y5,ZV e])/\Q (TP [Y5,ZV e]) [] 0 (gf x) x.zn))/\ ∀(x:bI),φ x->E6 120 (gf x) x.zn (aJ (aj [] []) (TP [pR x,YM])=some (TP [pR x,YM])/\Q (TP [pR x,YM]) [] 0 (gf x) x.zn)))))):FnT prog jo fC f22 (OV N J) z [] 0 zn Q:=K1t hyp (tA 1 (Tr.cm (U2 N) Unit Yy (wq b) bQ (wq b) bQ (eG z) (eF zn) fun(x:Unit)=>(tR [] [] (TP [Y5,I 21]) [] 0 z zn).fork (Tr.lp 3 120 ib [] (ju Hw 0) [(0,N.box),(1,jB J.v),(2,E4)] 3 z zn (Al.cons bI ψ (fun(s:bI)=>aA.mk af.ret [(4,ak),(5,zv e)] [] 3 (gf s) s.zn) (YJr e) (Al.cons bI φ YJp YJs Al.nil)))))
theorem yzr(z:T aa)(zn r m c b q:Nat)(N:aw)(x:az)(s sp zo w vo:Int)(kc ks:aR)(Q:QL)(hyp:Br (decide ((↑b:Int)<=x.off)) (YU b/\b<m/\RX r/\z.get (6+r)=YX kc/\RW kc b sp/\sp=(↑q:Int)/\q<N.U.ns/\YV/\z.get 2=YX ks/\aq prog ks 3 (0+q*4+1)=some (ZV zo)/\pI prog BinOp.shl 3 VH (Operand.tmp 33) ig (ZV zo) (ZV w)/\WP1 (↑(BitVec.ofInt IntKind.i64.bits s|||BitVec.ofInt IntKind.i64.bits w).toNat:Int) vo/\ZV (IntKind.i64.wrap ((↑b:Int)+1))=IV (b+1)/\E6 37 z zn (R5 bh dr (ZV vo) (SL (tF (6+r)) m c) (IV (b+1)) (KO mM (z9 N)/\Rs (BQ (sy x) 9 1 62)/\Q aN [g8,jH,(5,ZV vo),(6,SL (tF (6+r)) m c),Aj b] [(0,z9 N),(1,BQ (sy x) 9 1 62)] 2 z zn))) (E6 37 z zn (Rs (ZV s)/\Q YO [(5,ZV s)] [] 2 z zn))):RdT prog jo fC (ah (ag f41) 0) 37 (Ba s r m c b) z [(0,N.U.box),(1,Uj x)] 2 zn 2 Q:=K1t hyp (tA 1 ((tA 2 (tO (Yj b) (tO (RV r kc sp) (tO (Yj q) (tO (An.ld 2 ks (zv zo)) (tX (iD.bin (zv w)) (tO (sx vo) (tO (Ym b) (tE c9 [] [g8,jH,(5,ZV vo),(6,SL (tF (6+r)) m c),Aj b] [(0,z9 N),(1,BQ (sy x) 9 1 62)] 2 z zn))))))))).fork (tA 1 (tE [] [] [(5,ZV s)] [] 2 z zn))))
theorem yz(z:T aa)(zn r m c b:Nat)(N:aw)(x:az)(kr:aR)(s:Int)(Q:QF)(hyp:x.run=(↑r:Int)/\r<N.U.nu/\Cl/\Ck z kr/\Lp kr r m c/\sE/\ai prog (ah (ag f41) 0) 2 37 (Ba 0 r m c b) [(0,N.U.box),(1,Uj x)] 2 z zn (alt True (aA.mk YO [(5,zv s)] [] 2 z zn) Al.nil).R/\E6 37 z zn (R4 bh dr YM (SL (tF (6+r)) m c) (some (IV b)=some (ZV x.ez)/\KO mM (z9 N)/\Rs (BQ (sy x) 9 1 62)/\ ∀(x:Unit),True->E6 37 z zn (Rs (ZV s)/\Q (ZV s) [] 0 z zn)))):FnT prog jo fC f41 [AG N.U.cells,AG x.row] z [] 0 zn Q:=K1t hyp (tA 2 (tO (Yj r) (tO (Lo kr r m c) (tA 1 (Tr.lp 2 37 c9 [] (Ba 0 r m c b) [(0,N.U.box),(1,Uj x)] 2 z zn (Al.cons Unit Yy (fun(x:Unit)=>aA.mk YO [(5,zv s)] [] 2 z zn) (fun(x:Unit)=>tR [] [] (ZV s) [] 0 z zn) Al.nil))))))
end
end Go.Proofs.Nw
namespace Go.Proofs.Nw
open Go Go.AV Tryz
set_option maxHeartbeats 1000000
set_option maxRecDepth 100000
abbrev oF(x:Int):Int:=wr (1*2 ^ min x.toNat 64)
theorem yF{x y:Operand}{zo:Int}(h:0<=zo):pI prog BinOp.shl 3 x y (I 1) (zv zo) (zv (oF zo)):=by
 have e:Op.shift .shl .i64 1 .i64 zo=(pure (zv (oF zo)):Sem Value):=by
  unfold Op.shift
  rw[if_neg (by omega)]
  rfl
 have:(do eqGuard BinOp.shl 3 x y (I 1) (zv zo);binOp BinOp.shl 3 (I 1) (zv zo):Sem Value)=(do eqGuard BinOp.shl 3 x y (I 1) (zv zo);Op.shift .shl .i64 1 .i64 zo):=rfl
 unfold pI
 rw[this,e]
 rfl
abbrev Ml(a b:Int):Int:=wr ((BitVec.ofInt IntKind.i64.bits a|||BitVec.ofInt IntKind.i64.bits b).toNat:Int)
def yx(S:List bG)(C:List bd)(i:Nat):Int:=match C[i]? with
 |some c=>(match S[c.stop.toNat]? with|some s=>s.aQ|none=>0)
 |none=>0
def yA(S:List bG)(C:List bd)(b0:Nat):Nat->Int
 |0=>0
 |k+1=>Ml (yA S C b0 k) (oF (yx S C (b0+k)))
def Ao(D:gM)(x:az):Int:=yA D.stops (match D.runs[x.run.toNat]? with|some u=>u.calls|none=>[]) x.ez.toNat (x.off.toNat+1 - x.ez.toNat)
theorem yW{z:T aa}{N:aw}{D:gM}(hN:dt z N D)(hv:(bT N D).2.2=0){x:az}(hx:fU D.runs x=true):N.sa=some ⟨1022,0,none⟩/\N.ra=some ⟨1278,0,none⟩/\N.ua=some ⟨766,0,none⟩:=by
 obtain⟨p1,p2,p3⟩:=gv hv
 have hU:=gx p3
 obtain⟨x1,x2,x3,x4,x5⟩:=lH hx
 obtain⟨u,kr,cc,hu,ha,_,_,_,hl⟩:=mY hN hU x1 x2
 obtain⟨f1,f2,f3⟩:=rK p3 hu
 obtain⟨c,hc⟩:=dh (l:=u.calls) (i:=0) (by omega)
 have:=f3 0 c hc
 exact⟨gR hN.s (by omega),gR hN.r (by omega),ha⟩
section
variable{z:T aa}{zn:Nat}{N:aw}{D:gM}
theorem NL(hz:au z zn)(hN:dt z N D)(hv:(bT N D).2.2=0)(x:az)(hx:fU D.runs x=true):A1 z zn 41 [.agg ⟨N.cells⟩, .agg ⟨x.row⟩] [] 0 0 (zv (Ao D x)) []:=by
 obtain⟨p1,p2,p3⟩:=gv hv
 have hU:=gx p3
 obtain⟨x1,x2,x3,x4,x5⟩:=lH hx
 have hul:=pT hU x.run
 have hns:=cK hN.s
 have hnu:=cK hN.u
 obtain⟨u,kr,cc,hu,_,g1,_,r7,hl⟩:=mY hN hU x1 x2
 obtain⟨f1,f2,f3⟩:=rK p3 hu
 have hb: ∀σ,aC (aj σ []) (eV N)=some (eV N):=hN.box
 obtain⟨a1,a2,a3⟩:=yW hN hv hx
 have hts:=hN.ts
 have htc:=hN.tu.calls _ u hu
 have hzs:Ao D x=yA D.stops u.calls x.ez.toNat (x.off.toNat+1 - x.ez.toNat):=by unfold Ao;rw[hu]
 rw[hzs]
 obtain⟨M,rfl⟩:=nU a1 a2 a3
 have hL:ai prog (ah (ag f41) 0) 2 37 (Ba 0 x.run.toNat (dA D.runs x.run) cc x.ez.toNat) [(0,M.U.box),(1,Uj x)] 2 z zn (Al.R (XI z zn M x x.run.toNat (dA D.runs x.run) cc x.ez.toNat (yA D.stops u.calls x.ez.toNat (x.off.toNat+1 - x.ez.toNat))).l):=by
  refine ax hD (cg (zg:=T.leaf)) (α:=Nat) 2 37 2 (fun k=>x.ez.toNat+k<=x.off.toNat+1) (fun k=>Ba (yA D.stops u.calls x.ez.toNat k) x.run.toNat (dA D.runs x.run) cc (x.ez.toNat+k)) (fun _=>_) (fun _=>z) (fun _=>zn) (fun k=>x.off.toNat+1 - k) _ (fun k hI=>?_) 0 (by show x.ez.toNat+0<=_;omega)
  have hI:x.ez.toNat+k<=x.off.toNat+1:=hI
  by_cases hi:x.ez.toNat+k<=x.off.toNat
  ·have hc:decide (((x.ez.toNat+k:Nat):Int)<=x.off)=true:=by simp;omega
   obtain⟨cl,hcl⟩:=dh (l:=u.calls) (i:=x.ez.toNat+k) (by omega)
   obtain⟨s0,s1⟩:=f3 _ cl hcl
   obtain⟨st,hst⟩:=dh (l:=D.stops) (i:=cl.stop.toNat) (by omega)
   have hzo:=FP p1 hst
   obtain⟨e1,he1⟩:=htc.ay (i:=x.ez.toNat+k) (by simpa using (List.getElem?_eq_some_iff.1 hcl).1)
   obtain⟨e2,he2⟩:=hts.ay (i:=cl.stop.toNat) (by simpa using (List.getElem?_eq_some_iff.1 hst).1)
   have rcl:aq prog (bg e1 (u.calls.map bd.row).flatten) 3 (0+(x.ez.toNat+k)*5+0)=some (zv cl.stop):=aS (j:=0) underlying3 rfl (aM (row:=bd.row) (sz:=5) u.calls fun _=>rfl) (by rw[List.getElem?_map,hcl];rfl) rfl
   have rs:aq prog (bg e2 (D.stops.map bG.row).flatten) 3 (0+cl.stop.toNat*4+1)=some (zv st.aQ):=aS (j:=1) underlying3 rfl (aM (row:=bG.row) (sz:=4) D.stops fun _=>rfl) (by rw[List.getElem?_map,hst];rfl) rfl
   have hza:yx D.stops u.calls (x.ez.toNat+k)=st.aQ:=by unfold yx;rw[hcl];simp only;rw[hst]
   refine t100 (yzr z zn x.run.toNat (dA D.runs x.run) cc (x.ez.toNat+k) cl.stop.toNat M x (yA D.stops u.calls x.ez.toNat k) cl.stop st.aQ (oF st.aQ) (Ml (yA D.stops u.calls x.ez.toNat k) (oF st.aQ)) (bg e1 (u.calls.map bd.row).flatten) (bg e2 (D.stops.map bG.row).flatten) (an _ _ _ _ _ _ _ _ _) ⟨fun _=>?_,nC1 hc⟩)
   (repeat' first|(with_reducible first|exact rfl|assumption|apply And.intro|exact yF hzo|exact hb _|exact bF (by omega)|exact(by omega:x.ez.toNat+k<dA D.runs x.run)|exact(by omega:cl.stop=((cl.stop.toNat:Nat):Int))|exact(by omega:cl.stop.toNat<M.U.ns)))
   all_goals exact⟨k+1,by show Ba _ _ _ _ _=Ba (Ml _ (oF (yx D.stops u.calls (x.ez.toNat+k)))) _ _ _ _;rw[hza];rfl,rfl,rfl,rfl,rfl,by show x.ez.toNat+(k+1)<=_;omega,by show x.off.toNat+1 - (k+1)<x.off.toNat+1 - k;omega⟩
  ·have hc:decide (((x.ez.toNat+k:Nat):Int)<=x.off)=false:=by simp;omega
   have hk:k=x.off.toNat+1 - x.ez.toNat:=by omega
   refine t100 (yzr z zn x.run.toNat (dA D.runs x.run) cc (x.ez.toNat+k) 0 M x (yA D.stops u.calls x.ez.toNat k) 0 0 0 0 ⟨[],0,0,0,true,true,0,true⟩ ⟨[],0,0,0,true,true,0,true⟩ (an _ _ _ _ _ _ _ _ _) ⟨nC1 hc,fun _=>?_⟩)
   (repeat' first|(with_reducible first|exact rfl|assumption|apply And.intro))
   all_goals (rw[hk];exact bu True.intro)
 refine aK1 (cg (zg:=T.leaf)) (fn:=f41) hz (N:=100) ?_
 have hbr:some (Value.int .i64 ((x.ez.toNat:Nat):Int))=some (Value.int .i64 x.ez):=by rw[show((x.ez.toNat:Nat):Int)=x.ez by omega]
 refine yz z zn x.run.toNat (dA D.runs x.run) cc x.ez.toNat M x kr (yA D.stops u.calls x.ez.toNat (x.off.toNat+1 - x.ez.toNat)) _ ?_
 (repeat' first|(with_reducible first|exact rfl|assumption|apply And.intro|exact hb _|exact(by omega:x.run=((x.run.toNat:Nat):Int))|exact(by omega:x.run.toNat<M.U.nu))|exact hL|intro hq)
 all_goals exact q1
theorem QN(hz0:au z zn)(hown: ∀k o,z.get k=some o->o.owned=false)(h6:6<=zn)(hN:dt z N D)(hv:(bT N D).2.2=0){z':T aa}(hs: ∀k o,z.get k=some o->z'.get k=some o):eN prog z' (gJ 41 N.cells (fun x=>fU D.runs x=true) fun x=>zv (Ao D x)):=
 Uq fun x hx=>vM hs (oz (NL hz0 hN hv x hx) (fun _ _=>rfl) rfl hown (EB hN h6 x))
end
def nT(cs:List Value):Prop:= ∀v,v∈cs-> ∃x:Int,v=zv x
theorem iw: ∀{cs:List Value},nT cs->bE cs=true
 |[],_=>rfl
 |v::l,h=>by
  obtain⟨x,rfl⟩:=h v (by simp)
  simp only[bE,aD]
  exact iw fun w hw=>h w (List.mem_cons_of_mem _ hw)
theorem ints_set{cs:List Value}(h:nT cs)(i:Nat)(x:Int):nT (cs.set i (zv x)):=fun v hv=>by
 rcases List.mem_or_eq_of_mem_set hv with hv|rfl
 ·exact h v hv
 ·exact⟨x,rfl⟩
theorem vu{cs ds:List Value}(h:nT cs)(h2:nT ds):nT (cs++ds):=fun v hv=>by
 rcases List.mem_append.1 hv with hv|hv
 ·exact h v hv
 ·exact h2 v hv
theorem EV(a b c d:Int):nT [zv a,zv b,zv c,zv d]:=fun v hv=>by
 simp only[List.mem_cons,List.not_mem_nil,or_false] at hv
 rcases hv with rfl|rfl|rfl|rfl<;>exact⟨_,rfl⟩
theorem ints_at{cs:List Value}(h:nT cs){i:Nat}(hi:i<cs.length): ∃x:Int,cs[i]? =some (zv x):=by
 obtain⟨v,hv⟩:=dh hi
 obtain⟨x,rfl⟩:=h v (List.mem_of_getElem? hv)
 exact⟨x,hv⟩
theorem yP{cs:List Value}{i:Nat}(hi:i<cs.length)(v:Value):overwrite cs i [v]=some (cs.set i v):=by
 have:=nk hi v
 rw[show 0+i*1=i by omega] at this
 exact this
theorem Ei{k:aR}{i:Nat}{x:Int}(h:k.cells[i]? =some (zv x)):aq prog k 3 i=some (zv x):=by
 have:=im (P:=prog) (k:=k) (i:=i) underlying3 rfl h
 rw[show 0+i*1=i by omega] at this
 exact this
abbrev Md(cs:List Value)(r:Nat):aR:=⟨cs,r*4,4,103,false,false,0,true⟩
theorem P9{σ:Nat->Option Nat}{cs:List Value}(h:nT cs)(a b c d:Int)(m:Nat):aC σ (.ay (aR.mk (cs++[zv a,zv b,zv c,zv d]) m 4 103 false false 0 true))=some (.ay (aR.mk (cs++[zv a,zv b,zv c,zv d]) m 4 103 false false 0 true)):=bX (iw (vu h (EV a b c d)))
section
variable{z zg:T aa}{g:Nat->List Value->Option Value}{zn i K n cp kk r:Nat}{N:aw}{x:az}{kj:aR}{Q:af->Live->bN->Nat->T aa->Nat->Prop}
theorem P1(hz:au z zn)(hi:i<n)(hn:n<1000000000)(k1:z.get K=some (.ay kj))(k2:aq prog kj 62 (0+i*9)=some (.agg ⟨x.row⟩)){ex:Bool}(hex:x.aW=true->(!ex)=true)(hcx:A1 z zn 40 [.agg ⟨N.cells⟩, .agg ⟨x.row⟩] [] 0 0 (.bool ex) [])(ha:aT (sig []) [.agg ⟨N.cells⟩, .agg ⟨x.row⟩]=some [.agg ⟨N.cells⟩, .agg ⟨x.row⟩])(hb: ∀σ,aC (aj σ []) (eV N)=some (eV N))
 (q9:x.aW=true->Q .ret [(4,ak),(5,I 9)] [] 3 z zn) (Ip:x.aW=false->x.stay=true->Q .ret [(4,ak),(5,I 19)] [] 3 z zn) (qn:x.aW=false->x.stay=false->Q .normal (ju Hw (i+1)) [(0,N.box),(1,jB (tb K n cp)),(2,E4)] 3 z zn):
 ∃t,dp prog (fun _ _=>none) (T.leaf:T aa) 100 (ah (ag f22) 0) (ko 120 (ju Hw i)) (dI z [(0,N.box),(1,jB (tb K n cp)),(2,E4)] 3) zn (nG 3 120 Q) t:=by
 have hc:decide ((i:Int)<(n:Int))=true:=by simp;omega
 have e0:x.aW=false->Value.bool x.aW=Value.bool false:=fun h=>by rw[h]
 refine yra z zn i K n cp N x false ex 0 kj Q ⟨fun _=>?_,nC1 hc⟩
 (repeat' first|(with_reducible first|exact rfl|assumption|apply And.intro|exact hb _|exact hex ‹_›|exact e0 ‹_›|exact bF (by omega))|intro hq)
 ·exact q9 (by assumption)
 ·exact Ip (by assumption) (by assumption)
 ·exact qn (by assumption) (by assumption)
theorem PZ(hz:au z zn)(hi:i<n)(hn:n<1000000000)(k1:z.get K=some (.ay kj))(k2:aq prog kj 62 (0+i*9)=some (.agg ⟨x.row⟩)){ex:Bool}(hex:x.aW=true->(!ex)=true)(hcx:A1 z zn 40 [.agg ⟨N.cells⟩, .agg ⟨x.row⟩] [] 0 0 (.bool ex) [])(ha:aT (sig []) [.agg ⟨N.cells⟩, .agg ⟨x.row⟩]=some [.agg ⟨N.cells⟩, .agg ⟨x.row⟩])(hb: ∀σ,aC (aj σ []) (eV N)=some (eV N))
 (q9:x.aW=true->Q .ret [(4,ak),(5,I 9)] [] 3 z zn) (Ip:x.aW=false->x.stay=true->Q .ret [(4,ak),(5,I 19)] [] 3 z zn) (qn:x.aW=false->x.stay=false->Q .normal (ju (tb kk r r) (i+1)) [(0,N.box),(1,jB (tb K n cp))] 3 z zn):
 ∃t,dp prog (fun _ _=>none) (T.leaf:T aa) 100 (ah (ag f22) 0) (ko 120 (ju (tb kk r r) i)) (dI z [(0,N.box),(1,jB (tb K n cp))] 3) zn (nG 3 120 Q) t:=by
 have hc:decide ((i:Int)<(n:Int))=true:=by simp;omega
 have e0:x.aW=false->Value.bool x.aW=Value.bool false:=fun h=>by rw[h]
 refine yrc z zn i K n cp kk r N x false ex kj Q ⟨fun _=>?_,nC1 hc⟩
 (repeat' first|(with_reducible first|exact rfl|assumption|apply And.intro|exact hb _|exact hex ‹_›|exact e0 ‹_›|exact bF (by omega))|intro hq)
 ·exact q9 (by assumption)
 ·exact Ip (by assumption) (by assumption)
 ·exact qn (by assumption) (by assumption)
theorem P0(hz:au z zn)(hi:i<n)(hn:n<1000000000)(k1:z.get K=some (.ay kj))(k2:aq prog kj 62 (0+i*9)=some (.agg ⟨x.row⟩))(k3:i≠0->aq prog kj 4 (0+(i - 1)*9+0)=some (.bool false))(hr:x.aW=true)(hcx:A1 z zn 40 [.agg ⟨N.cells⟩, .agg ⟨x.row⟩] [] 0 0 T1 [])(ha:aT (sig []) [.agg ⟨N.cells⟩, .agg ⟨x.row⟩]=some [.agg ⟨N.cells⟩, .agg ⟨x.row⟩])(sU: ∀(σ:bb)(c:Nat)(o:aa),aC (aj σ [(zn,c,o)]) (eV N)=some (eV N))(hK:K≠zn)
 (a1:N.sa=some ⟨1022,0,none⟩) (a2:N.ra=some ⟨1278,0,none⟩) (a3:N.ua=some ⟨766,0,none⟩) {kr kq:aR} {q qq:Nat} {rt md zs:Int} (hq:x.run=(q:Int)) (hqn:q<N.nu) (g1:z.get 1=some (.ay kr)) (g2:aq prog kr 3 (0+q*8+4)=some (zv rt)) (hrt:rt=(qq:Int)) (hqq:qq<N.nr) (g3:z.get 3=some (.ay kq)) (g4:aq prog kq 3 (0+qq*3+1)=some (zv md)) (hmd:0<=md) (hge:g 41 [.agg ⟨N.cells⟩, .agg ⟨x.row⟩]=some (zv zs))
 (Ip:x.stay=true->Q .ret [(4,ak),(5,I 19)] [] 3 z zn) (qn:x.stay=false->Q .normal (ju (tb zn 1 1) (i+1)) [(0,N.box),(1,jB (tb K n cp))] 3 (z.set zn (iJ [zv x.dep,zv x.arr,zv zs,zv (oF md)] 1)) (zn+1)):
 ∃t,dp prog g z 100 (ah (ag f22) 0) (ko 120 (ju Hw i)) (dI z [(0,N.box),(1,jB (tb K n cp)),(2,E4)] 3) zn (nG 3 120 Q) t:=by
 have hc:decide ((i:Int)<(n:Int))=true:=by simp;omega
 have e0:Value.bool x.aW=Value.bool true:=by rw[hr]
 have e1:x.stay=false->Value.bool x.stay=Value.bool false:=fun h=>by rw[h]
 have kp:((i:Int)==0)=false->aq prog kj 4 (0+(i - 1)*9+0)=some (.bool false):=fun h=>k3 (by simp at h;omega)
 have ip:((i:Int)==0)=false->(i:Int) - 1=((i - 1:Nat):Int):=fun h=>by simp at h;omega
 have wp:((i:Int)==0)=false->Value.int .i64 (IntKind.i64.wrap ((i:Int) - 1))=Value.int .i64 ((i:Int) - 1):=fun h=>Ap (by simp at h;omega) (by omega)
 have i1:i - 1<n:=by omega
 have hnf:(!false)=true:=rfl
 obtain⟨M,rfl⟩:=nU a1 a2 a3
 refine yrb z z g zn i K n cp q qq M x false (oF md) rt md zs kj kr kq Q ⟨fun _=>?_,nC1 hc⟩
 (repeat' first|(with_reducible first|exact rfl|assumption|apply And.intro|exact sU _ _ _|exact yF hmd|exact kA hK|exact fO|exact Mo _|exact Nat.le_refl _|exact Nat.lt_succ_self _|exact e1 ‹_›|exact kp ‹_›|exact ip ‹_›|exact wp ‹_›|exact bF (by omega))|intro hq)
 ·exact Ip (by assumption)
 ·exact Ip (by assumption)
 ·exact qn (by assumption)
theorem PX(hz:au z zn)(hi:i<n)(hn:n<1000000000)(k1:z.get K=some (.ay kj))(k2:aq prog kj 62 (0+i*9)=some (.agg ⟨x.row⟩))(hr:x.aW=true)(hs:x.stay=false)(hcx:A1 z zn 40 [.agg ⟨N.cells⟩, .agg ⟨x.row⟩] [] 0 0 T1 [])(ha:aT (sig []) [.agg ⟨N.cells⟩, .agg ⟨x.row⟩]=some [.agg ⟨N.cells⟩, .agg ⟨x.row⟩])(sU: ∀(σ:bb)(c:Nat)(o:aa),aC (aj σ [(zn,c,o)]) (eV N)=some (eV N))(hK:K≠zn)
 (a1:N.sa=some ⟨1022,0,none⟩) (a2:N.ra=some ⟨1278,0,none⟩) (a3:N.ua=some ⟨766,0,none⟩) {kr kq:aR} {q qq:Nat} {rt md zs:Int} (hq:x.run=(q:Int)) (hqn:q<N.nu) (g1:z.get 1=some (.ay kr)) (g2:aq prog kr 3 (0+q*8+4)=some (zv rt)) (hrt:rt=(qq:Int)) (hqq:qq<N.nr) (g3:z.get 3=some (.ay kq)) (g4:aq prog kq 3 (0+qq*3+1)=some (zv md)) (hmd:0<=md) (hge:g 41 [.agg ⟨N.cells⟩, .agg ⟨x.row⟩]=some (zv zs))
 {cs:List Value} (v6:z.get kk=some (iJ cs r)) (hcs:nT cs) (hcl:cs.length=r*4) (hrl:r+1<=1048576)
 (qn:Q .normal (ju (tb zn (r+1) (r+1)) (i+1)) [(0,N.box),(1,jB (tb K n cp))] 3 ((z.del kk).set zn (iJ (cs++[zv x.dep,zv x.arr,zv zs,zv (oF md)]) (r+1))) (zn+1)):
 ∃t,dp prog g z 100 (ah (ag f22) 0) (ko 120 (ju (tb kk r r) i)) (dI z [(0,N.box),(1,jB (tb K n cp))] 3) zn (nG 3 120 Q) t:=by
 have hc:decide ((i:Int)<(n:Int))=true:=by simp;omega
 have e0:Value.bool x.aW=Value.bool true:=by rw[hr]
 have e1:Value.bool x.stay=Value.bool false:=by rw[hs]
 obtain⟨M,rfl⟩:=nU a1 a2 a3
 refine yre z z g zn i K n cp kk r q qq M x (oF md) rt md zs kj kr kq (Md cs r) Q ⟨fun _=>?_,nC1 hc⟩
 (repeat' first|(with_reducible first|exact rfl|assumption|apply And.intro|exact sU _ _ _|exact yF hmd|exact kA hK|exact fO|exact P9 hcs _ _ _ _ _|exact gY hz _|exact Mo _|exact Nat.le_refl _|exact Nat.lt_succ_self _|exact bF (by omega))|intro hq)
 all_goals exact qn
end
section
variable{z zg:T aa}{zn i K n cp kk r:Nat}{N:aw}{x:az}{kj:aR}{Q:af->Live->bN->Nat->T aa->Nat->Prop}
theorem PY(hz:au z zn)(hi:i<n)(hn:n<1000000000)(k1:z.get K=some (.ay kj))(k2:aq prog kj 62 (0+i*9)=some (.agg ⟨x.row⟩)){pr:Bool}(k3:i≠0->aq prog kj 4 (0+(i - 1)*9+0)=some (.bool pr))(hr:x.aW=true)(hs:x.stay=true)(hcx:A1 z zn 40 [.agg ⟨N.cells⟩, .agg ⟨x.row⟩] [] 0 0 T1 [])(ha:aT (sig []) [.agg ⟨N.cells⟩, .agg ⟨x.row⟩]=some [.agg ⟨N.cells⟩, .agg ⟨x.row⟩])(hb: ∀σ,aC (aj σ []) (eV N)=some (eV N))
 (a1:N.sa=some ⟨1022,0,none⟩) (a2:N.ra=some ⟨1278,0,none⟩) (a3:N.ua=some ⟨766,0,none⟩) {kr kq:aR} {q qq:Nat} {rt md zs:Int} (hq:x.run=(q:Int)) (hqn:q<N.nu) (g1:z.get 1=some (.ay kr)) (g2:aq prog kr 3 (0+q*8+4)=some (zv rt)) (hrt:rt=(qq:Int)) (hqq:qq<N.nr) (g3:z.get 3=some (.ay kq)) (g4:aq prog kq 3 (0+qq*3+1)=some (zv md)) (hmd:0<=md)
 {cs:List Value} (hkk:kk<zn) (v6:z.get kk=some (iJ cs r)) (hcs:nT cs) (hcl:cs.length=r*4) (hr0:i≠0->pr=true->0<r) (hrl:r<1000000)
 {g:Nat->List Value->Option Value} (hge:g 41 [.agg ⟨N.cells⟩, .agg ⟨x.row⟩]=some (zv zs)) (hg: ∀c:List Value,eN prog (z.set kk (iJ c r)) g)
 (Ip:i=0\/pr=false->Q .ret [(4,ak),(5,I 19)] [] 3 z zn)
 (qn:i≠0->pr=true-> ∀z' cs',au z' zn->(∀k,k≠kk->z'.get k=z.get k)->z'.get kk=some (iJ cs' r)->nT cs'->cs'.length=r*4->Q .normal (ju (tb kk r r) (i+1)) [(0,N.box),(1,jB (tb K n cp))] 3 z' zn):
 ∃g zg,eN prog zg g/\ ∃M t,dp prog g zg M (ah (ag f22) 0) (ko 120 (ju (tb kk r r) i)) (dI z [(0,N.box),(1,jB (tb K n cp))] 3) zn (nG 3 120 Q) t:=by
 have hc:decide ((i:Int)<(n:Int))=true:=by simp;omega
 have e0:Value.bool x.aW=Value.bool true:=by rw[hr]
 have e1:Value.bool x.stay=Value.bool true:=by rw[hs]
 have kp:((i:Int)==0)=false->aq prog kj 4 (0+(i - 1)*9+0)=some (.bool pr):=fun h=>k3 (by simp at h;omega)
 have ip:((i:Int)==0)=false->(i:Int) - 1=((i - 1:Nat):Int):=fun h=>by simp at h;omega
 have wp:((i:Int)==0)=false->Value.int .i64 (IntKind.i64.wrap ((i:Int) - 1))=Value.int .i64 ((i:Int) - 1):=fun h=>Ap (by simp at h;omega) (by omega)
 have i1:i - 1<n:=by omega
 by_cases hbad:i=0\/pr=false
 ·refine⟨_,z.set kk (iJ cs r),hg cs,100,?_⟩
  have q:=Ip hbad
  have nn:((i:Int)==0)=false->(!pr)=false->False:=fun h1 h2=>by
   rcases hbad with rfl|rfl
   ·simp at h1
   ·simp at h2
  obtain⟨M,rfl⟩:=nU a1 a2 a3
  refine yrd z _ g zn i K n cp kk r 0 0 M x pr 0 0 0 0 0 0 0 0 kj kr kq (Md cs r) (Md cs r) (Md cs r) [] [] [] Q ⟨fun _=>?_,nC1 hc⟩
  (repeat' first|(with_reducible first|exact rfl|assumption|apply And.intro|exact kp ‹_›|exact ip ‹_›|exact wp ‹_›)|exact(rfl:Int.ofNat _=_)|exact(nn (by with_reducible assumption) (by with_reducible assumption)).elim|intro hq)
  all_goals exact q
 have hi0:i≠0:=fun h=>hbad (.inl h)
 have hpr:pr=true:=by
  cases pr with
  |true=>rfl
  |false=>exact(hbad (.inr rfl)).elim
 have hr0:=hr0 hi0 hpr
 obtain⟨c1,hc1⟩: ∃c,c=cs.set (0+(r - 1)*4+1) (zv x.arr):=⟨_,rfl⟩
 have s1:nT c1:=by rw[hc1];exact ints_set hcs _ _
 have l1:c1.length=r*4:=by rw[hc1,List.length_set,hcl]
 have o1:overwrite cs (0+(r - 1)*4+1) [zv x.arr]=some c1:=by rw[hc1];exact yP (by omega) _
 obtain⟨a,hca⟩:=ints_at s1 (i:=0+(r - 1)*4+2) (by omega)
 have ra2:aq prog (Md c1 r) 3 (0+(r - 1)*4+2)=some (zv a):=Ei hca
 obtain⟨c2,hc2⟩: ∃c,c=c1.set (0+(r - 1)*4+2) (zv (Ml a zs)):=⟨_,rfl⟩
 have s2:nT c2:=by rw[hc2];exact ints_set s1 _ _
 have l2:c2.length=r*4:=by rw[hc2,List.length_set,l1]
 have o2:overwrite c1 (0+(r - 1)*4+2) [zv (Ml a zs)]=some c2:=by rw[hc2];exact yP (by omega) _
 obtain⟨b,hcb⟩:=ints_at s2 (i:=0+(r - 1)*4+3) (by omega)
 have rb2:aq prog (Md c2 r) 3 (0+(r - 1)*4+3)=some (zv b):=Ei hcb
 obtain⟨c3,hc3⟩: ∃c,c=c2.set (0+(r - 1)*4+3) (zv (Ml b (oF md))):=⟨_,rfl⟩
 have s3:nT c3:=by rw[hc3];exact ints_set s2 _ _
 have l3:c3.length=r*4:=by rw[hc3,List.length_set,l2]
 have o3:overwrite c2 (0+(r - 1)*4+3) [zv (Ml b (oF md))]=some c3:=by rw[hc3];exact yP (by omega) _
 have t1:(z.set kk (iJ c1 r)).get kk=some (iJ c1 r):=by rw[T.aG,if_pos rfl]
 have t2:((z.set kk (iJ c1 r)).set kk (iJ c2 r)).get kk=some (iJ c2 r):=by rw[T.aG,if_pos rfl]
 have f1:au (z.set kk (iJ c1 r)) zn:=nD hz hkk fun σ _=>bX (iw s1)
 have f2:au ((z.set kk (iJ c1 r)).set kk (iJ c2 r)) zn:=nD f1 hkk fun σ _=>bX (iw s2)
 have f3:au (((z.set kk (iJ c1 r)).set kk (iJ c2 r)).set kk (iJ c3 r)) zn:=nD f2 hkk fun σ _=>bX (iw s3)
 have hn:=qn hi0 hpr _ c3 f3 (fun k hk=>by rw[T.aG,if_neg hk,T.aG,if_neg hk,T.aG,if_neg hk]) (by rw[T.aG,if_pos rfl]) s3 l3
 have hr1:((r:Nat):Int) - 1=((r - 1:Nat):Int):=by omega
 have wr1:Value.int .i64 (IntKind.i64.wrap ((r:Int) - 1))=Value.int .i64 ((r:Int) - 1):=cX (by omega) (by omega)
 have hrr:r - 1<r:=by omega
 have nn:((i:Int)==0)=true->False:=fun h=>hi0 (by simpa using h)
 have n2:(!pr)=true->False:=fun h=>by rw[hpr] at h;cases h
 have m1:c1.length<=r*4:=by omega
 have m2:c2.length<=r*4:=by omega
 have m3:c3.length<=r*4:=by omega
 refine⟨_,z.set kk (iJ c1 r),hg c1,100,?_⟩
 clear qn Ip hbad hc1 hc2 hc3
 obtain⟨M,rfl⟩:=nU a1 a2 a3
 refine yrd z (z.set kk (iJ c1 r)) g zn i K n cp kk r q qq M x pr (oF md) rt md a b zs (Ml a zs) (Ml b (oF md)) kj kr kq (Md cs r) (Md c1 r) (Md c2 r) c1 c2 c3 Q ⟨fun _=>?_,nC1 hc⟩
 (repeat' first|(with_reducible first|exact rfl|assumption|apply And.intro|exact hb _|exact yF hmd|exact kp ‹_›|exact ip ‹_›|exact wp ‹_›|exact bF (by omega))|exact(nn (by with_reducible assumption)).elim|exact(n2 (by with_reducible assumption)).elim|intro hq)
 all_goals exact hn
end
structure Vq(z0:T aa)(n0:Nat)(s:bI):Prop where
 bH:au s.z s.zn
 le:n0<=s.zn
 fE: ∀k,k<n0->s.z.get k=z0.get k
 val:(s.oa=none/\s.k=0)\/(0<s.k/\ ∃kk cs,n0<=kk/\kk<s.zn/\s.oa=some ⟨256*kk+510,0,none⟩/\s.z.get kk=some (iJ cs s.k)/\cs.length=s.k*4/\nT cs)
theorem Me{z0:T aa}{n0:Nat}{z:T aa}{zn:Nat}(hz:au z zn)(hle:n0<=zn)(hold: ∀k,k<n0->z.get k=z0.get k)(a b c d:Int):Vq z0 n0 ⟨some ⟨256*zn+510,0,none⟩,1,z.set zn (iJ [zv a,zv b,zv c,zv d] 1),zn+1⟩:=
 ⟨eC hz rfl,by show n0<=zn+1;omega,fun k hk=>by
   show(z.set zn _).get k=_
   rw[T.aG,if_neg (by omega)];exact hold k hk, .inr ⟨Nat.one_pos,zn,[zv a,zv b,zv c,zv d],hle,Nat.lt_succ_self _,rfl,by
   show(z.set zn _).get zn=_
   rw[T.aG,if_pos rfl],rfl,EV a b c d⟩⟩
theorem Im{z0:T aa}{n0:Nat}{z:T aa}{zn:Nat}(hz:au z zn)(hle:n0<=zn)(hold: ∀k,k<n0->z.get k=z0.get k){kk k:Nat}(h1:n0<=kk){cs:List Value}(hl:cs.length=k*4)(hi:nT cs)(a b c d:Int):Vq z0 n0 ⟨some ⟨256*zn+510,0,none⟩,k+1,(z.del kk).set zn (iJ (cs++[zv a,zv b,zv c,zv d]) (k+1)),zn+1⟩:=
 ⟨eC (gY hz _) (iw (vu hi (EV a b c d))),by show n0<=zn+1;omega,fun j hj=>by
   show((z.del kk).set zn _).get j=_
   rw[T.aG,if_neg (by omega),T.fq,if_neg (by omega)];exact hold j hj, .inr ⟨Nat.succ_pos _,zn,cs++[zv a,zv b,zv c,zv d],hle,Nat.lt_succ_self _,rfl,by
   show((z.del kk).set zn _).get zn=_
   rw[T.aG,if_pos rfl],by rw[List.length_append,hl];show k*4+4=(k+1)*4;omega,vu hi (EV a b c d)⟩⟩
structure DX(z0:T aa)(n0:Nat)(s:bI):Prop where
 bH:au s.z s.zn
 le:n0<=s.zn
 fE: ∀k,k<n0->s.z.get k=z0.get k
structure Co(z0:T aa)(n0:Nat)(s:bI):Prop where
 o:DX z0 n0 s
 tv:aJ (sig []) s.v=some s.v
def mD(N:aw)(D:gM)(z:T aa):Prop:= ∃zb nb,au zb nb/\(∀k o,zb.get k=some o->o.owned=false)/\6<=nb/\dt zb N D/\ ∀k o,zb.get k=some o->z.get k=some o
theorem mD.more{N:aw}{D:gM}{z z':T aa}{zn:Nat}(h:mD N D z)(hz:au z zn)(ho: ∀k,k<zn->z'.get k=z.get k):mD N D z':=by
 obtain⟨zb,nb,h1,h2,h3,h4,h5⟩:=h
 exact⟨zb,nb,h1,h2,h3,h4,fun k o hk=>by
  have:=h5 k o hk
  rw[ho k (hz k o this).1];exact this⟩
def Xj(s:bI):Value:=match s.oa with|none=>Hw|some a=> .slice (some a) s.k s.k
def Xi(N:aw)(J:lq)(s:bI):bN:=match s.oa with|none=>[(0,N.box),(1,jB J.v),(2,E4)]|some _=>[(0,N.box),(1,jB J.v)]
section
variable{z:T aa}{zn:Nat}{N:aw}{D:gM}
theorem EK(hz:au z zn)(hB:mD N D z)(hN:dt z N D)(hv:(bT N D).2.2=0){K:Nat}(hK:6<=K)(hKn:K<zn){G:List az}(hG:G.length<=1000){J:lq}(hJ:pP K J.a J.n J.c G.length)(hT:bM z K (G.map az.row))(r:Int × Int)(hr:scan (cw D.runs G) G.length 0=r):
 ai prog (ah (ag f22) 0) 3 120 (ju Hw 0) [(0,N.box),(1,jB J.v),(2,E4)] 3 z zn (Al.R (Gk z zn N J r.2 (fun s=>r.2=0/\Co z zn s) (fun s=>r.2≠0/\DX z zn s)).l):=by
 have hjn:=cK hJ
 obtain⟨p1,p2,p3⟩:=gv hv
 have hU:=gx p3
 refine xy hD (α:=Nat × bI) 3 120 3 (fun t=>t.1<=G.length/\scan (cw D.runs G) (G.length - t.1) t.1=r/\Vq z zn t.2/\(∀j,t.1=j+1->gm G j=true->0<t.2.k)/\t.2.k<=t.1) (fun t=>ju (Xj t.2) t.1) (fun t=>Xi N J t.2) (fun t=>t.2.z) (fun t=>t.2.zn) (fun t=>G.length - t.1) _ (fun t hI=>?_) (0,⟨none,0,z,zn⟩) ⟨Nat.zero_le _,hr,⟨hz,Nat.le_refl _,fun _ _=>rfl, .inl ⟨rfl,rfl⟩⟩,(fun j hj=>by cases hj),Nat.le_refl _⟩
 obtain⟨i,oa,k,sz,szn⟩:=t
 obtain⟨h1,h2,hs,hp,hki⟩:=hI
 simp only at h1 h2 hs hp hki ⊢
 have hsz:au sz szn:=hs.bH
 have hle:zn<=szn:=hs.le
 have hold: ∀k,k<zn->sz.get k=z.get k:=hs.fE
 have hNs:=hN.Nk hz hold
 have hTs:=cH hT hz hold
 have hb: ∀σ,aC (aj σ []) (eV N)=some (eV N):=hN.box
 have sU: ∀(σ:bb)(c:Nat)(o:aa),aC (aj σ [(szn,c,o)]) (eV N)=some (eV N):=fun σ c o=>hN.Ku (by omega) σ
 have hKs:K≠szn:=by omega
 have hBs:=hB.more hz hold
 by_cases hi:i<G.length
 ·obtain⟨x,hx⟩:=dh hi
  have hja:=gR hJ (by omega)
  obtain⟨ja,jn,jc⟩:=J
  simp only at hja hjn
  subst hja hjn
  have hret: ∀e:Int,dm D.runs G i x=e->e≠0->Al.R (Gk z zn N ⟨some ⟨256*K+510,0,none⟩,G.length,jc⟩ r.2 (fun s=>r.2=0/\Co z zn s) (fun s=>r.2≠0/\DX z zn s)).l ⟨.ret,[(4,ak),(5,zv e)],[],3,sz,szn⟩:=fun e he h0=>by
   have hb:cw D.runs G i=some e:=by
    unfold cw;rw[hx];simp only;rw[he,if_neg h0]
   have:r=((i:Int),e):=by rw[←h2,cY hi hb]
   rw[this]
   exact yh (k:=fun _=>dP) (⟨oa,k,sz,szn⟩:bI) ⟨h0,hsz,hle,hold⟩ rfl
  have nx:dm D.runs G i x=0-> ∀s',Vq z zn s'->(x.aW=true->0<s'.k)->s'.k<=k+1->an (fun t:Nat × bI=>t.1<=G.length/\scan (cw D.runs G) (G.length - t.1) t.1=r/\Vq z zn t.2/\(∀j,t.1=j+1->gm G j=true->0<t.2.k)/\t.2.k<=t.1) (fun t=>ju (Xj t.2) t.1) (fun t=>Xi N ⟨some ⟨256*K+510,0,none⟩,G.length,jc⟩ t.2) 3 (fun t=>t.2.z) (fun t=>t.2.zn) (fun t=>G.length - t.1) (Al.R (Gk z zn N ⟨some ⟨256*K+510,0,none⟩,G.length,jc⟩ r.2 (fun s=>r.2=0/\Co z zn s) (fun s=>r.2≠0/\DX z zn s)).l) (i,⟨oa,k,sz,szn⟩) .normal (ju (Xj s') (i+1)) (Xi N ⟨some ⟨256*K+510,0,none⟩,G.length,jc⟩ s') 3 s'.z s'.zn:=fun he s' h hk hk1=>by
   have hb:cw D.runs G i=none:=by
    unfold cw;rw[hx];simp only;rw[if_pos he]
   refine⟨(i+1,s'),rfl,rfl,rfl,rfl,rfl,⟨hi,?_,h,fun j hj hr=>?_,?_⟩,?_⟩
   ·rw[←h2,cD hi hb]
   ·have:j=i:=by simp only at hj;omega
    subst this
    exact hk (by unfold gm at hr;rw[hx] at hr;exact hr)
   ·show s'.k<=i+1;omega
   ·show G.length - (i+1)<G.length - i;omega
  obtain⟨kj,k1,k2,k3,_,_⟩:=tT hTs hx
  have hcx:=Kl hsz hNs hU x
  have ha:aT (sig []) [.agg ⟨N.cells⟩, .agg ⟨x.row⟩]=some [.agg ⟨N.cells⟩, .agg ⟨x.row⟩]:=eP (hN.val []) (eo rfl)
  have hn:G.length<1000000000:=by omega
  by_cases hgo:x.aW=true/\fU D.runs x=true
  ·obtain⟨hrd,hex⟩:=hgo
   rw[hex] at hcx
   obtain⟨x1,x2,x3,x4,x5⟩:=lH hex
   obtain⟨a1,a2,a3⟩:=yW hN hv hex
   obtain⟨u,kr,cc,hu,_,g1,g2,_,_⟩:=mY hNs hU x1 x2
   obtain⟨f1,f2,f3⟩:=rK p3 hu
   have hnr:=cK hN.r
   have hnu:=cK hN.u
   obtain⟨ro,hro⟩:=dh (l:=D.ek) (i:=u.v.eJ.toNat) (by omega)
   have hmd:=CP p2 hro
   obtain⟨el,hel⟩:=hNs.tr.ay (i:=u.v.eJ.toNat) (by simpa using (List.getElem?_eq_some_iff.1 hro).1)
   have g4:aq prog (bg el (D.ek.map ba.row).flatten) 3 (0+u.v.eJ.toNat*3+1)=some (zv ro.mode):=aS (j:=1) underlying3 rfl (aM (row:=ba.row) (sz:=3) D.ek fun _=>rfl) (by rw[List.getElem?_map,hro];rfl) rfl
   have hge:=OE (f0:=41) (c:=N.cells) (P:=fun x=>fU D.runs x=true) (v:=fun x=>zv (Ao D x)) (x:=x) hex
   have hq:x.run=((x.run.toNat:Nat):Int):=by omega
   have hqn:x.run.toNat<N.nu:=by omega
   have hrt:u.v.eJ=((u.v.eJ.toNat:Nat):Int):=by omega
   have hqq:u.v.eJ.toNat<N.nr:=by omega
   have er19:x.stay=true->(i=0\/gm G (i - 1)=false)->dm D.runs G i x=19:=fun hs hh=>by
    unfold dm
    rw[if_neg (fun h=>by rw[hex] at h;cases h.2),if_pos ⟨hs, .inr hh⟩]
   have er0:(x.stay=true->i≠0/\gm G (i - 1)=true)->dm D.runs G i x=0:=fun hh=>by
    unfold dm
    rw[if_neg (fun h=>by rw[hex] at h;cases h.2),if_neg (fun h=>?_)]
    obtain⟨q1',q2'⟩:=hh h.1
    rcases h.2 with q|q|q
    ·rw[hrd] at q;cases q
    ·exact q1' q
    ·rw[q2'] at q;cases q
   rcases hs.val with ⟨v1,v2⟩|⟨v0,kk,cs,v1,v2,v3,v4,v5,v6⟩
   ·simp only at v1 v2
    subst v1 v2
    have hpf:i≠0->gm G (i - 1)=false:=fun h0=>by
     cases hc:gm G (i - 1) with
     |false=>rfl
     |true=>have:=hp (i - 1) (by omega) hc;omega
    have k3f:i≠0->aq prog kj 4 (0+(i - 1)*9+0)=some (.bool false):=fun h0=>by
     rw[←hpf h0];exact k3 h0
    obtain⟨zb,nb,b1,b2,b3,b4,b5⟩:=hBs
    have hg:=QN b1 b2 b3 b4 hv b5
    refine⟨_,sz,hg,100,?_⟩
    refine P0 hsz hi hn k1 k2 k3f hrd hcx ha sU hKs a1 a2 a3 hq hqn g1 g2 hrt hqq hel g4 hmd hge (fun hs=>hret 19 (er19 hs ?_) (by decide)) (fun hs=>nx (er0 fun h=>by rw[hs] at h;cases h) ⟨some ⟨256*szn+510,0,none⟩,1,sz.set szn (iJ [zv x.dep,zv x.arr,zv (Ao D x),zv (oF ro.mode)] 1),szn+1⟩ (Me hsz hle hold _ _ _ _) (fun _=>Nat.one_pos) (Nat.le_refl _))
    by_cases h0:i=0
    ·exact .inl h0
    ·exact .inr (hpf h0)
   ·simp only at v0 v3 v4 v5
    subst v3
    have hk6:k<1000000:=by omega
    have hk7:k+1<=1048576:=by omega
    cases hst:x.stay with
    |true=>
     have hg: ∀c:List Value,eN prog (sz.set kk (iJ c k)) (gJ 41 N.cells (fun x=>fU D.runs x=true) fun x=>zv (Ao D x)):=fun c=>by
      obtain⟨zb,nb,b1,b2,b3,b4,b5⟩:=hB
      exact QN b1 b2 b3 b4 hv fun j o hj=>by
       have h1:=b5 j o hj
       have h2:=(hz j o h1).1
       rw[T.aG,if_neg (by omega),hold j h2];exact h1
     refine PY hsz hi hn k1 k2 k3 hrd hst hcx ha hb a1 a2 a3 hq hqn g1 g2 hrt hqq hel g4 hmd v2 v4 v6 v5 (fun _ _=>v0) hk6 hge hg (fun hh=>hret 19 (er19 hst hh) (by decide)) (fun hi0 hpr z' cs' q1' q2' q3' q4' q5'=>nx (er0 fun _=>⟨hi0,hpr⟩) ⟨some ⟨256*kk+510,0,none⟩,k,z',szn⟩ ⟨q1',hle,fun j hj=>(q2' j (by omega)).trans (hold j hj), .inr ⟨v0,kk,cs',v1,v2,rfl,q3',q5',q4'⟩⟩ (fun _=>v0) (Nat.le_succ _))
    |false=>
     obtain⟨zb,nb,b1,b2,b3,b4,b5⟩:=hBs
     have hg:=QN b1 b2 b3 b4 hv b5
     refine⟨_,sz,hg,100,?_⟩
     refine PX hsz hi hn k1 k2 hrd hst hcx ha sU hKs a1 a2 a3 hq hqn g1 g2 hrt hqq hel g4 hmd hge v4 v6 v5 hk7 (nx (er0 fun h=>by rw[hst] at h;cases h) ⟨some ⟨256*szn+510,0,none⟩,k+1,(sz.del kk).set szn (iJ (cs++[zv x.dep,zv x.arr,zv (Ao D x),zv (oF ro.mode)]) (k+1)),szn+1⟩ (Im hsz hle hold v1 v5 v6 _ _ _ _) (fun _=>Nat.succ_pos _) (Nat.le_refl _))
  ·have hex:x.aW=true->(!(fU D.runs x))=true:=fun h=>by
    cases hc:fU D.runs x with
    |false=>rfl
    |true=>exact(hgo ⟨h,hc⟩).elim
   have e9:x.aW=true->dm D.runs G i x=9:=fun h=>by
    unfold dm;rw[if_pos ⟨h,by have:=hex h;simpa using this⟩]
   have e19:x.aW=false->x.stay=true->dm D.runs G i x=19:=fun h hs=>by
    unfold dm;rw[if_neg (fun q=>by rw[h] at q;cases q.1),if_pos ⟨hs, .inl h⟩]
   have e0:x.aW=false->x.stay=false->dm D.runs G i x=0:=fun h hs=>by
    unfold dm;rw[if_neg (fun q=>by rw[h] at q;cases q.1),if_neg (fun q=>by rw[hs] at q;cases q.1)]
   refine⟨_,T.leaf,cg (zg:=T.leaf),100,?_⟩
   rcases hs.val with ⟨v1,v2⟩|⟨v0,kk,cs,v1,v2,v3,v4,v5,v6⟩
   ·simp only at v1 v2
    subst v1 v2
    exact P1 hsz hi hn k1 k2 hex hcx ha hb (fun h=>hret 9 (e9 h) (by decide)) (fun h hs=>hret 19 (e19 h hs) (by decide)) (fun h hs'=>nx (e0 h hs') ⟨none,0,sz,szn⟩ hs (fun q=>by rw[h] at q;cases q) (Nat.zero_le _))
   ·simp only at v0 v3 v4 v5
    subst v3
    exact PZ hsz hi hn k1 k2 hex hcx ha hb (fun h=>hret 9 (e9 h) (by decide)) (fun h hs=>hret 19 (e19 h hs) (by decide)) (fun h hs'=>nx (e0 h hs') ⟨some ⟨256*kk+510,0,none⟩,k,sz,szn⟩ hs (fun _=>v0) (Nat.le_succ _))
 ·have hiG:i=G.length:=by omega
  subst hiG
  have hr2:r.2=0:=by rw[←h2,Nat.sub_self];rfl
  refine⟨_,T.leaf,cg (zg:=T.leaf),100,?_⟩
  have hc:decide ((G.length:Int)<(J.n:Int))=false:=by simp;omega
  have hcv:Value.bool (decide ((G.length:Int)<(J.n:Int)))=Value.bool false:=by rw[hc]
  rcases hs.val with ⟨v1,v2⟩|⟨v0,kk,cs,v1,v2,v3,v4,v5,v6⟩
  ·simp only at v1 v2
   subst v1 v2
   have hfin:Al.R (Gk z zn N J r.2 (fun s=>r.2=0/\Co z zn s) (fun s=>r.2≠0/\DX z zn s)).l ⟨.exit 0,[(6,tb szn 0 0)],[],3,sz.set szn E4,szn+1⟩:= .inr (yh (k:=fun _=>dP) (⟨some ⟨256*szn+510,0,none⟩,0,sz.set szn E4,szn+1⟩:bI) ⟨hr2,⟨eC hsz rfl,by show zn<=szn+1;omega,fun k hk=>(by
    show(sz.set szn _).get k=_
    rw[T.aG,if_neg (by omega)];exact hold k hk)⟩,jL [] szn 0 0⟩ rfl)
   refine yrz sz szn G.length N J (an _ _ _ _ _ _ _ _ _) ?_
   (repeat' first|(with_reducible first|exact rfl|assumption|apply And.intro|exact Mo _|exact Nat.le_refl _|exact Nat.lt_succ_self _|exact fO)|exact hfin)
  ·simp only at v0 v3 v4 v5
   subst v3
   have hja:=gR hJ (by omega)
   obtain⟨ja,jn,jc⟩:=J
   simp only at hja hjn
   subst hja hjn
   have hfin:Al.R (Gk z zn N ⟨some ⟨256*K+510,0,none⟩,G.length,jc⟩ r.2 (fun s=>r.2=0/\Co z zn s) (fun s=>r.2≠0/\DX z zn s)).l ⟨.exit 0,[(6,tb kk k k)],[],3,sz,szn⟩:= .inr (yh (k:=fun _=>dP) (⟨some ⟨256*kk+510,0,none⟩,k,sz,szn⟩:bI) ⟨hr2,⟨hsz,hle,hold⟩,jL [] kk k k⟩ rfl)
   refine yrc sz szn G.length K G.length jc kk k N ⟨false,0,0,0,0,0,0,0,false⟩ false false ⟨[],0,0,0,true,true,0,true⟩ (an _ _ _ _ _ _ _ _ _) ⟨fun h=>(by simp at h),fun _=>?_⟩
   (repeat' first|(with_reducible first|exact rfl|assumption|apply And.intro)|exact hfin)
end
section
variable{z:T aa}{zn:Nat}{N:aw}{D:gM}
theorem Ek{z0:T aa}{n0:Nat}{s:bI}(h:Co z0 n0 s):aJ (aj [] []) (.tuple ⟨[.slice s.oa s.k s.k,I 0]⟩)=some (.tuple ⟨[.slice s.oa s.k s.k,I 0]⟩):=by
 have h2:aJ (aj [] []) (.slice s.oa s.k s.k)=some (.slice s.oa s.k s.k):=h.tv
 have:aT (aj [] []) [.slice s.oa s.k s.k,I 0]=some [.slice s.oa s.k s.k,I 0]:=eP h2 rfl
 simp only[aJ,this]
theorem Re(hz:au z zn)(hB:mD N D z)(h5:5<=zn)(hN:dt z N D){K:Nat}(hK:6<=K)(hKn:K<zn){G:List az}(hG:G.length<=1000){J:lq}(hJ:pP K J.a J.n J.c G.length)(hT:bM z K (G.map az.row))(he:jE N D G≠0):
 A1 z zn 22 [.agg ⟨N.cells⟩,J.jn] [] 0 0 (.tuple ⟨[ak,zv (jE N D G)]⟩) []:=by
 have hv:=jP (hN.val [])
 have hb: ∀σ,aC (aj σ []) (eV N)=some (eV N):=hN.box
 have hJr:=hJ.tv
 have hjb:=Bz hJr
 have hc:=Fc hz h5 hN
 have hja:(bT N D).2.2=0->ai prog (ah (ag f22) 0) 3 120 (ju Hw 0) [(0,N.box),(1,jB J.v),(2,E4)] 3 z zn (Al.R (Gk z zn N J (scan (cw D.runs G) G.length 0).2 (fun s=>(scan (cw D.runs G) G.length 0).2=0/\Co z zn s) (fun s=>(scan (cw D.runs G) G.length 0).2≠0/\DX z zn s)).l):=fun h=>EK hz hB hN h hK hKn hG hJ hT _ rfl
 have e1:(bT N D).2.2≠0->jE N D G=21:=fun h=>if_neg h
 have e2:(bT N D).2.2=0->jE N D G=(scan (cw D.runs G) G.length 0).2:=fun h=>if_pos h
 have no: ∀s,(!((bT N D).2.2==0))=false->((scan (cw D.runs G) G.length 0).2=0/\Co z zn s)->False:=fun s h1 h2=>he (by rw[e2 (by simpa using h1)];exact h2.1)
 have fz: ∀s,((scan (cw D.runs G) G.length 0).2≠0/\DX z zn s)->au s.z s.zn:=fun s h=>h.2.bH
 refine jG (φ:=fun s:bI=>DX z zn s) (zz:=fun s=>s.z) (zn':=fun s=>s.zn) ?_ rfl fun s hs=>hs.fE
 refine eM (cg (zg:=T.leaf)) (fn:=f22) (by kernel_rfl) (by kernel_rfl) hz ⟨by decide,by decide⟩ (fun s hs=>⟨rfl,hs.le,hs.bH⟩) (N:=100) ?_
 refine yr z zn N J ((bT N D).2.2==0) (scan (cw D.runs G) G.length 0).2 (fun s=>(scan (cw D.runs G) G.length 0).2=0/\Co z zn s) (fun s=>(scan (cw D.runs G) G.length 0).2≠0/\DX z zn s) _ ?_
 (repeat' first|(with_reducible first|exact rfl|assumption|apply And.intro|exact hb _|exact hjb _|exact fz _ ‹_›)|exact hja (by simpa using (by with_reducible assumption:(!((bT N D).2.2==0))=false))|exact(no _ (by with_reducible assumption) (by with_reducible assumption)).elim|intro hq)
 ·rw[e1 (by simpa using hq)]
  exact q2 (⟨none,0,z,zn⟩:bI) ⟨hz,Nat.le_refl _,fun _ _=>rfl⟩ rfl rfl rfl rfl rfl
 ·rename_i h1 x
  rw[e2 (by simpa using h1)]
  exact q2 x hq.2 rfl rfl rfl rfl rfl
theorem ET{G:List az}(he:jE N D G=0):(bT N D).2.2=0/\(scan (cw D.runs G) G.length 0).2=0:=by
 unfold jE at he
 split at he
 ·exact⟨by assumption,he⟩
 ·cases he
theorem UF(hz:au z zn)(hB:mD N D z)(h5:5<=zn)(hN:dt z N D){K:Nat}(hK:6<=K)(hKn:K<zn){G:List az}(hG:G.length<=1000){J:lq}(hJ:pP K J.a J.n J.c G.length)(hT:bM z K (G.map az.row))(he:jE N D G=0):
 bq prog z zn 22 [.agg ⟨N.cells⟩,J.jn] [] 0 0 (fun s=>Co z zn s) (fun s=> .tuple ⟨[s.v,I 0]⟩) (fun _=>[]) (fun s=>s.z) (fun s=>s.zn):=by
 obtain⟨hr0,hs0⟩:=ET he
 have hv:=jP (hN.val [])
 have hb: ∀σ,aC (aj σ []) (eV N)=some (eV N):=hN.box
 have hJr:=hJ.tv
 have hjb:=Bz hJr
 have hc:=Fc hz h5 hN
 have hja:=EK hz hB hN hr0 hK hKn hG hJ hT _ rfl
 rw[hs0] at hja
 rw[show((bT N D).2.2==0)=true by simpa using hr0] at hc
 have fz: ∀s,((0:Int)=0/\Co z zn s)->au s.z s.zn:=fun s h=>h.2.o.bH
 have rn: ∀s,((0:Int)=0/\Co z zn s)->aJ (aj [] []) (.tuple ⟨[.slice s.oa s.k s.k,I 0]⟩)=some (.tuple ⟨[.slice s.oa s.k s.k,I 0]⟩):=fun s h=>Ek h.2
 have no: ∀s,((0:Int)≠0/\DX z zn s)->False:=fun s h=>h.1 rfl
 refine eM (cg (zg:=T.leaf)) (fn:=f22) (by kernel_rfl) (by kernel_rfl) hz ⟨by decide,by decide⟩ (fun s hs=>⟨rfl,hs.o.le,hs.o.bH⟩) (N:=100) ?_
 refine yr z zn N J true 0 (fun s=>(0:Int)=0/\Co z zn s) (fun s=>(0:Int)≠0/\DX z zn s) _ ?_
 (repeat' first|(with_reducible first|exact rfl|assumption|apply And.intro|exact hb _|exact hjb _|exact fz _ ‹_›|exact rn _ ‹_›)|exact hja|exact(no _ (by with_reducible assumption)).elim|intro hq)
 ·cases hq
 ·rename_i x
  exact q2 x hq.2 rfl rfl rfl rfl rfl
end
end Go.Proofs.Nw
namespace Go.Proofs.Nw
open Go Go.AV Tryz
set_option maxRecDepth 1000000
noncomputable section
abbrev VG(kj:aR)(i:Nat)(nx:az):Prop:=aq prog kj 4 (0+(i+1)*9+8)=some (rC nx)
abbrev KJ(x:az)(va vd:Int)(nx:az):List Value:=[Ha x,ZV x.run,ZV x.ez,ZV x.off,ZV x.aB,ZV x.fz1,ZV va,ZV vd,rC nx]
abbrev Hx(N:aw)(K n cp:Nat):List (Nat × aa):=[(0,kv N),(1,k9 K n cp),ta]
noncomputable abbrev Sl:Code:=ah (ag Tryz.f8) 0
theorem yka(z:T aa)(zn i K n cp:Nat)(N:aw)(y va vd:Int)(x nx:az)(kj:aR)(Q:QL)(hyp:Br (decide (y>=0)) (y=(↑i:Int)/\i<n/\dC K/\dJ z K kj/\Ac kj i x/\WP1 (3155932800 - x.arr) va/\WP1 (3155932800 - x.dep) vd/\Value.bool x.aW=F0/\WQ1 (y+1)/\Br (decide (y+1<(↑n:Int))) (WQ1 (y+1)/\y+1=(↑(i+1):Int)/\i+1<n/\dC K/\dJ z K kj/\VG kj i nx/\Value.bool x.aW=F0/\WQ1 (y - 1)/\E3 131 (Rf (cF z [(zn,5,BR (KJ x va vd nx) 9 9 62)])/\zn.le (zn+1)/\au z zn/\zn<=zn/\zn<zn+1/\Rs (BR (KJ x va vd nx) 9 9 62)/\R3 bh dr fo (aJ (aj ib [(zn,5,BR (KJ x va vd nx) 9 9 62)]) (v8 zn)=U3/\Rs (ZV (y - 1))/\K2 (aj ib [(zn,5,BR (KJ x va vd nx) 9 9 62)]) (kv N) (k9 K n cp) (oI/\Q aN [g8,jH,jb,(8,v8 zn),(9,ZV (y - 1))] (Hx N K n cp) 3 (cF z [(zn,5,BR (KJ x va vd nx) 9 9 62)]) (zn+1))))) (Value.bool x.aW=F0/\WQ1 (y - 1)/\E3 131 (Rf (cF z [(zn,5,BR (yi x va vd) 9 9 62)])/\zn.le (zn+1)/\au z zn/\zn<=zn/\zn<zn+1/\Rs (BR (yi x va vd) 9 9 62)/\R3 bh dr fo (aJ (aj ib [(zn,5,BR (yi x va vd) 9 9 62)]) (v8 zn)=U3/\Rs (ZV (y - 1))/\K2 (aj ib [(zn,5,BR (yi x va vd) 9 9 62)]) (kv N) (k9 K n cp) (oI/\Q aN [g8,jH,jb,(8,v8 zn),(9,ZV (y - 1))] (Hx N K n cp) 3 (cF z [(zn,5,BR (yi x va vd) 9 9 62)]) (zn+1)))))) (E6 131 z zn (R2 fo Y5 (oI/\Q YO [jb,(8,Y5)] [ta] 3 z zn)))):RdT prog jo fC Sl 131 (jf ak y) z [(0,N.box),Fu K n cp,DO] 3 zn 3 Q:=K1t hyp ((tA 2 (tO (Yj i) (tO (Ab K kj x) (tA 6 (tO (sx va) (tA 1 (tO (sx vd) (tA 2 (tO lj (tA 1 (tO (KM y) (tA 1 ((tA 5 (tO (KM y) (tA 1 (tO (An.idx (i+1)) (tA 2 (tO (An.ld K kj (rC nx)) (tA 2 (tO lj (tA 14 (tO (An.val (ZV (y - 1))) (tE ib [(zn,5,BR (KJ x va vd nx) 9 9 62)] [g8,jH,jb,(8,v8 zn),(9,ZV (y - 1))] (Hx N K n cp) 3 (cF z [(zn,5,BR (KJ x va vd nx) 9 9 62)]) (zn+1)))))))))))).fork (tA 9 (tO lj (tA 14 (tO (An.val (ZV (y - 1))) (tE ib [(zn,5,BR (yi x va vd) 9 9 62)] [g8,jH,jb,(8,v8 zn),(9,ZV (y - 1))] (Hx N K n cp) 3 (cF z [(zn,5,BR (yi x va vd) 9 9 62)]) (zn+1))))))))))))))))))).fork (tA 1 (tE [j9] [] [jb,(8,Y5)] [ta] 3 z zn)))
abbrev KI(x:az)(v1 v2 va vd:Int)(nx:az):List Value:=[Ha x,ZV x.run,ZV v1,ZV v2,ZV x.aB,ZV x.fz1,ZV va,ZV vd,rC nx]
abbrev OT(N:aw)(K n cp:Nat):List (Nat × aa):=[(0,z9 N),(1,k9 K n cp),ta]
theorem ykb(z:T aa)(zn i K n cp q m c:Nat)(N:aw)(y va vd v1 v2:Int)(x nx:az)(kj kr:aR)(Q:QL)(hyp:Br (decide (y>=0)) (y=(↑i:Int)/\i<n/\dC K/\dJ z K kj/\Ac kj i x/\WP1 (3155932800 - x.arr) va/\WP1 (3155932800 - x.dep) vd/\Value.bool x.aW=T1/\x.run=(↑q:Int)/\q<N.U.nu/\Cl/\Ck z kr/\Lp kr q m c/\WQ1 ((↑m:Int) - 1)/\WP1 ((↑m:Int) - 1 - x.off) v1/\WQ1 ((↑m:Int) - 1)/\WP1 ((↑m:Int) - 1 - x.ez) v2/\WQ1 (y+1)/\Br (decide (y+1<(↑n:Int))) (WQ1 (y+1)/\y+1=(↑(i+1):Int)/\i+1<n/\dC K/\dJ z K kj/\VG kj i nx/\Value.bool x.aW=T1/\WQ1 (y - 1)/\E3 131 (Rf (cF z [(zn,5,BR (KI x v1 v2 va vd nx) 9 9 62)])/\zn.le (zn+1)/\au z zn/\zn<=zn/\zn<zn+1/\Rs (BR (KI x v1 v2 va vd nx) 9 9 62)/\R3 bh dr fo (aJ (aj ib [(zn,5,BR (KI x v1 v2 va vd nx) 9 9 62)]) (v8 zn)=U3/\Rs (ZV (y - 1))/\K2 (aj ib [(zn,5,BR (KI x v1 v2 va vd nx) 9 9 62)]) (z9 N) (k9 K n cp) (oI/\Q aN [g8,jH,jb,(8,v8 zn),(9,ZV (y - 1))] (OT N K n cp) 3 (cF z [(zn,5,BR (KI x v1 v2 va vd nx) 9 9 62)]) (zn+1))))) (Value.bool x.aW=T1/\WQ1 (y - 1)/\E3 131 (Rf (cF z [(zn,5,BR (Fw x v1 v2 va vd) 9 9 62)])/\zn.le (zn+1)/\au z zn/\zn<=zn/\zn<zn+1/\Rs (BR (Fw x v1 v2 va vd) 9 9 62)/\R3 bh dr fo (aJ (aj ib [(zn,5,BR (Fw x v1 v2 va vd) 9 9 62)]) (v8 zn)=U3/\Rs (ZV (y - 1))/\K2 (aj ib [(zn,5,BR (Fw x v1 v2 va vd) 9 9 62)]) (z9 N) (k9 K n cp) (oI/\Q aN [g8,jH,jb,(8,v8 zn),(9,ZV (y - 1))] (OT N K n cp) 3 (cF z [(zn,5,BR (Fw x v1 v2 va vd) 9 9 62)]) (zn+1)))))) (E6 131 z zn (R2 fo Y5 (oI/\Q YO [jb,(8,Y5)] [ta] 3 z zn)))):RdT prog jo fC Sl 131 (jf ak y) z [(0,N.U.box),Fu K n cp,DO] 3 zn 3 Q:=K1t hyp ((tA 2 (tO (Yj i) (tO (Ab K kj x) (tA 6 (tO (sx va) (tA 1 (tO (sx vd) (tA 2 (tO mC (tA 3 (tO (Yj q) (tO (Lo kr q m c) (tO (An.val (ZV ((↑m:Int) - 1))) (tA 1 (tO (sx v1) (tO (An.val (ZV ((↑m:Int) - 1))) (tA 1 (tO (sx v2) (tA 2 (tO (KM y) (tA 1 ((tA 5 (tO (KM y) (tA 1 (tO (An.idx (i+1)) (tA 2 (tO (An.ld K kj (rC nx)) (tA 2 (tO mC (tA 13 (tO (An.val (ZV (y - 1))) (tE ib [(zn,5,BR (KI x v1 v2 va vd nx) 9 9 62)] [g8,jH,jb,(8,v8 zn),(9,ZV (y - 1))] (OT N K n cp) 3 (cF z [(zn,5,BR (KI x v1 v2 va vd nx) 9 9 62)]) (zn+1)))))))))))).fork (tA 9 (tO mC (tA 13 (tO (An.val (ZV (y - 1))) (tE ib [(zn,5,BR (Fw x v1 v2 va vd) 9 9 62)] [g8,jH,jb,(8,v8 zn),(9,ZV (y - 1))] (OT N K n cp) 3 (cF z [(zn,5,BR (Fw x v1 v2 va vd) 9 9 62)]) (zn+1)))))))))))))))))))))))))))).fork (tA 1 (tE [j9] [] [jb,(8,Y5)] [ta] 3 z zn)))
abbrev VF(x p:az)(v2:Int)(nx:az):List Value:=[Ha x,ZV x.run,ZV x.ez,ZV x.off,ZV x.aB,ZV x.fz1,ZV p.arr,ZV v2,rC nx]
abbrev RE(zn:Nat)(kb:aR)(x p:az)(v2:Int)(nx:az)(r:Nat):List (Nat × Nat × aa):=[(zn,5,BR (kb.cells++VF x p v2 nx) ((r+1)*9) 9 62)]
abbrev RD(zn:Nat)(kb:aR)(x:az)(va vd:Int)(nx:az)(r:Nat):List (Nat × Nat × aa):=[(zn,5,BR (kb.cells++KJ x va vd nx) ((r+1)*9) 9 62)]
abbrev Lb(x p:az)(v2:Int):List Value:=[Ha x,ZV x.run,ZV x.ez,ZV x.off,ZV x.aB,ZV x.fz1,ZV p.arr,ZV v2,F0]
theorem ykc(z:T aa)(zn i K n cp k r:Nat)(N:aw)(y va vd v1 v2:Int)(x nx p:az)(kj kb:aR)(Q:QL)(hyp:Br (decide (y>=0)) (y=(↑i:Int)/\i<n/\dC K/\dJ z K kj/\Ac kj i x/\WP1 (3155932800 - x.arr) va/\WP1 (3155932800 - x.dep) vd/\Value.bool x.aW=F0/\WQ1 (y+1)/\Br (decide (y+1<(↑n:Int))) (WQ1 (y+1)/\y+1=(↑(i+1):Int)/\i+1<n/\dC K/\dJ z K kj/\VG kj i nx/\Value.bool x.aW=F0/\Value.bool (decide ((↑r:Int)>0))=T1/\WQ1 ((↑r:Int) - 1)/\(↑r:Int) - 1=(↑(r - 1):Int)/\r - 1<r/\dC k/\dJ z k kb/\ZU kb r p/\Br p.aW (WQ1 ((↑r:Int) - 1)/\(↑r:Int) - 1=(↑(r - 1):Int)/\r - 1<r/\dC k/\dJ z k kb/\U6 kb r p/\WQ1 ((↑r:Int) - 1)/\(↑r:Int) - 1=(↑(r - 1):Int)/\r - 1<r/\dC k/\dJ z k kb/\U6 kb r p/\WP1 (vd - va) v1/\WP1 (p.arr+v1) v2/\dC k/\dJ z k kb/\kb.exact=false/\kb.own=true/\kb.bH=0/\kb.jV=9/\kb.elem=62/\Rs (VF x p v2 nx)/\Rf r/\kb.cells.length=r*9/\kb.cap=r*9/\r+1<=1048576/\WQ1 (y - 1)/\E3 131 (Rf (cF (z.del k) (RE zn kb x p v2 nx r))/\zn.le (zn+1)/\au (z.del k) zn/\zn<=zn/\zn<zn+1/\KO (aj ib (RE zn kb x p v2 nx r)) (BR (kb.cells++VF x p v2 nx) ((r+1)*9) 9 62)/\R3 bh dr fo (aJ (aj ib (RE zn kb x p v2 nx r)) (pN zn r)=Ry r/\Rs (ZV (y - 1))/\K2 (aj ib (RE zn kb x p v2 nx r)) (kv N) (k9 K n cp) (oI/\Q aN [g8,jH,jb,(8,pN zn r),(9,ZV (y - 1))] (Hx N K n cp) 3 (cF (z.del k) (RE zn kb x p v2 nx r)) (zn+1))))) (dC k/\dJ z k kb/\kb.exact=false/\kb.own=true/\kb.bH=0/\kb.jV=9/\kb.elem=62/\Rs (KJ x va vd nx)/\Rf r/\kb.cells.length=r*9/\kb.cap=r*9/\r+1<=1048576/\WQ1 (y - 1)/\E3 131 (Rf (cF (z.del k) (RD zn kb x va vd nx r))/\zn.le (zn+1)/\au (z.del k) zn/\zn<=zn/\zn<zn+1/\KO (aj ib (RD zn kb x va vd nx r)) (BR (kb.cells++KJ x va vd nx) ((r+1)*9) 9 62)/\R3 bh dr fo (aJ (aj ib (RD zn kb x va vd nx r)) (pN zn r)=Ry r/\Rs (ZV (y - 1))/\K2 (aj ib (RD zn kb x va vd nx r)) (kv N) (k9 K n cp) (oI/\Q aN [g8,jH,jb,(8,pN zn r),(9,ZV (y - 1))] (Hx N K n cp) 3 (cF (z.del k) (RD zn kb x va vd nx r)) (zn+1)))))) (Value.bool x.aW=F0/\Value.bool (decide ((↑r:Int)>0))=T1/\WQ1 ((↑r:Int) - 1)/\(↑r:Int) - 1=(↑(r - 1):Int)/\r - 1<r/\dC k/\dJ z k kb/\ZU kb r p/\Br p.aW (WQ1 ((↑r:Int) - 1)/\(↑r:Int) - 1=(↑(r - 1):Int)/\r - 1<r/\dC k/\dJ z k kb/\U6 kb r p/\WQ1 ((↑r:Int) - 1)/\(↑r:Int) - 1=(↑(r - 1):Int)/\r - 1<r/\dC k/\dJ z k kb/\U6 kb r p/\WP1 (vd - va) v1/\WP1 (p.arr+v1) v2/\dC k/\dJ z k kb/\kb.exact=false/\kb.own=true/\kb.bH=0/\kb.jV=9/\kb.elem=62/\Rs (Lb x p v2)/\Rf r/\kb.cells.length=r*9/\kb.cap=r*9/\r+1<=1048576/\WQ1 (y - 1)/\E3 131 (Rf (cF (z.del k) [(zn,5,BR (kb.cells++Lb x p v2) ((r+1)*9) 9
 62)])/\zn.le (zn+1)/\au (z.del k) zn/\zn<=zn/\zn<zn+1/\KO (aj ib [(zn,5,BR (kb.cells++Lb x p v2) ((r+1)*9) 9 62)]) (BR (kb.cells++Lb x p v2) ((r+1)*9) 9 62)/\R3 bh dr fo (aJ (aj ib [(zn,5,BR (kb.cells++Lb x p v2) ((r+1)*9) 9 62)]) (pN zn r)=Ry r/\Rs (ZV (y - 1))/\K2 (aj ib [(zn,5,BR (kb.cells++Lb x p v2) ((r+1)*9) 9 62)]) (kv N) (k9 K n cp) (oI/\Q aN [g8,jH,jb,(8,pN zn r),(9,ZV (y - 1))] (Hx N K n cp) 3 (cF (z.del k) [(zn,5,BR (kb.cells++Lb x p v2) ((r+1)*9) 9 62)]) (zn+1))))) (dC k/\dJ z k kb/\kb.exact=false/\kb.own=true/\kb.bH=0/\kb.jV=9/\kb.elem=62/\Rs (yi x va vd)/\Rf r/\kb.cells.length=r*9/\kb.cap=r*9/\r+1<=1048576/\WQ1 (y - 1)/\E3 131 (Rf (cF (z.del k) [(zn,5,BR (kb.cells++yi x va vd) ((r+1)*9) 9 62)])/\zn.le (zn+1)/\au (z.del k) zn/\zn<=zn/\zn<zn+1/\KO (aj ib [(zn,5,BR (kb.cells++yi x va vd) ((r+1)*9) 9 62)]) (BR (kb.cells++yi x va vd) ((r+1)*9) 9 62)/\R3 bh dr fo (aJ (aj ib [(zn,5,BR (kb.cells++yi x va vd) ((r+1)*9) 9 62)]) (pN zn r)=Ry r/\Rs (ZV (y - 1))/\K2 (aj ib [(zn,5,BR (kb.cells++yi x va vd) ((r+1)*9) 9 62)]) (kv N) (k9 K n cp) (oI/\Q aN [g8,jH,jb,(8,pN zn r),(9,ZV (y - 1))] (Hx N K n cp) 3 (cF (z.del k) [(zn,5,BR (kb.cells++yi x va vd) ((r+1)*9) 9 62)]) (zn+1))))))) (E6 131 z zn (R2 fo (dw k r) (oI/\Q YO [jb,(8,dw k r)] [ta] 3 z zn)))):RdT prog jo fC Sl 131 (jf (tb k r r) y) z [(0,N.box),Fu K n cp,DO] 3 zn 3 Q:=K1t hyp ((tA 2 (tO (Yj i) (tO (Ab K kj x) (tA 6 (tO (sx va) (tA 1 (tO (sx vd) (tA 2 (tO lj (tA 1 (tO (KM y) (tA 1 ((tA 5 (tO (KM y) (tA 1 (tO (An.idx (i+1)) (tA 2 (tO (An.ld K kj (rC nx)) (tA 2 (tO lj (tA 2 (tO mC (tA 4 (tO (An.val (ZV ((↑r:Int) - 1))) (tA 1 (tO (yp r) (tA 2 (tO (An.ld k kb (Ha p)) (tA 1 ((tO (An.val (ZV ((↑r:Int) - 1))) (tO (yp r) (tO (An.ld k kb (zv p.arr)) (tO (An.val (ZV ((↑r:Int) - 1))) (tO (yp r) (tO (An.ld k kb (zv p.arr)) (tA 2 (tO (sx v1) (tO (sx v2) (tA 3 (tX (iD.Dn k kb 1 (VF x p v2 nx)) (tO (An.val (ZV (y - 1))) (tE ib (RE zn kb x p v2 nx r) [g8,jH,jb,(8,pN zn r),(9,ZV (y - 1))] (Hx N K n cp) 3 (cF (z.del k) (RE zn kb x p v2 nx r)) (zn+1)))))))))))))).fork (tA 1 (tX (iD.Dn k kb 1 (KJ x va vd nx)) (tO (An.val (ZV (y - 1))) (tE ib (RD zn kb x va vd nx r) [g8,jH,jb,(8,pN zn r),(9,ZV (y - 1))] (Hx N K n cp) 3 (cF (z.del k) (RD zn kb x va vd nx r)) (zn+1))))))))))))))))))))))).fork (tA 9 (tO lj (tA 2 (tO mC (tA 4 (tO (An.val (ZV ((↑r:Int) - 1))) (tA 1 (tO (yp r) (tA 2 (tO (An.ld k kb (Ha p)) (tA 1 ((tO (An.val (ZV ((↑r:Int) - 1))) (tO (yp r) (tO (An.ld k kb (zv p.arr)) (tO (An.val (ZV ((↑r:Int) - 1))) (tO (yp r) (tO (An.ld k kb (zv p.arr)) (tA 2 (tO (sx v1) (tO (sx v2) (tA 3 (tX (iD.Dn k kb 1 (Lb x p v2)) (tO (An.val (ZV (y - 1))) (tE ib [(zn,5,BR (kb.cells++Lb x p v2) ((r+1)*9) 9 62)] [g8,jH,jb,(8,pN zn r),(9,ZV (y - 1))] (Hx N K n cp) 3 (cF (z.del k) [(zn,5,BR (kb.cells++Lb x p v2) ((r+1)*9) 9 62)]) (zn+1)))))))))))))).fork (tA 1 (tX (iD.Dn k kb 1 (yi x
 va vd)) (tO (An.val (ZV (y - 1))) (tE ib [(zn,5,BR (kb.cells++yi x va vd) ((r+1)*9) 9 62)] [g8,jH,jb,(8,pN zn r),(9,ZV (y - 1))] (Hx N K n cp) 3 (cF (z.del k) [(zn,5,BR (kb.cells++yi x va vd) ((r+1)*9) 9 62)]) (zn+1)))))))))))))))))))))))))))))).fork (tA 1 (tE [j9] [] [jb,(8,dw k r)] [ta] 3 z zn)))
abbrev RC(kb:aR)(x:az)(v1 v2 va vd:Int)(nx:az)(r:Nat):Nat × aa:=(5,BR (kb.cells++KI x v1 v2 va vd nx) ((r+1)*9) 9 62)
abbrev RB(zn:Nat)(kb:aR)(x:az)(v1 v2 va vd:Int)(r:Nat):List (Nat × Nat × aa):=[(zn,5,BR (kb.cells++Fw x v1 v2 va vd) ((r+1)*9) 9 62)]
theorem ykd(z:T aa)(zn i K n cp q m c k r:Nat)(N:aw)(y va vd v1 v2:Int)(x nx p:az)(kj kr kb:aR)(Q:QL)(hyp:Br (decide (y>=0)) (y=(↑i:Int)/\i<n/\dC K/\dJ z K kj/\Ac kj i x/\WP1 (3155932800 - x.arr) va/\WP1 (3155932800 - x.dep) vd/\Value.bool x.aW=T1/\x.run=(↑q:Int)/\q<N.U.nu/\Cl/\Ck z kr/\Lp kr q m c/\WQ1 ((↑m:Int) - 1)/\WP1 ((↑m:Int) - 1 - x.off) v1/\WQ1 ((↑m:Int) - 1)/\WP1 ((↑m:Int) - 1 - x.ez) v2/\WQ1 (y+1)/\Br (decide (y+1<(↑n:Int))) (WQ1 (y+1)/\y+1=(↑(i+1):Int)/\i+1<n/\dC K/\dJ z K kj/\VG kj i nx/\Value.bool x.aW=T1/\dC k/\dJ z k kb/\kb.exact=false/\kb.own=true/\kb.bH=0/\kb.jV=9/\kb.elem=62/\Rs (KI x v1 v2 va vd nx)/\Rf r/\kb.cells.length=r*9/\kb.cap=r*9/\r+1<=1048576/\WQ1 (y - 1)/\E3 131 (Rf (cF (z.del k) [(zn,RC kb x v1 v2 va vd nx r)])/\zn.le (zn+1)/\au (z.del k) zn/\zn<=zn/\zn<zn+1/\KO (aj ib [(zn,RC kb x v1 v2 va vd nx r)]) (BR (kb.cells++KI x v1 v2 va vd nx) ((r+1)*9) 9 62)/\R3 bh dr fo (aJ (aj ib [(zn,RC kb x v1 v2 va vd nx r)]) (pN zn r)=Ry r/\Rs (ZV (y - 1))/\K2 (aj ib [(zn,RC kb x v1 v2 va vd nx r)]) (z9 N) (k9 K n cp) (oI/\Q aN [g8,jH,jb,(8,pN zn r),(9,ZV (y - 1))] (OT N K n cp) 3 (cF (z.del k) [(zn,RC kb x v1 v2 va vd nx r)]) (zn+1))))) (Value.bool x.aW=T1/\dC k/\dJ z k kb/\kb.exact=false/\kb.own=true/\kb.bH=0/\kb.jV=9/\kb.elem=62/\Rs (Fw x v1 v2 va vd)/\Rf r/\kb.cells.length=r*9/\kb.cap=r*9/\r+1<=1048576/\WQ1 (y - 1)/\E3 131 (Rf (cF (z.del k) (RB zn kb x v1 v2 va vd r))/\zn.le (zn+1)/\au (z.del k) zn/\zn<=zn/\zn<zn+1/\KO (aj ib (RB zn kb x v1 v2 va vd r)) (BR (kb.cells++Fw x v1 v2 va vd) ((r+1)*9) 9 62)/\R3 bh dr fo (aJ (aj ib (RB zn kb x v1 v2 va vd r)) (pN zn r)=Ry r/\Rs (ZV (y - 1))/\K2 (aj ib (RB zn kb x v1 v2 va vd r)) (z9 N) (k9 K n cp) (oI/\Q aN [g8,jH,jb,(8,pN zn r),(9,ZV (y - 1))] (OT N K n cp) 3 (cF (z.del k) (RB zn kb x v1 v2 va vd r)) (zn+1)))))) (E6 131 z zn (R2 fo (dw k r) (oI/\Q YO [jb,(8,dw k r)] [ta] 3 z zn)))):RdT prog jo fC Sl 131 (jf (tb k r r) y) z [(0,N.U.box),Fu K n cp,DO] 3 zn 3 Q:=K1t hyp ((tA 2 (tO (Yj i) (tO (Ab K kj x) (tA 6 (tO (sx va) (tA 1 (tO (sx vd) (tA 2 (tO mC (tA 3 (tO (Yj q) (tO (Lo kr q m c) (tO (An.val (ZV ((↑m:Int) - 1))) (tA 1 (tO (sx v1) (tO (An.val (ZV ((↑m:Int) - 1))) (tA 1 (tO (sx v2) (tA 2 (tO (KM y) (tA 1 ((tA 5 (tO (KM y) (tA 1 (tO (An.idx (i+1)) (tA 2 (tO (An.ld K kj (rC nx)) (tA 2 (tO mC (tA 12 (tX (iD.Dn k kb 1 (KI x v1 v2 va vd nx)) (tO (An.val (ZV (y - 1))) (tE ib [(zn,RC kb x v1 v2 va vd nx r)] [g8,jH,jb,(8,pN zn r),(9,ZV (y - 1))] (OT N K n cp) 3 (cF (z.del k) [(zn,RC kb x v1 v2 va vd nx r)]) (zn+1))))))))))))).fork (tA 9 (tO mC (tA 12 (tX (iD.Dn k kb 1 (Fw x v1 v2 va vd)) (tO (An.val (ZV (y - 1))) (tE ib (RB zn kb x v1 v2
 va vd r) [g8,jH,jb,(8,pN zn r),(9,ZV (y - 1))] (OT N K n cp) 3 (cF (z.del k) (RB zn kb x v1 v2 va vd r)) (zn+1))))))))))))))))))))))))))))).fork (tA 1 (tE [j9] [] [jb,(8,dw k r)] [ta] 3 z zn)))
theorem ykz(z:T aa)(zn:Nat)(N:aw)(J:lq)(v:Value)(y:Int)(Q:QL)(hyp:Value.bool (decide (y>=0))=F0/\E6 131 z zn (Rs fo/\aJ (aj [j9] []) (Aa J)=some (Aa J)/\oI/\Q YO [jb,(8,Aa J)] [ta] 3 z zn)):RdT prog jo fC Sl 131 (jf (Aa J) y) z [(0,N.box),(1,jB v),DO] 3 zn 3 Q:=K1t hyp (tO lj (tA 1 (tE [j9] [] [jb,(8,Aa J)] [ta] 3 z zn)))
abbrev Fv(N:aw)(J:lq):List Value:=[AG (ub N),AG [Aa J]]
abbrev Sp(N:aw)(J:lq):Prop:=aT wa (Fv N J)=some (Fv N J)
theorem yke(z:T aa)(zn:Nat)(N:aw)(J:lq)(e:Int)(Q:QF)(hyp:aP prog z zn 22 (Fv N J) [] 0 0 Yy (fun(x:Unit)=>TP [ak,zv e]) bQ/\Sp N J/\ ∀(x:Unit),True->Rs (TP [Y5,ZV e])/\Value.bool (e !=0)=T1/\E6 131 z zn (Rs (La e)/\Q (La e) [] 0 z zn)):FnT prog jo fC Tryz.f8 (OV N J) z [] 0 zn Q:=K1t hyp (tA 2 (Tr.cm (Cm.mk (Fv N J) [] 0 0 [] [] 3) Unit Yy (fun(x:Unit)=>TP [ak,zv e]) bQ (fun(x:Unit)=>TP [Y5,ZV e]) bQ (eG z) (eF zn) fun(x:Unit)=>tO mC (tA 2 (tR [] [] (La e) [] 0 z zn))))
abbrev YJ7:bI->Value:=fun(s:bI)=>TP [s.v,YM]
abbrev N9:bI->List (Nat × aa):=fun(x:bI)=>[]
noncomputable abbrev YJ9(s:bI):aA:=aA.mk YO [(4,ip 2),(8,s.v)] [DO] 3 (gf s) s.zn
noncomputable abbrev YKA:bI->aA:=fun(s:bI)=>YJ9 s
noncomputable abbrev YKB:bI->Tr:=fun(x:bI)=>tA 1 (tR [] [] (Ft x) [] 0 (gf x) x.zn)
theorem yk(z:T aa)(zn:Nat)(N:aw)(J:lq)(ψ:bI->Prop)(φ:bI->bI->Prop)(Q:QF)(hyp:bq prog z zn 22 (Fv N J) [] 0 0 ψ YJ7 N9 gf He/\Sp N J/\ ∀(x:bI),ψ x->aJ wa (TP [pR x,YM])=some (TP [pR x,YM])/\WQ1 ((↑J.n:Int) - 1)/\zU/\ai prog Sl 3 131 (jf ak ((↑J.n:Int) - 1)) (RG N J) 3 (gf x) x.zn (Al.cons bI (φ x) YKA SA Al.nil).R/\E6 131 (gf x) x.zn (R5 bh dr fo Y5 (ZV ((↑J.n:Int) - 1)) (K2 rf (kv N) (Hc J) (oI/\ ∀(x_1:bI),φ x x_1->E6 131 (gf x_1) x_1.zn (aJ (aj [] []) (Ft x_1)=some (Ft x_1)/\Q (Ft x_1) [] 0 (gf x_1) x_1.zn))))):FnT prog jo fC Tryz.f8 (OV N J) z [] 0 zn Q:=K1t hyp (tA 2 (Tr.cm (Cm.mk (Fv N J) [] 0 0 [] [] 3) bI ψ YJ7 N9 (fun(x:bI)=>TP [pR x,YM]) N9 gf He fun(x:bI)=>tA 3 (tO (An.val (ZV ((↑J.n:Int) - 1))) (Tr.lp 3 131 ib [] (jf ak ((↑J.n:Int) - 1)) (RG N J) 3 (gf x) x.zn (Al.cons bI (φ x) YKA YKB Al.nil)))))
end
end Go.Proofs.Nw
namespace Go.Proofs.Nw
open Go Go.AV Tryz
set_option maxHeartbeats 1000000
set_option maxRecDepth 100000
structure KR(z:T aa)(zn i K n:Nat)(N:aw)(st:Bool)(y:Int)(x:az)(kj:aR):Prop where
 hz:au z zn
 h0:0<=y
 hy:y=(i:Int)
 hi:i<n
 hn:n<1000000
 k1:z.get K=some (.ay kj)
 k2:aq prog kj 62 (0+i*9)=some (.agg ⟨x.row⟩)
 k3:i+1<n->aq prog kj 4 (0+(i+1)*9+8)=some (.bool st)
 k4: ¬i+1<n->st=false
 sU: ∀(σ:bb)(c:Nat)(o:aa),aC (aj σ [(zn,c,o)]) (eV N)=some (eV N)
 hK:K≠zn
section
variable{z:T aa}{zn i K n cp kk mm:Nat}{N:aw}{st:Bool}{y:Int}{x p:az}{kj:aR}{L:List az}{Q:af->Live->bN->Nat->T aa->Nat->Prop}
theorem P5(H:KR z zn i K n N st y x kj)(hr:x.aW=false)
 (nx: ∀M:az,nm mm st x=M->Q .normal (jf (tb zn 1 1) (y - 1)) [(0,N.box),(1,jB (tb K n cp)),(2,jB ak)] 3 (z.set zn (mP M.row 1)) (zn+1)):
 ∃t,dp prog (fun _ _=>none) (T.leaf:T aa) 100 (ah (ag Tryz.f8) 0) (ko 131 (jf ak y)) (dI z [(0,N.box),(1,jB (tb K n cp)),(2,jB ak)] 3) zn (nG 3 131 Q) t:=by
 obtain⟨hz,h0,hy,hi,hn,k1,k2,k3,k4,sU,hK⟩:=H
 have hc:decide (y>=0)=true:=by simpa using h0
 have e0:Value.bool x.aW=Value.bool false:=by rw[hr]
 have l1:decide (y+1<(n:Int))=true->i+1<n:=fun h=>by simp at h;omega
 have l2:decide (y+1<(n:Int))=false-> ¬i+1<n:=fun h=>by simp at h;omega
 have k3':decide (y+1<(n:Int))=true->aq prog kj 4 (0+(i+1)*9+8)=some (.bool st):=fun h=>k3 (l1 h)
 have w1:Value.int .i64 (IntKind.i64.wrap (y+1))=Value.int .i64 (y+1):=cX (by omega) (by omega)
 have w2:Value.int .i64 (IntKind.i64.wrap (y - 1))=Value.int .i64 (y - 1):=cX (by omega) (by omega)
 have y1:y+1=((i+1:Nat):Int):=by omega
 have hm:=rV (mm:=mm) (st:=st) hr
 refine yka z zn i K n cp N y (wr (lM - x.arr)) (wr (lM - x.dep)) x ⟨false,0,0,0,0,0,0,0,st⟩ kj Q ⟨fun _=>?_,nC1 hc⟩
 (repeat' first|(with_reducible first|exact rfl|assumption|apply And.intro|exact k3' ‹_›|exact l1 ‹_›|exact sU _ _ _|exact kA hK|exact fO|exact Mo _|exact Nat.le_refl _|exact Nat.lt_succ_self _)|intro hq)
 ·exact nx _ hm
 ·have:=k4 (l2 (by assumption))
  subst this
  exact nx _ hm
theorem P4(H:KR z zn i K n N st y x kj)(hr:x.aW=true)
 (a1:N.sa=some ⟨1022,0,none⟩) (a2:N.ra=some ⟨1278,0,none⟩) (a3:N.ua=some ⟨766,0,none⟩) {kr:aR} {q c0:Nat} (hq:x.run=(q:Int)) (hqn:q<N.nu) (g1:z.get 1=some (.ay kr)) (g2:aq prog kr 51 (0+q*8+7)=some (tb (6+q) mm c0)) (x3:0<=x.ez) (x4:x.ez<x.off) (x5:x.off<(mm:Int)) (hmm:mm<1000000)
 (nx: ∀M:az,nm mm st x=M->Q .normal (jf (tb zn 1 1) (y - 1)) [(0,N.box),(1,jB (tb K n cp)),(2,jB ak)] 3 (z.set zn (mP M.row 1)) (zn+1)):
 ∃t,dp prog (fun _ _=>none) (T.leaf:T aa) 100 (ah (ag Tryz.f8) 0) (ko 131 (jf ak y)) (dI z [(0,N.box),(1,jB (tb K n cp)),(2,jB ak)] 3) zn (nG 3 131 Q) t:=by
 obtain⟨hz,h0,hy,hi,hn,k1,k2,k3,k4,sU,hK⟩:=H
 have hc:decide (y>=0)=true:=by simpa using h0
 have e0:Value.bool x.aW=Value.bool true:=by rw[hr]
 have l1:decide (y+1<(n:Int))=true->i+1<n:=fun h=>by simp at h;omega
 have l2:decide (y+1<(n:Int))=false-> ¬i+1<n:=fun h=>by simp at h;omega
 have k3':decide (y+1<(n:Int))=true->aq prog kj 4 (0+(i+1)*9+8)=some (.bool st):=fun h=>k3 (l1 h)
 have w1:Value.int .i64 (IntKind.i64.wrap (y+1))=Value.int .i64 (y+1):=cX (by omega) (by omega)
 have w2:Value.int .i64 (IntKind.i64.wrap (y - 1))=Value.int .i64 (y - 1):=cX (by omega) (by omega)
 have w3:Value.int .i64 (IntKind.i64.wrap ((mm:Int) - 1))=Value.int .i64 ((mm:Int) - 1):=cX (by omega) (by omega)
 have w4:Value.int .i64 (IntKind.i64.wrap ((mm:Int) - 1 - x.off))=Value.int .i64 ((mm:Int) - 1 - x.off):=cX (by omega) (by omega)
 have w5:Value.int .i64 (IntKind.i64.wrap ((mm:Int) - 1 - x.ez))=Value.int .i64 ((mm:Int) - 1 - x.ez):=cX (by omega) (by omega)
 have y1:y+1=((i+1:Nat):Int):=by omega
 have hm:=rW (mm:=mm) (st:=st) hr
 obtain⟨M,rfl⟩:=nU a1 a2 a3
 refine ykb z zn i K n cp q mm c0 M y (wr (lM - x.arr)) (wr (lM - x.dep)) ((mm:Int) - 1 - x.off) ((mm:Int) - 1 - x.ez) x ⟨false,0,0,0,0,0,0,0,st⟩ kj kr Q ⟨fun _=>?_,nC1 hc⟩
 (repeat' first|(with_reducible first|exact rfl|assumption|apply And.intro|exact k3' ‹_›|exact l1 ‹_›|exact sU _ _ _|exact kA hK|exact fO|exact Mo _|exact Nat.le_refl _|exact Nat.lt_succ_self _)|intro hq)
 ·exact nx _ hm
 ·have:=k4 (l2 (by assumption))
  subst this
  exact nx _ hm
theorem P3(H:KR z zn i K n N st y x kj)(hr:x.aW=false)
 (v6:z.get kk=some (mP (L.map az.row).flatten L.length)) (hp:L.getLast? =some p) (hl:L.length<=1000)
 (nx: ∀M:az,mg L (nm mm st x)=M->Q .normal (jf (tb zn (L.length+1) (L.length+1)) (y - 1)) [(0,N.box),(1,jB (tb K n cp)),(2,jB ak)] 3 ((z.del kk).set zn (mP ((L.map az.row).flatten++M.row) (L.length+1))) (zn+1)):
 ∃t,dp prog (fun _ _=>none) (T.leaf:T aa) 100 (ah (ag Tryz.f8) 0) (ko 131 (jf (tb kk L.length L.length) y)) (dI z [(0,N.box),(1,jB (tb K n cp)),(2,jB ak)] 3) zn (nG 3 131 Q) t:=by
 obtain⟨hz,h0,hy,hi,hn,k1,k2,k3,k4,sU,hK⟩:=H
 have hc:decide (y>=0)=true:=by simpa using h0
 have e0:Value.bool x.aW=Value.bool false:=by rw[hr]
 have l1:decide (y+1<(n:Int))=true->i+1<n:=fun h=>by simp at h;omega
 have l2:decide (y+1<(n:Int))=false-> ¬i+1<n:=fun h=>by simp at h;omega
 have k3':decide (y+1<(n:Int))=true->aq prog kj 4 (0+(i+1)*9+8)=some (.bool st):=fun h=>k3 (l1 h)
 have w1:Value.int .i64 (IntKind.i64.wrap (y+1))=Value.int .i64 (y+1):=cX (by omega) (by omega)
 have w2:Value.int .i64 (IntKind.i64.wrap (y - 1))=Value.int .i64 (y - 1):=cX (by omega) (by omega)
 have y1:y+1=((i+1:Nat):Int):=by omega
 have hm:=rV (mm:=mm) (st:=st) hr
 have hm0:0<L.length:=by
  cases L with
  |nil=>cases hp
  |cons a l=>simp
 obtain⟨p1,p2⟩:=EP (r:=L.length - 1) (by omega) hp
 have hlv:Value.bool (decide ((L.length:Int)>0))=Value.bool true:=by rw[decide_eq_true (show(L.length:Int)>0 by omega)]
 have hr1:((L.length:Nat):Int) - 1=((L.length - 1:Nat):Int):=by omega
 have hw1:Value.int .i64 (IntKind.i64.wrap ((L.length:Int) - 1))=Value.int .i64 ((L.length:Int) - 1):=cX (by omega) (by omega)
 have hln:=vm L
 have hyes:p.aW=true->mg L (nm mm st x)=⟨x.aW,x.run,x.ez,x.off,x.aB,x.fz1,p.arr,wr (p.arr+wr (wr (lM - x.dep) - wr (lM - x.arr))),st⟩:=fun h=>by
  rw[hm];exact BJ hp hr h
 have hno:p.aW=false->mg L (nm mm st x)=⟨x.aW,x.run,x.ez,x.off,x.aB,x.fz1,wr (lM - x.arr),wr (lM - x.dep),st⟩:=fun h=>by
  rw[E1 hp h,hm]
 refine ykc z zn i K n cp kk L.length N y (wr (lM - x.arr)) (wr (lM - x.dep)) (wr (wr (lM - x.dep) - wr (lM - x.arr))) (wr (p.arr+wr (wr (lM - x.dep) - wr (lM - x.arr)))) x ⟨false,0,0,0,0,0,0,0,st⟩ p kj ⟨(L.map az.row).flatten,L.length*9,9,62,false,false,0,true⟩ Q ⟨fun _=>?_,nC1 hc⟩
 (repeat' first|(with_reducible first|exact rfl|assumption|apply And.intro|exact k3' ‹_›|exact l1 ‹_›|exact(by omega:L.length - 1<L.length)|exact sU _ _ _|exact kA hK|exact fO|exact na L ⟨x.aW,x.run,x.ez,x.off,x.aB,x.fz1,p.arr,wr (p.arr+wr (wr (lM - x.dep) - wr (lM - x.arr))),st⟩ _|exact na L ⟨x.aW,x.run,x.ez,x.off,x.aB,x.fz1,wr (lM - x.arr),wr (lM - x.dep),st⟩ _|exact na L ⟨x.aW,x.run,x.ez,x.off,x.aB,x.fz1,p.arr,wr (p.arr+wr (wr (lM - x.dep) - wr (lM - x.arr))),false⟩ _|exact na L ⟨x.aW,x.run,x.ez,x.off,x.aB,x.fz1,wr (lM - x.arr),wr (lM - x.dep),false⟩ _|exact gY hz _|exact(by omega:L.length+1<=1048576)|exact Mo _|exact Nat.le_refl _|exact Nat.lt_succ_self _)|intro hq)
 all_goals first
  |exact nx _ (hyes (by assumption))
  |exact nx _ (hno (by assumption))
  |(have hs:=k4 (l2 (by assumption));subst hs;first|exact nx _ (hyes (by assumption))|exact nx _ (hno (by assumption)))
theorem P2(H:KR z zn i K n N st y x kj)(hr:x.aW=true)
 (a1:N.sa=some ⟨1022,0,none⟩) (a2:N.ra=some ⟨1278,0,none⟩) (a3:N.ua=some ⟨766,0,none⟩) {kr:aR} {q c0:Nat} (hq:x.run=(q:Int)) (hqn:q<N.nu) (g1:z.get 1=some (.ay kr)) (g2:aq prog kr 51 (0+q*8+7)=some (tb (6+q) mm c0)) (x3:0<=x.ez) (x4:x.ez<x.off) (x5:x.off<(mm:Int)) (hmm:mm<1000000)
 (v6:z.get kk=some (mP (L.map az.row).flatten L.length)) (hl:L.length<=1000)
 (nx: ∀M:az,mg L (nm mm st x)=M->Q .normal (jf (tb zn (L.length+1) (L.length+1)) (y - 1)) [(0,N.box),(1,jB (tb K n cp)),(2,jB ak)] 3 ((z.del kk).set zn (mP ((L.map az.row).flatten++M.row) (L.length+1))) (zn+1)):
 ∃t,dp prog (fun _ _=>none) (T.leaf:T aa) 100 (ah (ag Tryz.f8) 0) (ko 131 (jf (tb kk L.length L.length) y)) (dI z [(0,N.box),(1,jB (tb K n cp)),(2,jB ak)] 3) zn (nG 3 131 Q) t:=by
 obtain⟨hz,h0,hy,hi,hn,k1,k2,k3,k4,sU,hK⟩:=H
 have hc:decide (y>=0)=true:=by simpa using h0
 have e0:Value.bool x.aW=Value.bool true:=by rw[hr]
 have l1:decide (y+1<(n:Int))=true->i+1<n:=fun h=>by simp at h;omega
 have l2:decide (y+1<(n:Int))=false-> ¬i+1<n:=fun h=>by simp at h;omega
 have k3':decide (y+1<(n:Int))=true->aq prog kj 4 (0+(i+1)*9+8)=some (.bool st):=fun h=>k3 (l1 h)
 have w1:Value.int .i64 (IntKind.i64.wrap (y+1))=Value.int .i64 (y+1):=cX (by omega) (by omega)
 have w2:Value.int .i64 (IntKind.i64.wrap (y - 1))=Value.int .i64 (y - 1):=cX (by omega) (by omega)
 have w3:Value.int .i64 (IntKind.i64.wrap ((mm:Int) - 1))=Value.int .i64 ((mm:Int) - 1):=cX (by omega) (by omega)
 have w4:Value.int .i64 (IntKind.i64.wrap ((mm:Int) - 1 - x.off))=Value.int .i64 ((mm:Int) - 1 - x.off):=cX (by omega) (by omega)
 have w5:Value.int .i64 (IntKind.i64.wrap ((mm:Int) - 1 - x.ez))=Value.int .i64 ((mm:Int) - 1 - x.ez):=cX (by omega) (by omega)
 have y1:y+1=((i+1:Nat):Int):=by omega
 have hm:=rW (mm:=mm) (st:=st) hr
 have hln:=vm L
 have hfx:mg L (nm mm st x)=⟨x.aW,x.run,(mm:Int) - 1 - x.off,(mm:Int) - 1 - x.ez,x.aB,x.fz1,wr (lM - x.arr),wr (lM - x.dep),st⟩:=by
  rw[hm];exact xN hr
 obtain⟨M,rfl⟩:=nU a1 a2 a3
 refine ykd z zn i K n cp q mm c0 kk L.length M y (wr (lM - x.arr)) (wr (lM - x.dep)) ((mm:Int) - 1 - x.off) ((mm:Int) - 1 - x.ez) x ⟨false,0,0,0,0,0,0,0,st⟩ x kj kr ⟨(L.map az.row).flatten,L.length*9,9,62,false,false,0,true⟩ Q ⟨fun _=>?_,nC1 hc⟩
 (repeat' first|(with_reducible first|exact rfl|assumption|apply And.intro|exact k3' ‹_›|exact l1 ‹_›|exact sU _ _ _|exact kA hK|exact fO|exact na L ⟨x.aW,x.run,(mm:Int) - 1 - x.off,(mm:Int) - 1 - x.ez,x.aB,x.fz1,wr (lM - x.arr),wr (lM - x.dep),st⟩ _|exact na L ⟨x.aW,x.run,(mm:Int) - 1 - x.off,(mm:Int) - 1 - x.ez,x.aB,x.fz1,wr (lM - x.arr),wr (lM - x.dep),false⟩ _|exact gY hz _|exact(by omega:L.length+1<=1048576)|exact Mo _|exact Nat.le_refl _|exact Nat.lt_succ_self _)|intro hq)
 ·exact nx _ hfx
 ·have:=k4 (l2 (by assumption))
  subst this
  exact nx _ hfx
end
section
variable{z:T aa}{zn:Nat}{N:aw}{D:gM}
theorem M1(hz:au z zn)(hN:dt z N D)(hv:(bT N D).2.2=0){K:Nat}(hK:6<=K)(hKn:K<zn){G:List az}(hG:G.length<=1000)(hL:DY D.runs G){J:lq}(hJ:pP K J.a J.n J.c G.length)(hT:bM z K (G.map az.row)):
 ai prog (ah (ag Tryz.f8) 0) 3 131 (jf ak ((J.n:Int) - 1)) [(0,N.box),(1,jB J.v),(2,jB ak)] 3 z zn (Al.R (MD z zn N J ((J.n:Int) - 1) (fun s=>ke z zn (cT D.runs G G.length) s)).l):=by
 have hjn:=cK hJ
 have hU:=gx (gv hv).2.2
 have e0:jf ak ((J.n:Int) - 1)=jf ak ((G.length:Int) - 1 - ((0:Nat):Int)):=by
  rw[show(J.n:Int) - 1=(G.length:Int) - 1 - ((0:Nat):Int) by omega]
 rw[e0]
 refine ax hD (cg (zg:=T.leaf)) (α:=Nat × bI) 3 131 3 (fun t=>t.1<=G.length/\ke z zn (cT D.runs G t.1) t.2) (fun t=>jf t.2.v ((G.length:Int) - 1 - (t.1:Int))) (fun t=>[(0,N.box),(1,jB J.v),(2,jB ak)]) (fun t=>t.2.z) (fun t=>t.2.zn) (fun t=>G.length - t.1) _ (fun t hI=>?_) (0,⟨none,0,z,zn⟩) ⟨Nat.zero_le _,hz,Nat.le_refl _,fun _ _=>rfl, .inl ⟨rfl,rfl,rfl⟩⟩
 obtain⟨m,oa,k,sz,szn⟩:=t
 obtain⟨h1,hs⟩:=hI
 simp only at h1 hs ⊢
 have hsz:au sz szn:=hs.bH
 have hle:zn<=szn:=hs.le
 have hold: ∀k,k<zn->sz.get k=z.get k:=hs.fE
 have hb: ∀σ,aC (aj σ []) (eV N)=some (eV N):=hN.box
 have sU: ∀(σ:bb)(c:Nat)(o:aa),aC (aj σ [(szn,c,o)]) (eV N)=some (eV N):=fun σ c o=>hN.Ku (by omega) σ
 have hKs:K≠szn:=by omega
 by_cases hi:m<G.length
 ·obtain⟨x,hx⟩:=dh (l:=G) (i:=G.length - 1 - m) (by omega)
  have ha:=gR hJ (by omega)
  obtain⟨ja,jn,jc⟩:=J
  simp only at ha hjn
  subst ha hjn
  have hNs:=hN.Nk hz hold
  have hTs:=cH hT hz hold
  obtain⟨kj,k1,k2,_,_,k5⟩:=tT hTs hx
  have k3:G.length - 1 - m+1<G.length->aq prog kj 4 (0+(G.length - 1 - m+1)*9+8)=some (.bool (dU G (G.length - 1 - m+1))):=fun h=>by
   obtain⟨y,hy⟩:=dh h
   have:dU G (G.length - 1 - m+1)=y.stay:=by unfold dU;rw[hy]
   rw[this];exact k5 y hy
  have k4: ¬G.length - 1 - m+1<G.length->dU G (G.length - 1 - m+1)=false:=fun h=>by
   unfold dU;rw[List.getElem?_eq_none (by omega)]
  have hy:(G.length:Int) - 1 - (m:Int)=((G.length - 1 - m:Nat):Int):=by omega
  have hm:=xc (U:=D.runs) hx
  have hml:=qs D.runs G m (by omega)
  have hir:G.length - 1 - m<G.length:=by omega
  have hy0:0<=(G.length:Int) - 1 - (m:Int):=by omega
  have hn:G.length<1000000:=by omega
  have nx: ∀s',ke z zn (cT D.runs G (m+1)) s'->an (fun t:Nat × bI=>t.1<=G.length/\ke z zn (cT D.runs G t.1) t.2) (fun t=>jf t.2.v ((G.length:Int) - 1 - (t.1:Int))) (fun t=>[(0,N.box),(1,jB (tb K G.length jc)),(2,jB ak)]) 3 (fun t=>t.2.z) (fun t=>t.2.zn) (fun t=>G.length - t.1) (Al.R (MD z zn N ⟨some ⟨256*K+510,0,none⟩,G.length,jc⟩ ((G.length:Int) - 1) (fun s=>ke z zn (cT D.runs G G.length) s)).l) (m,⟨oa,k,sz,szn⟩) .normal (jf s'.v ((G.length:Int) - 1 - (m:Int) - 1)) [(0,N.box),(1,jB (tb K G.length jc)),(2,jB ak)] 3 s'.z s'.zn:=fun s' h=>
   ⟨(m+1,s'),by show jf s'.v _=jf s'.v _;rw[show(G.length:Int) - 1 - ((m+1:Nat):Int)=(G.length:Int) - 1 - (m:Int) - 1 by omega],rfl,rfl,rfl,rfl,⟨hi,h⟩,by show G.length - (m+1)<G.length - m;omega⟩
  have m1:cT D.runs G m=[]-> ∀M:az,nm (dA D.runs x.run) (dU G (G.length - 1 - m+1)) x=M->ke z zn (cT D.runs G m) ⟨none,0,sz,szn⟩->ke z zn (cT D.runs G (m+1)) ⟨some ⟨256*szn+510,0,none⟩,1,sz.set szn (mP M.row 1),szn+1⟩:=fun v1 M hM hs=>by
   rw[hm]
   have:mg (cT D.runs G m) (sQ D.runs G (G.length - 1 - m) x)=M:=by rw[v1];exact hM
   rw[this,v1]
   rw[v1] at hs
   exact EM hs M
  have m2: ∀{kk:Nat},zn<=kk-> ∀{s:bI},ke z zn (cT D.runs G m) s-> ∀M:az,mg (cT D.runs G m) (nm (dA D.runs x.run) (dU G (G.length - 1 - m+1)) x)=M->ke z zn (cT D.runs G (m+1)) ⟨some ⟨256*s.zn+510,0,none⟩,(cT D.runs G m).length+1,(s.z.del kk).set s.zn (mP (((cT D.runs G m).map az.row).flatten++M.row) ((cT D.runs G m).length+1)),s.zn+1⟩:=fun {kk} v2 {s} hs M hM=>by
   rw[hm]
   have:mg (cT D.runs G m) (sQ D.runs G (G.length - 1 - m) x)=M:=hM
   rw[this]
   exact Bx hs M v2
  have hH:KR sz szn (G.length - 1 - m) K G.length N (dU G (G.length - 1 - m+1)) ((G.length:Int) - 1 - (m:Int)) x kj:=⟨hsz,hy0,hy,hir,hn,k1,k2,k3,k4,sU,hKs⟩
  refine⟨100,?_⟩
  rcases hs.val with ⟨v1,v2,v3⟩|⟨v1,kk,v2,v3,v4,v5,v6⟩
  ·simp only at v2 v3
   subst v2 v3
   cases hrd:x.aW with
   |false=>exact P5 hH hrd fun M hM=>nx _ (m1 v1 M hM hs)
   |true=>
    have hex:=hL _ _ hx hrd
    obtain⟨x1,x2,x3,x4,x5⟩:=lH hex
    obtain⟨a1,a2,a3⟩:=yW hN hv hex
    obtain⟨u,kr,cc,hu,_,g1,_,r7,_⟩:=mY hNs hU x1 x2
    have hnu:=cK hN.u
    have hul:=pT hU x.run
    have hq:x.run=((x.run.toNat:Nat):Int):=by omega
    have hqn:x.run.toNat<N.nu:=by omega
    have hmm:dA D.runs x.run<1000000:=by omega
    exact P4 hH hrd a1 a2 a3 hq hqn g1 r7 x3 x4 x5 hmm fun M hM=>nx _ (m1 v1 M hM hs)
  ·simp only at v2 v3 v4 v5 v6
   subst v4 v5
   obtain⟨p,hp⟩: ∃p,(cT D.runs G m).getLast? =some p:=by
    cases hc:(cT D.runs G m).getLast? with
    |none=>exact(v1 (List.getLast?_eq_none_iff.1 hc)).elim
    |some p=>exact⟨p,rfl⟩
   have hl:(cT D.runs G m).length<=1000:=by omega
   cases hrd:x.aW with
   |false=>exact P3 hH hrd v6 hp hl fun M hM=>nx _ (m2 v2 hs M hM)
   |true=>
    have hex:=hL _ _ hx hrd
    obtain⟨x1,x2,x3,x4,x5⟩:=lH hex
    obtain⟨a1,a2,a3⟩:=yW hN hv hex
    obtain⟨u,kr,cc,hu,_,g1,_,r7,_⟩:=mY hNs hU x1 x2
    have hnu:=cK hN.u
    have hul:=pT hU x.run
    have hq:x.run=((x.run.toNat:Nat):Int):=by omega
    have hqn:x.run.toNat<N.nu:=by omega
    have hmm:dA D.runs x.run<1000000:=by omega
    exact P2 hH hrd a1 a2 a3 hq hqn g1 r7 x3 x4 x5 hmm v6 hl fun M hM=>nx _ (m2 v2 hs M hM)
 ·have hc:decide ((G.length:Int) - 1 - (m:Int)>=0)=false:=by simp;omega
  have hmG:m=G.length:=by omega
  subst hmG
  have hfin:Al.R (MD z zn N J ((J.n:Int) - 1) (fun s=>ke z zn (cT D.runs G G.length) s)).l ⟨.exit 0,[(4,ip 2),(8, .slice oa k k)],[(2,jB ak)],3,sz,szn⟩:=yh (k:=fun _=>dP) (⟨oa,k,sz,szn⟩:bI) hs rfl
  have hrn: ∀σ,aJ (aj σ []) (.slice oa k k)=some (.slice oa k k):=fun σ=>by
   rcases hs.val with ⟨_,e1,e2⟩|⟨_,kk,_,_,e1,e2,_⟩<;>simp only at e1 e2
   ·subst e1 e2;rfl
   ·subst e1 e2;exact jL σ _ _ _
  have hcv:Value.bool (decide ((G.length:Int) - 1 - (G.length:Int)>=0))=Value.bool false:=by rw[hc]
  refine t100 (ykz sz szn N ⟨oa,k,k⟩ J.v ((G.length:Int) - 1 - (G.length:Int)) (an _ _ _ _ _ _ _ _ _) ?_)
  (repeat' first|(with_reducible first|exact rfl|assumption|apply And.intro|exact hrn _)|exact hfin)
theorem UP(hz:au z zn)(hB:mD N D z)(h5:5<=zn)(hN:dt z N D){K:Nat}(hK:6<=K)(hKn:K<zn){G:List az}(hG:G.length<=1000){J:lq}(hJ:pP K J.a J.n J.c G.length)(hT:bM z K (G.map az.row))(he:jE N D G≠0):
 A1 z zn 8 [.agg ⟨N.cells⟩,J.jn] [] 0 0 (.tuple ⟨[.agg ⟨[ak]⟩,zv (jE N D G)]⟩) []:=by
 have hc:=Re hz hB h5 hN hK hKn hG hJ hT he
 have ha:=Jl hN hJ.tv
 have e1:Value.bool (jE N D G !=0)=Value.bool true:=by rw[show(jE N D G !=0)=true by simpa using he]
 refine aK1 (cg (zg:=T.leaf)) (fn:=Tryz.f8) hz (N:=100) ?_
 refine yke z zn N J (jE N D G) _ ?_
 (repeat' first|(with_reducible first|exact rfl|assumption|apply And.intro)|intro hq)
 all_goals exact q1
end
end Go.Proofs.Nw
namespace Go.Proofs.Nw
open Go Go.AV Tryz
set_option maxRecDepth 1000000
noncomputable section
noncomputable abbrev VE:Code:=ah (ag Tryz.f9) 0
theorem yer(z:T aa)(zn k1 k2 n c1 c2 i:Nat)(x:az)(b1 b2:aR)(b:Bool)(Q:QL)(hyp:Br (decide ((↑i:Int)<(↑n:Int))) (YU i/\i<n/\dC k1/\dJ z k1 b1/\Ac b1 i x/\YU i/\i<n/\dC k2/\dJ z k2 b2/\Ac b2 i x/\pI prog BinOp.neq 62 (Operand.tmp 24) (Operand.tmp 29) (AG (sy x)) (AG (sy x)) (fy b)/\b=false/\ZV (IntKind.i64.wrap ((↑i:Int)+1))=IV (i+1)/\E6 31 z zn (R3 bh dr (IV (i+1)) (Rs (k9 k1 n c1)/\Rs (k9 k2 n c2)/\Q aN [g8,jH,(5,IV (i+1))] [(0,k9 k1 n c1),(1,k9 k2 n c2)] 2 z zn))) (E6 31 z zn (Q YO [] [] 2 z zn))):RdT prog jo fC VE 31 (vf i) z [(0,jB (tb k1 n c1)),Fu k2 n c2] 2 zn 2 Q:=K1t hyp (tA 1 ((tA 2 (tO (Yj i) (tO (Ab k1 b1 x) (tA 1 (tO (Yj i) (tO (Ab k2 b2 x) (tX (iD.bin (fy b)) (tO bP (tO (Ym i) (tE c9 [] [g8,jH,(5,IV (i+1))] [(0,k9 k1 n c1),(1,k9 k2 n c2)] 2 z zn)))))))))).fork (Vo z zn)))
abbrev ZL:List (Nat × aa):=[(0,jB ak),(1,jB ak)]
theorem yen(z:T aa)(zn:Nat)(Q:QL)(hyp:E6 31 z zn (Q YO [] [] 2 z zn)):RdT prog jo fC VE 31 (vf 0) z ZL 2 zn 2 Q:=K1t hyp (tA 3 (tE [] [] [] [] 2 z zn))
theorem ye(z:T aa)(zn k1 k2 n c1 c2:Nat)(Q:QF)(hyp:Value.bool ((↑n:Int) !=(↑n:Int))=F0/\sE/\ai prog VE 2 31 (vf 0) [(0,jB (tb k1 n c1)),Fu k2 n c2] 2 z zn (YBo z zn)/\E6 31 z zn (R3 bh dr YM (Rs (k9 k1 n c1)/\Rs (k9 k2 n c2)/\ ∀(x:Unit),True->E6 31 z zn (YA/\Q T1 [] 0 z zn)))):FnT prog jo fC Tryz.f9 [AG [tb k1 n c1],AG [tb k2 n c2]] z [] 0 zn Q:=K1t hyp (tA 2 (tO lj (tA 1 (Tr.lp 2 31 c9 [] (vf 0) [(0,jB (tb k1 n c1)),Fu k2 n c2] 2 z zn (Al.cons Unit Yy (Vm z zn) (S1 z zn) Al.nil)))))
theorem yez(z:T aa)(zn:Nat)(Q:QF)(hyp:sE/\ai prog VE 2 31 (vf 0) ZL 2 z zn (YBo z zn)/\E6 31 z zn (R3 bh dr YM (oI/\oI/\ ∀(x:Unit),True->E6 31 z zn (YA/\Q T1 [] 0 z zn)))):FnT prog jo fC Tryz.f9 [AG [ak],AG [ak]] z [] 0 zn Q:=K1t hyp (tA 4 (Tr.lp 2 31 c9 [] (vf 0) ZL 2 z zn (Al.cons Unit Yy (Vm z zn) (S1 z zn) Al.nil)))
noncomputable abbrev ZK:Code:=ah (ag Tryz.f5) 0
theorem yfr(z:T aa)(zn i n cc:Nat)(ca:Option Addr)(N:aw)(kr:aR)(x:iZ)(Q:QL)(hyp:Br (decide ((↑i:Int)<(↑N.nu:Int))) (YU i/\i<N.nu/\Cl/\Ck z kr/\WT kr i x/\Br (decide ((↑x.cn:Int)>40)) (E6 52 z zn (YQ/\Q af.ret [(2,F0)] [] 1 z zn)) (ZV (IntKind.i64.wrap ((↑i:Int)+1))=IV (i+1)/\E6 52 z zn (R4 bh (Oh N) (IV N.nu) (IV (i+1)) (KO YD (HK N)/\Q aN [oL,(41,Oh N),(42,IV N.nu),(43,IV (i+1))] [(0,HK N)] 1 z zn)))) (E6 52 z zn (Q YO [] [] 1 z zn))):RdT prog jo fC ZK 52 (C5 (tb 1 N.nu N.uc) N.nu i) z [(0,N.jy)] 1 zn 1 Q:=K1t hyp ((tA 1 (tO (Yj i) (tO (An.ld 1 kr (AG x.row)) (tA 2 ((tA 1 (tE [] [] [(2,F0)] [] 1 z zn)).fork (tA 1 (tO (Ym i) (tE YC [] [oL,(41,Oh N),(42,IV N.nu),(43,IV (i+1))] [(0,HK N)] 1 z zn)))))))).fork (Yn z zn))
theorem yfe(z:T aa)(zn i:Nat)(N:aw)(Q:QL)(hyp:Value.bool (decide ((↑i:Int)<(↑N.nu:Int)))=F0/\E6 52 z zn (Q YO [] [] 1 z zn)):RdT prog jo fC ZK 52 (C5 (Lv N) N.nu i) z [(0,N.box)] 1 zn 1 Q:=K1t hyp (tO lj (Yn z zn))
theorem yf(z:T aa)(zn:Nat)(N:aw)(b:Bool)(Q:QF)(hyp:Br (decide ((↑N.ns:Int)>70)) (E6 52 z zn (YQ/\Q F0 [] 0 z zn)) (Br (decide ((↑N.nr:Int)>70)) (E6 52 z zn (YQ/\Q F0 [] 0 z zn)) (Br (decide ((↑N.nu:Int)>40)) (E6 52 z zn (YQ/\Q F0 [] 0 z zn)) (Br (decide ((↑N.nl:Int)>80)) (E6 52 z zn (YQ/\Q F0 [] 0 z zn)) (Br (decide ((↑N.np:Int)>80)) (E6 52 z zn (YQ/\Q F0 [] 0 z zn)) (Br (decide ((↑N.nf:Int)>20)) (E6 52 z zn (YQ/\Q F0 [] 0 z zn)) (YP/\ai prog ZK 1 52 (C5 (Lv N) N.nu 0) [(0,N.box)] 1 z zn (alt (b=false) (aA.mk af.ret [(2,F0)] [] 1 z zn) (alt (b=true) (aA.mk YO [] [] 1 z zn) Al.nil)).R/\E6 52 z zn (Cf/\aJ YD (Lv N)=some (Lv N)/\R2 (IV N.nu) YM (KO YD (kv N)/\(∀(x:Unit),b=false->E6 52 z zn (YQ/\Q F0 [] 0 z zn))/\ ∀(x:Unit),b=true->E6 52 z zn (YA/\Q T1 [] 0 z zn)))))))))):FnT prog jo fC Tryz.f5 [AG N.cells] z [] 0 zn Q:=K1t hyp (tA 1 ((tA 27 (ue z zn)).fork (tA 5 ((tA 23 (ue z zn)).fork (tA 6 ((tA 18 (ue z zn)).fork (tA 6 ((tA 13 (ue z zn)).fork (tA 6 ((tA 8 (ue z zn)).fork (tA 7 ((tA 2 (ue z zn)).fork (tA 3 (Tr.lp 1 52 YC [] (C5 (Lv N) N.nu 0) [(0,N.box)] 1 z zn (Al.cons Unit (YS b) (fun(x:Unit)=>aA.mk af.ret [(2,F0)] [] 1 z zn) (fun(x:Unit)=>ue z zn) (Al.cons Unit (YR b) (Y1 z zn) (S1 z zn) Al.nil))))))))))))))))
abbrev ZJ(z:T aa)(zn:Nat):Prop:=aP prog z zn 6 [] [] 0 0 Yy pM bQ
noncomputable abbrev YKG(z:T aa)(zn:Nat):Tr:=Tr.cm (Cm.mk [] [] 0 0 [] [] 2) Unit Yy pM bQ pM bQ (eG z) (eF zn) (S1 z zn)
theorem yla(z:T aa)(zn:Nat)(N:aw)(J:lq)(Q:QF)(hyp:aP prog z zn 5 (CB N) [] 0 0 Yy DT bQ/\HI N/\ ∀(x:Unit),True->YQ/\ZJ z zn/\Rs Mp/\ ∀(x:Unit),True->YA/\E6 42 z zn (YA/\Q T1 [] 0 z zn)):FnT prog jo fC Tryz.f3 (OV N J) z [] 0 zn Q:=K1t hyp (tA 1 (Tr.cm (U2 N) Unit Yy DT bQ DT bQ (eG z) (eF zn) fun(x:Unit)=>tA 6 (YKG z zn)))
abbrev ZI(z:T aa)(zn:Nat)(N:aw):Prop:=aP prog z zn 5 (CB N) [] 0 0 Yy pM bQ
theorem ylb(z:T aa)(zn:Nat)(N:aw)(J:lq)(Q:QF)(hyp:ZI z zn N/\HI N/\ ∀(x:Unit),True->YA/\Value.bool (decide ((↑J.n:Int)>20))=T1/\ZJ z zn/\Rs Mp/\ ∀(x:Unit),True->YA/\E6 42 z zn (YA/\Q T1 [] 0 z zn)):FnT prog jo fC Tryz.f3 (OV N J) z [] 0 zn Q:=K1t hyp (tA 1 (Tr.cm (U2 N) Unit Yy pM bQ pM bQ (eG z) (eF zn) fun(x:Unit)=>tA 5 (tO mC (tA 2 (YKG z zn)))))
abbrev VD(e:Int):Unit->Value:=fun(x:Unit)=>TP [AG [ak],zv e]
theorem ylc(z:T aa)(zn:Nat)(N:aw)(J:lq)(e:Int)(Q:QF)(hyp:ZI z zn N/\HI N/\ ∀(x:Unit),True->YA/\Value.bool (decide ((↑J.n:Int)>20))=F0/\aP prog z zn 7 (Fv N J) [] 0 0 Yy (VD e) bQ/\Sp N J/\ ∀(x:Unit),True->Rs (La e)/\aP prog z zn 8 (Fv N J) [] 0 0 Yy (VD e) bQ/\Sp N J/\ ∀(x:Unit),True->Rs (La e)/\aP prog z zn 9 [AG [Y5],AG [Y5]] [] 0 0 Yy pM bQ/\Rs [AG [Y5],AG [Y5]]/\ ∀(x:Unit),True->YA/\Value.bool (e==e)=T1/\ZJ z zn/\Rs Mp/\ ∀(x:Unit),True->YA/\E6 42 z zn (YA/\Q T1 [] 0 z zn)):FnT prog jo fC Tryz.f3 (OV N J) z [] 0 zn Q:=K1t hyp (tA 1 (Tr.cm (U2 N) Unit Yy pM bQ pM bQ (eG z) (eF zn) fun(x:Unit)=>tA 5 (tO lj (tA 4 (Tr.cm (Cm.mk (Fv N J) [] 0 0 [] [] 2) Unit Yy (VD e) bQ (fun(x:Unit)=>La e) bQ (eG z) (eF zn) fun(x:Unit)=>tA 3 (Tr.cm (Cm.mk (Fv N J) [] 0 0 [] [] 3) Unit Yy (VD e) bQ (fun(x:Unit)=>La e) bQ (eG z) (eF zn) fun(x:Unit)=>tA 3 (Tr.cm (Cm.mk [AG [Y5],AG [Y5]] [] 0 0 [] [] 4) Unit Yy pM bQ pM bQ (eG z) (eF zn) fun(x:Unit)=>tA 3 (tO mC (tA 2 (Tr.cm (Cm.mk [] [] 0 0 [] [] 4) Unit Yy pM bQ pM bQ (eG z) (eF zn) fun(x:Unit)=>tA 1 (tR [] [] T1 [] 0 z zn)))))))))))
abbrev VC:bI->Value:=fun(s:bI)=>TP [AG [s.v],YM]
noncomputable abbrev YKK(N:aw)(J:lq)(ψ:bI->bI->Prop)(x:bI):Tr:=tA 3 (Tr.cm (Cm.mk (Fv N J) [] 0 0 [] [] 3) bI (ψ x) VC N9 Ft N9 gf He fun(x_1:bI)=>tA 3 (Tr.cm (Cm.mk [AG [pR x],AG [pR x_1]] [] 0 0 [] [] 4) Unit Yy pM bQ pM bQ (fun(x:Unit)=>gf x_1) (fun(x:Unit)=>x_1.zn) fun(x:Unit)=>tA 6 (Tr.cm (Cm.mk [] [] 0 0 [] [] 4) Unit Yy pM bQ pM bQ (fun(x:Unit)=>gf x_1) (fun(x:Unit)=>x_1.zn) fun(x:Unit)=>tA 1 (tR [] [] T1 [] 0 (gf x_1) x_1.zn))))
theorem yld(z:T aa)(zn:Nat)(N:aw)(J:lq)(φ:bI->Prop)(ψ:bI->bI->Prop)(Q:QF)(hyp:ZI z zn N/\HI N/\ ∀(x:Unit),True->YA/\Value.bool (decide ((↑J.n:Int)>20))=F0/\bq prog z zn 7 (Fv N J) [] 0 0 φ VC N9 gf He/\Sp N J/\ ∀(x:bI),φ x->aJ wa (Ft x)=some (Ft x)/\bq prog (gf x) x.zn 8 (Fv N J) [] 0 0 (ψ x) VC N9 gf He/\Sp N J/\ ∀(x_1:bI),ψ x x_1->aJ wa (Ft x_1)=some (Ft x_1)/\aP prog (gf x_1) x_1.zn 9 [AG [pR x],AG [pR x_1]] [] 0 0 Yy pM bQ/\aT wa [AG [pR x],AG [pR x_1]]=some [AG [pR x],AG [pR x_1]]/\ ∀(x:Unit),True->YA/\aP prog (gf x_1) x_1.zn 6 [] [] 0 0 Yy pM bQ/\Rs Mp/\ ∀(x:Unit),True->YA/\E6 42 (gf x_1) x_1.zn (YA/\Q T1 [] 0 (gf x_1) x_1.zn)):FnT prog jo fC Tryz.f3 (OV N J) z [] 0 zn Q:=K1t hyp (tA 1 (Tr.cm (U2 N) Unit Yy pM bQ pM bQ (eG z) (eF zn) fun(x:Unit)=>tA 5 (tO lj (tA 4 (Tr.cm (Cm.mk (Fv N J) [] 0 0 [] [] 2) bI φ VC N9 Ft N9 gf He fun(x:bI)=>YKK N J ψ x)))))
end
end Go.Proofs.Nw
namespace Go.Proofs.Nw
open Go Go.AV Tryz
set_option maxHeartbeats 1000000
set_option maxRecDepth 100000
theorem xB{z:T aa}{zn:Nat}{s s':bI}{L:List az}(ho:DX z zn s)(h:ke s.z s.zn L s'):ke z zn L s':=
 ⟨h.bH,Nat.le_trans ho.le h.le,fun k hk=>(h.fE k (Nat.lt_of_lt_of_le hk ho.le)).trans (ho.fE k hk),by
   rcases h.val with h|⟨h1,kk,h2,h3⟩
   ·exact .inl h
   ·exact .inr ⟨h1,kk,Nat.le_trans ho.le h2,h3⟩⟩
theorem OD{z:T aa}{zn:Nat}{s:bI}{L:List az}(h:ke z zn L s):DX z zn s:=⟨h.bH,h.le,h.fE⟩
section
variable{z:T aa}{zn:Nat}{N:aw}{D:gM}
theorem ZG(hz:au z zn)(hB:mD N D z)(h5:5<=zn)(hN:dt z N D){K:Nat}(hK:6<=K)(hKn:K<zn){G:List az}(hG:G.length<=1000){J:lq}(hJ:pP K J.a J.n J.c G.length)(hT:bM z K (G.map az.row))(he:jE N D G=0):
 bq prog z zn 8 [.agg ⟨N.cells⟩,J.jn] [] 0 0 (fun s=>ke z zn (cT D.runs G G.length) s) (fun s=> .tuple ⟨[.agg ⟨[s.v]⟩,I 0]⟩) (fun _=>[]) (fun s=>s.z) (fun s=>s.zn):=by
 obtain⟨hr0,hs0⟩:=ET he
 have hc:=UF hz hB h5 hN hK hKn hG hJ hT he
 have hb: ∀σ,aC (aj σ []) (eV N)=some (eV N):=hN.box
 have hjb:=Bz hJ.tv
 have ha:=Jl hN hJ.tv
 have hjn:=cK hJ
 have wn:Value.int .i64 (IntKind.i64.wrap ((J.n:Int) - 1))=Value.int .i64 ((J.n:Int) - 1):=cX (by omega) (by omega)
 have hlp: ∀s,Co z zn s->ai prog (ah (ag Tryz.f8) 0) 3 131 (jf ak ((J.n:Int) - 1)) [(0,N.box),(1,jB J.v),(2,jB ak)] 3 s.z s.zn (Al.R (MD s.z s.zn N J ((J.n:Int) - 1) (fun s'=>ke s.z s.zn (cT D.runs G G.length) s')).l):=fun s hs=>
  M1 hs.o.bH (hN.Nk hz hs.o.fE) hr0 hK (Nat.lt_of_lt_of_le hKn hs.o.le) hG (xF hs0) hJ (cH hT hz hs.o.fE)
 have fz: ∀s,Co z zn s->au s.z s.zn:=fun s h=>h.o.bH
 have rn: ∀s,Co z zn s->aJ (sig []) (.tuple ⟨[.slice s.oa s.k s.k,I 0]⟩)=some (.tuple ⟨[.slice s.oa s.k s.k,I 0]⟩):=fun s h=>Ek h
 refine eM (cg (zg:=T.leaf)) (fn:=Tryz.f8) (by kernel_rfl) (by kernel_rfl) hz ⟨by decide,by decide⟩ (fun s hs=>⟨rfl,hs.le,hs.bH⟩) (N:=100) ?_
 refine yk z zn N J (fun s=>Co z zn s) (fun s s'=>ke s.z s.zn (cT D.runs G G.length) s') _ ?_
 (repeat' first|(with_reducible first|exact rfl|assumption|apply And.intro|exact hb _|exact hjb _|exact fz _ ‹_›|exact ke.bH ‹_›|exact rn _ ‹_›|exact xC ‹_›)|exact hlp _ (by with_reducible assumption)|intro hq)
 all_goals
  rename_i s hs s'
  exact q2 s' (xB hs.o hq) rfl rfl rfl rfl rfl
theorem Uh{α β:Type}{g:α->β}{l:List α}{a b c d e f p q r:β}(h:l.map g=[a,b,c,d,e,f,p,q,r]): ∃x0 x1 x2 x3 x4 x5 x6 x7 x8,l=[x0,x1,x2,x3,x4,x5,x6,x7,x8]/\g x0=a/\g x1=b/\g x2=c/\g x3=d/\g x4=e/\g x5=f/\g x6=p/\g x7=q/\g x8=r:=by
 match l,h with
 |[x0,x1,x2,x3,x4,x5,x6,x7,x8],h=>simp at h;exact⟨x0,x1,x2,x3,x4,x5,x6,x7,x8,rfl,h.1,h.2.1,h.2.2.1,h.2.2.2.1,h.2.2.2.2.1,h.2.2.2.2.2.1,h.2.2.2.2.2.2.1,h.2.2.2.2.2.2.2.1,h.2.2.2.2.2.2.2.2⟩
theorem Ds(a:Int):prun prog (Op.equalIn 9999 3 (zv a) (zv a))=some true:=by rw[Hv];simp
theorem Uw(a:Bool):prun prog (Op.equalIn 9999 4 (.bool a) (.bool a))=some true:=by rw[NA];simp
theorem Uv(x:az):prun prog (Op.equal 62 (.agg ⟨x.row⟩) (.agg ⟨x.row⟩))=some true:=by
 obtain⟨a,b,c,d,e,f,p,q,r⟩:=x
 have hm:(prog.fieldsOf 62).toList.map fx=[(true,4,0),(true,3,1),(true,3,2),(true,3,3),(true,3,4),(true,3,5),(true,3,6),(true,3,7),(true,4,8)]:=by kernel_rfl
 obtain⟨f0,f1,f2,f3,f4,f5,f6,f7,f8,hl,h0,h1,h2,h3,h4,h5,h6,h7,h8⟩:=Uh hm
 have hs:prun prog (underlying 62)=some (.struct (prog.fieldsOf 62)):=by kernel_rfl
 show prun _ (Op.equalIn (9999+1) _ _ _)=_
 rw[kD _ _ _ _ _ hs (by kernel_rfl),hl,step_eq h0 (by kernel_rfl) (by kernel_rfl) (Uw a),if_pos rfl,step_eq h1 (by kernel_rfl) (by kernel_rfl) (Ds b),if_pos rfl,step_eq h2 (by kernel_rfl) (by kernel_rfl) (Ds c),if_pos rfl,step_eq h3 (by kernel_rfl) (by kernel_rfl) (Ds d),if_pos rfl,step_eq h4 (by kernel_rfl) (by kernel_rfl) (Ds e),if_pos rfl,step_eq h5 (by kernel_rfl) (by kernel_rfl) (Ds f),if_pos rfl,step_eq h6 (by kernel_rfl) (by kernel_rfl) (Ds p),if_pos rfl,step_eq h7 (by kernel_rfl) (by kernel_rfl) (Ds q),if_pos rfl,step_eq h8 (by kernel_rfl) (by kernel_rfl) (Uw r),if_pos rfl]
 rfl
theorem N3(i j:Nat)(x:az):pI prog .neq 62 (.tmp i) (.tmp j) (.agg ⟨x.row⟩) (.agg ⟨x.row⟩) F0:=by
 unfold pI
 rw[prun_bind]
 have h1:prun prog (eqGuard .neq 62 (.tmp i) (.tmp j) (.agg ⟨x.row⟩) (.agg ⟨x.row⟩))=some ():=by kernel_rfl
 rw[h1,Option.bind_some]
 show prun _ (Op.equal _ _ _>>=fun b=>pure (Value.bool (!b)))=_
 rw[prun_bind,Uv]
 rfl
theorem Qc{L:List az}{i:Nat}{x:az}(hx:L[i]? =some x):aq prog (aR.mk (L.map az.row).flatten (L.length*9) 9 62 false false 0 true) 62 (0+i*9)=some (.agg ⟨x.row⟩):=
 gE (rows:=L.map az.row) (sz:=9) rfl underlying62 rfl rfl (aM (row:=az.row) (sz:=9) L fun _=>rfl) (by rw[List.getElem?_map,hx];rfl)
theorem US(hz:au z zn){L:List az}(hl:L.length<=1000){k1 k2:Nat}(h1:z.get k1=some (mP (L.map az.row).flatten L.length))(h2:z.get k2=some (mP (L.map az.row).flatten L.length)):A1 z zn 9 [.agg ⟨[tb k1 L.length L.length]⟩, .agg ⟨[tb k2 L.length L.length]⟩] [] 0 0 T1 []:=by
 have hL:ai prog (ah (ag Tryz.f9) 0) 2 31 (vf 0) [(0,jB (tb k1 L.length L.length)),(1,jB (tb k2 L.length L.length))] 2 z zn (Al.R (TC z zn (tb k1 L.length L.length) (tb k2 L.length L.length)).l):=by
  refine ax hD (cg (zg:=T.leaf)) (α:=Nat) 2 31 2 (fun i=>i<=L.length) (fun i=>vf i) (fun _=>[(0,jB (tb k1 L.length L.length)),(1,jB (tb k2 L.length L.length))]) (fun _=>z) (fun _=>zn) (fun i=>L.length - i) _ (fun i hI=>?_) 0 (Nat.zero_le _)
  have hI:i<=L.length:=hI
  by_cases hi:i<L.length
  ·obtain⟨x,hx⟩:=dh hi
   have hr:=Qc hx
   have hc:decide ((i:Int)<(L.length:Int))=true:=by simp;omega
   refine t100 (yer z zn k1 k2 L.length L.length L.length i x ⟨(L.map az.row).flatten,L.length*9,9,62,false,false,0,true⟩ ⟨(L.map az.row).flatten,L.length*9,9,62,false,false,0,true⟩ false (an _ _ _ _ _ _ _ _ _) ⟨fun _=>?_,nC1 hc⟩)
   (repeat' first|(with_reducible first|exact rfl|assumption|apply And.intro|exact N3 _ _ _|exact bF (by omega)))
   all_goals exact⟨i+1,rfl,rfl,rfl,rfl,rfl,hi,by show L.length - (i+1)<L.length - i;omega⟩
  ·have hc:decide ((i:Int)<(L.length:Int))=false:=by simp;omega
   refine t100 (yer z zn k1 k2 L.length L.length L.length i ⟨false,0,0,0,0,0,0,0,false⟩ ⟨[],0,0,0,true,true,0,true⟩ ⟨[],0,0,0,true,true,0,true⟩ false (an _ _ _ _ _ _ _ _ _) ⟨nC1 hc,fun _=>?_⟩)
   (repeat' first|(with_reducible first|exact rfl|assumption|apply And.intro))
   all_goals exact bu True.intro
 have e0:Value.bool ((L.length:Int) !=(L.length:Int))=Value.bool false:=by simp
 refine aK1 (cg (zg:=T.leaf)) (fn:=Tryz.f9) hz (N:=100) ?_
 refine ye z zn k1 k2 L.length L.length L.length _ ?_
 (repeat' first|(with_reducible first|exact rfl|assumption|apply And.intro)|exact hL|intro hq)
 all_goals exact q1
theorem ON(hz:au z zn):A1 z zn 9 [.agg ⟨[ak]⟩, .agg ⟨[ak]⟩] [] 0 0 T1 []:=by
 have hL:ai prog (ah (ag Tryz.f9) 0) 2 31 (vf 0) [(0,jB ak),(1,jB ak)] 2 z zn (Al.R (TC z zn ak ak).l):=by
  refine ax hD (cg (zg:=T.leaf)) (α:=Unit) 2 31 2 (fun _=>True) (fun _=>vf 0) (fun _=>[(0,jB ak),(1,jB ak)]) (fun _=>z) (fun _=>zn) (fun _=>0) _ (fun _ _=>?_) () True.intro
  refine t100 (yen z zn (an _ _ _ _ _ _ _ _ _) ?_)
  (repeat' first|(with_reducible first|exact rfl|assumption|apply And.intro))
  all_goals exact bu True.intro
 refine aK1 (cg (zg:=T.leaf)) (fn:=Tryz.f9) hz (N:=100) ?_
 refine yez z zn _ ?_
 (repeat' first|(with_reducible first|exact rfl|assumption|apply And.intro)|exact hL|intro hq)
 all_goals exact q1
def BL(N:aw)(D:gM):Bool:=decide (N.ns<=70) && decide (N.nr<=70) && decide (N.nu<=40) && decide (N.nl<=80) && decide (N.np<=80) && decide (N.nf<=20) && D.runs.all fun r=>decide (r.v.cn<=40)
theorem Nv{N:aw}{D:gM}(h:70<N.ns\/70<N.nr\/40<N.nu\/80<N.nl\/80<N.np\/20<N.nf):BL N D=false:=by
 unfold BL
 rcases h with h|h|h|h|h|h
 ·rw[decide_eq_false (show¬N.ns<=70 by omega)];simp
 ·rw[decide_eq_false (show¬N.nr<=70 by omega)];simp
 ·rw[decide_eq_false (show¬N.nu<=40 by omega)];simp
 ·rw[decide_eq_false (show¬N.nl<=80 by omega)];simp
 ·rw[decide_eq_false (show¬N.np<=80 by omega)];simp
 ·rw[decide_eq_false (show¬N.nf<=20 by omega)];simp
theorem BK{N:aw}{D:gM}(h1:N.ns<=70)(h2:N.nr<=70)(h3:N.nu<=40)(h4:N.nl<=80)(h5:N.np<=80)(h6:N.nf<=20):BL N D=D.runs.all fun r=>decide (r.v.cn<=40):=by
 unfold BL
 rw[decide_eq_true h1,decide_eq_true h2,decide_eq_true h3,decide_eq_true h4,decide_eq_true h5,decide_eq_true h6];simp
theorem Nx{N:aw}{D:gM}(h:BL N D=true):N.np<=80:=by
 unfold BL at h
 simp only[Bool.and_eq_true,decide_eq_true_eq] at h
 omega
theorem UR(hz:au z zn)(hN:dt z N D):A1 z zn 5 [.agg ⟨N.cells⟩] [] 0 0 (.bool (BL N D)) []:=by
 have hb: ∀σ,aC (aj σ []) (eV N)=some (eV N):=hN.box
 have hnu:=cK hN.u
 have hru: ∀σ,aJ (aj σ []) (.slice N.ua N.nu N.uc)=some (.slice N.ua N.nu N.uc):=hN.u.tv
 have hL:N.nu<=40->ai prog (ah (ag Tryz.f5) 0) 1 52 (C5 (.slice N.ua N.nu N.uc) N.nu 0) [(0,N.box)] 1 z zn (Al.R (XJ z zn N (D.runs.all fun r=>decide (r.v.cn<=40))).l):=fun h20=>by
  refine ax hD (cg (zg:=T.leaf)) (α:=Nat) 1 52 1 (fun i=>i<=N.nu/\ ∀j r,j<i->D.runs[j]? =some r->r.v.cn<=40) (fun i=>C5 (.slice N.ua N.nu N.uc) N.nu i) (fun _=>[(0,N.box)]) (fun _=>z) (fun _=>zn) (fun i=>N.nu - i) _ (fun i hI=>?_) 0 ⟨Nat.zero_le _,fun j r hj=>absurd hj (Nat.not_lt_zero _)⟩
  obtain⟨h1,h2⟩:=hI
  by_cases hlt:i<N.nu
  ·obtain⟨x,hx⟩:=dh (l:=D.runs) (i:=i) (by omega)
   have hua:=gR hN.u (by omega)
   obtain⟨kr,g2,r2,_,_⟩:=hN.run hx
   have hc:decide ((i:Int)<(N.nu:Int))=true:=by simp;omega
   have no: ¬x.v.cn<=40->(D.runs.all fun r=>decide (r.v.cn<=40))=false:=fun h=>by
    rw[List.all_eq_false]
    exact⟨x,List.mem_of_getElem? hx,by simpa using h⟩
   have nx:x.v.cn<=40->i+1<=N.nu/\ ∀j r,j<i+1->D.runs[j]? =some r->r.v.cn<=40:=fun h=>⟨hlt,fun j r hj hr=>by
    by_cases e:j=i
    ·subst e;rw[hx] at hr;cases hr;exact h
    ·exact h2 j r (by omega) hr⟩
   have hsl:=(hN.tu.sl i x hx).tv
   obtain⟨sa,ns,sc,ra,nr,rc,ua,nu,uc,la,nl,lc,pa,np,pc,fa,nf,fc',d,w,c⟩:=N
   simp only at hua hlt
   subst hua
   refine t100 (yfr z zn i x.v.cn x.v.cc x.v.ca _ kr x.v (an _ _ _ _ _ _ _ _ _) ⟨fun _=>?_,nC1 hc⟩)
   (repeat' first|(with_reducible first|exact rfl|assumption|apply And.intro|exact hb _|exact bF (by omega))|intro hq)
   all_goals first
    |exact bu (no (by have:=of_decide_eq_true (by with_reducible assumption:decide ((x.v.cn:Int)>40)=true);omega))
    |exact⟨i+1,rfl,rfl,rfl,rfl,rfl,nx (by have:=of_decide_eq_false (by with_reducible assumption:decide ((x.v.cn:Int)>40)=false);omega),by show nu - (i+1)<nu - i;omega⟩
  ·have hc:Value.bool (decide ((i:Int)<(N.nu:Int)))=Value.bool false:=by
    rw[show decide ((i:Int)<(N.nu:Int))=false by simp;omega]
   refine t100 (yfe z zn i N (an _ _ _ _ _ _ _ _ _) ?_)
   (repeat' first|(with_reducible first|exact rfl|assumption|apply And.intro))
   refine dv (bu ?_)
   rw[List.all_eq_true]
   intro r hr
   obtain⟨j,hj⟩:=List.mem_iff_getElem?.1 hr
   have:=(List.getElem?_eq_some_iff.1 hj).1
   simpa using h2 j r (by omega) hj
 refine aK1 (cg (zg:=T.leaf)) (fn:=Tryz.f5) hz (N:=100) ?_
 refine yf z zn N (D.runs.all fun r=>decide (r.v.cn<=40)) _ ?_
 (repeat' first|(with_reducible first|exact rfl|assumption|apply And.intro|exact hb _|exact hru _)|exact hL (by have:=of_decide_eq_false (by with_reducible assumption:decide ((N.nu:Int)>40)=false);omega)|intro hq)
 all_goals simp only[decide_eq_true_eq,decide_eq_false_iff_not,gt_iff_lt] at*
 all_goals first
  |(rw[Nv (N:=N) (D:=D) (by omega)];exact q1)
  |(rw[BK (N:=N) (D:=D) (by omega) (by omega) (by omega) (by omega) (by omega) (by omega),(by assumption:(D.runs.all fun r=>decide (r.v.cn<=40))=true)];exact q1)
  |(rw[BK (N:=N) (D:=D) (by omega) (by omega) (by omega) (by omega) (by omega) (by omega),(by assumption:(D.runs.all fun r=>decide (r.v.cn<=40))=false)];exact q1)
end
end Go.Proofs.Nw
namespace Go.AV
open Go.RowKit
theorem qh{σ:Nat->Option Nat}: ∀{a b:List Value},aT σ a=some a->aT σ b=some b->aT σ (a++b)=some (a++b)
 |[],b,_,h=>h
 |x::a,b,h,k=>by
  simp only[aT] at h
  split at h
  ·rename_i u hu
   split at h
   ·rename_i m hm
    cases h
    simp only[List.cons_append,aT,hu,qh hm k]
   ·cases h
  ·cases h
theorem uI{σ:Nat->Option Nat}: ∀{rows:List (List Value)},(∀r∈rows,aT σ r=some r)->aT σ rows.flatten=some rows.flatten
 |[],_=>rfl
 |r::rows,h=>by rw[List.flatten_cons];exact qh (h r (by simp)) (uI fun x hx=>h x (by simp[hx]))
inductive Kd where
 |b
 |i (k:IntKind)
 |s
 |sl (t:TypeId)
def jJ(S:TypeId->Option (List Kd))(P:Program):List Field->Nat->Option (List Kd)
 |[],_=>some []
 |f::l,o=>match Nat.beq f.offset o,S f.type with
  |true,some a=>match Nat.beq (P.cellsOf f.type) a.length,jJ S P l (o+a.length) with
   |true,some r=>some (a++r)
   |_,_=>none
  |_,_=>none
def shapeOf(P:Program):Nat->TypeId->Option (List Kd)
 |0,_=>none
 |n+1,t=>match P.underlying t with
  |some .bool=>some [.b]
  |some (.int k)=>some [.i k]
  |some .string=>some [.s]
  |some (.slice _)=>some [.sl t]
  |some (.struct fs)=>jJ (shapeOf P n) P fs.toList 0
  |_=>none
section
variable{H:Type}(enc:TypeId × Value->H)(P:Program)(w:World)(base:Nat)
def KW:Kd->Value->Prop
 | .b,v=> ∃x,v= .bool x
 | .i k,v=> ∃n,v= .int k n/\(Lit.int k n).wf=true
 | .s,v=> ∃s:ByteArray,v= .string s/\s.size<=maxLen
 | .sl t,v=> ∃n y,DataW.trod enc P w base (fun _=>true) true n t [v]=some y
def cE:List Kd->List Value->Prop
 |[],[]=>True
 |k::l,v::r=>KW enc P w base k v/\cE l r
 |_,_=>False
end
section
variable{H:Type}{enc:TypeId × Value->H}{P:Program}{w:World}{base:Nat}
theorem cE.length: ∀{ks:List Kd} {cs:List Value},cE enc P w base ks cs->cs.length=ks.length
 |[],[],_=>rfl
 |_::_,_::_,h=>by simp[cE.length h.2]
 |[],_::_,h=>h.elim
 |_::_,[],h=>h.elim
theorem cE.e{r:List Value}(h:cE enc P w base [] r):r=[]:=by
 cases r with
 |nil=>rfl
 |cons _ _=>exact h.elim
theorem cE.c{k:Kd}{ks:List Kd}{r:List Value}(h:cE enc P w base (k::ks) r): ∃v l,r=v::l/\KW enc P w base k v/\cE enc P w base ks l:=by
 cases r with
 |nil=>exact h.elim
 |cons v l=>exact⟨v,l,rfl,h.1,h.2⟩
theorem cE.i{k:IntKind}{ks:List Kd}{r:List Value}(h:cE enc P w base (.i k::ks) r): ∃n l,r= .int k n::l/\(Lit.int k n).wf=true/\cE enc P w base ks l:=by
 obtain⟨v,l,rfl,h1,h2⟩:=h.c
 obtain⟨n,rfl,h3⟩:=h1
 exact⟨n,l,rfl,h3,h2⟩
theorem cE.b{ks:List Kd}{r:List Value}(h:cE enc P w base (.b::ks) r): ∃n l,r= .bool n::l/\cE enc P w base ks l:=by
 obtain⟨v,l,rfl,h1,h2⟩:=h.c
 obtain⟨n,rfl⟩:=h1
 exact⟨n,l,rfl,h2⟩
theorem cE.s{ks:List Kd}{r:List Value}(h:cE enc P w base (.s::ks) r): ∃(n:ByteArray)(l:List Value),r= .string n::l/\n.size<=9223372036854775807/\cE enc P w base ks l:=by
 obtain⟨v,l,rfl,h1,h2⟩:=h.c
 obtain⟨n,rfl,h3⟩:=h1
 exact⟨n,l,rfl,by unfold maxLen at h3;omega,h2⟩
theorem cE.sl{t:TypeId}{ks:List Kd}{r:List Value}(h:cE enc P w base (.sl t::ks) r): ∃v l,r=v::l/\(∃n y,DataW.trod enc P w base (fun _=>true) true n t [v]=some y)/\cE enc P w base ks l:=by
 obtain⟨v,l,rfl,h1,h2⟩:=h.c
 exact⟨v,l,rfl,h1,h2⟩
theorem cE.append: ∀{ks kt:List Kd} {cs ct:List Value},cE enc P w base ks cs->cE enc P w base kt ct->cE enc P w base (ks++kt) (cs++ct)
 |[],_,[],_,_,k=>k
 |_::_,_,_::_,_,h,k=>⟨h.1,cE.append h.2 k⟩
 |[],_,_::_,_,h,_=>h.elim
 |_::_,_,[],_,h,_=>h.elim
theorem oR{S:TypeId->Option (List Kd)}{n:Nat}(hS: ∀t sh cs x,S t=some sh->cs.length=sh.length->DataW.trod enc P w base (fun _=>true) true n t cs=some x->cE enc P w base sh cs):
 ∀(fs:List Field)(o:Nat)(sh:List Kd)(cs:List Value),jJ S P fs o=some sh->(∀f∈fs,∃x,DataW.trod enc P w base (fun _=>true) true n f.type ((cs.drop f.offset).take (P.cellsOf f.type))=some x)->cs.length=o+sh.length->cE enc P w base sh (cs.drop o)
 |[],o,sh,cs,h,_,hl=>by
  simp only[jJ,Option.some.injEq] at h
  subst h
  rw[List.drop_eq_nil_of_le (by rw[hl];simp)]
  trivial
 |f::l,o,sh,cs,h,hf,hl=>by
  unfold jJ at h
  split at h
  ·rename_i a h1 h2
   split at h
   ·rename_i r h3 h4
    cases h
    have e1:=Nat.eq_of_beq_eq_true h1
    have e3:=Nat.eq_of_beq_eq_true h3
    subst e1
    obtain⟨x,hx⟩:=hf f (by simp)
    rw[e3] at hx
    have i1:=hS _ _ _ _ h2 (by rw[List.length_take,List.length_drop,hl];simp) hx
    have i2:=oR hS l (f.offset+a.length) r cs h4 (fun g hg=>hf g (by simp[hg])) (by rw[hl];simp;omega)
    have e:cs.drop f.offset=(cs.drop f.offset).take a.length++cs.drop (f.offset+a.length):=by
     rw[←List.drop_drop,List.take_append_drop]
    rw[e]
    exact i1.append i2
   ·cases h
  ·cases h
theorem uq: ∀(fuel:Nat)(n:Nat)(t:TypeId)(sh:List Kd)(cs:List Value)(x:DataW H × List MemPlace),shapeOf P fuel t=some sh->cs.length=sh.length->DataW.trod enc P w base (fun _=>true) true n t cs=some x->cE enc P w base sh cs
 |0,_,_,_,_,_,h,_,_=>by simp[shapeOf] at h
 |fuel+1,n,t,sh,cs,x,h,hl0,hx=>by
  unfold shapeOf at h
  split at h
  ·rename_i hu;cases h
   obtain⟨v,rfl,_⟩:=DataW.trod_bool hu hx
   exact⟨⟨v,rfl⟩,trivial⟩
  ·rename_i k hu;cases h
   obtain⟨v,rfl,_,hw⟩:=DataW.trod_int hu hx
   exact⟨⟨v,rfl,hw⟩,trivial⟩
  ·rename_i hu;cases h
   obtain⟨v,rfl,_,hw⟩:=DataW.trod_string hu hx
   exact⟨⟨v,rfl,hw⟩,trivial⟩
  ·rename_i e hu;cases h
   have: ∃v,cs=[v]:=by
    rcases DataW.trod_slice hu hx with ⟨rfl,_⟩|⟨a,len,cap,_,_,_,_,rfl,_⟩<;>exact⟨_,rfl⟩
   obtain⟨v,rfl⟩:=this
   exact⟨⟨n,x,hx⟩,trivial⟩
  ·rename_i fs hu
   obtain⟨xs,m,rfl,_,hl,hlen,hf⟩:=DataW.trod_struct hu hx
   have:=oR (enc:=enc) (w:=w) (base:=base) (S:=shapeOf P fuel) (n:=m) (fun t' sh' cs' x' h1 h2 h3=>uq fuel m t' sh' cs' x' h1 h2 h3) fs.toList 0 sh cs h (fun f hf'=>?_) (by omega)
   ·simpa using this
   ·obtain⟨i,hi⟩:=List.mem_iff_getElem?.1 hf'
    have hi':fs[i]? =some f:=by simpa using hi
    have:=hf i f hi'
    have hlt:i<xs.length:=by rw[hlen];exact(Array.getElem?_eq_some_iff.1 hi').1
    exact⟨xs[i],by rw[this,List.getElem?_eq_getElem hlt]⟩
  ·cases h
theorem uk{fuel n:Nat}{t:TypeId}{sh:List Kd}{cs:List Value}{x:DataW H × List MemPlace}{fs:Array Field}(hu:P.underlying t=some (.struct fs))(hc:P.cellsOf t=sh.length)(h:shapeOf P fuel t=some sh)(hx:DataW.trod enc P w base (fun _=>true) true n t cs=some x):cE enc P w base sh cs:=by
 obtain⟨xs,m,rfl,_,hl,_⟩:=DataW.trod_struct hu hx
 exact uq fuel _ t sh cs x h (by omega) hx
def mE(w:World)(v:Value)(sz:Nat)(rows:List (List Value)):Prop:=
 (v= .slice none 0 0/\rows=[])\/((∃g o s,v= .slice (some ⟨g,o,some s⟩) 0 0)/\rows=[])\/
 ∃g o c,v= .slice (some ⟨g,o,none⟩) rows.length c/\ ∀(i:Nat)(r:List Value),rows[i]? =some r-> ∀(j:Nat)(x:Value),r[j]? =some x->w.cell? ⟨g,o+i*sz+j,none⟩=some x
theorem IJ{α β:Type}{f:α->Option β}{l:List α}{r:List β}(h:l.mapM f=some r):r.length=l.length/\ ∀(i:Nat)(x:α),l[i]? =some x->f x=r[i]? :=⟨mapM_some_length h,fun i x hx=>mapM_some_get h i x hx⟩
theorem vL{a:Addr}{n:Nat}{cs:List Value}(h:w.cells? base a n=some cs):cs.length=n/\ ∀j x,cs[j]? =some x->w.cell? (a.add j)=some x:=by
 unfold World.cells? at h
 split at h
 ·obtain⟨h1,h2⟩:=IJ h
  refine⟨by simpa using h1,fun j x hx=>?_⟩
  have hj:j<n:=by
   have:=(List.getElem?_eq_some_iff.1 hx).1
   simp at h1;omega
  have:=h2 j j (by simp[hj])
  rw[this,hx]
 ·cases h
theorem Ce{g o k:Nat}:(⟨g,o,none⟩:Addr).add k=⟨g,o+k,none⟩:=by
 unfold Addr.add
 split
 ·rename_i h;subst h;rfl
 ·rfl
theorem CM{n:Nat}{t e:TypeId}{sz:Nat}{v:Value}{x:DataW H × List MemPlace}(ht:P.underlying t=some (.slice e))(hsz:P.cellsOf e=sz)(h0:0<sz)(h:DataW.trod enc P w base (fun _=>true) true n t [v]=some x):
 ∃rows,mE w v sz rows/\ ∀r∈rows,r.length=sz/\ ∃m y,DataW.trod enc P w base (fun _=>true) true m e r=some y:=by
 rcases DataW.trod_slice ht h with ⟨h1,_⟩|⟨a,len,cap,elems,rest,m,rfl,h1,rfl,hb,hl,hm,hlen,hel,hsp,_⟩
 ·simp only[List.cons.injEq,and_true] at h1
  exact⟨[], .inl ⟨h1,rfl⟩,fun r hr=>by cases hr⟩
 ·simp only[List.cons.injEq,and_true] at h1
  subst h1
  rw[hsz] at hel hsp
  have row: ∀i,i<len-> ∃r,w.cells? base (a.add (i*sz)) sz=some r/\ ∃y,DataW.trod enc P w base (fun _=>true) true m e r=some y:=fun i hi=>by
   have h2:=hel i hi
   rw[List.getElem?_eq_getElem (by omega)] at h2
   obtain⟨r,h3,h4⟩:=Option.bind_eq_some_iff.1 h2
   exact⟨r,h3,_,h4⟩
  obtain⟨rows,hrl,hrows⟩: ∃rows:List (List Value),rows.length=len/\ ∀i (hi:i<rows.length),w.cells? base (a.add (i*sz)) sz=some rows[i]/\ ∃y,DataW.trod enc P w base (fun _=>true) true m e rows[i]=some y:=by
   classical
   refine⟨List.ofFn (n:=len) fun i=>Classical.choose (row i.1 i.2),by simp,fun i hi=>?_⟩
   have:=Classical.choose_spec (row i (by simpa using hi))
   simpa using this
  have hin: ∀r∈rows,r.length=sz/\ ∃m y,DataW.trod enc P w base (fun _=>true) true m e r=some y:=fun r hr=>by
   obtain⟨i,hi,rfl⟩:=List.mem_iff_getElem.1 hr
   obtain⟨h1,h2⟩:=hrows i hi
   exact⟨(vL h1).1,m,h2⟩
  obtain⟨g,o,sp⟩:=a
  cases sp with
  |none=>
   refine⟨rows, .inr (.inr ⟨g,o,cap,by rw[hrl],fun i r hr j x hx=>?_⟩),hin⟩
   obtain⟨hi,rfl⟩:=List.getElem?_eq_some_iff.1 hr
   have:=(vL (hrows i hi).1).2 j x hx
   rw[Ce,Ce] at this
   exact this
  |some s=>
   have hbad: ∀x,w.cell? ⟨g,o,some s⟩=some x->False:=fun x hx=>by
    unfold World.cell? at hx
    split at hx
    ·simp at hx
    ·cases hx
   have hno: ∀r,w.cells? base ⟨g,o,some s⟩ sz=some r->False:=fun r hr=>by
    obtain⟨h1,h2⟩:=vL hr
    cases r with
    |nil=>simp at h1;omega
    |cons c r=>exact hbad c (h2 0 c rfl)
   have hz:len=0:=Nat.eq_zero_of_not_pos fun hp=>by
    obtain⟨r,h3,_⟩:=row 0 hp
    rw[Nat.zero_mul] at h3
    exact hno r h3
   have hc:cap=0:=Nat.eq_zero_of_not_pos fun hp=>by
    obtain⟨h3,h4⟩:=hsp rfl
    have h5:=h4 0 (by omega)
    rw[List.getElem?_eq_getElem (by omega)] at h5
    obtain⟨r,h6,_⟩:=Option.bind_eq_some_iff.1 h5
    rw[hz] at h6
    simp only[Nat.zero_add,Nat.zero_mul] at h6
    exact hno r h6
   subst hz hc
   exact⟨rows, .inr (.inl ⟨⟨g,o,s,rfl⟩,List.length_eq_zero_iff.1 hrl⟩),hin⟩
end
theorem xW{P:Program}{w:World}{r:Reach}{b:Nat}{t e:TypeId}{a:Addr}{n c:Nat}(ht:P.underlying t=some (.slice e))(h:Cell.okWide P w r b t (.slice (some a) n c)):a.spot=none:=by
 unfold Cell.okWide at h
 rw[ht] at h
 simp only at h
 unfold Cell.ok at h
 rw[ht] at h
 exact h.2.2.2.1
def zW(F:wP)(zn:Nat)(w:World):Prop:= ∀k g o cs,F k=some (g,o,some cs)->(∃c e fr,w.heap[g]? =some (.cells c e fr))/\
 (∀i v,cs[i]? =some v-> ∃v',w.cell? ⟨g,o+i,none⟩=some v'/\VR (gz F) v v')/\ ∀σ:Nat->Option Nat,(∀j,j<zn->σ (256*j+510)=some (256*j+510))->aT σ cs=some cs
theorem JA(F:wP)(zn:Nat)(w:World)(hN: ∀k x,F k=some x->k<zn)(h:zW F zn w): ∃z,Sf z (gz F) w/\au z zn/\fL (gz F) zn/\ ∀k g o cs,F k=some (g,o,some cs)-> ∃e,z.get k=some (.ay (bg e cs)):=by
 classical
 have hE: ∃E:Nat->TypeId,∀k g o cs,F k=some (g,o,some cs)-> ∃c fr,w.heap[g]? =some (.cells c (E k) fr):=by
  refine⟨fun k=>if hk: ∃e,∃g o cs c fr,F k=some (g,o,some cs)/\w.heap[g]? =some (.cells c e fr) then Classical.choose hk else 0,fun k g o cs hF=>?_⟩
  obtain⟨⟨c,e,fr,hc⟩,_⟩:=h k g o cs hF
  have hk: ∃e,∃g o cs c fr,F k=some (g,o,some cs)/\w.heap[g]? =some (.cells c e fr):=⟨e,g,o,cs,c,fr,hF,hc⟩
  simp only[dif_pos hk]
  obtain⟨g',o',cs',c',fr',h1,h2⟩:=Classical.choose_spec hk
  rw[hF] at h1
  cases h1
  exact⟨c',fr',h2⟩
 obtain⟨E,hE⟩:=hE
 have get: ∀k o,(PB F E zn).get k=some o->k<zn/\ ∃g o' cs,F k=some (g,o',some cs)/\o= .ay (bg (E k) cs):=by
  intro k o hk
  rw[tK] at hk
  split at hk
  ·rename_i hlt
   refine⟨hlt,?_⟩
   split at hk
   ·rename_i g o' cs hF;cases hk;exact⟨g,o',cs,hF,rfl⟩
   ·cases hk
  ·cases hk
 refine⟨PB F E zn,⟨fun k o hk=>?_,fun k o hk=>?_,fun b hb=>?_⟩,fun k o hk=>?_,fun k hk=>?_,fun k g o cs hF=>⟨E k,?_⟩⟩
 ·obtain⟨_,g,o',cs,hF,rfl⟩:=get k o hk
  obtain⟨c,fr,hc⟩:=hE k g o' cs hF
  obtain⟨_,hcell,_⟩:=h k g o' cs hF
  refine⟨⟨g,o',0⟩,_,by rw[rL,hF],hc,?_⟩
  refine⟨rfl,Nat.le_refl _,fun hh=>(by cases hh),fun i v hv=>?_,fun _=>rfl,fun hh=>(by cases hh),fun hh=>(by cases hh),fun hh=>(by cases hh)⟩
  obtain⟨v',q1,q2⟩:=hcell i v hv
  refine⟨v',?_,q2⟩
  simp[World.cell?,hc] at q1
  exact q1
 ·obtain⟨_,g,o',cs,hF,rfl⟩:=get k o hk
  rfl
 ·unfold gz
  rw[if_neg (by unfold cM at hb;omega)]
 ·obtain⟨hlt,g,o',cs,hF,rfl⟩:=get k o hk
  refine⟨hlt,fun σ hσ=>?_⟩
  have:=(h k g o' cs hF).2.2 σ hσ
  unfold aC bg
  simp only[this]
 ·rw[rL]
  cases hF:F k with
  |none=>rfl
  |some x=>have:=hN k x hF;omega
 ·rw[tK,if_pos (hN k _ hF),hF]
def ie(v:Value)(cs:List Value):Option (Nat × Nat × Option (List Value)):=match v with
 | .slice (some ⟨g,o,none⟩) _ _=>some (g,o,match cs with|[]=>none|c::l=>some (c::l))
 |_=>none
def qX(k:Nat):Value->Option Addr
 | .slice (some ⟨_,_,none⟩) _ _=>some ⟨256*k+510,0,none⟩
 | .slice a _ _=>a
 |_=>none
def qV:Value->Nat
 | .slice _ n _=>n
 |_=>0
def qW:Value->Nat
 | .slice _ _ c=>c
 |_=>0
abbrev N8(k:Nat)(v:Value):Value:= .slice (qX k v) (qV v) (qW v)
section
variable{w:World}
theorem kN{F:wP}{k sz:Nat}{v:Value}{rows:List (List Value)}{cs:List Value}(h:mE w v sz rows)(hF:F k=ie v cs):VR (gz F) (N8 k v) v:=by
 rcases h with ⟨rfl,_⟩|⟨⟨g,o,s,rfl⟩,_⟩|⟨g,o,c,rfl,_⟩
 ·exact .sc _ rfl
 ·exact .sc _ rfl
 ·refine VR.sl (256*k+510) 0 _ c ⟨g,o,0⟩ ?_
  rw[rL,hF]
  rfl
theorem KG{k zn sz:Nat}{v:Value}{rows:List (List Value)}(h:mE w v sz rows)(hk:rows≠[]->k<zn)(hk':k<zn){σ:Nat->Option Nat}(hσ: ∀j,j<zn->σ (256*j+510)=some (256*j+510)):aJ σ (N8 k v)=some (N8 k v):=by
 rcases h with ⟨rfl,_⟩|⟨⟨g,o,s,rfl⟩,_⟩|⟨g,o,c,rfl,_⟩
 ·rfl
 ·rfl
 ·simp only[N8,qX,qV,qW,aJ,hσ k hk']
theorem DB{g o:Nat}{v:Value}(h:w.cell? ⟨g,o,none⟩=some v): ∃c e fr,w.heap[g]? =some (.cells c e fr):=by
 unfold World.cell? at h
 cases hc:w.heap[g]? with
 |none=>simp[hc] at h
 |some x=>cases x<;>simp[hc] at h<;>exact⟨_,_,_,rfl⟩
theorem kJ{F:wP}{zn:Nat}{v:Value}{sz:Nat}{rows arows:List (List Value)}(h:mE w v sz rows)(hl: ∀r∈arows,r.length=sz)
 (hc: ∀(i:Nat)(r:List Value)(j:Nat)(x:Value),arows[i]? =some r->r[j]? =some x-> ∃r' x',rows[i]? =some r'/\r'[j]? =some x'/\VR (gz F) x x')
 (hr: ∀σ:Nat->Option Nat,(∀j,j<zn->σ (256*j+510)=some (256*j+510))-> ∀r∈arows,aT σ r=some r)
 {g o:Nat} {cs:List Value} (he:ie v arows.flatten=some (g,o,some cs)):
 (∃c e fr,w.heap[g]? =some (.cells c e fr))/\(∀i x,cs[i]? =some x-> ∃x',w.cell? ⟨g,o+i,none⟩=some x'/\VR (gz F) x x')/\ ∀σ:Nat->Option Nat,(∀j,j<zn->σ (256*j+510)=some (256*j+510))->aT σ cs=some cs:=by
 rcases h with ⟨rfl,_⟩|⟨⟨g0,o0,s,rfl⟩,_⟩|⟨g0,off,cap,rfl,hrows⟩
 ·cases he
 ·cases he
 ·have hcs:arows.flatten=cs/\g0=g/\off=o/\cs≠[]:=by
   unfold ie at he
   simp only[Option.some.injEq,Prod.mk.injEq] at he
   obtain⟨h1,h2,h3⟩:=he
   split at h3
   ·cases h3
   ·rename_i heq;cases h3;exact⟨heq,h1,h2,by simp⟩
  obtain⟨h1,rfl,rfl,h4⟩:=hcs
  have cell: ∀i x,cs[i]? =some x-> ∃x',w.cell? ⟨g0,off+i,none⟩=some x'/\VR (gz F) x x':=by
   intro i x hx
   rw[←h1] at hx
   obtain⟨k,r,j,q1,q2,q3⟩:=BI hl hx
   obtain⟨r',x',p1,p2,p3⟩:=hc k r j x q1 q2
   refine⟨x',?_,p3⟩
   rw[q3,←Nat.add_assoc]
   exact hrows k r' p1 j x' p2
  refine⟨?_,cell,fun σ hσ=>by rw[←h1];exact uI (hr σ hσ)⟩
  cases hcs:cs with
  |nil=>exact(h4 hcs).elim
  |cons x l=>
   obtain⟨x',hx',_⟩:=cell 0 x (by rw[hcs];rfl)
   exact DB hx'
end
def sg(F:wP)(k0:Nat)(e:Option (Nat × Nat × Option (List Value))):wP:=fun k=>if k=k0 then e else F k
theorem mi{F:wP}{k0 k:Nat}{e:Option (Nat × Nat × Option (List Value))}(h:k≠k0):sg F k0 e k=F k:=if_neg h
theorem pF{F:wP}{k0:Nat}{e:Option (Nat × Nat × Option (List Value))}:sg F k0 e k0=e:=if_pos rfl
theorem GD{F:wP}{k0:Nat}{e:Option (Nat × Nat × Option (List Value))}(h:F k0=none):(gz F).le (gz (sg F k0 e)):=by
 intro b L hb
 unfold gz at hb ⊢
 split at hb
 ·rename_i hc
  rw[if_pos hc]
  have:(b - 510) / 256≠k0:=fun e'=>by rw[e',h] at hb;cases hb
  rw[mi this]
  exact hb
 ·cases hb
theorem GC{F:wP}{zn:Nat}{w:World}{v:Value}{sz:Nat}{rows:List (List Value)}(hF:zW F zn w)(hb: ∀k x,F k=some x->k<zn)(h:mE w v sz rows)(hl: ∀r∈rows,r.length=sz)
 (hp: ∀(F:wP)(i:Nat)(r:List Value)(j:Nat)(x:Value),rows[i]? =some r->r[j]? =some x-> ∃r' x',rows[i]? =some r'/\r'[j]? =some x'/\VR (gz F) x x') (hr: ∀σ,∀r∈rows,aT σ r=some r):
 zW (sg F zn (ie v rows.flatten)) (zn+1) w/\ ∀k x,sg F zn (ie v rows.flatten) k=some x->k<zn+1:=by
 have hn:F zn=none:=by
  cases hc:F zn with
  |none=>rfl
  |some x=>have:=hb zn x hc;omega
 refine⟨fun k g o cs hk=>?_,fun k x hk=>?_⟩
 ·by_cases e:k=zn
  ·subst e
   rw[pF] at hk
   exact kJ h hl (hp _) (fun σ _=>hr σ) hk
  ·rw[mi e] at hk
   obtain⟨h1,h2,h3⟩:=hF k g o cs hk
   exact⟨h1,fun i v hv=>by
    obtain⟨v',q1,q2⟩:=h2 i v hv
    exact⟨v',q1,q2.mono (GD hn)⟩,fun σ hσ=>h3 σ fun j hj=>hσ j (by omega)⟩
 ·by_cases e:k=zn
  ·omega
  ·rw[mi e] at hk
   have:=hb k x hk
   omega
end Go.AV
namespace Go.Proofs.Nw
open Go Go.AV Tryz Go.RowKit
set_option maxRecDepth 100000
theorem D9{α:Type}{row:α->List Value}{Q:α->Prop}: ∀{rows:List (List Value)},(∀r∈rows,∃x,r=row x/\Q x)-> ∃l:List α,rows=l.map row/\ ∀x∈l,Q x
 |[],_=>⟨[],rfl,fun x hx=>by cases hx⟩
 |r::rows,h=>by
  obtain⟨x,rfl,hx⟩:=h r (by simp)
  obtain⟨l,rfl,hl⟩:=D9 (rows:=rows) fun s hs=>h s (List.mem_cons_of_mem _ hs)
  exact⟨x::l,rfl,fun y hy=>by
   rcases List.mem_cons.1 hy with rfl|hy
   ·exact hx
   ·exact hl y hy⟩
structure j0 where
 sv:Value
 rv:Value
 uv:Value
 lv:Value
 pv:Value
 fv:Value
 d:Int
 w:Int
 c:Int
 stops:List bG
 ek:List ba
 runs:List nQ
 ew:List aH
 paths:List ab
 jk:List bJ
def j0.cells(N:j0):List Value:=[N.sv,N.rv,N.uv,N.lv,N.pv,N.fv,zv N.d,zv N.w,zv N.c]
def kY(v:Value):Prop:= ∀a n c,v= .slice (some a) n c->a.spot=none
structure wc(w:World)(N:j0):Prop where
 stops:mE w N.sv 4 (N.stops.map bG.row)
 ek:mE w N.rv 3 (N.ek.map ba.row)
 runs:mE w N.uv 8 (N.runs.map fun r=>r.row r.cv)
 ew:mE w N.lv 5 (N.ew.map aH.row)
 paths:mE w N.pv 4 (N.paths.map ab.row)
 jk:mE w N.fv 6 (N.jk.map bJ.row)
 calls: ∀r∈N.runs,mE w r.cv 5 (r.calls.map bd.row)
 zs: ∀x∈N.stops,x.id.size<=9223372036854775807
 zr: ∀x∈N.ek,x.id.size<=9223372036854775807
 zu: ∀x∈N.runs,x.id.size<=9223372036854775807
 zf: ∀x∈N.jk,x.id.size<=9223372036854775807
 ns:kY N.sv
 nr:kY N.rv
 nu:kY N.uv
 nl:kY N.lv
 np:kY N.pv
 nf:kY N.fv
section
variable{H:Type}{enc:TypeId × Value->H}{W:World}{base:Nat}
section
variable{P:Program}
theorem Ib{r:List Value}(h:cE enc P W base [.s, .i .i64, .b, .i .i64] r): ∃x:bG,r=x.row/\x.id.size<=9223372036854775807:=by
 obtain⟨x0,l0,rfl,z0,h0⟩:=h.s
 obtain⟨x1,l1,rfl,_,h1⟩:=h0.i
 obtain⟨x2,l2,rfl,h2⟩:=h1.b
 obtain⟨x3,l3,rfl,_,h3⟩:=h2.i
 obtain rfl:=h3.e
 exact⟨⟨x0,x1,x2,x3⟩,rfl,z0⟩
theorem FT{r:List Value}(h:cE enc P W base [.s, .i .i64, .b] r): ∃x:ba,r=x.row/\x.id.size<=9223372036854775807:=by
 obtain⟨x0,l0,rfl,z0,h0⟩:=h.s
 obtain⟨x1,l1,rfl,_,h1⟩:=h0.i
 obtain⟨x2,l2,rfl,h2⟩:=h1.b
 obtain rfl:=h2.e
 exact⟨⟨x0,x1,x2⟩,rfl,z0⟩
theorem Ie{r:List Value}(h:cE enc P W base [.s, .i .i64, .i .i64, .i .i64, .i .i64, .i .i64] r): ∃x:bJ,r=x.row/\x.id.size<=9223372036854775807:=by
 obtain⟨x0,l0,rfl,z0,h0⟩:=h.s
 obtain⟨x1,l1,rfl,_,h1⟩:=h0.i
 obtain⟨x2,l2,rfl,_,h2⟩:=h1.i
 obtain⟨x3,l3,rfl,_,h3⟩:=h2.i
 obtain⟨x4,l4,rfl,_,h4⟩:=h3.i
 obtain⟨x5,l5,rfl,_,h5⟩:=h4.i
 obtain rfl:=h5.e
 exact⟨⟨x0,x1,x2,x3,x4,x5⟩,rfl,z0⟩
theorem Ih{r:List Value}(h:cE enc P W base [.i .i64, .i .i64, .i .i64, .i .i64, .b] r): ∃x:aH,r=x.row/\True:=by
 obtain⟨x0,l0,rfl,_,h0⟩:=h.i
 obtain⟨x1,l1,rfl,_,h1⟩:=h0.i
 obtain⟨x2,l2,rfl,_,h2⟩:=h1.i
 obtain⟨x3,l3,rfl,_,h3⟩:=h2.i
 obtain⟨x4,l4,rfl,h4⟩:=h3.b
 obtain rfl:=h4.e
 exact⟨⟨x0,x1,x2,x3,x4⟩,rfl,trivial⟩
theorem Ig{r:List Value}(h:cE enc P W base [.i .i64, .i .i64, .i .i64, .b] r): ∃x:ab,r=x.row/\True:=by
 obtain⟨x0,l0,rfl,_,h0⟩:=h.i
 obtain⟨x1,l1,rfl,_,h1⟩:=h0.i
 obtain⟨x2,l2,rfl,_,h2⟩:=h1.i
 obtain⟨x3,l3,rfl,h3⟩:=h2.b
 obtain rfl:=h3.e
 exact⟨⟨x0,x1,x2,x3⟩,rfl,trivial⟩
theorem Ii{r:List Value}(h:cE enc P W base [.i .i64, .i .i64, .i .i64, .b, .b] r): ∃x:bd,r=x.row/\True:=by
 obtain⟨x0,l0,rfl,_,h0⟩:=h.i
 obtain⟨x1,l1,rfl,_,h1⟩:=h0.i
 obtain⟨x2,l2,rfl,_,h2⟩:=h1.i
 obtain⟨x3,l3,rfl,h3⟩:=h2.b
 obtain⟨x4,l4,rfl,h4⟩:=h3.b
 obtain rfl:=h4.e
 exact⟨⟨x0,x1,x2,x3,x4⟩,rfl,trivial⟩
theorem LZ{t:TypeId}{r:List Value}(h:cE enc P W base [.i .i64, .i .i64, .i .i64, .s, .i .i64, .b, .b, .sl t] r): ∃(a b c:Int)(d:ByteArray)(e:Int)(f g:Bool)(v:Value)(n:Nat)(y:DataW H × List MemPlace),r=[zv a,zv b,zv c, .string d,zv e, .bool f, .bool g,v]/\d.size<=9223372036854775807/\DataW.trod enc P W base (fun _=>true) true n t [v]=some y:=by
 obtain⟨x0,l0,rfl,_,h0⟩:=h.i
 obtain⟨x1,l1,rfl,_,h1⟩:=h0.i
 obtain⟨x2,l2,rfl,_,h2⟩:=h1.i
 obtain⟨x3,l3,rfl,z3,h3⟩:=h2.s
 obtain⟨x4,l4,rfl,_,h4⟩:=h3.i
 obtain⟨x5,l5,rfl,h5⟩:=h4.b
 obtain⟨x6,l6,rfl,h6⟩:=h5.b
 obtain⟨x7,l7,rfl,g7,h7⟩:=h6.sl
 obtain rfl:=h7.e
 obtain⟨n,y,hy⟩:=g7
 exact⟨_,_,_,_,_,_,_,_,n,y,rfl,z3,hy⟩
theorem L3{t0 t1 t2 t3 t4 t5:TypeId}{r:List Value}(h:cE enc P W base [.sl t0, .sl t1, .sl t2, .sl t3, .sl t4, .sl t5, .i .i64, .i .i64, .i .i64] r): ∃(v0 v1 v2 v3 v4 v5:Value)(a b c:Int),r=[v0,v1,v2,v3,v4,v5,zv a,zv b,zv c]/\
 (∃n y,DataW.trod enc P W base (fun _=>true) true n t0 [v0]=some y)/\(∃n y,DataW.trod enc P W base (fun _=>true) true n t1 [v1]=some y)/\(∃n y,DataW.trod enc P W base (fun _=>true) true n t2 [v2]=some y)/\
 (∃n y,DataW.trod enc P W base (fun _=>true) true n t3 [v3]=some y)/\(∃n y,DataW.trod enc P W base (fun _=>true) true n t4 [v4]=some y)/\ ∃n y,DataW.trod enc P W base (fun _=>true) true n t5 [v5]=some y:=by
 obtain⟨x0,l0,rfl,g0,h0⟩:=h.sl
 obtain⟨x1,l1,rfl,g1,h1⟩:=h0.sl
 obtain⟨x2,l2,rfl,g2,h2⟩:=h1.sl
 obtain⟨x3,l3,rfl,g3,h3⟩:=h2.sl
 obtain⟨x4,l4,rfl,g4,h4⟩:=h3.sl
 obtain⟨x5,l5,rfl,g5,h5⟩:=h4.sl
 obtain⟨x6,l6,rfl,_,h6⟩:=h5.i
 obtain⟨x7,l7,rfl,_,h7⟩:=h6.i
 obtain⟨x8,l8,rfl,_,h8⟩:=h7.i
 obtain rfl:=h8.e
 exact⟨x0,x1,x2,x3,x4,x5,x6,x7,x8,rfl,g0,g1,g2,g3,g4,g5⟩
end
theorem Jx{t:TypeId}(h:(match prog.underlying t with|some (.struct _)=>true|_=>false)=true): ∃fs,prog.underlying t=some (.struct fs):=by
 split at h
 ·exact⟨_,by assumption⟩
 ·cases h
theorem mW{n:Nat}{t e:TypeId}{sz:Nat}{v:Value}{x:DataW H × List MemPlace}{sh:List Kd}{α:Type}{row:α->List Value}{Q:α->Prop}(ht:prog.underlying t=some (.slice e))(hsz:prog.cellsOf e=sz)(h0:0<sz)(hst:(match prog.underlying e with|some (.struct _)=>true|_=>false)=true)(hsh:shapeOf prog 5 e=some sh)(hl:sh.length=sz)(hrow: ∀r,cE enc prog W base sh r-> ∃x,r=row x/\Q x)
 (h:DataW.trod enc prog W base (fun _=>true) true n t [v]=some x): ∃l:List α,mE W v sz (l.map row)/\ ∀x∈l,Q x:=by
 obtain⟨rows,h1,h2⟩:=CM ht hsz h0 h
 obtain⟨fs,hfs⟩:=Jx hst
 obtain⟨l,rfl,hl⟩:=D9 (row:=row) (Q:=Q) (rows:=rows) fun r hr=>by
  obtain⟨_,m,y,hy⟩:=h2 r hr
  exact hrow r (uk hfs (by rw[hsz,hl]) hsh hy)
 exact⟨l,h1,hl⟩
theorem LX{r:List Value}(h:cE enc prog W base [.i .i64, .i .i64, .i .i64, .s, .i .i64, .b, .b, .sl 51] r): ∃x:nQ,r=x.row x.cv/\(x.id.size<=9223372036854775807/\mE W x.cv 5 (x.calls.map bd.row)):=by
 obtain⟨a,b,c,d,e,f,g,v,n,y,rfl,hd,hy⟩:=LZ h
 ·obtain⟨l,h1,_⟩:=mW (sh:=[.i .i64, .i .i64, .i .i64, .b, .b]) (row:=bd.row) (e:=59) (sz:=5) (by kernel_rfl) (by kernel_rfl) (by decide) (by kernel_rfl) (by kernel_rfl) rfl (fun r hr=>Ii hr) hy
  exact⟨⟨a,b,c,d,e,f,g,v,l⟩,rfl,hd,h1⟩
theorem Mt{r:Reach}{b:Nat}{v0:Value}{n:Nat}{x:DataW H × List MemPlace}(hok:Value.okWide prog W r b 31 v0)(h:DataW.trod enc prog W base (fun _=>true) true n 31 v0.cells.toList=some x):
 ∃N:j0,v0= .agg ⟨N.cells⟩/\wc W N:=by
 obtain⟨fs,hfs⟩: ∃fs,prog.underlying 31=some (.struct fs):=Jx (by kernel_rfl)
 unfold Value.okWide at hok
 rw[hfs] at hok
 obtain⟨cs,rfl,hsz,ts,hts,_,hcell⟩:=hok
 have hcs:(Value.agg cs).cells.toList=cs.toList:=rfl
 rw[hcs] at h
 have hr:=uk (sh:=[.sl 22, .sl 23, .sl 24, .sl 25, .sl 26, .sl 27, .i .i64, .i .i64, .i .i64]) (fuel:=5) hfs (by kernel_rfl) (by kernel_rfl) h
 have hts':ts=[22,23,24,25,26,27,3,3,3]:=by
  have:prog.cellTypes prog.depth 31=some [22,23,24,25,26,27,3,3,3]:=by kernel_rfl
  rw[this] at hts;cases hts;rfl
 subst hts'
 obtain⟨l⟩:=cs
 obtain⟨sv,rv,uv,lv,pv,fv,d,e,f,rfl,⟨n0,y0,g0⟩,⟨n1,y1,g1⟩,⟨n2,y2,g2⟩,⟨n3,y3,g3⟩,⟨n4,y4,g4⟩,⟨n5,y5,g5⟩⟩:=L3 hr
 ·obtain⟨ls,s1,s2⟩:=mW (sh:=[.s, .i .i64, .b, .i .i64]) (row:=bG.row) (e:=84) (sz:=4) (by kernel_rfl) (by kernel_rfl) (by decide) (by kernel_rfl) (by kernel_rfl) rfl (fun r hr=>Ib hr) g0
  obtain⟨lr,r1,r2⟩:=mW (sh:=[.s, .i .i64, .b]) (row:=ba.row) (e:=86) (sz:=3) (by kernel_rfl) (by kernel_rfl) (by decide) (by kernel_rfl) (by kernel_rfl) rfl (fun r hr=>FT hr) g1
  obtain⟨lu,u1,u2⟩:=mW (sh:=[.i .i64, .i .i64, .i .i64, .s, .i .i64, .b, .b, .sl 51]) (row:=fun x:nQ=>x.row x.cv) (e:=53) (sz:=8) (by kernel_rfl) (by kernel_rfl) (by decide) (by kernel_rfl) (by kernel_rfl) rfl (fun r hr=>LX hr) g2
  obtain⟨ll,l1,_⟩:=mW (sh:=[.i .i64, .i .i64, .i .i64, .i .i64, .b]) (row:=aH.row) (e:=81) (sz:=5) (by kernel_rfl) (by kernel_rfl) (by decide) (by kernel_rfl) (by kernel_rfl) rfl (fun r hr=>Ih hr) g3
  obtain⟨lp,p1,_⟩:=mW (sh:=[.i .i64, .i .i64, .i .i64, .b]) (row:=ab.row) (e:=141) (sz:=4) (by kernel_rfl) (by kernel_rfl) (by decide) (by kernel_rfl) (by kernel_rfl) rfl (fun r hr=>Ig hr) g4
  obtain⟨lf,f1,f2⟩:=mW (sh:=[.s, .i .i64, .i .i64, .i .i64, .i .i64, .i .i64]) (row:=bJ.row) (e:=88) (sz:=6) (by kernel_rfl) (by kernel_rfl) (by decide) (by kernel_rfl) (by kernel_rfl) rfl (fun r hr=>Ie hr) g5
  have sp: ∀(i:Nat)(t e2:TypeId)(v:Value),[sv,rv,uv,lv,pv,fv,zv d,zv e,zv f][i]? =some v->[22,23,24,25,26,27,3,3,3][i % 9]? =some t->prog.underlying t=some (.slice e2)->kY v:=fun i t e' v hv ht hu a n c hvv=>by
   subst hvv
   obtain⟨u,h1,h2⟩:=hcell i _ (by simpa using hv)
   have:u=t:=by
    have h3:[22,23,24,25,26,27,3,3,3][i % 9]? =some u:=h1
    rw[h3] at ht;cases ht;rfl
   subst this
   exact xW hu h2
  refine⟨⟨sv,rv,uv,lv,pv,fv,d,e,f,ls,lr,lu,ll,lp,lf⟩,rfl,s1,r1,u1,l1,p1,f1,fun r hr=>(u2 r hr).2,s2,r2,fun r hr=>(u2 r hr).1,f2,sp 0 _ 84 _ rfl rfl (by kernel_rfl),sp 1 _ 86 _ rfl rfl (by kernel_rfl),sp 2 _ 53 _ rfl rfl (by kernel_rfl),sp 3 _ 81 _ rfl rfl (by kernel_rfl),sp 4 _ 141 _ rfl rfl (by kernel_rfl),sp 5 _ 88 _ rfl rfl (by kernel_rfl)⟩
end
def nQ.abs(j:Nat)(r:nQ):RunT:=⟨⟨r.wz,r.day,r.inst,r.id,r.eJ,r.sf,r.cancelled,qX (6+j) r.cv,qV r.cv,qW r.cv⟩,r.calls⟩
def j0.T(N:j0):gM:=⟨N.stops,N.ek,N.runs.mapIdx nQ.abs,N.ew,N.paths,N.jk⟩
def j0.V(N:j0):aw:=⟨qX 2 N.sv,qV N.sv,qW N.sv,qX 3 N.rv,qV N.rv,qW N.rv,qX 1 N.uv,qV N.uv,qW N.uv,qX 0 N.lv,qV N.lv,qW N.lv,qX 4 N.pv,qV N.pv,qW N.pv,qX 5 N.fv,qV N.fv,qW N.fv,N.d,N.w,N.c⟩
def zK(N:j0):List (List Value):=(N.runs.mapIdx nQ.abs).map fun r=>r.v.row
def j0.GF(N:j0):wP
 |0=>ie N.lv (N.ew.map aH.row).flatten
 |1=>ie N.uv (zK N).flatten
 |2=>ie N.sv (N.stops.map bG.row).flatten
 |3=>ie N.rv (N.ek.map ba.row).flatten
 |4=>ie N.pv (N.paths.map ab.row).flatten
 |5=>ie N.fv (N.jk.map bJ.row).flatten
 |j+6=>match N.runs[j]? with
  |some r=>ie r.cv (r.calls.map bd.row).flatten
  |none=>none
theorem yg{N:j0}{i:Nat}:(zK N)[i]? =(N.runs[i]?).map fun r=>(nQ.abs i r).v.row:=by
 unfold zK
 rw[List.getElem?_map,List.getElem?_mapIdx,Option.map_map]
 rfl
theorem yd{N:j0}: ∀r∈zK N,r.length=8:=by
 intro r hr
 obtain⟨x,_,rfl⟩:=List.mem_map.1 hr
 rfl
theorem F3{l:List Value}(h:bE l=true){x:Value}(hx:x∈l):aD x=true:=by
 induction l with
 |nil=>cases hx
 |cons v l ih=>
  simp only[bE] at h
  cases hv:aD v with
  |false=>simp[hv] at h
  |true=>
   rw[hv] at h
   rcases List.mem_cons.1 hx with rfl|hx
   ·exact hv
   ·exact ih h hx
theorem nj{α:Type}{F:wP}(row:α->List Value)(l:List α)(hp: ∀x,bE (row x)=true):
 (∀(i:Nat)(r:List Value)(j:Nat)(x:Value),(l.map row)[i]? =some r->r[j]? =some x-> ∃r' x',(l.map row)[i]? =some r'/\r'[j]? =some x'/\VR (gz F) x x')/\ ∀σ,∀r∈l.map row,aT σ r=some r:=by
 refine⟨fun i r j x h1 h2=>⟨r,x,h1,h2,VR.bw ?_⟩,fun σ r hr=>?_⟩
 ·obtain⟨y,_,rfl⟩:=List.mem_map.1 (List.mem_of_getElem? h1)
  exact F3 (hp y) (List.mem_of_getElem? h2)
 ·obtain⟨y,_,rfl⟩:=List.mem_map.1 hr
  exact eo (hp y)
section
variable{w:World}{N:j0}
theorem IF(h:wc w N):zW N.GF (N.runs.length+6) w:=by
 intro k g o cs hF
 match k with
 |0=>
  obtain⟨h1,h2⟩:=nj (F:=N.GF) aH.row N.ew (fun _=>rfl)
  exact kJ h.ew (aM _ fun _=>rfl) h1 (fun σ _=>h2 σ) hF
 |1=>
  refine kJ h.runs yd (fun i r j x h1 h2=>?_) (fun σ hσ r hr=>?_) hF
  ·rw[yg] at h1
   cases hc:N.runs[i]? with
   |none=>rw[hc] at h1;cases h1
   |some y=>
    rw[hc] at h1
    simp only[Option.map_some,Option.some.injEq] at h1
    subst h1
    have hy:=List.mem_of_getElem? hc
    refine⟨y.row y.cv,?_⟩
    rw[List.getElem?_map,hc]
    match j with
    |0=>cases h2;exact⟨_,rfl,rfl, .sc _ rfl⟩
    |1=>cases h2;exact⟨_,rfl,rfl, .sc _ rfl⟩
    |2=>cases h2;exact⟨_,rfl,rfl, .sc _ rfl⟩
    |3=>cases h2;exact⟨_,rfl,rfl, .sc _ rfl⟩
    |4=>cases h2;exact⟨_,rfl,rfl, .sc _ rfl⟩
    |5=>cases h2;exact⟨_,rfl,rfl, .sc _ rfl⟩
    |6=>cases h2;exact⟨_,rfl,rfl, .sc _ rfl⟩
    |7=>
     cases h2
     refine⟨_,rfl,rfl,kN (h.calls y hy) (cs:=(y.calls.map bd.row).flatten) ?_⟩
     rw[Nat.add_comm 6 i]
     show(match N.runs[i]? with|some r=>ie r.cv (r.calls.map bd.row).flatten|none=>none)=_
     rw[hc]
    |j+8=>simp[nQ.abs] at h2
  ·obtain⟨i,hi⟩:=List.mem_iff_getElem?.1 hr
   rw[yg] at hi
   cases hc:N.runs[i]? with
   |none=>rw[hc] at hi;cases hi
   |some y=>
    rw[hc] at hi
    simp only[Option.map_some,Option.some.injEq] at hi
    subst hi
    have hlt:=(List.getElem?_eq_some_iff.1 hc).1
    have:=KG (k:=6+i) (h.calls y (List.mem_of_getElem? hc)) (fun _=>by omega) (by omega) hσ
    have e: ∀x:Int,aJ σ (zv x)=some (zv x):=fun _=>rfl
    have e1: ∀s:ByteArray,aJ σ (.string s)=some (.string s):=fun _=>rfl
    have e2: ∀s:Bool,aJ σ (.bool s)=some (.bool s):=fun _=>rfl
    simp only[nQ.abs,aT,e,e1,e2,this]
 |2=>
  obtain⟨h1,h2⟩:=nj (F:=N.GF) bG.row N.stops (fun _=>rfl)
  exact kJ h.stops (aM _ fun _=>rfl) h1 (fun σ _=>h2 σ) hF
 |3=>
  obtain⟨h1,h2⟩:=nj (F:=N.GF) ba.row N.ek (fun _=>rfl)
  exact kJ h.ek (aM _ fun _=>rfl) h1 (fun σ _=>h2 σ) hF
 |4=>
  obtain⟨h1,h2⟩:=nj (F:=N.GF) ab.row N.paths (fun _=>rfl)
  exact kJ h.paths (aM _ fun _=>rfl) h1 (fun σ _=>h2 σ) hF
 |5=>
  obtain⟨h1,h2⟩:=nj (F:=N.GF) bJ.row N.jk (fun _=>rfl)
  exact kJ h.jk (aM _ fun _=>rfl) h1 (fun σ _=>h2 σ) hF
 |j+6=>
  have hF':(match N.runs[j]? with|some r=>ie r.cv (r.calls.map bd.row).flatten|none=>none)=some (g,o,some cs):=hF
  split at hF'
  ·rename_i r hr
   obtain⟨h1,h2⟩:=nj (F:=N.GF) bd.row r.calls (fun _=>rfl)
   exact kJ (h.calls r (List.mem_of_getElem? hr)) (aM _ fun _=>rfl) h1 (fun σ _=>h2 σ) hF'
  ·cases hF'
theorem C3(N:j0): ∀k x,N.GF k=some x->k<N.runs.length+6:=by
 intro k x h
 match k with
 |0|1|2|3|4|5=>omega
 |j+6=>
  have h':(match N.runs[j]? with|some r=>ie r.cv (r.calls.map bd.row).flatten|none=>none)=some x:=h
  split at h'
  ·rename_i r hr
   have:=(List.getElem?_eq_some_iff.1 hr).1
   omega
  ·cases h'
theorem o8{k sz:Nat}{v:Value}{rows:List (List Value)}{m:Nat}(h:mE w v sz rows)(hn:kY v)(hm:rows.length=m):pP k (qX k v) (qV v) (qW v) m:=by
 subst hm
 rcases h with ⟨rfl,rfl⟩|⟨⟨g,o,s,rfl⟩,rfl⟩|⟨g,o,c,rfl,_⟩
 ·exact .inl ⟨rfl,rfl,rfl,rfl⟩
 ·have:=hn _ _ _ rfl;cases this
 ·exact .inr ⟨rfl,rfl⟩
theorem PR{k sz:Nat}{v:Value}{rows:List (List Value)}{m:Nat}(h:mE w v sz rows)(hm:rows.length=m):S8 k (qX k v) (qV v) (qW v) m:=by
 subst hm
 rcases h with ⟨rfl,rfl⟩|⟨⟨g,o,s,rfl⟩,rfl⟩|⟨g,o,c,rfl,_⟩
 ·exact .inl (.inl ⟨rfl,rfl,rfl,rfl⟩)
 ·exact .inr ⟨⟨g,o,s,rfl⟩,rfl,rfl,rfl⟩
 ·exact .inl (.inr ⟨rfl,rfl⟩)
theorem Nu{sz:Nat}(hs:0<sz){rows:List (List Value)}(hl: ∀r∈rows,r.length=sz)(h:rows≠[]):rows.flatten≠[]:=by
 cases rows with
 |nil=>exact(h rfl).elim
 |cons r rows=>
  have:=hl r (by simp)
  cases r with
  |nil=>simp at this;omega
  |cons v r=>simp
theorem As{F:wP}{z:T aa}{k sz:Nat}{v:Value}{rows ar:List (List Value)}(hg: ∀k g o cs,F k=some (g,o,some cs)-> ∃e,z.get k=some (.ay (bg e cs)))(h:mE w v sz rows)(hn:ar.length=rows.length)(hs:0<sz)(hl: ∀r∈ar,r.length=sz)
 (hF:F k=ie v ar.flatten) (hsz: ∀r∈ar,∀s:ByteArray,Value.string s∈r->s.size<=9223372036854775807):bM z k ar:=by
 refine⟨fun hne=>?_,hsz⟩
 have hr:rows≠[]:=fun e=>by rw[e] at hn;exact hne (List.length_eq_zero_iff.1 hn)
 rcases h with ⟨_,e⟩|⟨_,e⟩|⟨g,off,cap,rfl,_⟩
 ·exact(hr e).elim
 ·exact(hr e).elim
 ·have hf:=Nu hs hl hne
  cases hc:ar.flatten with
  |nil=>exact(hf hc).elim
  |cons x l=>
   rw[hc] at hF
   exact hg k g off (x::l) hF
theorem Qj(h:wc w N){F:wP}(hF: ∀k,k<N.runs.length+6->F k=N.GF k){z:T aa}(h4: ∀k g o cs,F k=some (g,o,some cs)-> ∃e,z.get k=some (.ay (bg e cs))):dt z N.V N.T:=by
 have cc: ∀(j:Nat)(r:nQ),N.runs[j]? =some r->bM z (6+j) (r.calls.map bd.row):=fun j r hr=>by
  refine As h4 (h.calls r (List.mem_of_getElem? hr)) rfl (by decide) (aM _ fun _=>rfl) ((hF (6+j) (by have:=(List.getElem?_eq_some_iff.1 hr).1;omega)).trans ?_) (fun r hr s hs=>?_)
  ·rw[Nat.add_comm 6 j]
   show(match N.runs[j]? with|some r=>ie r.cv (r.calls.map bd.row).flatten|none=>none)=_
   rw[hr]
  ·obtain⟨x,_,rfl⟩:=List.mem_map.1 hr
   simp at hs
 have gr: ∀(j:Nat)(r:RunT),(N.runs.mapIdx nQ.abs)[j]? =some r-> ∃y,N.runs[j]? =some y/\r=nQ.abs j y:=fun j r hr=>by
  rw[List.getElem?_mapIdx] at hr
  cases hc:N.runs[j]? with
  |none=>rw[hc] at hr;cases hr
  |some y=>rw[hc] at hr;cases hr;exact⟨y,rfl,rfl⟩
 exact {
  s:=o8 h.stops h.ns (by simp[j0.T])
  r:=o8 h.ek h.nr (by simp[j0.T])
  u:=o8 h.runs h.nu (by simp[j0.T])
  l:=o8 h.ew h.nl (by simp[j0.T])
  p:=o8 h.paths h.np (by simp[j0.T])
  f:=o8 h.jk h.nf (by simp[j0.T])
  ts:=As h4 h.stops rfl (by decide) (aM _ fun _=>rfl) (hF 2 (by omega)) (fun r hr s hs=>by
   obtain⟨x,hx,rfl⟩:=List.mem_map.1 hr
   have:=h.zs x hx
   simp at hs;subst hs;exact this)
  tr:=As h4 h.ek rfl (by decide) (aM _ fun _=>rfl) (hF 3 (by omega)) (fun r hr s hs=>by
   obtain⟨x,hx,rfl⟩:=List.mem_map.1 hr
   have:=h.zr x hx
   simp at hs;subst hs;exact this)
  tu:={
   HT:=As h4 h.runs (by simp[j0.T]) (by decide) (yd (N:=N)) (hF 1 (by omega)) (fun r hr s hs=>by
    obtain⟨x,hx,rfl⟩:=List.mem_map.1 hr
    obtain⟨i,hi⟩:=List.mem_iff_getElem?.1 hx
    obtain⟨y,hy,rfl⟩:=gr i x hi
    have:=h.zu y (List.mem_of_getElem? hy)
    simp[nQ.abs] at hs;subst hs;exact this)
   sl:=fun j r hr=>by
    obtain⟨y,hy,rfl⟩:=gr j r hr
    exact PR (h.calls y (List.mem_of_getElem? hy)) (by simp[nQ.abs])
   calls:=fun j r hr=>by
    obtain⟨y,hy,rfl⟩:=gr j r hr
    exact cc j y hy}
  tl:=As h4 h.ew rfl (by decide) (aM _ fun _=>rfl) (hF 0 (by omega)) (fun r hr s hs=>by
   obtain⟨x,hx,rfl⟩:=List.mem_map.1 hr
   simp at hs)
  tp:=As h4 h.paths rfl (by decide) (aM _ fun _=>rfl) (hF 4 (by omega)) (fun r hr s hs=>by
   obtain⟨x,hx,rfl⟩:=List.mem_map.1 hr
   simp at hs)
  tf:=As h4 h.jk rfl (by decide) (aM _ fun _=>rfl) (hF 5 (by omega)) (fun r hr s hs=>by
   obtain⟨x,hx,rfl⟩:=List.mem_map.1 hr
   have:=h.zf x hx
   simp at hs;subst hs;exact this)}
theorem Ms(h:wc w N){F:wP}(hF: ∀k,k<N.runs.length+6->F k=N.GF k){l l':List Value}(hl:c7 (gz F) l l'):c7 (gz F) (.agg ⟨N.V.cells⟩::l) (.agg ⟨N.cells⟩::l'):=by
 exact .cons _ _ _ _ (.agg _ _ (.cons _ _ _ _ (kN h.stops (hF 2 (by omega))) (.cons _ _ _ _ (kN h.ek (hF 3 (by omega))) (.cons _ _ _ _ (kN h.runs (hF 1 (by omega))) (.cons _ _ _ _ (kN h.ew (hF 0 (by omega))) (.cons _ _ _ _ (kN h.paths (hF 4 (by omega))) (.cons _ _ _ _ (kN h.jk (hF 5 (by omega)))
  (.cons _ _ _ _ (.sc _ rfl) (.cons _ _ _ _ (.sc _ rfl) (.cons _ _ _ _ (.sc _ rfl) .nil)))))))))) hl
end
end Go.Proofs.Nw
