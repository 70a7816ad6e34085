/-
  A part of the proof: lemmas of my own.
-/
import Derived.Test.YtahphlnjdhnkdaaGreatPE
import Derived.ChangeArms
import Derived.DataReads
import Derived.ProofKit
import Derived.ChangeMaps
import Derived.Test.YtahphlnjdhnkdaaGreatProg
import Derived.KernelRfl
set_option linter.unusedVariables false
set_option linter.unusedSimpArgs false
namespace Go.Proofs.Nw
open Go Go.AV
set_option maxHeartbeats 1000000
set_option maxRecDepth 100000
structure qu where
 stops:List bS
 fw:List bd
 runs:List RunT
 dU:List aF
 paths:List ae
 iG:List bM
structure gJ(z:T aa)(N:aC)(D:qu):Prop where
 s:Ar 2 N.sa N.ns N.sc D.stops.length
 r:Ar 3 N.ra N.nr N.rc D.fw.length
 u:Ar 1 N.ua N.nu N.uc D.runs.length
 l:Ar 0 N.la N.nl N.lc D.dU.length
 p:Ar 4 N.pa N.np N.pc D.paths.length
 f:Ar 5 N.fa N.nf N.fc D.iG.length
 ts:cu z 2 (D.stops.map bS.row)
 tr:cu z 3 (D.fw.map bd.row)
 tu:pM z D.runs
 tl:cu z 0 (D.dU.map aF.row)
 tp:cu z 4 (D.paths.map ae.row)
 tf:cu z 5 (D.iG.map bM.row)
theorem mO{k:Nat}{a:Option Addr}{n c len:Nat}(h:Ar k a n c len)(σ:bA):aX (az σ []) (.slice a n c)=some (.slice a n c):=by
 rcases h with ⟨rfl,rfl,rfl,_⟩|⟨rfl,rfl⟩
 ·rfl
 ·exact aT σ k _ _
theorem fP{k:Nat}{a:Option Addr}{n c len:Nat}(h:Ar k a n c len)(σ:bA):aX (sig σ) (.slice a n c)=some (.slice a n c):=by
 rcases h with ⟨rfl,rfl,rfl,_⟩|⟨rfl,rfl⟩
 ·rfl
 ·have:sig σ (256*k+510)=some (256*k+510):=by
   unfold sig
   rw[Nat.ble_eq_true_of_le (by unfold cL;omega)]
  simp only[aX,this]
section
variable{z:T aa}{zn:Nat}{N:aC}{D:qu}
theorem gJ.N8(h:gJ z N D)(σ:bA):bz (az σ []) N.cells=some N.cells:=by
 have e: ∀x:Int,aX (az σ []) (zv x)=some (zv x):=fun _=>rfl
 simp only[bz,mO h.s,mO h.r,mO h.u,mO h.l,mO h.p,mO h.f,e]
theorem gJ.N7(h:gJ z N D)(σ:bA):bz (sig σ) N.cells=some N.cells:=by
 have e: ∀x:Int,aX (sig σ) (zv x)=some (zv x):=fun _=>rfl
 simp only[bz,fP h.s,fP h.r,fP h.u,fP h.l,fP h.p,fP h.f,e]
theorem gJ.box(h:gJ z N D)(σ:bA):aG (az σ []) N.box=some N.box:=by
 simp only[aG,h.N8]
theorem gJ.val(h:gJ z N D)(σ:bA):aX (sig σ) (.agg ⟨N.cells⟩)=some (.agg ⟨N.cells⟩):=by
 simp only[aX,h.N7]
theorem FB(hz:aq z zn){a:Option Addr}{n c:Nat}{l:List bS}(h:Ar 2 a n c l.length)(ht:cu z 2 (l.map bS.row)):
 A1 z zn 79 [.slice a n c] [] 0 0 (.tuple ⟨[zv (cD l).1,zv (cD l).2]⟩) []/\A1 z zn 87 [.slice a n c] [] 0 0 (.tuple ⟨[zv (cD l).1,zv (cD l).2]⟩) []:=by
 rcases h with ⟨rfl,rfl,rfl,h⟩|⟨rfl,rfl⟩
 ·have:=List.length_eq_zero_iff.1 h
  subst this
  exact⟨KE hz (fB z),Er hz (fB z)⟩
 ·exact⟨N9 hz (fB z) l c ht,Hy hz (fB z) l c ht⟩
theorem B9(hz:aq z zn){a:Option Addr}{n c:Nat}{l:List bd}(h:Ar 3 a n c l.length)(ht:cu z 3 (l.map bd.row)):
 A1 z zn 80 [.slice a n c] [] 0 0 (.tuple ⟨[zv (cC l).1,zv (cC l).2]⟩) []/\A1 z zn 88 [.slice a n c] [] 0 0 (.tuple ⟨[zv (cC l).1,zv (cC l).2]⟩) []:=by
 rcases h with ⟨rfl,rfl,rfl,h⟩|⟨rfl,rfl⟩
 ·have:=List.length_eq_zero_iff.1 h
  subst this
  exact⟨HA hz (fB z),BI hz (fB z)⟩
 ·exact⟨KI hz (fB z) l c ht,Es hz (fB z) l c ht⟩
theorem FD(hz:aq z zn){a:Option Addr}{n c:Nat}{l:List bM}(h:Ar 5 a n c l.length)(ht:cu z 5 (l.map bM.row))(d w cc:Int):
 A1 z zn 85 [.agg ⟨[.slice a n c,zv d,zv w,zv cc]⟩] [] 0 0 (.tuple ⟨[zv (bD d w cc l).1,zv (bD d w cc l).2]⟩) []/\A1 z zn 92 [.agg ⟨[.slice a n c,zv d,zv w,zv cc]⟩] [] 0 0 (.tuple ⟨[zv (bD d w cc l).1,zv (bD d w cc l).2]⟩) []:=by
 rcases h with ⟨rfl,rfl,rfl,h⟩|⟨rfl,rfl⟩
 ·have:=List.length_eq_zero_iff.1 h
  subst this
  exact⟨KM hz (fB z) d w cc,Eu hz (fB z) d w cc⟩
 ·exact⟨Of hz (fB z) l c ht d w cc,HG hz (fB z) l c ht d w cc⟩
theorem KH(hz:aq z zn)(N:aC)(hnet: ∀σ:bA,aG (az σ []) (N.cB ay N.l0)=some (N.cB ay N.l0)):
 A1 z zn 83 [.agg ⟨N.dS ay N.l0⟩] [] 0 0 (.agg ⟨[I 0,I 0,I 0]⟩) []:=by
 have hL:ai Tryz.prog (ah (ag Tryz.f83) 0) 3 96 DL [(0,N.cB ay N.l0),(1,cZ 0 0 0),(2,bt [])] 3 z zn (Al.R (Up z zn N).l):=by
  refine ak hD (fB z) (α:=Unit) 3 96 3 (fun i=>True) (fun i=>DL) (fun i=>[(0,N.cB ay N.l0),(1,cZ 0 0 0),(2,bt [])]) (fun _=>z) (fun _=>zn) (fun i=>0) _ (fun i hI=>?_) () trivial
  refine t100 (XM z zn N (aj _ _ _ _ _ _ _ _ _) ?_)
  (repeat' first|(with_reducible first|exact rfl|exact True.intro|assumption|apply And.intro|exact hz|exact hnet _)|exact(rfl:Int.ofNat _=_)|exact hz|exact hnet _|intro hq)
  all_goals first|exact bE trivial|trace_state
 refine aY (fB z) (fn:=Tryz.f83) (by kernel_rfl) (by kernel_rfl) hz ⟨by decide,by decide⟩ rfl (Zx z zn N _ ?_)
 (repeat' first|(with_reducible first|exact rfl|exact True.intro|assumption|apply And.intro|exact hz|exact hL|exact hnet _|exact q1)|exact(rfl:Int.ofNat _=_)|exact hz|exact hL|exact hnet _|exact q1|intro hq)
theorem M6(hz:aq z zn)(h:gJ z N D):
 A1 z zn 83 [.agg ⟨N.cells⟩] [] 0 0 (.agg ⟨[zv (if (c7 N.ns N.nr D.runs).2=0 then 0 else 2),zv (c7 N.ns N.nr D.runs).1,zv (c7 N.ns N.nr D.runs).2]⟩) []:=by
 obtain⟨sa,ns,sc,ra,nr,rc,ua,nu,uc,la,nl,lc,pa,np,pc,fa,nf,fc,d,w,c⟩:=N
 have hb:=h.box
 rcases h.u with ⟨h1,h2,h3,h4⟩|⟨h1,h2⟩<;>simp only at h1 h2
 ·simp only at h3
  subst h1 h2 h3
  rw[List.length_eq_zero_iff.1 h4]
  exact KH hz _ hb
 ·subst h1 h2
  exact Oc hz (fB z) _ D.runs rfl h.tu hb
theorem M7(hz:aq z zn)(h:gJ z N D)(hl:D.runs.length<100000)(i:Nat)(hi:i<N.nu):
 A1 z zn 89 [.agg ⟨N.cells⟩,iv i] [] 0 0 (zv ((du N.ns N.nr D.runs i).getD 0)) []:=by
 obtain⟨sa,ns,sc,ra,nr,rc,ua,nu,uc,la,nl,lc,pa,np,pc,fa,nf,fc,d,w,c⟩:=N
 have hb:=h.box
 rcases h.u with ⟨h1,h2,h3,h4⟩|⟨h1,h2⟩<;>simp only at h1 h2
 ·simp only at hi;omega
 ·subst h1 h2
  exact Od hz (fB z) _ D.runs hl rfl h.tu hb i hi
theorem Jd(hz:aq z zn)(h:gJ z N D)(hU:mD D.runs):
 A1 z zn 84 [.agg ⟨N.cells⟩] [] 0 0 (.agg ⟨[zv (if (bO D.runs D.dU).2=0 then 0 else 3),zv (bO D.runs D.dU).1,zv (bO D.runs D.dU).2]⟩) []:=by
 obtain⟨sa,ns,sc,ra,nr,rc,ua,nu,uc,la,nl,lc,pa,np,pc,fa,nf,fc,d,w,c⟩:=N
 have hb:=h.box
 rcases h.l with ⟨k1,k2,k3,k4⟩|⟨k1,k2⟩<;>simp only at k1 k2
 ·simp only at k3
  subst k1 k2 k3
  rw[List.length_eq_zero_iff.1 k4]
  exact HN hz (fB z) _ hb
 ·subst k1 k2
  rcases h.u with ⟨h1,h2,h3,h4⟩|⟨h1,h2⟩<;>simp only at h1 h2
  ·simp only at h3
   subst h1 h2 h3
   rw[List.length_eq_zero_iff.1 h4]
   exact HO hz (fB z) _ D.dU rfl h.tl hb
  ·subst h1 h2
   exact KP hz (fB z) _ D.runs D.dU rfl rfl h.tl h.tu hU hb
theorem Jb(hz:aq z zn)(h:gJ z N D)(hU:mD D.runs)(hl:D.dU.length<100000)(i:Nat)(hi:i<N.nl):
 A1 z zn 90 [.agg ⟨N.cells⟩,iv i] [] 0 0 (zv ((eN D.runs D.dU i).getD 0)) []:=by
 obtain⟨sa,ns,sc,ra,nr,rc,ua,nu,uc,la,nl,lc,pa,np,pc,fa,nf,fc,d,w,c⟩:=N
 have hb:=h.box
 have hv:=h.val []
 rcases h.l with ⟨k1,k2,k3,k4⟩|⟨k1,k2⟩<;>simp only at k1 k2
 ·simp only at hi;omega
 ·subst k1 k2
  obtain⟨x,hx⟩:=ey hi
  have e:(eN D.runs D.dU i).getD 0=ig D.runs D.dU i x:=by
   unfold eN
   rw[hx]
   simp only
   split
   ·rename_i h0;rw[h0];rfl
   ·rfl
  rw[e]
  rcases h.u with ⟨h1,h2,h3,h4⟩|⟨h1,h2⟩<;>simp only at h1 h2
  ·simp only at h3
   subst h1 h2 h3
   rw[List.length_eq_zero_iff.1 h4]
   exact HC hz (fB z) _ D.dU rfl h.tl i x hx
  ·subst h1 h2
   exact KJ hz (fB z) _ D.runs D.dU hl rfl rfl h.tl h.tu hU hb (jg hv rfl) i x hx
noncomputable def ft(n:Nat)(l:List ae):Int × Int:=by
 classical
 exact if (aS n l).2≠0 then aS n l else if gI n l=l then (0,0) else (0,18)
theorem pz(n:Nat)(l:List ae)[Decidable (gI n l=l)]:ft n l=if (aS n l).2≠0 then aS n l else if gI n l=l then (0,0) else (0,18):=by
 unfold ft
 congr
theorem Jc(hz:aq z zn)(h:gJ z N D)(hn:N.ns<=64)(hll:D.paths.length<=10000):
 A1 z zn 86 [.agg ⟨N.cells⟩] [] 0 0 (.agg ⟨[zv (if (ft N.ns D.paths).2=0 then 0 else 4),zv (ft N.ns D.paths).1,zv (ft N.ns D.paths).2]⟩) []:=by
 classical
 obtain⟨sa,ns,sc,ra,nr,rc,ua,nu,uc,la,nl,lc,pa,np,pc,fa,nf,fc,d,w,c⟩:=N
 have hb:=h.box
 rcases h.p with ⟨k1,k2,k3,k4⟩|⟨k1,k2⟩<;>simp only at k1 k2
 ·simp only at k3 hn
  subst k1 k2 k3
  rw[List.length_eq_zero_iff.1 k4]
  have e:ft ns []=(0,0):=by rw[pz,if_neg (by simp[aS,scan]),if_pos (tQ _)]
  show A1 z zn _ _ [] 0 0 (.agg ⟨[zv (if (ft ns []).2=0 then 0 else 4),zv (ft ns []).1,zv (ft ns []).2]⟩) []
  rw[e]
  exact Ez hz _ hn hb
 ·subst k1 k2
  refine HL hz _ hn D.paths rfl hll hb h.tp (if (ft ns D.paths).2=0 then 0 else 4,(ft ns D.paths).1,(ft ns D.paths).2) ?_
  rw[pz]
  show _=if (aS ns D.paths).2≠0 then (4,aS ns D.paths) else if gI ns D.paths=D.paths then (0,0,0) else (4,0,18)
  by_cases h1:(aS ns D.paths).2=0<;>by_cases h2:gI ns D.paths=D.paths<;>simp[h1,h2]
theorem FC(hz:aq z zn)(h5:5<=zn)(h:gJ z N D)(hn:N.ns<=64):
 A1 z zn 91 [.agg ⟨N.cells⟩] [] 0 0 (.tuple ⟨[zv (ft N.ns D.paths).1,zv (ft N.ns D.paths).2]⟩) []:=by
 classical
 obtain⟨sa,ns,sc,ra,nr,rc,ua,nu,uc,la,nl,lc,pa,np,pc,fa,nf,fc,d,w,c⟩:=N
 have hb:=h.box
 rcases h.p with ⟨k1,k2,k3,k4⟩|⟨k1,k2⟩<;>simp only at k1 k2
 ·simp only at k3 hn
  subst k1 k2 k3
  rw[List.length_eq_zero_iff.1 k4]
  have e:ft ns []=(0,0):=by rw[pz,if_neg (by simp[aS,scan]),if_pos (tQ _)]
  show A1 z zn _ _ [] 0 0 (.tuple ⟨[zv (ft ns []).1,zv (ft ns []).2]⟩) []
  rw[e]
  exact Et hz h5 _ hn hb
 ·subst k1 k2
  exact Hz hz h5 _ hn D.paths rfl hb h.tp (ft ns D.paths) (pz _ _)
noncomputable def ed(N:aC)(D:qu):Int × Int × Int:=gU (cD D.stops) (cC D.fw) (2,c7 N.ns N.nr D.runs) (3,bO D.runs D.dU) (4,ft N.ns D.paths) (bD N.d N.w N.c D.iG)
theorem xx(s r u k p f:Int × Int):gU s r (if u.2=0 then 0 else 2,u) (if k.2=0 then 0 else 3,k) (if p.2=0 then 0 else 4,p) f=gU s r (2,u) (3,k) (4,p) f:=by
 unfold gU
 by_cases h1:u.2=0<;>by_cases h2:k.2=0<;>by_cases h3:p.2=0<;>simp[h1,h2,h3]
theorem kH{k:Nat}{a:Option Addr}{n c len:Nat}(h:Ar k a n c len):n=len:=by
 rcases h with ⟨_,rfl,_,rfl⟩|⟨_,rfl⟩<;>rfl
theorem wT{l:List bS}(h:(cD l).2=0):l.length<=64:=by
 unfold cD at h
 split at h
 ·cases h
 ·omega
theorem lF{f:Nat->Option Nat}{v:Value}(h:aX f v=some v):bz f [v]=some [v]:=by simp only[bz,h]
theorem HW(hz:aq z zn)(h:gJ z N D)(hll:D.paths.length<=10000):
 A1 z zn 39 [.agg ⟨N.cells⟩] [] 0 0 (.tuple ⟨[zv (ed N D).1,zv (ed N D).2.1,zv (ed N D).2.2]⟩) []:=by
 have:=KR hz (fB z) N (cD D.stops) (cC D.fw) (if (c7 N.ns N.nr D.runs).2=0 then 0 else 2,c7 N.ns N.nr D.runs) (if (bO D.runs D.dU).2=0 then 0 else 3,bO D.runs D.dU) (if (ft N.ns D.paths).2=0 then 0 else 4,ft N.ns D.paths) (bD N.d N.w N.c D.iG)
  (lF (h.val [])) (lF (fP h.s _)) (lF (fP h.r _)) (lF (by
    have e: ∀x:Int,aX (sig []) (zv x)=some (zv x):=fun _=>rfl
    have e2:=fP h.f []
    have e3:bz (sig []) [.slice N.fa N.nf N.fc,zv N.d,zv N.w,zv N.c]=some [.slice N.fa N.nf N.fc,zv N.d,zv N.w,zv N.c]:=by simp only[bz,e2,e]
    show(match bz (sig []) [.slice N.fa N.nf N.fc,zv N.d,zv N.w,zv N.c] with|some m=>some (Value.agg ⟨m⟩)|none=>none)=_
    rw[e3]))
  (FB hz h.s h.ts).1 (B9 hz h.r h.tr).1 (fun _ _=>M6 hz h) (fun _ _ hu=>Jd hz h (vg (ns:=N.ns) (nr:=N.nr) (by simpa using hu)))
  (fun hs _ _ _=>Jc hz h (by have:=kH h.s;have:=wT hs;omega) hll) (FD hz h.f h.tf N.d N.w N.c).1
 rw[xx] at this
 exact this
theorem Ew(hz:aq z zn)(h5:5<=zn)(h:gJ z N D):
 A1 z zn 42 [.agg ⟨N.cells⟩] [] 0 0 (.tuple ⟨[zv (ed N D).1,zv (ed N D).2.1,zv (ed N D).2.2]⟩) []:=by
 have hun:=kH h.u
 have hln:=kH h.l
 refine HH hz (fB z) N (cD D.stops) (cC D.fw) (ft N.ns D.paths) (bD N.d N.w N.c D.iG) (c7 N.ns N.nr D.runs) (bO D.runs D.dU) (fun i=>(du N.ns N.nr D.runs i).getD 0) (fun i=>(eN D.runs D.dU i).getD 0)
  h.box (h.val []) (lF (fP h.s _)) (lF (fP h.r _)) (lF (by
   have e: ∀x:Int,aX (sig []) (zv x)=some (zv x):=fun _=>rfl
   have e2:=fP h.f []
   have e3:bz (sig []) [.slice N.fa N.nf N.fc,zv N.d,zv N.w,zv N.c]=some [.slice N.fa N.nf N.fc,zv N.d,zv N.w,zv N.c]:=by simp only[bz,e2,e]
   show(match bz (sig []) [.slice N.fa N.nf N.fc,zv N.d,zv N.w,zv N.c] with|some m=>some (Value.agg ⟨m⟩)|none=>none)=_
   rw[e3]))
  (FB hz h.s h.ts).2 (B9 hz h.r h.tr).2 (fun _ _ h1024 i hi _=>M7 hz h (by omega) i hi) (by rw[hun];exact M8 _ _ _) (fun _ _ hu h1024 i hi _=>Jb hz h (vg (ns:=N.ns) (nr:=N.nr) hu) (by omega) i hi) (by rw[hln];exact Ka _ _)
  (fun hs _ _ _=>FC hz h5 h (by have:=kH h.s;have:=wT hs;omega)) (FD hz h.f h.tf N.d N.w N.c).2
end
theorem Fy{k:Nat}{a:Option Addr}{n c len:Nat}(h:Ar k a n c len)(hn:0<n):a=some ⟨256*k+510,0,none⟩:=by
 rcases h with ⟨_,q,_⟩|⟨q,_⟩
 ·omega
 ·exact q
section
variable{z:T aa}{N:aC}{D:qu}
theorem gJ.run(h:gJ z N D){k:Nat}{x:RunT}(hx:D.runs[k]? =some x): ∃kl,z.get 1=some (.ax kl)/\aB Tryz.prog kl 53 (0+k*8)=some (.agg ⟨x.v.row⟩)/\aB Tryz.prog kl 4 (0+k*8+6)=some (.bool x.v.cancelled)/\aB Tryz.prog kl 51 (0+k*8+7)=some (.slice x.v.ca x.v.cn x.v.cc):=by
 obtain⟨el,hel⟩:=h.tu.I1.ax (i:=k) (by simpa using (List.getElem?_eq_some_iff.1 hx).1)
 have hlen:=aO (row:=fun r:RunT=>r.v.row) (sz:=8) D.runs fun _=>rfl
 have hr:(D.runs.map fun r:RunT=>r.v.row)[k]? =some x.v.row:=by rw[List.getElem?_map,hx];rfl
 exact⟨_,hel,bJ (r:=x.v.row) (sz:=8) Tryz.underlying53 rfl rfl hlen hr,bh Tryz.underlying4 rfl hlen hr rfl,bh Tryz.underlying51 rfl hlen hr rfl⟩
theorem gJ.call(h:gJ z N D){k:Nat}{x:RunT}(hx:D.runs[k]? =some x){i:Nat}{c:bB}(hc:x.calls[i]? =some c):x.v.ca=some ⟨256*(6+k)+510,0,none⟩/\x.v.cn=x.calls.length/\ ∃kl,z.get (6+k)=some (.ax kl)/\aB Tryz.prog kl 3 (0+i*5+1)=some (zv c.arr)/\aB Tryz.prog kl 3 (0+i*5+2)=some (zv c.dep):=by
 have hi:=(List.getElem?_eq_some_iff.1 hc).1
 obtain⟨el,hel⟩:=(h.tu.calls k x hx).ax (i:=i) (by simpa using hi)
 have hs:x.v.ca=some ⟨256*(6+k)+510,0,none⟩/\x.v.cn=x.calls.length:=by
  rcases h.tu.sl k x hx with (⟨_,_,_,h4⟩|h)|⟨_,_,_,h4⟩
  ·omega
  ·exact h
  ·omega
 have hlen:=aO (row:=bB.row) (sz:=5) x.calls fun _=>rfl
 have hr:(x.calls.map bB.row)[i]? =some c.row:=by rw[List.getElem?_map,hc];rfl
 exact⟨hs.1,hs.2,_,hel,bh Tryz.underlying3 rfl hlen hr rfl,bh Tryz.underlying3 rfl hlen hr rfl⟩
end
theorem PW{z:T aa}(n a b:Int):mJ Tryz.prog z 43 [zv n,zv a,zv b] (.bool (bV n a b)):=by
 refine cz ?_ rfl rfl
 refine aY (gK (zg:= .leaf)) (fn:=Tryz.f43) (by kernel_rfl) (by kernel_rfl) fJ ⟨by decide,by decide⟩ rfl (XY .leaf 0 n a b _ ?_)
 (repeat' first|(with_reducible first|exact rfl|exact True.intro|assumption|apply And.intro|exact fJ)|exact(rfl:Int.ofNat _=_)|exact fJ|intro hq)
 all_goals (refine uC ?_;unfold bV;simp_all;try (intros;omega))
theorem PV{z:T aa}(n a b:Int):mJ Tryz.prog z 52 [zv n,zv a,zv b] (.bool (bV n a b)):=by
 refine cz ?_ rfl rfl
 refine aY (gK (zg:= .leaf)) (fn:=Tryz.f52) (by kernel_rfl) (by kernel_rfl) fJ ⟨by decide,by decide⟩ rfl (XT .leaf 0 n a b _ ?_)
 (repeat' first|(with_reducible first|exact rfl|exact True.intro|assumption|apply And.intro|exact fJ)|exact(rfl:Int.ofNat _=_)|exact fJ|intro hq)
 all_goals (refine uC ?_;unfold bV;simp_all;try (intros;omega))
theorem Q7(z:T aa):eR Tryz.prog z gQ:=by
 intro f args v h
 unfold gQ at h
 split at h
 ·cases h;exact PW _ _ _
 ·cases h;exact PV _ _ _
 ·cases h
section
variable{z:T aa}{zn:Nat}
theorem Vm(hz:aq z zn)(k:Int)(h0:0<=k)(h1:k<=64)(q:ux):A1 z zn 24 [zv k, .agg ⟨q.row⟩] [] 0 0 (.bool (vq k q)) []:=by
 have w1:Value.int .i64 (IntKind.i64.wrap (k - 1))=Value.int .i64 (k - 1):=ia (by omega) (by omega)
 refine aY (Q7 z) (fn:=Tryz.f24) (by kernel_rfl) (by kernel_rfl) hz ⟨by decide,by decide⟩ rfl (XU z zn k q _ ?_)
 (repeat' first|(with_reducible first|exact rfl|exact True.intro|assumption|apply And.intro|exact hz|exact w1)|exact(rfl:Int.ofNat _=_)|exact(rfl:gQ _ _=_)|intro hq)
 all_goals (refine uC ?_;unfold vq;simp_all)
variable{N:aC}{D:qu}
theorem KD(hz:aq z zn)(h5:5<=zn)(hN:gJ z N D):A1 z zn 23 [.agg ⟨N.cells⟩] [] 0 0 (.bool ((ed N D).2.2==0)) []:=by
 have hv:=lF (hN.val [])
 have hb:=hN.box
 have hc:=Ew hz h5 hN
 refine aY (gK (zg:=z)) (fn:=Tryz.f23) (by kernel_rfl) (by kernel_rfl) hz ⟨by decide,by decide⟩ rfl (XV z zn N (ed N D).1 (ed N D).2.1 (ed N D).2.2 _ ?_)
 (repeat' first|(with_reducible first|exact rfl|exact True.intro|assumption|apply And.intro|exact hz|exact hc|exact hv|exact hb _|exact q1)|exact(rfl:Int.ofNat _=_)|exact hz|exact hc|exact hv|exact hb _|exact q1|intro hq)
 all_goals (refine uC ?_;rw[hq])
noncomputable def yc(N:aC)(D:qu)(q:ux):Int:=if (ed N D).2.2≠0 then 21 else if vq N.ns q=true then 0 else 22
theorem oX(h:(ed N D).2.2=0)(hN:gJ z N D):N.ns<=64:=by
 have h1:=kH hN.s
 have:(cD D.stops).2=0:=by
  unfold ed gU at h
  by_cases e:(cD D.stops).2=0
  ·exact e
  ·rw[if_pos e] at h;exact(e h).elim
 have:=wT this
 omega
theorem Rj(hz:aq z zn)(h5:5<=zn)(hN:gJ z N D)(q:ux):A1 z zn 10 [.agg ⟨N.cells⟩, .agg ⟨q.row⟩] [] 0 0 (zv (yc N D q)) []:=by
 have hv:=lF (hN.val [])
 have hb:=hN.box
 have hc:=KD hz h5 hN
 have hq2:((ed N D).2.2==0)=true->A1 z zn 24 [iv N.ns, .agg ⟨q.row⟩] [] 0 0 (.bool (vq N.ns q)) []:=fun h=>Vm hz _ (by omega) (by have:=oX (by simpa using h) hN;omega) q
 have hq3:(!((ed N D).2.2==0))=false->A1 z zn 24 [iv N.ns, .agg ⟨q.row⟩] [] 0 0 (.bool (vq N.ns q)) []:=fun h=>hq2 (by simpa using h)
 refine aY (gK (zg:=z)) (fn:=Tryz.f10) (by kernel_rfl) (by kernel_rfl) hz ⟨by decide,by decide⟩ rfl (XW z zn N q ((ed N D).2.2==0) (vq N.ns q) _ ?_)
 (repeat' first|(with_reducible first|exact rfl|exact True.intro|assumption|apply And.intro|exact hz|exact hc|exact hv|exact hb _|exact hq3 (by with_reducible assumption)|exact hq2 (by with_reducible assumption))|exact(rfl:Int.ofNat _=_)|exact hz|exact hc|exact hv|exact hb _|exact hq3 (by with_reducible assumption)|exact hq2 (by with_reducible assumption)|intro hq)
 all_goals (refine uC ?_;unfold yc;simp_all)
theorem Ru(hz:aq z zn)(hN:gJ z N D)(hll:D.paths.length<=10000)(q:ux):A1 z zn 27 [.agg ⟨N.cells⟩, .agg ⟨q.row⟩] [] 0 0 (zv (yc N D q)) []:=by
 have hv:=lF (hN.val [])
 have hb:=hN.box
 have hc:=HW hz hN hll
 have w1:((ed N D).2.2 !=0)=false->Value.int .i64 (IntKind.i64.wrap ((N.ns:Int) - 1))=Value.int .i64 ((N.ns:Int) - 1):=fun h=>by
  have:=oX (N:=N) (D:=D) (by simpa using h) hN
  exact ia (by omega) (by omega)
 refine aY (Q7 z) (fn:=Tryz.f27) (by kernel_rfl) (by kernel_rfl) hz ⟨by decide,by decide⟩ rfl (XZ z zn N q (ed N D).1 (ed N D).2.1 (ed N D).2.2 _ ?_)
 (repeat' first|(with_reducible first|exact rfl|exact True.intro|assumption|apply And.intro|exact hz|exact hc|exact hv|exact hb _|exact w1 (by with_reducible assumption))|exact(rfl:Int.ofNat _=_)|exact(rfl:gQ _ _=_)|exact hc|exact hv|exact hb _|exact w1 (by with_reducible assumption)|intro hq)
 all_goals (refine uC ?_;unfold yc vq;simp_all)
theorem Vn(hz:aq z zn)(hN:gJ z N D)(hll:D.paths.length<=10000)(q:ux)(hne:yc N D q≠0):A1 z zn 13 [.agg ⟨N.cells⟩, .agg ⟨q.row⟩] [] 0 0 (.tuple ⟨[ay,zv (yc N D q)]⟩) []:=by
 have hv:=lF (hN.val [])
 have hb:=hN.box
 have hc:=Ru hz hN hll q
 have h1:Value.bool (yc N D q !=0)=Value.bool true:=by
  rw[show(yc N D q !=0)=true by simpa using hne]
 refine aY (gK (zg:=z)) (fn:=Tryz.f13) (by kernel_rfl) (by kernel_rfl) hz ⟨by decide,by decide⟩ rfl (XX z zn N q (yc N D q) _ ?_)
 have hv2:bz (sig []) [.agg ⟨N.cells⟩, .agg ⟨q.row⟩]=some [.agg ⟨N.cells⟩, .agg ⟨q.row⟩]:=jg (hN.val []) rfl
 (repeat' first|(with_reducible first|exact rfl|exact True.intro|assumption|apply And.intro|exact hz|exact hc|exact hv|exact hv2|exact hb _|exact h1|exact q1)|exact(rfl:Int.ofNat _=_)|exact hz|exact hc|exact hv|exact hv2|exact hb _|exact h1|exact q1|intro hq)
end
section
variable{z:T aa}{zn:Nat}
def lY(N:aC)(D:qu):Bool:=decide (N.ns<=6) && decide (N.nr<=20) && decide (N.nu<=7) && decide (N.nl<=30) && decide (N.np<=60) && decide (N.nf<=16) && D.runs.all fun r=>decide (r.v.cn<=40)
theorem D3{N:aC}{D:qu}(h:6<N.ns\/20<N.nr\/7<N.nu\/30<N.nl\/60<N.np\/16<N.nf):lY N D=false:=by
 unfold lY
 rcases h with h|h|h|h|h|h
 ·rw[decide_eq_false (show¬N.ns<=6 by omega)];simp
 ·rw[decide_eq_false (show¬N.nr<=20 by omega)];simp
 ·rw[decide_eq_false (show¬N.nu<=7 by omega)];simp
 ·rw[decide_eq_false (show¬N.nl<=30 by omega)];simp
 ·rw[decide_eq_false (show¬N.np<=60 by omega)];simp
 ·rw[decide_eq_false (show¬N.nf<=16 by omega)];simp
theorem tv{N:aC}{D:qu}(h1:N.ns<=6)(h2:N.nr<=20)(h3:N.nu<=7)(h4:N.nl<=30)(h5:N.np<=60)(h6:N.nf<=16):lY N D=D.runs.all fun r=>decide (r.v.cn<=40):=by
 unfold lY
 rw[decide_eq_true h1,decide_eq_true h2,decide_eq_true h3,decide_eq_true h4,decide_eq_true h5,decide_eq_true h6];simp
theorem D4{N:aC}{D:qu}(h:lY N D=true):N.nu<=7/\N.nl<=30/\N.np<=60:=by
 unfold lY at h
 simp only[Bool.and_eq_true,decide_eq_true_eq] at h
 omega
variable{N:aC}{D:qu}
theorem HP(hz:aq z zn)(hN:gJ z N D):A1 z zn 11 [.agg ⟨N.cells⟩] [] 0 0 (.bool (lY N D)) []:=by
 have hb:=hN.box
 have hnu:=kH hN.u
 have hL:N.nu<=7->ai Tryz.prog (ah (ag Tryz.f11) 0) 1 54 (Bg N.nu 0) [(0,N.box)] 1 z zn (Al.R (Uw z zn N (D.runs.all fun r=>decide (r.v.cn<=40))).l):=fun h20=>by
  refine ak hD (gK (zg:=T.leaf)) (α:=Nat) 1 54 1 (fun i=>i<=N.nu/\ ∀j r,j<i->D.runs[j]? =some r->r.v.cn<=40) (fun i=>Bg N.nu i) (fun _=>[(0,N.box)]) (fun _=>z) (fun _=>zn) (fun i=>N.nu - i) _ (fun i hI=>?_) 0 ⟨Nat.zero_le _,fun j r hj=>absurd hj (Nat.not_lt_zero _)⟩
  obtain⟨h1,h2⟩:=hI
  by_cases hlt:i<N.nu
  ·obtain⟨x,hx⟩:=ey (l:=D.runs) (i:=i) (by omega)
   have hua:=Fy hN.u (by omega)
   obtain⟨kr,g2,_,_,r2⟩:=hN.run hx
   have hc:decide ((i:Int)<(N.nu:Int))=true:=by simp;omega
   have no: ¬x.v.cn<=40->(D.runs.all fun r=>decide (r.v.cn<=40))=false:=fun h=>by
    rw[List.all_eq_false]
    exact⟨x,List.mem_of_getElem? hx,by simpa using h⟩
   have nx:x.v.cn<=40->i+1<=N.nu/\ ∀j r,j<i+1->D.runs[j]? =some r->r.v.cn<=40:=fun h=>⟨hlt,fun j r hj hr=>by
    by_cases e:j=i
    ·subst e;rw[hx] at hr;cases hr;exact h
    ·exact h2 j r (by omega) hr⟩
   obtain⟨sa,ns,sc,ra,nr,rc,ua,nu,uc,la,nl,lc,pa,np,pc,fa,nf,fc',d,w,c⟩:=N
   simp only at hua hlt
   subst hua
   refine t100 (X8 z zn i x.v.cn x.v.cc x.v.ca _ kr (aj _ _ _ _ _ _ _ _ _) ⟨fun _=>?_,fun h=>(by rw[hc] at h;cases h)⟩)
   (repeat' first|(with_reducible first|exact rfl|exact True.intro|assumption|apply And.intro|exact hz|exact hlt|exact g2|exact r2|exact hb _|exact aK (by omega))|exact(rfl:Int.ofNat _=_)|exact hz|exact hlt|exact g2|exact r2|exact hb _|exact aK (by omega)|intro hq)
   all_goals first
    |exact bE (no (by have:=of_decide_eq_true (by with_reducible assumption:decide ((x.v.cn:Int)>40)=true);omega))
    |exact⟨i+1,rfl,rfl,rfl,rfl,rfl,nx (by have:=of_decide_eq_false (by with_reducible assumption:decide ((x.v.cn:Int)>40)=false);omega),by show nu - (i+1)<nu - i;omega⟩
  ·have hc:Value.bool (decide ((i:Int)<(N.nu:Int)))=Value.bool false:=by
    rw[show decide ((i:Int)<(N.nu:Int))=false by simp;omega]
   refine t100 (Uk z zn i N (aj _ _ _ _ _ _ _ _ _) ?_)
   (repeat' first|(with_reducible first|exact rfl|exact True.intro|assumption|apply And.intro|exact hz|exact hc|exact hb _)|exact(rfl:Int.ofNat _=_)|exact hz|exact hc|exact hb _|intro hq)
   refine dp (bE ?_)
   rw[List.all_eq_true]
   intro r hr
   obtain⟨j,hj⟩:=List.mem_iff_getElem?.1 hr
   have:=(List.getElem?_eq_some_iff.1 hj).1
   simpa using h2 j r (by omega) hj
 refine aY (gK (zg:=T.leaf)) (fn:=Tryz.f11) (by kernel_rfl) (by kernel_rfl) hz ⟨by decide,by decide⟩ rfl (N:=100) ?_
 refine X4 z zn N (D.runs.all fun r=>decide (r.v.cn<=40)) _ ?_
 (repeat' first|(with_reducible first|exact rfl|exact True.intro|assumption|apply And.intro|exact hz|exact hb _|exact hL (by have:=of_decide_eq_false (by with_reducible assumption:decide ((N.nu:Int)>7)=false);omega))|exact(rfl:Int.ofNat _=_)|exact hz|exact hb _|exact hL (by have:=of_decide_eq_false (by with_reducible assumption:decide ((N.nu:Int)>7)=false);omega)|intro hq)
 all_goals simp only[decide_eq_true_eq,decide_eq_false_iff_not,gt_iff_lt] at*
 all_goals first
  |(rw[D3 (N:=N) (D:=D) (by omega)];exact q1)
  |(rw[tv (N:=N) (D:=D) (by omega) (by omega) (by omega) (by omega) (by omega) (by omega),(by assumption:(D.runs.all fun r=>decide (r.v.cn<=40))=true)];exact q1)
  |(rw[tv (N:=N) (D:=D) (by omega) (by omega) (by omega) (by omega) (by omega) (by omega),(by assumption:(D.runs.all fun r=>decide (r.v.cn<=40))=false)];exact q1)
end
end Go.Proofs.Nw
namespace Go.AV
open Go.RowKit
theorem oP{σ:Nat->Option Nat}: ∀{a b:List Value},bz σ a=some a->bz σ b=some b->bz σ (a++b)=some (a++b)
 |[],b,_,h=>h
 |x::a,b,h,k=>by
  simp only[bz] at h
  split at h
  ·rename_i u hu
   split at h
   ·rename_i m hm
    cases h
    simp only[List.cons_append,bz,hu,oP hm k]
   ·cases h
  ·cases h
theorem sG{σ:Nat->Option Nat}: ∀{rows:List (List Value)},(∀r∈rows,bz σ r=some r)->bz σ rows.flatten=some rows.flatten
 |[],_=>rfl
 |r::rows,h=>by rw[List.flatten_cons];exact oP (h r (by simp)) (sG fun x hx=>h x (by simp[hx]))
inductive Kd where
 |b
 |i (k:IntKind)
 |s
 |sl (t:TypeId)
def jc(S:TypeId->Option (List Kd))(P:Program):List Field->Nat->Option (List Kd)
 |[],_=>some []
 |f::l,o=>match Nat.beq f.offset o,S f.type with
  |true,some a=>match Nat.beq (P.cellsOf f.type) a.length,jc S P l (o+a.length) with
   |true,some r=>some (a++r)
   |_,_=>none
  |_,_=>none
def shapeOf(P:Program):Nat->TypeId->Option (List Kd)
 |0,_=>none
 |n+1,t=>match P.underlying t with
  |some .bool=>some [.b]
  |some (.int k)=>some [.i k]
  |some .string=>some [.s]
  |some (.slice _)=>some [.sl t]
  |some (.struct fs)=>jc (shapeOf P n) P fs.toList 0
  |_=>none
section
variable{H:Type}(enc:TypeId × Value->H)(P:Program)(w:World)(base:Nat)
def Iv:Kd->Value->Prop
 | .b,v=> ∃x,v= .bool x
 | .i k,v=> ∃n,v= .int k n/\(Lit.int k n).wf=true
 | .s,v=> ∃s:ByteArray,v= .string s/\s.size<=maxLen
 | .sl t,v=> ∃n y,DataW.trod enc P w base (fun _=>true) true n t [v]=some y
def cH:List Kd->List Value->Prop
 |[],[]=>True
 |k::l,v::r=>Iv enc P w base k v/\cH l r
 |_,_=>False
end
section
variable{H:Type}{enc:TypeId × Value->H}{P:Program}{w:World}{base:Nat}
theorem cH.length: ∀{ks:List Kd} {cs:List Value},cH enc P w base ks cs->cs.length=ks.length
 |[],[],_=>rfl
 |_::_,_::_,h=>by simp[cH.length h.2]
 |[],_::_,h=>h.elim
 |_::_,[],h=>h.elim
theorem cH.e{r:List Value}(h:cH enc P w base [] r):r=[]:=by
 cases r with
 |nil=>rfl
 |cons _ _=>exact h.elim
theorem cH.c{k:Kd}{ks:List Kd}{r:List Value}(h:cH enc P w base (k::ks) r): ∃v l,r=v::l/\Iv enc P w base k v/\cH enc P w base ks l:=by
 cases r with
 |nil=>exact h.elim
 |cons v l=>exact⟨v,l,rfl,h.1,h.2⟩
theorem cH.i{k:IntKind}{ks:List Kd}{r:List Value}(h:cH enc P w base (.i k::ks) r): ∃n l,r= .int k n::l/\(Lit.int k n).wf=true/\cH enc P w base ks l:=by
 obtain⟨v,l,rfl,h1,h2⟩:=h.c
 obtain⟨n,rfl,h3⟩:=h1
 exact⟨n,l,rfl,h3,h2⟩
theorem cH.b{ks:List Kd}{r:List Value}(h:cH enc P w base (.b::ks) r): ∃n l,r= .bool n::l/\cH enc P w base ks l:=by
 obtain⟨v,l,rfl,h1,h2⟩:=h.c
 obtain⟨n,rfl⟩:=h1
 exact⟨n,l,rfl,h2⟩
theorem cH.s{ks:List Kd}{r:List Value}(h:cH enc P w base (.s::ks) r): ∃(n:ByteArray)(l:List Value),r= .string n::l/\n.size<=9223372036854775807/\cH enc P w base ks l:=by
 obtain⟨v,l,rfl,h1,h2⟩:=h.c
 obtain⟨n,rfl,h3⟩:=h1
 exact⟨n,l,rfl,by unfold maxLen at h3;omega,h2⟩
theorem cH.sl{t:TypeId}{ks:List Kd}{r:List Value}(h:cH enc P w base (.sl t::ks) r): ∃v l,r=v::l/\(∃n y,DataW.trod enc P w base (fun _=>true) true n t [v]=some y)/\cH enc P w base ks l:=by
 obtain⟨v,l,rfl,h1,h2⟩:=h.c
 exact⟨v,l,rfl,h1,h2⟩
theorem cH.append: ∀{ks kt:List Kd} {cs ct:List Value},cH enc P w base ks cs->cH enc P w base kt ct->cH enc P w base (ks++kt) (cs++ct)
 |[],_,[],_,_,k=>k
 |_::_,_,_::_,_,h,k=>⟨h.1,cH.append h.2 k⟩
 |[],_,_::_,_,h,_=>h.elim
 |_::_,_,[],_,h,_=>h.elim
theorem nz{S:TypeId->Option (List Kd)}{n:Nat}(hS: ∀t sh cs x,S t=some sh->cs.length=sh.length->DataW.trod enc P w base (fun _=>true) true n t cs=some x->cH enc P w base sh cs):
 ∀(fs:List Field)(o:Nat)(sh:List Kd)(cs:List Value),jc S P fs o=some sh->(∀f∈fs,∃x,DataW.trod enc P w base (fun _=>true) true n f.type ((cs.drop f.offset).take (P.cellsOf f.type))=some x)->cs.length=o+sh.length->cH enc P w base sh (cs.drop o)
 |[],o,sh,cs,h,_,hl=>by
  simp only[jc,Option.some.injEq] at h
  subst h
  rw[List.drop_eq_nil_of_le (by rw[hl];simp)]
  trivial
 |f::l,o,sh,cs,h,hf,hl=>by
  unfold jc at h
  split at h
  ·rename_i a h1 h2
   split at h
   ·rename_i r h3 h4
    cases h
    have e1:=Nat.eq_of_beq_eq_true h1
    have e3:=Nat.eq_of_beq_eq_true h3
    subst e1
    obtain⟨x,hx⟩:=hf f (by simp)
    rw[e3] at hx
    have i1:=hS _ _ _ _ h2 (by rw[List.length_take,List.length_drop,hl];simp) hx
    have i2:=nz hS l (f.offset+a.length) r cs h4 (fun g hg=>hf g (by simp[hg])) (by rw[hl];simp;omega)
    have e:cs.drop f.offset=(cs.drop f.offset).take a.length++cs.drop (f.offset+a.length):=by
     rw[←List.drop_drop,List.take_append_drop]
    rw[e]
    exact i1.append i2
   ·cases h
  ·cases h
theorem si: ∀(fuel:Nat)(n:Nat)(t:TypeId)(sh:List Kd)(cs:List Value)(x:DataW H × List MemPlace),shapeOf P fuel t=some sh->cs.length=sh.length->DataW.trod enc P w base (fun _=>true) true n t cs=some x->cH enc P w base sh cs
 |0,_,_,_,_,_,h,_,_=>by simp[shapeOf] at h
 |fuel+1,n,t,sh,cs,x,h,hl0,hx=>by
  unfold shapeOf at h
  split at h
  ·rename_i hu;cases h
   obtain⟨v,rfl,_⟩:=DataW.trod_bool hu hx
   exact⟨⟨v,rfl⟩,trivial⟩
  ·rename_i k hu;cases h
   obtain⟨v,rfl,_,hw⟩:=DataW.trod_int hu hx
   exact⟨⟨v,rfl,hw⟩,trivial⟩
  ·rename_i hu;cases h
   obtain⟨v,rfl,_,hw⟩:=DataW.trod_string hu hx
   exact⟨⟨v,rfl,hw⟩,trivial⟩
  ·rename_i e hu;cases h
   have: ∃v,cs=[v]:=by
    rcases DataW.trod_slice hu hx with ⟨rfl,_⟩|⟨a,len,cap,_,_,_,_,rfl,_⟩<;>exact⟨_,rfl⟩
   obtain⟨v,rfl⟩:=this
   exact⟨⟨n,x,hx⟩,trivial⟩
  ·rename_i fs hu
   obtain⟨xs,m,rfl,_,hl,hlen,hf⟩:=DataW.trod_struct hu hx
   have:=nz (enc:=enc) (w:=w) (base:=base) (S:=shapeOf P fuel) (n:=m) (fun t' sh' cs' x' h1 h2 h3=>si fuel m t' sh' cs' x' h1 h2 h3) fs.toList 0 sh cs h (fun f hf'=>?_) (by omega)
   ·simpa using this
   ·obtain⟨i,hi⟩:=List.mem_iff_getElem?.1 hf'
    have hi':fs[i]? =some f:=by simpa using hi
    have:=hf i f hi'
    have hlt:i<xs.length:=by rw[hlen];exact(Array.getElem?_eq_some_iff.1 hi').1
    exact⟨xs[i],by rw[this,List.getElem?_eq_getElem hlt]⟩
  ·cases h
theorem r9{fuel n:Nat}{t:TypeId}{sh:List Kd}{cs:List Value}{x:DataW H × List MemPlace}{fs:Array Field}(hu:P.underlying t=some (.struct fs))(hc:P.cellsOf t=sh.length)(h:shapeOf P fuel t=some sh)(hx:DataW.trod enc P w base (fun _=>true) true n t cs=some x):cH enc P w base sh cs:=by
 obtain⟨xs,m,rfl,_,hl,_⟩:=DataW.trod_struct hu hx
 exact si fuel _ t sh cs x h (by omega) hx
def nn(w:World)(v:Value)(sz:Nat)(rows:List (List Value)):Prop:=
 (v= .slice none 0 0/\rows=[])\/((∃g o s,v= .slice (some ⟨g,o,some s⟩) 0 0)/\rows=[])\/
 ∃g o c,v= .slice (some ⟨g,o,none⟩) rows.length c/\ ∀(i:Nat)(r:List Value),rows[i]? =some r-> ∀(j:Nat)(x:Value),r[j]? =some x->w.cell? ⟨g,o+i*sz+j,none⟩=some x
theorem Gc{α β:Type}{f:α->Option β}{l:List α}{r:List β}(h:l.mapM f=some r):r.length=l.length/\ ∀(i:Nat)(x:α),l[i]? =some x->f x=r[i]? :=⟨mapM_some_length h,fun i x hx=>mapM_some_get h i x hx⟩
theorem tT{a:Addr}{n:Nat}{cs:List Value}(h:w.cells? base a n=some cs):cs.length=n/\ ∀j x,cs[j]? =some x->w.cell? (a.add j)=some x:=by
 unfold World.cells? at h
 split at h
 ·obtain⟨h1,h2⟩:=Gc h
  refine⟨by simpa using h1,fun j x hx=>?_⟩
  have hj:j<n:=by
   have:=(List.getElem?_eq_some_iff.1 hx).1
   simp at h1;omega
  have:=h2 j j (by simp[hj])
  rw[this,hx]
 ·cases h
theorem Ai{g o k:Nat}:(⟨g,o,none⟩:Addr).add k=⟨g,o+k,none⟩:=by
 unfold Addr.add
 split
 ·rename_i h;subst h;rfl
 ·rfl
theorem AS{n:Nat}{t e:TypeId}{sz:Nat}{v:Value}{x:DataW H × List MemPlace}(ht:P.underlying t=some (.slice e))(hsz:P.cellsOf e=sz)(h0:0<sz)(h:DataW.trod enc P w base (fun _=>true) true n t [v]=some x):
 ∃rows,nn w v sz rows/\ ∀r∈rows,r.length=sz/\ ∃m y,DataW.trod enc P w base (fun _=>true) true m e r=some y:=by
 rcases DataW.trod_slice ht h with ⟨h1,_⟩|⟨a,len,cap,elems,rest,m,rfl,h1,rfl,hb,hl,hm,hlen,hel,hsp,_⟩
 ·simp only[List.cons.injEq,and_true] at h1
  exact⟨[], .inl ⟨h1,rfl⟩,fun r hr=>by cases hr⟩
 ·simp only[List.cons.injEq,and_true] at h1
  subst h1
  rw[hsz] at hel hsp
  have row: ∀i,i<len-> ∃r,w.cells? base (a.add (i*sz)) sz=some r/\ ∃y,DataW.trod enc P w base (fun _=>true) true m e r=some y:=fun i hi=>by
   have h2:=hel i hi
   rw[List.getElem?_eq_getElem (by omega)] at h2
   obtain⟨r,h3,h4⟩:=Option.bind_eq_some_iff.1 h2
   exact⟨r,h3,_,h4⟩
  obtain⟨rows,hrl,hrows⟩: ∃rows:List (List Value),rows.length=len/\ ∀i (hi:i<rows.length),w.cells? base (a.add (i*sz)) sz=some rows[i]/\ ∃y,DataW.trod enc P w base (fun _=>true) true m e rows[i]=some y:=by
   classical
   refine⟨List.ofFn (n:=len) fun i=>Classical.choose (row i.1 i.2),by simp,fun i hi=>?_⟩
   have:=Classical.choose_spec (row i (by simpa using hi))
   simpa using this
  have hin: ∀r∈rows,r.length=sz/\ ∃m y,DataW.trod enc P w base (fun _=>true) true m e r=some y:=fun r hr=>by
   obtain⟨i,hi,rfl⟩:=List.mem_iff_getElem.1 hr
   obtain⟨h1,h2⟩:=hrows i hi
   exact⟨(tT h1).1,m,h2⟩
  obtain⟨g,o,sp⟩:=a
  cases sp with
  |none=>
   refine⟨rows, .inr (.inr ⟨g,o,cap,by rw[hrl],fun i r hr j x hx=>?_⟩),hin⟩
   obtain⟨hi,rfl⟩:=List.getElem?_eq_some_iff.1 hr
   have:=(tT (hrows i hi).1).2 j x hx
   rw[Ai,Ai] at this
   exact this
  |some s=>
   have hbad: ∀x,w.cell? ⟨g,o,some s⟩=some x->False:=fun x hx=>by
    unfold World.cell? at hx
    split at hx
    ·simp at hx
    ·cases hx
   have hno: ∀r,w.cells? base ⟨g,o,some s⟩ sz=some r->False:=fun r hr=>by
    obtain⟨h1,h2⟩:=tT hr
    cases r with
    |nil=>simp at h1;omega
    |cons c r=>exact hbad c (h2 0 c rfl)
   have hz:len=0:=Nat.eq_zero_of_not_pos fun hp=>by
    obtain⟨r,h3,_⟩:=row 0 hp
    rw[Nat.zero_mul] at h3
    exact hno r h3
   have hc:cap=0:=Nat.eq_zero_of_not_pos fun hp=>by
    obtain⟨h3,h4⟩:=hsp rfl
    have h5:=h4 0 (by omega)
    rw[List.getElem?_eq_getElem (by omega)] at h5
    obtain⟨r,h6,_⟩:=Option.bind_eq_some_iff.1 h5
    rw[hz] at h6
    simp only[Nat.zero_add,Nat.zero_mul] at h6
    exact hno r h6
   subst hz hc
   exact⟨rows, .inr (.inl ⟨⟨g,o,s,rfl⟩,List.length_eq_zero_iff.1 hrl⟩),hin⟩
end
theorem Eo{P:Program}{w:World}{r:Reach}{b:Nat}{t e:TypeId}{a:Addr}{n c:Nat}(ht:P.underlying t=some (.slice e))(h:Cell.okWide P w r b t (.slice (some a) n c)):a.spot=none:=by
 unfold Cell.okWide at h
 rw[ht] at h
 simp only at h
 unfold Cell.ok at h
 rw[ht] at h
 exact h.2.2.2.1
def It(F:EZ)(zn:Nat)(w:World):Prop:= ∀k g o cs,F k=some (g,o,some cs)->(∃c e fr,w.heap[g]? =some (.cells c e fr))/\
 (∀i v,cs[i]? =some v-> ∃v',w.cell? ⟨g,o+i,none⟩=some v'/\VR (jD F) v v')/\ ∀σ:Nat->Option Nat,(∀j,j<zn->σ (256*j+510)=some (256*j+510))->bz σ cs=some cs
theorem G1(F:EZ)(zn:Nat)(w:World)(hN: ∀k x,F k=some x->k<zn)(h:It F zn w): ∃z,PS z (jD F) w/\aq z zn/\fC (jD F) zn/\ ∀k g o cs,F k=some (g,o,some cs)-> ∃e,z.get k=some (.ax (br e cs)):=by
 classical
 have hE: ∃E:Nat->TypeId,∀k g o cs,F k=some (g,o,some cs)-> ∃c fr,w.heap[g]? =some (.cells c (E k) fr):=by
  refine⟨fun k=>if hk: ∃e,∃g o cs c fr,F k=some (g,o,some cs)/\w.heap[g]? =some (.cells c e fr) then Classical.choose hk else 0,fun k g o cs hF=>?_⟩
  obtain⟨⟨c,e,fr,hc⟩,_⟩:=h k g o cs hF
  have hk: ∃e,∃g o cs c fr,F k=some (g,o,some cs)/\w.heap[g]? =some (.cells c e fr):=⟨e,g,o,cs,c,fr,hF,hc⟩
  simp only[dif_pos hk]
  obtain⟨g',o',cs',c',fr',h1,h2⟩:=Classical.choose_spec hk
  rw[hF] at h1
  cases h1
  exact⟨c',fr',h2⟩
 obtain⟨E,hE⟩:=hE
 have get: ∀k o,(MO F E zn).get k=some o->k<zn/\ ∃g o' cs,F k=some (g,o',some cs)/\o= .ax (br (E k) cs):=by
  intro k o hk
  rw[rj] at hk
  split at hk
  ·rename_i hlt
   refine⟨hlt,?_⟩
   split at hk
   ·rename_i g o' cs hF;cases hk;exact⟨g,o',cs,hF,rfl⟩
   ·cases hk
  ·cases hk
 refine⟨MO F E zn,⟨fun k o hk=>?_,fun k o hk=>?_,fun b hb=>?_⟩,fun k o hk=>?_,fun k hk=>?_,fun k g o cs hF=>⟨E k,?_⟩⟩
 ·obtain⟨_,g,o',cs,hF,rfl⟩:=get k o hk
  obtain⟨c,fr,hc⟩:=hE k g o' cs hF
  obtain⟨_,hcell,_⟩:=h k g o' cs hF
  refine⟨⟨g,o',0⟩,_,by rw[pZ,hF],hc,?_⟩
  refine⟨rfl,Nat.le_refl _,fun hh=>(by cases hh),fun i v hv=>?_,fun _=>rfl,fun hh=>(by cases hh),fun hh=>(by cases hh),fun hh=>(by cases hh)⟩
  obtain⟨v',q1,q2⟩:=hcell i v hv
  refine⟨v',?_,q2⟩
  simp[World.cell?,hc] at q1
  exact q1
 ·obtain⟨_,g,o',cs,hF,rfl⟩:=get k o hk
  rfl
 ·unfold jD
  rw[if_neg (by unfold cL at hb;omega)]
 ·obtain⟨hlt,g,o',cs,hF,rfl⟩:=get k o hk
  refine⟨hlt,fun σ hσ=>?_⟩
  have:=(h k g o' cs hF).2.2 σ hσ
  unfold aG br
  simp only[this]
 ·rw[pZ]
  cases hF:F k with
  |none=>rfl
  |some x=>have:=hN k x hF;omega
 ·rw[rj,if_pos (hN k _ hF),hF]
def jm(v:Value)(cs:List Value):Option (Nat × Nat × Option (List Value)):=match v with
 | .slice (some ⟨g,o,none⟩) _ _=>some (g,o,match cs with|[]=>none|c::l=>some (c::l))
 |_=>none
def uq(k:Nat):Value->Option Addr
 | .slice (some ⟨_,_,none⟩) _ _=>some ⟨256*k+510,0,none⟩
 | .slice a _ _=>a
 |_=>none
def um:Value->Nat
 | .slice _ n _=>n
 |_=>0
def uo:Value->Nat
 | .slice _ _ c=>c
 |_=>0
abbrev KY(k:Nat)(v:Value):Value:= .slice (uq k v) (um v) (uo v)
section
variable{w:World}
theorem lB{F:EZ}{k sz:Nat}{v:Value}{rows:List (List Value)}{cs:List Value}(h:nn w v sz rows)(hF:F k=jm v cs):VR (jD F) (KY k v) v:=by
 rcases h with ⟨rfl,_⟩|⟨⟨g,o,s,rfl⟩,_⟩|⟨g,o,c,rfl,_⟩
 ·exact .sc _ rfl
 ·exact .sc _ rfl
 ·refine VR.sl (256*k+510) 0 _ c ⟨g,o,0⟩ ?_
  rw[pZ,hF]
  rfl
theorem Ih{k zn sz:Nat}{v:Value}{rows:List (List Value)}(h:nn w v sz rows)(hk:rows≠[]->k<zn)(hk':k<zn){σ:Nat->Option Nat}(hσ: ∀j,j<zn->σ (256*j+510)=some (256*j+510)):aX σ (KY k v)=some (KY k v):=by
 rcases h with ⟨rfl,_⟩|⟨⟨g,o,s,rfl⟩,_⟩|⟨g,o,c,rfl,_⟩
 ·rfl
 ·rfl
 ·simp only[KY,uq,um,uo,aX,hσ k hk']
theorem BF{g o:Nat}{v:Value}(h:w.cell? ⟨g,o,none⟩=some v): ∃c e fr,w.heap[g]? =some (.cells c e fr):=by
 unfold World.cell? at h
 cases hc:w.heap[g]? with
 |none=>simp[hc] at h
 |some x=>cases x<;>simp[hc] at h<;>exact⟨_,_,_,rfl⟩
theorem kZ{F:EZ}{zn:Nat}{v:Value}{sz:Nat}{rows arows:List (List Value)}(h:nn w v sz rows)(hl: ∀r∈arows,r.length=sz)
 (hc: ∀(i:Nat)(r:List Value)(j:Nat)(x:Value),arows[i]? =some r->r[j]? =some x-> ∃r' x',rows[i]? =some r'/\r'[j]? =some x'/\VR (jD F) x x')
 (hr: ∀σ:Nat->Option Nat,(∀j,j<zn->σ (256*j+510)=some (256*j+510))-> ∀r∈arows,bz σ r=some r)
 {g o:Nat} {cs:List Value} (he:jm v arows.flatten=some (g,o,some cs)):
 (∃c e fr,w.heap[g]? =some (.cells c e fr))/\(∀i x,cs[i]? =some x-> ∃x',w.cell? ⟨g,o+i,none⟩=some x'/\VR (jD F) x x')/\ ∀σ:Nat->Option Nat,(∀j,j<zn->σ (256*j+510)=some (256*j+510))->bz σ cs=some cs:=by
 rcases h with ⟨rfl,_⟩|⟨⟨g0,o0,s,rfl⟩,_⟩|⟨g0,off,cap,rfl,hrows⟩
 ·cases he
 ·cases he
 ·have hcs:arows.flatten=cs/\g0=g/\off=o/\cs≠[]:=by
   unfold jm at he
   simp only[Option.some.injEq,Prod.mk.injEq] at he
   obtain⟨h1,h2,h3⟩:=he
   split at h3
   ·cases h3
   ·rename_i heq;cases h3;exact⟨heq,h1,h2,by simp⟩
  obtain⟨h1,rfl,rfl,h4⟩:=hcs
  have cell: ∀i x,cs[i]? =some x-> ∃x',w.cell? ⟨g0,off+i,none⟩=some x'/\VR (jD F) x x':=by
   intro i x hx
   rw[←h1] at hx
   obtain⟨k,r,j,q1,q2,q3⟩:=zL hl hx
   obtain⟨r',x',p1,p2,p3⟩:=hc k r j x q1 q2
   refine⟨x',?_,p3⟩
   rw[q3,←Nat.add_assoc]
   exact hrows k r' p1 j x' p2
  refine⟨?_,cell,fun σ hσ=>by rw[←h1];exact sG (hr σ hσ)⟩
  cases hcs:cs with
  |nil=>exact(h4 hcs).elim
  |cons x l=>
   obtain⟨x',hx',_⟩:=cell 0 x (by rw[hcs];rfl)
   exact BF hx'
end
end Go.AV
namespace Go.Proofs.Nw
open Go Go.AV Go.RowKit
set_option maxRecDepth 100000
theorem Ca{α:Type}{row:α->List Value}{Q:α->Prop}: ∀{rows:List (List Value)},(∀r∈rows,∃x,r=row x/\Q x)-> ∃l:List α,rows=l.map row/\ ∀x∈l,Q x
 |[],_=>⟨[],rfl,fun x hx=>by cases hx⟩
 |r::rows,h=>by
  obtain⟨x,rfl,hx⟩:=h r (by simp)
  obtain⟨l,rfl,hl⟩:=Ca (rows:=rows) fun s hs=>h s (List.mem_cons_of_mem _ hs)
  exact⟨x::l,rfl,fun y hy=>by
   rcases List.mem_cons.1 hy with rfl|hy
   ·exact hx
   ·exact hl y hy⟩
structure jC where
 sv:Value
 rv:Value
 uv:Value
 lv:Value
 pv:Value
 fv:Value
 d:Int
 w:Int
 c:Int
 stops:List bS
 fw:List bd
 runs:List mE
 dU:List aF
 paths:List ae
 iG:List bM
def jC.cells(N:jC):List Value:=[N.sv,N.rv,N.uv,N.lv,N.pv,N.fv,zv N.d,zv N.w,zv N.c]
def mH(v:Value):Prop:= ∀a n c,v= .slice (some a) n c->a.spot=none
structure xV(w:World)(N:jC):Prop where
 stops:nn w N.sv 4 (N.stops.map bS.row)
 fw:nn w N.rv 3 (N.fw.map bd.row)
 runs:nn w N.uv 8 (N.runs.map fun r=>r.row r.cv)
 dU:nn w N.lv 5 (N.dU.map aF.row)
 paths:nn w N.pv 4 (N.paths.map ae.row)
 iG:nn w N.fv 6 (N.iG.map bM.row)
 calls: ∀r∈N.runs,nn w r.cv 5 (r.calls.map bB.row)
 zs: ∀x∈N.stops,x.id.size<=9223372036854775807
 zr: ∀x∈N.fw,x.id.size<=9223372036854775807
 zu: ∀x∈N.runs,x.id.size<=9223372036854775807
 zf: ∀x∈N.iG,x.id.size<=9223372036854775807
 ns:mH N.sv
 nr:mH N.rv
 nu:mH N.uv
 nl:mH N.lv
 np:mH N.pv
 nf:mH N.fv
section
variable{H:Type}{enc:TypeId × Value->H}{W:World}{base:Nat}
section
variable{P:Program}
theorem FF{r:List Value}(h:cH enc P W base [.s, .i .i64, .b, .i .i64] r): ∃x:bS,r=x.row/\x.id.size<=9223372036854775807:=by
 obtain⟨x0,l0,rfl,z0,h0⟩:=h.s
 obtain⟨x1,l1,rfl,_,h1⟩:=h0.i
 obtain⟨x2,l2,rfl,h2⟩:=h1.b
 obtain⟨x3,l3,rfl,_,h3⟩:=h2.i
 obtain rfl:=h3.e
 exact⟨⟨x0,x1,x2,x3⟩,rfl,z0⟩
theorem Dx{r:List Value}(h:cH enc P W base [.s, .i .i64, .b] r): ∃x:bd,r=x.row/\x.id.size<=9223372036854775807:=by
 obtain⟨x0,l0,rfl,z0,h0⟩:=h.s
 obtain⟨x1,l1,rfl,_,h1⟩:=h0.i
 obtain⟨x2,l2,rfl,h2⟩:=h1.b
 obtain rfl:=h2.e
 exact⟨⟨x0,x1,x2⟩,rfl,z0⟩
theorem FI{r:List Value}(h:cH enc P W base [.s, .i .i64, .i .i64, .i .i64, .i .i64, .i .i64] r): ∃x:bM,r=x.row/\x.id.size<=9223372036854775807:=by
 obtain⟨x0,l0,rfl,z0,h0⟩:=h.s
 obtain⟨x1,l1,rfl,_,h1⟩:=h0.i
 obtain⟨x2,l2,rfl,_,h2⟩:=h1.i
 obtain⟨x3,l3,rfl,_,h3⟩:=h2.i
 obtain⟨x4,l4,rfl,_,h4⟩:=h3.i
 obtain⟨x5,l5,rfl,_,h5⟩:=h4.i
 obtain rfl:=h5.e
 exact⟨⟨x0,x1,x2,x3,x4,x5⟩,rfl,z0⟩
theorem FK{r:List Value}(h:cH enc P W base [.i .i64, .i .i64, .i .i64, .i .i64, .b] r): ∃x:aF,r=x.row/\True:=by
 obtain⟨x0,l0,rfl,_,h0⟩:=h.i
 obtain⟨x1,l1,rfl,_,h1⟩:=h0.i
 obtain⟨x2,l2,rfl,_,h2⟩:=h1.i
 obtain⟨x3,l3,rfl,_,h3⟩:=h2.i
 obtain⟨x4,l4,rfl,h4⟩:=h3.b
 obtain rfl:=h4.e
 exact⟨⟨x0,x1,x2,x3,x4⟩,rfl,trivial⟩
theorem FJ{r:List Value}(h:cH enc P W base [.i .i64, .i .i64, .i .i64, .b] r): ∃x:ae,r=x.row/\True:=by
 obtain⟨x0,l0,rfl,_,h0⟩:=h.i
 obtain⟨x1,l1,rfl,_,h1⟩:=h0.i
 obtain⟨x2,l2,rfl,_,h2⟩:=h1.i
 obtain⟨x3,l3,rfl,h3⟩:=h2.b
 obtain rfl:=h3.e
 exact⟨⟨x0,x1,x2,x3⟩,rfl,trivial⟩
theorem FL{r:List Value}(h:cH enc P W base [.i .i64, .i .i64, .i .i64, .b, .b] r): ∃x:bB,r=x.row/\True:=by
 obtain⟨x0,l0,rfl,_,h0⟩:=h.i
 obtain⟨x1,l1,rfl,_,h1⟩:=h0.i
 obtain⟨x2,l2,rfl,_,h2⟩:=h1.i
 obtain⟨x3,l3,rfl,h3⟩:=h2.b
 obtain⟨x4,l4,rfl,h4⟩:=h3.b
 obtain rfl:=h4.e
 exact⟨⟨x0,x1,x2,x3,x4⟩,rfl,trivial⟩
theorem Jg{t:TypeId}{r:List Value}(h:cH enc P W base [.i .i64, .i .i64, .i .i64, .s, .i .i64, .b, .b, .sl t] r): ∃(a b c:Int)(d:ByteArray)(e:Int)(f g:Bool)(v:Value)(n:Nat)(y:DataW H × List MemPlace),r=[zv a,zv b,zv c, .string d,zv e, .bool f, .bool g,v]/\d.size<=9223372036854775807/\DataW.trod enc P W base (fun _=>true) true n t [v]=some y:=by
 obtain⟨x0,l0,rfl,_,h0⟩:=h.i
 obtain⟨x1,l1,rfl,_,h1⟩:=h0.i
 obtain⟨x2,l2,rfl,_,h2⟩:=h1.i
 obtain⟨x3,l3,rfl,z3,h3⟩:=h2.s
 obtain⟨x4,l4,rfl,_,h4⟩:=h3.i
 obtain⟨x5,l5,rfl,h5⟩:=h4.b
 obtain⟨x6,l6,rfl,h6⟩:=h5.b
 obtain⟨x7,l7,rfl,g7,h7⟩:=h6.sl
 obtain rfl:=h7.e
 obtain⟨n,y,hy⟩:=g7
 exact⟨_,_,_,_,_,_,_,_,n,y,rfl,z3,hy⟩
theorem Ji{t0 t1 t2 t3 t4 t5:TypeId}{r:List Value}(h:cH enc P W base [.sl t0, .sl t1, .sl t2, .sl t3, .sl t4, .sl t5, .i .i64, .i .i64, .i .i64] r): ∃(v0 v1 v2 v3 v4 v5:Value)(a b c:Int),r=[v0,v1,v2,v3,v4,v5,zv a,zv b,zv c]/\
 (∃n y,DataW.trod enc P W base (fun _=>true) true n t0 [v0]=some y)/\(∃n y,DataW.trod enc P W base (fun _=>true) true n t1 [v1]=some y)/\(∃n y,DataW.trod enc P W base (fun _=>true) true n t2 [v2]=some y)/\
 (∃n y,DataW.trod enc P W base (fun _=>true) true n t3 [v3]=some y)/\(∃n y,DataW.trod enc P W base (fun _=>true) true n t4 [v4]=some y)/\ ∃n y,DataW.trod enc P W base (fun _=>true) true n t5 [v5]=some y:=by
 obtain⟨x0,l0,rfl,g0,h0⟩:=h.sl
 obtain⟨x1,l1,rfl,g1,h1⟩:=h0.sl
 obtain⟨x2,l2,rfl,g2,h2⟩:=h1.sl
 obtain⟨x3,l3,rfl,g3,h3⟩:=h2.sl
 obtain⟨x4,l4,rfl,g4,h4⟩:=h3.sl
 obtain⟨x5,l5,rfl,g5,h5⟩:=h4.sl
 obtain⟨x6,l6,rfl,_,h6⟩:=h5.i
 obtain⟨x7,l7,rfl,_,h7⟩:=h6.i
 obtain⟨x8,l8,rfl,_,h8⟩:=h7.i
 obtain rfl:=h8.e
 exact⟨x0,x1,x2,x3,x4,x5,x6,x7,x8,rfl,g0,g1,g2,g3,g4,g5⟩
end
theorem GY{t:TypeId}(h:(match Tryz.prog.underlying t with|some (.struct _)=>true|_=>false)=true): ∃fs,Tryz.prog.underlying t=some (.struct fs):=by
 split at h
 ·exact⟨_,by assumption⟩
 ·cases h
theorem nJ{n:Nat}{t e:TypeId}{sz:Nat}{v:Value}{x:DataW H × List MemPlace}{sh:List Kd}{α:Type}{row:α->List Value}{Q:α->Prop}(ht:Tryz.prog.underlying t=some (.slice e))(hsz:Tryz.prog.cellsOf e=sz)(h0:0<sz)(hst:(match Tryz.prog.underlying e with|some (.struct _)=>true|_=>false)=true)(hsh:shapeOf Tryz.prog 5 e=some sh)(hl:sh.length=sz)(hrow: ∀r,cH enc Tryz.prog W base sh r-> ∃x,r=row x/\Q x)
 (h:DataW.trod enc Tryz.prog W base (fun _=>true) true n t [v]=some x): ∃l:List α,nn W v sz (l.map row)/\ ∀x∈l,Q x:=by
 obtain⟨rows,h1,h2⟩:=AS ht hsz h0 h
 obtain⟨fs,hfs⟩:=GY hst
 obtain⟨l,rfl,hl⟩:=Ca (row:=row) (Q:=Q) (rows:=rows) fun r hr=>by
  obtain⟨_,m,y,hy⟩:=h2 r hr
  exact hrow r (r9 hfs (by rw[hsz,hl]) hsh hy)
 exact⟨l,h1,hl⟩
theorem Jf{r:List Value}(h:cH enc Tryz.prog W base [.i .i64, .i .i64, .i .i64, .s, .i .i64, .b, .b, .sl 51] r): ∃x:mE,r=x.row x.cv/\(x.id.size<=9223372036854775807/\nn W x.cv 5 (x.calls.map bB.row)):=by
 obtain⟨a,b,c,d,e,f,g,v,n,y,rfl,hd,hy⟩:=Jg h
 ·obtain⟨l,h1,_⟩:=nJ (sh:=[.i .i64, .i .i64, .i .i64, .b, .b]) (row:=bB.row) (e:=59) (sz:=5) (by kernel_rfl) (by kernel_rfl) (by decide) (by kernel_rfl) (by kernel_rfl) rfl (fun r hr=>FL hr) hy
  exact⟨⟨a,b,c,d,e,f,g,v,l⟩,rfl,hd,h1⟩
theorem Jx{r:Reach}{b:Nat}{v0:Value}{n:Nat}{x:DataW H × List MemPlace}(hok:Value.okWide Tryz.prog W r b 31 v0)(h:DataW.trod enc Tryz.prog W base (fun _=>true) true n 31 v0.cells.toList=some x):
 ∃N:jC,v0= .agg ⟨N.cells⟩/\xV W N:=by
 obtain⟨fs,hfs⟩: ∃fs,Tryz.prog.underlying 31=some (.struct fs):=GY (by kernel_rfl)
 unfold Value.okWide at hok
 rw[hfs] at hok
 obtain⟨cs,rfl,hsz,ts,hts,_,hcell⟩:=hok
 have hcs:(Value.agg cs).cells.toList=cs.toList:=rfl
 rw[hcs] at h
 have hr:=r9 (sh:=[.sl 22, .sl 23, .sl 24, .sl 25, .sl 26, .sl 27, .i .i64, .i .i64, .i .i64]) (fuel:=5) hfs (by kernel_rfl) (by kernel_rfl) h
 have hts':ts=[22,23,24,25,26,27,3,3,3]:=by
  have:Tryz.prog.cellTypes Tryz.prog.depth 31=some [22,23,24,25,26,27,3,3,3]:=by kernel_rfl
  rw[this] at hts;cases hts;rfl
 subst hts'
 obtain⟨l⟩:=cs
 obtain⟨sv,rv,uv,lv,pv,fv,d,e,f,rfl,⟨n0,y0,g0⟩,⟨n1,y1,g1⟩,⟨n2,y2,g2⟩,⟨n3,y3,g3⟩,⟨n4,y4,g4⟩,⟨n5,y5,g5⟩⟩:=Ji hr
 ·obtain⟨ls,s1,s2⟩:=nJ (sh:=[.s, .i .i64, .b, .i .i64]) (row:=bS.row) (e:=84) (sz:=4) (by kernel_rfl) (by kernel_rfl) (by decide) (by kernel_rfl) (by kernel_rfl) rfl (fun r hr=>FF hr) g0
  obtain⟨lr,r1,r2⟩:=nJ (sh:=[.s, .i .i64, .b]) (row:=bd.row) (e:=86) (sz:=3) (by kernel_rfl) (by kernel_rfl) (by decide) (by kernel_rfl) (by kernel_rfl) rfl (fun r hr=>Dx hr) g1
  obtain⟨lu,u1,u2⟩:=nJ (sh:=[.i .i64, .i .i64, .i .i64, .s, .i .i64, .b, .b, .sl 51]) (row:=fun x:mE=>x.row x.cv) (e:=53) (sz:=8) (by kernel_rfl) (by kernel_rfl) (by decide) (by kernel_rfl) (by kernel_rfl) rfl (fun r hr=>Jf hr) g2
  obtain⟨ll,l1,_⟩:=nJ (sh:=[.i .i64, .i .i64, .i .i64, .i .i64, .b]) (row:=aF.row) (e:=81) (sz:=5) (by kernel_rfl) (by kernel_rfl) (by decide) (by kernel_rfl) (by kernel_rfl) rfl (fun r hr=>FK hr) g3
  obtain⟨lp,p1,_⟩:=nJ (sh:=[.i .i64, .i .i64, .i .i64, .b]) (row:=ae.row) (e:=141) (sz:=4) (by kernel_rfl) (by kernel_rfl) (by decide) (by kernel_rfl) (by kernel_rfl) rfl (fun r hr=>FJ hr) g4
  obtain⟨lf,f1,f2⟩:=nJ (sh:=[.s, .i .i64, .i .i64, .i .i64, .i .i64, .i .i64]) (row:=bM.row) (e:=88) (sz:=6) (by kernel_rfl) (by kernel_rfl) (by decide) (by kernel_rfl) (by kernel_rfl) rfl (fun r hr=>FI hr) g5
  have sp: ∀(i:Nat)(t e2:TypeId)(v:Value),[sv,rv,uv,lv,pv,fv,zv d,zv e,zv f][i]? =some v->[22,23,24,25,26,27,3,3,3][i % 9]? =some t->Tryz.prog.underlying t=some (.slice e2)->mH v:=fun i t e' v hv ht hu a n c hvv=>by
   subst hvv
   obtain⟨u,h1,h2⟩:=hcell i _ (by simpa using hv)
   have:u=t:=by
    have h3:[22,23,24,25,26,27,3,3,3][i % 9]? =some u:=h1
    rw[h3] at ht;cases ht;rfl
   subst this
   exact Eo hu h2
  refine⟨⟨sv,rv,uv,lv,pv,fv,d,e,f,ls,lr,lu,ll,lp,lf⟩,rfl,s1,r1,u1,l1,p1,f1,fun r hr=>(u2 r hr).2,s2,r2,fun r hr=>(u2 r hr).1,f2,sp 0 _ 84 _ rfl rfl (by kernel_rfl),sp 1 _ 86 _ rfl rfl (by kernel_rfl),sp 2 _ 53 _ rfl rfl (by kernel_rfl),sp 3 _ 81 _ rfl rfl (by kernel_rfl),sp 4 _ 141 _ rfl rfl (by kernel_rfl),sp 5 _ 88 _ rfl rfl (by kernel_rfl)⟩
end
def mE.abs(j:Nat)(r:mE):RunT:=⟨⟨r.uK,r.day,r.inst,r.id,r.jf,r.sf,r.cancelled,uq (6+j) r.cv,um r.cv,uo r.cv⟩,r.calls⟩
def jC.T(N:jC):qu:=⟨N.stops,N.fw,N.runs.mapIdx mE.abs,N.dU,N.paths,N.iG⟩
def jC.V(N:jC):aC:=⟨uq 2 N.sv,um N.sv,uo N.sv,uq 3 N.rv,um N.rv,uo N.rv,uq 1 N.uv,um N.uv,uo N.uv,uq 0 N.lv,um N.lv,uo N.lv,uq 4 N.pv,um N.pv,uo N.pv,uq 5 N.fv,um N.fv,uo N.fv,N.d,N.w,N.c⟩
def xL(N:jC):List (List Value):=(N.runs.mapIdx mE.abs).map fun r=>r.v.row
def jC.E7(N:jC):EZ
 |0=>jm N.lv (N.dU.map aF.row).flatten
 |1=>jm N.uv (xL N).flatten
 |2=>jm N.sv (N.stops.map bS.row).flatten
 |3=>jm N.rv (N.fw.map bd.row).flatten
 |4=>jm N.pv (N.paths.map ae.row).flatten
 |5=>jm N.fv (N.iG.map bM.row).flatten
 |j+6=>match N.runs[j]? with
  |some r=>jm r.cv (r.calls.map bB.row).flatten
  |none=>none
theorem wG{N:jC}{i:Nat}:(xL N)[i]? =(N.runs[i]?).map fun r=>(mE.abs i r).v.row:=by
 unfold xL
 rw[List.getElem?_map,List.getElem?_mapIdx,Option.map_map]
 rfl
theorem wF{N:jC}: ∀r∈xL N,r.length=8:=by
 intro r hr
 obtain⟨x,_,rfl⟩:=List.mem_map.1 hr
 rfl
theorem DE{l:List Value}(h:bG l=true){x:Value}(hx:x∈l):au x=true:=by
 induction l with
 |nil=>cases hx
 |cons v l ih=>
  simp only[bG] at h
  cases hv:au v with
  |false=>simp[hv] at h
  |true=>
   rw[hv] at h
   rcases List.mem_cons.1 hx with rfl|hx
   ·exact hv
   ·exact ih h hx
theorem qb{α:Type}{F:EZ}(row:α->List Value)(l:List α)(hp: ∀x,bG (row x)=true):
 (∀(i:Nat)(r:List Value)(j:Nat)(x:Value),(l.map row)[i]? =some r->r[j]? =some x-> ∃r' x',(l.map row)[i]? =some r'/\r'[j]? =some x'/\VR (jD F) x x')/\ ∀σ,∀r∈l.map row,bz σ r=some r:=by
 refine⟨fun i r j x h1 h2=>⟨r,x,h1,h2,VR.ba ?_⟩,fun σ r hr=>?_⟩
 ·obtain⟨y,_,rfl⟩:=List.mem_map.1 (List.mem_of_getElem? h1)
  exact DE (hp y) (List.mem_of_getElem? h2)
 ·obtain⟨y,_,rfl⟩:=List.mem_map.1 hr
  exact eU (hp y)
section
variable{w:World}{N:jC}
theorem F8(h:xV w N):It N.E7 (N.runs.length+6) w:=by
 intro k g o cs hF
 match k with
 |0=>
  obtain⟨h1,h2⟩:=qb (F:=N.E7) aF.row N.dU (fun _=>rfl)
  exact kZ h.dU (aO _ fun _=>rfl) h1 (fun σ _=>h2 σ) hF
 |1=>
  refine kZ h.runs wF (fun i r j x h1 h2=>?_) (fun σ hσ r hr=>?_) hF
  ·rw[wG] at h1
   cases hc:N.runs[i]? with
   |none=>rw[hc] at h1;cases h1
   |some y=>
    rw[hc] at h1
    simp only[Option.map_some,Option.some.injEq] at h1
    subst h1
    have hy:=List.mem_of_getElem? hc
    refine⟨y.row y.cv,?_⟩
    rw[List.getElem?_map,hc]
    match j with
    |0=>cases h2;exact⟨_,rfl,rfl, .sc _ rfl⟩
    |1=>cases h2;exact⟨_,rfl,rfl, .sc _ rfl⟩
    |2=>cases h2;exact⟨_,rfl,rfl, .sc _ rfl⟩
    |3=>cases h2;exact⟨_,rfl,rfl, .sc _ rfl⟩
    |4=>cases h2;exact⟨_,rfl,rfl, .sc _ rfl⟩
    |5=>cases h2;exact⟨_,rfl,rfl, .sc _ rfl⟩
    |6=>cases h2;exact⟨_,rfl,rfl, .sc _ rfl⟩
    |7=>
     cases h2
     refine⟨_,rfl,rfl,lB (h.calls y hy) (cs:=(y.calls.map bB.row).flatten) ?_⟩
     rw[Nat.add_comm 6 i]
     show(match N.runs[i]? with|some r=>jm r.cv (r.calls.map bB.row).flatten|none=>none)=_
     rw[hc]
    |j+8=>simp[mE.abs] at h2
  ·obtain⟨i,hi⟩:=List.mem_iff_getElem?.1 hr
   rw[wG] at hi
   cases hc:N.runs[i]? with
   |none=>rw[hc] at hi;cases hi
   |some y=>
    rw[hc] at hi
    simp only[Option.map_some,Option.some.injEq] at hi
    subst hi
    have hlt:=(List.getElem?_eq_some_iff.1 hc).1
    have:=Ih (k:=6+i) (h.calls y (List.mem_of_getElem? hc)) (fun _=>by omega) (by omega) hσ
    have e: ∀x:Int,aX σ (zv x)=some (zv x):=fun _=>rfl
    have e1: ∀s:ByteArray,aX σ (.string s)=some (.string s):=fun _=>rfl
    have e2: ∀s:Bool,aX σ (.bool s)=some (.bool s):=fun _=>rfl
    simp only[mE.abs,bz,e,e1,e2,this]
 |2=>
  obtain⟨h1,h2⟩:=qb (F:=N.E7) bS.row N.stops (fun _=>rfl)
  exact kZ h.stops (aO _ fun _=>rfl) h1 (fun σ _=>h2 σ) hF
 |3=>
  obtain⟨h1,h2⟩:=qb (F:=N.E7) bd.row N.fw (fun _=>rfl)
  exact kZ h.fw (aO _ fun _=>rfl) h1 (fun σ _=>h2 σ) hF
 |4=>
  obtain⟨h1,h2⟩:=qb (F:=N.E7) ae.row N.paths (fun _=>rfl)
  exact kZ h.paths (aO _ fun _=>rfl) h1 (fun σ _=>h2 σ) hF
 |5=>
  obtain⟨h1,h2⟩:=qb (F:=N.E7) bM.row N.iG (fun _=>rfl)
  exact kZ h.iG (aO _ fun _=>rfl) h1 (fun σ _=>h2 σ) hF
 |j+6=>
  have hF':(match N.runs[j]? with|some r=>jm r.cv (r.calls.map bB.row).flatten|none=>none)=some (g,o,some cs):=hF
  split at hF'
  ·rename_i r hr
   obtain⟨h1,h2⟩:=qb (F:=N.E7) bB.row r.calls (fun _=>rfl)
   exact kZ (h.calls r (List.mem_of_getElem? hr)) (aO _ fun _=>rfl) h1 (fun σ _=>h2 σ) hF'
  ·cases hF'
theorem Bb(N:jC): ∀k x,N.E7 k=some x->k<N.runs.length+6:=by
 intro k x h
 match k with
 |0|1|2|3|4|5=>omega
 |j+6=>
  have h':(match N.runs[j]? with|some r=>jm r.cv (r.calls.map bB.row).flatten|none=>none)=some x:=h
  split at h'
  ·rename_i r hr
   have:=(List.getElem?_eq_some_iff.1 hr).1
   omega
  ·cases h'
theorem pV{k sz:Nat}{v:Value}{rows:List (List Value)}{m:Nat}(h:nn w v sz rows)(hn:mH v)(hm:rows.length=m):Ar k (uq k v) (um v) (uo v) m:=by
 subst hm
 rcases h with ⟨rfl,rfl⟩|⟨⟨g,o,s,rfl⟩,rfl⟩|⟨g,o,c,rfl,_⟩
 ·exact .inl ⟨rfl,rfl,rfl,rfl⟩
 ·have:=hn _ _ _ rfl;cases this
 ·exact .inr ⟨rfl,rfl⟩
theorem M5{k sz:Nat}{v:Value}{rows:List (List Value)}{m:Nat}(h:nn w v sz rows)(hm:rows.length=m):PO k (uq k v) (um v) (uo v) m:=by
 subst hm
 rcases h with ⟨rfl,rfl⟩|⟨⟨g,o,s,rfl⟩,rfl⟩|⟨g,o,c,rfl,_⟩
 ·exact .inl (.inl ⟨rfl,rfl,rfl,rfl⟩)
 ·exact .inr ⟨⟨g,o,s,rfl⟩,rfl,rfl,rfl⟩
 ·exact .inl (.inr ⟨rfl,rfl⟩)
theorem Kp{sz:Nat}(hs:0<sz){rows:List (List Value)}(hl: ∀r∈rows,r.length=sz)(h:rows≠[]):rows.flatten≠[]:=by
 cases rows with
 |nil=>exact(h rfl).elim
 |cons r rows=>
  have:=hl r (by simp)
  cases r with
  |nil=>simp at this;omega
  |cons v r=>simp
theorem AP{F:EZ}{z:T aa}{k sz:Nat}{v:Value}{rows ar:List (List Value)}(hg: ∀k g o cs,F k=some (g,o,some cs)-> ∃e,z.get k=some (.ax (br e cs)))(h:nn w v sz rows)(hn:ar.length=rows.length)(hs:0<sz)(hl: ∀r∈ar,r.length=sz)
 (hF:F k=jm v ar.flatten) (hsz: ∀r∈ar,∀s:ByteArray,Value.string s∈r->s.size<=9223372036854775807):cu z k ar:=by
 refine⟨fun hne=>?_,hsz⟩
 have hr:rows≠[]:=fun e=>by rw[e] at hn;exact hne (List.length_eq_zero_iff.1 hn)
 rcases h with ⟨_,e⟩|⟨_,e⟩|⟨g,off,cap,rfl,_⟩
 ·exact(hr e).elim
 ·exact(hr e).elim
 ·have hf:=Kp hs hl hne
  cases hc:ar.flatten with
  |nil=>exact(hf hc).elim
  |cons x l=>
   rw[hc] at hF
   exact hg k g off (x::l) hF
theorem Nk(h:xV w N){F:EZ}(hF: ∀k,k<N.runs.length+6->F k=N.E7 k){z:T aa}(h4: ∀k g o cs,F k=some (g,o,some cs)-> ∃e,z.get k=some (.ax (br e cs))):gJ z N.V N.T:=by
 have cc: ∀(j:Nat)(r:mE),N.runs[j]? =some r->cu z (6+j) (r.calls.map bB.row):=fun j r hr=>by
  refine AP h4 (h.calls r (List.mem_of_getElem? hr)) rfl (by decide) (aO _ fun _=>rfl) ((hF (6+j) (by have:=(List.getElem?_eq_some_iff.1 hr).1;omega)).trans ?_) (fun r hr s hs=>?_)
  ·rw[Nat.add_comm 6 j]
   show(match N.runs[j]? with|some r=>jm r.cv (r.calls.map bB.row).flatten|none=>none)=_
   rw[hr]
  ·obtain⟨x,_,rfl⟩:=List.mem_map.1 hr
   simp at hs
 have gr: ∀(j:Nat)(r:RunT),(N.runs.mapIdx mE.abs)[j]? =some r-> ∃y,N.runs[j]? =some y/\r=mE.abs j y:=fun j r hr=>by
  rw[List.getElem?_mapIdx] at hr
  cases hc:N.runs[j]? with
  |none=>rw[hc] at hr;cases hr
  |some y=>rw[hc] at hr;cases hr;exact⟨y,rfl,rfl⟩
 exact {
  s:=pV h.stops h.ns (by simp[jC.T])
  r:=pV h.fw h.nr (by simp[jC.T])
  u:=pV h.runs h.nu (by simp[jC.T])
  l:=pV h.dU h.nl (by simp[jC.T])
  p:=pV h.paths h.np (by simp[jC.T])
  f:=pV h.iG h.nf (by simp[jC.T])
  ts:=AP h4 h.stops rfl (by decide) (aO _ fun _=>rfl) (hF 2 (by omega)) (fun r hr s hs=>by
   obtain⟨x,hx,rfl⟩:=List.mem_map.1 hr
   have:=h.zs x hx
   simp at hs;subst hs;exact this)
  tr:=AP h4 h.fw rfl (by decide) (aO _ fun _=>rfl) (hF 3 (by omega)) (fun r hr s hs=>by
   obtain⟨x,hx,rfl⟩:=List.mem_map.1 hr
   have:=h.zr x hx
   simp at hs;subst hs;exact this)
  tu:={
   I1:=AP h4 h.runs (by simp[jC.T]) (by decide) (wF (N:=N)) (hF 1 (by omega)) (fun r hr s hs=>by
    obtain⟨x,hx,rfl⟩:=List.mem_map.1 hr
    obtain⟨i,hi⟩:=List.mem_iff_getElem?.1 hx
    obtain⟨y,hy,rfl⟩:=gr i x hi
    have:=h.zu y (List.mem_of_getElem? hy)
    simp[mE.abs] at hs;subst hs;exact this)
   sl:=fun j r hr=>by
    obtain⟨y,hy,rfl⟩:=gr j r hr
    exact M5 (h.calls y (List.mem_of_getElem? hy)) (by simp[mE.abs])
   calls:=fun j r hr=>by
    obtain⟨y,hy,rfl⟩:=gr j r hr
    exact cc j y hy}
  tl:=AP h4 h.dU rfl (by decide) (aO _ fun _=>rfl) (hF 0 (by omega)) (fun r hr s hs=>by
   obtain⟨x,hx,rfl⟩:=List.mem_map.1 hr
   simp at hs)
  tp:=AP h4 h.paths rfl (by decide) (aO _ fun _=>rfl) (hF 4 (by omega)) (fun r hr s hs=>by
   obtain⟨x,hx,rfl⟩:=List.mem_map.1 hr
   simp at hs)
  tf:=AP h4 h.iG rfl (by decide) (aO _ fun _=>rfl) (hF 5 (by omega)) (fun r hr s hs=>by
   obtain⟨x,hx,rfl⟩:=List.mem_map.1 hr
   have:=h.zf x hx
   simp at hs;subst hs;exact this)}
theorem Jw(h:xV w N){F:EZ}(hF: ∀k,k<N.runs.length+6->F k=N.E7 k){l l':List Value}(hl:cU (jD F) l l'):cU (jD F) (.agg ⟨N.V.cells⟩::l) (.agg ⟨N.cells⟩::l'):=by
 exact .cons _ _ _ _ (.agg _ _ (.cons _ _ _ _ (lB h.stops (hF 2 (by omega))) (.cons _ _ _ _ (lB h.fw (hF 3 (by omega))) (.cons _ _ _ _ (lB h.runs (hF 1 (by omega))) (.cons _ _ _ _ (lB h.dU (hF 0 (by omega))) (.cons _ _ _ _ (lB h.paths (hF 4 (by omega))) (.cons _ _ _ _ (lB h.iG (hF 5 (by omega)))
  (.cons _ _ _ _ (.sc _ rfl) (.cons _ _ _ _ (.sc _ rfl) (.cons _ _ _ _ (.sc _ rfl) .nil)))))))))) hl
end
end Go.Proofs.Nw
namespace Go.Proofs
open Go Go.AV
set_option maxRecDepth 100000
def e0:pN:=⟨26,[(S [48,32,51,32,49,48,48,32,102,111,114,119,97,114,100,32,50,32,54,48,48,32,48,32,115,116,101,112,45,102,114,101,101])],[],20,(.tuple ⟨[(.agg ⟨[(I 0),(I 3),(I 100),F0,(I 2),(I 600),T1,F0,(I 0),F0]⟩),(I 0)]⟩),[],51,[]⟩
def e1:pN:=⟨12,[],[],6, .bool true,[],52,[]⟩
theorem Ip:gZ Tryz.prog:=He (by kernel_rfl)
theorem Re:wN Tryz.prog e0:=Hd Ip (es:=[]) (.nil) 30000 (by kernel_rfl)
theorem Rd:wN Tryz.prog e1:=Hd Ip (es:=[e0]) (.cons Re (.nil)) 30000 (by kernel_rfl)
end Go.Proofs
namespace Go.Proofs.Nw
open Go Go.AV Go.RowKit
set_option maxHeartbeats 1000000
set_option maxRecDepth 100000
theorem Ij{z:T aa}{zn:Nat}(hz:aq z zn){f:Nat}{args:List Value}{v:Value}(hp:bG args=true)(hv:au v=true)(h: ∀w,Calls Tryz.prog f ⟨args⟩ w fun e w'=>e= .returned v/\Go.RowKit.Below w.heap.size w w'):A1 z zn f args [] 0 0 v []:=by
 refine⟨hz,Nat.le_refl _,by decide,fun _ _=>Ia hz (fun b o h=>by cases h),fun ρ w args' n hargs hh hf hfb=>callsIn_wide.2 ?_⟩
 have e:=hargs.plain hp
 subst e
 refine(h w).mono fun e w' ⟨h1,h2⟩=>?_
 rw[h1]
 obtain⟨ρ',v',g1,g2,g3,g4⟩:=tH (h:=fA z [] 0) hv hh h2
 exact⟨(),trivial,ρ',v',g1,g2,g3,g4.z zn⟩
theorem Vq{z:T aa}{zn:Nat}(hz:aq z zn):A1 z zn 12 [] [] 0 0 T1 []:=
 Ij hz rfl rfl fun w=>(xy Rd w).mono fun e w' ⟨h1,h2,h3,h4,h5,h6⟩=>⟨h1,h2,h3,h4,h5,h6⟩
section
variable{z:T aa}{zn:Nat}{N:aC}{D:qu}
theorem Rr(h5:5<=zn)(hz:aq z zn)(hN:gJ z N D)(q:ux):
 A1 z zn 4 [.agg ⟨N.cells⟩, .agg ⟨q.row⟩] [] 0 0 T1 []:=by
 have hv:=hN.val []
 have hv1:=lF hv
 have hv2:bz (sig []) [.agg ⟨N.cells⟩, .agg ⟨q.row⟩]=some [.agg ⟨N.cells⟩, .agg ⟨q.row⟩]:=jg hv rfl
 have hb:=hN.box
 have hli:=HP hz hN
 have hcq:=Rj hz h5 hN q
 have hex:=Vq hz
 refine aY (gK (zg:=T.leaf)) (fn:=Tryz.f4) (by kernel_rfl) (by kernel_rfl) hz ⟨by decide,by decide⟩ rfl (N:=100) ?_
 cases hl:lY N D with
 |false=>
  rw[hl] at hli
  refine X7 z zn N q (yc N D q) _ ?_
  (repeat' first|(with_reducible first|exact rfl|exact True.intro|assumption|apply And.intro|exact hz|exact hli|exact hcq|exact hex|exact hv|exact hv1|exact hv2|exact hb _|exact q1)|exact(rfl:Int.ofNat _=_)|exact hz|exact hli|exact hcq|exact hex|exact hv|exact hv1|exact hv2|exact hb _|exact q1|intro hq)
 |true=>
  rw[hl] at hli
  by_cases h0:yc N D q=0
  ·have hc0:Value.bool (yc N D q==0)=Value.bool true:=by rw[h0];rfl
   refine X6 z zn N q (yc N D q) _ ?_
   (repeat' first|(with_reducible first|exact rfl|exact True.intro|assumption|apply And.intro|exact hz|exact hli|exact hcq|exact hex|exact hv|exact hv1|exact hv2|exact hb _|exact hc0|exact q1)|exact(rfl:Int.ofNat _=_)|exact hz|exact hli|exact hcq|exact hex|exact hv|exact hv1|exact hv2|exact hb _|exact hc0|exact q1|intro hq)
  ·obtain⟨l1,l2,l3⟩:=D4 hl
   have hnp:=kH hN.p
   have tG:=Vn hz hN (by omega) q h0
   have hc0:Value.bool (yc N D q==0)=Value.bool false:=by
    rw[show(yc N D q==0)=false by simpa using h0]
   have hc1:Value.bool (yc N D q==yc N D q)=Value.bool true:=by simp
   refine X5 z zn N q (yc N D q) _ ?_
   (repeat' first|(with_reducible first|exact rfl|exact True.intro|assumption|apply And.intro|exact hz|exact hli|exact hcq|exact tG|exact hex|exact hv|exact hv1|exact hv2|exact hb _|exact hc0|exact hc1|exact q1)|exact(rfl:Int.ofNat _=_)|exact hz|exact hli|exact hcq|exact tG|exact hex|exact hv|exact hv1|exact hv2|exact hb _|exact hc0|exact hc1|exact q1|intro hq)
end
theorem Jh{P:Program}{H:Type}{enc:TypeId × Value->H}{W:World}{base:Nat}{r:List Value}(h:cH enc P W base [.i .i64, .i .i64, .i .i64, .b, .i .i64, .i .i64, .b, .b, .i .i64, .b] r): ∃q:ux,r=q.row:=by
 obtain⟨x0,l0,rfl,_,h0⟩:=h.i
 obtain⟨x1,l1,rfl,_,h1⟩:=h0.i
 obtain⟨x2,l2,rfl,_,h2⟩:=h1.i
 obtain⟨x3,l3,rfl,h3⟩:=h2.b
 obtain⟨x4,l4,rfl,_,h4⟩:=h3.i
 obtain⟨x5,l5,rfl,_,h5⟩:=h4.i
 obtain⟨x6,l6,rfl,h6⟩:=h5.b
 obtain⟨x7,l7,rfl,h7⟩:=h6.b
 obtain⟨x8,l8,rfl,_,h8⟩:=h7.i
 obtain⟨x9,l9,rfl,h9⟩:=h8.b
 obtain rfl:=h9.e
 exact⟨⟨x0,x1,x2,x3,x4,x5,x6,x7,x8,x9⟩,rfl⟩
theorem FQ{H:Type}{enc:TypeId × Value->H}{W:World}{base:Nat}{r:Reach}{b:Nat}{v0:Value}{n:Nat}{x:DataW H × List MemPlace}(hok:Value.okWide Tryz.prog W r b 45 v0)(h:DataW.trod enc Tryz.prog W base (fun _=>true) true n 45 v0.cells.toList=some x):
 ∃q:ux,v0= .agg ⟨q.row⟩:=by
 obtain⟨fs,hfs⟩: ∃fs,Tryz.prog.underlying 45=some (.struct fs):=GY (by kernel_rfl)
 unfold Value.okWide at hok
 rw[hfs] at hok
 obtain⟨cs,rfl,_⟩:=hok
 have hcs:(Value.agg cs).cells.toList=cs.toList:=rfl
 rw[hcs] at h
 have hr:=r9 (sh:=[.i .i64, .i .i64, .i .i64, .b, .i .i64, .i .i64, .b, .b, .i .i64, .b]) (fuel:=5) hfs (by kernel_rfl) (by kernel_rfl) h
 obtain⟨l⟩:=cs
 obtain⟨q,rfl⟩:=Jh hr
 exact⟨q,rfl⟩
end Go.Proofs.Nw
