/-
  A part of the proof: lemmas of my own.
-/
import Derived.Test.YtglogmeapcdmeaaGreatDoorPC
import Derived.KernelRfl
import Derived.Below
set_option linter.unusedVariables false
set_option linter.unusedSimpArgs false
namespace Go.Proofs.Nw
open Go Go.AV Tryz Go.jo
set_option maxHeartbeats 4000000
set_option maxRecDepth 100000
theorem GS{n:Nat}(h:n<1000000000):Value.int .i64 (IntKind.i64.wrap ((n:Int) - 1))=Value.int .i64 ((n:Int) - 1):=by
 have:IntKind.i64.wrap ((n:Int) - 1)=(n:Int) - 1:=by
  simp only[IntKind.wrap,IntKind.signed,IntKind.bits]
  simp
  omega
 rw[this]
theorem zU{z:T aa}{zn eT:Nat}{v v':Value}{zo:bS}(h:v'=v):Q1 z zn eT v zo v' zo eT z zn:=by subst h;exact q1
structure nj(U:List RunT):Prop where
 len:U.length<=1024
 calls: ∀r,r∈U->2<=r.calls.length/\r.calls.length<=32
section
variable{z:T aa}{zn:Nat}
theorem xU{U:List RunT}(hZ:qp z U)(hU:nj U)(e0:TypeId)(y:Int): ∃(ca:Nat)(kb:ba),0<=y->y<U.length->aE prog (bq e0 (U.map fun r=>r.v.row).flatten) 40 (0+y.toNat*8+7)=some (tb (6+y.toNat) (jE U y) ca)/\z.get (6+y.toNat)=some (.aw kb)
 /\ ∀c:Int,0<=c->c<jE U y->aE prog kb 3 (0+c.toNat*5+0)=some (zv (kN U y c)):=by
 by_cases h:0<=y/\y<U.length
 ·obtain⟨r,hr⟩:=eV (l:=U) (i:=y.toNat) (by omega)
  have hc:=hU.calls r (List.mem_of_getElem? hr)
  have hu:jE U y=r.calls.length:=by unfold jE;rw[hr]
  obtain⟨e,he⟩:=(hZ.calls _ r hr).aw (i:=0) (by simp;omega)
  have hs:r.v.ca=some ⟨256*(6+y.toNat)+510,0,none⟩/\r.v.cn=r.calls.length:=by
   rcases hZ.sl _ r hr with (⟨_,_,_,h4⟩|h)|⟨_,_,_,h4⟩
   ·omega
   ·exact h
   ·omega
  refine⟨r.v.cc,_,fun _ _=>⟨?_,he,fun c h0 h1=>?_⟩⟩
  ·have hlen:=aQ (row:=fun r:RunT=>r.v.row) (sz:=8) U fun _=>rfl
   have:=bc (P:=prog) (e:=e0) (t:=40) (k:=y.toNat) (j:=7) (r:=r.v.row) (v:= .slice r.v.ca r.v.cn r.v.cc) underlying40 rfl hlen (by rw[List.getElem?_map,hr];rfl) rfl
   rw[this,hs.1,hs.2,hu]
  ·obtain⟨x,hx⟩:=eV (l:=r.calls) (i:=c.toNat) (by omega)
   have hst:kN U y c=x.stop:=by unfold kN;rw[hr];simp only;rw[hx]
   rw[hst]
   exact bc underlying3 rfl (aQ (row:=bw.row) (sz:=5) r.calls fun _=>rfl) (by rw[List.getElem?_map,hx];rfl) rfl
 ·exact⟨0,⟨[],0,0,0,true,true,0,true⟩,fun h1 h2=>(h ⟨h1,h2⟩).elim⟩
theorem Iu(hz:ay z zn)(hg:fB prog z gP)(N:aM)(L:List aH)(hl:L.length<100000)(hN:N.nl=L.length)(hL:cf z 0 (L.map aH.row))(hnet: ∀σ:bu,aI (aA σ []) (N.cA N.u1 N.l1)=some (N.cA N.u1 N.l1))(i:Nat)(hi:i<=L.length)(x:aH)(b:Bool)(hb:b=(x.stay && (L.take i).any (C1 x))):
 ai prog (ah (ag f70) 0) 2 177 (ym i 0) [(0,N.cA N.u1 N.l1),(1,Gu x)] 2 z zn (Al.R (Th z zn N i x b).l):=by
 refine an hD hg (α:=Nat) 2 177 2 (fun k=>k<=i/\(x.stay && (L.take k).any (C1 x))=false) (fun k=>ym i k) (fun _=>[(0,N.cA N.u1 N.l1),(1,Gu x)]) (fun _=>z) (fun _=>zn) (fun k=>i - k) _ (fun k hI=>?_) 0 ⟨Nat.zero_le _,by simp⟩
 obtain⟨h1,h2⟩:=hI
 by_cases hk:k<i
 ·obtain⟨e,he⟩:=hL.aw (i:=k) (by simp;omega)
  obtain⟨y,hy⟩:=eV (l:=L) (i:=k) (by omega)
  have hlen:=aQ (row:=aH.row) (sz:=5) L fun _=>rfl
  have hrow:aE prog (bq e (L.map aH.row).flatten) 123 (0+k*5)=some (.agg ⟨y.row⟩):=bG (r:=y.row) (sz:=5) underlying123 rfl rfl hlen (by rw[List.getElem?_map,hy];rfl)
  have hc:decide ((k:Int)<(i:Int))=true:=by simp;omega
  have jY:(x.stay && C1 x y)=false->ak (fun k=>k<=i/\(x.stay && (L.take k).any (C1 x))=false) (fun k=>ym i k) (fun _=>[(0,N.cA N.u1 N.l1),(1,Gu x)]) 2 (fun _=>z) (fun _=>zn) (fun k=>i - k) (Al.R (Th z zn N i x b).l) k .normal (ym i (k+1)) [(0,N.cA N.u1 N.l1),(1,Gu x)] 2 z zn:=fun h=>
   ⟨k+1,rfl,rfl,rfl,rfl,rfl,⟨hk,by rw[jR hy];cases hs:x.stay<;>simp_all⟩,by show i - (k+1)<i - k;omega⟩
  refine t100 (Sy z zn i k N (bq e (L.map aH.row).flatten) x y (ak _ _ _ _ _ _ _ _ _) ⟨fun _=>?_,nC1 hc⟩)
  (repeat' first|(with_reducible first|exact rfl|assumption|apply And.intro|exact(by omega:k<N.nl)|exact bP (by omega))|exact hnet _|intro hq)
  all_goals clear hnet hL hrow he hz hlen
  all_goals first
   |(refine jY ?_;unfold C1;simp_all;done)
   |(refine bD ?_;rw[hb]
     have:(L.take i).any (C1 x)=true:=any_true hy hk (by unfold C1;simp_all)
     rw[this];simp_all;done)
 ·have hc:decide ((k:Int)<(i:Int))=false:=by simp;omega
  refine t100 (Sy z zn i k N ⟨[],0,0,0,true,true,0,true⟩ x x (ak _ _ _ _ _ _ _ _ _) ⟨nC1 hc,fun _=>?_⟩)
  (repeat' first|(with_reducible first|exact rfl|assumption|apply And.intro)|exact hnet _)
  refine dD (bD ?_)
  rw[hb,←h2,show k=i by omega]
theorem It(hz:ay z zn)(hg:fB prog z gP)(N:aM)(L:List aH)(hl:L.length<100000)(hN:N.nl=L.length)(hL:cf z 0 (L.map aH.row))(hnet: ∀σ:bu,aI (aA σ []) (N.cA N.u1 N.l1)=some (N.cA N.u1 N.l1))(i:Nat)(hi:i<=L.length)(x:aH)(b:Bool)(hb:b=(L.take i).any (mg x)):
 ai prog (ah (ag f70) 1) 2 177 (AA i 0) [(0,N.cA N.u1 N.l1),(1,Gu x)] 2 z zn (Al.R (Tg z zn N i x b).l):=by
 refine an hD hg (α:=Nat) 2 177 2 (fun k=>k<=i/\(L.take k).any (mg x)=false) (fun k=>AA i k) (fun _=>[(0,N.cA N.u1 N.l1),(1,Gu x)]) (fun _=>z) (fun _=>zn) (fun k=>i - k) _ (fun k hI=>?_) 0 ⟨Nat.zero_le _,by simp⟩
 obtain⟨h1,h2⟩:=hI
 by_cases hk:k<i
 ·obtain⟨e,he⟩:=hL.aw (i:=k) (by simp;omega)
  obtain⟨y,hy⟩:=eV (l:=L) (i:=k) (by omega)
  have hlen:=aQ (row:=aH.row) (sz:=5) L fun _=>rfl
  have hrow:aE prog (bq e (L.map aH.row).flatten) 123 (0+k*5)=some (.agg ⟨y.row⟩):=bG (r:=y.row) (sz:=5) underlying123 rfl rfl hlen (by rw[List.getElem?_map,hy];rfl)
  have hc:decide ((k:Int)<(i:Int))=true:=by simp;omega
  have jY:mg x y=false->ak (fun k=>k<=i/\(L.take k).any (mg x)=false) (fun k=>AA i k) (fun _=>[(0,N.cA N.u1 N.l1),(1,Gu x)]) 2 (fun _=>z) (fun _=>zn) (fun k=>i - k) (Al.R (Tg z zn N i x b).l) k .normal (AA i (k+1)) [(0,N.cA N.u1 N.l1),(1,Gu x)] 2 z zn:=fun h=>
   ⟨k+1,rfl,rfl,rfl,rfl,rfl,⟨hk,by rw[jR hy,h2,h];rfl⟩,by show i - (k+1)<i - k;omega⟩
  refine t100 (Sx z zn i k N (bq e (L.map aH.row).flatten) x y (ak _ _ _ _ _ _ _ _ _) ⟨fun _=>?_,nC1 hc⟩)
  (repeat' first|(with_reducible first|exact rfl|assumption|apply And.intro|exact(by omega:k<N.nl)|exact bP (by omega))|exact hnet _|intro hq)
  all_goals clear hnet hL hrow he hz hlen
  all_goals first
   |(refine jY ?_;unfold mg;simp_all;done)
   |(refine bD ?_;rw[hb]
     exact any_true hy hk (by unfold mg;simp_all))
 ·have hc:decide ((k:Int)<(i:Int))=false:=by simp;omega
  refine t100 (Sx z zn i k N ⟨[],0,0,0,true,true,0,true⟩ x x (ak _ _ _ _ _ _ _ _ _) ⟨nC1 hc,fun _=>?_⟩)
  (repeat' first|(with_reducible first|exact rfl|assumption|apply And.intro))
  refine dD (bD ?_)
  rw[hb,←h2,show k=i by omega]
theorem M6(hz:ay z zn)(hg:fB prog z gP)(N:aM)(U:List RunT)(L:List aH)(hl:L.length<100000)(hNu:N.nu=U.length)(hN:N.nl=L.length)(hL:cf z 0 (L.map aH.row))(hZ:qp z U)(hU:nj U)(hnet: ∀σ:bu,aI (aA σ []) (N.cA N.u1 N.l1)=some (N.cA N.u1 N.l1))(hv:bz (sig []) [.agg ⟨N.eA N.u1 N.l1⟩]=some [.agg ⟨N.eA N.u1 N.l1⟩])(i:Nat)(x:aH)(hx:L[i]? =some x):
 A1 z zn 70 [.agg ⟨N.eA N.u1 N.l1⟩,iv i] [] 0 0 (zv (iM U L i x)) []:=by
 have hi:i<L.length:=(List.getElem?_eq_some_iff.1 hx).1
 obtain⟨el,hel⟩:=hL.aw (i:=i) (by simp;omega)
 have hlen:=aQ (row:=aH.row) (sz:=5) L fun _=>rfl
 have hrow:aE prog (bq el (L.map aH.row).flatten) 123 (0+i*5)=some (.agg ⟨x.row⟩):=bG (r:=x.row) (sz:=5) underlying123 rfl rfl hlen (by rw[List.getElem?_map,hx];rfl)
 have hu0: ∃eu:TypeId,0<U.length->z.get 1=some (.aw (bq eu (U.map fun r=>r.v.row).flatten)):=by
  by_cases h:0<U.length
  ·obtain⟨e,he⟩:=hZ.Kt.aw (i:=0) (by simpa using h)
   exact⟨e,fun _=>he⟩
  ·exact⟨0,fun k=>(h k).elim⟩
 obtain⟨eu,heu⟩:=hu0
 obtain⟨ca,ka,hA⟩:=xU hZ hU eu x.fz1
 obtain⟨cb,kb,hB⟩:=xU hZ hU eu x.aq
 have hla:jE U x.fz1<1000000000:=by
  unfold jE
  split
  ·rename_i r hr;have:=(hU.calls r (List.mem_of_getElem? hr)).2;omega
  ·omega
 have hlb:jE U x.aq<1000000000:=by
  unfold jE
  split
  ·rename_i r hr;have:=(hU.calls r (List.mem_of_getElem? hr)).2;omega
  ·omega
 have hl3:=JG hz hg {N with ua:=some ⟨766,0,none⟩} L hl hN hL hnet i (by omega) x.aq x.fz1
 have hla3:bz (sig []) [.agg ⟨N.eA N.u1 N.l1⟩,iv i,zv x.aq,zv x.fz1]=some [.agg ⟨N.eA N.u1 N.l1⟩,iv i,zv x.aq,zv x.fz1]:=by
  have hv2:aW (sig []) (.agg ⟨N.eA N.u1 N.l1⟩)=some (.agg ⟨N.eA N.u1 N.l1⟩):=by
   simp only[bz] at hv
   split at hv
   ·rename_i u hu;simp only[Option.some.injEq,List.cons.injEq,and_true] at hv;rw[hu,hv]
   ·cases hv
  exact lF hv2 rfl
 have ha:=Iu hz hg N L hl hN hL hnet i (by omega) x _ rfl
 have hb:=It hz hg N L hl hN hL hnet i (by omega) x _ rfl
 have hlk:iM U L i x=if x.fz1<0\/(U.length:Int)<=x.fz1\/x.aq<0\/(U.length:Int)<=x.aq\/x.fz1=x.aq then 9
  else if x.fc<0\/(jE U x.fz1:Int)<=x.fc\/x.tc<0\/(jE U x.aq:Int)<=x.tc then 9
  else if kN U x.fz1 x.fc≠kN U x.aq x.tc then 13
  else if x.stay=true/\(x.fc+1≠jE U x.fz1\/x.tc≠0) then 19
  else if (x.stay && (L.take i).any (C1 x))=true then 19
  else if x.stay=true/\dI (gK (stays (L.take i))) x.fz1 (i+1) x.aq=true then 19
  else if (L.take i).any (mg x)=true then 6 else 0:=by
  unfold iM;simp only[Bool.and_eq_true]
 generalize (x.stay && (L.take i).any (C1 x))=va at ha hlk
 generalize ((L.take i).any (mg x))=vb at hb hlk
 generalize dI (gK (stays (L.take i))) x.fz1 (i+1) x.aq=lb at hl3 hlk
 have heu':0<N.nu->z.get 1=some (.aw (bq eu (U.map fun r=>r.v.row).flatten)):=fun h=>heu (by omega)
 have hA1: ∀h0:0<=x.fz1,x.fz1<N.nu->_:=fun h0 h1=>hA h0 (by omega)
 have hB1: ∀h0:0<=x.aq,x.aq<N.nu->_:=fun h0 h1=>hB h0 (by omega)
 rw[←hNu] at hlk
 refine cW hg (fn:=f70) (by kernel_rfl) (by kernel_rfl) hz ⟨by decide,by decide⟩ rfl (flk z zn i N (bq el (L.map aH.row).flatten) (bq eu (U.map fun r=>r.v.row).flatten) ka kb x x.fz1.toNat x.aq.toNat x.fc.toNat x.tc.toNat (jE U x.fz1) ca (jE U x.aq) cb (kN U x.fz1 x.fc) (kN U x.aq x.tc) lb va vb _ ?_)
 have hnu:N.nu<1000000000:=by have:=hU.len;omega
 (repeat' first|(with_reducible first|exact rfl|assumption|apply And.intro|exact(by omega:i<N.nl)|exact GS hnu|exact GS hla|exact GS hlb)|exact(rfl:gP _ _=_)|exact ha|exact hb|exact hnet _|intro hq)
 all_goals clear hla3 hl3 ha hb hel hrow hnet hv hz hL hZ hU hA hB heu
 all_goals first
  |(refine zU (congrArg (Value.int .i64) ?_)
    clear hA1 hB1 heu'
    rw[hlk]
    clear hlk
    (repeat' split)<;>first|rfl|(exfalso;simp only[bS1,bS2,bS3] at*;omega)|(exfalso;simp_all;done)|(exfalso;simp_all;omega)|trace_state)
  |exact congrArg Value.bool (by assumption)
  |exact heu' (by simp only[bS1,bS2,bS3] at*;omega)
  |exact(hA1 (by simp only[bS1,bS2,bS3] at*;omega) (by simp only[bS1,bS2,bS3] at*;omega)).1
  |exact(hA1 (by simp only[bS1,bS2,bS3] at*;omega) (by simp only[bS1,bS2,bS3] at*;omega)).2.1
  |exact(hA1 (by simp only[bS1,bS2,bS3] at*;omega) (by simp only[bS1,bS2,bS3] at*;omega)).2.2 _ (by simp only[bS1,bS2,bS3] at*;omega) (by simp only[bS1,bS2,bS3] at*;omega)
  |exact(hB1 (by simp only[bS1,bS2,bS3] at*;omega) (by simp only[bS1,bS2,bS3] at*;omega)).1
  |exact(hB1 (by simp only[bS1,bS2,bS3] at*;omega) (by simp only[bS1,bS2,bS3] at*;omega)).2.1
  |exact(hB1 (by simp only[bS1,bS2,bS3] at*;omega) (by simp only[bS1,bS2,bS3] at*;omega)).2.2 _ (by simp only[bS1,bS2,bS3] at*;omega) (by simp only[bS1,bS2,bS3] at*;omega)
  |(clear hA1 hB1 heu' hlk;simp only[bS1,bS2,bS3] at*;omega)
end
end Go.Proofs.Nw
namespace Go.Proofs.Nw
open Go Go.AV Tryz Go.jo
set_option maxHeartbeats 8000000
set_option maxRecDepth 100000
abbrev PS(ps:List (Int × Int)):List Value:=(ps.map (·.2)).map fun x=>zv x
theorem E5(σ:Nat->Option Nat)(l:List (Int × Int))(a b:Int):aI σ (aa.map (iZ 0 l++[{key:=zv a,val:=zv b,born:=l.length}]) (l.length+1))=some (aa.map (iZ 0 l++[{key:=zv a,val:=zv b,born:=l.length}]) (l.length+1)):=by
 rw[wI];exact Ar _ _
theorem Sm{a:Int}(h0:0<=a)(h:a<1000000000):Value.int .i64 (IntKind.i64.wrap (a+1))=Value.int .i64 (a+1):=by
 have:IntKind.i64.wrap (a+1)=a+1:=by
  simp only[IntKind.wrap,IntKind.signed,IntKind.bits]
  simp
  omega
 rw[this]
theorem KT{U:List RunT}(hU:nj U)(y:Int):(jE U y:Int)<=32:=by
 unfold jE
 split
 ·rename_i r hr;have:=(hU.calls r (List.mem_of_getElem? hr)).2;omega
 ·omega
section
variable{z:T aa}{zn:Nat}
theorem PN(hz:ay z zn)(hg:fB prog z gP)(N:aM)(U:List RunT)(L:List aH)(hl:L.length<100000)(hNu:N.nu=U.length)(hN:N.nl=L.length)(hL:cf z 0 (L.map aH.row))(hZ:qp z U)(hU:nj U)(hnet: ∀σ:bu,aI (aA σ []) (N.cA N.u1 N.l1)=some (N.cA N.u1 N.l1))(r:Int × Int)(hr:scan (fw U L) L.length 0=r):
 ai prog (ah (ag f46) 0) 5 171 (Fg N.nl N.lc 0) [(0,N.cA N.u1 N.l1),(1,c7 0 0 0),(2, .map [] 0),(3,bb []),(4,bb [])] 5 z zn (Al.R (Uz z zn N N.u1 (if r.2=0 then 0 else 3) r.1 r.2).l):=by
 refine an hD hg (α:=Nat) 5 171 5 (fun i=>i<=L.length/\scan (fw U L) (L.length - i) i=r/\ ∀j,j<i->fw U L j=none) (fun i=>Fg N.nl N.lc i) (fun i=>[(0,N.cA N.u1 N.l1),(1,c7 0 0 0),(2,uu (stays (L.take i))),(3,bb (PS (stays (L.take i)))),(4,bb ((L.take i).map j9))]) (fun _=>z) (fun _=>zn) (fun i=>L.length - i) _ (fun i hI=>?_) 0 ⟨Nat.zero_le _,hr,fun j hj=>by omega⟩
 obtain⟨h1,h2,h3⟩:=hI
 by_cases hi:i<L.length
 ·obtain⟨x,hx⟩:=eV hi
  obtain⟨el,hel⟩:=hL.aw (i:=i) (by simp;omega)
  have hlen:=aQ (row:=aH.row) (sz:=5) L fun _=>rfl
  have hrow:aE prog (bq el (L.map aH.row).flatten) 123 (0+i*5)=some (.agg ⟨x.row⟩):=bG (r:=x.row) (sz:=5) underlying123 rfl rfl hlen (by rw[List.getElem?_map,hx];rfl)
  have hu0: ∃eu:TypeId,0<U.length->z.get 1=some (.aw (bq eu (U.map fun r=>r.v.row).flatten)):=by
   by_cases h:0<U.length
   ·obtain⟨e,he⟩:=hZ.Kt.aw (i:=0) (by simpa using h)
    exact⟨e,fun _=>he⟩
   ·exact⟨0,fun k=>(h k).elim⟩
  obtain⟨eu,heu⟩:=hu0
  obtain⟨ca,ka,hA⟩:=xU hZ hU eu x.fz1
  obtain⟨cb,kb,hB⟩:=xU hZ hU eu x.aq
  have heu':0<N.nu->z.get 1=some (.aw (bq eu (U.map fun r=>r.v.row).flatten)):=fun h=>heu (by omega)
  have hA1: ∀h0:0<=x.fz1,x.fz1<N.nu->_:=fun h0 h1=>hA h0 (by omega)
  have hB1: ∀h0:0<=x.aq,x.aq<N.nu->_:=fun h0 h1=>hB h0 (by omega)
  have hla:=KT hU x.fz1
  have ok:=wB U L i h1 h3
  have hm:=WO (stays (L.take i))
  have hk:=Ty x (L.take i)
  have hps:=Ht (L.take i)
  have hi2:=PR x.aq ((stays (L.take i)).map (·.2))
  have hpi:=EY ((stays (L.take i)).map (·.2))
  have hcf:=Et (L.take i) x
  have hlds:0<=x.fz1->A1 z zn 62 [mp 0,zv x.aq,zv x.fz1] [(0,uu (stays (L.take i)))] 1 1 (.bool (dI (gK (stays (L.take i))) x.fz1 (i+1) x.aq)) [(0,uu (stays (L.take i)))]:=fun h0=>
   Nc hz hm (by rw[ok.eq];exact ok.dep) x.aq x.fz1 _ (by rw[ok.eq];exact ok.leads h0 (by rw[List.length_take];omega))
  have hlk:iM U L i x=if x.fz1<0\/(U.length:Int)<=x.fz1\/x.aq<0\/(U.length:Int)<=x.aq\/x.fz1=x.aq then 9
   else if x.fc<0\/(jE U x.fz1:Int)<=x.fc\/x.tc<0\/(jE U x.aq:Int)<=x.tc then 9
   else if kN U x.fz1 x.fc≠kN U x.aq x.tc then 13
   else if x.stay=true/\(x.fc+1≠jE U x.fz1\/x.tc≠0) then 19
   else if x.stay=true/\(L.take i).any (C1 x)=true then 19
   else if x.stay=true/\dI (gK (stays (L.take i))) x.fz1 (i+1) x.aq=true then 19
   else if (L.take i).any (mg x)=true then 6 else 0:=rfl
  have ret: ∀e:Int,e=iM U L i x->e≠0->Al.R (Uz z zn N N.u1 (if r.2=0 then 0 else 3) r.1 r.2).l ⟨.ret,[(2,ip 1)],[(1,c7 3 i e)],5,z,zn⟩:=fun e h h0=>by
   have hb:fw U L i=some e:=by unfold fw;rw[hx];simp only;rw[←h,if_neg h0]
   have:r=((i:Int),e):=by rw[←h2,dr hi hb]
   rw[this]
   simp only[if_neg h0]
   exact bD trivial
  have htk:L.take (i+1)=L.take i++[x]:=by rw[List.take_add_one,hx];rfl
  have jY:iM U L i x=0->ak (fun i=>i<=L.length/\scan (fw U L) (L.length - i) i=r/\ ∀j,j<i->fw U L j=none) (fun i=>Fg N.nl N.lc i) (fun i=>[(0,N.cA N.u1 N.l1),(1,c7 0 0 0),(2,uu (stays (L.take i))),(3,bb (PS (stays (L.take i)))),(4,bb ((L.take i).map j9))]) 5 (fun _=>z) (fun _=>zn) (fun i=>L.length - i) (Al.R (Uz z zn N N.u1 (if r.2=0 then 0 else 3) r.1 r.2).l) i .normal (Fg N.nl N.lc (i+1))
   [(0,N.cA N.u1 N.l1),(1,c7 0 0 0),(2,uu (if x.stay=true then stays (L.take i)++[(x.fz1,x.aq)] else stays (L.take i))),(3,bb (PS (if x.stay=true then stays (L.take i)++[(x.fz1,x.aq)] else stays (L.take i)))),(4,bb ((L.take i).map j9++[j9 x]))] 5 z zn:=fun h0=>by
   have hb:fw U L i=none:=by unfold fw;rw[hx];simp only;rw[if_pos h0]
   refine⟨i+1,rfl,?_,rfl,rfl,rfl,⟨hi,by rw[←cN hi hb];exact h2,fun j hj=>?_⟩,by show L.length - (i+1)<L.length - i;omega⟩
   ·show _=[(0,N.cA N.u1 N.l1),(1,c7 0 0 0),(2,uu (stays (L.take (i+1)))),(3,bb (PS (stays (L.take (i+1))))),(4,bb ((L.take (i+1)).map j9))]
    rw[htk,lx,List.map_append];rfl
   ·by_cases e:j=i
    ·subst e;exact hb
    ·exact h3 j (by omega)
  have hc:decide ((i:Int)<(N.nl:Int))=true:=by simp;omega
  rw[←hNu] at hlk
  generalize (L.take i).any (C1 x)=va at hlk hcf
  generalize dI (gK (stays (L.take i))) x.fz1 (i+1) x.aq=lb at hlk hlds
  have hv0:nV (stays (L.take i)) x.fz1=none->x.aq ∉ (stays (L.take i)).map (·.2)->va=false:=fun h k=>hcf.2 ⟨h,k⟩
  have hv1: ∀b,nV (stays (L.take i)) x.fz1=some b->va=true:=fun b h=>by
   cases hva:va with
   |true=>rfl
   |false=>(have:=(hcf.1 hva).1;rw[h] at this;cases this)
  have hv2:x.aq∈(stays (L.take i)).map (·.2)->va=true:=fun h=>by
   cases hva:va with
   |true=>rfl
   |false=>exact((hcf.1 hva).2 h).elim
  refine t100 (rk z zn i N (bq el (L.map aH.row).flatten) (bq eu (U.map fun r=>r.v.row).flatten) ka kb x x.fz1.toNat x.aq.toNat x.fc.toNat x.tc.toNat (jE U x.fz1) ca (jE U x.aq) cb (kN U x.fz1 x.fc) (kN U x.aq x.tc) lb (stays (L.take i)) (PS (stays (L.take i))) ((L.take i).map j9) (ak _ _ _ _ _ _ _ _ _) ⟨fun _=>?_,nC1 hc⟩)
  (repeat' first|(with_reducible first|exact rfl|assumption|apply And.intro|exact(by omega:i<N.nl)|exact hm.no _|exact hm.ex _|exact hk.no|exact hk.ex|exact hi2.no|exact hi2.ex|exact iI _ hps rfl|exact iI _ hpi rfl|exact zQ hpi|exact Ar _ _|exact E5 _ _ _ _|exact bP (by omega))|exact(rfl:gP _ _=_)|exact hnet _|intro hq)
  all_goals clear hnet hrow hel hz hL hZ hU hA hB heu hlen hps hpi
  all_goals try (have hm1:=hk.D7 (by with_reducible assumption);rw[H6] at hm1)
  all_goals try (have hm1:=hk.Kw (by with_reducible assumption);rw[H6] at hm1)
  all_goals try (have hm2:=hi2.D7 (by with_reducible assumption);rw[DZ] at hm2)
  all_goals try (have hm2:=hi2.Kw (by with_reducible assumption);rw[DZ] at hm2)
  all_goals try (have hm3:=hm.D7 (by with_reducible assumption))
  all_goals try (have hm3:=hm.none (by with_reducible assumption))
  all_goals clear hm hk hi2
  all_goals try (have hv:=hv0 hm3 hm2)
  all_goals try (have hv:=hv1 _ hm3)
  all_goals try (have hv:=hv2 hm2)
  all_goals clear hv0 hv1 hv2
  all_goals clear hcf
  all_goals first
   |(refine ret _ ?_ (by decide)
     clear ret jY hlds hA1 hB1 heu' h2 h3 hr
     rw[hlk]
     clear hlk
     (repeat' split)<;>first|rfl|(exfalso;simp only[bS1,bS2,bS3] at*;omega)|(exfalso;simp_all;done)|(exfalso;simp_all;omega))
   |(have h0:iM U L i x=0:=by
      clear ret jY hlds hA1 hB1 heu' h2 h3 hr
      rw[hlk]
      clear hlk
      (repeat' split)<;>first|rfl|(exfalso;simp only[bS1,bS2,bS3] at*;omega)|(exfalso;simp_all;done)|(exfalso;simp_all;omega)
     have q:=jY h0
     rw[fM]
     first
      |(have hs:x.stay=true:=by assumption
        simp only[hs,if_true] at q
        rw[wI,fM]
        simp only[PS,List.map_append,List.map_cons,List.map_nil] at q ⊢
        exact q)
      |(have hs:x.stay=false:=by assumption
        simp only[hs,Bool.false_eq_true,if_false] at q
        exact q))
   |exact congrArg Value.bool (by assumption)
   |exact heu' (by simp only[bS1,bS2,bS3] at*;omega)
   |exact(hA1 (by simp only[bS1,bS2,bS3] at*;omega) (by simp only[bS1,bS2,bS3] at*;omega)).1
   |exact(hA1 (by simp only[bS1,bS2,bS3] at*;omega) (by simp only[bS1,bS2,bS3] at*;omega)).2.1
   |exact(hA1 (by simp only[bS1,bS2,bS3] at*;omega) (by simp only[bS1,bS2,bS3] at*;omega)).2.2 _ (by simp only[bS1,bS2,bS3] at*;omega) (by simp only[bS1,bS2,bS3] at*;omega)
   |exact(hB1 (by simp only[bS1,bS2,bS3] at*;omega) (by simp only[bS1,bS2,bS3] at*;omega)).1
   |exact(hB1 (by simp only[bS1,bS2,bS3] at*;omega) (by simp only[bS1,bS2,bS3] at*;omega)).2.1
   |exact(hB1 (by simp only[bS1,bS2,bS3] at*;omega) (by simp only[bS1,bS2,bS3] at*;omega)).2.2 _ (by simp only[bS1,bS2,bS3] at*;omega) (by simp only[bS1,bS2,bS3] at*;omega)
   |exact hlds (by simp only[bS1,bS2,bS3] at*;omega)
   |exact Sm (by simp only[bS1,bS2,bS3] at*;omega) (by simp only[bS1,bS2,bS3] at*;omega)
   |(clear hA1 hB1 heu' hlk hlds jY ret;simp only[bS1,bS2,bS3] at*;omega)
 ·have hc:decide ((i:Int)<(N.nl:Int))=false:=by simp;omega
  refine t100 (rk z zn i N ⟨[],0,0,0,true,true,0,true⟩ ⟨[],0,0,0,true,true,0,true⟩ ⟨[],0,0,0,true,true,0,true⟩ ⟨[],0,0,0,true,true,0,true⟩ ⟨0,0,0,0,true⟩ 0 0 0 0 0 0 0 0 0 0 true (stays (L.take i)) (PS (stays (L.take i))) ((L.take i).map j9) (ak _ _ _ _ _ _ _ _ _) ⟨nC1 hc,fun _=>?_⟩)
  (repeat' first|(with_reducible first|exact rfl|assumption|apply And.intro))
  rw[dH (by omega)] at h2
  refine dD (bD ?_)
  rw[←h2]
  exact⟨rfl,rfl,rfl⟩
theorem Nb(hz:ay z zn)(hg:fB prog z gP)(N:aM)(U:List RunT)(L:List aH)(hNu:N.nu=U.length)(hN:N.nl=L.length)(hL:cf z 0 (L.map aH.row))(hZ:qp z U)(hU:nj U)(hnet: ∀σ:bu,aI (aA σ []) (N.cA N.u1 N.l1)=some (N.cA N.u1 N.l1)):
 A1 z zn 46 [.agg ⟨N.eA N.u1 N.l1⟩] [] 0 0 (.agg ⟨[zv (if (bL U L).2=0 then 0 else 3),zv (bL U L).1,zv (bL U L).2]⟩) []:=by
 refine cW hg (fn:=f46) (by kernel_rfl) (by kernel_rfl) hz ⟨by decide,by decide⟩ rfl (fk z zn N N.u1 (if (bL U L).2=0 then 0 else 3) (bL U L).1 (bL U L).2 _ ?_)
 by_cases h:1024<L.length
 ·have hr:bL U L=(0,5):=if_pos h
  have hc:decide ((N.nl:Int)>1024)=true:=by simp;omega
  rw[hr]
  refine⟨fun _=>?_,nC1 hc⟩
  (repeat' first|(with_reducible first|exact rfl|assumption|apply And.intro)|exact(rfl:gP _ _=_)|exact q1)
 ·have hr:bL U L=scan (fw U L) L.length 0:=if_neg h
  have hc:decide ((N.nl:Int)>1024)=false:=by simp;omega
  have hK:=PN hz hg N U L (by omega) hNu hN hL hZ hU hnet (bL U L) hr.symm
  refine⟨nC1 hc,fun _=>?_⟩
  (repeat' first|(with_reducible first|exact rfl|assumption|apply And.intro|exact q1)|exact hK|exact hnet _|intro hq)
  all_goals first|(rw[hq.1,hq.2.1,hq.2.2];exact q1)|trace_state
theorem Mg(hz:ay z zn)(hg:fB prog z gP)(N:aM)(L:List aH)(hl:L.length<100000)(hN:N.nl=L.length)(hL:cf z 0 (L.map aH.row))(hnet: ∀σ:bu,aI (aA σ []) (N.cA az N.l1)=some (N.cA az N.l1))(r:Int × Int)(hr:scan (fw [] L) L.length 0=r):
 ai prog (ah (ag f46) 0) 5 171 (Fg N.nl N.lc 0) [(0,N.cA az N.l1),(1,c7 0 0 0),(2, .map [] 0),(3,bb []),(4,bb [])] 5 z zn (Al.R (Uz z zn N az (if r.2=0 then 0 else 3) r.1 r.2).l):=by
 refine an hD hg (α:=Nat) 5 171 5 (fun i=>i=0) (fun i=>Fg N.nl N.lc i) (fun i=>[(0,N.cA az N.l1),(1,c7 0 0 0),(2, .map [] 0),(3,bb []),(4,bb [])]) (fun _=>z) (fun _=>zn) (fun i=>1) _ (fun i hI=>?_) 0 rfl
 subst hI
 by_cases hi:0<L.length
 ·obtain⟨x,hx⟩:=eV hi
  obtain⟨el,hel⟩:=hL.aw (i:=0) (by simp;omega)
  have hlen:=aQ (row:=aH.row) (sz:=5) L fun _=>rfl
  have hrow:aE prog (bq el (L.map aH.row).flatten) 123 (0+0*5)=some (.agg ⟨x.row⟩):=bG (r:=x.row) (sz:=5) underlying123 rfl rfl hlen (by rw[List.getElem?_map,hx];rfl)
  have hb:fw [] L 0=some 9:=by
   unfold fw;rw[hx];simp only
   have:iM [] L 0 x=9:=by unfold iM;rw[if_pos (by simp;omega)]
   rw[this];rfl
  have hrr:r=(0,9):=by rw[←hr];exact dr hi hb
  have hwf:gP 61 [zv x.fz1,I 0]=some (.bool false):=by
   show some (Value.bool (decide (0<=x.fz1) && decide (x.fz1<0)))=_
   have:(decide (0<=x.fz1) && decide (x.fz1<0))=false:=by simp
   rw[this]
  have hc:decide (((0:Nat):Int)<(N.nl:Int))=true:=by simp;omega
  refine t100 (ZI z zn 0 N (bq el (L.map aH.row).flatten) x (ak _ _ _ _ _ _ _ _ _) ⟨fun _=>?_,nC1 hc⟩)
  (repeat' first|(with_reducible first|exact rfl|assumption|apply And.intro|exact(by omega:0<N.nl))|exact(rfl:gP _ _=_))
  all_goals first
   |(rw[hrr];exact bD trivial)
 ·have hc:decide (((0:Nat):Int)<(N.nl:Int))=false:=by simp;omega
  refine t100 (ZI z zn 0 N ⟨[],0,0,0,true,true,0,true⟩ ⟨0,0,0,0,true⟩ (ak _ _ _ _ _ _ _ _ _) ⟨nC1 hc,fun _=>?_⟩)
  (repeat' first|(with_reducible first|exact rfl|assumption|apply And.intro))
  have e:L.length=0:=by omega
  rw[e] at hr
  refine dD (bD ?_)
  rw[←hr]
  exact⟨rfl,rfl,rfl⟩
theorem JP(hz:ay z zn)(hg:fB prog z gP)(N:aM)(L:List aH)(hN:N.nl=L.length)(hL:cf z 0 (L.map aH.row))(hnet: ∀σ:bu,aI (aA σ []) (N.cA az N.l1)=some (N.cA az N.l1)):
 A1 z zn 46 [.agg ⟨N.eA az N.l1⟩] [] 0 0 (.agg ⟨[zv (if (bL [] L).2=0 then 0 else 3),zv (bL [] L).1,zv (bL [] L).2]⟩) []:=by
 refine cW hg (fn:=f46) (by kernel_rfl) (by kernel_rfl) hz ⟨by decide,by decide⟩ rfl (fkn z zn N az (if (bL [] L).2=0 then 0 else 3) (bL [] L).1 (bL [] L).2 _ ?_)
 by_cases h:1024<L.length
 ·have hr:bL [] L=(0,5):=if_pos h
  have hc:decide ((N.nl:Int)>1024)=true:=by simp;omega
  rw[hr]
  refine⟨fun _=>?_,nC1 hc⟩
  (repeat' first|(with_reducible first|exact rfl|assumption|apply And.intro)|exact(rfl:gP _ _=_)|exact q1)
 ·have hr:bL [] L=scan (fw [] L) L.length 0:=if_neg h
  have hc:decide ((N.nl:Int)>1024)=false:=by simp;omega
  have hK:=Mg hz hg N L (by omega) hN hL hnet (bL [] L) hr.symm
  refine⟨nC1 hc,fun _=>?_⟩
  (repeat' first|(with_reducible first|exact rfl|assumption|apply And.intro|exact q1)|exact hK|exact hnet _|intro hq)
  all_goals first|(rw[hq.1,hq.2.1,hq.2.2];exact q1)|trace_state
theorem JO(hz:ay z zn)(hg:fB prog z gP)(N:aM)(hnet: ∀σ:bu,aI (aA σ []) (N.cA N.u0 az)=some (N.cA N.u0 az)):
 A1 z zn 46 [.agg ⟨N.eA N.u0 az⟩] [] 0 0 (.agg ⟨[I 0,I 0,I 0]⟩) []:=by
 have hL:ai prog (ah (ag f46) 0) 5 171 Ff [(0,N.cA N.u0 az),(1,c7 0 0 0),(2, .map [] 0),(3,bb []),(4,bb [])] 5 z zn (Al.R (WX z zn N).l):=by
  refine an hD hg (α:=Nat) 5 171 5 (fun i=>i=0) (fun i=>Ff) (fun i=>[(0,N.cA N.u0 az),(1,c7 0 0 0),(2, .map [] 0),(3,bb []),(4,bb [])]) (fun _=>z) (fun _=>zn) (fun i=>1) _ (fun i hI=>?_) 0 rfl
  refine t100 (rkz z zn N (ak _ _ _ _ _ _ _ _ _) ?_)
  (repeat' first|(with_reducible first|exact rfl|assumption|apply And.intro))
  all_goals first|exact bD trivial|trace_state
 refine cW hg (fn:=f46) (by kernel_rfl) (by kernel_rfl) hz ⟨by decide,by decide⟩ rfl (fkz z zn N _ ?_)
 (repeat' first|(with_reducible first|exact rfl|assumption|apply And.intro|exact q1)|exact hL|exact hnet _|intro hq)
end
end Go.Proofs.Nw
namespace Go.Proofs.Nw
open Go Go.AV Tryz Go.jo
set_option maxRecDepth 100000
def bX(x y:ae):Bool:=decide (y.fz1=x.fz1) && (decide (y.aq=x.aq) && (y.sf==x.sf))
def fT(n:Int)(l:List ae)(i:Nat)(x:ae):Int:=
 if x.fz1<0\/n<=x.fz1\/x.aq<0\/n<=x.aq\/x.fz1=x.aq then 9 else if x.aK<1\/14400<x.aK then 2 else if (l.take i).any (bX x)=true then 6 else 0
def cK(n:Int)(l:List ae)(i:Nat):Option Int:=match l[i]? with
 |some x=>if fT n l i x=0 then none else some (fT n l i x)
 |none=>none
def aS(n:Int)(l:List ae):Int × Int:=scan (cK n l) l.length 0
theorem pL: ∀(M:Nat)(l:List Nat),l.Nodup->(∀x∈l,x<M)->l.length<=M
 |0,l,_,h=>by
  cases l with
  |nil=>simp
  |cons a l=>have:=h a (by simp);omega
 |M+1,l,hn,h=>by
  have h1:=pL M (l.erase M) (hn.erase M) fun x hx=>by
   have:=h x (List.mem_of_mem_erase hx)
   have hne:x≠M:=fun e=>by subst e;exact hn.not_mem_erase hx
   omega
  by_cases hm:M∈l
  ·rw[List.length_erase_of_mem hm] at h1;omega
  ·rw[List.erase_of_not_mem hm] at h1;omega
def yC(x:ae):Nat:=x.fz1.toNat*128+x.aq.toNat*2+(if x.sf=true then 1 else 0)
theorem Bh(n:Int)(hn:n<=64)(l:List ae): ∀k,k<=l.length->(∀j,j<k->cK n l j=none)->((l.take k).map yC).Nodup/\ ∀y∈l.take k,0<=y.fz1/\y.fz1<64/\0<=y.aq/\y.aq<64
 |0,_,_=>by simp
 |k+1,hk,h=>by
  obtain⟨h1,h2⟩:=Bh n hn l k (by omega) fun j hj=>h j (by omega)
  obtain⟨x,hx⟩:=eV (l:=l) (i:=k) (by omega)
  have hb:=h k (by omega)
  unfold cK at hb
  rw[hx] at hb
  have he:fT n l k x=0:=by simpa using hb
  unfold fT at he
  split at he
  ·cases he
  rename_i c1
  split at he
  ·cases he
  split at he
  ·cases he
  rename_i c3
  have c3: ∀y∈l.take k,bX x y=false:=by simpa using c3
  have ht:l.take (k+1)=l.take k++[x]:=by rw[List.take_add_one,hx];rfl
  rw[ht]
  constructor
  ·rw[List.map_append,List.nodup_append]
   refine⟨h1,by simp,fun a ha b hb=>?_⟩
   obtain⟨y,hy,rfl⟩:=List.mem_map.1 ha
   have hb:b=yC x:=by simpa using hb
   subst hb
   intro e
   have hs:=c3 y hy
   obtain⟨g1,g2,g3,g4⟩:=h2 y hy
   unfold yC at e
   simp only[bX,Bool.and_eq_false_iff,decide_eq_false_iff_not,beq_eq_false_iff_ne] at hs
   have e1:y.fz1=x.fz1:=by(repeat' split at e)<;>omega
   have e2:y.aq=x.aq:=by(repeat' split at e)<;>omega
   have e3:y.sf=x.sf:=by
    cases hy1:y.sf<;>cases hx1:x.sf<;>rw[hy1,hx1] at e<;>first|rfl|(exfalso;simp only[if_true,if_false,Bool.false_eq_true] at e;omega)
   rcases hs with q|q|q
   ·exact q e1
   ·exact q e2
   ·exact q e3
  ·intro y hy
   rcases List.mem_append.1 hy with q|q
   ·exact h2 y q
   ·have:y=x:=by simpa using q
    subst this;omega
theorem DL{n:Int}(hn:n<=64){l:List ae}{k:Nat}(hk:k<=l.length)(h: ∀j,j<k->cK n l j=none):k<=8192:=by
 obtain⟨h1,h2⟩:=Bh n hn l k hk h
 have:=pL 8192 _ h1 fun c hc=>by
  obtain⟨y,hy,rfl⟩:=List.mem_map.1 hc
  obtain⟨g1,g2,g3,g4⟩:=h2 y hy
  unfold yC
  split<;>omega
 simpa[List.length_take,Nat.min_eq_left hk] using this
abbrev gf(x:ae):Value:= .agg ⟨[zv x.fz1,zv x.aq, .bool x.sf]⟩
abbrev gd(x:ae):Value:= .agg ⟨[zv x.fz1,zv x.aq,zv 0, .bool x.sf]⟩
theorem W9(x:ae)(l:List ae):kZ 156 (gf x) (l.map gf):=⟨fun k' hk'=>by
 obtain⟨y,_,rfl⟩:=List.mem_map.1 hk'
 refine⟨rfl,_,Jb _ _ _ _ _ _,?_⟩
 simp only[Bool.and_eq_true,decide_eq_true_eq,beq_iff_eq,Value.agg.injEq,Array.mk.injEq,List.cons.injEq,Value.int.injEq,Value.bool.injEq,true_and,and_true]⟩
theorem W8(x:ae)(l:List ae):kZ 134 (gd x) (l.map gd):=⟨fun k' hk'=>by
 obtain⟨y,_,rfl⟩:=List.mem_map.1 hk'
 refine⟨rfl,_,Ja _ _ _ _ _ _ _ _,?_⟩
 simp only[Bool.and_eq_true,decide_eq_true_eq,beq_iff_eq,Value.agg.injEq,Array.mk.injEq,List.cons.injEq,Value.int.injEq,Value.bool.injEq,true_and,and_true]⟩
theorem Ap(x:ae)(l:List ae):gf x∈l.map gf↔l.any (bX x)=true:=by
 rw[List.mem_map,List.any_eq_true]
 simp only[bX,Bool.and_eq_true,decide_eq_true_eq,beq_iff_eq,Value.agg.injEq,Array.mk.injEq,List.cons.injEq,Value.int.injEq,Value.bool.injEq,true_and,and_true]
theorem Ao(x:ae)(l:List ae):gd x∈l.map gd↔l.any (bX x)=true:=by
 rw[List.mem_map,List.any_eq_true]
 simp only[bX,Bool.and_eq_true,decide_eq_true_eq,beq_iff_eq,Value.agg.injEq,Array.mk.injEq,List.cons.injEq,Value.int.injEq,Value.bool.injEq,true_and,and_true]
theorem Lv(l:List ae): ∀k,k∈l.map gf->au k=true:=fun k hk=>by
 obtain⟨t,_,rfl⟩:=List.mem_map.1 hk
 rfl
theorem Lu(l:List ae): ∀k,k∈l.map gd->au k=true:=fun k hk=>by
 obtain⟨t,_,rfl⟩:=List.mem_map.1 hk
 rfl
end Go.Proofs.Nw
namespace Go.Proofs.Nw
open Go Go.AV Tryz Go.jo
set_option maxHeartbeats 8000000
set_option maxRecDepth 100000
section
variable{z:T aa}{zn:Nat}
theorem LY(hz:ay z zn)(hg:fB prog z gP)(n:Int)(hn:n<=64)(l:List ae)(cp:Nat)(hL:cf z 4 (l.map ae.row))(r:Int × Int)(hr:scan (cK n l) l.length 0=r):
 ai prog (ah (ag f75) 0) 1 62 (Au n l.length cp 0) [(0,bb [])] 1 z zn (Al.R (PA z zn l.length cp n r.1 r.2).l):=by
 refine an hD hg (α:=Nat) 1 62 1 (fun i=>i<=l.length/\scan (cK n l) (l.length - i) i=r/\ ∀j,j<i->cK n l j=none) (fun i=>Au n l.length cp i) (fun i=>[(0,bb ((l.take i).map gf))]) (fun _=>z) (fun _=>zn) (fun i=>l.length - i) _ (fun i hI=>?_) 0 ⟨Nat.zero_le _,hr,fun j hj=>by omega⟩
 obtain⟨h1,h2,h3⟩:=hI
 have hle:=DL hn h1 h3
 by_cases hi:i<l.length
 ·obtain⟨x,hx⟩:=eV hi
  obtain⟨el,hel⟩:=hL.aw (i:=i) (by simp;omega)
  have hlen:=aQ (row:=ae.row) (sz:=4) l fun _=>rfl
  have hrow:aE prog (bq el (l.map ae.row).flatten) 134 (0+i*4)=some (.agg ⟨x.row⟩):=bG (r:=x.row) (sz:=4) underlying134 rfl rfl hlen (by rw[List.getElem?_map,hx];rfl)
  have hk:=W9 x (l.take i)
  have hkT:x.sf=true->kZ 156 (.agg ⟨[zv x.fz1,zv x.aq,T1]⟩) ((l.take i).map gf):=fun h=>by unfold gf at hk;rw[h] at hk;exact hk
  have hkF:x.sf=false->kZ 156 (.agg ⟨[zv x.fz1,zv x.aq,F0]⟩) ((l.take i).map gf):=fun h=>by unfold gf at hk;rw[h] at hk;exact hk
  have hmT:x.sf=true->((.agg ⟨[zv x.fz1,zv x.aq,T1]⟩:Value)∈((l.take i).map gf)↔(l.take i).any (bX x)=true):=fun h=>by have:=Ap x (l.take i);unfold gf at this;rw[h] at this;exact this
  have hmF:x.sf=false->((.agg ⟨[zv x.fz1,zv x.aq,F0]⟩:Value)∈((l.take i).map gf)↔(l.take i).any (bX x)=true):=fun h=>by have:=Ap x (l.take i);unfold gf at this;rw[h] at this;exact this
  have hps:=Lv (l.take i)
  have hlk:fT n l i x=if x.fz1<0\/n<=x.fz1\/x.aq<0\/n<=x.aq\/x.fz1=x.aq then 9 else if x.aK<1\/14400<x.aK then 2 else if (l.take i).any (bX x)=true then 6 else 0:=rfl
  have ret: ∀e:Int,e=fT n l i x->e≠0->Al.R (PA z zn l.length cp n r.1 r.2).l ⟨.ret,[(4,iv i),(5,zv e)],[],1,z,zn⟩:=fun e h h0=>by
   have hb:cK n l i=some e:=by unfold cK;rw[hx];simp only;rw[←h,if_neg h0]
   have:r=((i:Int),e):=by rw[←h2,dr hi hb]
   rw[this]
   exact bD trivial
  have htk:l.take (i+1)=l.take i++[x]:=by rw[List.take_add_one,hx];rfl
  have jY:fT n l i x=0->ak (fun i=>i<=l.length/\scan (cK n l) (l.length - i) i=r/\ ∀j,j<i->cK n l j=none) (fun i=>Au n l.length cp i) (fun i=>[(0,bb ((l.take i).map gf))]) 1 (fun _=>z) (fun _=>zn) (fun i=>l.length - i) (Al.R (PA z zn l.length cp n r.1 r.2).l) i .normal (Au n l.length cp (i+1)) [(0,bb ((l.take i).map gf++[gf x]))] 1 z zn:=fun h0=>by
   have hb:cK n l i=none:=by unfold cK;rw[hx];simp only;rw[if_pos h0]
   refine⟨i+1,rfl,?_,rfl,rfl,rfl,⟨hi,by rw[←cN hi hb];exact h2,fun j hj=>?_⟩,by show l.length - (i+1)<l.length - i;omega⟩
   ·show _=[(0,bb ((l.take (i+1)).map gf))]
    rw[htk,List.map_append];rfl
   ·by_cases e:j=i
    ·subst e;exact hb
    ·exact h3 j (by omega)
  have hc:decide ((i:Int)<(l.length:Int))=true:=by simp;omega
  refine t100 (Zs z zn i l.length cp n (bq el (l.map ae.row).flatten) x ((l.take i).map gf) (ak _ _ _ _ _ _ _ _ _) ⟨fun _=>?_,nC1 hc⟩)
  (repeat' first|(with_reducible first|exact rfl|assumption|apply And.intro|exact(hkT (by assumption)).no|exact(hkF (by assumption)).no|exact(hkT (by assumption)).ex|exact(hkF (by assumption)).ex|exact iI _ hps rfl|exact bP (by omega))|intro hq)
  all_goals clear hrow hel hz hL hlen hps
  all_goals try (have hm1:=(hmT (by assumption)).1 ((hkT (by assumption)).D7 (by with_reducible assumption)))
  all_goals try (have hm1:=(hmF (by assumption)).1 ((hkF (by assumption)).D7 (by with_reducible assumption)))
  all_goals try (have hm1:=fun h=>(hkT (by assumption)).Kw (by with_reducible assumption) ((hmT (by assumption)).2 h))
  all_goals try (have hm1:=fun h=>(hkF (by assumption)).Kw (by with_reducible assumption) ((hmF (by assumption)).2 h))
  all_goals clear hk hkT hkF hmT hmF
  all_goals first
   |(refine ret _ ?_ (by decide)
     clear ret jY h2 h3 hr
     rw[hlk]
     clear hlk
     (repeat' split)<;>first|rfl|(exfalso;simp only[bS1,bS2,bS3] at*;omega)|(exfalso;simp_all;done))
   |(have h0:fT n l i x=0:=by
      clear ret jY h2 h3 hr
      rw[hlk]
      clear hlk
      (repeat' split)<;>first|rfl|(exfalso;simp only[bS1,bS2,bS3] at*;omega)|(exfalso;simp_all;done)
     have q:=jY h0
     unfold gf at q
     rw[show x.sf=_ by assumption] at q
     rw[fM]
     exact q)
 ·have hc:decide ((i:Int)<(l.length:Int))=false:=by simp;omega
  refine t100 (Zs z zn i l.length cp n ⟨[],0,0,0,true,true,0,true⟩ ⟨0,0,0,true⟩ ((l.take i).map gf) (ak _ _ _ _ _ _ _ _ _) ⟨nC1 hc,fun _=>?_⟩)
  (repeat' first|(with_reducible first|exact rfl|assumption|apply And.intro))
  rw[dH (by omega)] at h2
  refine dD (bD ?_)
  rw[←h2]
  exact⟨rfl,rfl⟩
theorem M1(hz:ay z zn)(hg:fB prog z gP)(n:Int)(hn:n<=64)(l:List ae)(cp:Nat)(hL:cf z 4 (l.map ae.row)):
 A1 z zn 75 [tb 4 l.length cp,zv n] [] 0 0 (.tuple ⟨[zv (aS n l).1,zv (aS n l).2]⟩) []:=by
 have hK:=LY hz hg n hn l cp hL (aS n l) rfl
 refine cW hg (fn:=f75) (by kernel_rfl) (by kernel_rfl) hz ⟨by decide,by decide⟩ rfl (fso z zn l.length cp n (aS n l).1 (aS n l).2 _ ?_)
 (repeat' first|(with_reducible first|exact rfl|assumption|apply And.intro|exact q1)|exact hK|intro hq)
 all_goals first|(rw[hq.1,hq.2];exact q1)|trace_state
theorem JB(hz:ay z zn)(hg:fB prog z gP)(n:Int):
 A1 z zn 75 [az,zv n] [] 0 0 (.tuple ⟨[zv 0,zv 0]⟩) []:=by
 have hL:ai prog (ah (ag f75) 0) 1 62 (wK n) [(0,bb [])] 1 z zn (Al.R (SW z zn n).l):=by
  refine an hD hg (α:=Nat) 1 62 1 (fun i=>i=0) (fun i=>wK n) (fun i=>[(0,bb [])]) (fun _=>z) (fun _=>zn) (fun i=>1) _ (fun i hI=>?_) 0 rfl
  refine t100 (Wh z zn n (ak _ _ _ _ _ _ _ _ _) ?_)
  (repeat' first|(with_reducible first|exact rfl|assumption|apply And.intro))
  all_goals first|exact bD trivial|trace_state
 refine cW hg (fn:=f75) (by kernel_rfl) (by kernel_rfl) hz ⟨by decide,by decide⟩ rfl (Xt z zn n _ ?_)
 (repeat' first|(with_reducible first|exact rfl|assumption|apply And.intro)|exact hL|exact q1|intro hq)
end
section
variable{z:T aa}{zn:Nat}
theorem Mm(hz:ay z zn)(hg:fB prog z gP)(N:aM)(hn:N.ns<=64)(l:List ae)(hN:N.np=l.length)(hnet: ∀σ:bu,aI (aA σ []) (N.bW N.p1)=some (N.bW N.p1))(hL:cf z 4 (l.map ae.row))(r:Int × Int)(hr:scan (cK N.ns l) l.length 0=r):
 ai prog (ah (ag f48) 0) 3 78 (AE N.np N.pc 0) [(0,N.bW N.p1),(1,c7 0 0 0),(2,bb [])] 3 z zn (Al.R (PK z zn N (if r.2=0 then 0 else 4) r.1 r.2).l):=by
 refine an hD hg (α:=Nat) 3 78 3 (fun i=>i<=l.length/\scan (cK N.ns l) (l.length - i) i=r/\ ∀j,j<i->cK N.ns l j=none) (fun i=>AE N.np N.pc i) (fun i=>[(0,N.bW N.p1),(1,c7 0 0 0),(2,bb ((l.take i).map gd))]) (fun _=>z) (fun _=>zn) (fun i=>l.length - i) _ (fun i hI=>?_) 0 ⟨Nat.zero_le _,hr,fun j hj=>by omega⟩
 obtain⟨h1,h2,h3⟩:=hI
 have hle:=DL (by omega:(N.ns:Int)<=64) h1 h3
 by_cases hi:i<l.length
 ·obtain⟨x,hx⟩:=eV hi
  obtain⟨el,hel⟩:=hL.aw (i:=i) (by simp;omega)
  have hlen:=aQ (row:=ae.row) (sz:=4) l fun _=>rfl
  have hrow:aE prog (bq el (l.map ae.row).flatten) 134 (0+i*4)=some (.agg ⟨x.row⟩):=bG (r:=x.row) (sz:=4) underlying134 rfl rfl hlen (by rw[List.getElem?_map,hx];rfl)
  have hk:=W8 x (l.take i)
  have hkT:x.sf=true->kZ 134 (.agg ⟨[zv x.fz1,zv x.aq,I 0,T1]⟩) ((l.take i).map gd):=fun h=>by unfold gd at hk;rw[h] at hk;exact hk
  have hkF:x.sf=false->kZ 134 (.agg ⟨[zv x.fz1,zv x.aq,I 0,F0]⟩) ((l.take i).map gd):=fun h=>by unfold gd at hk;rw[h] at hk;exact hk
  have hmT:x.sf=true->((.agg ⟨[zv x.fz1,zv x.aq,I 0,T1]⟩:Value)∈((l.take i).map gd)↔(l.take i).any (bX x)=true):=fun h=>by have:=Ao x (l.take i);unfold gd at this;rw[h] at this;exact this
  have hmF:x.sf=false->((.agg ⟨[zv x.fz1,zv x.aq,I 0,F0]⟩:Value)∈((l.take i).map gd)↔(l.take i).any (bX x)=true):=fun h=>by have:=Ao x (l.take i);unfold gd at this;rw[h] at this;exact this
  have hps:=Lu (l.take i)
  have hlk:fT N.ns l i x=if x.fz1<0\/(N.ns:Int)<=x.fz1\/x.aq<0\/(N.ns:Int)<=x.aq\/x.fz1=x.aq then 9 else if x.aK<1\/14400<x.aK then 2 else if (l.take i).any (bX x)=true then 6 else 0:=rfl
  have ret: ∀e:Int,e=fT N.ns l i x->e≠0->Al.R (PK z zn N (if r.2=0 then 0 else 4) r.1 r.2).l ⟨.ret,[(2,ip 1)],[(1,c7 4 i e)],3,z,zn⟩:=fun e h h0=>by
   have hb:cK N.ns l i=some e:=by unfold cK;rw[hx];simp only;rw[←h,if_neg h0]
   have:r=((i:Int),e):=by rw[←h2,dr hi hb]
   rw[this]
   simp only[if_neg h0]
   exact bD (by decide)
  have htk:l.take (i+1)=l.take i++[x]:=by rw[List.take_add_one,hx];rfl
  have jY:fT N.ns l i x=0->ak (fun i=>i<=l.length/\scan (cK N.ns l) (l.length - i) i=r/\ ∀j,j<i->cK N.ns l j=none) (fun i=>AE N.np N.pc i) (fun i=>[(0,N.bW N.p1),(1,c7 0 0 0),(2,bb ((l.take i).map gd))]) 3 (fun _=>z) (fun _=>zn) (fun i=>l.length - i) (Al.R (PK z zn N (if r.2=0 then 0 else 4) r.1 r.2).l) i .normal (AE N.np N.pc (i+1)) [(0,N.bW N.p1),(1,c7 0 0 0),(2,bb ((l.take i).map gd++[gd x]))] 3 z zn:=fun h0=>by
   have hb:cK N.ns l i=none:=by unfold cK;rw[hx];simp only;rw[if_pos h0]
   refine⟨i+1,rfl,?_,rfl,rfl,rfl,⟨hi,by rw[←cN hi hb];exact h2,fun j hj=>?_⟩,by show l.length - (i+1)<l.length - i;omega⟩
   ·show _=[(0,N.bW N.p1),(1,c7 0 0 0),(2,bb ((l.take (i+1)).map gd))]
    rw[htk,List.map_append];rfl
   ·by_cases e:j=i
    ·subst e;exact hb
    ·exact h3 j (by omega)
  have hc:decide ((i:Int)<(N.np:Int))=true:=by simp;omega
  refine t100 (ZK z zn i N (bq el (l.map ae.row).flatten) x ((l.take i).map gd) (ak _ _ _ _ _ _ _ _ _) ⟨fun _=>?_,nC1 hc⟩)
  (repeat' first|(with_reducible first|exact rfl|assumption|apply And.intro|exact(by omega:i<N.np)|exact(hkT (by assumption)).no|exact(hkF (by assumption)).no|exact(hkT (by assumption)).ex|exact(hkF (by assumption)).ex|exact iI _ hps rfl|exact bP (by omega))|exact(rfl:gP _ _=_)|exact hnet _|intro hq)
  all_goals clear hrow hel hz hL hlen hps
  all_goals try (have hm1:=(hmT (by assumption)).1 ((hkT (by assumption)).D7 (by with_reducible assumption)))
  all_goals try (have hm1:=(hmF (by assumption)).1 ((hkF (by assumption)).D7 (by with_reducible assumption)))
  all_goals try (have hm1:=fun h=>(hkT (by assumption)).Kw (by with_reducible assumption) ((hmT (by assumption)).2 h))
  all_goals try (have hm1:=fun h=>(hkF (by assumption)).Kw (by with_reducible assumption) ((hmF (by assumption)).2 h))
  all_goals clear hk hkT hkF hmT hmF
  all_goals first
   |(refine ret _ ?_ (by decide)
     clear ret jY h2 h3 hr
     rw[hlk]
     clear hlk
     (repeat' split)<;>first|rfl|(exfalso;simp only[bS1,bS2,bS3] at*;omega)|(exfalso;simp_all;done))
   |(have h0:fT N.ns l i x=0:=by
      clear ret jY h2 h3 hr
      rw[hlk]
      clear hlk
      (repeat' split)<;>first|rfl|(exfalso;simp only[bS1,bS2,bS3] at*;omega)|(exfalso;simp_all;done)
     have q:=jY h0
     unfold gd at q
     rw[show x.sf=_ by assumption] at q
     rw[fM]
     exact q)
 ·have hc:decide ((i:Int)<(N.np:Int))=false:=by simp;omega
  refine t100 (ZK z zn i N ⟨[],0,0,0,true,true,0,true⟩ ⟨0,0,0,true⟩ ((l.take i).map gd) (ak _ _ _ _ _ _ _ _ _) ⟨nC1 hc,fun _=>?_⟩)
  (repeat' first|(with_reducible first|exact rfl|assumption|apply And.intro)|exact hnet _)
  rw[dH (by omega)] at h2
  refine dD (bD ?_)
  rw[←h2]
  rfl
theorem Na(hz:ay z zn)(hg:fB prog z gP)(N:aM)(hn:N.ns<=64)(l:List ae)(hN:N.np=l.length)(hnet: ∀σ:bu,aI (aA σ []) (N.bW N.p1)=some (N.bW N.p1))(hL:cf z 4 (l.map ae.row))(cl:Bool)(hcl:(aS N.ns l).2=0->A1 z zn 64 [N.p1,iv N.ns] [] 0 0 (.bool cl) [])(r:Int × Int × Int)
 (hr:r=if (aS N.ns l).2≠0 then (4,aS N.ns l) else if cl=true then (0,0,0) else (4,0,18)):
 A1 z zn 48 [.agg ⟨N.iz N.p1⟩] [] 0 0 (.agg ⟨[zv r.1,zv r.2.1,zv r.2.2]⟩) []:=by
 have hcl':(if (aS N.ns l).2=0 then (0:Int) else 4)=0->A1 z zn 64 [N.p1,iv N.ns] [] 0 0 (.bool cl) []:=fun h=>hcl (by
  split at h
  ·assumption
  ·cases h)
 have hK:=Mm hz hg N hn l hN hnet hL (aS N.ns l) rfl
 refine cW hg (fn:=f48) (by kernel_rfl) (by kernel_rfl) hz ⟨by decide,by decide⟩ rfl (fcp z zn N (if (aS N.ns l).2=0 then 0 else 4) (aS N.ns l).1 (aS N.ns l).2 cl _ ?_)
 (repeat' first|(with_reducible first|exact rfl|assumption|apply And.intro|exact hcl' ‹_›)|exact(rfl:gP _ _=_)|exact hK|exact hnet _|intro hq)
 all_goals first
  |(refine zU ?_
    rw[hr]
    by_cases h:(aS N.ns l).2=0<;>simp_all;done)
theorem JL(hz:ay z zn)(hg:fB prog z gP)(N:aM)(hnet: ∀σ:bu,aI (aA σ []) (N.bW az)=some (N.bW az))(cl:Bool)(hcl:A1 z zn 64 [az,iv N.ns] [] 0 0 (.bool cl) [])(r:Int × Int × Int)
 (hr:r=if cl=true then (0,0,0) else (4,0,18)):
 A1 z zn 48 [.agg ⟨N.iz az⟩] [] 0 0 (.agg ⟨[zv r.1,zv r.2.1,zv r.2.2]⟩) []:=by
 have hL:ai prog (ah (ag f48) 0) 3 78 wS [(0,N.bW az),(1,c7 0 0 0),(2,bb [])] 3 z zn (Al.R (To z zn N).l):=by
  refine an hD hg (α:=Nat) 3 78 3 (fun i=>i=0) (fun i=>wS) (fun i=>[(0,N.bW az),(1,c7 0 0 0),(2,bb [])]) (fun _=>z) (fun _=>zn) (fun i=>1) _ (fun i hI=>?_) 0 rfl
  refine t100 (Wy z zn N (ak _ _ _ _ _ _ _ _ _) ?_)
  (repeat' first|(with_reducible first|exact rfl|assumption|apply And.intro)|exact hnet _)
  all_goals first|exact bD trivial|trace_state
 refine cW hg (fn:=f48) (by kernel_rfl) (by kernel_rfl) hz ⟨by decide,by decide⟩ rfl (XH z zn N cl _ ?_)
 (repeat' first|(with_reducible first|exact rfl|assumption|apply And.intro)|exact(rfl:gP _ _=_)|exact hL|exact hnet _|intro hq)
 all_goals first
  |(refine zU ?_
    rw[hr]
    simp_all;done)
end
end Go.Proofs.Nw
namespace Go.Proofs.Nw
open Go Go.AV Tryz
set_option maxRecDepth 1000000
noncomputable section
abbrev Um(n cp:Nat)(d w c:Int):Prop:=Rs (BQ [SL 1790 n cp,ZV d,ZV w,ZV c] 4 1 29)
abbrev KH(i k:Nat):List (Nat × Value):=[pf,(4,IV i),(5,YU),(6,IV (k+1))]
abbrev Vz(n cp:Nat)(d w c:Int)(x:bI):List (Nat × aa):=[(0,BQ [SL 1790 n cp,ZV d,ZV w,ZV c] 4 1 29),(1,BQ (RI x) 6 1 131)]
theorem Sw(z:T aa)(zn i k n cp:Nat)(kb:ba)(x y:bI)(d w c:Int)(Q:QL)(hyp:Br (decide ((↑k:Int)<(↑i:Int))) (Yz k/\k<n/\Rf 1790/\z.get 5=some (Y1 kb)/\aE prog kb 9 (0+k*6+0)=some (Gf y)/\Br (y.id.toList==x.id.toList) (E6 88 z zn (R2 (IV i) (I 6) (Q af.ret (sX i) [] 2 z zn))) (ZV (IntKind.i64.wrap ((↑k:Int)+1))=IV (k+1)/\E6 88 z zn (R4 Yi (IV i) YU (IV (k+1)) (Um n cp d w c/\Rs (BQ (RI x) 6 1 131)/\Q aN (KH i k) (Vz n cp d w c x) 2 z zn)))) (E6 88 z zn (R3 Yi (IV i) YU (Um n cp d w c/\Rs (BQ (RI x) 6 1 131)/\Q ja [pf,(4,IV i),(5,YU)] (Vz n cp d w c x) 2 z zn)))):ew prog gP z (ah RZ 0) 88 (wP i k) z [(0,vQ (tb 5 n cp) d w c),(1,Lt x)] 2 zn 2 Q:=K1t hyp ((tA 2 (tO (Y9 k) (tO (An.ld 5 kb (Gf y)) (tA 1 ((tA 1 (tE [] [] (sX i) [] 2 z zn)).fork (tA 1 (tO (dS k) (tE dq [] (KH i k) (Vz n cp d w c x) 2 z zn)))))))).fork (tA 1 (tE dq [] [pf,(4,IV i),(5,YU)] (Vz n cp d w c x) 2 z zn)))
noncomputable abbrev Vy(i:Nat)(z:T aa)(zn:Nat):ax:=ax.mk af.ret [(2,iv i),(3,I 6)] [] 2 z zn
theorem ZD(z:T aa)(zn i n cp:Nat)(kb:ba)(x:bI)(b:Bool)(d w c:Int)(Q:QL)(hyp:Br (decide ((↑i:Int)<(↑n:Int))) (Yz i/\i<n/\Rf 1790/\z.get 5=some (Y1 kb)/\aE prog kb 131 (0+i*6)=some (AG (RI x))/\Rf z/\gP 81 [Gf x]=some (Value.bool (bK x.id))/\Br (!bK x.id) (E6 88 z zn (R2 (IV i) (I 12) (Q af.ret (GF i) [] 1 z zn))) (sZ/\ai prog (ah RZ 0) 2 88 (wP i 0) [(0,vQ (tb 5 n cp) d w c),(1,Lt x)] 2 z zn (alt (b=true) (Vy i z zn) (alt (b=false) (ax.mk ja (Ib i) [(0,vQ (tb 5 n cp) d w c),(1,Lt x)] 2 z zn) Al.nil)).R/\E6 88 z zn (R4 Yi (IV i) YU YM (Um n cp d w c/\Rs (BQ (RI x) 6 1 131)/\(∀(x:Unit),b=true->E6 88 z zn (R2 (IV i) (I 6) (Q af.ret (sX i) [] 1 z zn)))/\ ∀(x_1:Unit),b=false->Rf z/\gP 82 [ZV x.cy,YM,I 1000000]=some (Vv x)/\Br (!(decide (0<=x.cy) && decide (x.cy<=1000000))) ((!(decide (0<=x.cy) && decide (x.cy<=1000000)))=true/\(!(decide (0<=x.cy) && decide (x.cy<=1000000)))=true/\(!(decide (0<=x.cy) && decide (x.cy<=1000000)))=true/\(!(decide (0<=x.cy) && decide (x.cy<=1000000)))=true/\E6 88 z zn (R2 (IV i) cC (Q af.ret (qv i) [] 1 z zn))) ((!(decide (0<=x.cy) && decide (x.cy<=1000000)))=false/\(!(decide (0<=x.cy) && decide (x.cy<=1000000)))=false/\Rf z/\gP 82 [ZV x.bT,I 1,I 8]=some (Vu x)/\(!(decide (0<=x.cy) && decide (x.cy<=1000000)))=false/\(!(decide (0<=x.cy) && decide (x.cy<=1000000)))=false/\Br (!(decide (1<=x.bT) && decide (x.bT<=8))) ((!(decide (1<=x.bT) && decide (x.bT<=8)))=true/\(!(decide (1<=x.bT) && decide (x.bT<=8)))=true/\(!(decide (1<=x.bT) && decide (x.bT<=8)))=true/\(!(decide (1<=x.bT) && decide (x.bT<=8)))=true/\E6 88 z zn (R2 (IV i) cC (Q af.ret (qv i) [] 1 z zn))) ((!(decide (1<=x.bT) && decide (x.bT<=8)))=false/\(!(decide (1<=x.bT) && decide (x.bT<=8)))=false/\Rf z/\gP 82 [ZV x.cu,I 1,I 16]=some (Vt x)/\(!(decide (1<=x.bT) && decide (x.bT<=8)))=false/\(!(decide (1<=x.bT) && decide (x.bT<=8)))=false/\Br (!(decide (1<=x.cu) && decide (x.cu<=16))) ((!(decide (1<=x.cu) && decide (x.cu<=16)))=true/\(!(decide (1<=x.cu) && decide (x.cu<=16)))=true/\(!(decide (1<=x.cu) && decide (x.cu<=16)))=true/\(!(decide (1<=x.cu) && decide (x.cu<=16)))=true/\E6 88 z zn (R2 (IV i) cC (Q af.ret (qv i) [] 1 z zn))) ((!(decide (1<=x.cu) && decide (x.cu<=16)))=false/\(!(decide (1<=x.cu) && decide (x.cu<=16)))=false/\Rf z/\gP 82 [ZV x.aK,YM,I 86400]=some (Vs x)/\(!(decide (1<=x.cu) && decide (x.cu<=16)))=false/\(!(decide (1<=x.cu) && decide (x.cu<=16)))=false/\Br (!(decide (0<=x.aK) && decide (x.aK<=86400))) ((!(decide (0<=x.aK) && decide (x.aK<=86400)))=true/\(!(decide (0<=x.aK) && decide (x.aK<=86400)))=true/\(!(decide (0<=x.aK) && decide (x.aK<=86400)))=true/\(!(decide (0<=x.aK) && decide (x.aK<=86400)))=true/\E6 88 z zn (R2 (IV i) cC (Q af.ret (qv i) [] 1 z zn))) ((!(decide (0<=x.aK) && decide (x.aK<=86400)))=false/\(!(decide (0<=x.aK) && decide (x.aK<=86400)))=false/\Rf z/\gP 82
 [ZV x.mi,I 1,I 255]=some (Vr x)/\(!(decide (0<=x.aK) && decide (x.aK<=86400)))=false/\(!(decide (0<=x.aK) && decide (x.aK<=86400)))=false/\Br (!(decide (1<=x.mi) && decide (x.mi<=255))) (E6 88 z zn (R2 (IV i) cC (Q af.ret (qv i) [] 1 z zn))) (ZV (IntKind.i64.wrap ((↑i:Int)+1))=IV (i+1)/\E6 88 z zn (R2 Yi (IV (i+1)) (Um n cp d w c/\Q aN [pf,(4,IV (i+1))] [(0,BQ [SL 1790 n cp,ZV d,ZV w,ZV c] 4 1 29)] 1 z zn))))))))))) (E6 88 z zn (Q YO [] [] 1 z zn))):ew prog gP z RZ 88 (ss i) z [(0,vQ (tb 5 n cp) d w c)] 1 zn 1 Q:=K1t hyp (tA 1 ((tA 2 (tO (Y9 i) (tO (An.ld 5 kb (AG x.row)) (tA 2 (tO (An.cl (Value.bool (bK x.id))) ((tE [] [] (GF i) [] 1 z zn).fork (Tr.lp 2 88 dq [] (wP i 0) [(0,vQ (tb 5 n cp) d w c),(1,Lt x)] 2 z zn (Al.cons Unit (YR b) (fun(x:Unit)=>Vy i z zn) (fun(x:Unit)=>tE [] [] (sX i) [] 1 z zn) (Al.cons Unit (YS b) (fun(x_1:Unit)=>ax.mk ja (Ib i) [(0,vQ (tb 5 n cp) d w c),(1,Lt x)] 2 z zn) (fun(x_1:Unit)=>tA 1 (tO (An.cl (Vv x)) ((tO cH (tO cH (tO cH (tO cH (tA 16 (Kg i z zn)))))).fork (tO bO (tA 1 (tO bO (tO (An.cl (Vu x)) (tO bO (tO bO ((tO cH (tO cH (tO cH (tO cH (tA 11 (Kg i z zn)))))).fork (tO bO (tA 1 (tO bO (tO (An.cl (Vt x)) (tO bO (tO bO ((tO cH (tO cH (tO cH (tO cH (tA 6 (Kg i z zn)))))).fork (tO bO (tA 1 (tO bO (tO (An.cl (Vs x)) (tO bO (tO bO ((tO cH (tO cH (tO cH (tO cH (tA 1 (Kg i z zn)))))).fork (tO bO (tA 1 (tO bO (tO (An.cl (Vr x)) (tO bO (tO bO ((Kg i z zn).fork (tO (dS i) (tE YC [] [pf,(4,IV (i+1))] [(0,BQ [SL 1790 n cp,ZV d,ZV w,ZV c] 4 1 29)] 1 z zn))))))))))))))))))))))))))))))))) Al.nil))))))))).fork (Uo z zn)))
theorem frf(z:T aa)(zn n cp:Nat)(r1 r2 d w c:Int)(Q:QF)(hyp:Rf z/\VS d/\Br (!(decide (0<=d) && decide (d<=1000000))) ((!(decide (0<=d) && decide (d<=1000000)))=true/\(!(decide (0<=d) && decide (d<=1000000)))=true/\(!(decide (0<=d) && decide (d<=1000000)))=true/\(!(decide (0<=d) && decide (d<=1000000)))=true/\E6 88 z zn (GL/\Q EF [] 0 z zn)) ((!(decide (0<=d) && decide (d<=1000000)))=false/\(!(decide (0<=d) && decide (d<=1000000)))=false/\Rf z/\gP 82 [ZV w,YM,I 86400]=some (OL w)/\(!(decide (0<=d) && decide (d<=1000000)))=false/\(!(decide (0<=d) && decide (d<=1000000)))=false/\Br (!(decide (0<=w) && decide (w<=86400))) ((!(decide (0<=w) && decide (w<=86400)))=true/\(!(decide (0<=w) && decide (w<=86400)))=true/\(!(decide (0<=w) && decide (w<=86400)))=true/\(!(decide (0<=w) && decide (w<=86400)))=true/\E6 88 z zn (GL/\Q EF [] 0 z zn)) ((!(decide (0<=w) && decide (w<=86400)))=false/\(!(decide (0<=w) && decide (w<=86400)))=false/\Rf z/\VS c/\(!(decide (0<=w) && decide (w<=86400)))=false/\(!(decide (0<=w) && decide (w<=86400)))=false/\Br (!(decide (0<=c) && decide (c<=1000000))) (E6 88 z zn (GL/\Q EF [] 0 z zn)) (Br (decide ((↑n:Int)>16)) (E6 88 z zn (KF/\Q B3 [] 0 z zn)) (YP/\ai prog RZ 1 88 (ss 0) [(0,vQ (tb 5 n cp) d w c)] 1 z zn (jd z zn 1 2 3 0 r1 r2).R/\E6 88 z zn (R2 Yi YM (Um n cp d w c/\(∀(x:Unit),True->E6 88 z zn (BK r1 r2/\Q (GQ r1 r2) [] 0 z zn))/\ ∀(x:Unit),r1=0/\r2=0->E6 88 z zn (vW/\Q sY [] 0 z zn)))))))):ed prog gP z f72 [AG [tb 5 n cp,zv d,zv w,zv c]] z [] 0 zn Q:=K1t hyp (tA 1 (tO (OJ d) ((VP z zn).fork (tO bO (tA 1 (tO bO (tO (An.cl (OL w)) (tO bO (tO bO ((VO z zn).fork (tO bO (tA 1 (tO bO (tO (OJ c) (tO bO (tO bO ((RY z zn).fork (tA 1 ((RH z zn).fork (tA 1 (Tr.lp 1 88 YC [] (ss 0) [(0,vQ (tb 5 n cp) d w c)] 1 z zn (X6 r1 r2 z zn))))))))))))))))))))))
end
end Go.Proofs.Nw
namespace Go.Proofs.Nw
open Go Go.AV Tryz
set_option maxRecDepth 100000
section
variable{z:T aa}{zn:Nat}
theorem Ip(d w c:Int)(hz:ay z zn)(hg:fB prog z gP)(l:List bI)(cp:Nat)(e:TypeId)(he:z.get 5=some (.aw (bq e (l.map bI.row).flatten)))(hl:l.length<100000)(i:Nat)(x:bI)(hx:l[i]? =some x)(b:Bool)(hb:b=(l.take i).any fun y=>y.id.data==x.id.data):
 ai prog (ah (ah (ag f72) 0) 0) 2 88 (wP i 0) [(0,vQ (tb 5 l.length cp) d w c),(1,Lt x)] 2 z zn (Al.R (S6 z zn i (vQ (tb 5 l.length cp) d w c) x b).l):=by
 have hil:i<l.length:=(List.getElem?_eq_some_iff.1 hx).1
 refine an hD hg (α:=Nat) 2 88 2 (fun k=>k<=i/\((l.take k).any fun y=>y.id.data==x.id.data)=false) (fun k=>wP i k) (fun _=>[(0,vQ (tb 5 l.length cp) d w c),(1,Lt x)]) (fun _=>z) (fun _=>zn) (fun k=>i - k) _ (fun k hI=>?_) 0 ⟨Nat.zero_le _,rfl⟩
 obtain⟨h1,h2⟩:=hI
 have hlen:=aQ (row:=bI.row) (sz:=6) l fun _=>rfl
 have rx:aE prog (bq e (l.map bI.row).flatten) 9 (0+i*6+0)=some (.string x.id):=bc (r:=x.row) (j:=0) underlying9 rfl hlen (by rw[List.getElem?_map,hx];rfl) rfl
 by_cases hk:k<i
 ·obtain⟨y,hy⟩:=eV (l:=l) (i:=k) (by omega)
  have ry:aE prog (bq e (l.map bI.row).flatten) 9 (0+k*6+0)=some (.string y.id):=bc (r:=y.row) (j:=0) underlying9 rfl hlen (by rw[List.getElem?_map,hy];rfl) rfl
  have hc:decide ((k:Int)<(i:Int))=true:=by simp;omega
  refine t100 (Sw z zn i k l.length cp (bq e (l.map bI.row).flatten) x y d w c (ak _ _ _ _ _ _ _ _ _) ⟨fun _=>?_,nC1 hc⟩)
  (repeat' first|(with_reducible first|exact rfl|assumption|apply And.intro|exact(by omega:k<l.length)|exact bP (by omega))|intro hq)
  ·rw[o7] at hq
   exact bD (by rw[hb];exact any_true hy hk hq)
  ·rw[o7] at hq
   exact⟨k+1,rfl,rfl,rfl,rfl,rfl,⟨hk,by rw[jR hy,h2,hq];rfl⟩,by show i - (k+1)<i - k;omega⟩
 ·have hc:decide ((k:Int)<(i:Int))=false:=by simp;omega
  refine t100 (Sw z zn i k l.length cp (bq e (l.map bI.row).flatten) x x d w c (ak _ _ _ _ _ _ _ _ _) ⟨nC1 hc,fun _=>?_⟩)
  (repeat' first|(with_reducible first|exact rfl|assumption|apply And.intro))
  refine dD (bD ?_)
  rw[hb,←h2,show k=i by omega]
theorem L8(d w c:Int)(hz:ay z zn)(hg:fB prog z gP)(l:List bI)(cp:Nat)(ht:cf z 5 (l.map bI.row))(hl:l.length<100000)(r:Int × Int)(hr:scan (eC l) l.length 0=r):
 ai prog (ah (ag f72) 0) 1 88 (ss 0) [(0,vQ (tb 5 l.length cp) d w c)] 1 z zn (Al.R (S7 z zn (vQ (tb 5 l.length cp) d w c) r.1 r.2).l):=by
 refine an hD hg (α:=Nat) 1 88 1 (fun i=>i<=l.length/\scan (eC l) (l.length - i) i=r) (fun i=>ss i) (fun i=>[(0,vQ (tb 5 l.length cp) d w c)]) (fun _=>z) (fun _=>zn) (fun i=>l.length - i) _ (fun i hI=>?_) 0 ⟨Nat.zero_le _,hr⟩
 obtain⟨h1,h2⟩:=hI
 by_cases hi:i<l.length
 ·obtain⟨e,he⟩:=ht.aw (i:=i) (by simpa using hi)
  obtain⟨x,hx⟩:=eV hi
  have hid:=UC (ht.sz (i:=i) (r:=x.row) (s:=x.id) (by rw[List.getElem?_map,hx];rfl) (by simp))
  have hlen:=aQ (row:=bI.row) (sz:=6) l fun _=>rfl
  have hr:(l.map bI.row)[i]? =some x.row:=by rw[List.getElem?_map,hx];rfl
  have r0:aE prog (bq e (l.map bI.row).flatten) 131 (0+i*6)=some (.agg ⟨x.row⟩):=bG (r:=x.row) (sz:=6) underlying131 rfl rfl hlen hr
  have hL:=Ip d w c hz hg l cp e he hl i x hx _ rfl
  generalize hb:((l.take i).any fun y=>y.id.data==x.id.data)=b at hL
  have hc:decide ((i:Int)<(l.length:Int))=true:=by simp;omega
  have ret: ∀e:Int,eC l i=some e->Al.R (S7 z zn (vQ (tb 5 l.length cp) d w c) r.1 r.2).l ⟨.ret,[(2,iv i),(3,zv e)],[],1,z,zn⟩:=fun e h=>by
   have:r=((i:Int),e):=by rw[←h2,dr hi h]
   rw[this];exact bD trivial
  have hbad:eC l i=if bK x.id=false then some 12 else if b=true then some 6 else if (zb x.cy 0 1000000 && zb x.bT 1 8 && zb x.cu 1 16 && zb x.aK 0 86400 && zb x.mi 1 255)=false then some 2 else none:=by
   simp only[eC,hx,hb]
  refine t100 (ZD z zn i l.length cp (bq e (l.map bI.row).flatten) x b d w c (ak _ _ _ _ _ _ _ _ _) ⟨fun _=>?_,nC1 hc⟩)
  (repeat' first|(with_reducible first|exact rfl|assumption|apply And.intro|exact bP (by omega))|exact(rfl:gP _ _=_)|exact hL|intro hq)
  all_goals clear hL r0 hr hlen he ht hz
  all_goals first
   |with_reducible assumption
   |rfl
   |(refine ret _ ?_;clear ret h2;rw[hbad];(try simp only[fold] at*);simp_all;done)
   |(refine ret _ ?_;clear ret h2;rw[hbad];(try simp only[fold] at*);simp_all;omega)
   |(have hb0:eC l i=none:=by
      clear ret h2
      rw[hbad,if_neg (by simp_all),if_neg (by simp_all),if_neg (by(try simp only[fold] at*);simp_all;done)]
     exact⟨i+1,rfl,rfl,rfl,rfl,rfl,⟨hi,by rw[←cN hi hb0];exact h2⟩,by show l.length - (i+1)<l.length - i;omega⟩)
 ·have hc:decide ((i:Int)<(l.length:Int))=false:=by simp;omega
  refine t100 (ZD z zn i l.length cp ⟨[],0,0,0,true,true,0,true⟩ ⟨⟨#[]⟩,0,0,0,0,0⟩ true d w c (ak _ _ _ _ _ _ _ _ _) ⟨nC1 hc,fun _=>?_⟩)
  (repeat' first|(with_reducible first|exact rfl|assumption|apply And.intro))
  refine dD (bD ?_)
  rw[dH (by omega)] at h2
  rw[←h2]
  exact⟨rfl,rfl⟩
theorem JH(hz:ay z zn)(hg:fB prog z gP)(l:List bI)(cp:Nat)(ht:cf z 5 (l.map bI.row))(d w c:Int):
 A1 z zn 72 [.agg ⟨[tb 5 l.length cp,zv d,zv w,zv c]⟩] [] 0 0 (.tuple ⟨[zv (bB d w c l).1,zv (bB d w c l).2]⟩) []:=by
 refine cW hg (fn:=f72) (by kernel_rfl) (by kernel_rfl) hz ⟨by decide,by decide⟩ rfl (frf z zn l.length cp (bB d w c l).1 (bB d w c l).2 d w c _ ?_)
 cases hf:fI d w c with
 |false=>
  have hr:bB d w c l=(-1,2):=if_pos hf
  rw[hr]
  unfold fI at hf
  (repeat' first|(with_reducible first|exact rfl|assumption|apply And.intro|exact q1)|exact(rfl:gP _ _=_)|exact q1|intro hq)
  all_goals (exfalso;(try simp only[fold] at*);simp_all;done)
 |true=>
  by_cases h:16<l.length
  ·have hr:bB d w c l=(0,5):=by unfold bB;rw[if_neg (by simp[hf]),if_pos h]
   have hc:decide ((l.length:Int)>16)=true:=by simp;omega
   rw[hr]
   unfold fI at hf
   (repeat' first|(with_reducible first|exact rfl|assumption|apply And.intro|exact q1)|exact(rfl:gP _ _=_)|exact q1|intro hq)
   all_goals (exfalso;(try simp only[fold] at*);simp_all;done)
  ·have hr:bB d w c l=scan (eC l) l.length 0:=by unfold bB;rw[if_neg (by simp[hf]),if_neg h]
   have hc:decide ((l.length:Int)>16)=false:=by simp;omega
   have hL:=L8 d w c hz hg l cp ht (by omega) (bB d w c l) hr.symm
   unfold fI at hf
   (repeat' first|(with_reducible first|exact rfl|assumption|apply And.intro|exact q1)|exact(rfl:gP _ _=_)|exact hL|intro hq)
   all_goals first|(rw[hq.1,hq.2];exact q1)|(exfalso;(try simp only[fold] at*);simp_all;done)|trace_state
end
end Go.Proofs.Nw
namespace Go.Proofs.Nw
open Go Go.AV Tryz
set_option maxHeartbeats 4000000
set_option maxRecDepth 100000
section
variable{z:T aa}{zn:Nat}
theorem FT(hz:ay z zn)(hg:fB prog z gP):A1 z zn 67 [az] [] 0 0 (.tuple ⟨[I 0,I 0]⟩) []:=by
 have hL:ai prog (ah (ag f67) 0) 0 57 ux [] 0 z zn (Al.R (Tf z zn 57).l):=by
  refine an hD hg (α:=Unit) 0 57 0 (fun _=>True) (fun _=>ux) (fun _=>[]) (fun _=>z) (fun _=>zn) (fun _=>0) _ (fun i hI=>?_) () trivial
  refine t100 (Wm z zn (ak _ _ _ _ _ _ _ _ _) ?_)
  (repeat' first|(with_reducible first|exact rfl|assumption|apply And.intro))
  exact bD trivial
 refine cW hg (fn:=f67) (by kernel_rfl) (by kernel_rfl) hz ⟨by decide,by decide⟩ rfl (Xx z zn _ ?_)
 (repeat' first|(with_reducible first|exact rfl|assumption|apply And.intro|exact q1)|exact hL|intro hq)
theorem C5(hz:ay z zn)(hg:fB prog z gP):A1 z zn 68 [az] [] 0 0 (.tuple ⟨[I 0,I 0]⟩) []:=by
 have hL:ai prog (ah (ag f68) 0) 0 48 ux [] 0 z zn (Al.R (Tf z zn 48).l):=by
  refine an hD hg (α:=Unit) 0 48 0 (fun _=>True) (fun _=>ux) (fun _=>[]) (fun _=>z) (fun _=>zn) (fun _=>0) _ (fun i hI=>?_) () trivial
  refine t100 (Wn z zn (ak _ _ _ _ _ _ _ _ _) ?_)
  (repeat' first|(with_reducible first|exact rfl|assumption|apply And.intro))
  exact bD trivial
 refine cW hg (fn:=f68) (by kernel_rfl) (by kernel_rfl) hz ⟨by decide,by decide⟩ rfl (Xy z zn _ ?_)
 (repeat' first|(with_reducible first|exact rfl|assumption|apply And.intro|exact q1)|exact hL|intro hq)
theorem M9(hz:ay z zn)(hg:fB prog z gP)(d w c:Int):A1 z zn 47 [.agg ⟨[az,zv d,zv w,zv c]⟩] [] 0 0 (.tuple ⟨[zv (bB d w c []).1,zv (bB d w c []).2]⟩) []:=by
 have hL:ai prog (ah (ag f47) 0) 2 79 wQ [(1,bb [])] 2 z zn (Al.R (Tc z zn).l):=by
  refine an hD hg (α:=Unit) 2 79 2 (fun _=>True) (fun _=>wQ) (fun _=>[(1,bb [])]) (fun _=>z) (fun _=>zn) (fun _=>0) _ (fun i hI=>?_) () trivial
  refine t100 (Wq z zn (ak _ _ _ _ _ _ _ _ _) ?_)
  (repeat' first|(with_reducible first|exact rfl|assumption|apply And.intro))
  exact bD trivial
 refine cW hg (fn:=f47) (by kernel_rfl) (by kernel_rfl) hz ⟨by decide,by decide⟩ rfl (XC z zn d w c _ ?_)
 (repeat' first|(with_reducible first|exact rfl|assumption|apply And.intro)|exact(rfl:gP _ _=_)|exact hL|intro hq)
 all_goals first
  |(have hf:fI d w c=false:=by(simp only[Bool.not_eq_true',Bool.not_eq_false'] at*;simp only[fI,zb, *,Bool.false_and,Bool.and_false,Bool.true_and,Bool.and_true])
    have hr:bB d w c []=(-1,2):=if_pos hf
    rw[hr];exact q1)
  |(have hf:fI d w c=true:=by(simp only[Bool.not_eq_true',Bool.not_eq_false'] at*;simp only[fI,zb, *,Bool.false_and,Bool.and_false,Bool.true_and,Bool.and_true])
    have hr:bB d w c []=(0,0):=by unfold bB;rw[if_neg (by simp[hf]),if_neg (by simp)];rfl
    rw[hr];exact q1)
theorem FX(hz:ay z zn)(hg:fB prog z gP)(d w c:Int):A1 z zn 72 [.agg ⟨[az,zv d,zv w,zv c]⟩] [] 0 0 (.tuple ⟨[zv (bB d w c []).1,zv (bB d w c []).2]⟩) []:=by
 have hL:ai prog (ah (ag f72) 0) 1 88 (ss 0) [(0,vQ az d w c)] 1 z zn (Al.R (WZ z zn d w c).l):=by
  refine an hD hg (α:=Unit) 1 88 1 (fun _=>True) (fun _=>ss 0) (fun _=>[(0,vQ az d w c)]) (fun _=>z) (fun _=>zn) (fun _=>0) _ (fun i hI=>?_) () trivial
  refine t100 (Wo z zn d w c (ak _ _ _ _ _ _ _ _ _) ?_)
  (repeat' first|(with_reducible first|exact rfl|assumption|apply And.intro))
  exact bD trivial
 refine cW hg (fn:=f72) (by kernel_rfl) (by kernel_rfl) hz ⟨by decide,by decide⟩ rfl (Xz z zn d w c _ ?_)
 (repeat' first|(with_reducible first|exact rfl|assumption|apply And.intro)|exact(rfl:gP _ _=_)|exact hL|intro hq)
 all_goals first
  |(have hf:fI d w c=false:=by(simp only[Bool.not_eq_true',Bool.not_eq_false'] at*;simp only[fI,zb, *,Bool.false_and,Bool.and_false,Bool.true_and,Bool.and_true])
    have hr:bB d w c []=(-1,2):=if_pos hf
    rw[hr];exact q1)
  |(have hf:fI d w c=true:=by(simp only[Bool.not_eq_true',Bool.not_eq_false'] at*;simp only[fI,zb, *,Bool.false_and,Bool.and_false,Bool.true_and,Bool.and_true])
    have hr:bB d w c []=(0,0):=by unfold bB;rw[if_neg (by simp[hf]),if_neg (by simp)];rfl
    rw[hr];exact q1)
end
section
variable{z:T aa}{zn:Nat}
theorem Nd(hz:ay z zn)(hg:fB prog z gP)(a b c d e f:Int):
 A1 z zn 43 [.slice (some ⟨0,0,none⟩) 2 2] [(0,Ku a b c d e f)] 1 1 (.agg ⟨[zv (pk c f a d),zv (pk c f b e),zv (pk c f c f)]⟩) []:=by
 have hL:ai prog (ah (ag f43) 0) 2 17 (AB 0) [(0,Ku a b c d e f),(1,c7 0 0 0)] 2 z zn (Al.R (W0 z zn a b c d e f (pk c f a d) (pk c f b e) (pk c f c f)).l):=by
  refine an hD hg (α:=Nat) 2 17 2 (fun i=>i<=2/\(0<i->c=0)/\(1<i->f=0)) (fun i=>AB i) (fun _=>[(0,Ku a b c d e f),(1,c7 0 0 0)]) (fun _=>z) (fun _=>zn) (fun i=>2 - i) _ (fun i hI=>?_) 0 ⟨by omega,fun h=>by omega,fun h=>by omega⟩
  obtain⟨h1,h2,h3⟩:=hI
  match i,h1 with
  |0,_=>
   refine t100 (Ww z zn 0 a b c d e f 0 0 0 (ak _ _ _ _ _ _ _ _ _) ?_)
   (repeat' first|(with_reducible first|exact rfl|assumption|apply And.intro)|intro hq)
   all_goals first
    |(have h:c≠0:=by simpa using hq
      have ea:pk c f a d=a:=if_pos h
      have eb:pk c f b e=b:=if_pos h
      have ec:pk c f c f=c:=if_pos h
      rw[ea,eb,ec]
      exact bD ⟨ea.symm,eb.symm,ec.symm⟩)
    |(have h:c=0:=by simpa using hq
      exact⟨1,rfl,rfl,rfl,rfl,rfl,⟨by omega,fun _=>h,fun h=>by omega⟩,by decide⟩)
  |1,_=>
   have h0:=h2 (by omega)
   refine t100 (Wv z zn 0 a b c d e f 0 0 0 (ak _ _ _ _ _ _ _ _ _) ?_)
   (repeat' first|(with_reducible first|exact rfl|assumption|apply And.intro)|intro hq)
   all_goals first
    |(have h:f≠0:=by simpa using hq
      have ea:pk c f a d=d:=by unfold pk;rw[if_neg (by simp[h0]),if_pos h]
      have eb:pk c f b e=e:=by unfold pk;rw[if_neg (by simp[h0]),if_pos h]
      have ec:pk c f c f=f:=by unfold pk;rw[if_neg (by simp[h0]),if_pos h]
      rw[ea,eb,ec]
      exact bD ⟨ea.symm,eb.symm,ec.symm⟩)
    |(have h:f=0:=by simpa using hq
      exact⟨2,rfl,rfl,rfl,rfl,rfl,⟨by omega,fun _=>h0,fun _=>h⟩,by decide⟩)
  |2,_=>
   refine t100 (Wu z zn 0 a b c d e f 0 0 0 (ak _ _ _ _ _ _ _ _ _) ?_)
   (repeat' first|(with_reducible first|exact rfl|assumption|apply And.intro))
   all_goals first|exact dD (bD ⟨h2 (by omega),h3 (by omega)⟩)|trace_state
 refine cW hg (fn:=f43) (by kernel_rfl) (by kernel_rfl) hz ⟨by decide,by decide⟩ rfl (ffi z zn 0 a b c d e f (pk c f a d) (pk c f b e) (pk c f c f) _ ?_)
 (repeat' first|(with_reducible first|exact rfl|assumption|apply And.intro)|exact hL|intro hq)
 all_goals first
  |(obtain⟨e1,e2,e3⟩:=hq
    exact q1)
  |(obtain⟨e1,e2⟩:=hq
    refine zU ?_
    simp[pk,e1,e2];done)
def iy(s r:Int × Int)(u k p:Int × Int × Int)(f:Int × Int):Int × Int × Int:=
 if s.2≠0 then (0,s.1,s.2) else if r.2≠0 then (1,r.1,r.2) else if u.2.2≠0 then u else if k.2.2≠0 then k else if p.2.2≠0 then p else if f.2≠0 then (5,f.1,f.2) else (0,0,0)
theorem Nf(hz:ay z zn)(hg:fB prog z gP)(N:aM)(s r:Int × Int)(u k p:Int × Int × Int)(f:Int × Int)(hnet:bz (sig []) [.agg ⟨N.cells⟩]=some [.agg ⟨N.cells⟩])
 (hs1:bz (sig []) [.slice N.sa N.ns N.sc]=some [.slice N.sa N.ns N.sc]) (hr1:bz (sig []) [.slice N.ra N.nr N.rc]=some [.slice N.ra N.nr N.rc]) (hf1:bz (sig []) [.agg ⟨[.slice N.fa N.nf N.fc,zv N.d,zv N.w,zv N.c]⟩]=some [.agg ⟨[.slice N.fa N.nf N.fc,zv N.d,zv N.w,zv N.c]⟩])
 (hs:A1 z zn 41 [.slice N.sa N.ns N.sc] [] 0 0 (.tuple ⟨[zv s.1,zv s.2]⟩) [])
 (hr:A1 z zn 42 [.slice N.ra N.nr N.rc] [] 0 0 (.tuple ⟨[zv r.1,zv r.2]⟩) [])
 (hu:s.2=0->r.2=0->A1 z zn 45 [.agg ⟨N.cells⟩] [] 0 0 (.agg ⟨[zv u.1,zv u.2.1,zv u.2.2]⟩) [])
 (hk:s.2=0->r.2=0->u.2.2=0->A1 z zn 46 [.agg ⟨N.cells⟩] [] 0 0 (.agg ⟨[zv k.1,zv k.2.1,zv k.2.2]⟩) [])
 (hp:s.2=0->r.2=0->u.2.2=0->k.2.2=0->A1 z zn 48 [.agg ⟨N.cells⟩] [] 0 0 (.agg ⟨[zv p.1,zv p.2.1,zv p.2.2]⟩) [])
 (hf:A1 z zn 47 [.agg ⟨[.slice N.fa N.nf N.fc,zv N.d,zv N.w,zv N.c]⟩] [] 0 0 (.tuple ⟨[zv f.1,zv f.2]⟩) []):
 A1 z zn 26 [.agg ⟨N.cells⟩] [] 0 0 (.tuple ⟨[zv (iy s r u k p f).1,zv (iy s r u k p f).2.1,zv (iy s r u k p f).2.2]⟩) []:=by
 have pk0: ∀{c f:Int},(pk c f c f==0)=true->c=0/\f=0:=fun {c f} h=>by
  unfold pk at h
  split at h
  ·rename_i h1;exact(h1 (by simpa using h)).elim
  ·rename_i h1
   split at h
   ·rename_i h2;exact(h2 (by simpa using h)).elim
   ·rename_i h2;exact⟨by simpa using h1,by simpa using h2⟩
 have pk1: ∀{c f:Int},(pk c f c f==0)=false-> ¬(c=0/\f=0):=fun {c f} h ⟨h1,h2⟩=>by
  subst h1 h2;simp[pk] at h
 refine cW hg (fn:=f26) (by kernel_rfl) (by kernel_rfl) hz ⟨by decide,by decide⟩ rfl (XK z zn N s.1 s.2 r.1 r.2 f.1 f.2 u.1 u.2.1 u.2.2 k.1 k.2.1 k.2.2 p.1 p.2.1 p.2.2 _ ?_)
 (repeat' first|(with_reducible first|exact rfl|assumption|apply And.intro)|exact(rfl:gP _ _=_)|exact Nd hz hg _ _ _ _ _ _|intro hq)
 all_goals try (have e1:=pk0 (by with_reducible assumption);obtain⟨e1,e2⟩:=e1)
 all_goals try (have e1:=pk1 (by with_reducible assumption))
 all_goals clear pk1
 all_goals try (have e3:u.2.2=0:=by simpa using (by assumption:(u.2.2==0)=true))
 all_goals try (have e4:k.2.2=0:=by simpa using (by assumption:(k.2.2==0)=true))
 all_goals first
  |exact congrArg Value.bool (by assumption)
  |exact hu e1 e2
  |exact hk e1 e2 e3
  |exact hp e1 e2 e3 e4
  |(refine zU ?_
    clear hs hr hu hk hp hf hs1 hr1 hf1 hnet pk0
    simp only[pk,iy]
    (repeat' split)<;>first|rfl|(exfalso;simp_all;done))
end
def qj(er:Nat->Int)(i:Nat):Option Int:=if er i=0 then none else some (er i)
theorem kA{x:Int}(h:(x !=0)=false):x=0:=by simpa using h
section
variable{z:T aa}{zn:Nat}
theorem Mp(hz:ay z zn)(hg:fB prog z gP)(N:aM)(hl:N.nu<100000)(er:Nat->Int)(hnet: ∀σ:bu,aI (aA σ []) N.box=some N.box)(hv:aW (sig []) (.agg ⟨N.cells⟩)=some (.agg ⟨N.cells⟩))
 (hc: ∀i,i<N.nu->(∀j,j<i->er j=0)->A1 z zn 69 [.agg ⟨N.cells⟩,iv i] [] 0 0 (zv (er i)) []) (r:Int × Int) (hr:scan (qj er) N.nu 0=r):
 ai prog (ah (ag f54) 0) 1 84 (CB 0) [(0,N.box)] 1 z zn (Al.R (S9 z zn N r.1 r.2).l):=by
 refine an hD hg (α:=Nat) 1 84 1 (fun i=>i<=N.nu/\scan (qj er) (N.nu - i) i=r/\ ∀j,j<i->er j=0) (fun i=>CB i) (fun i=>[(0,N.box)]) (fun _=>z) (fun _=>zn) (fun i=>N.nu - i) _ (fun i hI=>?_) 0 ⟨Nat.zero_le _,hr,fun j hj=>by omega⟩
 obtain⟨h1,h2,h3⟩:=hI
 by_cases hi:i<N.nu
 ·have hdc:decide ((i:Int)<(N.nu:Int))=true:=by simp;omega
  have hcc:=hc i hi h3
  have ha:bz (sig []) [.agg ⟨N.cells⟩,iv i]=some [.agg ⟨N.cells⟩,iv i]:=lF hv rfl
  refine t100 (ZN z zn i N (er i) (ak _ _ _ _ _ _ _ _ _) ⟨fun _=>?_,nC1 hdc⟩)
  (repeat' first|(with_reducible first|exact rfl|assumption|apply And.intro|exact bP (by omega))|exact hnet _|intro hq)
  all_goals first
   |(have h:er i≠0:=by simpa using (by assumption:(er i !=0)=true)
     have hb:qj er i=some (er i):=if_neg h
     have e:r=((i:Int),er i):=by rw[←h2,dr hi hb]
     rw[e]
     exact bD h)
   |(have h:er i=0:=by simpa using (by assumption:(er i !=0)=false)
     have hb:qj er i=none:=if_pos h
     refine⟨i+1,rfl,rfl,rfl,rfl,rfl,⟨hi,by rw[←cN hi hb];exact h2,fun j hj=>?_⟩,by show N.nu - (i+1)<N.nu - i;omega⟩
     by_cases e:j=i
     ·subst e;exact h
     ·exact h3 j (by omega))
 ·have hdc:decide ((i:Int)<(N.nu:Int))=false:=by simp;omega
  refine t100 (ZN z zn i N 0 (ak _ _ _ _ _ _ _ _ _) ⟨nC1 hdc,fun _=>?_⟩)
  (repeat' first|(with_reducible first|exact rfl|assumption|apply And.intro)|exact hnet _)
  rw[dH (by omega)] at h2
  refine dD (bD ?_)
  rw[←h2]
theorem Mo(hz:ay z zn)(hg:fB prog z gP)(N:aM)(hl:N.nl<100000)(er:Nat->Int)(hnet: ∀σ:bu,aI (aA σ []) N.box=some N.box)(hv:aW (sig []) (.agg ⟨N.cells⟩)=some (.agg ⟨N.cells⟩))
 (hc: ∀i,i<N.nl->(∀j,j<i->er j=0)->A1 z zn 70 [.agg ⟨N.cells⟩,iv i] [] 0 0 (zv (er i)) []) (r:Int × Int) (hr:scan (qj er) N.nl 0=r):
 ai prog (ah (ag f54) 1) 1 84 (CA 0) [(0,N.box)] 1 z zn (Al.R (S8 z zn N r.1 r.2).l):=by
 refine an hD hg (α:=Nat) 1 84 1 (fun i=>i<=N.nl/\scan (qj er) (N.nl - i) i=r/\ ∀j,j<i->er j=0) (fun i=>CA i) (fun i=>[(0,N.box)]) (fun _=>z) (fun _=>zn) (fun i=>N.nl - i) _ (fun i hI=>?_) 0 ⟨Nat.zero_le _,hr,fun j hj=>by omega⟩
 obtain⟨h1,h2,h3⟩:=hI
 by_cases hi:i<N.nl
 ·have hdc:decide ((i:Int)<(N.nl:Int))=true:=by simp;omega
  have hcc:=hc i hi h3
  have ha:bz (sig []) [.agg ⟨N.cells⟩,iv i]=some [.agg ⟨N.cells⟩,iv i]:=lF hv rfl
  refine t100 (ZM z zn i N (er i) (ak _ _ _ _ _ _ _ _ _) ⟨fun _=>?_,nC1 hdc⟩)
  (repeat' first|(with_reducible first|exact rfl|assumption|apply And.intro|exact bP (by omega))|exact hnet _|intro hq)
  all_goals first
   |(have h:er i≠0:=by simpa using (by assumption:(er i !=0)=true)
     have hb:qj er i=some (er i):=if_neg h
     have e:r=((i:Int),er i):=by rw[←h2,dr hi hb]
     rw[e]
     exact bD h)
   |(have h:er i=0:=by simpa using (by assumption:(er i !=0)=false)
     have hb:qj er i=none:=if_pos h
     refine⟨i+1,rfl,rfl,rfl,rfl,rfl,⟨hi,by rw[←cN hi hb];exact h2,fun j hj=>?_⟩,by show N.nl - (i+1)<N.nl - i;omega⟩
     by_cases e:j=i
     ·subst e;exact h
     ·exact h3 j (by omega))
 ·have hdc:decide ((i:Int)<(N.nl:Int))=false:=by simp;omega
  refine t100 (ZM z zn i N 0 (ak _ _ _ _ _ _ _ _ _) ⟨nC1 hdc,fun _=>?_⟩)
  (repeat' first|(with_reducible first|exact rfl|assumption|apply And.intro)|exact hnet _)
  rw[dH (by omega)] at h2
  refine dD (bD ?_)
  rw[←h2]
theorem JI(hz:ay z zn)(hg:fB prog z gP)(N:aM)(s r p f u k:Int × Int)(eu el:Nat->Int)(hnet: ∀σ:bu,aI (aA σ []) N.box=some N.box)(hv:aW (sig []) (.agg ⟨N.cells⟩)=some (.agg ⟨N.cells⟩))
 (hs1:bz (sig []) [.slice N.sa N.ns N.sc]=some [.slice N.sa N.ns N.sc]) (hr1:bz (sig []) [.slice N.ra N.nr N.rc]=some [.slice N.ra N.nr N.rc]) (hf1:bz (sig []) [.agg ⟨[.slice N.fa N.nf N.fc,zv N.d,zv N.w,zv N.c]⟩]=some [.agg ⟨[.slice N.fa N.nf N.fc,zv N.d,zv N.w,zv N.c]⟩])
 (hs:A1 z zn 67 [.slice N.sa N.ns N.sc] [] 0 0 (.tuple ⟨[zv s.1,zv s.2]⟩) [])
 (hr:A1 z zn 68 [.slice N.ra N.nr N.rc] [] 0 0 (.tuple ⟨[zv r.1,zv r.2]⟩) [])
 (hu:s.2=0->r.2=0->N.nu<=1024-> ∀i,i<N.nu->(∀j,j<i->eu j=0)->A1 z zn 69 [.agg ⟨N.cells⟩,iv i] [] 0 0 (zv (eu i)) [])
 (hur:u=if 1024<N.nu then (0,5) else scan (qj eu) N.nu 0)
 (hk:s.2=0->r.2=0->u.2=0->N.nl<=1024-> ∀i,i<N.nl->(∀j,j<i->el j=0)->A1 z zn 70 [.agg ⟨N.cells⟩,iv i] [] 0 0 (zv (el i)) [])
 (hkr:k=if 1024<N.nl then (0,5) else scan (qj el) N.nl 0)
 (hp:s.2=0->r.2=0->u.2=0->k.2=0->A1 z zn 71 [.agg ⟨N.cells⟩] [] 0 0 (.tuple ⟨[zv p.1,zv p.2]⟩) [])
 (hf:A1 z zn 72 [.agg ⟨[.slice N.fa N.nf N.fc,zv N.d,zv N.w,zv N.c]⟩] [] 0 0 (.tuple ⟨[zv f.1,zv f.2]⟩) []):
 A1 z zn 54 [.agg ⟨N.cells⟩] [] 0 0 (.tuple ⟨[zv (iy s r (2,u) (3,k) (4,p) f).1,zv (iy s r (2,u) (3,k) (4,p) f).2.1,zv (iy s r (2,u) (3,k) (4,p) f).2.2]⟩) []:=by
 have hv1:bz (sig []) [.agg ⟨N.cells⟩]=some [.agg ⟨N.cells⟩]:=lF hv rfl
 have hL7:s.2=0->r.2=0->decide ((N.nu:Int)>1024)=false->ai prog (ah (ag f54) 0) 1 84 (CB 0) [(0,N.box)] 1 z zn (Al.R (S9 z zn N u.1 u.2).l):=fun h1 h2 h3=>by
  have h3: ¬1024<N.nu:=by simp at h3;omega
  rw[if_neg h3] at hur
  exact Mp hz hg N (by omega) eu hnet hv (hu h1 h2 (by omega)) u hur.symm
 have hL8:s.2=0->r.2=0->u.2=0->decide ((N.nl:Int)>1024)=false->ai prog (ah (ag f54) 1) 1 84 (CA 0) [(0,N.box)] 1 z zn (Al.R (S8 z zn N k.1 k.2).l):=fun h1 h2 h3 h4=>by
  have h4: ¬1024<N.nl:=by simp at h4;omega
  rw[if_neg h4] at hkr
  exact Mo hz hg N (by omega) el hnet hv (hk h1 h2 h3 (by omega)) k hkr.symm
 refine cW hg (fn:=f54) (by kernel_rfl) (by kernel_rfl) hz ⟨by decide,by decide⟩ rfl (TK z zn N s.1 s.2 r.1 r.2 u.1 u.2 k.1 k.2 p.1 p.2 f.1 f.2 _ ?_)
 have hu5:decide ((N.nu:Int)>1024)=true->u=(0,5):=fun h=>by rw[hur,if_pos (by simp at h;omega)]
 have hk5:decide ((N.nl:Int)>1024)=true->k=(0,5):=fun h=>by rw[hkr,if_pos (by simp at h;omega)]
 (repeat' first|(with_reducible first|exact rfl|assumption|apply And.intro|exact hp (kA (by assumption)) (kA (by assumption)) (by assumption) (by assumption))|exact hnet _|exact hL7 (kA (by assumption)) (kA (by assumption)) (by assumption)|exact hL8 (kA (by assumption)) (kA (by assumption)) (by assumption) (by assumption)|intro hq)
 all_goals try (have e1:s.2=0:=kA (by assumption))
 all_goals try (have e2:r.2=0:=kA (by assumption))
 all_goals try (have e3:p.2=0:=kA (by assumption))
 all_goals try (have e3:f.2=0:=kA (by assumption))
 all_goals try (have e4:=hu5 (by assumption))
 all_goals try (have e4:=hk5 (by assumption))
 all_goals clear hs hr hu hk hp hf hs1 hr1 hf1 hnet hv hv1 hL7 hL8 hu5 hk5 hur hkr
 all_goals first
  |(refine zU ?_
    simp only[iy]
    (repeat' split)<;>first|rfl|(exfalso;simp_all;done)|(simp_all;done))
end
end Go.Proofs.Nw
namespace Go.Proofs.Nw
open Go Go.AV Tryz
set_option maxRecDepth 100000
theorem kC:ay (T.leaf:T aa) 0:=fun k o h=>by cases h
theorem mR{zg:T aa}:fB prog zg (fun _ _=>none):=fun _ _ _ h=>by cases h
theorem cz{z:T aa}{f:Nat}{args:List Value}{u:Value}(h:A1 .leaf 0 f args [] 0 0 u [])(hp:au u=true)(ha:bE args=true):qt prog z f args u:=by
 obtain⟨h1,h2⟩:=xB h (fun _ _=>rfl) hp (fun k o hk=>by cases hk) (fun σ _=>fE ha)
 exact⟨h1,fun ρ W args' hz hv=>h2 ρ W args' (fun k o hk=>by cases hk) hv⟩
theorem GR{z:T aa}(a b:Int):qt prog z 61 [zv a,zv b] (.bool (decide (0<=a) && decide (a<b))):=by
 refine cz ?_ rfl rfl
 refine aK1 (mR (zg:= .leaf)) (fn:=f61) kC (gwi .leaf 0 a b _ ?_)
 (repeat' first|(with_reducible first|exact rfl|apply And.intro|exact kC)|intro hq)
 all_goals (refine zU ?_;simp_all;try (intros;omega))
theorem V6{z:T aa}(n a b:Int):qt prog z 82 [zv n,zv a,zv b] (.bool (decide (a<=n) && decide (n<=b))):=by
 refine cz ?_ rfl rfl
 refine aK1 (mR (zg:= .leaf)) (fn:=f82) kC (gin .leaf 0 n a b _ ?_)
 (repeat' first|(with_reducible first|exact rfl|apply And.intro|exact kC)|intro hq)
 all_goals (refine zU ?_;simp_all;try (intros;omega))
theorem V3{z:T aa}(n a b:Int):qt prog z 63 [zv n,zv a,zv b] (.bool (decide (a<=n) && decide (n<=b))):=by
 refine cz ?_ rfl rfl
 refine aK1 (mR (zg:= .leaf)) (fn:=f63) kC (gpw .leaf 0 n a b _ ?_)
 (repeat' first|(with_reducible first|exact rfl|apply And.intro|exact kC)|intro hq)
 all_goals (refine zU ?_;simp_all;try (intros;omega))
theorem KR{z:T aa}(n:Int):qt prog z 59 [zv n] (.bool (decide (0<=n) && decide (n<8))):=by
 refine cz ?_ rfl rfl
 refine aK1 (mR (zg:= .leaf)) (fn:=f59) kC (gkn .leaf 0 n _ ?_)
 (repeat' first|(with_reducible first|exact rfl|apply And.intro|exact kC)|intro hq)
 all_goals (refine zU ?_;simp_all;try (intros;omega))
theorem V5{z:T aa}(a b c:Int):qt prog z 44 [zv a,zv b,zv c] (.agg ⟨[zv a,zv b,zv c]⟩):=by
 refine cz ?_ rfl rfl
 refine aK1 (mR (zg:= .leaf)) (fn:=f44) kC (gof .leaf 0 a b c _ ?_)
 (repeat' first|(with_reducible first|exact rfl|apply And.intro|exact kC))
 all_goals (exact q1)
theorem zA{s:ByteArray}{ρ:Ren}{args':List Value}(h:cT ρ [.string s] args'):args'=[.string s]:=by
 cases h with
 |cons _ _ _ _ h1 h2=>
  cases h2
  cases h1 with
  |sc _ _=>rfl
theorem fX(z:T aa):fB prog z gP:=by
 intro f args v h
 unfold gP at h
 split at h
 ·split at h
  ·rename_i s hs
   cases h
   refine⟨rfl,fun ρ W args' _ ha=>?_⟩
   rw[zA ha]
   exact(GX _ W (Nat.le_of_ble_eq_true hs)).mono fun e w' ⟨h1,h2⟩=>⟨h1,by subst h2;exact Go.RowKit.Below.refl _ _⟩
  ·cases h
 ·split at h
  ·rename_i s hs
   cases h
   refine⟨rfl,fun ρ W args' _ ha=>?_⟩
   rw[zA ha]
   exact(OY _ W (Nat.le_of_ble_eq_true hs)).mono fun e w' ⟨h1,h2⟩=>⟨h1,by subst h2;exact Go.RowKit.Below.refl _ _⟩
  ·cases h
 ·cases h;exact KR _
 ·cases h;exact V3 _ _ _
 ·cases h;exact V5 _ _ _
 ·cases h;exact GR _ _
 ·cases h;exact V6 _ _ _
 ·cases h
end Go.Proofs.Nw
namespace Go.AV
open Go.RowKit
def BL(P:Program)(f:Nat)(args:List Value)(v:Value):Prop:= ∀w,Calls P f ⟨args⟩ w fun e w'=>e= .returned v/\Below w.heap.size w w'
section
variable{P:Program}
theorem zX{c:cM}(hc:dM P c){f:Nat}{args:List Value}{v:Value}{nx:Nat}(hp:bE args=true)(hv:au v=true)
 (hr:(c f args {heap:= .leaf,next:=nx,log:=[]}).map (·.1)=some v):BL P f args v:=by
 cases he:c f args {heap:= .leaf,next:=nx,log:=[]} with
 |none=>rw[he] at hr;cases hr
 |some x=>
  obtain⟨v0,h'⟩:=x
  rw[he] at hr
  simp only[Option.map_some,Option.some.injEq] at hr
  subst hr
  intro w
  have hh:aJ Af (T.leaf:T aa).get w:=⟨fun b o hb=>absurd hb (by rw[T.dY];simp),fun i j oi oj Li Lj hi=>absurd hi (by rw[T.dY];simp)⟩
  have hk:=(hc _ _ _ _ _ he).2 Af w args 0 (cT.aZ hp) hh (fun _ _ _=>rfl)
  refine Calls.mono (hk.calls fun _=>room_wide _) fun e w' hg=>?_
  obtain⟨ρ',v',rfl,h1,h2,h3⟩:=hg
  have e1:=h1.plain hv
  subst e1
  exact⟨rfl,h3.os,h3.tape,h3.output,h3.size,fun r hr=>h3.same r hr fun b o L hb=>absurd hb (by rw[T.dY];simp)⟩
end
end Go.AV
namespace Go.Proofs.Nw
open Go Go.AV Tryz
set_option maxHeartbeats 1000000
set_option maxRecDepth 100000
section
variable{z:T aa}{zn:Nat}
theorem TY(hz:ay z zn)(a:Int):A1 z zn 107 [zv a] [] 0 0 F0 []:=by
 refine aK1 (mR (zg:=z)) (fn:=f107) hz (N:=100) ?_
 refine Xc z zn a _ ?_
 (repeat' first|(with_reducible first|exact rfl|assumption|apply And.intro)|intro hq)
 all_goals first|exact q1|(simp at hq;done)
theorem T3(hz:ay z zn)(a b:Int):A1 z zn 95 [zv a,zv b] [] 0 0 (zv (Bk a b)) []:=by
 refine aK1 (mR (zg:=z)) (fn:=f95) hz (N:=100) ?_
 refine Xe z zn a b _ ?_
 (repeat' first|(with_reducible first|exact rfl|assumption|apply And.intro|exact TY hz _)|intro hq)
 all_goals (refine zU ?_;simp only[decide_eq_true_eq,decide_eq_false_iff_not] at*;unfold Bk;(repeat' split)<;>first|rfl|(exfalso;omega))
theorem Md(hz:ay z zn)(kb:ba)(hkb:z.get 0=some (.aw kb))(c:Nat->Int)(hc: ∀i,i<3->aE prog kb 3 (0+i*1)=some (zv (c i))):
 ai prog (ah (ag f94) 0) 0 18 (Fb 0) [] 0 z zn (Al.R (WU z zn (Kv (c 0) (c 1) (c 2))).l):=by
 refine an hD (mR (zg:=z)) (α:=Nat) 0 18 0 (fun i=>i<=3/\ ∀j,j<i->c j=0) (fun i=>Fb i) (fun _=>[]) (fun _=>z) (fun _=>zn) (fun i=>3 - i) _ (fun i hI=>?_) 0 ⟨by omega,fun j h=>by omega⟩
 obtain⟨h1,h2⟩:=hI
 have orE: ∀i,i<3->(∀j,j<i->c j=0)->c i≠0->Kv (c 0) (c 1) (c 2)=c i:=fun i hi h hn=>by
  unfold Kv
  match i,hi with
  |0,_=>rw[if_pos hn]
  |1,_=>rw[if_neg (by simpa using h 0 (by omega)),if_pos hn]
  |2,_=>rw[if_neg (by simpa using h 0 (by omega)),if_neg (by simpa using h 1 (by omega))]
 refine t100 (Xb z zn i kb (c i) 0 (ak _ _ _ _ _ _ _ _ _) ?_)
 by_cases hi:i<3
 ·have d1:decide ((i:Int)<3)=true:=by simp;omega
  have hr:=hc i hi
  refine⟨fun _=>?_,nC1 d1⟩
  (repeat' first|(with_reducible first|exact rfl|assumption|apply And.intro|exact bP (by omega))|intro hq)
  all_goals first
   |(have h:c i≠0:=by simpa using (by assumption:(c i !=0)=true)
     have e:=orE i hi h2 h
     rw[e]
     exact bD h)
   |(have h:c i=0:=by simpa using (by assumption:(c i !=0)=false)
     exact⟨i+1,rfl,rfl,rfl,rfl,rfl,⟨hi,fun j hj=>by
      by_cases e:j=i
      ·subst e;exact h
      ·exact h2 j (by omega)⟩,by show 3 - (i+1)<3 - i;omega⟩)
 ·have d1:decide ((i:Int)<3)=false:=by simp;omega
  refine⟨nC1 d1,fun _=>?_⟩
  (repeat' first|(with_reducible first|exact rfl|assumption|apply And.intro))
  refine dD (bD ?_)
  unfold Kv
  rw[if_neg (by simpa using h2 0 (by omega)),if_neg (by simpa using h2 1 (by omega))]
  exact h2 2 (by omega)
theorem XN(hz:ay z zn)(kb:ba)(hkb:z.get 0=some (.aw kb))(c:Nat->Int)(hc: ∀i,i<3->aE prog kb 3 (0+i*1)=some (zv (c i))):
 A1 z zn 94 [tb 0 3 3] [] 0 0 (zv (Kv (c 0) (c 1) (c 2))) []:=by
 have hL:=Md hz kb hkb c hc
 refine aK1 (mR (zg:=z)) (fn:=f94) hz (N:=100) ?_
 refine jor z zn (Kv (c 0) (c 1) (c 2)) _ ?_
 (repeat' first|(with_reducible first|exact rfl|assumption|apply And.intro)|exact hL|intro hq)
 all_goals first
  |exact q1
  |(refine zU ?_;simp_all;done)
end
def zT(e:TypeId)(x y w:Int):T aa:=(T.leaf:T aa).set 0 (.aw (bq e [zv x,zv y,zv w]))
theorem xQ(e:TypeId)(x y w:Int)(k:Nat):(zT e x y w).get k=if k=0 then some (.aw (bq e [zv x,zv y,zv w])) else none:=by
 unfold zT;rw[T.aP];split<;>simp[T.dY]
theorem OW(e:TypeId)(x y w:Int):ay (zT e x y w) 1:=fun k o h=>by
 rw[xQ] at h
 split at h
 ·rename_i hk;subst hk;cases h
  exact⟨by decide,fun σ _=>rfl⟩
 ·cases h
theorem V4(e:TypeId)(x y w:Int):qt prog (zT e x y w) 94 [tb 0 3 3] (zv (Kv x y w)):=by
 have h:=XN (z:=zT e x y w) (zn:=1) (OW e x y w) (bq e [zv x,zv y,zv w]) (by rw[xQ,if_pos rfl]) (fun i=>match i with|0=>x|1=>y|_=>w) (fun i hi=>by
  match i,hi with
  |0,_=>rfl
  |1,_=>rfl
  |2,_=>rfl)
 exact xB h (fun _ _=>rfl) rfl (fun k o hk=>by
  rw[xQ] at hk
  split at hk
  ·cases hk;rfl
  ·cases hk) (fun σ hσ=>by
  have:=hσ 0 (by decide)
  simp only[bz,aW,this])
theorem Sl(a b:Int):qt prog (T.leaf:T aa) 95 [zv a,zv b] (zv (Bk a b)):=cz (T3 kC a b) rfl rfl
def Jz:cM:=fun f args h=>match f,args with
 |95,[.int .i64 a, .int .i64 b]=>some (zv (Bk a b),h)
 |94,[.slice (some ⟨b,0,none⟩) 3 3]=>match h.heap.get b with
  |some (.aw ⟨[.int .i64 x, .int .i64 y, .int .i64 w],_,_,_,true,_,_,_⟩)=>some (zv (Kv x y w),h)
  |_=>none
 |_,_=>none
theorem AY{ρ:Ren}{h:Hs}{w w':World}{v:Value}(hv:au v=true)(hh:aJ ρ h.heap.get w)(hb:Go.RowKit.Below w.heap.size w w'):NB ρ h w v h (.returned v) w':=by
 refine⟨ρ,v,rfl,VR.aZ hv,⟨fun b o ho=>?_,hh.inj⟩,⟨hb.os,hb.tape,hb.output,hb.size,fun r hr _=>hb.block r hr,fun b o L h1 h2 h3=> .inl ⟨b,o,L,h1,h2,h3,rfl⟩,fun b o L h1 h3=> .inl ⟨b,o,L,h1,h3,rfl⟩,Ren.le.refl _,fun _ _=>rfl⟩⟩
 obtain⟨L,x,a1,a2,a3⟩:=hh.obj b o ho
 exact⟨L,x,a1,by rw[hb.block _ (Array.getElem?_eq_some_iff.1 a2).1];exact a2,a3⟩
theorem Jy:dM prog Jz:=by
 intro f args h v h' he
 unfold Jz at he
 split at he
 ·rename_i a b
  cases he
  refine⟨Mod.refl _,fun ρ w args' n hargs hh hf=>callsIn_wide.2 ?_⟩
  have e:=hargs.plain rfl
  subst e
  exact((Sl a b).2 Af w _ (fun k o hk=>by cases hk) (cT.aZ rfl)).mono fun e w' ⟨h1,hb⟩=>by rw[h1];exact AY rfl hh hb
 ·rename_i b
  split at he
  ·rename_i x y u cap jU el wh fz ow hb0
   cases he
   refine⟨Mod.refl _,fun ρ w args' n hargs hh hf=>callsIn_wide.2 ?_⟩
   obtain⟨L,o,k1,k2,k3⟩:=hh.obj b _ hb0
   cases o<;>simp only[OR] at k3
   rename_i c el' fr
   have hψ:=k3.exact rfl
   have ha:args'=[.slice (some ⟨L.φ,L.δ+0,none⟩) 3 (3+L.ψ)]:=by
    cases hargs with
    |cons _ _ _ _ h1 h2=>
     cases h2
     cases h1 with
     |sc _ h=>simp[simple] at h
     |sl _ _ _ _ L' h=>rw[k1] at h;cases h;rfl
   let ρ2:Ren:=fun i=>if i=510 then some L else none
   have hv:cT ρ2 [tb 0 3 3] args':=by
    rw[ha]
    exact .cons _ _ _ _ (.sl (256*0+510) 0 3 3 L (if_pos rfl)) .nil
   have hfz:NC (zT el x y u) ρ2 w:=fun k o hk=>by
    rw[xQ] at hk
    split at hk
    ·rename_i hk0
     subst hk0;cases hk
     refine⟨L,_,if_pos rfl,k2,?_⟩
     refine⟨k3.elem,Nat.le_refl _,fun hh=>(by cases hh),fun i v hv=>?_,fun _=>hψ,fun hh=>(by cases hh),fun hh=>(by cases hh),fun hh=>(by cases hh)⟩
     obtain⟨v',q1,q2⟩:=k3.cell i v hv
     have hp:au v=true:=by
      match i,hv with
      |0,hv=>cases hv;rfl
      |1,hv=>cases hv;rfl
      |2,hv=>cases hv;rfl
     have:=q2.plain hp
     subst this
     exact⟨v',q1,VR.aZ hp⟩
    ·cases hk
   exact((V4 el x y u).2 ρ2 w args' hfz hv).mono fun e w' ⟨h1,hb⟩=>by rw[h1];exact AY rfl hh hb
  ·cases he
 ·cases he
theorem WC(a b c d e f:Int)(s t:Bool):BL prog 93 [.agg ⟨[.int .i64 a, .int .i64 b, .int .i64 c, .bool s]⟩, .agg ⟨[.int .i64 d, .int .i64 e, .int .i64 f, .bool t]⟩] (zv (qS a b c d e f)):=
 zX (c:=Bo prog (rP prog Jz 300) (fun _ _ _=>none)) (uX (Ba hD Jy 300)) (by kernel_rfl) (by kernel_rfl) (nx:=6) (by kernel_rfl)
theorem mr(z:T aa):fB prog z gS:=by
 intro f args v h
 unfold gS at h
 split at h
 ·cases h
  refine⟨rfl,fun ρ W args' _ ha=>?_⟩
  have e:=ha.plain rfl
  subst e
  exact WC _ _ _ _ _ _ _ _ W
 ·cases h
end Go.Proofs.Nw
namespace Go.Proofs.Nw
open Go Go.AV Tryz
set_option maxRecDepth 1000000
noncomputable section
theorem TG(z:T aa)(zn:Nat)(a b:cL)(Q:QF)(hyp:Br (decide (a.len<b.len)) (E6 24 z zn (YA/\Q T1 [] 0 z zn)) (Br (a.len==b.len) (Br (decide (a.gm<b.gm)) (E6 24 z zn (YA/\Q T1 [] 0 z zn)) (E6 24 z zn (YQ/\Q F0 [] 0 z zn))) (E6 24 z zn (YQ/\Q F0 [] 0 z zn)))):ed prog GN z f125 [AG a.row,AG b.row] z [] 0 zn Q:=K1t hyp (tA 2 ((tA 8 (tR [] [] T1 [] 0 z zn)).fork (tA 7 ((tA 8 ((tA 3 (tR [] [] T1 [] 0 z zn)).fork (tA 3 (GM z zn)))).fork (tA 9 (GM z zn))))))
abbrev kL:Value:=Value.func (Fn.func 125) Sg Sg
abbrev Ox:aa:=BQ [kL,Yk,YM] 3 1 211
theorem oV(z:T aa)(zn:Nat)(Q:QF)(hyp:E6 8 z zn (Rs Ox/\B6/\Q Yi [(0,Ox)] 1 z zn)):ed prog GN z f124 [ID] z [] 0 zn Q:=K1t hyp (tA 2 (tR YC [] Yi [(0,Ox)] 1 z zn))
abbrev Vx(cs:List Value)(cc i:Nat)(a:b8):Prop:=aE prog (ba.mk cs cc 4 213 false false 0 true) 213 (0+i*4)=some (AG [ZV a.x.node,ZV a.x.len,ZV a.x.gm,ZV a.num])
abbrev X8(a b:b8):Value:=Value.bool (oq (cL.mk a.x.node a.x.len a.x.gm) (cL.mk b.x.node b.x.len b.x.gm))
abbrev YFA(a b:b8):Prop:=gH 125 [AG [ZV a.x.node,ZV a.x.len,ZV a.x.gm],AG [ZV b.x.node,ZV b.x.len,ZV b.x.gm]]=some (X8 a b)
abbrev j0(n c:Nat)(p:Int):Prop:=Rs (BQ [kL,SL 1 n c,ZV p] 3 1 211)
abbrev mn(cs:List Value)(cc:Nat):aa:=BR cs cc 4 213
abbrev EB(cs:List Value)(cc:Nat):Prop:=KO nS (mn cs cc)
abbrev BG(n c:Nat)(p:Int):Nat × aa:=(0,BQ [kL,SL 1 n c,ZV p] 3 1 211)
abbrev gx(n c:Nat)(p:Int)(cs:List Value)(cc:Nat):List (Nat × aa):=[BG n c p,(1,mn cs cc)]
abbrev Kf(n c:Nat)(p:Int)(cs:List Value)(cc:Nat):List (Nat × aa):=[(0,eE (aX 1 n c) p),(1,dR cs cc)]
theorem Xm(z:T aa)(zn i k n c cc:Nat)(p:Int)(a b:b8)(cs:List Value)(Q:QF)(hyp:Yz i/\i<n/\Vx cs cc i a/\Yz k/\k<n/\Vx cs cc k b/\Rf z/\YFA a b/\Br (oq (cL.mk a.x.node a.x.len a.x.gm) (cL.mk b.x.node b.x.len b.x.gm)) (E6 46 z zn (j0 n c p/\EB cs cc/\YA/\Q T1 (gx n c p cs cc) 2 z zn)) (Rf z/\YFA b a/\Br (oq (cL.mk b.x.node b.x.len b.x.gm) (cL.mk a.x.node a.x.len a.x.gm)) (E6 46 z zn (j0 n c p/\EB cs cc/\YQ/\Q F0 (gx n c p cs cc) 2 z zn)) (Br (decide (a.num<b.num)) (E6 46 z zn (j0 n c p/\EB cs cc/\YA/\Q T1 (gx n c p cs cc) 2 z zn)) (E6 46 z zn (j0 n c p/\EB cs cc/\YQ/\Q F0 (gx n c p cs cc) 2 z zn))))):ed prog gH z f133 [Y8,iv i,iv k] z (Kf n c p cs cc) 2 zn Q:=K1t hyp (tA 1 (tO (Y9 i) (tO (An.D1 (AG a.row)) (tA 1 (tO (Y9 k) (tO (An.D1 (AG b.row)) (tA 5 (tO (An.cl (X8 a b)) ((tR dq [] T1 (gx n c p cs cc) 2 z zn).fork (tA 3 (tO (An.cl (X8 b a)) ((tR dq [] F0 (gx n c p cs cc) 2 z zn).fork (tA 2 ((tR dq [] T1 (gx n c p cs cc) 2 z zn).fork (tR dq [] F0 (gx n c p cs cc) 2 z zn)))))))))))))))
theorem Xh(z:T aa)(zn i k n c cc:Nat)(p:Int)(a b:b8)(cs cs1 cs2:List Value)(Q:QF)(hyp:Yz k/\k<n/\Vx cs cc k b/\Yz i/\i<n/\Vx cs cc i a/\Yz i/\i<n/\overwrite cs (0+i*4) [ZV b.x.node,ZV b.x.len,ZV b.x.gm,ZV b.num]=some cs1/\cs1.length<=cc/\Yz k/\k<n/\overwrite cs1 (0+k*4) [ZV a.x.node,ZV a.x.len,ZV a.x.gm,ZV a.num]=some cs2/\cs2.length<=cc/\E6 32 z zn (j0 n c p/\EB cs2 cc/\mA/\Q nX (gx n c p cs2 cc) 2 z zn)):ed prog gH z f134 [Y8,iv i,iv k] z (Kf n c p cs cc) 2 zn Q:=K1t hyp (tA 3 (tO (Y9 k) (tO (An.D1 (AG b.row)) (tA 1 (tO (Y9 i) (tO (An.D1 (AG a.row)) (tO (Y9 i) (tX (my.NM cs1) (tO (Y9 k) (tX (my.NM cs2) (tR dq [] nX (gx n c p cs2 cc) 2 z zn)))))))))))
abbrev qZ(m c:Nat)(p:Int)(cs:List Value)(cc:Nat):Unit->List (Nat × aa):=fun(x:Unit)=>gx m c p cs cc
abbrev QQ(m c:Nat)(p:Int):Prop:=Rs (BQ [kL,SL 4 m c,ZV p] 3 1 211)
abbrev Ot(m c:Nat)(p:Int):Nat × aa:=(0,BQ [kL,SL 4 m c,ZV p] 3 1 211)
abbrev B2:List (Nat × Value):=[(0,Yi)]
noncomputable abbrev Uj:Code:=ah (ag f126) 0
theorem TD(z:T aa)(zn i m c cc:Nat)(p:Int)(bf:Int->Int->Bool)(sw:Int->Int->List Value)(cs:List Value)(Q:QL)(hyp:Br (decide ((↑i:Int)>0)) (WQ1 ((↑i:Int) - 1)/\WQ1 (((↑i:Int) - 1).tdiv 2)/\aT prog z zn 133 [Yi,IV i,ZV (((↑i:Int) - 1).tdiv 2)] (gx m c p cs cc) 2 2 Yx (fun(x:Unit)=>Value.bool (bf (↑i:Int) (((↑i:Int) - 1).tdiv 2))) (qZ m c p cs cc)/\Rs [Yi,IV i,ZV (((↑i:Int) - 1).tdiv 2)]/\QQ m c p/\KO (sig [YB,(1,4)]) (mn cs cc)/\ ∀(x:Unit),True->Rs (Value.bool (bf (↑i:Int) (((↑i:Int) - 1).tdiv 2)))/\j0 m c p/\KO (sig [YB,(4,1)]) (mn cs cc)/\Br (bf (↑i:Int) (((↑i:Int) - 1).tdiv 2)) (WQ1 ((↑i:Int) - 1)/\WQ1 (((↑i:Int) - 1).tdiv 2)/\(aT prog z zn 134 [Yi,IV i,ZV (((↑i:Int) - 1).tdiv 2)] (gx m c p cs cc) 2 2 Yx mz fun(x:Unit)=>[BG m c p,(1,dR (sw (↑i:Int) (((↑i:Int) - 1).tdiv 2)) cc)])/\Rs [Yi,IV i,ZV (((↑i:Int) - 1).tdiv 2)]/\QQ m c p/\KO (sig [YB,(1,4)]) (mn cs cc)/\ ∀(x:Unit),True->mA/\j0 m c p/\KO (sig [YB,(4,1)]) (BR (sw (↑i:Int) (((↑i:Int) - 1).tdiv 2)) cc 4 213)/\WQ1 ((↑i:Int) - 1)/\WQ1 (((↑i:Int) - 1).tdiv 2)/\E6 54 z zn (R2 Yi (ZV (((↑i:Int) - 1).tdiv 2)) (QQ m c p/\KO (aA [YB,(4,4)] []) (BR (sw (↑i:Int) (((↑i:Int) - 1).tdiv 2)) cc 4 213)/\Q aN [(0,Yi),(4,ZV (((↑i:Int) - 1).tdiv 2))] [Ot m c p,(4,BR (sw (↑i:Int) (((↑i:Int) - 1).tdiv 2)) cc 4 213)] 5 z zn))) (E6 54 z zn (B6/\QQ m c p/\KO (aA [YB,(4,4)] []) (mn cs cc)/\Q YO B2 [Ot m c p,(4,mn cs cc)] 5 z zn))) (E6 54 z zn (B6/\QQ m c p/\KO (aA [YB,(4,4)] []) (mn cs cc)/\Q YO B2 [Ot m c p,(4,mn cs cc)] 5 z zn))):ew prog gH z Uj 54 (qP i) z [(0,eE (aX 4 m c) p),(4,dR cs cc)] 5 zn 4 Q:=K1t hyp ((tA 4 (tO (An.val (ZV ((↑i:Int) - 1))) (tA 1 (tO (An.val (ZV (((↑i:Int) - 1).tdiv 2))) (tA 1 (Tr.cm (Cm.mk [Yi,IV i,ZV (((↑i:Int) - 1).tdiv 2)] (gx m c p cs cc) 2 2 [YB,(1,4)] [YB,(4,1)] 5) Unit Yx (fun(x:Unit)=>Value.bool (bf (↑i:Int) (((↑i:Int) - 1).tdiv 2))) (qZ m c p cs cc) (fun(x:Unit)=>Value.bool (bf (↑i:Int) (((↑i:Int) - 1).tdiv 2))) (fun(x:Unit)=>[Ot m c p,(4,mn cs cc)]) (fZ z) (fY zn) fun(x:Unit)=>tA 1 ((tO (An.val (ZV ((↑i:Int) - 1))) (tO (An.val (ZV (((↑i:Int) - 1).tdiv 2))) (Tr.cm (Cm.mk [Yi,IV i,ZV (((↑i:Int) - 1).tdiv 2)] (gx m c p cs cc) 2 2 [YB,(1,4)] [YB,(4,1)] 5) Unit Yx mz (fun(x:Unit)=>[BG m c p,(1,dR (sw (↑i:Int) (((↑i:Int) - 1).tdiv 2)) cc)]) mz (fun(x:Unit)=>[Ot m c p,(4,BR (sw (↑i:Int) (((↑i:Int) - 1).tdiv 2)) cc 4 213)]) (fZ z) (fY zn) fun(x:Unit)=>tO (An.val (ZV ((↑i:Int) - 1))) (tO (An.val (ZV (((↑i:Int) - 1).tdiv 2))) (tE [YB,(4,4)] [] [(0,Yi),(4,ZV (((↑i:Int) - 1).tdiv 2))] [Ot m c p,(4,BR (sw (↑i:Int) (((↑i:Int) - 1).tdiv 2)) cc 4 213)] 5 z zn))))).fork (tE [YB,(4,4)] [] B2 [Ot m c p,(4,mn cs cc)] 5 z zn)))))))).fork (tA 8 (tE [YB,(4,4)] [] B2 [Ot m c p,(4,mn cs cc)] 5
 z zn)))
abbrev Ui(m c:Nat)(p:Int):Prop:=Rs (BQ [kL,SL 5 m c,ZV p] 3 1 211)
abbrev Oq(m c:Nat)(p:Int):Nat × aa:=(0,BQ [kL,SL 5 m c,ZV p] 3 1 211)
theorem TC(z:T aa)(zn i m c cc:Nat)(p:Int)(bf:Int->Int->Bool)(sw:Int->Int->List Value)(cs:List Value)(Q:QL)(hyp:Br (decide ((↑i:Int)>0)) (WQ1 ((↑i:Int) - 1)/\WQ1 (((↑i:Int) - 1).tdiv 2)/\aT prog z zn 133 [Yi,IV i,ZV (((↑i:Int) - 1).tdiv 2)] (gx m c p cs cc) 2 2 Yx (fun(x:Unit)=>Value.bool (bf (↑i:Int) (((↑i:Int) - 1).tdiv 2))) (qZ m c p cs cc)/\Rs [Yi,IV i,ZV (((↑i:Int) - 1).tdiv 2)]/\Ui m c p/\KO (sig [YB,(1,5)]) (mn cs cc)/\ ∀(x:Unit),True->Rs (Value.bool (bf (↑i:Int) (((↑i:Int) - 1).tdiv 2)))/\j0 m c p/\KO (sig [YB,(5,1)]) (mn cs cc)/\Br (bf (↑i:Int) (((↑i:Int) - 1).tdiv 2)) (WQ1 ((↑i:Int) - 1)/\WQ1 (((↑i:Int) - 1).tdiv 2)/\(aT prog z zn 134 [Yi,IV i,ZV (((↑i:Int) - 1).tdiv 2)] (gx m c p cs cc) 2 2 Yx mz fun(x:Unit)=>[BG m c p,(1,dR (sw (↑i:Int) (((↑i:Int) - 1).tdiv 2)) cc)])/\Rs [Yi,IV i,ZV (((↑i:Int) - 1).tdiv 2)]/\Ui m c p/\KO (sig [YB,(1,5)]) (mn cs cc)/\ ∀(x:Unit),True->mA/\j0 m c p/\KO (sig [YB,(5,1)]) (BR (sw (↑i:Int) (((↑i:Int) - 1).tdiv 2)) cc 4 213)/\WQ1 ((↑i:Int) - 1)/\WQ1 (((↑i:Int) - 1).tdiv 2)/\E6 54 z zn (R2 Yi (ZV (((↑i:Int) - 1).tdiv 2)) (Ui m c p/\KO (aA [YB,(5,5)] []) (BR (sw (↑i:Int) (((↑i:Int) - 1).tdiv 2)) cc 4 213)/\Q aN [(0,Yi),(4,ZV (((↑i:Int) - 1).tdiv 2))] [Oq m c p,(5,BR (sw (↑i:Int) (((↑i:Int) - 1).tdiv 2)) cc 4 213)] 6 z zn))) (E6 54 z zn (B6/\Ui m c p/\KO (aA [YB,(5,5)] []) (mn cs cc)/\Q YO B2 [Oq m c p,(5,mn cs cc)] 6 z zn))) (E6 54 z zn (B6/\Ui m c p/\KO (aA [YB,(5,5)] []) (mn cs cc)/\Q YO B2 [Oq m c p,(5,mn cs cc)] 6 z zn))):ew prog gH z Uj 54 (qP i) z [(0,eE (aX 5 m c) p),(5,dR cs cc)] 6 zn 5 Q:=K1t hyp ((tA 4 (tO (An.val (ZV ((↑i:Int) - 1))) (tA 1 (tO (An.val (ZV (((↑i:Int) - 1).tdiv 2))) (tA 1 (Tr.cm (Cm.mk [Yi,IV i,ZV (((↑i:Int) - 1).tdiv 2)] (gx m c p cs cc) 2 2 [YB,(1,5)] [YB,(5,1)] 6) Unit Yx (fun(x:Unit)=>Value.bool (bf (↑i:Int) (((↑i:Int) - 1).tdiv 2))) (qZ m c p cs cc) (fun(x:Unit)=>Value.bool (bf (↑i:Int) (((↑i:Int) - 1).tdiv 2))) (fun(x:Unit)=>[Oq m c p,(5,mn cs cc)]) (fZ z) (fY zn) fun(x:Unit)=>tA 1 ((tO (An.val (ZV ((↑i:Int) - 1))) (tO (An.val (ZV (((↑i:Int) - 1).tdiv 2))) (Tr.cm (Cm.mk [Yi,IV i,ZV (((↑i:Int) - 1).tdiv 2)] (gx m c p cs cc) 2 2 [YB,(1,5)] [YB,(5,1)] 6) Unit Yx mz (fun(x:Unit)=>[BG m c p,(1,dR (sw (↑i:Int) (((↑i:Int) - 1).tdiv 2)) cc)]) mz (fun(x:Unit)=>[Oq m c p,(5,BR (sw (↑i:Int) (((↑i:Int) - 1).tdiv 2)) cc 4 213)]) (fZ z) (fY zn) fun(x:Unit)=>tO (An.val (ZV ((↑i:Int) - 1))) (tO (An.val (ZV (((↑i:Int) - 1).tdiv 2))) (tE [YB,(5,5)] [] [(0,Yi),(4,ZV (((↑i:Int) - 1).tdiv 2))] [Oq m c p,(5,BR (sw (↑i:Int) (((↑i:Int) - 1).tdiv 2)) cc 4 213)] 6 z zn))))).fork (tE [YB,(5,5)] [] B2 [Oq m c p,(5,mn cs cc)] 6 z zn)))))))).fork (tA 8 (tE [YB,(5,5)] [] B2 [Oq m c p,(5,mn cs cc)] 6
 z zn)))
noncomputable abbrev YFO(p:Int)(z:T aa)(zn:Nat):List b8->ax:=fun(ms:List b8)=>ax.mk YO [(0,Y8)] [(0,eE (aX 4 1 1) (p+1)),(4,dR (aF ms) 4)] (4+1) z zn
abbrev jW:T aa:=T.leaf
noncomputable abbrev Vh:List b8->Tr:=fun(x:List b8)=>tE [] [] [] [] 0 jW 0
abbrev xK(p:Int):Value:=ZV (p+1)
abbrev QP(x:cL)(p:Int):List Value:=[ZV x.node,ZV x.len,ZV x.gm,ZV p]
theorem Xl(z:T aa)(zn:Nat)(x:cL)(p:Int)(φ:List b8->Prop)(Q:QF)(hyp:WQ1 (p+1)/\Rf 4/\ai prog Uj 4 54 (qP 0) [(0,eE (aX 4 1 1) (p+1)),(4,dR (b8.mk x p).row 4)] (4+1) z zn (Al.cons (List b8) φ (YFO p z zn) Vh Al.nil).R/\E6 54 z zn (R2 Yi YM (Rs (BQ [kL,SL 3 1 1,xK p] 3 1 211)/\Rs (BR (QP x p) 4 4 213)/\ ∀(x:List b8),φ x->E6 54 z zn (Rs (BQ [kL,SL 4 1 1,xK p] 3 1 211)/\KO (aA [YB,(1,4)] []) (BR (aF x) 4 4 213)/\mA/\Q nX [(0,BQ [kL,SL 1 1 1,xK p] 3 1 211),(1,BR (aF x) 4 4 213)] 2 z zn)))):ed prog gH z f126 [Y8,AG x.row] z [(0,eE az p)] 1 zn Q:=K1t hyp (tA 8 (tO (An.val (xK p)) (tA 3 (Tr.lp 4 54 [YB,(4,3)] [] (qP 0) [(0,eE (aX 4 1 1) (p+1)),(4,dR (b8.mk x p).row 4)] (4+1) z zn (Al.cons (List b8) φ (YFO p z zn) (fun(x:List b8)=>tR [YB,(1,4)] [] nX [(0,BQ [kL,SL 1 1 1,xK p] 3 1 211),(1,BR (aF x) 4 4 213)] 2 z zn) Al.nil)))))
abbrev vV(x:List b8)(cc:Nat):aa:=BR (aF x) cc 4 213
theorem Xk(z:T aa)(zn n c cc:Nat)(x:cL)(p:Int)(cs cs1:List Value)(φ:List b8->Prop)(Q:QF)(hyp:Rs (QP x p)/\n+1<=c/\overwrite cs (0+n*4) (QP x p)=some cs1/\cs1.length<=cc/\WQ1 (p+1)/\WQ1 ((↑(n+1):Int) - 1)/\Rf 4/\ai prog Uj 4 54 (qP n) [(0,eE (aX 4 (n+1) c) (p+1)),(4,dR cs1 cc)] (4+1) z zn (Al.cons (List b8) φ (fun(ms:List b8)=>ax.mk YO [(0,Y8)] [(0,eE (aX 4 (n+1) c) (p+1)),(4,dR (aF ms) cc)] (4+1) z zn) Vh Al.nil).R/\E6 54 z zn (B6/\some (IV n)=some (ZV ((↑(n+1):Int) - 1))/\Rs (BQ [kL,SL 1 (n+1) c,xK p] 3 1 211)/\KO (aA [YB,(4,1)] []) (mn cs1 cc)/\ ∀(x:List b8),φ x->E6 54 z zn (Rs (BQ [kL,SL 4 (n+1) c,xK p] 3 1 211)/\KO (aA [YB,(2,4)] []) (vV x cc)/\mA/\Q nX [(0,BQ [kL,SL 2 (n+1) c,xK p] 3 1 211),(2,vV x cc)] 3 z zn))):ed prog gH z f126 [Y8,AG x.row] z (Kf n c p cs cc) 2 zn Q:=K1t hyp (tA 5 (tX (my.app 1 (QP x p) cs1) (tA 2 (tO (An.val (xK p)) (tA 2 (tO (An.val (ZV ((↑(n+1):Int) - 1))) (Tr.lp 4 54 [YB,(4,1)] [] (qP n) [(0,eE (aX 4 (n+1) c) (p+1)),(4,dR cs1 cc)] (4+1) z zn (Al.cons (List b8) φ (fun(ms:List b8)=>ax.mk YO [(0,Y8)] [(0,eE (aX 4 (n+1) c) (p+1)),(4,dR (aF ms) cc)] (4+1) z zn) (fun(x:List b8)=>tR [YB,(2,4)] [] nX [(0,BQ [kL,SL 2 (n+1) c,xK p] 3 1 211),(2,vV x cc)] 3 z zn) Al.nil))))))))
noncomputable abbrev YFU(n:Nat)(p:Int)(z:T aa)(zn:Nat):List b8->ax:=fun(ms:List b8)=>ax.mk YO [(0,Y8)] [(0,eE (aX 5 (n+1) (n+1)) (p+1)),(5,dR (aF ms) ((n+1)*4))] (5+1) z zn
theorem Xj(z:T aa)(zn n cc:Nat)(x:cL)(p:Int)(cs:List Value)(φ:List b8->Prop)(Q:QF)(hyp:Rs (QP x p)/\Rf n/\cs.length=n*4/\cc=n*4/\n+1<=1048576/\WQ1 (p+1)/\WQ1 ((↑(n+1):Int) - 1)/\Rf 5/\ai prog Uj 5 54 (qP n) [(0,eE (aX 5 (n+1) (n+1)) (p+1)),(5,dR (cs++(b8.mk x p).row) ((n+1)*4))] (5+1) z zn (Al.cons (List b8) φ (YFU n p z zn) Vh Al.nil).R/\E6 54 z zn (B6/\some (IV n)=some (ZV ((↑(n+1):Int) - 1))/\Rs (BQ [kL,SL 4 (n+1) (n+1),xK p] 3 1 211)/\KO (aA [YB,(5,4)] []) (BR (cs++QP x p) ((n+1)*4) 4 213)/\ ∀(x:List b8),φ x->E6 54 z zn (Rs (BQ [kL,SL 5 (n+1) (n+1),xK p] 3 1 211)/\KO (aA [YB,(2,5)] []) (BR (aF x) ((n+1)*4) 4 213)/\mA/\Q nX [(0,BQ [kL,SL 2 (n+1) (n+1),xK p] 3 1 211),(2,BR (aF x) ((n+1)*4) 4 213)] 3 z zn))):ed prog gH z f126 [Y8,AG x.row] z [(0,eE (aX 1 n n) p),(1,dR cs cc)] 2 zn Q:=K1t hyp (tA 5 (tX (my.grow 1 (QP x p)) (tA 2 (tO (An.val (xK p)) (tA 2 (tO (An.val (ZV ((↑(n+1):Int) - 1))) (Tr.lp 5 54 [YB,(5,4)] [] (qP n) [(0,eE (aX 5 (n+1) (n+1)) (p+1)),(5,dR (cs++(b8.mk x p).row) ((n+1)*4))] (5+1) z zn (Al.cons (List b8) φ (YFU n p z zn) (fun(x:List b8)=>tR [YB,(2,5)] [] nX [(0,BQ [kL,SL 2 (n+1) (n+1),xK p] 3 1 211),(2,BR (aF x) ((n+1)*4) 4 213)] 3 z zn) Al.nil))))))))
theorem hlen(z:T aa)(zn n c cc:Nat)(p:Int)(cs:List Value)(Q:QF)(hyp:E6 10 z zn (j0 n c p/\EB cs cc/\Rs (IV n)/\Q (IV n) (gx n c p cs cc) 2 z zn)):ed prog gH z f138 [Y8] z (Kf n c p cs cc) 2 zn Q:=K1t hyp (tA 3 (tR dq [] (IV n) (gx n c p cs cc) 2 z zn))
abbrev zh(cs:List Value)(cc:Nat):Prop:=KO (sig dq) (mn cs cc)
abbrev Np:Value:=TP [Yv,F0]
abbrev KE(a:cL):Value:=TP [AG [ZV a.node,ZV a.len,ZV a.gm],T1]
theorem hpk(z:T aa)(zn n c cc:Nat)(p:Int)(a:cL)(cs:List Value)(Q:QF)(hyp:aT prog z zn 138 [Yi] (gx n c p cs cc) 2 2 Yx (Sd n) (qZ n c p cs cc)/\Rs [Yi]/\j0 n c p/\zh cs cc/\ ∀(x:Unit),True->Rs (IV n)/\j0 n c p/\zh cs cc/\Br ((↑n:Int)==0) (E6 16 z zn (j0 n c p/\EB cs cc/\Rs Np/\Q Np (gx n c p cs cc) 2 z zn)) (Int.ofNat 0=0/\0<n/\aE prog (ba.mk cs cc 4 213 false false 0 true) 196 0=some (AG [ZV a.node,ZV a.len,ZV a.gm])/\E6 16 z zn (j0 n c p/\EB cs cc/\Rs (KE a)/\Q (KE a) (gx n c p cs cc) 2 z zn))):ed prog gH z f135 [Y8] z (Kf n c p cs cc) 2 zn Q:=K1t hyp (Tr.cm (Cm.mk [Yi] (gx n c p cs cc) 2 2 dq dq 4) Unit Yx (Sd n) (qZ n c p cs cc) (fun(x:Unit)=>IV n) (qZ n c p cs cc) (fZ z) (fY zn) fun(x:Unit)=>(tA 3 (tR dq [] Np (gx n c p cs cc) 2 z zn)).fork (tA 2 (tO (An.idx 0) (tO (An.D1 (AG a.row)) (tA 1 (tR dq [] (KE a) (gx n c p cs cc) 2 z zn))))))
abbrev Dg(i:Nat):Value:=ZV (2*(↑i:Int)+1+1)
abbrev vE(i:Nat):Value:=ZV (2*(↑i:Int)+1)
abbrev X3(bf:Int->Int->Bool)(i:Nat):Unit->Value:=fun(x:Unit)=>Value.bool (bf (2*(↑i:Int)+1+1) (2*(↑i:Int)+1))
abbrev XZ(bf:Int->Int->Bool)(i:Nat):Unit->Value:=fun(x:Unit)=>Value.bool (bf (2*(↑i:Int)+1+1) (↑i:Int))
abbrev Uh(sw:Int->Int->List Value)(i cc:Nat):aa:=BR (sw (↑i:Int) (2*(↑i:Int)+1+1)) cc 4 213
abbrev RB(bf:Int->Int->Bool)(i:Nat):Unit->Value:=fun(x:Unit)=>Value.bool (bf (2*(↑i:Int)+1) (↑i:Int))
abbrev Vg(n c:Nat)(p:Int)(sw:Int->Int->List Value)(i cc:Nat):Unit->List (Nat × aa):=fun(x:Unit)=>[BG n c p,(1,dR (sw (↑i:Int) (2*(↑i:Int)+1)) cc)]
abbrev RA(n c:Nat)(p:Int)(sw:Int->Int->List Value)(i cc:Nat):List (Nat × aa):=[BG n c p,(1,BR (sw (↑i:Int) (2*(↑i:Int)+1)) cc 4 213)]
theorem Xi(z:T aa)(zn i n c cc:Nat)(p:Int)(bf:Int->Int->Bool)(sw:Int->Int->List Value)(cs:List Value)(Q:QL)(hyp:WQ1 (2*(↑i:Int))/\WQ1 (2*(↑i:Int)+1)/\Br (decide (2*(↑i:Int)+1>=(↑n:Int))) (E6 41 z zn (B6/\j0 n c p/\EB cs cc/\Q af.ret B2 (gx n c p cs cc) 2 z zn)) (WQ1 (2*(↑i:Int)+1+1)/\Br (decide (2*(↑i:Int)+1+1<(↑n:Int))) (WQ1 (2*(↑i:Int)+1+1)/\aT prog z zn 133 [Yi,Dg i,vE i] (gx n c p cs cc) 2 2 Yx (X3 bf i) (qZ n c p cs cc)/\Rs [Yi,Dg i,vE i]/\j0 n c p/\zh cs cc/\ ∀(x:Unit),True->Rs (Value.bool (bf (2*(↑i:Int)+1+1) (2*(↑i:Int)+1)))/\j0 n c p/\zh cs cc/\Br (bf (2*(↑i:Int)+1+1) (2*(↑i:Int)+1)) (WQ1 (2*(↑i:Int)+1+1)/\aT prog z zn 133 [Yi,Dg i,IV i] (gx n c p cs cc) 2 2 Yx (XZ bf i) (qZ n c p cs cc)/\Rs [Yi,Dg i,IV i]/\j0 n c p/\zh cs cc/\ ∀(x:Unit),True->Rs (Value.bool (bf (2*(↑i:Int)+1+1) (↑i:Int)))/\j0 n c p/\zh cs cc/\Br (!bf (2*(↑i:Int)+1+1) (↑i:Int)) (E6 41 z zn (B6/\j0 n c p/\EB cs cc/\Q af.ret B2 (gx n c p cs cc) 2 z zn)) ((aT prog z zn 134 [Yi,IV i,Dg i] (gx n c p cs cc) 2 2 Yx mz fun(x:Unit)=>[BG n c p,(1,dR (sw (↑i:Int) (2*(↑i:Int)+1+1)) cc)])/\Rs [Yi,IV i,Dg i]/\j0 n c p/\zh cs cc/\ ∀(x:Unit),True->mA/\j0 n c p/\KO (sig dq) (Uh sw i cc)/\E6 41 z zn (R2 Yi (Dg i) (j0 n c p/\KO nS (Uh sw i cc)/\Q aN [(0,Yi),(2,Dg i)] [BG n c p,(1,Uh sw i cc)] 2 z zn)))) (aT prog z zn 133 [Yi,vE i,IV i] (gx n c p cs cc) 2 2 Yx (RB bf i) (qZ n c p cs cc)/\Rs [Yi,vE i,IV i]/\j0 n c p/\zh cs cc/\ ∀(x:Unit),True->Rs (Value.bool (bf (2*(↑i:Int)+1) (↑i:Int)))/\j0 n c p/\zh cs cc/\Br (!bf (2*(↑i:Int)+1) (↑i:Int)) (E6 41 z zn (B6/\j0 n c p/\EB cs cc/\Q af.ret B2 (gx n c p cs cc) 2 z zn)) (aT prog z zn 134 [Yi,IV i,vE i] (gx n c p cs cc) 2 2 Yx mz (Vg n c p sw i cc)/\Rs [Yi,IV i,vE i]/\j0 n c p/\zh cs cc/\ ∀(x:Unit),True->mA/\j0 n c p/\KO (sig dq) (BR (sw (↑i:Int) (2*(↑i:Int)+1)) cc 4 213)/\E6 41 z zn (R2 Yi (vE i) (j0 n c p/\KO nS (BR (sw (↑i:Int) (2*(↑i:Int)+1)) cc 4 213)/\Q aN [(0,Yi),(2,vE i)] (RA n c p sw i cc) 2 z zn))))) (aT prog z zn 133 [Yi,vE i,IV i] (gx n c p cs cc) 2 2 Yx (RB bf i) (qZ n c p cs cc)/\Rs [Yi,vE i,IV i]/\j0 n c p/\zh cs cc/\ ∀(x:Unit),True->Rs (Value.bool (bf (2*(↑i:Int)+1) (↑i:Int)))/\j0 n c p/\zh cs cc/\Br (!bf (2*(↑i:Int)+1) (↑i:Int)) (E6 41 z zn (B6/\j0 n c p/\EB cs cc/\Q af.ret B2 (gx n c p cs cc) 2 z zn)) (aT prog z zn 134 [Yi,IV i,vE i] (gx n c p cs cc) 2 2 Yx mz (Vg n c p sw i cc)/\Rs [Yi,IV i,vE i]/\j0 n c p/\zh cs cc/\ ∀(x:Unit),True->mA/\j0 n c p/\KO (sig dq) (BR (sw (↑i:Int) (2*(↑i:Int)+1)) cc 4 213)/\E6 41 z zn (R2 Yi (vE i) (j0 n c p/\KO nS (BR (sw (↑i:Int) (2*(↑i:Int)+1)) cc 4 213)/\Q aN [(0,Yi),(2,vE i)] (RA n c p sw i cc) 2 z zn)))))):ew prog gH z (ah (ag f136) 0) 41 (Av i) z (Kf n c p cs cc) 2 zn 2 Q:=K1t hyp (tO (An.val
 (ZV (2*(↑i:Int)))) (tO (An.val (vE i)) (tA 1 ((tA 1 (tE dq [] B2 (gx n c p cs cc) 2 z zn)).fork (tA 1 (tO (An.val (Dg i)) (tA 1 ((tA 3 (tO (An.val (Dg i)) (tA 2 (Tr.cm (Cm.mk [Yi,Dg i,vE i] (gx n c p cs cc) 2 2 dq dq 2) Unit Yx (X3 bf i) (qZ n c p cs cc) (X3 bf i) (qZ n c p cs cc) (fZ z) (fY zn) fun(x:Unit)=>tA 1 ((tO (An.val (Dg i)) (Tr.cm (Cm.mk [Yi,Dg i,IV i] (gx n c p cs cc) 2 2 dq dq 2) Unit Yx (XZ bf i) (qZ n c p cs cc) (XZ bf i) (qZ n c p cs cc) (fZ z) (fY zn) fun(x:Unit)=>(tE dq [] B2 (gx n c p cs cc) 2 z zn).fork (Tr.cm (Cm.mk [Yi,IV i,Dg i] (gx n c p cs cc) 2 2 dq dq 2) Unit Yx mz (fun(x:Unit)=>[BG n c p,(1,dR (sw (↑i:Int) (2*(↑i:Int)+1+1)) cc)]) mz (fun(x:Unit)=>[BG n c p,(1,Uh sw i cc)]) (fZ z) (fY zn) fun(x:Unit)=>tE dq [] [(0,Yi),(2,Dg i)] [BG n c p,(1,Uh sw i cc)] 2 z zn))).fork (Tr.cm (Cm.mk [Yi,vE i,IV i] (gx n c p cs cc) 2 2 dq dq 2) Unit Yx (RB bf i) (qZ n c p cs cc) (RB bf i) (qZ n c p cs cc) (fZ z) (fY zn) fun(x:Unit)=>(tE dq [] B2 (gx n c p cs cc) 2 z zn).fork (Tr.cm (Cm.mk [Yi,IV i,vE i] (gx n c p cs cc) 2 2 dq dq 2) Unit Yx mz (Vg n c p sw i cc) mz (fun(x:Unit)=>RA n c p sw i cc) (fZ z) (fY zn) fun(x:Unit)=>tE dq [] [(0,Yi),(2,vE i)] (RA n c p sw i cc) 2 z zn))))))).fork (tA 7 (Tr.cm (Cm.mk [Yi,vE i,IV i] (gx n c p cs cc) 2 2 dq dq 2) Unit Yx (RB bf i) (qZ n c p cs cc) (RB bf i) (qZ n c p cs cc) (fZ z) (fY zn) fun(x:Unit)=>(tE dq [] B2 (gx n c p cs cc) 2 z zn).fork (Tr.cm (Cm.mk [Yi,IV i,vE i] (gx n c p cs cc) 2 2 dq dq 2) Unit Yx mz (Vg n c p sw i cc) mz (fun(x:Unit)=>RA n c p sw i cc) (fZ z) (fY zn) fun(x:Unit)=>tE dq [] [(0,Yi),(2,vE i)] (RA n c p sw i cc) 2 z zn)))))))))))
theorem TE(z:T aa)(zn n c cc:Nat)(p:Int)(cs:List Value)(φ:List b8->Prop)(Q:QF)(hyp:sZ/\ai prog (ah (ag f136) 0) 2 41 (Av 0) (Kf n c p cs cc) 2 z zn (Al.cons (List b8) φ (fun(ms:List b8)=>ax.mk af.ret [(0,Y8)] [(0,eE (aX 1 n c) p),(1,dR (aF ms) cc)] 2 z zn) Vh Al.nil).R/\E6 41 z zn (R2 Yi YM (j0 n c p/\EB cs cc/\ ∀(x:List b8),φ x->E6 41 z zn (j0 n c p/\KO nS (vV x cc)/\mA/\Q nX [BG n c p,(1,vV x cc)] 2 z zn)))):ed prog gH z f136 [Y8] z (Kf n c p cs cc) 2 zn Q:=K1t hyp (Tr.lp 2 41 dq [] (Av 0) (Kf n c p cs cc) 2 z zn (Al.cons (List b8) φ (fun(ms:List b8)=>ax.mk af.ret [(0,Y8)] [(0,eE (aX 1 n c) p),(1,dR (aF ms) cc)] 2 z zn) (fun(x:List b8)=>tR dq [] nX [BG n c p,(1,vV x cc)] 2 z zn) Al.nil))
abbrev QO(n c:Nat)(p:Int):Nat × aa:=(0,BQ [kL,SL 1 (n - 1 - 0) (c - 0),ZV p] 3 1 211)
abbrev Rz:List b8->Value:=fun(x:List b8)=>nX
abbrev XY(n c:Nat)(p:Int):Prop:=Rs (BQ [kL,SL 1 (n - 1 - 0) (c - 0),ZV p] 3 1 211)
theorem IX(z:T aa)(zn n c cc:Nat)(p:Int)(a:cL)(sw:Int->Int->List Value)(cs:List Value)(φ:List b8->Prop)(Q:QF)(hyp:aT prog z zn 135 [Yi] (gx n c p cs cc) 2 2 Yx (fun(x:Unit)=>TP [AG a.row,T1]) (qZ n c p cs cc)/\Rs [Yi]/\j0 n c p/\zh cs cc/\ ∀(x:Unit),True->Rs (KE a)/\j0 n c p/\zh cs cc/\WQ1 ((↑n:Int) - 1)/\(aT prog z zn 134 [Yi,YM,ZV ((↑n:Int) - 1)] (gx n c p cs cc) 2 2 Yx mz fun(x:Unit)=>[BG n c p,(1,dR (sw 0 ((↑n:Int) - 1)) cc)])/\Rs [Yi,YM,ZV ((↑n:Int) - 1)]/\j0 n c p/\zh cs cc/\ ∀(x:Unit),True->mA/\j0 n c p/\KO (sig dq) (BR (sw 0 ((↑n:Int) - 1)) cc 4 213)/\r9/\(↑n:Int) - 1=(↑(n - 1):Int)/\0<=n - 1/\n - 1<=c/\0<c/\(aT prog z zn 136 [Yi] [QO n c p,(1,BR (sw 0 ((↑n:Int) - 1)) cc 4 213)] 2 2 φ Rz fun(ms:List b8)=>[QO n c p,(1,dR (aF ms) cc)])/\Rs [Yi]/\XY n c p/\KO (sig dq) (BR (sw 0 ((↑n:Int) - 1)) cc 4 213)/\ ∀(x:List b8),φ x->mA/\XY n c p/\KO (sig dq) (vV x cc)/\E6 36 z zn (XY n c p/\KO nS (vV x cc)/\Rs (KE a)/\Q (KE a) [QO n c p,(1,vV x cc)] 2 z zn)):ed prog gH z f127 [Y8] z (Kf n c p cs cc) 2 zn Q:=K1t hyp (Tr.cm (Cm.mk [Yi] (gx n c p cs cc) 2 2 dq dq 3) Unit Yx (fun(x:Unit)=>TP [AG a.row,T1]) (qZ n c p cs cc) (fun(x:Unit)=>KE a) (qZ n c p cs cc) (fZ z) (fY zn) fun(x:Unit)=>tA 3 (tO (An.val (ZV ((↑n:Int) - 1))) (Tr.cm (Cm.mk [Yi,YM,ZV ((↑n:Int) - 1)] (gx n c p cs cc) 2 2 dq dq 4) Unit Yx mz (fun(x:Unit)=>[BG n c p,(1,dR (sw 0 ((↑n:Int) - 1)) cc)]) mz (fun(x:Unit)=>[BG n c p,(1,BR (sw 0 ((↑n:Int) - 1)) cc 4 213)]) (fZ z) (fY zn) fun(x:Unit)=>tA 1 (tX (my.Wf 0 (n - 1)) (tA 1 (Tr.cm (Cm.mk [Yi] [QO n c p,(1,BR (sw 0 ((↑n:Int) - 1)) cc 4 213)] 2 2 dq dq 4) (List b8) φ Rz (fun(ms:List b8)=>[QO n c p,(1,dR (aF ms) cc)]) Rz (fun(x:List b8)=>[QO n c p,(1,vV x cc)]) (fun(x:List b8)=>z) (fun(x:List b8)=>zn) fun(x:List b8)=>tA 2 (tR dq [] (KE a) [QO n c p,(1,vV x cc)] 2 z zn)))))))
abbrev YFj:Unit->Value:=fun(x:Unit)=>TP [AG (cL.mk 0 0 0).row,F0]
abbrev Vf:Unit->Value:=fun(x:Unit)=>Np
theorem TF(z:T aa)(zn n c cc:Nat)(p:Int)(cs:List Value)(φ:List b8->Prop)(Q:QF)(hyp:aT prog z zn 135 [Yi] (gx n c p cs cc) 2 2 Yx YFj (qZ n c p cs cc)/\Rs [Yi]/\j0 n c p/\zh cs cc/\ ∀(x:Unit),True->Rs Np/\j0 n c p/\zh cs cc/\E6 36 z zn (j0 n c p/\EB cs cc/\Rs Np/\Q Np (gx n c p cs cc) 2 z zn)):ed prog gH z f127 [Y8] z (Kf n c p cs cc) 2 zn Q:=K1t hyp (Tr.cm (Cm.mk [Yi] (gx n c p cs cc) 2 2 dq dq 3) Unit Yx YFj (qZ n c p cs cc) Vf (qZ n c p cs cc) (fZ z) (fY zn) fun(x:Unit)=>tA 4 (tR dq [] Np (gx n c p cs cc) 2 z zn))
end
end Go.Proofs.Nw
namespace Go.Proofs.Nw
open Go Go.AV Tryz
set_option maxHeartbeats 4000000
set_option maxRecDepth 100000
theorem oG{b c:Nat->Option Int}: ∀(m i:Nat),(∀j,i<=j->j<i+m->b j=c j)->scan b m i=scan c m i
 |0,_,_=>rfl
 |m+1,i,h=>by
  simp only[scan]
  rw[h i (Nat.le_refl _) (by omega),oG m (i+1) fun j h1 h2=>h j (by omega) (by omega)]
theorem Es{b:Nat->Option Int}(h: ∀i,b i≠some 0)(i:Nat):qj (fun i=>(b i).getD 0) i=b i:=by
 unfold qj
 cases hb:b i with
 |none=>simp[hb]
 |some e=>
  have:e≠0:=fun h0=>h i (by rw[hb,h0])
  simp[hb,this]
theorem qU(ns nr:Nat)(l:List RunT)(i:Nat):dm ns nr l i≠some 0:=by
 unfold dm
 cases l[i]? with
 |none=>simp
 |some x=>
  simp only
  (repeat' split)<;>first|(simp;done)|(intro h;simp_all;done)
theorem J5(U:List RunT)(L:List aH)(i:Nat):fw U L i≠some 0:=by
 unfold fw
 cases L[i]? with
 |none=>simp
 |some x=>
  simp only
  split
  ·simp
  ·rename_i h;intro e;exact h (by simpa using e)
theorem Pe(ns nr:Nat)(l:List RunT):cG ns nr l=if 1024<l.length then (0,5) else scan (qj fun i=>(dm ns nr l i).getD 0) l.length 0:=by
 unfold cG
 split
 ·rfl
 ·exact oG _ _ fun j _ _=>(Es (qU ns nr l) j).symm
theorem Ms(U:List RunT)(L:List aH):bL U L=if 1024<L.length then (0,5) else scan (qj fun i=>(fw U L i).getD 0) L.length 0:=by
 unfold bL
 split
 ·rfl
 ·exact oG _ _ fun j _ _=>(Es (J5 U L) j).symm
theorem im{b:Nat->Option Int}(hb: ∀i,b i≠some 0): ∀(m i:Nat),(scan b m i).2=0-> ∀j,i<=j->j<i+m->b j=none
 |0,i,_,j,h1,h2=>by omega
 |m+1,i,h,j,h1,h2=>by
  simp only[scan] at h
  cases hc:b i with
  |some e=>
   rw[hc] at h
   exact(hb i (by rw[hc];exact congrArg some h)).elim
  |none=>
   rw[hc] at h
   by_cases e:j=i
   ·subst e;exact hc
   ·exact im hb m (i+1) h j (by omega) (by omega)
theorem wj{ns nr:Nat}{l:List RunT}(h:(cG ns nr l).2=0):nj l:=by
 unfold cG at h
 split at h
 ·cases h
 rename_i hl
 refine⟨by omega,fun r hr=>?_⟩
 obtain⟨i,hi⟩:=List.mem_iff_getElem?.1 hr
 have hlt:=(List.getElem?_eq_some_iff.1 hi).1
 have:=im (qU ns nr l) _ _ h i (Nat.zero_le _) (by omega)
 unfold dm at this
 rw[hi] at this
 simp only at this
 by_cases hc:r.calls.length<2\/32<r.calls.length
 ·have he:(bH r.calls ns 0 3155932800).2=5:=by unfold bH;rw[if_pos hc]
  have hr5:Ci ns r=5:=he
  rw[hr5] at this
  (repeat' split at this)<;>simp_all
 ·omega
section
variable{z:T aa}{zn:Nat}
theorem JF(hz:ay z zn)(hg:fB prog z gP)(N:aM)(L:List aH)(hN:N.nl=L.length)(hL:cf z 0 (L.map aH.row))(i:Nat)(x:aH)(hx:L[i]? =some x):
 A1 z zn 70 [.agg ⟨N.eA az N.l1⟩,iv i] [] 0 0 (zv (iM [] L i x)) []:=by
 have hi:i<L.length:=(List.getElem?_eq_some_iff.1 hx).1
 obtain⟨el,hel⟩:=hL.aw (i:=i) (by simp;omega)
 have hlen:=aQ (row:=aH.row) (sz:=5) L fun _=>rfl
 have hrow:aE prog (bq el (L.map aH.row).flatten) 123 (0+i*5)=some (.agg ⟨x.row⟩):=bG (r:=x.row) (sz:=5) underlying123 rfl rfl hlen (by rw[List.getElem?_map,hx];rfl)
 have he:iM [] L i x=9:=by unfold iM;rw[if_pos (by simp;omega)]
 have hin:gP 82 [zv x.fz1, .int .i64 0, .int .i64 (-1)]=some (.bool false):=by
  show some (Value.bool (decide (0<=x.fz1) && decide (x.fz1<= -1)))=_
  have:(decide (0<=x.fz1) && decide (x.fz1<= -1))=false:=by simp;omega
  rw[this]
 rw[he]
 refine cW hg (fn:=f70) (by kernel_rfl) (by kernel_rfl) hz ⟨by decide,by decide⟩ rfl (XG z zn i N (bq el (L.map aH.row).flatten) x _ ?_)
 (repeat' first|(with_reducible first|exact rfl|assumption|apply And.intro|exact(by omega:i<N.nl))|exact hin|exact q1)
end
end Go.Proofs.Nw
namespace Go.Proofs.Nw
open Go Go.AV Tryz Go.jo
theorem rF{P:Program}{k k':ba}(h:k.cells=k'.cells)(t:TypeId)(off:Nat):aE P k t off=aE P k' t off:=by
 unfold aE;rw[h]
theorem iq{P:Program}{k:ba}{rows:List (List Value)}(hk:k.cells=rows.flatten){t:TypeId}{d:TypeDesc}{sz:Nat}(hd:P.underlying t=some d)(ha:lL d=true)(hi:(P.info? t).map (·.size)=some sz)(hl: ∀r∈rows,r.length=sz)
 {i:Nat} {r:List Value} (h:rows[i]? =some r):aE P k t (0+i*sz)=some (.agg ⟨r⟩):=by
 rw[rF (k':=bq 0 rows.flatten) hk];exact bG hd ha hi hl h
theorem Cl{P:Program}{k:ba}{rows:List (List Value)}(hk:k.cells=rows.flatten){t:TypeId}{d:TypeDesc}{sz:Nat}(hd:P.underlying t=some d)(ha:lL d=false)(hl: ∀r∈rows,r.length=sz)
 {i j:Nat} {r:List Value} {v:Value} (h:rows[i]? =some r) (hj:r[j]? =some v):aE P k t (0+i*sz+j)=some v:=by
 rw[rF (k':=bq 0 rows.flatten) hk];exact bc hd ha hl h hj
theorem ju{P:Program}{k:ba}{t:TypeId}{d:TypeDesc}(hd:P.underlying t=some d)(ha:lL d=false){i:Nat}{v:Value}(h:k.cells[i]? =some v):aE P k t (0+i*1)=some v:=by
 unfold aE
 simp only[hd,ha]
 rw[qM,Nat.zero_add,Nat.mul_one,h]
theorem kS{sz:Nat}: ∀{rows:List (List Value)},(∀r∈rows,r.length=sz)->rows.flatten.length=rows.length*sz
 |[],_=>by simp
 |r::l,h=>by
  rw[List.flatten_cons,List.length_append,kS (rows:=l) fun x hx=>h x (List.mem_cons_of_mem _ hx),h r (List.mem_cons_self ..),List.length_cons,Nat.succ_mul];omega
theorem ud: ∀(a:List Value) {b c vs:List Value} {n:Nat},overwrite b n vs=some c->overwrite (a++b) (a.length+n) vs=some (a++c)
 |[],b,c,vs,n,h=>by simpa using h
 |x::a,b,c,vs,n,h=>by
  have:=ud a h
  have e:(x::a).length+n=(a.length+n)+1:=by simp;omega
  rw[e,List.cons_append]
  cases vs with
  |nil=>simp only[overwrite,this];rfl
  |cons v vs=>simp only[overwrite,this];rfl
theorem qK: ∀(r r' b:List Value),r.length=r'.length->overwrite (r++b) 0 r'=some (r'++b)
 |[],[],b,_=>by cases b<;>rfl
 |x::r,y::r',b,h=>by
  simp only[List.cons_append,overwrite]
  rw[qK r r' b (by simpa using h)]
theorem ub{sz:Nat}{rows:List (List Value)}(hl: ∀r∈rows,r.length=sz){i:Nat}(hi:i<rows.length){r':List Value}(hr:r'.length=sz):overwrite rows.flatten (0+i*sz) r'=some (rows.set i r').flatten:=by
 have e1:rows=rows.take i++rows[i]::rows.drop (i+1):=by
  rw[List.getElem_cons_drop,List.take_append_drop]
 have e2:rows.set i r'=rows.take i++r'::rows.drop (i+1):=List.set_eq_take_append_cons_drop.trans (by rw[if_pos hi])
 have hlen:(rows.take i).flatten.length=i*sz:=by
  rw[kS (fun r hr=>hl r (List.mem_of_mem_take hr)),List.length_take,Nat.min_eq_left (by omega)]
 rw[e2]
 conv=>lhs;rw[e1]
 rw[List.flatten_append,List.flatten_append,List.flatten_cons,List.flatten_cons,Nat.zero_add,←hlen]
 exact ud _ (qK _ _ _ (by rw[hl _ (List.getElem_mem hi),hr]))
theorem pI{cs:List Value}{i:Nat}(hi:i<cs.length)(v:Value):overwrite cs (0+i*1) [v]=some (cs.set i v):=by
 have e1:cs=cs.take i++cs[i]::cs.drop (i+1):=by
  rw[List.getElem_cons_drop,List.take_append_drop]
 have e2:cs.set i v=cs.take i++v::cs.drop (i+1):=List.set_eq_take_append_cons_drop.trans (by rw[if_pos hi])
 rw[e2]
 conv=>lhs;rw[e1]
 have hlen:(cs.take i).length=i:=by rw[List.length_take,Nat.min_eq_left (by omega)]
 have:=ud (cs.take i) (qK [cs[i]] [v] (cs.drop (i+1)) rfl)
 rw[hlen] at this
 rw[Nat.zero_add,Nat.mul_one]
 exact this
theorem lI{α:Type}(row:α->List Value)(l:List α)(i:Nat)(x:α):(l.map row).set i (row x)=(l.set i x).map row:=by
 rw[List.map_set]
theorem cU: ∀{l:List Value},bE l=true↔ ∀v∈l,au v=true
 |[]=>by simp[bE]
 |v::l=>by
  simp only[bE]
  cases hv:au v with
  |false=>simp[hv]
  |true=>simp[hv,cU (l:=l)]
theorem lG{α:Type}{row:α->List Value}(h: ∀x,bE (row x)=true)(l:List α):bE (l.map row).flatten=true:=by
 rw[cU]
 intro v hv
 obtain⟨r,hr,hv⟩:=List.mem_flatten.1 hv
 obtain⟨x,_,rfl⟩:=List.mem_map.1 hr
 exact cU.1 (h x) v hv
theorem cR{σ:Nat->Option Nat}{k:ba}(h:bE k.cells=true):aI σ (.aw k)=some (.aw k):=by
 simp only[aI,fE h]
theorem jC{x:Int}(h1: -4611686018427387904<=x)(h2:x<=4611686018427387904):Value.int .i64 (IntKind.i64.wrap x)=Value.int .i64 x:=by
 have:IntKind.i64.wrap x=x:=by
  simp only[IntKind.wrap,IntKind.signed,IntKind.bits]
  simp
  omega
 rw[this]
def Q2{α:Type}(eT:Nat)(φ:α->Prop)(v:α->Value)(zo:α->bS)(zz:α->T aa)(zn':α->Nat):Value->bS->Nat->T aa->Nat->Prop:=Kp eT φ v zo zz zn'
theorem gi{z zg:T aa}{zn:Nat}{g:Nat->List Value->Option Value}(hg:fB prog zg g){f:Nat}{fn:Func}(hfn:prog.funcs[f]? =some fn)(hb:fn.body=some (ag fn)){args:List Value}{aR:bS}(hz:ay z zn){nx eT:Nat}(hnx:nx<=eT/\eT<=cI){α:Type}{φ:α->Prop}{v:α->Value}{zo:α->bS}{zz:α->T aa}{zn':α->Nat}
 (hlow: ∀x,φ x->CF (zo x)=true/\zn<=zn' x/\ay (zz x) (zn' x)) {N:Nat}
 (h: ∃t,fU prog g zg N (ag fn) (xl fn args) (fW z aR nx) zn (ET prog nx fn (Q2 eT φ v zo zz zn')) t):bF prog z zn f args aR nx eT φ v zo zz zn':=by
 obtain⟨t,ht⟩:=h
 exact Bs hD hg hfn hb hz nx eT hnx _ _ _ _ _ (fun x hx=>⟨sP (hlow x hx).1,(hlow x hx).2.1,(hlow x hx).2.2⟩) ht
theorem q2{α:Type}{eT:Nat}{φ:α->Prop}{v:α->Value}{zo:α->bS}{zz:α->T aa}{zn':α->Nat}(x:α)(h:φ x){u:Value}{aR:bS}{n:Nat}{z':T aa}{m:Nat}(h1:n=eT)(h2:u=v x)(h3:aR=zo x)(h4:z'=zz x)(h5:m=zn' x):Q2 eT φ v zo zz zn' u aR n z' m:=⟨h1,x,h,h2,h3,h4,h5⟩
theorem De{α:Type}{φ:α->Prop}{F:α->ax}{k:α->Tr}{l:Al}(x:α)(h:φ x){o:ax}(ho:o=F x):Al.R (.cons α φ F k l) o:= .inl ⟨x,h,ho⟩
end Go.Proofs.Nw
namespace Go.jo
variable{α:Type}
def gN(f:Nat->α)(n:Nat)(x:α):Prop:= ∃i,i<n/\f i=x
def swp(f:Nat->α)(i j:Nat):Nat->α:=fun k=>if k=i then f j else if k=j then f i else f k
theorem tq{f:Nat->α}{n i j:Nat}(hi:i<n)(hj:j<n)(x:α):gN (swp f i j) n x↔gN f n x:=by
 constructor
 ·rintro⟨k,hk,rfl⟩
  unfold swp
  split
  ·exact⟨j,hj,rfl⟩
  ·split
   ·exact⟨i,hi,rfl⟩
   ·exact⟨k,hk,rfl⟩
 ·rintro⟨k,hk,rfl⟩
  by_cases h1:k=i
  ·subst h1
   by_cases h2:j=k
   ·subst h2;exact⟨j,hj,by simp[swp]⟩
   ·exact⟨j,hj,by simp[swp,h2]⟩
  ·by_cases h2:k=j
   ·subst h2;exact⟨i,hi,by simp[swp]⟩
   ·exact⟨k,hk,by simp[swp,h1,h2]⟩
structure Ord(lt:α->α->Bool):Prop where
 asymm: ∀a b,lt a b=true->lt b a=false
 trans: ∀a b c,lt b a=false->lt c b=false->lt c a=false
def nv(lt:α->α->Bool)(f:Nat->α)(n:Nat):Prop:= ∀k,0<k->k<n->lt (f k) (f ((k - 1) / 2))=false
theorem IY{lt:α->α->Bool}(o:Ord lt){f:Nat->α}{n:Nat}(h:nv lt f n): ∀k,k<n->lt (f k) (f 0)=false:=by
 intro k
 induction k using Nat.strongRecOn with
 |ind k ih=>
  intro hk
  by_cases h0:k=0
  ·subst h0
   cases hc:lt (f 0) (f 0) with
   |false=>rfl
   |true=>have:=o.asymm _ _ hc;rw[hc] at this;cases this
  ·exact o.trans _ _ _ (ih ((k - 1) / 2) (by omega) (by omega)) (h k (by omega) hk)
def KP(lt:α->α->Bool)(f:Nat->α)(n i:Nat):Prop:=
 (∀k,0<k->k<n->k≠i->lt (f k) (f ((k - 1) / 2))=false)/\
 (∀k,0<k->k<n->(k - 1) / 2=i->0<i->lt (f k) (f ((i - 1) / 2))=false)
theorem Ds{lt:α->α->Bool}{f:Nat->α}{n i:Nat}(h:KP lt f n i)(hi:i=0\/lt (f i) (f ((i - 1) / 2))=false):nv lt f n:=by
 intro k h0 hk
 by_cases hki:k=i
 ·subst hki
  rcases hi with rfl|hi
  ·omega
  ·exact hi
 ·exact h.1 k h0 hk hki
theorem Dr{lt:α->α->Bool}(o:Ord lt){f:Nat->α}{n i:Nat}(h:KP lt f n i)(h0:0<i)(hi:i<n)(hl:lt (f i) (f ((i - 1) / 2))=true):
 KP lt (swp f i ((i - 1) / 2)) n ((i - 1) / 2):=by
 have hp:(i - 1) / 2<i:=by omega
 have hpi:(i - 1) / 2≠i:=by omega
 have e1:swp f i ((i - 1) / 2) i=f ((i - 1) / 2):=by simp[swp]
 have e2:swp f i ((i - 1) / 2) ((i - 1) / 2)=f i:=by simp[swp,hpi]
 have e3: ∀k,k≠i->k≠(i - 1) / 2->swp f i ((i - 1) / 2) k=f k:=fun k a b=>by simp[swp,a,b]
 refine⟨fun k k0 kn kne=>?_,fun k k0 kn kp p0=>?_⟩
 ·by_cases hki:k=i
  ·subst hki
   rw[e1,e2];exact o.asymm _ _ hl
  ·rw[e3 k hki kne]
   by_cases hpar:(k - 1) / 2=i
   ·rw[hpar,e1];exact h.2 k k0 kn hpar h0
   ·by_cases hpp:(k - 1) / 2=(i - 1) / 2
    ·rw[hpp,e2]
     have:=h.1 k k0 kn hki
     rw[hpp] at this
     exact o.trans _ _ _ (o.asymm _ _ hl) this
    ·rw[e3 _ hpar hpp];exact h.1 k k0 kn hki
 ·have hg:((i - 1) / 2 - 1) / 2≠i:=by omega
  have hg2:((i - 1) / 2 - 1) / 2≠(i - 1) / 2:=by omega
  rw[e3 _ hg hg2]
  have hpg:=h.1 ((i - 1) / 2) p0 (by omega) hpi
  by_cases hki:k=i
  ·subst hki;rw[e1];exact hpg
  ·have hkp:k≠(i - 1) / 2:=by omega
   rw[e3 k hki hkp]
   have:=h.1 k k0 kn hki
   rw[kp] at this
   exact o.trans _ _ _ hpg this
def qq(lt:α->α->Bool)(f:Nat->α)(n i:Nat):Prop:=
 (∀k,0<k->k<n->(k - 1) / 2≠i->lt (f k) (f ((k - 1) / 2))=false)/\
 (∀k,0<k->k<n->(k - 1) / 2=i->0<i->lt (f k) (f ((i - 1) / 2))=false)
theorem FL{lt:α->α->Bool}{f:Nat->α}{n i:Nat}(h:qq lt f n i)(hc: ∀k,k<n->0<k->(k - 1) / 2=i->lt (f k) (f i)=false):nv lt f n:=by
 intro k h0 hk
 by_cases hp:(k - 1) / 2=i
 ·rw[hp];exact hc k hk h0 hp
 ·exact h.1 k h0 hk hp
theorem FK{lt:α->α->Bool}(o:Ord lt){f:Nat->α}{n i c:Nat}(h:qq lt f n i)(h0:0<c)(hc:c<n)(hp:(c - 1) / 2=i)(hl:lt (f c) (f i)=true)
 (hmin: ∀k,k<n->0<k->(k - 1) / 2=i->lt (f k) (f c)=false):
 qq lt (swp f i c) n c:=by
 have hci:c≠i:=by omega
 have e1:swp f i c i=f c:=by simp[swp]
 have e2:swp f i c c=f i:=by simp[swp,hci]
 have e3: ∀k,k≠i->k≠c->swp f i c k=f k:=fun k a b=>by simp[swp,a,b]
 refine⟨fun k k0 kn kne=>?_,fun k k0 kn kp p0=>?_⟩
 ·by_cases hkc:k=c
  ·subst hkc
   rw[e2,hp,e1];exact o.asymm _ _ hl
  ·by_cases hki:k=i
   ·subst hki
    have hne:(k - 1) / 2≠k:=by omega
    rw[e1,e3 _ hne kne]
    exact h.2 c h0 hc hp k0
   ·rw[e3 k hki hkc]
    by_cases hpar:(k - 1) / 2=i
    ·rw[hpar,e1];exact hmin k kn k0 hpar
    ·rw[e3 _ hpar kne];exact h.1 k k0 kn hpar
 ·have hki:k≠i:=by omega
  have hkc:k≠c:=by omega
  rw[e3 k hki hkc,hp,e1]
  have:=h.1 k k0 kn (by omega)
  rw[kp] at this
  exact this
theorem CW{lt:α->α->Bool}{f:Nat->α}{n:Nat}(h:nv lt f (n+1)):qq lt (swp f 0 n) n 0:=by
 refine⟨fun k k0 kn kne=>?_,fun k k0 kn kp p0=>by omega⟩
 have e3: ∀k,k≠0->k≠n->swp f 0 n k=f k:=fun k a b=>by simp[swp,a,b]
 rw[e3 k (by omega) (by omega),e3 _ kne (by omega)]
 exact h k k0 (by omega)
theorem GW{f:Nat->α}{n:Nat}(x:α):gN (swp f 0 n) n x↔ ∃i,0<i/\i<n+1/\f i=x:=by
 constructor
 ·rintro⟨k,hk,rfl⟩
  unfold swp
  split
  ·exact⟨n,by omega,by omega,rfl⟩
  ·split
   ·omega
   ·exact⟨k,by omega,by omega,rfl⟩
 ·rintro⟨k,k0,hk,rfl⟩
  by_cases h:k=n
  ·subst h;exact⟨0,k0,by simp[swp]⟩
  ·exact⟨k,by omega,by simp[swp,h,Nat.ne_of_gt k0]⟩
theorem zt{lt:α->α->Bool}{f:Nat->α}{n:Nat}(h:nv lt f n)(x:α):KP lt (fun k=>if k=n then x else f k) (n+1) n:=by
 refine⟨fun k k0 kn kne=>?_,fun k k0 kn kp p0=>by omega⟩
 simp only
 rw[if_neg kne,if_neg (by omega)]
 exact h k k0 (by omega)
end Go.jo
namespace Go.Proofs.Nw
open Go Go.AV Tryz Go.jo
set_option maxHeartbeats 4000000
set_option maxRecDepth 100000
def nd0:b8:=⟨⟨0,0,0⟩,0⟩
def hf(ms:List b8)(k:Nat):b8:=ms[k]?.getD nd0
def y9(ms:List b8)(i k:Nat):List b8:=(ms.set i (hf ms k)).set k (hf ms i)
theorem PV{ms:List b8}{k:Nat}(h:k<ms.length):ms[k]? =some (hf ms k):=by
 unfold hf;rw[List.getElem?_eq_getElem h];rfl
theorem lq(ms:List b8)(i k:Nat):(y9 ms i k).length=ms.length:=by simp[y9]
theorem mP{ms:List b8}{i k:Nat}(hi:i<ms.length)(hk:k<ms.length):hf (y9 ms i k)=swp (hf ms) i k:=by
 funext j
 unfold swp hf y9
 rw[List.getElem?_set,List.getElem?_set,List.length_set]
 by_cases h1:k=j
 ·subst h1
  by_cases h2:k=i
  ·subst h2;simp[hk,hf]
  ·simp[h2,hk,hf]
 ·have h1': ¬j=k:=fun e=>h1 e.symm
  by_cases h2:i=j
  ·subst h2;simp[h1,hi];rfl
  ·have h2': ¬j=i:=fun e=>h2 e.symm
   simp[h1,h1',h2,h2']
theorem wX(a b:cL):oq a b=true↔a.len<b.len\/(a.len=b.len/\a.gm<b.gm):=by
 unfold oq;simp
theorem na(a b:b8):dK a b=true↔a.x.len<b.x.len\/(a.x.len=b.x.len/\(a.x.gm<b.x.gm\/(a.x.gm=b.x.gm/\a.num<b.num))):=by
 unfold dK
 rw[Bool.or_eq_true,Bool.and_eq_true,wX,Bool.not_eq_true',decide_eq_true_eq]
 have h:oq b.x a.x=false↔ ¬(b.x.len<a.x.len\/(b.x.len=a.x.len/\b.x.gm<a.x.gm)):=by
  rw[←wX];simp
 rw[h]
 omega
theorem iV:Ord dK:=by
 refine⟨fun a b h=>?_,fun a b c h1 h2=>?_⟩
 ·rw[na] at h
  cases hc:dK b a with
  |false=>rfl
  |true=>rw[na] at hc;omega
 ·cases hc:dK c a with
  |false=>rfl
  |true=>
   have n1: ¬dK b a=true:=by rw[h1];simp
   have n2: ¬dK c b=true:=by rw[h2];simp
   rw[na] at n1 n2 hc
   omega
theorem tL(ms:List b8): ∀r∈ms.map b8.row,r.length=4:=aQ ms fun _=>rfl
theorem nz(ms:List b8):(aF ms).length=ms.length*4:=by rw[kS (tL ms),List.length_map]
theorem rD(ms:List b8):bE (aF ms)=true:=lG (fun _=>rfl) ms
theorem Pj{σ:Nat->Option Nat}(ms:List b8)(c:Nat):aI σ (dR (aF ms) c)=some (dR (aF ms) c):=cR (rD ms)
theorem cw{σ:Nat->Option Nat}(ms:List b8)(c:Nat):aI σ (aa.aw (ba.mk (aF ms) c 4 213 false false 0 true))=some (aa.aw (ba.mk (aF ms) c 4 213 false false 0 true)):=cR (rD ms)
theorem NP{ms:List b8}{i:Nat}(h:i<ms.length)(c:Nat):aE prog (ba.mk (aF ms) c 4 213 false false 0 true) 213 (0+i*4)=some (.agg ⟨(hf ms i).row⟩):=
 iq (rows:=ms.map b8.row) rfl underlying213 rfl rfl (tL ms) (by rw[List.getElem?_map,PV h];rfl)
theorem Hx{ms:List b8}{i:Nat}(h:i<ms.length)(a:b8):overwrite (aF ms) (0+i*4) a.row=some (aF (ms.set i a)):=by
 have:=ub (tL ms) (i:=i) (by simpa using h) (r':=a.row) rfl
 rw[lI] at this
 exact this
theorem cS(z:T aa):fB prog z gH:=by
 intro f args v h
 unfold gH at h
 split at h
 ·rename_i a b c d e f
  cases h
  refine cz ?_ rfl rfl
  refine aK1 (mR (zg:= .leaf)) (fn:=f125) kC (TG .leaf 0 ⟨a,b,c⟩ ⟨d,e,f⟩ _ ?_)
  (repeat' first|(with_reducible first|exact rfl|apply And.intro|exact kC)|intro hq)
  all_goals (refine zU ?_;unfold oq;simp_all)
 ·cases h
section
variable{z:T aa}{zn:Nat}
theorem TX(hz:ay z zn):A1 z zn 124 [ID] [] 0 1 (ip 0) [(0,eE az 0)]:=by
 refine aK1 (PX (z:=z)) (fn:=f124) hz (oV z zn _ ?_)
 (repeat' first|(with_reducible first|exact rfl|assumption|apply And.intro)|exact q1)
theorem uY(hz:ay z zn)(ms:List b8)(i k n c cc:Nat)(p:Int)(hi:i<n)(hk:k<n)(hn:n<=ms.length):
 A1 z zn 133 [ip 0,iv i,iv k] [(0,eE (aX 1 n c) p),(1,dR (aF ms) cc)] 2 2 (.bool (dK (hf ms i) (hf ms k))) [(0,eE (aX 1 n c) p),(1,dR (aF ms) cc)]:=by
 refine aK1 (cS z) (fn:=f133) hz (Xm z zn i k n c cc p (hf ms i) (hf ms k) (aF ms) _ ?_)
 (repeat' first|(with_reducible first|exact rfl|assumption|apply And.intro|exact NP (by omega) _|exact cw _ _)|exact(rfl:gH _ _=_)|intro hq)
 all_goals first
  |(refine zU ?_
    unfold dK
    simp_all;done)
theorem yF(hz:ay z zn)(ms:List b8)(i k n c cc:Nat)(p:Int)(hi:i<n)(hk:k<n)(hn:n<=ms.length)(hc:ms.length*4<=cc):
 A1 z zn 134 [ip 0,iv i,iv k] [(0,eE (aX 1 n c) p),(1,dR (aF ms) cc)] 2 2 (.tuple ⟨[]⟩) [(0,eE (aX 1 n c) p),(1,dR (aF (y9 ms i k)) cc)]:=by
 have h1:=Hx (ms:=ms) (i:=i) (by omega) (hf ms k)
 have h2:=Hx (ms:=ms.set i (hf ms k)) (i:=k) (by simp;omega) (hf ms i)
 have l1:(aF (ms.set i (hf ms k))).length<=cc:=by rw[nz];simp;exact hc
 have l2:(aF (y9 ms i k)).length<=cc:=by rw[nz,lq];exact hc
 refine aK1 (cS z) (fn:=f134) hz (Xh z zn i k n c cc p (hf ms i) (hf ms k) (aF ms) (aF (ms.set i (hf ms k))) (aF (y9 ms i k)) _ ?_)
 (repeat' first|(with_reducible first|exact rfl|assumption|apply And.intro|exact NP (by omega) _|exact cw _ _)|exact h2|exact q1)
end
def upφ(ms:List b8)(m:Nat)(ms':List b8):Prop:=ms'.length=ms.length/\nv dK (hf ms') m/\ ∀v,gN (hf ms') m v↔gN (hf ms) m v
theorem NL{i:Nat}(h:0<i):((i:Int) - 1).tdiv 2=(((i - 1) / 2:Nat):Int):=by
 rw[show(i:Int) - 1=((i - 1:Nat):Int) by omega]
 rw[Int.tdiv_eq_ediv_of_nonneg (by omega)]
 omega
section
variable{z:T aa}{zn:Nat}
theorem AI(hz:ay z zn)(ms:List b8)(m i c cc:Nat)(p:Int)(hi:i<m)(hm:m<=ms.length)(hc:ms.length*4<=cc)(hs:m<100000000)(hU:KP dK (hf ms) m i):
 ai prog (ah (ag f126) 0) 4 54 (qP i) [(0,eE (aX 4 m c) p),(4,dR (aF ms) cc)] (4+1) z zn (Al.R (LU z zn 4 i m c cc p (aF ms) (upφ ms m)).l):=by
 refine an hD (cS z) (α:=Nat × List b8) 4 54 (4+1) (fun x=>x.1<m/\x.2.length=ms.length/\KP dK (hf x.2) m x.1/\ ∀v,gN (hf x.2) m v↔gN (hf ms) m v) (fun x=>qP x.1) (fun x=>[(0,eE (aX 4 m c) p),(4,dR (aF x.2) cc)]) (fun _=>z) (fun _=>zn) (fun x=>x.1) _ (fun x hI=>?_) (i,ms) ⟨hi,rfl,hU,fun _=>Iff.rfl⟩
 obtain⟨i,ms'⟩:=x
 obtain⟨h1,h2,h3,h4⟩:=hI
 simp only at h1 h2 h3 h4 ⊢
 have out:(i=0\/dK (hf ms' i) (hf ms' ((i - 1) / 2))=false)->Al.R (LU z zn 4 i m c cc p (aF ms) (upφ ms m)).l ⟨.exit 0,[(0,ip 0)],[(0,eE (aX 4 m c) p),(4,dR (aF ms') cc)],4+1,z,zn⟩:=fun h=>De ms' ⟨h2,Ds h3 h,h4⟩ rfl
 by_cases h0:0<i
 ·have hlt:(i - 1) / 2<i:=by omega
  have b1:=uY hz ms' i ((i - 1) / 2) m c cc p h1 (by omega) (by omega)
  have s1:=yF hz ms' i ((i - 1) / 2) m c cc p h1 (by omega) (by omega) (by omega)
  have e1:=cw (σ:=sig [(0,0),(1,4)]) ms' cc
  have w1:Value.int .i64 (IntKind.i64.wrap ((i:Int) - 1))=Value.int .i64 ((i:Int) - 1):=jC (by omega) (by omega)
  have w2:Value.int .i64 (IntKind.i64.wrap (((i - 1) / 2:Nat):Int))=Value.int .i64 (((i - 1) / 2:Nat):Int):=jC (by omega) (by omega)
  refine t100 (TD z zn i m c cc p (fun x y=>dK (hf ms' x.toNat) (hf ms' y.toNat)) (fun x y=>aF (y9 ms' x.toNat y.toNat)) (aF ms') (ak _ _ _ _ _ _ _ _ _) ?_)
  rw[NL h0]
  have hc0:decide ((i:Int)>0)=true:=by simp;omega
  refine⟨fun _=>?_,nC1 hc0⟩
  simp only[Int.toNat_natCast]
  (repeat' first|(with_reducible first|exact rfl|exact True.intro|assumption|apply And.intro|exact cw _ _)|exact b1|exact s1|intro hq)
  ·refine⟨((i - 1) / 2,y9 ms' i ((i - 1) / 2)),rfl,rfl,rfl,rfl,rfl,⟨by simp only;omega,by simp only[lq];exact h2,?_,fun v=>?_⟩,hlt⟩
   ·simp only
    rw[mP (by omega) (by omega)]
    exact Dr iV h3 h0 h1 (by assumption)
   ·simp only
    rw[mP (by omega) (by omega),tq h1 (by omega)]
    exact h4 v
  ·exact out (.inr (by with_reducible assumption))
 ·have hi0:i=0:=by omega
  subst hi0
  refine t100 (TD z zn 0 m c cc p (fun x y=>false) (fun x y=>[]) (aF ms') (ak _ _ _ _ _ _ _ _ _) ⟨fun h=>(by simp at h),fun _=>?_⟩)
  (repeat' first|(with_reducible first|exact rfl|assumption|apply And.intro|exact cw _ _))
  ·exact out (.inl rfl)
theorem Ig(hz:ay z zn)(ms:List b8)(m i c cc:Nat)(p:Int)(hi:i<m)(hm:m<=ms.length)(hc:ms.length*4<=cc)(hs:m<100000000)(hU:KP dK (hf ms) m i):
 ai prog (ah (ag f126) 0) 5 54 (qP i) [(0,eE (aX 5 m c) p),(5,dR (aF ms) cc)] (5+1) z zn (Al.R (LU z zn 5 i m c cc p (aF ms) (upφ ms m)).l):=by
 refine an hD (cS z) (α:=Nat × List b8) 5 54 (5+1) (fun x=>x.1<m/\x.2.length=ms.length/\KP dK (hf x.2) m x.1/\ ∀v,gN (hf x.2) m v↔gN (hf ms) m v) (fun x=>qP x.1) (fun x=>[(0,eE (aX 5 m c) p),(5,dR (aF x.2) cc)]) (fun _=>z) (fun _=>zn) (fun x=>x.1) _ (fun x hI=>?_) (i,ms) ⟨hi,rfl,hU,fun _=>Iff.rfl⟩
 obtain⟨i,ms'⟩:=x
 obtain⟨h1,h2,h3,h4⟩:=hI
 simp only at h1 h2 h3 h4 ⊢
 have out:(i=0\/dK (hf ms' i) (hf ms' ((i - 1) / 2))=false)->Al.R (LU z zn 5 i m c cc p (aF ms) (upφ ms m)).l ⟨.exit 0,[(0,ip 0)],[(0,eE (aX 5 m c) p),(5,dR (aF ms') cc)],5+1,z,zn⟩:=fun h=>De ms' ⟨h2,Ds h3 h,h4⟩ rfl
 by_cases h0:0<i
 ·have hlt:(i - 1) / 2<i:=by omega
  have b1:=uY hz ms' i ((i - 1) / 2) m c cc p h1 (by omega) (by omega)
  have s1:=yF hz ms' i ((i - 1) / 2) m c cc p h1 (by omega) (by omega) (by omega)
  have e1:=cw (σ:=sig [(0,0),(1,5)]) ms' cc
  have w1:Value.int .i64 (IntKind.i64.wrap ((i:Int) - 1))=Value.int .i64 ((i:Int) - 1):=jC (by omega) (by omega)
  have w2:Value.int .i64 (IntKind.i64.wrap (((i - 1) / 2:Nat):Int))=Value.int .i64 (((i - 1) / 2:Nat):Int):=jC (by omega) (by omega)
  refine t100 (TC z zn i m c cc p (fun x y=>dK (hf ms' x.toNat) (hf ms' y.toNat)) (fun x y=>aF (y9 ms' x.toNat y.toNat)) (aF ms') (ak _ _ _ _ _ _ _ _ _) ?_)
  rw[NL h0]
  have hc0:decide ((i:Int)>0)=true:=by simp;omega
  refine⟨fun _=>?_,nC1 hc0⟩
  simp only[Int.toNat_natCast]
  (repeat' first|(with_reducible first|exact rfl|exact True.intro|assumption|apply And.intro|exact cw _ _)|exact b1|exact s1|intro hq)
  ·refine⟨((i - 1) / 2,y9 ms' i ((i - 1) / 2)),rfl,rfl,rfl,rfl,rfl,⟨by simp only;omega,by simp only[lq];exact h2,?_,fun v=>?_⟩,hlt⟩
   ·simp only
    rw[mP (by omega) (by omega)]
    exact Dr iV h3 h0 h1 (by assumption)
   ·simp only
    rw[mP (by omega) (by omega),tq h1 (by omega)]
    exact h4 v
  ·exact out (.inr (by with_reducible assumption))
 ·have hi0:i=0:=by omega
  subst hi0
  refine t100 (TC z zn 0 m c cc p (fun x y=>false) (fun x y=>[]) (aF ms') (ak _ _ _ _ _ _ _ _ _) ⟨fun h=>(by simp at h),fun _=>?_⟩)
  (repeat' first|(with_reducible first|exact rfl|assumption|apply And.intro|exact cw _ _))
  ·exact out (.inl rfl)
def pushφ(s:qx)(x:cL)(ms':List b8):Prop:=s.n+1<=ms'.length/\ms'.length<=s.ms.length+1/\nv dK (hf ms') (s.n+1)/\ ∀v,gN (hf ms') (s.n+1) v↔v=⟨x,s.p⟩\/gN (hf s.ms) s.n v
structure vz(s:qx):Prop where
 len:s.n<=s.ms.length
 heap:nv dK (hf s.ms) s.n
 p0:0<=s.p
 pb:s.p<=1000000
 lp:(s.ms.length:Int)<=s.p
theorem Dq{f g:Nat->b8}{n:Nat}{x:b8}(h: ∀k,k<n->g k=f k)(hn:g n=x)(v:b8):gN g (n+1) v↔v=x\/gN f n v:=by
 constructor
 ·rintro⟨k,hk,rfl⟩
  by_cases e:k=n
  ·subst e;exact .inl hn
  ·exact .inr ⟨k,by omega,(h k (by omega)).symm⟩
 ·rintro (rfl|⟨k,hk,rfl⟩)
  ·exact⟨n,by omega,hn⟩
  ·exact⟨k,by omega,h k hk⟩
theorem M7(hz:ay z zn)(x:cL):A1 z zn 126 [ip 0, .agg ⟨x.row⟩] [(0,eE az 0)] 1 2 (.tuple ⟨[]⟩) [(0,eE (aX 1 1 1) 1),(1,dR (b8.row ⟨x,0⟩) 4)]:=by
 have hK:=AI hz [⟨x,0⟩] 1 0 1 4 1 (by omega) (by simp) (by simp) (by omega) ⟨fun k h0 hk=>by omega,fun k h0 hk=>by omega⟩
 have w1:Value.int .i64 (IntKind.i64.wrap ((0:Int)+1))=Value.int .i64 ((0:Int)+1):=jC (by omega) (by omega)
 refine aK1 (cS z) (fn:=f126) hz (Xl z zn x 0 (upφ [⟨x,0⟩] 1) _ ?_)
 (repeat' first|(with_reducible first|exact rfl|assumption|apply And.intro|exact cw _ _)|exact hK|intro hq)
 all_goals
  rename_i ms
  obtain⟨k1,k2,k3⟩:=hq
  obtain⟨j,hj,hv⟩:=(k3 ⟨x,0⟩).2 ⟨0,by omega,rfl⟩
  have hj0:j=0:=by omega
  subst hj0
  have:ms=[⟨x,0⟩]:=by
   match ms,k1 with
   |[a],_=>exact congrArg (fun y=>[y]) hv
  subst this
  exact q1
theorem M8(hz:ay z zn)(n:Nat)(ms:List b8)(p:Int)(hs:vz ⟨n,ms,p⟩)(h1:1<=ms.length)(hp:p+1<=1000000)(x:cL):
 aT prog z zn 126 [ip 0, .agg ⟨x.row⟩] [(0,eE (aX 1 n ms.length) p),(1,dR (aF ms) (ms.length*4))] 2 3 (pushφ ⟨n,ms,p⟩ x) (fun _=> .tuple ⟨[]⟩) (fun ms=>[(0,eE (aX 2 (n+1) ms.length) (p+1)),(2,dR (aF ms) (ms.length*4))]):=by
 obtain⟨q1,q2',q3,q4,q5⟩:=hs
 simp only at q1 q2' q3 q4 q5
 have w1:Value.int .i64 (IntKind.i64.wrap (p+1))=Value.int .i64 (p+1):=jC (by omega) (by omega)
 have w2:Value.int .i64 (IntKind.i64.wrap ((↑(n+1):Int) - 1))=Value.int .i64 ((↑(n+1):Int) - 1):=jC (by omega) (by omega)
 have w3:(some (Value.int IntKind.i64 (↑n:Int)):Option Value)=some (Value.int IntKind.i64 ((↑(n+1):Int) - 1)):=by congr 2;omega
 have low: ∀ms':List b8,pushφ ⟨n,ms,p⟩ x ms'->CF [(0,eE (aX 2 (n+1) ms'.length) (p+1)),(2,dR (aF ms') (ms'.length*4))]=true/\zn<=zn/\ay z zn:=fun _ _=>⟨rfl,Nat.le_refl _,hz⟩
 by_cases hlt:n<ms.length
 ·
  have hset: ∀k,hf (ms.set n ⟨x,p⟩) k=if k=n then ⟨x,p⟩ else hf ms k:=fun k=>by
   unfold hf
   rw[List.getElem?_set]
   by_cases e:n=k
   ·subst e;simp[hlt]
   ·have e': ¬k=n:=fun h=>e h.symm
    simp[e,e']
  have hU:KP dK (hf (ms.set n ⟨x,p⟩)) (n+1) n:=by
   rw[show hf (ms.set n ⟨x,p⟩)=fun k=>if k=n then ⟨x,p⟩ else hf ms k from funext hset]
   exact zt q2' _
  have hK:=AI hz (ms.set n ⟨x,p⟩) (n+1) n ms.length (ms.length*4) (p+1) (by omega) (by simp;omega) (by simp) (by omega) (by exact hU)
  have o1:=Hx (i:=n) hlt ⟨x,p⟩
  have l1:(aF (ms.set n ⟨x,p⟩)).length<=ms.length*4:=by rw[nz];simp
  refine gi (cS z) (fn:=f126) (by kernel_rfl) (by kernel_rfl) hz ⟨by decide,by decide⟩ low (N:=100) ?_
  refine Xk z zn n ms.length (ms.length*4) x p (aF ms) (aF (ms.set n ⟨x,p⟩)) (upφ (ms.set n ⟨x,p⟩) (n+1)) _ ?_
  (repeat' first|(with_reducible first|exact rfl|assumption|apply And.intro|exact cw _ _|exact(by omega:n+1<=ms.length))|exact hK|intro hq)
  all_goals
   rename_i ms'
   obtain⟨k1,k2,k3⟩:=hq
   rw[List.length_set] at k1
   have hv: ∀v,gN (hf ms') (n+1) v↔v=⟨x,p⟩\/gN (hf ms) n v:=fun v=>(k3 v).trans (Dq (fun k hk=>by rw[hset,if_neg (by omega)]) (by rw[hset,if_pos rfl]) v)
   exact q2 ms' ⟨by show n+1<=ms'.length;omega,by show ms'.length<=ms.length+1;omega,k2,hv⟩ rfl rfl (by rw[←k1];rfl) rfl rfl
 ·have hn:n=ms.length:=by omega
  have hset: ∀k,hf (ms++[⟨x,p⟩]) k=if k=n then ⟨x,p⟩ else hf ms k:=fun k=>by
   unfold hf
   rw[List.getElem?_append]
   by_cases e:k=n
   ·subst e;rw[if_neg (by omega),if_pos rfl,hn];simp
   ·rw[if_neg e]
    by_cases e2:k<ms.length
    ·rw[if_pos e2]
    ·rw[if_neg e2,List.getElem?_eq_none (by omega:ms.length<=k),List.getElem?_eq_none (by simp;omega)]
  have hU:KP dK (hf (ms++[⟨x,p⟩])) (n+1) n:=by
   rw[show hf (ms++[⟨x,p⟩])=fun k=>if k=n then ⟨x,p⟩ else hf ms k from funext hset]
   exact zt q2' _
  have hK:=Ig hz (ms++[⟨x,p⟩]) (n+1) n (n+1) ((n+1)*4) (p+1) (by omega) (by simp;omega) (by simp;omega) (by omega) (by exact hU)
  have o1:aF ms++b8.row ⟨x,p⟩=aF (ms++[⟨x,p⟩]):=by
   show _=((ms++[(⟨x,p⟩:b8)]).map b8.row).flatten
   rw[List.map_append,List.flatten_append];rfl
  rw[←o1] at hK
  have l1:(aF ms).length=n*4:=by rw[nz,hn]
  have l2:ms.length*4=n*4:=by rw[hn]
  have r1:=cw (σ:=aA [(0,0),(5,4)] []) (ms++[⟨x,p⟩]) ((n+1)*4)
  rw[←o1] at r1
  rw[show eE (aX 1 n ms.length) p=eE (aX 1 n n) p by rw[←hn]]
  refine gi (cS z) (fn:=f126) (by kernel_rfl) (by kernel_rfl) hz ⟨by decide,by decide⟩ low (N:=100) ?_
  refine Xj z zn n (ms.length*4) x p (aF ms) (upφ (ms++[⟨x,p⟩]) (n+1)) _ ?_
  (repeat' first|(with_reducible first|exact rfl|assumption|apply And.intro|exact cw _ _|exact(by omega:n+1<=1048576))|exact hK|intro hq)
  all_goals
   rename_i ms'
   obtain⟨k1,k2,k3⟩:=hq
   rw[List.length_append,List.length_singleton,←hn] at k1
   have hv: ∀v,gN (hf ms') (n+1) v↔v=⟨x,p⟩\/gN (hf ms) n v:=fun v=>(k3 v).trans (Dq (fun k hk=>by rw[hset,if_neg (by omega)]) (by rw[hset,if_pos rfl]) v)
   exact q2 ms' ⟨by show n+1<=ms'.length;omega,by show ms'.length<=ms.length+1;omega,k2,hv⟩ rfl rfl (by rw[←k1];rfl) rfl rfl
theorem Qr(hz:ay z zn)(s:qx)(hs:vz s)(h1:1<=s.ms.length)(hp:s.p+1<=1000000)(x:cL):
 aT prog z zn 126 [ip 0, .agg ⟨x.row⟩] [(0,xh 1 s),(1,wD s)] 2 3 (pushφ s x) (fun _=> .tuple ⟨[]⟩) (fun ms=>[(0,eE (aX 2 (s.n+1) ms.length) (s.p+1)),(2,dR (aF ms) (ms.length*4))]):=M8 hz s.n s.ms s.p hs h1 hp x
end
def skφ(ms:List b8)(n:Nat)(ms':List b8):Prop:=ms'.length=ms.length/\nv dK (hf ms') n/\ ∀v,gN (hf ms') n v↔gN (hf ms) n v
theorem Xf(a:b8):dK a a=false:=by
 cases h:dK a a with
 |false=>rfl
 |true=>rw[na] at h;omega
section
variable{z:T aa}{zn:Nat}
theorem T0(hz:ay z zn)(n c cc:Nat)(p:Int)(ms:List b8):A1 z zn 138 [ip 0] [(0,eE (aX 1 n c) p),(1,dR (aF ms) cc)] 2 2 (iv n) [(0,eE (aX 1 n c) p),(1,dR (aF ms) cc)]:=by
 refine aK1 (cS z) (fn:=f138) hz (N:=100) ?_
 refine hlen z zn n c cc p (aF ms) _ ?_
 (repeat' first|(with_reducible first|exact rfl|assumption|apply And.intro|exact cw _ _)|exact q1)
theorem SA{ms:List b8}(h:0<ms.length)(c:Nat):aE prog (ba.mk (aF ms) c 4 213 false false 0 true) 196 0=some (.agg ⟨(hf ms 0).x.row⟩):=by
 cases ms with
 |nil=>simp at h
 |cons a l=>rfl
theorem JK(hz:ay z zn)(n c cc:Nat)(p:Int)(ms:List b8)(hn:n<=ms.length)(a:cL)(ha:a=if n=0 then ⟨0,0,0⟩ else (hf ms 0).x):A1 z zn 135 [ip 0] [(0,eE (aX 1 n c) p),(1,dR (aF ms) cc)] 2 2 (.tuple ⟨[.agg ⟨a.row⟩, .bool (decide (0<n))]⟩) [(0,eE (aX 1 n c) p),(1,dR (aF ms) cc)]:=by
 have hl:=T0 hz n c cc p ms
 refine aK1 (cS z) (fn:=f135) hz (N:=100) ?_
 refine hpk z zn n c cc p a (aF ms) _ ?_
 by_cases h0:n=0
 ·subst h0
  have hc:(((0:Nat):Int)==0)=true:=rfl
  (repeat' first|(with_reducible first|exact rfl|assumption|apply And.intro|exact cw _ _)|exact(rfl:Int.ofNat _=_)|exact hl|intro hq)
  all_goals first
   |(rw[hc] at hq;cases hq;done)
   |(refine zU ?_
     rw[ha,if_pos rfl];rfl)
 ·have hc:((n:Int)==0)=false:=by simp;omega
  have hr:a=(hf ms 0).x:=by rw[ha,if_neg h0]
  have r3:=SA (ms:=ms) (by omega) cc
  rw[←hr] at r3
  (repeat' first|(with_reducible first|exact rfl|assumption|apply And.intro|exact cw _ _|exact(by omega:0<n))|exact(rfl:Int.ofNat _=_)|exact hl|intro hq)
  all_goals first
   |(rw[hc] at hq;cases hq;done)
   |(refine zU ?_
     rw[show decide (0<n)=true by simp;omega];done)
   |skip
theorem LZ(hz:ay z zn)(ms:List b8)(n c cc:Nat)(p:Int)(hn:n<=ms.length)(hc:ms.length*4<=cc)(hs:n<100000000)(hU:qq dK (hf ms) n 0):
 ai prog (ah (ag f136) 0) 2 41 (Av 0) [(0,eE (aX 1 n c) p),(1,dR (aF ms) cc)] 2 z zn (Al.R (PB z zn 0 n c cc p (aF ms) (skφ ms n)).l):=by
 refine an hD (cS z) (α:=Nat × List b8) 2 41 2 (fun x=>(x.1<n\/(x.1=0/\n=0))/\x.2.length=ms.length/\qq dK (hf x.2) n x.1/\ ∀v,gN (hf x.2) n v↔gN (hf ms) n v) (fun x=>Av x.1) (fun x=>[(0,eE (aX 1 n c) p),(1,dR (aF x.2) cc)]) (fun _=>z) (fun _=>zn) (fun x=>n - x.1) _ (fun x hI=>?_) (0,ms) ⟨by show 0<n\/(0=0/\n=0);omega,rfl,hU,fun _=>Iff.rfl⟩
 obtain⟨i,ms'⟩:=x
 obtain⟨h1,h2,h3,h4⟩:=hI
 simp only at h1 h2 h3 h4 ⊢
 have out:(∀k,k<n->0<k->(k - 1) / 2=i->dK (hf ms' k) (hf ms' i)=false)->Al.R (PB z zn 0 n c cc p (aF ms) (skφ ms n)).l ⟨.ret,[(0,ip 0)],[(0,eE (aX 1 n c) p),(1,dR (aF ms') cc)],2,z,zn⟩:=fun h=>De ms' ⟨h2,FL h3 h,h4⟩ rfl
 have w1:Value.int .i64 (IntKind.i64.wrap (2*(i:Int)))=Value.int .i64 (2*(i:Int)):=jC (by omega) (by omega)
 have w2:Value.int .i64 (IntKind.i64.wrap (2*(i:Int)+1))=Value.int .i64 (2*(i:Int)+1):=jC (by omega) (by omega)
 have w3:Value.int .i64 (IntKind.i64.wrap (2*(i:Int)+1+1))=Value.int .i64 (2*(i:Int)+1+1):=jC (by omega) (by omega)
 have e1:(2*(i:Int)+1)=((2*i+1:Nat):Int):=by omega
 have e2:(2*(i:Int)+1+1)=((2*i+2:Nat):Int):=by omega
 have jY: ∀k,0<k->k<n->(k - 1) / 2=i->dK (hf ms' k) (hf ms' i)=true->(∀j,j<n->0<j->(j - 1) / 2=i->dK (hf ms' j) (hf ms' k)=false)->
  ak (fun x:Nat × List b8=>(x.1<n\/(x.1=0/\n=0))/\x.2.length=ms.length/\qq dK (hf x.2) n x.1/\ ∀v,gN (hf x.2) n v↔gN (hf ms) n v) (fun x=>Av x.1) (fun x=>[(0,eE (aX 1 n c) p),(1,dR (aF x.2) cc)]) 2 (fun _=>z) (fun _=>zn) (fun x=>n - x.1) (Al.R (PB z zn 0 n c cc p (aF ms) (skφ ms n)).l) (i,ms') .normal (Av k) [(0,eE (aX 1 n c) p),(1,dR (aF (y9 ms' i k)) cc)] 2 z zn:=fun k k0 kn kp kb km=>by
  refine⟨(k,y9 ms' i k),rfl,rfl,rfl,rfl,rfl,⟨.inl kn,by simp only[lq];exact h2,?_,fun v=>?_⟩,by simp only;omega⟩
  ·simp only
   rw[mP (by omega) (by omega)]
   exact FK iV h3 k0 kn kp kb km
  ·simp only
   rw[mP (by omega) (by omega),tq (by omega) kn]
   exact h4 v
 refine t100 (Xi z zn i n c cc p (fun x y=>dK (hf ms' x.toNat) (hf ms' y.toNat)) (fun x y=>aF (y9 ms' x.toNat y.toNat)) (aF ms') (ak _ _ _ _ _ _ _ _ _) ?_)
 by_cases hA:n<=2*i+1
 ·have d1:decide ((2*(i:Int)+1)>=(n:Int))=true:=by simp;omega
  refine⟨w1,w2,fun _=>?_,nC1 d1⟩
  (repeat' first|(with_reducible first|exact rfl|assumption|apply And.intro|exact cw _ _))
  exact out fun k kn k0 kp=>by omega
 ·have d1:decide ((2*(i:Int)+1)>=(n:Int))=false:=by simp;omega
  refine⟨w1,w2,nC1 d1,fun _=>?_⟩
  have g: ∀a b,a<n->b<n->_:=fun a b ha hb=>uY hz ms' a b n c cc p ha hb (by omega)
  have s: ∀a b,a<n->b<n->_:=fun a b ha hb=>yF hz ms' a b n c cc p ha hb (by omega) (by omega)
  have gA:=g (2*i+1) i (by omega) (by omega)
  have sA:=s i (2*i+1) (by omega) (by omega)
  rw[e1,e2] at*
  by_cases hB:2*i+2<n
  ·have gB:=g (2*i+2) (2*i+1) hB (by omega)
   have gC:=g (2*i+2) i hB (by omega)
   have sC:=s i (2*i+2) (by omega) hB
   have d2:decide (((2*i+2:Nat):Int)<(n:Int))=true:=by simp;omega
   simp only[Int.toNat_natCast]
   (repeat' first|(with_reducible first|exact rfl|exact True.intro|assumption|apply And.intro|exact cw _ _)|exact w3|exact gA|exact gB|exact gC|exact sA|exact sC|intro hq)
   all_goals try (exfalso;have h':decide (((2*i+2:Nat):Int)<(n:Int))=false:=(by with_reducible assumption);rw[d2] at h';cases h';done)
   all_goals simp only[Bool.not_eq_true',Bool.not_eq_false'] at*
   ·have f1:dK (hf ms' (2*i+2)) (hf ms' (2*i+1))=true:=by with_reducible assumption
    have f2:dK (hf ms' (2*i+2)) (hf ms' i)=false:=by with_reducible assumption
    exact out fun k kn k0 kp=>by
     have:k=2*i+1\/k=2*i+2:=by omega
     rcases this with rfl|rfl
     ·exact iV.trans _ _ _ f2 (iV.asymm _ _ f1)
     ·exact f2
   ·have f1:dK (hf ms' (2*i+2)) (hf ms' (2*i+1))=true:=by with_reducible assumption
    have f2:dK (hf ms' (2*i+2)) (hf ms' i)=true:=by with_reducible assumption
    exact jY (2*i+2) (by omega) hB (by omega) f2 fun k kn k0 kp=>by
     have:k=2*i+1\/k=2*i+2:=by omega
     rcases this with rfl|rfl
     ·exact iV.asymm _ _ f1
     ·exact Xf _
   ·have f1:dK (hf ms' (2*i+2)) (hf ms' (2*i+1))=false:=by with_reducible assumption
    have f2:dK (hf ms' (2*i+1)) (hf ms' i)=false:=by with_reducible assumption
    exact out fun k kn k0 kp=>by
     have:k=2*i+1\/k=2*i+2:=by omega
     rcases this with rfl|rfl
     ·exact f2
     ·exact iV.trans _ _ _ f2 f1
   ·have f1:dK (hf ms' (2*i+2)) (hf ms' (2*i+1))=false:=by with_reducible assumption
    have f2:dK (hf ms' (2*i+1)) (hf ms' i)=true:=by with_reducible assumption
    exact jY (2*i+1) (by omega) (by omega) (by omega) f2 fun k kn k0 kp=>by
     have:k=2*i+1\/k=2*i+2:=by omega
     rcases this with rfl|rfl
     ·exact Xf _
     ·exact f1
  ·have d2:decide (((2*i+2:Nat):Int)<(n:Int))=false:=by simp;omega
   simp only[Int.toNat_natCast]
   (repeat' first|(with_reducible first|exact rfl|exact True.intro|assumption|apply And.intro|exact cw _ _)|exact w3|exact gA|exact sA|intro hq)
   all_goals try (exfalso;have h':decide (((2*i+2:Nat):Int)<(n:Int))=true:=(by with_reducible assumption);rw[d2] at h';cases h';done)
   all_goals simp only[Bool.not_eq_true',Bool.not_eq_false'] at*
   ·have f2:dK (hf ms' (2*i+1)) (hf ms' i)=false:=by with_reducible assumption
    exact out fun k kn k0 kp=>by
     have:k=2*i+1:=by omega
     subst this;exact f2
   ·have f2:dK (hf ms' (2*i+1)) (hf ms' i)=true:=by with_reducible assumption
    exact jY (2*i+1) (by omega) (by omega) (by omega) f2 fun k kn k0 kp=>by
     have:k=2*i+1:=by omega
     subst this;exact Xf _
theorem Qo(hz:ay z zn)(ms:List b8)(n c cc:Nat)(p:Int)(hn:n<=ms.length)(hc:ms.length*4<=cc)(hs:n<100000000)(hU:qq dK (hf ms) n 0):
 aT prog z zn 136 [ip 0] [(0,eE (aX 1 n c) p),(1,dR (aF ms) cc)] 2 2 (skφ ms n) (fun _=> .tuple ⟨[]⟩) (fun ms=>[(0,eE (aX 1 n c) p),(1,dR (aF ms) cc)]):=by
 have hK:=LZ hz ms n c cc p hn hc hs hU
 refine gi (cS z) (fn:=f136) (by kernel_rfl) (by kernel_rfl) hz ⟨by decide,by decide⟩ (fun _ _=>⟨rfl,Nat.le_refl _,hz⟩) (N:=100) ?_
 refine TE z zn n c cc p (aF ms) (skφ ms n) _ ?_
 (repeat' first|(with_reducible first|exact rfl|assumption|apply And.intro|exact cw _ _)|exact hK|intro hq)
 all_goals
  rename_i ms'
  exact q2 ms' hq rfl rfl rfl rfl rfl
def popφ(ms:List b8)(n:Nat)(ms':List b8):Prop:=ms'.length=ms.length/\nv dK (hf ms') (n - 1)/\ ∀v,gN (hf ms') (n - 1) v↔ ∃i,0<i/\i<n/\hf ms i=v
theorem TS(hz:ay z zn)(ms:List b8)(n c cc:Nat)(p:Int)(h0:0<n)(hn:n<=ms.length)(hcn:n<=c)(hc:ms.length*4<=cc)(hs:n<100000000)(hU:nv dK (hf ms) n):
 aT prog z zn 127 [ip 0] [(0,eE (aX 1 n c) p),(1,dR (aF ms) cc)] 2 2 (popφ ms n) (fun _=> .tuple ⟨[.agg ⟨(hf ms 0).x.row⟩,T1]⟩) (fun ms=>[(0,eE (aX 1 (n - 1) c) p),(1,dR (aF ms) cc)]):=by
 have hk:=JK hz n c cc p ms hn (hf ms 0).x (by rw[if_neg (by omega)])
 rw[show decide (0<n)=true by simp;omega] at hk
 have hw:=yF hz ms 0 (n - 1) n c cc p h0 (by omega) hn hc
 have hd:qq dK (hf (y9 ms 0 (n - 1))) (n - 1) 0:=by
  rw[mP (by omega) (by omega)]
  obtain⟨m,rfl⟩: ∃m,n=m+1:=⟨n - 1,by omega⟩
  exact CW hU
 have Xi:=Qo hz (y9 ms 0 (n - 1)) (n - 1) c cc p (by rw[lq];omega) (by rw[lq];exact hc) (by omega) (by exact hd)
 have e1:(n:Int) - 1=((n - 1:Nat):Int):=by omega
 have w1:Value.int .i64 (IntKind.i64.wrap ((n:Int) - 1))=Value.int .i64 ((n:Int) - 1):=jC (by omega) (by omega)
 refine gi (cS z) (fn:=f127) (by kernel_rfl) (by kernel_rfl) hz ⟨by decide,by decide⟩ (fun _ _=>⟨rfl,Nat.le_refl _,hz⟩) (N:=100) ?_
 refine IX z zn n c cc p (hf ms 0).x (fun x y=>aF (y9 ms x.toNat y.toNat)) (aF ms) (skφ (y9 ms 0 (n - 1)) (n - 1)) _ ?_
 rw[e1] at w1 ⊢
 simp only[Int.toNat_natCast,Int.toNat_zero]
 (repeat' first|(with_reducible first|exact rfl|exact True.intro|assumption|apply And.intro|exact Nat.zero_le _|exact cw _ _|exact(by omega:n - 1<=c)|exact(by omega:0<c))|exact hk|exact hw|exact Xi|intro hq)
 all_goals
  rename_i ms'
  obtain⟨k1,k2,k3⟩:=hq
  rw[lq] at k1
  refine q2 ms' ⟨k1,k2,fun v=>(k3 v).trans ?_⟩ rfl rfl rfl rfl rfl
  rw[mP (by omega) (by omega)]
  obtain⟨m,rfl⟩: ∃m,n=m+1:=⟨n - 1,by omega⟩
  exact GW v
theorem Qt(hz:ay z zn)(ms:List b8)(c cc:Nat)(p:Int):
 A1 z zn 127 [ip 0] [(0,eE (aX 1 0 c) p),(1,dR (aF ms) cc)] 2 2 (.tuple ⟨[.agg ⟨[I 0,I 0,I 0]⟩,F0]⟩) [(0,eE (aX 1 0 c) p),(1,dR (aF ms) cc)]:=by
 have hk:=JK hz 0 c cc p ms (Nat.zero_le _) ⟨0,0,0⟩ (by rw[if_pos rfl])
 refine aK1 (cS z) (fn:=f127) hz (N:=100) ?_
 refine TF z zn 0 c cc p (aF ms) (fun _=>True) _ ?_
 (repeat' first|(with_reducible first|exact rfl|assumption|apply And.intro|exact cw _ _)|exact hk|exact q1|intro hq)
end
end Go.Proofs.Nw
namespace Go.Proofs.Nw
open Go Go.AV Tryz
set_option maxRecDepth 1000000
noncomputable section
abbrev cQ(n:Nat):Value:=SL 1 n n
abbrev ml(cs2:List Value)(n:Nat):aa:=BQ cs2 (n*3) 3 196
abbrev qY(n:Nat):Nat × Value:=(7,cQ n)
theorem ZY(z:T aa)(zn n fr i ck:Nat)(es:List MapEntry)(cs cs2:List Value)(Q:QL)(hyp:Br (decide ((↑i:Int)<(↑n:Int))) (Yz i/\i<n/\overwrite cs (0+i*3) [IV i,J 0,J 0]=some cs2/\cs2.length<=n*3/\ZV (IntKind.i64.wrap ((↑i:Int)+1))=IV (i+1)/\E6 82 z zn (R6 (IV n) YK (IV fr) (cQ n) (IV n) (IV (i+1)) (K2 nS (YE es ck) (ml cs2 n) (Q aN [(0,IV n),(1,YK),(2,IV fr),qY n,(17,IV n),(18,IV (i+1))] [YG es ck,(1,ml cs2 n)] 2 z zn)))) (E6 82 z zn (R3 YK (IV fr) (cQ n) (K2 nS (YE es ck) (ml cs n) (Q YO [(1,YK),(2,IV fr),qY n] [YG es ck,(1,ml cs n)] 2 z zn))))):ew prog gH z (ah (ag f113) 0) 82 (Fj n fr i) z [YG es ck,(1,ke cs n)] 2 zn 2 Q:=K1t hyp ((tA 1 (tO (Y9 i) (tX (my.NM cs2) (tO (dS i) (tE dq [] [(0,IV n),(1,YK),(2,IV fr),qY n,(17,IV n),(18,IV (i+1))] [YG es ck,(1,ml cs2 n)] 2 z zn))))).fork (tA 1 (tE dq [] [(1,YK),(2,IV fr),qY n] [YG es ck,(1,ml cs n)] 2 z zn)))
abbrev jZ:Value:=PT 2
noncomputable abbrev QN:Code:=ah (ag f113) 1
theorem W6(z:T aa)(zn n hn hc hcc ck:Nat)(p:Int)(es:List MapEntry)(cs ns:List Value)(Q:QL)(hyp:aT prog z zn 127 [Yi] (gx hn hc p ns hcc) 2 2 Yx Vf (qZ hn hc p ns hcc)/\Rs [jZ]/\QQ hn hc p/\KO (sig [(0,2),(1,4)]) (mn ns hcc)/\ ∀(x:Unit),True->Rs Np/\j0 hn hc p/\KO (sig [(2,0),(4,1)]) (mn ns hcc)/\E6 82 z zn (Rs (cQ n)/\K2 nS (YE es ck) (ml cs n) (Q af.ret [(6,cQ n)] [YG es ck,(1,ml cs n)] 5 z zn))):ew prog gH z QN 82 (lK n) z [YG es ck,(1,ke cs n),(2,eE (aX 4 hn hc) p),(4,dR ns hcc)] 5 zn 4 Q:=K1t hyp (Tr.cm (Cm.mk [Yi] (gx hn hc p ns hcc) 2 2 [(0,2),(1,4)] [(2,0),(4,1)] 5) Unit Yx Vf (qZ hn hc p ns hcc) Vf (fun(x:Unit)=>[(2,BQ [kL,SL 4 hn hc,ZV p] 3 1 211),(4,mn ns hcc)]) (fZ z) (fY zn) fun(x:Unit)=>tA 2 (tE dq [] [(6,cQ n)] [YG es ck,(1,ml cs n)] 5 z zn))
abbrev XX(hn hc:Nat)(p:Int):Prop:=Rs (BQ [kL,SL 4 (hn - 1) hc,ZV p] 3 1 211)
abbrev KD(n:Nat):List (Nat × Value):=[(1,YK),qY n,(9,jZ)]
abbrev Ug(hn hc:Nat)(p:Int):Nat × aa:=(2,BQ [kL,SL 4 (hn - 1) hc,ZV p] 3 1 211)
abbrev XW(x:Nat × Nat × Nat):Nat × Value:=(x.fst,tb x.snd.fst x.snd.snd x.snd.snd)
abbrev B0:af:=af.exit 4
abbrev Ry:List (Nat × Nat):=[YB,Ye,Yl,(5,5),(6,4)]
abbrev Ve(a:cL):Prop:=Rs (BQ [ZV a.node,ZV a.len,ZV a.gm] 3 1 196)
abbrev Vd:Nat->Option Nat:=aA [YB,Ye,Yl,(4,6)] []
theorem lb1(z:T aa)(zn n hn hc hcc nd ck:Nat)(p e:Int)(es:List MapEntry)(cs cs2 ns:List Value)(a:cL)(φ:List b8->Prop)(ψ:List b8->Nat->Nat->qx->Prop)(Q:QL)(hyp:(aT prog z zn 127 [Yi] (gx hn hc p ns hcc) 2 2 φ (fun(x:List b8)=>TP [AG a.row,T1]) fun(ms:List b8)=>[(0,eE (aX 1 (hn - 1) hc) p),(1,dR (aF ms) hcc)])/\Rs [jZ]/\QQ hn hc p/\KO (sig [(0,2),(1,4)]) (mn ns hcc)/\ ∀(x:List b8),φ x->Rs (KE a)/\Rs (BQ [kL,SL 1 (hn - 1) hc,ZV p] 3 1 211)/\KO (sig [(2,0),(4,1)]) (vV x hcc)/\a.node=(↑nd:Int)/\nd<n/\aE prog (ba.mk cs (n*3) 3 196 true true 0 true) 3 (0+nd*3+2)=some (ZV e)/\(decide (e>=0)=true->E6 82 z zn (R3 YK (cQ n) jZ (K2 (aA [YB,Ye,Yl,(4,4)] []) (YE es ck) (ml cs n) (XX hn hc p/\KO (aA [YB,Ye,Yl,(4,4)] []) (vV x hcc)/\Q aN (KD n) [YG es ck,(1,ml cs n),Ug hn hc p,(4,vV x hcc)] 5 z zn))))/\(decide (e>=0)=false->a.node=(↑nd:Int)/\nd<n/\overwrite cs (0+nd*3) [ZV a.node,ZV a.len,ZV a.gm]=some cs2/\cs2.length<=n*3/\aC prog 3 (ZV a.node) es 0≠none/\(∀(p:Nat × Value),aC prog 3 (ZV a.node) es 0=YH p-> ∃(x:Nat × Nat × Nat),p=XW x)/\(∀(i:Nat × Nat × Nat),aC prog 3 (ZV a.node) es 0=some (some (XW i))->Rf 6/\ai prog (ah QN 0) 6 82 (CE n i.snd.fst i.snd.snd 0) (qA n ck es cs2 a (eE (aX 6 (hn - 1) hc) p) (dR (aF x) hcc)) 7 z zn (Al.cons qx (ψ x i.snd.fst i.snd.snd) (fun(s:qx)=>ax.mk B0 (lK n) [YG es ck,(1,ke cs2 n),(2,xh 6 s),(6,wD s)] 7 z zn) (fun(x:qx)=>eO) Al.nil).R/\E6 82 z zn (R7 YK (cQ n) jZ (PT 5) (SL (tF i.snd.fst) i.snd.snd i.snd.snd) (IV i.snd.snd) YM (K2 (aA Ry []) (YE es ck) (ml cs2 n) (XX hn hc p/\Ve a/\KO (aA Ry []) (vV x hcc)/\ ∀(x_1:qx),ψ x i.snd.fst i.snd.snd x_1->E6 82 z zn (R3 YK (cQ n) jZ (K2 Vd (YE es ck) (ml cs2 n) (Rs (BQ [kL,SL 6 x_1.n x_1.ms.length,ZV x_1.p] 3 1 211)/\KO Vd (BR (aF x_1.ms) (x_1.ms.length*4) 4 213)/\Q aN (KD n) [YG es ck,(1,ml cs2 n),(2,BQ [kL,SL 4 x_1.n x_1.ms.length,ZV x_1.p] 3 1 211),(4,BR (aF x_1.ms) (x_1.ms.length*4) 4 213)] 5 z zn)))))))/\(aC prog 3 (ZV a.node) es 0=YL->Rf 6/\ai prog (ah QN 0) 6 82 (wV n) (qA n ck es cs2 a (eE (aX 6 (hn - 1) hc) p) (dR (aF x) hcc)) 7 z zn (alt True (ax.mk B0 (lK n) [YG es ck,(1,ke cs2 n),(2,eE (aX 6 (hn - 1) hc) p),(6,dR (aF x) hcc)] 7 z zn) Al.nil).R/\E6 82 z zn (R7 YK (cQ n) jZ (PT 5) Yk YM YM (K2 (aA Ry []) (YE es ck) (ml cs2 n) (XX hn hc p/\Ve a/\KO (aA Ry []) (vV x hcc)/\ ∀(x_1:Unit),True->E6 82 z zn (R3 YK (cQ n) jZ (K2 Vd (YE es ck) (ml cs2 n) (Rs (BQ [kL,SL 6 (hn - 1) hc,ZV p] 3 1 211)/\KO Vd (vV x hcc)/\Q aN (KD n) [YG es ck,(1,ml cs2 n),Ug hn hc p,(4,vV x hcc)] 5 z zn))))))))):ew prog gH z QN 82 (lK n) z [YG es ck,(1,ke cs n),(2,eE (aX 4 hn hc) p),(4,dR ns hcc)] 5 zn 4 Q:=K1t hyp (Tr.cm (Cm.mk [Yi] (gx hn hc p ns hcc) 2 2 [(0,2),(1,4)] [(2,0),(4,1)] 5) (List b8) φ (fun(x:List b8)=>TP [AG a.row,T1]) (fun(ms:List b8)=>[(0,eE (aX 1 (hn - 1) hc) p),(1,dR (aF ms) hcc)]) (fun
 (x:List b8)=>KE a) (fun(x:List b8)=>[Ug hn hc p,(4,vV x hcc)]) (fun(x:List b8)=>z) (fun(x:List b8)=>zn) fun(x:List b8)=>tA 3 (tO (Y9 nd) (tO (An.D1 (zv e)) ((tA 1 (tE [YB,Ye,Yl,(4,4)] [] (KD n) [YG es ck,(1,ml cs n),Ug hn hc p,(4,vV x hcc)] 5 z zn)).fork (tA 3 (tO (Y9 nd) (tX (my.NM cs2) (tA 1 (Tr.find (Nat × Nat × Nat) XW (fun(i:Nat × Nat × Nat)=>Tr.lp 6 82 Ry [] (CE n i.snd.fst i.snd.snd 0) (qA n ck es cs2 a (eE (aX 6 (hn - 1) hc) p) (dR (aF x) hcc)) 7 z zn (Al.cons qx (ψ x i.snd.fst i.snd.snd) (fun(s:qx)=>ax.mk B0 (lK n) [YG es ck,(1,ke cs2 n),(2,xh 6 s),(6,wD s)] 7 z zn) (fun(x:qx)=>tE [YB,Ye,Yl,(4,6)] [] (KD n) [YG es ck,(1,ml cs2 n),(2,BQ [kL,SL 4 x.n x.ms.length,ZV x.p] 3 1 211),(4,BR (aF x.ms) (x.ms.length*4) 4 213)] 5 z zn) Al.nil)) (Tr.lp 6 82 Ry [] (wV n) (qA n ck es cs2 a (eE (aX 6 (hn - 1) hc) p) (dR (aF x) hcc)) 7 z zn (Al.cons Unit Yx (fun(x_1:Unit)=>ax.mk B0 (lK n) [YG es ck,(1,ke cs2 n),(2,eE (aX 6 (hn - 1) hc) p),(6,dR (aF x) hcc)] 7 z zn) (fun(x_1:Unit)=>tE [YB,Ye,Yl,(4,6)] [] (KD n) [YG es ck,(1,ml cs2 n),Ug hn hc p,(4,vV x hcc)] 5 z zn) Al.nil)))))))))))
abbrev yW(e:eF):List Value:=[ZV e.fz1,ZV e.aq,ZV e.wt]
abbrev YFz(hn:Nat)(p:Int):List b8->List (Nat × aa):=fun(ms:List b8)=>[(0,eE (aX 2 (hn+1) ms.length) (p+1)),(2,dR (aF ms) (ms.length*4))]
abbrev Vl(hn hc:Nat)(p:Int):Prop:=Rs (BQ [kL,SL 6 hn hc,ZV p] 3 1 211)
abbrev Uk(x:List b8):aa:=BR (aF x) (x.length*4) 4 213
abbrev Vk(n k m j:Nat):List (Nat × Value):=[(1,YK),qY n,(9,jZ),(10,PT 5),(55,eJ k m),(56,IV m),(57,IV (j+1))]
abbrev Vj(a:cL):Nat × aa:=(5,BQ [ZV a.node,ZV a.len,ZV a.gm] 3 1 196)
abbrev RC(hn hc:Nat)(p:Int):Nat × aa:=(2,BQ [kL,SL 6 hn hc,ZV p] 3 1 211)
abbrev Vi:Nat->Option Nat:=aA [YB,Ye,Yl,(6,6)] []
theorem ZX(z:T aa)(zn n hn hc hcc k m j nt ck:Nat)(kb:ba)(p ee:Int)(es:List MapEntry)(cs ns:List Value)(a:cL)(e:eF)(φ:List b8->Prop)(Q:QL)(hyp:Br (decide ((↑j:Int)<(↑m:Int))) (Yz j/\j<m/\Y0 k/\Y2 z k kb/\aE prog kb 175 (0+j*3)=some (AG (yW e))/\e.aq=(↑nt:Int)/\nt<n/\aE prog (ba.mk cs (n*3) 3 196 true true 0 true) 3 (0+nt*3+2)=some (ZV ee)/\Br (decide (ee<0)) (WQ1 (a.len+e.wt)/\WQ1 (a.gm+1)/\aT prog z zn 126 [Yi,AG [ZV e.aq,ZV (a.len+e.wt),ZV (a.gm+1)]] (gx hn hc p ns hcc) 2 3 φ Rz (YFz hn p)/\Rs [jZ,AG [ZV e.aq,ZV (a.len+e.wt),ZV (a.gm+1)]]/\Vl hn hc p/\KO (sig [(0,2),(1,6)]) (mn ns hcc)/\ ∀(x:List b8),φ x->mA/\Rs (BQ [kL,SL 2 (hn+1) x.length,xK p] 3 1 211)/\KO (sig [(2,0),(6,1),(8,2)]) (Uk x)/\ZV (IntKind.i64.wrap ((↑j:Int)+1))=IV (j+1)/\E6 82 z zn (R7 YK (cQ n) jZ (PT 5) (eJ k m) (IV m) (IV (j+1)) (K2 (aA [YB,Ye,Yl,(5,5),(6,8)] []) (YE es ck) (ml cs n) (Rs (BQ [kL,SL 8 (hn+1) x.length,xK p] 3 1 211)/\Ve a/\KO (aA [YB,Ye,Yl,(5,5),(6,8)] []) (Uk x)/\Q aN (Vk n k m j) [YG es ck,(1,ml cs n),(2,BQ [kL,SL 6 (hn+1) x.length,xK p] 3 1 211),Vj a,(6,Uk x)] 7 z zn)))) (ZV (IntKind.i64.wrap ((↑j:Int)+1))=IV (j+1)/\E6 82 z zn (R7 YK (cQ n) jZ (PT 5) (eJ k m) (IV m) (IV (j+1)) (K2 (aA [YB,Ye,Yl,(5,5),(6,6)] []) (YE es ck) (ml cs n) (Vl hn hc p/\Ve a/\KO (aA [YB,Ye,Yl,(5,5),(6,6)] []) (mn ns hcc)/\Q aN (Vk n k m j) [YG es ck,(1,ml cs n),RC hn hc p,Vj a,(6,mn ns hcc)] 7 z zn))))) (E6 82 z zn (R3 YK (cQ n) jZ (K2 Vi (YE es ck) (ml cs n) (Vl hn hc p/\KO Vi (mn ns hcc)/\Q B0 (KD n) [YG es ck,(1,ml cs n),RC hn hc p,(6,mn ns hcc)] 7 z zn))))):ew prog gH z (ah QN 0) 82 (CE n k m j) z (qA n ck es cs a (eE (aX 6 hn hc) p) (dR ns hcc)) 7 zn 6 Q:=K1t hyp ((tA 1 (tO (Y9 j) (tO (An.ld k kb (AG e.row)) (tA 2 (tO (Y9 nt) (tO (An.D1 (zv ee)) ((tA 4 (tO (An.val (ZV (a.len+e.wt))) (tA 1 (tO (An.val (ZV (a.gm+1))) (Tr.cm (Cm.mk [Yi,AG [ZV e.aq,ZV (a.len+e.wt),ZV (a.gm+1)]] (gx hn hc p ns hcc) 2 3 [(0,2),(1,6)] [(2,0),(6,1),(8,2)] 9) (List b8) φ Rz (YFz hn p) Rz (fun(x:List b8)=>[(2,BQ [kL,SL 8 (hn+1) x.length,xK p] 3 1 211),(8,Uk x)]) (fun(x:List b8)=>z) (fun(x:List b8)=>zn) fun(x:List b8)=>tO (dS j) (tE [YB,Ye,Yl,(5,5),(6,8)] [] (Vk n k m j) [YG es ck,(1,ml cs n),(2,BQ [kL,SL 6 (hn+1) x.length,xK p] 3 1 211),Vj a,(6,Uk x)] 7 z zn)))))).fork (tA 1 (tO (dS j) (tE [YB,Ye,Yl,(5,5),(6,6)] [] (Vk n k m j) [YG es ck,(1,ml cs n),RC hn hc p,Vj a,(6,mn ns hcc)] 7 z zn)))))))))).fork (tA 1 (tE [YB,Ye,Yl,(6,6)] [] (KD n) [YG es ck,(1,ml cs n),RC hn hc p,(6,mn ns hcc)] 7 z zn)))
theorem W5(z:T aa)(zn n hn hc hcc ck:Nat)(p:Int)(es:List MapEntry)(cs ns:List Value)(a:cL)(Q:QL)(hyp:E6 82 z zn (R3 YK (cQ n) jZ (K2 Vi (YE es ck) (ml cs n) (Vl hn hc p/\KO Vi (mn ns hcc)/\Q B0 (KD n) [YG es ck,(1,ml cs n),RC hn hc p,(6,mn ns hcc)] 7 z zn)))):ew prog gH z (ah QN 0) 82 (wV n) z (qA n ck es cs a (eE (aX 6 hn hc) p) (dR ns hcc)) 7 zn 6 Q:=K1t hyp (tA 2 (tE [YB,Ye,Yl,(6,6)] [] (KD n) [YG es ck,(1,ml cs n),RC hn hc p,(6,mn ns hcc)] 7 z zn))
abbrev ep(n:Nat):Value:=SL 0 n n
theorem ZW(z:T aa)(zn n i:Nat)(cs cs2 cs3:List Value)(a:cL)(Q:QL)(hyp:Br (decide ((↑i:Int)<(↑n:Int))) (Yz i/\i<n/\aE prog (ba.mk cs (n*3) 3 196 true true 0 true) 196 (0+i*3)=some (AG [ZV a.node,ZV a.len,ZV a.gm])/\Yz i/\i<n/\overwrite cs2 (0+i*1) [ZV a.len]=some cs3/\cs3.length<=n*1/\ZV (IntKind.i64.wrap ((↑i:Int)+1))=IV (i+1)/\E6 23 z zn (R4 (cQ n) (ep n) (IV n) (IV (i+1)) (K2 nS (ml cs n) (BQ cs3 (n*1) 1 3) (Q aN [(3,cQ n),(9,ep n),(10,IV n),(11,IV (i+1))] [(0,ml cs n),(1,BQ cs3 (n*1) 1 3)] 2 z zn)))) (E6 23 z zn (Rs (cQ n)/\KO (aA Yf []) (BQ cs2 (n*1) 1 3)/\Q YO [(3,cQ n)] [(1,BQ cs2 (n*1) 1 3)] 2 z zn))):ew prog gH z (ah (ag f112) 0) 23 (Fc n i) z [(0,ke cs n),(1,Ft cs2 n)] 2 zn 2 Q:=K1t hyp ((tA 1 (tO (Y9 i) (tO (An.D1 (AG a.row)) (tA 2 (tO (Y9 i) (tX (my.NM cs3) (tO (dS i) (tE dq [] [(3,cQ n),(9,ep n),(10,IV n),(11,IV (i+1))] [(0,ml cs n),(1,BQ cs3 (n*1) 1 3)] 2 z zn)))))))).fork (tA 1 (tE Yf [] [(3,cQ n)] [(1,BQ cs2 (n*1) 1 3)] 2 z zn)))
abbrev YF7(fr:Nat):Unit->List (Nat × aa):=fun(x:Unit)=>[(0,eE (aX 1 1 1) 1),(1,dR (b8.mk (cL.mk (↑fr:Int) 0 0) 0).row 4)]
abbrev Ou(x:List cL)(n:Nat):aa:=BQ (aU x) (n*3) 3 196
theorem lb(z:T aa)(zn n fr ck:Nat)(es:List MapEntry)(cs cs2:List Value)(φ:List cL->Prop)(Q:QF)(hyp:Yz n/\Yz n/\n<=1048576/\rep n YW=cs/\sZ/\ai prog (ah (ag f113) 0) 2 82 (Fj n fr 0) [YG es ck,(1,ke cs n)] 2 z zn (alt True (ax.mk YO [(1,mp 0),(2,iv fr),(7,aX 1 n n)] [YG es ck,(1,ke cs2 n)] 2 z zn) Al.nil).R/\E6 82 z zn (R6 (IV n) YK (IV fr) (cQ n) (IV n) YM (K2 nS (YE es ck) (ml cs n) (∀(x:Unit),True->(aT prog z zn 124 [kL] [] 0 1 Yx (fun(x:Unit)=>Y8) fun(x:Unit)=>[(0,eE az 0)])/\Rs [kL]/\ ∀(x:Unit),True->B6/\Rs Ox/\aT prog z zn 126 [Yi,AG [IV fr,YM,YM]] [(0,Ox)] 1 2 Yx mz (YF7 fr)/\Rs [jZ,AG [IV fr,YM,YM]]/\Rs Ox/\ ∀(x:Unit),True->mA/\Rs (BQ [kL,SL 1 1 1,I 1] 3 1 211)/\Rs (BR [IV fr,YM,YM,YM] 4 4 213)/\Rf 4/\ai prog QN 4 82 (lK n) [YG es ck,(1,ke cs2 n),(2,eE (aX 4 1 1) 1),(4,dR (b8.mk (cL.mk (↑fr:Int) 0 0) 0).row 4)] 5 z zn (Al.cons (List cL) φ (fun(l:List cL)=>ax.mk af.ret [(6,aX 1 n n)] [YG es ck,(1,ke (aU l) n)] 5 z zn) (fun(x:List cL)=>eO) Al.nil).R/\E6 82 z zn (R3 YK (cQ n) jZ (K2 (aA [YB,Ye,Yl,(4,3)] []) (YE es ck) (ml cs2 n) (Rs (BQ [kL,SL 3 1 1,I 1] 3 1 211)/\Rs (BR [IV fr,YM,YM,YM] 4 4 213)/\ ∀(x:List cL),φ x->E6 82 z zn (K2 nS (YE es ck) (Ou x n) (Rs (cQ n)/\Q (cQ n) [YG es ck,(1,Ou x n)] 2 z zn))))))))):ed prog gH z f113 [iv n,mp 0,iv fr] z [YG es ck] 1 zn Q:=K1t hyp (tX (my.SS n cs) (Tr.lp 2 82 dq [] (Fj n fr 0) [YG es ck,(1,ke cs n)] 2 z zn (Al.cons Unit Yx (fun(x:Unit)=>ax.mk YO [(1,mp 0),(2,iv fr),(7,aX 1 n n)] [YG es ck,(1,ke cs2 n)] 2 z zn) (fun(x:Unit)=>Tr.cm (Cm.mk [kL] [] 0 1 [] [(2,0)] 3) Unit Yx (fun(x:Unit)=>Y8) (fun(x:Unit)=>[(0,eE az 0)]) (fun(x:Unit)=>jZ) (fun(x:Unit)=>[(2,Ox)]) (fZ z) (fY zn) fun(x:Unit)=>Tr.cm (Cm.mk [Yi,AG [IV fr,YM,YM]] [(0,Ox)] 1 2 [(0,2)] [(2,0),(3,1)] 4) Unit Yx mz (YF7 fr) mz (fun(x:Unit)=>[(2,BQ [kL,SL 3 1 1,I 1] 3 1 211),(3,BR [IV fr,YM,YM,YM] 4 4 213)]) (fZ z) (fY zn) fun(x:Unit)=>Tr.lp 4 82 [YB,Ye,Yl,(4,3)] [] (lK n) [YG es ck,(1,ke cs2 n),(2,eE (aX 4 1 1) 1),(4,dR (b8.mk (cL.mk (↑fr:Int) 0 0) 0).row 4)] 5 z zn (Al.cons (List cL) φ (fun(l:List cL)=>ax.mk af.ret [(6,aX 1 n n)] [YG es ck,(1,ke (aU l) n)] 5 z zn) (fun(x:List cL)=>tR dq [] (cQ n) [YG es ck,(1,Ou x n)] 2 z zn) Al.nil)) Al.nil)))
theorem ln(z:T aa)(zn n:Nat)(cs cs2 cs3:List Value)(Q:QF)(hyp:Yz n/\Yz n/\n<=1048576/\rep n [YM]=cs2/\sZ/\ai prog (ah (ag f112) 0) 2 23 (Fc n 0) [(0,ke cs n),(1,Ft cs2 n)] 2 z zn (alt True (ax.mk YO [(3,aX 1 n n)] [(1,Ft cs3 n)] 2 z zn) Al.nil).R/\E6 23 z zn (R4 (cQ n) (ep n) (IV n) YM (K2 (aA [Ye,YB] []) (ml cs n) (BQ cs2 (n*1) 1 3) (∀(x:Unit),True->E6 23 z zn (KO (aA Yf []) (BQ cs3 (n*1) 1 3)/\Rs (cQ n)/\Q (cQ n) [(1,BQ cs3 (n*1) 1 3)] 2 z zn))))):ed prog gH z f112 [aX 0 n n] z [(0,ke cs n)] 1 zn Q:=K1t hyp (tX (my.SS n cs2) (Tr.lp 2 23 [Ye,YB] [] (Fc n 0) [(0,ke cs n),(1,Ft cs2 n)] 2 z zn (Al.cons Unit Yx (fun(x:Unit)=>ax.mk YO [(3,aX 1 n n)] [(1,Ft cs3 n)] 2 z zn) (fun(x:Unit)=>tR Yf [] (cQ n) [(1,BQ cs3 (n*1) 1 3)] 2 z zn) Al.nil)))
end
end Go.Proofs.Nw
namespace Go.jo
abbrev bU:=Nat->Nat->Nat->Prop
inductive Wk (E:bU)(k:Nat):Nat->Nat->Nat->Prop where
 |mY {i j w:Nat} (h:E i j w):Wk E k i j w
 |cons {i m j w L:Nat} (h:E i m w) (hm:m<k) (t:Wk E k m j L):Wk E k i j (w+L)
theorem Wk.split{E:bU}{k i j L:Nat}(t:Wk E (k+1) i j L):Wk E k i j L\/ ∃a b,Wk E k i k a/\Wk E k k j b/\a+b<=L:=by
 induction t with
 |mY h=>exact .inl (.mY h)
 | @cons i m j w L h hm t ih=>
   by_cases hk:m<k
   ·rcases ih with ih|⟨a,b,h1,h2,h3⟩
    ·exact .inl (.cons h hk ih)
    ·exact .inr ⟨w+a,b, .cons h hk h1,h2,by omega⟩
   ·have:m=k:=by omega
    subst this
    rcases ih with ih|⟨a,b,h1,h2,h3⟩
    ·exact .inr ⟨w,L, .mY h,ih,by omega⟩
    ·exact .inr ⟨w,b, .mY h,h2,by omega⟩
theorem Wk.append{E:bU}{k i m j a b:Nat}(s:Wk E k i m a)(hm:m<k)(t:Wk E k m j b):Wk E k i j (a+b):=by
 induction s with
 |mY h=>exact .cons h hm t
 |cons h1 h2 _ ih=>rw[Nat.add_assoc];exact .cons h1 h2 (ih hm t)
theorem Wk.mono{E E':bU}{k i j L:Nat}(h: ∀a b w,E a b w-> ∃w',w'<=w/\E' a b w')(t:Wk E k i j L): ∃L',L'<=L/\Wk E' k i j L':=by
 induction t with
 |mY h1=>obtain⟨w',a,b⟩:=h _ _ _ h1;exact⟨w',a, .mY b⟩
 |cons h1 h2 _ ih=>
  obtain⟨w',a,b⟩:=h _ _ _ h1
  obtain⟨L',c,d⟩:=ih
  exact⟨w'+L',by omega, .cons b h2 d⟩
def Real(E:bU)(n jA:Nat)(d:Nat->Nat->Int):Prop:= ∀i j,i<n->j<n->0<=d i j/\(d i j<jA->Wk E n i j (d i j).toNat)
def Si(E:bU)(k:Nat)(d:Nat->Nat->Int)(i j:Nat):Prop:= ∀L,Wk E k i j L->d i j<=(L:Int)
def n9(d:Nat->Nat->Int)(i j:Nat)(v:Int):Nat->Nat->Int:=fun a b=>if a=i/\b=j then v else d a b
structure Q7(E:bU)(n jA k i j:Nat)(d:Nat->Nat->Int):Prop where
 real:Real E n jA d
 low: ∀a b,a<n->b<n->Si E k d a b
 done: ∀a b,a<n->b<n->(a<i\/a=i/\b<j)->Si E (k+1) d a b
theorem Si.le{E:bU}{k:Nat}{d d':Nat->Nat->Int}{i j:Nat}(h:Si E k d i j)(hd:d' i j<=d i j):Si E k d' i j:=fun L t=>Int.le_trans hd (h L t)
theorem H4{E:bU}{n jA k i j:Nat}{d:Nat->Nat->Int}(h:Q7 E n jA k i j d)(hk:k<n)(hi:i<n)(hj:j<n):
 Q7 E n jA k i (j+1) (n9 d i j (min (d i j) (d i k+d k j))):=by
 have hle: ∀a b,(n9 d i j (min (d i j) (d i k+d k j))) a b<=d a b:=fun a b=>by
  unfold n9;split
  ·rename_i hc;rw[hc.1,hc.2];omega
  ·omega
 refine⟨fun a b ha hb=>?_,fun a b ha hb=>(h.low a b ha hb).le (hle a b),fun a b ha hb hab=>?_⟩
 ·unfold n9
  split
  ·rename_i hc
   obtain⟨rfl,rfl⟩:=hc
   obtain⟨p1,q1⟩:=h.real a b ha hb
   obtain⟨p2,q2⟩:=h.real a k ha hk
   obtain⟨p3,q3⟩:=h.real k b hk hb
   refine⟨by omega,fun hlt=>?_⟩
   by_cases hm:d a b<=d a k+d k b
   ·rw[Int.min_eq_left hm] at hlt ⊢;exact q1 hlt
   ·rw[Int.min_eq_right (by omega)] at hlt ⊢
    have:=(q2 (by omega)).append hk (q3 (by omega))
    rw[show(d a k+d k b).toNat=(d a k).toNat+(d k b).toNat by omega]
    exact this
  ·exact h.real a b ha hb
 ·by_cases hc:a=i/\b=j
  ·obtain⟨rfl,rfl⟩:=hc
   intro L t
   unfold n9
   rw[if_pos ⟨rfl,rfl⟩]
   rcases t.split with t|⟨x,y,t1,t2,hs⟩
   ·have:=h.low a b ha hb _ t;omega
   ·have e1:=h.low a k ha hk _ t1
    have e2:=h.low k b hk hb _ t2
    omega
  ·exact(h.done a b ha hb (by omega)).le (hle a b)
theorem LL{E:bU}{n jA k i:Nat}{d:Nat->Nat->Int}(h:Q7 E n jA k i n d):Q7 E n jA k (i+1) 0 d:=
 ⟨h.real,h.low,fun a b ha hb hab=>h.done a b ha hb (by omega)⟩
structure Head(E:bU)(n jA k:Nat)(d:Nat->Nat->Int):Prop where
 real:Real E n jA d
 low: ∀a b,a<n->b<n->Si E k d a b
theorem E4{E:bU}{n jA k:Nat}{d:Nat->Nat->Int}(h:Head E n jA k d):Q7 E n jA k 0 0 d:=
 ⟨h.real,h.low,fun a b ha hb hab=>by omega⟩
theorem LM{E:bU}{n jA k:Nat}{d:Nat->Nat->Int}(h:Q7 E n jA k n 0 d):Head E n jA (k+1) d:=
 ⟨h.real,fun a b ha hb=>h.done a b ha hb (.inl ha)⟩
def BU(E:bU)(n jA i j:Nat)(v:Int):Prop:=0<=v/\(v<jA->Wk E n i j v.toNat)/\ ∀L:Nat,Wk E n i j L->v<=L
theorem IZ{E:bU}{n jA:Nat}{d:Nat->Nat->Int}(h:Head E n jA n d){i j:Nat}(hi:i<n)(hj:j<n):BU E n jA i j (d i j):=
 ⟨(h.real i j hi hj).1,(h.real i j hi hj).2,h.low i j hi hj⟩
def cX(l:List (Nat × Nat × Nat)):bU:=fun a b w=>(a,b,w)∈l
theorem wk0{E:bU}{i j L:Nat}(t:Wk E 0 i j L):E i j L:=by
 cases t with
 |mY h=>exact h
 |cons _ h _=>omega
def BT(l:List (Nat × Nat × Nat))(n jA:Nat)(d:Nat->Nat->Int):Prop:= ∀i j,i<n->j<n->0<=d i j/\d i j<=jA/\(d i j<jA->(i,j,(d i j).toNat)∈l)/\ ∀w,(i,j,w)∈l->d i j<=(w:Int)
theorem Fq(n jA:Nat):BT [] n jA (fun _ _=>(jA:Int)):=fun i j _ _=>⟨Int.natCast_nonneg _,Int.le_refl _,fun h=>absurd h (Int.lt_irrefl _),fun w h=>by simp at h⟩
theorem CH{l:List (Nat × Nat × Nat)}{n jA:Nat}{d:Nat->Nat->Int}(h:BT l n jA d)(a b w:Nat):
 BT (l++[(a,b,w)]) n jA (n9 d a b (min (d a b) w)):=by
 intro i j hi hj
 obtain⟨h1,h2,h3,h4⟩:=h i j hi hj
 unfold n9
 split
 ·rename_i hc
  obtain⟨rfl,rfl⟩:=hc
  refine⟨by omega,by omega,fun hlt=>?_,fun x hx=>?_⟩
  ·by_cases hm:d i j<=w
   ·rw[Int.min_eq_left hm] at hlt ⊢;exact List.mem_append_left _ (h3 hlt)
   ·rw[Int.min_eq_right (by omega)];simp
  ·rcases List.mem_append.1 hx with hx|hx
   ·have:=h4 x hx;omega
   ·simp at hx;subst hx;omega
 ·rename_i hc
  refine⟨h1,h2,fun hlt=>List.mem_append_left _ (h3 hlt),fun x hx=>?_⟩
  rcases List.mem_append.1 hx with hx|hx
  ·exact h4 x hx
  ·simp at hx;exact(hc ⟨hx.1,hx.2.1⟩).elim
theorem CI{l:List (Nat × Nat × Nat)}{n jA:Nat}{d:Nat->Nat->Int}(h:BT l n jA d):Head (cX l) n jA 0 d:=
 ⟨fun i j hi hj=>⟨(h i j hi hj).1,fun hlt=> .mY ((h i j hi hj).2.2.1 hlt)⟩,fun a b ha hb L t=>(h a b ha hb).2.2.2 L (wk0 t)⟩
inductive Rc (E:bU)(s:Nat):Nat->Nat->Prop where
 |start:Rc E s s 0
 |snoc {v x w L:Nat} (t:Rc E s v L) (h:E v x w):Rc E s x (L+w)
theorem Rc.cons{E:bU}{i m w v L:Nat}(h:E i m w)(t:Rc E m v L):Rc E i v (w+L):=by
 induction t with
 |start=>simpa using Rc.snoc .start h
 |snoc t h2 ih=>rw[←Nat.add_assoc];exact .snoc ih h2
theorem Wk.rc{E:bU}{k i j L:Nat}(t:Wk E k i j L):Rc E i j L:=by
 induction t with
 |mY h=>simpa using Rc.snoc .start h
 |cons h _ _ ih=>exact .cons h ih
theorem Wk.snoc{E:bU}{n i v x w L:Nat}(t:Wk E n i v L)(hv:v<n)(h:E v x w):Wk E n i x (L+w):=t.append hv (.mY h)
theorem Rc.wk{E:bU}{n s v L:Nat}(hE: ∀a b w,E a b w->a<n/\b<n)(t:Rc E s v L):(v=s/\L=0)\/Wk E n s v L:=by
 induction t with
 |start=>exact .inl ⟨rfl,rfl⟩
 | @snoc v x w L t h ih=>
   rcases ih with ⟨rfl,rfl⟩|ih
   ·exact .inr (by simpa using Wk.mY h)
   ·exact .inr (ih.snoc (hE _ _ _ h).1 h)
structure Dj(E:bU)(s:Nat)(S:Nat->Prop)(d:Nat->Nat)(Q:Nat->Nat->Prop):Prop where
 set: ∀v,S v->Rc E s v (d v)/\ ∀L,Rc E s v L->d v<=L
 wait: ∀v l,Q v l->Rc E s v l
 front: ∀u x w,S u->E u x w->S x\/Q x (d u+w)
 first:S s\/Q s 0
theorem Dj.reach{E:bU}{s:Nat}{S:Nat->Prop}{d:Nat->Nat}{Q:Nat->Nat->Prop}(h:Dj E s S d Q){v L:Nat}(t:Rc E s v L):S v\/ ∃y l,Q y l/\l<=L:=by
 induction t with
 |start=>exact h.first.imp id fun q=>⟨_,_,q,Nat.le_refl _⟩
 | @snoc v x w L t hE ih=>
   rcases ih with hs|⟨y,l,q,hl⟩
   ·have:=(h.set v hs).2 L t
    rcases h.front v x w hs hE with hx|q
    ·exact .inl hx
    ·exact .inr ⟨x,_,q,by omega⟩
   ·exact .inr ⟨y,l,q,by omega⟩
theorem MO{E:bU}{s:Nat}{S:Nat->Prop}{d:Nat->Nat}{Q Q':Nat->Nat->Prop}(h:Dj E s S d Q){x l:Nat}(hx:S x)
 (h1: ∀v k,Q' v k->Q v k) (h2: ∀v k,Q v k->Q' v k\/(v=x/\k=l)):Dj E s S d Q':=by
 refine⟨h.set,fun v k q=>h.wait v k (h1 v k q),fun u y w hu he=>?_,?_⟩
 ·rcases h.front u y w hu he with q|q
  ·exact .inl q
  ·rcases h2 _ _ q with q|⟨rfl,_⟩
   ·exact .inr q
   ·exact .inl hx
 ·rcases h.first with q|q
  ·exact .inl q
  ·rcases h2 _ _ q with q|⟨rfl,_⟩
   ·exact .inr q
   ·exact .inl hx
structure Kn(E:bU)(s:Nat)(S:Nat->Prop)(d:Nat->Nat)(Q:Nat->Nat->Prop)(x:Nat)(l:List (Nat × Nat)):Prop where
 set: ∀v,S v->Rc E s v (d v)/\ ∀L,Rc E s v L->d v<=L
 wait: ∀v l,Q v l->Rc E s v l
 front: ∀u y w,S u->E u y w->(u=x->(y,w)∈l)->S y\/Q y (d u+w)
 first:S s\/Q s 0
theorem FM{E:bU}{s:Nat}{S:Nat->Prop}{d:Nat->Nat}{Q Q':Nat->Nat->Prop}(h:Dj E s S d Q){x l:Nat}(hx: ¬S x)(hq:Q x l)
 (hmin: ∀v k,Q v k->l<=k) (h1: ∀v k,Q' v k->Q v k) (h2: ∀v k,Q v k->Q' v k\/(v=x/\k=l)):
 Kn E s (fun v=>S v\/v=x) (fun v=>if v=x then l else d v) Q' x []:=by
 refine⟨fun v hv=>?_,fun v k q=>h.wait v k (h1 v k q),fun u y w hu he hl=>?_,?_⟩
 ·by_cases hvx:v=x
  ·subst hvx
   simp only[if_true]
   refine⟨h.wait _ _ hq,fun L t=>?_⟩
   rcases h.reach t with hs|⟨y,k,q,hk⟩
   ·exact(hx hs).elim
   ·have:=hmin _ _ q;omega
  ·simp only[if_neg hvx]
   exact h.set v (hv.resolve_right hvx)
 ·by_cases hux:u=x
  ·exact absurd (hl hux) (by simp)
  ·simp only[if_neg hux]
   rcases h.front u y w (hu.resolve_right hux) he with q|q
   ·exact .inl (.inl q)
   ·rcases h2 _ _ q with q|⟨rfl,_⟩
    ·exact .inr q
    ·exact .inl (.inr rfl)
 ·rcases h.first with q|q
  ·exact .inl (.inl q)
  ·rcases h2 _ _ q with q|⟨rfl,_⟩
   ·exact .inr q
   ·exact .inl (.inr rfl)
theorem xw{E:bU}{s:Nat}{S:Nat->Prop}{d:Nat->Nat}{Q Q':Nat->Nat->Prop}{x y w:Nat}{l:List (Nat × Nat)}(h:Kn E s S d Q x l)(hx:S x)(he:E x y w)
 (h1: ∀v k,Q v k->Q' v k) (h2: ∀v k,Q' v k->Q v k\/(v=y/\k=d x+w)) (h3:S y\/Q' y (d x+w)):Kn E s S d Q' x (l++[(y,w)]):=by
 refine⟨h.set,fun v k q=>?_,fun u z v hu hz hl=>?_,h.first.imp id (h1 _ _)⟩
 ·rcases h2 v k q with q|⟨rfl,rfl⟩
  ·exact h.wait v k q
  ·exact .snoc (h.set x hx).1 he
 ·by_cases hux:u=x
  ·subst hux
   rcases List.mem_append.1 (hl rfl) with hm|hm
   ·exact(h.front u z v hu hz fun _=>hm).imp id (h1 _ _)
   ·simp at hm
    obtain⟨rfl,rfl⟩:=hm
    exact h3
  ·exact(h.front u z v hu hz fun e=>(hux e).elim).imp id (h1 _ _)
theorem Jk{E:bU}{s:Nat}{S:Nat->Prop}{d:Nat->Nat}{Q:Nat->Nat->Prop}{x:Nat}{l:List (Nat × Nat)}(h:Kn E s S d Q x l)(hl: ∀y w,E x y w->(y,w)∈l):Dj E s S d Q:=
 ⟨h.set,h.wait,fun u y w hu he=>h.front u y w hu he fun e=>hl y w (e ▸ he),h.first⟩
def l9(E:bU)(s v:Nat)(x:Int):Prop:=(x= -1/\ ∀L,¬Rc E s v L)\/(0<=x/\Rc E s v x.toNat/\ ∀L,Rc E s v L->x<=(L:Int))
theorem Qd{E:bU}{s:Nat}{S:Nat->Prop}{d:Nat->Nat}{Q:Nat->Nat->Prop}(h:Dj E s S d Q)(hq: ∀v k,¬Q v k)(v:Nat):
 (S v->l9 E s v (d v))/\(¬S v->l9 E s v (-1)):=by
 refine⟨fun hs=> .inr ⟨by omega,by simpa using (h.set v hs).1,fun L t=>by have:=(h.set v hs).2 L t;omega⟩,fun hs=> .inl ⟨rfl,fun L t=>?_⟩⟩
 rcases h.reach t with q|⟨y,k,q,_⟩
 ·exact hs q
 ·exact hq _ _ q
abbrev NG:=Nat × Nat × Int × Bool
def sO(a b:Nat)(n f:Int):List NG:=
 (if 0<n/\n<=14400 then [(a,b,n,decide (f=n))] else [])++(if f=n then [] else if 0<f/\f<=14400 then [(a,b,f,true)] else [])
def x9(a b:Nat)(x y:Int):List NG:=
 if 14400<x then [] else (a,b,x,decide (y=x))::(if x<y/\y<=14400 then [(a,b,y,true)] else [])
def Alike(x n:Int):Prop:=(0<x/\x<=14400/\n=x)\/(14400<x/\(n<=0\/14400<n))
theorem Jh{a b:Nat}{x y n f:Int}(h1:Alike x n)(h2:Alike y f)(hxy:x<=y):sO a b n f=x9 a b x y:=by
 unfold sO x9
 unfold Alike at h1 h2
 rcases h1 with ⟨p1,p2,rfl⟩|⟨p1,p2⟩
 ·rw[if_pos ⟨p1,p2⟩,if_neg (show¬14400<n by omega)]
  rcases h2 with ⟨q1,q2,rfl⟩|⟨q1,q2⟩
  ·by_cases he:f=n
   ·rw[if_pos he,if_neg (show¬(n<f/\f<=14400) by omega)];rfl
   ·rw[if_neg he,if_pos ⟨q1,q2⟩,if_pos (show n<f/\f<=14400 from⟨by omega,q2⟩)];rfl
  ·have e1: ¬f=n:=by omega
   have e2: ¬y=n:=by omega
   rw[if_neg e1,if_neg (show¬(0<f/\f<=14400) by omega),if_neg (show¬(n<y/\y<=14400) by omega),decide_eq_false e1,decide_eq_false e2];rfl
 ·rw[if_neg (show¬(0<n/\n<=14400) by omega),if_pos p1]
  rcases h2 with ⟨q1,q2,rfl⟩|⟨q1,q2⟩
  ·omega
  ·by_cases he:f=n
   ·rw[if_pos he];rfl
   ·rw[if_neg he,if_neg (show¬(0<f/\f<=14400) by omega)];rfl
def Pos(E:bU):Prop:= ∀a b w,E a b w->0<w
theorem Wk.pos{E:bU}(hp:Pos E){k i j L:Nat}(t:Wk E k i j L):0<L:=by
 cases t with
 |mY h=>exact hp _ _ _ h
 |cons h _ _=>have:=hp _ _ _ h;omega
structure xM(E E':bU):Prop where
 to: ∀a b w,E a b w-> ∃w',w'<=w/\E' a b w'
 fz1: ∀a b w,E' a b w-> ∃w',w'<=w/\E a b w'
theorem BE{E E':bU}{n jA i j:Nat}{x v:Int}(hs:xM E E')(hp:Pos E)(hE: ∀a b w,E' a b w->a<n/\b<n)(hbig:14400<jA)(hij:j≠i)
 (h1:BU E n jA i j x) (h2:l9 E' i j v):Alike x v:=by
 obtain⟨a1,a2,a3⟩:=h1
 unfold Alike
 by_cases hx:x<=14400
 ·have t:=a2 (by omega)
  have hpos:=t.pos hp
  have hxp:0<x:=by omega
  obtain⟨L',hL,t'⟩:=t.mono hs.to
  rcases h2 with ⟨_,hno⟩|⟨b1,b2,b3⟩
  ·exact(hno _ t'.rc).elim
  ·have:=b3 _ t'.rc
   rcases b2.wk hE with ⟨h,_⟩|t2
   ·exact(hij h).elim
   ·obtain⟨L2,hL2,t3⟩:=t2.mono hs.fz1
    have:=a3 _ t3
    exact .inl ⟨hxp,hx,by omega⟩
 ·refine .inr ⟨by omega,?_⟩
  rcases h2 with ⟨h,_⟩|⟨b1,b2,b3⟩
  ·exact .inl (by omega)
  ·by_cases hv:v<=14400
   ·rcases b2.wk hE with ⟨h,_⟩|t2
    ·exact(hij h).elim
    ·obtain⟨L2,hL2,t3⟩:=t2.mono hs.fz1
     have:=a3 _ t3
     omega
   ·exact .inr (by omega)
theorem Am{E F:bU}{n jA i j:Nat}{x y:Int}(hsub: ∀a b w,F a b w-> ∃w',w'<=w/\E a b w')(h1:BU E n jA i j x)(h2:BU F n jA i j y):x<=y\/(jA:Int)<=y:=by
 by_cases hy:y<jA
 ·obtain⟨L,hL,t⟩:=(h2.2.1 hy).mono hsub
  have:=h1.2.2 _ t
  have:=h2.1
  exact .inl (by omega)
 ·exact .inr (by omega)
end Go.jo
namespace Go.Proofs.Nw
open Go Go.AV Tryz Go.jo
set_option maxHeartbeats 4000000
set_option maxRecDepth 100000
def UB:cL:=⟨0,-1,-1⟩
def fA(l:List cL)(v:Nat):cL:=l[v]?.getD UB
theorem mO{l:List cL}{v:Nat}(h:v<l.length):l[v]? =some (fA l v):=by
 unfold fA;rw[List.getElem?_eq_getElem h];rfl
theorem IJ{l:List cL}{v:Nat}(h:l.length<=v):fA l v=UB:=by
 unfold fA;rw[List.getElem?_eq_none h];rfl
theorem pS{l:List cL}{i:Nat}(h:i<l.length)(x:cL)(v:Nat):fA (l.set i x) v=if v=i then x else fA l v:=by
 unfold fA
 rw[List.getElem?_set]
 by_cases e:i=v
 ·subst e;simp[h]
 ·have e': ¬v=i:=fun q=>e q.symm
  simp[e,e']
theorem pA(l:List cL): ∀r∈l.map cL.row,r.length=3:=aQ l fun _=>rfl
theorem wo(l:List cL):(aU l).length=l.length*3:=by rw[kS (pA l),List.length_map]
theorem zN(l:List cL):bE (aU l)=true:=lG (fun _=>rfl) l
theorem jH{σ:Nat->Option Nat}(l:List cL)(c:Nat):aI σ (aa.aw (ba.mk (aU l) c 3 196 true true 0 true))=some (aa.aw (ba.mk (aU l) c 3 196 true true 0 true)):=cR (zN l)
theorem Sz{l:List cL}{i:Nat}(h:i<l.length)(c:Nat):aE prog (ba.mk (aU l) c 3 196 true true 0 true) 196 (0+i*3)=some (.agg ⟨(fA l i).row⟩):=
 iq (rows:=l.map cL.row) rfl underlying196 rfl rfl (pA l) (by rw[List.getElem?_map,mO h];rfl)
theorem Hl{l:List cL}{i:Nat}(h:i<l.length)(c:Nat):aE prog (ba.mk (aU l) c 3 196 true true 0 true) 3 (0+i*3+2)=some (zv (fA l i).gm):=
 Cl (rows:=l.map cL.row) rfl underlying3 rfl (pA l) (r:=(fA l i).row) (by rw[List.getElem?_map,mO h];rfl) rfl
theorem NQ{l:List cL}{i:Nat}(h:i<l.length)(a:cL):overwrite (aU l) (0+i*3) a.row=some (aU (l.set i a)):=by
 have:=ub (pA l) (i:=i) (by simpa using h) (r':=a.row) rfl
 rw[lI] at this
 exact this
def vS:List Value->List Value
 |_::b::_::r=>b::vS r
 |_=>[]
abbrev wY(l:List cL):List Value:=l.map fun a=>zv a.len
theorem nM: ∀l:List cL,vS (aU l)=wY l
 |[]=>rfl
 |a::l=>by
  show zv a.len::vS (aU l)=_
  rw[nM l];rfl
theorem lH(f:cL->Int)(l:List cL):bE (l.map fun a=>zv (f a))=true:=by
 rw[cU];intro v hv
 obtain⟨a,_,rfl⟩:=List.mem_map.1 hv
 rfl
theorem nA: ∀(n:Nat)(v:List Value),v.length=1->rep n v=List.replicate n (v.headD undef)
 |0,_,_=>rfl
 |n+1,[a],h=>by
  show [a]++rep n [a]=_
  rw[nA n [a] rfl];rfl
theorem mD(row:List Value): ∀n,rep n row=(List.replicate n row).flatten
 |0=>rfl
 |n+1=>by
  show row++rep n row=_
  rw[mD row n];rfl
section
variable{z:T aa}{zn:Nat}
theorem mF{σ:Nat->Option Nat}{cs:List Value}(h:bE cs=true)(c:Nat):aI σ (aa.aw (ba.mk cs c 1 3 true true 0 true))=some (aa.aw (ba.mk cs c 1 3 true true 0 true)):=cR h
theorem Mf(hz:ay z zn)(l:List cL)(n:Nat)(hl:l.length=n)(hn:n<=1000)(cs:List Value)(hcs:cs.length=n)(hp:bE cs=true):
 ai prog (ah (ag f112) 0) 2 23 (Fc n 0) [(0,ke (aU l) n),(1,Ft cs n)] 2 z zn (Al.R (WW z zn n (aU l) cs (wY l)).l):=by
 refine an hD (cS z) (α:=Nat) 2 23 2 (fun i=>i<=n) (fun i=>Fc n i) (fun i=>[(0,ke (aU l) n),(1,Ft ((l.take i).map (fun a=>zv a.len)++cs.drop i) n)]) (fun _=>z) (fun _=>zn) (fun i=>n - i) _ (fun i hI=>?_) 0 (Nat.zero_le _)
 have hpl: ∀j,bE ((l.take j).map (fun a=>zv a.len)++cs.drop j)=true:=fun j=>by
  rw[cU];intro v hv
  rcases List.mem_append.1 hv with q|q
  ·exact cU.1 (lH (·.len) (l.take j)) v q
  ·exact cU.1 hp v (List.mem_of_mem_drop q)
 by_cases hi:i<n
 ·have hlen:((l.take i).map (fun a=>zv a.len)++cs.drop i).length=n:=by simp;omega
  have o1:=pI (cs:=(l.take i).map (fun a=>zv a.len)++cs.drop i) (i:=i) (by omega) (zv (fA l i).len)
  have e1:((l.take i).map (fun a=>zv a.len)++cs.drop i).set i (zv (fA l i).len)=(l.take (i+1)).map (fun a=>zv a.len)++cs.drop (i+1):=by
   rw[List.take_add_one,mO (by omega),List.map_append]
   rw[List.set_append_right _ _ (by simp;omega)]
   have:i - ((l.take i).map fun a=>zv a.len).length=0:=by simp;omega
   have hd:cs.drop i=cs[i]::cs.drop (i+1):=List.drop_eq_getElem_cons (by omega:i<cs.length)
   rw[this,hd,List.set_cons_zero,List.append_assoc]
   rfl
  rw[e1] at o1
  have hc:decide ((i:Int)<(n:Int))=true:=by simp;omega
  have l1:((l.take (i+1)).map (fun a=>zv a.len)++cs.drop (i+1)).length<=n*1:=by simp;omega
  have r1:=hpl i
  have r2:=hpl (i+1)
  refine t100 (ZW z zn n i (aU l) ((l.take i).map (fun a=>zv a.len)++cs.drop i) ((l.take (i+1)).map (fun a=>zv a.len)++cs.drop (i+1)) (fA l i) (ak _ _ _ _ _ _ _ _ _) ⟨fun _=>?_,nC1 hc⟩)
  (repeat' first|(with_reducible first|exact rfl|assumption|apply And.intro|exact Sz (by omega) _|exact jH _ _|exact mF r2 _|exact bP (by omega)))
  exact⟨i+1,rfl,rfl,rfl,rfl,rfl,hi,by show n - (i+1)<n - i;omega⟩
 ·have hc:decide ((i:Int)<(n:Int))=false:=by simp;omega
  have r1:=hpl i
  refine t100 (ZW z zn n i (aU l) ((l.take i).map (fun a=>zv a.len)++cs.drop i) [] UB (ak _ _ _ _ _ _ _ _ _) ⟨nC1 hc,fun _=>?_⟩)
  (repeat' first|(with_reducible first|exact rfl|assumption|apply And.intro|exact mF r1 _))
  have:i=n:=by omega
  subst this
  rw[List.take_of_length_le (by omega),List.drop_eq_nil_of_le (by omega),List.append_nil]
  exact bD trivial
theorem Qx(hz:ay z zn)(l:List cL)(n:Nat)(hl:l.length=n)(hn:n<=1000):
 A1 z zn 112 [aX 0 n n] [(0,ke (aU l) n)] 1 2 (aX 1 n n) [(1,Ft (vS (aU l)) n)]:=by
 have e0:rep n [I 0]=List.replicate n (I 0):=nA n [I 0] rfl
 have hp:bE (rep n [I 0])=true:=by
  rw[e0,cU];intro v hv;rw[List.eq_of_mem_replicate hv];rfl
 have hK:=Mf hz l n hl hn (rep n [I 0]) (by rw[e0];simp) hp
 have r3: ∀σ,_:=fun σ=>mF (σ:=σ) (lH (·.len) l) (n*1)
 rw[nM]
 refine aK1 (cS z) (fn:=f112) hz (N:=100) ?_
 refine ln z zn n (aU l) (rep n [I 0]) (wY l) _ ?_
 (repeat' first|(with_reducible first|exact rfl|assumption|apply And.intro|exact jH _ _|exact mF hp _|exact r3 _|exact(by omega:n<=1048576)|exact q1)|exact hK|intro hq)
end
abbrev nY:=Int × Nat × List eF
def lY(L:List nY)(a:Int):List eF:=((L.find? fun x=>x.1==a).map (·.2.2)).getD []
structure V2(z:T aa)(zn n:Nat)(L:List nY):Prop where
 row: ∀x∈L,∃kb:ba,z.get x.2.1=some (.aw kb)/\kb.cells=bC x.2.2
 mY: ∀x∈L,x.2.2.length<=4096/\ ∀e∈x.2.2,0<=e.aq/\e.aq<n/\0<=e.wt/\e.wt<=1073741824
def GE(L:List nY):bU:=fun u v w=> ∃e∈lY L (u:Int),e.aq=(v:Int)/\e.wt=(w:Int)
theorem mU(L:List nY)(a:Int): ∀i j,(∃p x,aC prog 3 (zv a) (ff j L) i=some (some (p,tb x.2.1 x.2.2.length x.2.2.length))/\x∈L/\L.find? (fun x=>x.1==a)=some x/\i<=p/\L[p - i]? =some x)\/(aC prog 3 (zv a) (ff j L) i=some none/\L.find? (fun x=>x.1==a)=none):=by
 induction L with
 |nil=>intro i j;exact .inr ⟨rfl,rfl⟩
 |cons y l ih=>
  intro i j
  obtain⟨b,k,r⟩:=y
  simp only[ff,aC,au,Jd]
  by_cases h:a=b
  ·subst h
   refine .inl ⟨i,(a,k,r),by simp,List.mem_cons_self ..,by simp,Nat.le_refl _,by simp⟩
  ·have hd:decide (a=b)=false:=by simp[h]
   have hb:(b==a)=false:=by simp;exact fun e=>h e.symm
   rw[hd]
   simp only[List.find?_cons,hb]
   rcases ih (i+1) (j+1) with ⟨p,x,q1,q2,q3,q4,q5⟩|⟨q1,q2⟩
   ·refine .inl ⟨p,x,q1,List.mem_cons_of_mem _ q2,q3,by omega,?_⟩
    rw[show p - i=(p - (i+1))+1 by omega,List.getElem?_cons_succ];exact q5
   ·exact .inr ⟨q1,q2⟩
theorem SP(L:List nY)(a:Int):aC prog 3 (zv a) (ff 0 L) 0≠none:=by
 rcases mU L a 0 0 with ⟨p,x,q,_⟩|⟨q,_⟩<;>rw[q]<;>simp
theorem SQ(L:List nY)(a:Int)(p:Nat × Value)(h:aC prog 3 (zv a) (ff 0 L) 0=some (some p)): ∃x:Nat × Nat × Nat,p=(x.1,tb x.2.1 x.2.2 x.2.2):=by
 rcases mU L a 0 0 with ⟨q,x,e,_⟩|⟨e,_⟩
 ·rw[e] at h;cases h;exact⟨(q,x.2.1,x.2.2.length),rfl⟩
 ·rw[e] at h;cases h
theorem Pv(L:List nY)(a:Int){i:Nat × Nat × Nat}(h:aC prog 3 (zv a) (ff 0 L) 0=some (some (i.1,tb i.2.1 i.2.2 i.2.2))): ∃x∈L,lY L a=x.2.2/\i.2.1=x.2.1/\i.2.2=x.2.2.length:=by
 rcases mU L a 0 0 with ⟨q,x,e,h1,h2,_⟩|⟨e,_⟩
 ·rw[e] at h
  simp only[Option.some.injEq,Prod.mk.injEq,Value.slice.injEq,Addr.mk.injEq,and_true] at h
  obtain⟨_,h3,h4,_⟩:=h
  refine⟨x,h1,by unfold lY;rw[h2];rfl,by omega,h4.symm⟩
 ·rw[e] at h;cases h
theorem Pu(L:List nY)(a:Int)(h:aC prog 3 (zv a) (ff 0 L) 0=some none):lY L a=[]:=by
 rcases mU L a 0 0 with ⟨q,x,e,_⟩|⟨e,h2⟩
 ·rw[e] at h;cases h
 ·unfold lY;rw[h2];rfl
theorem sM{σ:Nat->Option Nat}: ∀{L:List nY} (i:Nat),(∀x∈L,σ (256*x.2.1+510)=some (256*x.2.1+510))->gV σ (ff i L)=some (ff i L)
 |[],_,_=>rfl
 |(a,k,r)::l,i,h=>by
  have hk:=h (a,k,r) (List.mem_cons_self ..)
  simp only at hk
  simp only[ff,gV,aW,hk,sM (i+1) fun x hx=>h x (List.mem_cons_of_mem _ hx)]
theorem Hk{σ:Nat->Option Nat}{L:List nY}(h: ∀x∈L,σ (256*x.2.1+510)=some (256*x.2.1+510))(c:Nat):aI σ (aa.map (ff 0 L) c)=some (aa.map (ff 0 L) c):=by
 simp only[aI,sM 0 h]
theorem xY(σ:bu)(L:List nY)(c:Nat):aI (sig σ) (aa.map (ff 0 L) c)=some (aa.map (ff 0 L) c):=Hk (fun x _=>iY (by unfold cI;omega)) c
theorem gU(σ:bu)(L:List nY)(c:Nat):aI (aA σ []) (aa.map (ff 0 L) c)=some (aa.map (ff 0 L) c):=xY σ L c
theorem pz(l:List eF): ∀r∈l.map eF.row,r.length=3:=aQ l fun _=>rfl
def LQ(s:qx)(v l:Nat):Prop:= ∃a,gN (hf s.ms) s.n a/\a.x.node=(v:Int)/\a.x.len=(l:Int)
def LS(out:List cL)(v:Nat):Prop:=0<=(fA out v).gm
def Ld(out:List cL)(v:Nat):Nat:=(fA out v).len.toNat
def kK(out:List cL):Nat:=out.countP fun a=>decide (0<=a.gm)
def HB(n c:Nat)(s:qx):Prop:= ∀a,gN (hf s.ms) s.n a->0<=a.x.node/\a.x.node<n/\0<=a.x.len/\a.x.len<=a.x.gm*1073741824/\0<=a.x.gm/\a.x.gm<=c
structure EH(n:Nat)(out:List cL):Prop where
 len:out.length=n
 D3: ∀v,v<n->(0<=(fA out v).gm/\0<=(fA out v).len)\/((fA out v).gm<0/\(fA out v).len= -1)
abbrev Wz(r:List eF):List (Nat × Nat):=r.map fun e=>(e.aq.toNat,e.wt.toNat)
structure Nz(L:List nY)(n fr:Nat)(out:List cL)(x:Nat)(s0:qx)(l:List eF)(j:Nat)(s:qx):Prop where
 ok:vz s
 one:1<=s.ms.length
 hb:HB n (kK out) s
 dj:Kn (GE L) fr (LS out) (Ld out) (LQ s) x (Wz l)
 p:s.p<=s0.p+j
 n:s.n<=s0.n+j
section
variable{z:T aa}{zn:Nat}
theorem Iv(hz:ay z zn)(L:List nY)(n fr:Nat)(hL:V2 z zn n L)(hn:n<=64)(out:List cL)(ho:EH n out)(hc:kK out<=n)(y:nY)(hy:y∈L)(a:cL)(x:Nat)(hx:a.node=(x:Int))(hxn:x<n)(hadj:lY L (x:Int)=y.2.2)(hax:fA out x=a)(ha0:0<=a.gm)(hal:0<=a.len)(hab:a.len<=a.gm*1073741824)(hac:a.gm+1<=kK out)(s0:qx)(hs0:Nz L n fr out x s0 [] 0 s0)(hp:s0.p<=900000):
 ai prog (ah (ah (ag f113) 1) 0) 6 82 (CE n y.2.1 y.2.2.length 0) (qA n L.length (ff 0 L) (aU out) a (xh 6 s0) (wD s0)) 7 z zn (Al.R (Tu z zn n y.2.1 y.2.2.length L.length (ff 0 L) (aU out) a (xh 6 s0) (wD s0) (Nz L n fr out x s0 y.2.2 y.2.2.length)).l):=by
 obtain⟨kb,hk1,hk2⟩:=hL.row y hy
 obtain⟨hr1,hr2⟩:=hL.mY y hy
 refine an hD (cS z) (α:=Nat × qx) 6 82 7 (fun t=>t.1<=y.2.2.length/\Nz L n fr out x s0 (y.2.2.take t.1) t.1 t.2) (fun t=>CE n y.2.1 y.2.2.length t.1) (fun t=>qA n L.length (ff 0 L) (aU out) a (xh 6 t.2) (wD t.2)) (fun _=>z) (fun _=>zn) (fun t=>y.2.2.length - t.1) _ (fun t hI=>?_) (0,s0) ⟨Nat.zero_le _,hs0⟩
 obtain⟨j,s⟩:=t
 obtain⟨h1,h2⟩:=hI
 simp only at h1 h2 ⊢
 have rb:aI (aA [(0,0),(1,1),(2,2),(5,5),(6,6)] []) (dR (aF s.ms) (s.ms.length*4))=some (dR (aF s.ms) (s.ms.length*4)):=Pj _ _
 by_cases hj:j<y.2.2.length
 ·obtain⟨e,he⟩:=eV hj
  have hem:e∈y.2.2:=List.mem_of_getElem? he
  obtain⟨e1,e2,e3,e4⟩:=hr2 e hem
  have hto:e.aq=(e.aq.toNat:Int):=by omega
  have htn:e.aq.toNat<out.length:=by rw[ho.len];omega
  have hrow:aE prog kb 175 (0+j*3)=some (.agg ⟨e.row⟩):=iq (rows:=y.2.2.map eF.row) hk2 underlying175 rfl rfl (pz _) (by rw[List.getElem?_map,he];rfl)
  have hedg:=Hl (l:=out) htn (n*3)
  have htk:y.2.2.take (j+1)=y.2.2.take j++[e]:=by rw[List.take_add_one,he];rfl
  have hps:Wz (y.2.2.take (j+1))=Wz (y.2.2.take j)++[(e.aq.toNat,e.wt.toNat)]:=by rw[htk];simp
  have hpb:s.p+1<=1000000:=by have:=h2.p;omega
  have hge:GE L x e.aq.toNat e.wt.toNat:=⟨e,by rw[hadj];exact hem,hto,by omega⟩
  have hLd:Ld out x=a.len.toNat:=by unfold Ld;rw[hax]
  have hSx:LS out x:=by unfold LS;rw[hax];exact ha0
  have hpush:=Qr hz s h2.ok h2.one hpb ⟨e.aq,a.len+e.wt,a.gm+1⟩
  have w1:Value.int .i64 (IntKind.i64.wrap (a.len+e.wt))=Value.int .i64 (a.len+e.wt):=jC (by omega) (by omega)
  have w2:Value.int .i64 (IntKind.i64.wrap (a.gm+1))=Value.int .i64 (a.gm+1):=jC (by omega) (by omega)
  have hcd:decide ((j:Int)<(y.2.2.length:Int))=true:=by simp;omega
  refine t100 (ZX z zn n s.n s.ms.length (s.ms.length*4) y.2.1 y.2.2.length j e.aq.toNat L.length kb s.p (fA out e.aq.toNat).gm (ff 0 L) (aU out) (aF s.ms) a e (pushφ s ⟨e.aq,a.len+e.wt,a.gm+1⟩) (ak _ _ _ _ _ _ _ _ _) ⟨fun _=>?_,nC1 hcd⟩)
  (repeat' first|(with_reducible first|exact rfl|assumption|apply And.intro|exact(by omega:e.aq.toNat<n)|exact cw _ _|exact gU _ _ _|exact jH _ _|exact bP (by omega))|exact hpush|intro hq)
  ·
   rename_i ms'
   obtain⟨p1,p2,p3,p4⟩:=hq
   have hlp:=h2.ok.lp
   have hp0:=h2.ok.p0
   have h2p:=h2.p
   have h2n:=h2.n
   refine⟨(j+1,⟨s.n+1,ms',s.p+1⟩),rfl,rfl,rfl,rfl,rfl,⟨hj,?_⟩,by show y.2.2.length - (j+1)<y.2.2.length - j;omega⟩
   show Nz L n fr out x s0 (y.2.2.take (j+1)) (j+1) ⟨s.n+1,ms',s.p+1⟩
   have hval: ∀v,gN (hf ms') (s.n+1) v↔v=⟨⟨e.aq,a.len+e.wt,a.gm+1⟩,s.p⟩\/gN (hf s.ms) s.n v:=p4
   refine⟨⟨p1,p3,by show 0<=s.p+1;omega,hpb,by show(ms'.length:Int)<=s.p+1;omega⟩,by show 1<=ms'.length;omega,fun b hb=>?_,?_,by show s.p+1<=s0.p+((j+1:Nat):Int);omega,by show s.n+1<=s0.n+(j+1);omega⟩
   ·rcases (hval b).1 hb with rfl|hb
    ·exact⟨e1,e2,by show 0<=a.len+e.wt;omega,by show a.len+e.wt<=(a.gm+1)*1073741824;omega,by show 0<=a.gm+1;omega,hac⟩
    ·exact h2.hb b hb
   ·rw[hps]
    refine xw h2.dj hSx hge (fun v k ⟨b,q1,q2,q3⟩=>⟨b,(hval b).2 (.inr q1),q2,q3⟩) (fun v k ⟨b,q1,q2,q3⟩=>?_) (.inr ⟨_,(hval _).2 (.inl rfl),hto,?_⟩)
    ·rcases (hval b).1 q1 with rfl|q1
     ·right
      simp only at q2 q3
      rw[hLd]
      omega
     ·exact .inl ⟨b,q1,q2,q3⟩
    ·show a.len+e.wt=_
     rw[hLd];omega
  ·have hneg:decide ((fA out e.aq.toNat).gm<0)=false:=by with_reducible assumption
   have hS:LS out e.aq.toNat:=by unfold LS;simpa using hneg
   have h2p:=h2.p
   have h2n:=h2.n
   refine⟨(j+1,s),rfl,rfl,rfl,rfl,rfl,⟨hj,?_⟩,by show y.2.2.length - (j+1)<y.2.2.length - j;omega⟩
   show Nz L n fr out x s0 (y.2.2.take (j+1)) (j+1) s
   refine⟨h2.ok,h2.one,h2.hb,?_,by show s.p<=s0.p+((j+1:Nat):Int);omega,by omega⟩
   rw[hps]
   exact xw h2.dj hSx hge (fun v k q=>q) (fun v k q=> .inl q) (.inl hS)
 ·have hje:j=y.2.2.length:=by omega
  have hcd:decide ((j:Int)<(y.2.2.length:Int))=false:=by simp;omega
  refine t100 (ZX z zn n s.n s.ms.length (s.ms.length*4) y.2.1 y.2.2.length j 0 L.length kb s.p 0 (ff 0 L) (aU out) (aF s.ms) a ⟨0,0,0⟩ (fun _=>False) (ak _ _ _ _ _ _ _ _ _) ⟨nC1 hcd,fun _=>?_⟩)
  (repeat' first|(with_reducible first|exact rfl|assumption|apply And.intro|exact cw _ _|exact gU _ _ _|exact jH _ _))
  subst hje
  rw[List.take_of_length_le (Nat.le_refl _)] at h2
  exact De (k:=fun _=>eO) s h2 rfl
end
end Go.Proofs.Nw
namespace Go.Proofs.Nw
open Go Go.AV Tryz Go.jo
set_option maxHeartbeats 1000000
set_option maxRecDepth 100000
theorem Q9{out:List cL}{nd:Nat}(h:nd<out.length){a:cL}(ha:0<=a.gm):LS (out.set nd a)=fun v=>LS out v\/v=nd:=by
 funext v
 apply propext
 unfold LS
 rw[pS h]
 by_cases e:v=nd
 ·simp[e,ha]
 ·simp[e]
theorem Q8{out:List cL}{nd:Nat}(h:nd<out.length)(a:cL):Ld (out.set nd a)=fun v=>if v=nd then a.len.toNat else Ld out v:=by
 funext v
 unfold Ld
 rw[pS h]
 split<;>rfl
theorem Eg{out:List cL}{nd:Nat}(h:nd<out.length){a:cL}(ha:0<=a.gm)(hn: ¬LS out nd):kK (out.set nd a)=kK out+1:=by
 unfold kK
 have hg:out[nd]=fA out nd:=by have:=mO h;rw[List.getElem?_eq_getElem h] at this;exact Option.some.inj this
 rw[List.countP_set h,hg]
 have h1:decide (0<=(fA out nd).gm)=false:=by unfold LS at hn;simpa using hn
 simp[h1,ha]
theorem Jp(out:List cL):kK out<=out.length:=List.countP_le_length
theorem DN{n:Nat}{out:List cL}(ho:EH n out){nd:Nat}(h:nd<n){a:cL}(ha:0<=a.gm)(hl:0<=a.len):EH n (out.set nd a):=by
 refine⟨by rw[List.length_set];exact ho.len,fun v hv=>?_⟩
 rw[pS (by rw[ho.len];exact h)]
 by_cases e:v=nd
 ·rw[if_pos e];exact .inl ⟨ha,hl⟩
 ·rw[if_neg e];exact ho.D3 v hv
structure Ra(L:List nY)(n fr:Nat)(out:List cL)(s:qx):Prop where
 oo:EH n out
 ok:vz s
 one:1<=s.ms.length
 hb:HB n (kK out) s
 dj:Dj (GE L) fr (LS out) (Ld out) (LQ s)
 p:s.p<=1+4096*(kK out:Int)
def D3φ(L:List nY)(n fr:Nat)(l:List cL):Prop:=l.length=n/\ ∀v,v<n->l9 (GE L) fr v (fA l v).len
theorem Mx{L:List nY}{n fr:Nat}{out:List cL}{s:qx}(h:Ra L n fr out s)(h0:s.n=0):D3φ L n fr out:=by
 refine⟨h.oo.len,fun v hv=>?_⟩
 have hq: ∀v k,¬LQ s v k:=fun v k ⟨a,⟨i,hi,_⟩,_⟩=>by omega
 obtain⟨q1,q2⟩:=Qd h.dj hq v
 rcases h.oo.D3 v hv with ⟨e1,e2⟩|⟨e1,e2⟩
 ·have:=q1 e1
  unfold Ld at this
  rw[show((fA out v).len.toNat:Int)=(fA out v).len by omega] at this
  exact this
 ·rw[e2]
  exact q2 (by unfold LS;omega)
section
variable{z:T aa}{zn:Nat}
theorem Fm(hz:ay z zn)(L:List nY)(n:Nat)(out:List cL)(a:cL)(n' c cc:Nat)(p:Int)(ms:List b8):
 ai prog (ah (ah (ag f113) 1) 0) 6 82 (wV n) (qA n L.length (ff 0 L) (aU out) a (eE (aX 6 n' c) p) (dR (aF ms) cc)) 7 z zn (Al.R (Tt z zn n L.length (ff 0 L) (aU out) a (eE (aX 6 n' c) p) (dR (aF ms) cc)).l):=by
 refine an hD (cS z) (α:=Nat) 6 82 7 (fun t=>t=0) (fun t=>wV n) (fun t=>qA n L.length (ff 0 L) (aU out) a (eE (aX 6 n' c) p) (dR (aF ms) cc)) (fun _=>z) (fun _=>zn) (fun t=>1) _ (fun t hI=>?_) 0 rfl
 refine t100 (W5 z zn n n' c cc L.length p (ff 0 L) (aU out) (aF ms) a (ak _ _ _ _ _ _ _ _ _) ?_)
 (repeat' first|(with_reducible first|exact rfl|assumption|apply And.intro|exact cw _ _|exact gU _ _ _|exact jH _ _))
 exact bD trivial
theorem Iw(hz:ay z zn)(L:List nY)(n fr:Nat)(hL:V2 z zn n L)(hn:n<=64)(out0:List cL)(s0:qx)(h0:Ra L n fr out0 s0):
 ai prog (ah (ag f113) 1) 4 82 (lK n) [(0, .map (ff 0 L) L.length),(1,ke (aU out0) n),(2,xh 4 s0),(4,wD s0)] 5 z zn (Al.R (LW z zn n L.length (ff 0 L) (aU out0) (xh 4 s0) (wD s0) (D3φ L n fr)).l):=by
 refine an hD (cS z) (α:=List cL × qx) 4 82 5 (fun t=>Ra L n fr t.1 t.2) (fun t=>lK n) (fun t=>[(0, .map (ff 0 L) L.length),(1,ke (aU t.1) n),(2,xh 4 t.2),(4,wD t.2)]) (fun _=>z) (fun _=>zn) (fun t=>(n - kK t.1)*4200+t.2.n) _ (fun t hI=>?_) (out0,s0) h0
 obtain⟨out,s⟩:=t
 simp only at hI ⊢
 by_cases hs0:s.n=0
 ·have IX:A1 z zn 127 [ip 0] [(0,eE (aX 1 s.n s.ms.length) s.p),(1,dR (aF s.ms) (s.ms.length*4))] 2 2 (.tuple ⟨[.agg ⟨[I 0,I 0,I 0]⟩,F0]⟩) [(0,eE (aX 1 s.n s.ms.length) s.p),(1,dR (aF s.ms) (s.ms.length*4))]:=by
   rw[hs0];exact Qt hz s.ms s.ms.length (s.ms.length*4) s.p
  refine t100 (W6 z zn n s.n s.ms.length (s.ms.length*4) L.length s.p (ff 0 L) (aU out) (aF s.ms) (ak _ _ _ _ _ _ _ _ _) ?_)
  (repeat' first|(with_reducible first|exact rfl|assumption|apply And.intro|exact cw _ _|exact gU _ _ _|exact jH _ _)|exact IX|intro hq)
  exact De (k:=fun _=>eO) out (Mx hI hs0) rfl
 ·have hpos:0<s.n:=by omega
  have hcn:kK out<=n:=by have:=Jp out;rw[hI.oo.len] at this;exact this
  obtain⟨b1,b2,b3,b4,b5,b6⟩:=hI.hb (hf s.ms 0) ⟨0,hpos,rfl⟩
  have hpI:=hI.p
  have hlp:=hI.ok.lp
  have hlen:=hI.ok.len
  have IX:=TS hz s.ms s.n s.ms.length (s.ms.length*4) s.p hpos hI.ok.len hI.ok.len (Nat.le_refl _) (by have:=hI.ok.pb;omega) hI.ok.heap
  have hnd:(hf s.ms 0).x.node=((hf s.ms 0).x.node.toNat:Int):=by omega
  generalize hnd':(hf s.ms 0).x.node.toNat=nd at hnd
  have hndn:nd<n:=by omega
  have hedg:=Hl (l:=out) (i:=nd) (by rw[hI.oo.len];exact hndn) (n*3)
  have hov:=NQ (l:=out) (i:=nd) (by rw[hI.oo.len];exact hndn) (hf s.ms 0).x
  have l1:(aU (out.set nd (hf s.ms 0).x)).length<=n*3:=by rw[wo,List.length_set,hI.oo.len];exact Nat.le_refl _
  have vals: ∀ms',popφ s.ms s.n ms'-> ∀b,gN (hf ms') (s.n - 1) b->gN (hf s.ms) s.n b:=fun ms' hp b hb=>by
   obtain⟨i,i1,i2,i3⟩:=(hp.2.2 b).1 hb
   exact⟨i,i2,i3⟩
  have q1: ∀ms',popφ s.ms s.n ms'-> ∀v k,LQ ⟨s.n - 1,ms',s.p⟩ v k->LQ s v k:=fun ms' hp v k ⟨b,k1,k2,k3⟩=>⟨b,vals ms' hp b k1,k2,k3⟩
  have q2: ∀ms',popφ s.ms s.n ms'-> ∀v k,LQ s v k->LQ ⟨s.n - 1,ms',s.p⟩ v k\/(v=nd/\k=(hf s.ms 0).x.len.toNat):=fun ms' hp v k ⟨b,⟨i,i1,i2⟩,k2,k3⟩=>by
   by_cases e:i=0
   ·subst e;subst i2;right;omega
   ·exact .inl ⟨b,(hp.2.2 b).2 ⟨i,by omega,i1,i2⟩,k2,k3⟩
  have ok1: ∀ms',popφ s.ms s.n ms'->vz ⟨s.n - 1,ms',s.p⟩:=fun ms' hp=>⟨by show s.n - 1<=ms'.length;rw[hp.1];omega,hp.2.1,hI.ok.p0,hI.ok.pb,by show(ms'.length:Int)<=s.p;rw[hp.1];exact hlp⟩
  have hb1: ∀ms',popφ s.ms s.n ms'-> ∀c,kK out<=c->HB n c ⟨s.n - 1,ms',s.p⟩:=fun ms' hp c hc b hb=>by
   obtain⟨k1,k2,k3,k4,k5,k6⟩:=hI.hb b (vals ms' hp b hb)
   exact⟨k1,k2,k3,k4,k5,by omega⟩
  have st: ∀ms',popφ s.ms s.n ms'-> ¬LS out nd->Nz L n fr (out.set nd (hf s.ms 0).x) nd ⟨s.n - 1,ms',s.p⟩ [] 0 ⟨s.n - 1,ms',s.p⟩:=fun ms' hp hns=>by
   have hc1:=Eg (by rw[hI.oo.len];exact hndn) b5 hns
   refine⟨ok1 ms' hp,by show 1<=ms'.length;rw[hp.1];exact hI.one,hb1 ms' hp _ (by omega),?_,by show s.p<=s.p+((0:Nat):Int);omega,Nat.le_refl _⟩
   rw[Q9 (by rw[hI.oo.len];exact hndn) b5,Q8 (by rw[hI.oo.len];exact hndn)]
   refine FM hI.dj hns ⟨_,⟨0,hpos,rfl⟩,hnd,by omega⟩ (fun v k ⟨b,⟨i,i1,i2⟩,k2,k3⟩=>?_) (q1 ms' hp) (q2 ms' hp)
   have hm:=IY iV hI.ok.heap i i1
   rw[i2] at hm
   have: ¬dK b (hf s.ms 0)=true:=by rw[hm];simp
   rw[na] at this
   omega
  have hcl: ¬LS out nd->kK (out.set nd (hf s.ms 0).x)=kK out+1/\kK out+1<=n:=fun hns=>by
   have hc1:=Eg (by rw[hI.oo.len];exact hndn) b5 hns
   have:=Jp (out.set nd (hf s.ms 0).x)
   rw[List.length_set,hI.oo.len] at this
   exact⟨hc1,by omega⟩
  have hin: ∀ms',popφ s.ms s.n ms'-> ¬LS out nd-> ∀i:Nat × Nat × Nat,aC prog 3 (zv (hf s.ms 0).x.node) (ff 0 L) 0=some (some (i.1,tb i.2.1 i.2.2 i.2.2))->
   ai prog (ah (ah (ag f113) 1) 0) 6 82 (CE n i.2.1 i.2.2 0) (qA n L.length (ff 0 L) (aU (out.set nd (hf s.ms 0).x)) (hf s.ms 0).x (eE (aX 6 (s.n - 1) s.ms.length) s.p) (dR (aF ms') (s.ms.length*4))) 7 z zn
    (Al.R (Tu z zn n i.2.1 i.2.2 L.length (ff 0 L) (aU (out.set nd (hf s.ms 0).x)) (hf s.ms 0).x (eE (aX 6 (s.n - 1) s.ms.length) s.p) (dR (aF ms') (s.ms.length*4)) (Nz L n fr (out.set nd (hf s.ms 0).x) nd ⟨s.n - 1,ms',s.p⟩ (lY L nd) (lY L nd).length)).l):=fun ms' hp hns i hi=>by
   obtain⟨y,y1,y2,y3,y4⟩:=Pv L _ hi
   rw[hnd] at y2
   obtain⟨c1,c2⟩:=hcl hns
   have:=Iv hz L n fr hL hn (out.set nd (hf s.ms 0).x) (DN hI.oo hndn b5 b3) (by omega) y y1 (hf s.ms 0).x nd hnd hndn y2 (by rw[pS (by rw[hI.oo.len];exact hndn),if_pos rfl]) b5 b3 b4 (by omega) ⟨s.n - 1,ms',s.p⟩ (st ms' hp hns) (by show s.p<=900000;omega)
   simp only[xh,wD,hp.1] at this
   rw[y3,y4,y2]
   exact this
  have jY: ∀ms',popφ s.ms s.n ms'-> ¬LS out nd-> ∀s2,Nz L n fr (out.set nd (hf s.ms 0).x) nd ⟨s.n - 1,ms',s.p⟩ (lY L nd) (lY L nd).length s2->
   ak (fun t:List cL × qx=>Ra L n fr t.1 t.2) (fun t=>lK n) (fun t=>[(0, .map (ff 0 L) L.length),(1,ke (aU t.1) n),(2,xh 4 t.2),(4,wD t.2)]) 5 (fun _=>z) (fun _=>zn) (fun t=>(n - kK t.1)*4200+t.2.n) (Al.R (LW z zn n L.length (ff 0 L) (aU out0) (xh 4 s0) (wD s0) (D3φ L n fr)).l) (out,s) .normal (lK n) [(0, .map (ff 0 L) L.length),(1,ke (aU (out.set nd (hf s.ms 0).x)) n),(2,xh 4 s2),(4,wD s2)] 5 z zn:=fun ms' hp hns s2 h2=>by
   obtain⟨c1,c2⟩:=hcl hns
   have hal:(lY L (nd:Int)).length<=4096:=by
    unfold lY
    cases hfd:L.find? (fun x=>x.1==(nd:Int)) with
    |none=>simp
    |some y=>exact(hL.mY y (List.mem_of_find?_eq_some hfd)).1
   have h2p:s2.p<=s.p+(((lY L (nd:Int)).length:Nat):Int):=h2.p
   have h2n:s2.n<=s.n - 1+(lY L (nd:Int)).length:=h2.n
   refine⟨(out.set nd (hf s.ms 0).x,s2),rfl,rfl,rfl,rfl,rfl,⟨DN hI.oo hndn b5 b3,h2.ok,h2.one,h2.hb,Jk h2.dj (fun u w ⟨e,e1,e2,e3⟩=>?_),by show s2.p<=1+4096*((kK (out.set nd (hf s.ms 0).x):Nat):Int);omega⟩,?_⟩
   ·exact List.mem_map.2 ⟨e,e1,by rw[e2,e3];simp⟩
   ·show(n - kK (out.set nd (hf s.ms 0).x))*4200+s2.n<(n - kK out)*4200+s.n
    rw[c1]
    obtain⟨m,hm⟩: ∃m,n - kK out=m+1:=⟨n - kK out - 1,by omega⟩
    rw[show n - (kK out+1)=m by omega,hm]
    omega
  have nx0: ∀ms',popφ s.ms s.n ms'-> ¬LS out nd->lY L (nd:Int)=[]->ak (fun t:List cL × qx=>Ra L n fr t.1 t.2) (fun t=>lK n) (fun t=>[(0, .map (ff 0 L) L.length),(1,ke (aU t.1) n),(2,xh 4 t.2),(4,wD t.2)]) 5 (fun _=>z) (fun _=>zn) (fun t=>(n - kK t.1)*4200+t.2.n) (Al.R (LW z zn n L.length (ff 0 L) (aU out0) (xh 4 s0) (wD s0) (D3φ L n fr)).l) (out,s) .normal (lK n) [(0, .map (ff 0 L) L.length),(1,ke (aU (out.set nd (hf s.ms 0).x)) n),(2,eE (aX 4 (s.n - 1) s.ms.length) s.p),(4,dR (aF ms') (s.ms.length*4))] 5 z zn:=fun ms' hp hns had=>by
   have:=jY ms' hp hns ⟨s.n - 1,ms',s.p⟩ (by rw[had];exact st ms' hp hns)
   simp only[xh,wD,hp.1] at this ⊢
   exact this
  have skp: ∀ms',popφ s.ms s.n ms'->LS out nd->ak (fun t:List cL × qx=>Ra L n fr t.1 t.2) (fun t=>lK n) (fun t=>[(0, .map (ff 0 L) L.length),(1,ke (aU t.1) n),(2,xh 4 t.2),(4,wD t.2)]) 5 (fun _=>z) (fun _=>zn) (fun t=>(n - kK t.1)*4200+t.2.n) (Al.R (LW z zn n L.length (ff 0 L) (aU out0) (xh 4 s0) (wD s0) (D3φ L n fr)).l) (out,s) .normal (lK n) [(0, .map (ff 0 L) L.length),(1,ke (aU out) n),(2,eE (aX 4 (s.n - 1) s.ms.length) s.p),(4,dR (aF ms') (s.ms.length*4))] 5 z zn:=fun ms' hp hS=>by
   refine⟨(out,⟨s.n - 1,ms',s.p⟩),rfl,?_,rfl,rfl,rfl,⟨hI.oo,ok1 ms' hp,by show 1<=ms'.length;rw[hp.1];exact hI.one,hb1 ms' hp _ (Nat.le_refl _),MO hI.dj hS (q1 ms' hp) (q2 ms' hp),hI.p⟩,by show(n - kK out)*4200+(s.n - 1)<(n - kK out)*4200+s.n;omega⟩
   simp only[xh,wD,hp.1]
  refine t100 (lb1 z zn n s.n s.ms.length (s.ms.length*4) nd L.length s.p (fA out nd).gm (ff 0 L) (aU out) (aU (out.set nd (hf s.ms 0).x)) (aF s.ms) (hf s.ms 0).x (popφ s.ms s.n) (fun ms' _ _=>Nz L n fr (out.set nd (hf s.ms 0).x) nd ⟨s.n - 1,ms',s.p⟩ (lY L nd) (lY L nd).length) (ak _ _ _ _ _ _ _ _ _) ?_)
  have ns:decide ((fA out nd).gm>=0)=false-> ¬LS out nd:=fun h=>by unfold LS;simpa using h
  (repeat' first|(with_reducible first|exact rfl|assumption|apply And.intro|exact SP _ _|exact SQ _ _|exact cw _ _|exact gU _ _ _|exact jH _ _)|exact IX|exact hin _ (by assumption) (ns (by assumption)) _ (by assumption)|exact Fm hz _ _ _ _ _ _ _ _ _|intro hq)
  ·have hS:LS out nd:=by unfold LS;have:decide ((fA out nd).gm>=0)=true:=(by with_reducible assumption);simpa using this
   exact skp _ (by with_reducible assumption) hS
  ·exact jY _ (by with_reducible assumption) (ns (by with_reducible assumption)) _ hq
  ·have hns:=ns (by assumption)
   have had:lY L (nd:Int)=[]:=by
    have h:aC prog 3 (zv (hf s.ms 0).x.node) (ff 0 L) 0=some none:=by with_reducible assumption
    rw[←hnd];exact Pu L _ h
   exact nx0 _ (by with_reducible assumption) hns had
theorem EW(n:Nat)(row:List Value)(h:bE row=true):bE (rep n row)=true:=by
 rw[mD,cU];intro v hv
 obtain⟨r,hr,hv⟩:=List.mem_flatten.1 hv
 rw[List.eq_of_mem_replicate hr] at hv
 exact cU.1 h v hv
theorem Ph(n:Nat):rep n [I 0,I 0,I 0]=aU (List.replicate n ⟨0,0,0⟩):=by
 rw[mD]
 show _=((List.replicate n (⟨0,0,0⟩:cL)).map cL.row).flatten
 rw[List.map_replicate]
 rfl
def yq(n:Nat):List cL:=(List.range n).map fun(i:Nat)=>⟨(i:Int),-1,-1⟩
theorem II{n v:Nat}(h:v<n):fA (yq n) v=⟨(v:Int),-1,-1⟩:=by
 unfold fA yq
 rw[List.getElem?_map,List.getElem?_range h];rfl
def CK(n i:Nat):List cL:=(yq n).take i++List.replicate (n - i) ⟨0,0,0⟩
theorem D2{n i:Nat}(h:i<=n):(CK n i).length=n:=by simp[CK,yq];omega
theorem Mw{n i:Nat}(hi:i<n):(CK n i).set i ⟨(i:Int),-1,-1⟩=CK n (i+1):=by
 unfold CK
 rw[List.take_add_one,show(yq n)[i]? =some ⟨(i:Int),-1,-1⟩ by unfold yq;rw[List.getElem?_map,List.getElem?_range hi];rfl]
 have hl:((yq n).take i).length=i:=by simp[yq];omega
 rw[List.set_append_right _ _ (by omega),hl,Nat.sub_self]
 obtain⟨m,hm⟩: ∃m,n - i=m+1:=⟨n - i - 1,by omega⟩
 rw[hm,show n - (i+1)=m by omega,List.replicate_succ,List.set_cons_zero,List.append_assoc]
 rfl
theorem Ix(hz:ay z zn)(L:List nY)(n fr:Nat)(hn:n<=64):
 ai prog (ah (ag f113) 0) 2 82 (Fj n fr 0) [(0, .map (ff 0 L) L.length),(1,ke (rep n [I 0,I 0,I 0]) n)] 2 z zn (Al.R (W3 z zn n fr L.length (ff 0 L) (rep n [I 0,I 0,I 0]) (aU (yq n))).l):=by
 rw[Ph,show List.replicate n (⟨0,0,0⟩:cL)=CK n 0 by simp[CK]]
 refine an hD (cS z) (α:=Nat) 2 82 2 (fun i=>i<=n) (fun i=>Fj n fr i) (fun i=>[(0, .map (ff 0 L) L.length),(1,ke (aU (CK n i)) n)]) (fun _=>z) (fun _=>zn) (fun i=>n - i) _ (fun i hI=>?_) 0 (Nat.zero_le _)
 by_cases hi:i<n
 ·have o1:=NQ (l:=CK n i) (i:=i) (by rw[D2 hI];exact hi) ⟨(i:Int),-1,-1⟩
  have e1:=Mw hi
  rw[e1] at o1
  have l1:(aU (CK n (i+1))).length<=n*3:=by rw[wo,D2 hi];exact Nat.le_refl _
  have hc:decide ((i:Int)<(n:Int))=true:=by simp;omega
  refine t100 (ZY z zn n fr i L.length (ff 0 L) (aU (CK n i)) (aU (CK n (i+1))) (ak _ _ _ _ _ _ _ _ _) ⟨fun _=>?_,nC1 hc⟩)
  (repeat' first|(with_reducible first|exact rfl|assumption|apply And.intro|exact jH _ _|exact gU _ _ _|exact bP (by omega))|exact o1)
  exact⟨i+1,rfl,rfl,rfl,rfl,rfl,hi,by show n - (i+1)<n - i;omega⟩
 ·have hc:decide ((i:Int)<(n:Int))=false:=by simp;omega
  refine t100 (ZY z zn n fr i L.length (ff 0 L) (aU (CK n i)) [] (ak _ _ _ _ _ _ _ _ _) ⟨nC1 hc,fun _=>?_⟩)
  (repeat' first|(with_reducible first|exact rfl|assumption|apply And.intro|exact jH _ _|exact gU _ _ _))
  have:i=n:=by omega
  subst this
  rw[show CK i i=yq i by unfold CK;rw[List.take_of_length_le (by simp[yq]),Nat.sub_self,List.replicate_zero,List.append_nil]]
  exact bD trivial
theorem JQ(hz:ay z zn)(L:List nY)(n fr:Nat)(hL:V2 z zn n L)(hn:n<=64)(hfr:fr<n):
 aT prog z zn 113 [iv n,mp 0,iv fr] [(0, .map (ff 0 L) L.length)] 1 2 (D3φ L n fr) (fun _=>aX 1 n n) (fun l=>[(0, .map (ff 0 L) L.length),(1,ke (aU l) n)]):=by
 have h0:Ra L n fr (yq n) ⟨1,[⟨⟨fr,0,0⟩,0⟩],1⟩:=by
  have hcn:kK (yq n)=0:=by
   unfold kK yq
   rw[List.countP_eq_zero]
   intro a ha
   obtain⟨i,_,rfl⟩:=List.mem_map.1 ha
   simp
  have hls: ∀v,¬LS (yq n) v:=fun v h=>by
   unfold LS at h
   by_cases hv:v<n
   ·rw[II hv] at h;simp at h
   ·rw[IJ (by simp[yq];omega)] at h;simp[UB] at h
  refine⟨⟨by simp[yq],fun v hv=> .inr ?_⟩,⟨by simp,fun k h1 h2=>by simp only at h2;omega,by simp,by simp,by simp⟩,by simp,fun a ha=>?_,?_,by rw[hcn];simp⟩
  ·rw[II hv];exact⟨by simp,rfl⟩
  ·obtain⟨i,hi,rfl⟩:=ha
   have:i=0:=by simp only at hi;omega
   subst this
   refine⟨by show(0:Int)<=(fr:Int);omega,by show(fr:Int)<(n:Int);omega,by show(0:Int)<=0;omega,by show(0:Int)<=0*1073741824;omega,by show(0:Int)<=0;omega,by show(0:Int)<=_;omega⟩
  ·refine⟨fun v h=>(hls v h).elim,fun v l ⟨a,⟨i,hi,e⟩,h2,h3⟩=>?_,fun u x w h=>(hls u h).elim, .inr ⟨_,⟨0,by simp,rfl⟩,rfl,rfl⟩⟩
   have:i=0:=by simp only at hi;omega
   subst this
   subst e
   have h2':(fr:Int)=(v:Int):=h2
   have h3':(0:Int)=(l:Int):=h3
   have e1:v=fr:=by omega
   have e2:l=0:=by omega
   subst e1 e2
   exact .start
 have hK0:=Ix hz L n fr hn
 have hK1:=Iw hz L n fr hL hn (yq n) _ h0
 have oV:=TX hz
 have hpu:=M7 hz ⟨fr,0,0⟩
 have hrp:=EW n [I 0,I 0,I 0] rfl
 have hrp': ∀σ,aI σ (aa.aw (ba.mk (rep n [I 0,I 0,I 0]) (n*3) 3 196 true true 0 true))=some (aa.aw (ba.mk (rep n [I 0,I 0,I 0]) (n*3) 3 196 true true 0 true)):=fun σ=>cR hrp
 refine gi (cS z) (fn:=f113) (by kernel_rfl) (by kernel_rfl) hz ⟨by decide,by decide⟩ (fun _ _=>⟨rfl,Nat.le_refl _,hz⟩) (N:=100) ?_
 refine lb z zn n fr L.length (ff 0 L) (rep n [I 0,I 0,I 0]) (aU (yq n)) (D3φ L n fr) _ ?_
 (repeat' first|(with_reducible first|exact rfl|assumption|apply And.intro|exact hrp' _|exact jH _ _|exact gU _ _ _|exact(by omega:n<=1048576))|exact hK0|exact hK1|exact hpu|intro hq)
 all_goals exact q2 _ hq rfl rfl rfl rfl rfl
end
end Go.Proofs.Nw
namespace Go.Proofs.Nw
open Go Go.AV Tryz
set_option maxRecDepth 1000000
noncomputable section
abbrev GD(n:Nat):Prop:=Rs (BQ [IV n] 1 1 3)
abbrev EA(n:Nat):List (Nat × aa):=[(0,BQ [IV n] 1 1 3)]
theorem WN(z:T aa)(zn n:Nat)(x:Int)(Q:QF)(hyp:Br (decide (x<0)) (E6 11 z zn (GD n/\YA/\Q T1 (EA n) 1 z zn)) (Br (decide (x>=(↑n:Int))) (E6 11 z zn (GD n/\YA/\Q T1 (EA n) 1 z zn)) (E6 11 z zn (GD n/\YQ/\Q F0 (EA n) 1 z zn)))):ed prog gH jW f123 [zv x,Y8] z [(0,Gv n)] 1 zn Q:=K1t hyp ((tA 4 (tR YC [] T1 (EA n) 1 z zn)).fork (tA 4 ((tA 1 (tR YC [] T1 (EA n) 1 z zn)).fork (tA 1 (tR YC [] F0 (EA n) 1 z zn)))))
abbrev XV(cs:List Value)(m j:Nat)(e:eF):Prop:=aE prog (ba.mk cs (m*3) 3 175 true true 0 true) 175 (0+j*3)=some (AG (yW e))
abbrev iG(cs:List Value)(m:Nat):aa:=BQ cs (m*3) 3 175
abbrev Ke:Value:=Value.func (Fn.func 123) Sg (Array.mk [YU])
abbrev Ru(cs:List Value)(m n:Nat):List (Nat × aa):=[(0,iG cs m),(1,BQ [IV n] 1 1 3)]
abbrev KC(cs:List Value)(m n:Nat):List (Nat × aa):=[(0,nW cs m),(1,Gv n)]
theorem Z9(z:T aa)(zn n m j:Nat)(cs:List Value)(e:eF)(Q:QL)(hyp:Br (decide ((↑j:Int)<(↑m:Int))) (Yz j/\j<m/\XV cs m j e/\(aT prog z zn 123 [ZV e.fz1,Yi] (EA n) 1 1 Yx GO fun(x:Unit)=>EA n)/\Rs [ZV e.fz1,YU]/\GD n/\ ∀(x:Unit),True->YQ/\GD n/\(aT prog z zn 123 [ZV e.aq,Yi] (EA n) 1 1 Yx GO fun(x:Unit)=>EA n)/\Rs [ZV e.aq,YU]/\GD n/\ ∀(x:Unit),True->YQ/\GD n/\Br (decide (e.wt<0)) (E6 57 z zn (Rs cC/\KO YD (iG cs m)/\Q af.ret [(6,cC)] [(0,iG cs m)] 2 z zn)) (Br (decide (e.wt>1073741824)) (E6 57 z zn (Rs cC/\KO YD (iG cs m)/\Q af.ret [(6,cC)] [(0,iG cs m)] 2 z zn)) (ZV (IntKind.i64.wrap ((↑j:Int)+1))=IV (j+1)/\E6 57 z zn (R5 Yk Ke (ep m) (IV m) (IV (j+1)) (KO nS (iG cs m)/\GD n/\Q aN [(2,Yk),(7,Ke),(22,ep m),(23,IV m),(24,IV (j+1))] (Ru cs m n) 2 z zn))))) (E6 57 z zn (R2 Yk Ke (KO nS (iG cs m)/\GD n/\Q YO [(2,Yk),(7,Ke)] (Ru cs m n) 2 z zn)))):ew prog gH jW (ah (ag f110) 0) 57 (wU n m j) z (KC cs m n) 2 zn 2 Q:=K1t hyp ((tA 1 (tO (Y9 j) (tO (An.D1 (AG e.row)) (tA 2 (Tr.cm (Cm.mk [ZV e.fz1,Yi] (EA n) 1 1 [(0,1)] BJ 3) Unit Yx GO (fun(x:Unit)=>EA n) GO (fun(x:Unit)=>[(1,BQ [IV n] 1 1 3)]) (fZ z) (fY zn) fun(x:Unit)=>tA 5 (Tr.cm (Cm.mk [ZV e.aq,Yi] (EA n) 1 1 [(0,1)] BJ 3) Unit Yx GO (fun(x:Unit)=>EA n) GO (fun(x:Unit)=>[(1,BQ [IV n] 1 1 3)]) (fZ z) (fY zn) fun(x:Unit)=>tA 3 ((tA 5 (tE YC [] [(6,cC)] [(0,iG cs m)] 2 z zn)).fork (tA 4 ((tA 2 (tE YC [] [(6,cC)] [(0,iG cs m)] 2 z zn)).fork (tA 2 (tO (dS j) (tE dq [] [(2,Yk),(7,Ke),(22,ep m),(23,IV m),(24,IV (j+1))] (Ru cs m n) 2 z zn)))))))))))).fork (tA 1 (tE dq [] [(2,Yk),(7,Ke)] (Ru cs m n) 2 z zn)))
theorem ck1(z:T aa)(zn n m:Nat)(cs:List Value)(Q:QL)(hyp:E6 57 z zn (Rs Ke/\KO nS (iG cs m)/\GD n/\Q ja [(7,Ke)] (Ru cs m n) 2 z zn)):ew prog gH jW (ah (ag f110) 1) 57 wT z (KC cs m n) 2 zn 2 Q:=K1t hyp (tA 2 (tE dq [] [(7,Ke)] (Ru cs m n) 2 z zn))
theorem ck(z:T aa)(zn n m:Nat)(cs:List Value)(Q:QF)(hyp:Br (decide ((↑n:Int)>64)) (E6 57 z zn (KO YD (iG cs m)/\Rs cC/\Q cC [(0,iG cs m)] 1 z zn)) (Br (decide ((↑m:Int)>4096)) (E6 57 z zn (KO YD (iG cs m)/\Rs (I 5)/\Q (I 5) [(0,iG cs m)] 1 z zn)) (sZ/\ai prog (ah (ag f110) 0) 2 57 (wU n m 0) (KC cs m n) 2 z zn (alt True (ax.mk YO [(2,az),(7,Ak)] (KC cs m n) 2 z zn) Al.nil).R/\E6 57 z zn (R5 Yk Ke (ep m) (IV m) YM (KO (aA [Ye,YB] []) (iG cs m)/\GD n/\ ∀(x:Unit),True->sZ/\ai prog (ah (ag f110) 1) 2 57 wT (KC cs m n) 2 z zn (alt True (ax.mk ja [(7,Ak)] (KC cs m n) 2 z zn) Al.nil).R/\E6 57 z zn (R4 Ke Yk YM YM (KO (aA [Ye,YB] []) (iG cs m)/\GD n/\ ∀(x:Unit),True->E6 57 z zn (KO YD (iG cs m)/\Ki/\Q YM [(0,iG cs m)] 1 z zn)))))))):ed prog gH jW f110 [iv n,aX 0 m m,az] z [(0,nW cs m)] 1 zn Q:=K1t hyp (tA 5 ((tA 2 (tR YC [] cC [(0,iG cs m)] 1 z zn)).fork (tA 2 ((tA 1 (tR YC [] (I 5) [(0,iG cs m)] 1 z zn)).fork (tA 1 (Tr.lp 2 57 [Ye,YB] [] (wU n m 0) (KC cs m n) 2 z zn (Al.cons Unit Yx (fun(x:Unit)=>ax.mk YO [(2,az),(7,Ak)] (KC cs m n) 2 z zn) (fun(x:Unit)=>Tr.lp 2 57 [Ye,YB] [] wT (KC cs m n) 2 z zn (Al.cons Unit Yx (fun(x:Unit)=>ax.mk ja [(7,Ak)] (KC cs m n) 2 z zn) (fun(x:Unit)=>tR YC [] YM [(0,iG cs m)] 1 z zn) Al.nil)) Al.nil)))))))
abbrev Va(m j:Nat):List (Nat × Value):=[(1,F0),(5,MP 1),(9,ep m),(10,IV m),(11,IV (j+1))]
noncomputable abbrev XU:Code:=ah (ag f111) 0
theorem ZT(z:T aa)(zn m j ck:Nat)(cs:List Value)(e:eF)(es:List MapEntry)(Q:QL)(hyp:Br (decide ((↑j:Int)<(↑m:Int))) (Yz j/\j<m/\XV cs m j e/\aC prog 3 (ZV e.fz1) es 0=YL/\aC prog 3 (ZV e.fz1) es 0=YL/\ZV (IntKind.i64.wrap ((↑j:Int)+1))=IV (j+1)/\E3 34 (Rf (jG z [(zn,4,BR (yW e) 3 3 175)])/\zn.le (zn+1)/\ay z zn/\zn<=zn/\zn<zn+1/\Rs (BR (yW e) 3 3 175)/\R5 F0 (MP 1) (ep m) (IV m) (IV (j+1)) (KO (aA dq [(zn,4,BR (yW e) 3 3 175)]) (iG cs m)/\aI (aA dq [(zn,4,BR (yW e) 3 3 175)]) (aa.map (es++[MapEntry.mk (ZV e.fz1) (SL (tF zn) 1 1) ck]) (ck+1))=some (aa.map (es++[MapEntry.mk (ZV e.fz1) (SL 4 1 1) ck]) (ck+1))/\Q aN (Va m j) [(0,iG cs m),(1,aa.map (es++[MapEntry.mk (ZV e.fz1) (SL (tF zn) 1 1) ck]) (ck+1))] 2 (jG z [(zn,4,BR (yW e) 3 3 175)]) (zn+1)))) (E6 34 z zn (Rs (MP 1)/\K2 nS (iG cs m) (YE es ck) (Q YO [(5,MP 1)] [(0,iG cs m),(1,YE es ck)] 2 z zn)))):ew prog gH jW XU 34 (CC m j) z [(0,nW cs m),(1,YE es ck)] 2 zn 2 Q:=K1t hyp ((tA 1 (tO (Y9 j) (tO (An.D1 (AG e.row)) (tA 4 (tO BI (tA 2 (tO BI (tO (dS j) (tE dq [(zn,4,BR (yW e) 3 3 175)] (Va m j) [(0,iG cs m),(1,aa.map (es++[MapEntry.mk (ZV e.fz1) (SL (tF zn) 1 1) ck]) (ck+1))] 2 (jG z [(zn,4,BR (yW e) 3 3 175)]) (zn+1)))))))))).fork (tA 1 (tE dq [] [(5,MP 1)] [(0,iG cs m),(1,YE es ck)] 2 z zn)))
theorem nb1(z:T aa)(zn m j ck i k r:Nat)(kb:ba)(cs:List Value)(e:eF)(es:List MapEntry)(Q:QL)(hyp:Br (decide ((↑j:Int)<(↑m:Int))) (Yz j/\j<m/\XV cs m j e/\aC prog 3 (ZV e.fz1) es 0=some (some (i,eJ k r))/\Y0 k/\Y2 z k kb/\kb.exact=false/\kb.own=true/\kb.bQ=0/\kb.jU=3/\kb.elem=175/\Rs (yW e)/\Rf r/\kb.cells.length=r*3/\kb.cap=r*3/\r+1<=1048576/\aC prog 3 (ZV e.fz1) es 0=some (some (i,eJ k r))/\xN es i (ZV e.fz1)/\Rf (cY i (ZV e.fz1) (SL 4 (r+1) (r+1)) es)/\ZV (IntKind.i64.wrap ((↑j:Int)+1))=IV (j+1)/\E3 34 (Rf (jG (z.del k) [(zn,4,BR (kb.cells++yW e) ((r+1)*3) 3 175)])/\zn.le (zn+1)/\ay (z.del k) zn/\zn<=zn/\zn<zn+1/\KO (aA dq [(zn,4,BR (kb.cells++yW e) ((r+1)*3) 3 175)]) (BR (kb.cells++yW e) ((r+1)*3) 3 175)/\R5 F0 (MP 1) (ep m) (IV m) (IV (j+1)) (KO (aA dq [(zn,4,BR (kb.cells++yW e) ((r+1)*3) 3 175)]) (iG cs m)/\aI (aA dq [(zn,4,BR (kb.cells++yW e) ((r+1)*3) 3 175)]) (aa.map (cY i (ZV e.fz1) (SL (tF zn) (r+1) (r+1)) es) ck)=some (aa.map (cY i (ZV e.fz1) (SL 4 (r+1) (r+1)) es) ck)/\Q aN (Va m j) [(0,iG cs m),(1,aa.map (cY i (ZV e.fz1) (SL (tF zn) (r+1) (r+1)) es) ck)] 2 (jG (z.del k) [(zn,4,BR (kb.cells++yW e) ((r+1)*3) 3 175)]) (zn+1)))) (E6 34 z zn (Rs (MP 1)/\K2 nS (iG cs m) (YE es ck) (Q YO [(5,MP 1)] [(0,iG cs m),(1,YE es ck)] 2 z zn)))):ew prog gH jW XU 34 (CC m j) z [(0,nW cs m),(1,YE es ck)] 2 zn 2 Q:=K1t hyp ((tA 1 (tO (Y9 j) (tO (An.D1 (AG e.row)) (tA 4 (tO (An.XF (some (i,tb k r r))) (tA 1 (tX (my.TH k kb 1 (yW e)) (tX (my.n9 i (tb k r r) (cY i (zv e.fz1) (aX 4 (r+1) (r+1)) es)) (tO (dS j) (tE dq [(zn,4,BR (kb.cells++yW e) ((r+1)*3) 3 175)] (Va m j) [(0,iG cs m),(1,aa.map (cY i (ZV e.fz1) (SL (tF zn) (r+1) (r+1)) es) ck)] 2 (jG (z.del k) [(zn,4,BR (kb.cells++yW e) ((r+1)*3) 3 175)]) (zn+1))))))))))).fork (tA 1 (tE dq [] [(5,MP 1)] [(0,iG cs m),(1,YE es ck)] 2 z zn)))
noncomputable abbrev YGI(cs:List Value)(m:Nat)(s:oA):ax:=ax.mk YO [(5,mp 1)] [(0,nW cs m),(1,E2 s.l)] 2 s.z s.zn
abbrev Oo(x:oA):aa:=aa.map (ff 0 x.l) x.l.length
theorem nb(z:T aa)(zn m:Nat)(cs:List Value)(φ:oA->Prop)(Q:QF)(hyp:sZ/\ai prog XU 2 34 (CC m 0) [(0,nW cs m),(1,Yt)] 2 z zn (Al.cons oA φ (fun(s:oA)=>YGI cs m s) (fun(x:oA)=>eO) Al.nil).R/\E6 34 z zn (R5 F0 (MP 1) (ep m) (IV m) YM (KO (aA [Ye,YB] []) (iG cs m)/\Yu/\ ∀(x:oA),φ x->E6 34 x.z x.zn (K2 nS (iG cs m) (Oo x) (Rs (MP 1)/\Q (MP 1) [(0,iG cs m),(1,Oo x)] 2 x.z x.zn))))):ed prog gH jW f111 [aX 0 m m,F0] z [(0,nW cs m)] 1 zn Q:=K1t hyp (Tr.lp 2 34 [Ye,YB] [] (CC m 0) [(0,nW cs m),(1,Yt)] 2 z zn (Al.cons oA φ (fun(s:oA)=>ax.mk YO [(5,mp 1)] [(0,nW cs m),(1,E2 s.l)] 2 s.z s.zn) (fun(x:oA)=>tR dq [] (MP 1) [(0,iG cs m),(1,Oo x)] 2 x.z x.zn) Al.nil))
end
end Go.Proofs.Nw
namespace Go.Proofs.Nw
open Go Go.AV Tryz Go.jo
set_option maxHeartbeats 1000000
set_option maxRecDepth 100000
theorem Fz{z:T aa}{a b:Nat}(h:ay z a)(hab:a<=b):ay z b:=fun k o hk=>⟨Nat.lt_of_lt_of_le (h k o hk).1 hab,fun σ hs=>(h k o hk).2 σ fun j hj=>hs j (by omega)⟩
theorem A3{z:T aa}{a k:Nat}(h:ay z a)(hk:k<a){o:aa}(ho: ∀σ:Nat->Option Nat,(∀j,j<a->σ (256*j+510)=some (256*j+510))->aI σ o=some o):ay (z.set k o) a:=fun i p hi=>by
 rw[T.aP] at hi
 split at hi
 ·cases hi;rename_i e;subst e;exact⟨hk,ho⟩
 ·exact h i p hi
theorem uJ{z:T aa}{a:Nat}(h:ay z a)(k:Nat):ay (z.del k) a:=fun i p hi=>by
 rw[T.fP] at hi
 split at hi
 ·cases hi
 ·exact h i p hi
theorem jz{z:T aa}{a:Nat}(h:ay z a){k:ba}(hp:bE k.cells=true):ay (z.set a (.aw k)) (a+1):=A3 (Fz h (Nat.le_succ a)) (Nat.lt_succ_self a) fun σ _=>cR hp
theorem K5(a:Int):Instr.sameBits 10000 (zv a) (zv a)=true:=by
 simp[Instr.sameBits]
theorem wm(E:List eF):(bC E).length=E.length*3:=by rw[kS (pz E),List.length_map]
theorem gD(E:List eF):bE (bC E)=true:=lG (fun _=>rfl) E
theorem jI{σ:Nat->Option Nat}(E:List eF)(c:Nat):aI σ (aa.aw (ba.mk (bC E) c 3 175 true true 0 true))=some (aa.aw (ba.mk (bC E) c 3 175 true true 0 true)):=cR (gD E)
theorem Hm{E:List eF}{i:Nat}{e:eF}(h:E[i]? =some e)(c:Nat):aE prog (ba.mk (bC E) c 3 175 true true 0 true) 175 (0+i*3)=some (.agg ⟨e.row⟩):=
 iq (rows:=E.map eF.row) rfl underlying175 rfl rfl (pz E) (by rw[List.getElem?_map,h];rfl)
structure Gs(n:Nat)(E:List eF):Prop where
 len:E.length<=4096
 ok: ∀e∈E,0<=e.fz1/\e.fz1<n/\0<=e.aq/\e.aq<n/\0<=e.wt/\e.wt<=1073741824
section
variable{z:T aa}{zn:Nat}
theorem N2(hz:ay z zn)(n:Nat)(x:Int)(h0:0<=x)(h1:x<n):A1 z zn 123 [zv x,ip 0] [(0,Gv n)] 1 1 F0 [(0,Gv n)]:=by
 have d1:decide (x<0)=false:=by simp<;>omega
 have d2:decide (x>=(n:Int))=false:=by simp<;>omega
 refine aK1 (cS T.leaf) (fn:=f123) hz (N:=100) ?_
 refine WN z zn n x _ ?_
 refine⟨nC1 d1,fun _=>⟨nC1 d2,fun _=>?_⟩⟩
 (repeat' first|(with_reducible first|exact rfl|assumption|apply And.intro)|exact q1)
theorem JV(hz:ay z zn)(n:Nat)(hn:n<=64)(E:List eF)(hE:Gs n E):A1 z zn 110 [iv n,aX 0 E.length E.length,az] [(0,nW (bC E) E.length)] 1 1 (I 0) [(0,nW (bC E) E.length)]:=by
 have hK0:ai prog (ah (ag f110) 0) 2 57 (wU n E.length 0) [(0,nW (bC E) E.length),(1,Gv n)] 2 z zn (Al.R (Tq z zn n E.length (bC E)).l):=by
  refine an hD (cS T.leaf) (α:=Nat) 2 57 2 (fun j=>j<=E.length) (fun j=>wU n E.length j) (fun _=>[(0,nW (bC E) E.length),(1,Gv n)]) (fun _=>z) (fun _=>zn) (fun j=>E.length - j) _ (fun j hI=>?_) 0 (Nat.zero_le _)
  by_cases hj:j<E.length
  ·obtain⟨e,he⟩:=eV hj
   obtain⟨k1,k2,k3,k4,k5,k6⟩:=hE.ok e (List.mem_of_getElem? he)
   have hle:=hE.len
   have m1:=N2 hz n e.fz1 k1 k2
   have m2:=N2 hz n e.aq k3 k4
   have hc:decide ((j:Int)<(E.length:Int))=true:=by simp;omega
   have d1:decide (e.wt<0)=false:=by simp<;>omega
   have d2:decide (e.wt>1073741824)=false:=by simp<;>omega
   refine t100 (Z9 z zn n E.length j (bC E) e (ak _ _ _ _ _ _ _ _ _) ⟨fun _=>?_,nC1 hc⟩)
   (repeat' first|(with_reducible first|exact rfl|assumption|apply And.intro|exact Hm he _|exact jI _ _|exact bP (by omega))|exact m1|exact m2|intro hq)
   all_goals first
    |(exact⟨j+1,rfl,rfl,rfl,rfl,rfl,hj,by show E.length - (j+1)<E.length - j;omega⟩)
    |(exfalso;simp_all;done)
    |(exfalso;simp_all;omega)
  ·have hc:decide ((j:Int)<(E.length:Int))=false:=by simp<;>omega
   refine t100 (Z9 z zn n E.length j (bC E) ⟨0,0,0⟩ (ak _ _ _ _ _ _ _ _ _) ⟨nC1 hc,fun _=>?_⟩)
   (repeat' first|(with_reducible first|exact rfl|assumption|apply And.intro|exact jI _ _))
   exact bD trivial
 have hK1:ai prog (ah (ag f110) 1) 2 57 wT [(0,nW (bC E) E.length),(1,Gv n)] 2 z zn (Al.R (Tp z zn n E.length (bC E)).l):=by
  refine an hD (cS T.leaf) (α:=Nat) 2 57 2 (fun j=>j=0) (fun _=>wT) (fun _=>[(0,nW (bC E) E.length),(1,Gv n)]) (fun _=>z) (fun _=>zn) (fun j=>1) _ (fun j hI=>?_) 0 rfl
  refine t100 (ck1 z zn n E.length (bC E) (ak _ _ _ _ _ _ _ _ _) ?_)
  (repeat' first|(with_reducible first|exact rfl|assumption|apply And.intro|exact jI _ _))
  exact bD trivial
 have hle:=hE.len
 have d0:decide ((n:Int)<0)=false:=by simp<;>omega
 have d1:decide ((n:Int)>64)=false:=by simp<;>omega
 have d2:decide ((E.length:Int)>4096)=false:=by simp<;>omega
 refine aK1 (cS T.leaf) (fn:=f110) hz (N:=100) ?_
 refine ck z zn n E.length (bC E) _ ?_
 (repeat' first|(with_reducible first|exact rfl|assumption|apply And.intro|exact jI _ _|exact q1)|exact hK0|exact hK1|intro hq)
 all_goals (exfalso;simp_all;done)
end
abbrev TM(r:List eF):ba:=⟨bC r,r.length*3,3,175,false,false,0,true⟩
structure Gm(z0:T aa)(zn0:Nat)(E:List eF)(j:Nat)(s:oA):Prop where
 bQ:ay s.z s.zn
 zn:s.zn=zn0+j
 iL: ∀k,k<zn0->s.z.get k=z0.get k
 row: ∀x∈s.l,zn0<=x.2.1/\x.2.1<s.zn/\s.z.get x.2.1=some (.aw (TM x.2.2))/\x.2.2≠[]/\x.2.2.length<=j/\ ∀e∈x.2.2,e∈E
 keys:(s.l.map (·.1)).Nodup
 Ps:(s.l.map (·.2.1)).Nodup
 lY: ∀a,lY s.l a=(E.take j).filter fun e=>e.fz1==a
theorem Ai: ∀(l:List nY)(i:Nat)(x:nY),ff i (l++[x])=ff i l++[{key:=zv x.1,val:=tb x.2.1 x.2.2.length x.2.2.length,born:=i+l.length}]
 |[],i,x=>rfl
 |(a,k,r)::l,i,x=>by
  simp only[List.cons_append,ff,Ai l (i+1) x,List.length_cons]
  rw[show i+1+l.length=i+(l.length+1) by omega]
theorem DW: ∀(l:List nY)(i j:Nat)(x y:nY),l[i]? =some y->y.1=x.1->cY i (zv x.1) (tb x.2.1 x.2.2.length x.2.2.length) (ff j l)=ff j (l.set i x)
 |[],i,j,x,y,h,_=>by simp at h
 |(a,k,r)::l,0,j,x,y,h,hk=>by
  simp only[List.getElem?_cons_zero,Option.some.injEq] at h
  subst h
  rfl
 |(a,k,r)::l,i+1,j,x,y,h,hk=>by
  simp only[List.getElem?_cons_succ] at h
  simp only[ff,cY,List.set_cons_succ,DW l i (j+1) x y h hk]
theorem DX: ∀(l:List nY)(i j:Nat)(x:nY),l[i]? =some x->nth (ff j l) i=some {key:=zv x.1,val:=tb x.2.1 x.2.2.length x.2.2.length,born:=j+i}
 |[],i,j,x,h=>by simp at h
 |(a,k,r)::l,0,j,x,h=>by
  simp only[List.getElem?_cons_zero,Option.some.injEq] at h
  subst h;rfl
 |(a,k,r)::l,i+1,j,x,h=>by
  simp only[List.getElem?_cons_succ] at h
  simp only[ff,nth,DX l i (j+1) x h]
  rw[show j+1+i=j+(i+1) by omega]
theorem tT{σ:Nat->Option Nat}: ∀{a a' b b':List MapEntry},gV σ a=some a'->gV σ b=some b'->gV σ (a++b)=some (a'++b')
 |[],a',b,b',h1,h2=>by simp only[gV,Option.some.injEq] at h1;subst h1;exact h2
 |e::a,a',b,b',h1,h2=>by
  simp only[gV] at h1
  split at h1
  ·rename_i k v q1 q2
   split at h1
   ·rename_i m q3
    cases h1
    simp only[List.cons_append,gV,q1,q2,tT q3 h2]
   ·cases h1
  ·cases h1
theorem oJ{σ:Nat->Option Nat}{k k' v v':Value}(hk:aW σ k=some k')(hv:aW σ v=some v'): ∀{es es':List MapEntry} (i:Nat),gV σ es=some es'->gV σ (cY i k v es)=some (cY i k' v' es')
 |[],es',i,h=>by simp only[gV,Option.some.injEq] at h;subst h;cases i<;>rfl
 |e::es,es',0,h=>by
  simp only[gV] at h
  split at h
  ·rename_i k v q1 q2
   split at h
   ·rename_i m q3
    cases h
    simp only[cY,gV,hk,hv,q3]
   ·cases h
  ·cases h
 |e::es,es',i+1,h=>by
  simp only[gV] at h
  split at h
  ·rename_i k v q1 q2
   split at h
   ·rename_i m q3
    cases h
    simp only[cY,gV,q1,q2,oJ hk hv i q3]
   ·cases h
  ·cases h
theorem ny{σ:bu}{k b c:Nat}{o:aa}(h:b≠k):aA σ [(k,c,o)] (256*b+510)=some (256*b+510):=by
 rw[jf (by unfold cI;omega)]
 have:Nat.beq (256*k+510) (256*b+510)=false:=by
  cases e:Nat.beq (256*k+510) (256*b+510) with
  |false=>rfl
  |true=>have:=Nat.eq_of_beq_eq_true e;omega
 simp only[BZ,this]
theorem K1{σ:bu}{k c:Nat}{o:aa}:aA σ [(k,c,o)] (256*k+510)=some c:=by
 rw[jf (by unfold cI;omega)]
 have:Nat.beq (256*k+510) (256*k+510)=true:=Nat.beq_refl _
 simp only[BZ,this]
theorem pD{σ:bu}{k c n m:Nat}{o:aa}:aW (aA σ [(k,c,o)]) (tb k n m)=some (aX c n m):=by
 simp only[aW,K1]
theorem J9{l:List nY}{x:nY}(h:l.find? (fun y=>y.1==x.1)=none)(a:Int):lY (l++[x]) a=if a=x.1 then x.2.2 else lY l a:=by
 unfold lY
 rw[List.find?_append]
 by_cases e:a=x.1
 ·subst e;rw[h,if_pos rfl];simp
 ·rw[if_neg e]
  have:(x.1==a)=false:=by simp;exact fun q=>e q.symm
  simp[List.find?_cons,this]
theorem Ew: ∀{l:List nY} {i:Nat} {x y:nY},(l.map (·.1)).Nodup->l[i]? =some y->y.1=x.1-> ∀a,lY (l.set i x) a=if a=x.1 then x.2.2 else lY l a
 |[],i,x,y,_,h,_,a=>by simp at h
 |b::l,0,x,y,hn,h,hk,a=>by
  simp only[List.getElem?_cons_zero,Option.some.injEq] at h
  subst h
  unfold lY
  simp only[List.set_cons_zero,List.find?_cons]
  by_cases e:a=x.1
  ·subst e;simp
  ·have h1:(x.1==a)=false:=by simp;exact fun q=>e q.symm
   have h2:(b.1==a)=false:=by rw[hk];exact h1
   rw[h1,h2,if_neg e]
 |b::l,i+1,x,y,hn,h,hk,a=>by
  simp only[List.getElem?_cons_succ] at h
  simp only[List.map_cons,List.nodup_cons] at hn
  have ih:=Ew hn.2 h hk a
  have hbx:b.1≠x.1:=fun e=>hn.1 (by rw[e,←hk];exact List.mem_map.2 ⟨y,List.mem_of_getElem? h,rfl⟩)
  unfold lY at ih ⊢
  simp only[List.set_cons_succ,List.find?_cons]
  by_cases e:(b.1==a)=true
  ·have:a=b.1:=by simpa using (beq_iff_eq.1 e).symm
   rw[e,if_neg (by rw[this];exact hbx)]
  ·have e':(b.1==a)=false:=by simpa using e
   rw[e'];exact ih
theorem wF: ∀{l:List Nat} {i v:Nat},l.Nodup->v ∉ l->(l.set i v).Nodup
 |[],_,_,h,_=>by simp
 |a::l,0,v,h,hv=>by
  simp only[List.set_cons_zero,List.nodup_cons] at*
  exact⟨fun q=>hv (List.mem_cons_of_mem _ q),h.2⟩
 |a::l,i+1,v,h,hv=>by
  simp only[List.set_cons_succ,List.nodup_cons] at*
  refine⟨fun q=>?_,wF h.2 fun q=>hv (List.mem_cons_of_mem _ q)⟩
  rcases List.mem_or_eq_of_mem_set q with q|q
  ·exact h.1 q
  ·exact hv (by rw[q];exact List.mem_cons_self ..)
theorem pN{α β:Type}(f:α->β){l:List α}{i:Nat}{x y:α}(h:l[i]? =some y)(hf:f x=f y):(l.set i x).map f=l.map f:=by
 rw[List.map_set]
 apply List.ext_getElem?
 intro j
 rw[List.getElem?_set]
 by_cases e:i=j
 ·subst e
  have hlt:i<l.length:=(List.getElem?_eq_some_iff.1 h).1
  have hg:l[i]=y:=by rw[List.getElem?_eq_getElem hlt] at h;exact Option.some.inj h
  simp[hlt,hg,hf]
 ·simp[e]
section
variable{z:T aa}{zn:Nat}
theorem Me(hz:ay z zn)(E:List eF)(hE:E.length<=4096):
 ai prog (ah (ag f111) 0) 2 34 (CC E.length 0) [(0,nW (bC E) E.length),(1, .map [] 0)] 2 z zn (Al.R (WV z zn E.length (bC E) (Gm z zn E E.length)).l):=by
 refine an hD (cS T.leaf) (α:=Nat × oA) 2 34 2 (fun t=>t.1<=E.length/\Gm z zn E t.1 t.2) (fun t=>CC E.length t.1) (fun t=>[(0,nW (bC E) E.length),(1,E2 t.2.l)]) (fun t=>t.2.z) (fun t=>t.2.zn) (fun t=>E.length - t.1) _ (fun t hI=>?_) (0,⟨[],z,zn⟩) ⟨Nat.zero_le _,⟨hz,rfl,fun _ _=>rfl,fun x hx=>(by cases hx),(by simp),(by simp),fun a=>(by simp[lY])⟩⟩
 obtain⟨j,s⟩:=t
 obtain⟨h1,h2⟩:=hI
 simp only at h1 h2 ⊢
 by_cases hj:j<E.length
 ·obtain⟨e,he⟩:=eV hj
  have hc:decide ((j:Int)<(E.length:Int))=true:=by simp;omega
  have htk:E.take (j+1)=E.take j++[e]:=by rw[List.take_add_one,he];rfl
  have hem:e∈E:=List.mem_of_getElem? he
  have hfr:=h2.bQ
  rcases mU s.l e.fz1 0 0 with ⟨i,x,q1,q2,q3,_,q5⟩|⟨q1,q2⟩
  ·rw[Nat.sub_zero] at q5
   obtain⟨k1,k2,k3,k4,k5,k6⟩:=h2.row x q2
   have hx1:x.1=e.fz1:=by simpa using List.find?_some q3
   have hzn: ∀y∈s.l,y.2.1≠s.zn:=fun y hy=>by have:=(h2.row y hy).2.1;omega
   have hkeep:xN (ff 0 s.l) i (zv e.fz1):=⟨_,DX s.l i 0 x q5,by rw[hx1];simp only[au,K5,Bool.and_self]⟩
   have hcells:bC x.2.2++eF.row e=bC (x.2.2++[e]):=by
    show _=((x.2.2++[e]).map eF.row).flatten
    rw[List.map_append,List.flatten_append];rfl
   have hmap: ∀o:aa,aI (aA [(0,0),(1,1)] [(s.zn,4,o)]) (aa.map (cY i (zv e.fz1) (tb s.zn (x.2.2.length+1) (x.2.2.length+1)) (ff 0 s.l)) s.l.length)=some (aa.map (cY i (zv e.fz1) (aX 4 (x.2.2.length+1) (x.2.2.length+1)) (ff 0 s.l)) s.l.length):=fun o=>by
    have:=oJ (σ:=aA [(0,0),(1,1)] [(s.zn,4,o)]) (k:=zv e.fz1) (k':=zv e.fz1) rfl (pD (n:=x.2.2.length+1) (m:=x.2.2.length+1)) i (sM (L:=s.l) 0 fun y hy=>ny (hzn y hy))
    simp only[aI,this]
   have r1: ∀σ c,aI σ (aa.aw (ba.mk (bC x.2.2++eF.row e) c 3 175 false false 0 true))=some (aa.aw (ba.mk (bC x.2.2++eF.row e) c 3 175 false false 0 true)):=fun σ c=>by
    rw[hcells];exact cR (gD _)
   have hfd:=uJ hfr x.2.1
   have hlen:=wm x.2.2
   refine t100 (nb1 s.z s.zn E.length j s.l.length i x.2.1 x.2.2.length (TM x.2.2) (bC E) e (ff 0 s.l) (ak _ _ _ _ _ _ _ _ _) ⟨fun _=>?_,nC1 hc⟩)
   (repeat' first|(with_reducible first|exact rfl|assumption|apply And.intro|exact Hm he _|exact hmap _|exact r1 _ _|exact jI _ _|exact(by omega:x.2.2.length+1<=1048576)|exact Nat.le_refl _|exact Nat.lt_succ_self _|exact bP (by omega))|exact Nat.le_succ _)
   refine⟨(j+1,⟨s.l.set i (e.fz1,s.zn,x.2.2++[e]),(s.z.del x.2.1).set s.zn (.aw (TM (x.2.2++[e]))),s.zn+1⟩),rfl,?_,rfl,?_,rfl,⟨hj,?_⟩,by show E.length - (j+1)<E.length - j;omega⟩
   ·have:=DW s.l i 0 (e.fz1,s.zn,x.2.2++[e]) x q5 hx1
    simp only[List.length_append,List.length_singleton] at this
    simp only[E2,←this,List.length_set]
   ·simp only[jG]
    have:x.2.2.length+1=(x.2.2++[e]).length:=by simp
    simp only[TM,←hcells,←this]
   ·simp only
    have hil:i<s.l.length:=(List.getElem?_eq_some_iff.1 q5).1
    refine⟨jz hfd (gD _),by show s.zn+1=zn+(j+1);rw[h2.zn];omega,fun k hk=>?_,fun y hy=>?_,?_,?_,fun a=>?_⟩
    ·show((s.z.del x.2.1).set s.zn _).get k=_
     rw[T.aP,if_neg (by have:=h2.zn;omega),T.fP,if_neg (by omega)]
     exact h2.iL k hk
    ·show zn<=y.2.1/\y.2.1<s.zn+1/\((s.z.del x.2.1).set s.zn _).get y.2.1=_/\_
     rcases List.mem_or_eq_of_mem_set hy with hy|rfl
     ·
      obtain⟨m1,m2,m3,m4,m5,m6⟩:=h2.row y hy
      have hne:y.2.1≠x.2.1:=by
       intro hyx
       obtain⟨p,hp⟩:=List.mem_iff_getElem?.1 (by assumption:y∈s.l.set i (e.fz1,s.zn,x.2.2++[e]))
       rw[List.getElem?_set] at hp
       split at hp
       ·rename_i hip
        simp only[hil,if_true,Option.some.injEq] at hp
        rw[←hp] at hyx m2
        simp only at m2;omega
       ·rename_i hip
        have hn:=h2.Ps
        have e1:(s.l.map (·.2.1))[p]? =some y.2.1:=by rw[List.getElem?_map,hp];rfl
        have e2:(s.l.map (·.2.1))[i]? =some x.2.1:=by rw[List.getElem?_map,q5];rfl
        rw[hyx] at e1
        have hlt1:=(List.getElem?_eq_some_iff.1 e1).1
        have hlt2:=(List.getElem?_eq_some_iff.1 e2).1
        exact hip ((List.getElem?_inj hlt2 hn).1 (e2.trans e1.symm))
      refine⟨m1,by omega,?_,m4,by omega,m6⟩
      rw[T.aP,if_neg (by omega),T.fP,if_neg hne]
      exact m3
     ·refine⟨by have:=h2.zn;show zn<=s.zn;omega,Nat.lt_succ_self _,by rw[T.aP,if_pos rfl],by simp,by simp;omega,fun e' he'=>?_⟩
      rcases List.mem_append.1 he' with q|q
      ·exact k6 e' q
      ·simp at q;subst q;exact hem
    ·show((s.l.set i (e.fz1,s.zn,x.2.2++[e])).map (·.1)).Nodup
     rw[pN (·.1) q5 hx1.symm];exact h2.keys
    ·show((s.l.set i (e.fz1,s.zn,x.2.2++[e])).map (·.2.1)).Nodup
     rw[List.map_set]
     refine wF h2.Ps fun q=>?_
     obtain⟨y,y1,y2⟩:=List.mem_map.1 q
     exact hzn y y1 y2
    ·show lY (s.l.set i (e.fz1,s.zn,x.2.2++[e])) a=_
     rw[Ew h2.keys q5 hx1 a,htk,List.filter_append]
     have hax:lY s.l e.fz1=x.2.2:=by unfold lY;rw[q3];rfl
     by_cases ea:a=e.fz1
     ·subst ea
      rw[if_pos rfl,←h2.lY,hax];simp
     ·have:(e.fz1==a)=false:=by simp;exact fun q=>ea q.symm
      rw[if_neg ea,h2.lY a];simp[List.filter_cons,this]
  ·have hzn: ∀y∈s.l,y.2.1≠s.zn:=fun y hy=>by have:=(h2.row y hy).2.1;omega
   have hmap: ∀o:aa,aI (aA [(0,0),(1,1)] [(s.zn,4,o)]) (aa.map (ff 0 s.l++[MapEntry.mk (zv e.fz1) (tb s.zn 1 1) s.l.length]) (s.l.length+1))=some (aa.map (ff 0 s.l++[MapEntry.mk (zv e.fz1) (aX 4 1 1) s.l.length]) (s.l.length+1)):=fun o=>by
    have h1:gV (aA [(0,0),(1,1)] [(s.zn,4,o)]) [MapEntry.mk (zv e.fz1) (tb s.zn 1 1) s.l.length]=some [MapEntry.mk (zv e.fz1) (aX 4 1 1) s.l.length]:=by
     have h0:=pD (σ:=[(0,0),(1,1)]) (k:=s.zn) (c:=4) (n:=1) (m:=1) (o:=o)
     have PW:aW (aA [(0,0),(1,1)] [(s.zn,4,o)]) (zv e.fz1)=some (zv e.fz1):=rfl
     simp only[gV,h0,PW]
    have:=tT (sM (L:=s.l) 0 fun y hy=>ny (σ:=[(0,0),(1,1)]) (c:=4) (o:=o) (hzn y hy)) h1
    simp only[aI,this]
   refine t100 (ZT s.z s.zn E.length j s.l.length (bC E) e (ff 0 s.l) (ak _ _ _ _ _ _ _ _ _) ⟨fun _=>?_,nC1 hc⟩)
   (repeat' first|(with_reducible first|exact rfl|assumption|apply And.intro|exact Hm he _|exact hmap _|exact jI _ _|exact Nat.le_refl _|exact Nat.lt_succ_self _|exact bP (by omega))|exact Nat.le_succ _)
   refine⟨(j+1,⟨s.l++[(e.fz1,s.zn,[e])],s.z.set s.zn (.aw (TM [e])),s.zn+1⟩),rfl,?_,rfl,rfl,rfl,⟨hj,?_⟩,by show E.length - (j+1)<E.length - j;omega⟩
   ·simp only[E2,Ai,List.length_append,List.length_singleton,Nat.zero_add]
   ·simp only
    refine⟨jz hfr (gD _),by show s.zn+1=zn+(j+1);rw[h2.zn];omega,fun k hk=>?_,fun y hy=>?_,?_,?_,fun a=>?_⟩
    ·show(s.z.set s.zn _).get k=_
     rw[T.aP,if_neg (by have:=h2.zn;omega)]
     exact h2.iL k hk
    ·show zn<=y.2.1/\y.2.1<s.zn+1/\(s.z.set s.zn _).get y.2.1=_/\_
     rcases List.mem_append.1 hy with hy|hy
     ·obtain⟨m1,m2,m3,m4,m5,m6⟩:=h2.row y hy
      refine⟨m1,by omega,?_,m4,by omega,m6⟩
      rw[T.aP,if_neg (by omega)]
      exact m3
     ·simp only[List.mem_singleton] at hy
      subst hy
      refine⟨by have:=h2.zn;show zn<=s.zn;omega,Nat.lt_succ_self _,by rw[T.aP,if_pos rfl],by simp,by simp,fun e' he'=>?_⟩
      simp at he';subst he';exact hem
    ·show((s.l++[(e.fz1,s.zn,[e])]).map (·.1)).Nodup
     rw[List.map_append,List.nodup_append]
     refine⟨h2.keys,by simp,fun a ha b hb=>?_⟩
     simp only[List.map_cons,List.map_nil,List.mem_singleton] at hb
     subst hb
     obtain⟨y,y1,y2⟩:=List.mem_map.1 ha
     intro hab
     have:=List.find?_eq_none.1 q2 y y1
     rw[y2,hab] at this;simp at this
    ·show((s.l++[(e.fz1,s.zn,[e])]).map (·.2.1)).Nodup
     rw[List.map_append,List.nodup_append]
     refine⟨h2.Ps,by simp,fun a ha b hb=>?_⟩
     simp only[List.map_cons,List.map_nil,List.mem_singleton] at hb
     subst hb
     obtain⟨y,y1,y2⟩:=List.mem_map.1 ha
     intro hab
     exact hzn y y1 (y2.trans hab)
    ·show lY (s.l++[(e.fz1,s.zn,[e])]) a=_
     rw[J9 q2 a,htk,List.filter_append]
     have hax:lY s.l e.fz1=[]:=by unfold lY;rw[q2];rfl
     by_cases ea:a=e.fz1
     ·subst ea
      rw[if_pos rfl,←h2.lY,hax];simp
     ·have:(e.fz1==a)=false:=by simp;exact fun q=>ea q.symm
      rw[if_neg ea,h2.lY a];simp[List.filter_cons,this]
 ·have hje:j=E.length:=by omega
  have hc:decide ((j:Int)<(E.length:Int))=false:=by simp;omega
  have hfr:=h2.bQ
  refine t100 (ZT s.z s.zn E.length j s.l.length (bC E) ⟨0,0,0⟩ (ff 0 s.l) (ak _ _ _ _ _ _ _ _ _) ⟨nC1 hc,fun _=>?_⟩)
  (repeat' first|(with_reducible first|exact rfl|assumption|apply And.intro|exact jI _ _|exact gU _ _ _))
  subst hje
  exact De (k:=fun _=>eO) s h2 rfl
theorem XO(hz:ay z zn)(E:List eF)(hE:E.length<=4096):
 bF prog z zn 111 [aX 0 E.length E.length,F0] [(0,nW (bC E) E.length)] 1 2 (Gm z zn E E.length) (fun _=>mp 1) (fun s=>[(0,nW (bC E) E.length),(1,E2 s.l)]) (fun s=>s.z) (fun s=>s.zn):=by
 have hK:=Me hz E hE
 refine gi (cS T.leaf) (fn:=f111) (by kernel_rfl) (by kernel_rfl) hz ⟨by decide,by decide⟩ (fun s hs=>⟨rfl,by show zn<=s.zn;rw[hs.zn];omega,hs.bQ⟩) (N:=100) ?_
 refine nb z zn E.length (bC E) (Gm z zn E E.length) _ ?_
 (repeat' first|(with_reducible first|exact rfl|assumption|apply And.intro|exact Gm.bQ ‹_›|exact jI _ _|exact gU _ _ _)|exact hK|intro hq)
 all_goals exact q2 _ hq rfl rfl rfl rfl rfl
end
end Go.Proofs.Nw
namespace Go.Proofs.Nw
open Go Go.AV Tryz
set_option maxRecDepth 1000000
noncomputable section
abbrev vD(cs:List Value)(n:Nat):aa:=BQ cs (n*1) 1 160
theorem al0(z:T aa)(zn n i ck:Nat)(es:List MapEntry)(a1 a2 cs:List Value)(f:List Value->List Value)(φ:List cL->Prop)(Q:QL)(hyp:Br (decide ((↑i:Int)<(↑n:Int))) ((aT prog z zn 113 [IV n,YK,IV i] [YG es ck] 1 2 φ (fun(x:List cL)=>aX 1 n n) fun(l:List cL)=>[YG es ck,(1,ke (aU l) n)])/\Rs [IV n,MP 1,IV i]/\KO (sig [(0,1)]) (YE es ck)/\ ∀(x:List cL),φ x->Rs (cQ n)/\K2 (sig [(1,0),(3,1)]) (YE es ck) (Ou x n) ((aT prog z zn 112 [ep n] [(0,Ou x n)] 1 2 Yx (fun(x:Unit)=>aX 1 n n) fun(x_1:Unit)=>[(1,Ft (f (aU x)) n)])/\Rs [SL 3 n n]/\KO (sig [(0,3)]) (Ou x n)/\ ∀(x_1:Unit),True->Rs (cQ n)/\KO (sig [(3,0),(4,1)]) (BQ (f (aU x)) (n*1) 1 3)/\Yz i/\i<n/\overwrite cs (0+i*1) [SL 4 n n]=some (a1++SL 4 n n::a2)/\(a1++aX 4 n n::a2).length<=n*1/\ZV (IntKind.i64.wrap ((↑i:Int)+1))=IV (i+1)/\E3 35 (Rf (jG z [(zn,4,BQ (f (aU x)) (n*1) 1 3)])/\zn.le (zn+1)/\ay z zn/\zn<=zn/\zn<zn+1/\KO (aA [Ye,Yl] [(zn,4,BQ (f (aU x)) (n*1) 1 3)]) (BQ (f (aU x)) (n*1) 1 3)/\R5 (IV n) (MP 1) (SL 2 n n) (IV n) (IV (i+1)) (KO (aA [Ye,Yl] [(zn,4,BQ (f (aU x)) (n*1) 1 3)]) (YE es ck)/\aI (aA [Ye,Yl] [(zn,4,BQ (f (aU x)) (n*1) 1 3)]) (BQ (a1++eJ zn n::a2) (n*1) 1 160)=some (BQ (a1++SL 4 n n::a2) (n*1) 1 160)/\Q aN [(0,IV n),(7,MP 1),(8,SL 2 n n),(21,IV n),(22,IV (i+1))] [(1,YE es ck),(2,BQ (a1++eJ zn n::a2) (n*1) 1 160)] 3 (jG z [(zn,4,BQ (f (aU x)) (n*1) 1 3)]) (zn+1))))) (E6 35 z zn (Rs (SL 2 n n)/\KO (aA [Yl] []) (vD cs n)/\Q YO [(8,SL 2 n n)] [(2,vD cs n)] 3 z zn))):ew prog gH jW (ah (ag f104) 0) 35 (AH n i) z [(1,YE es ck),(2,tH cs n)] 3 zn 3 Q:=K1t hyp ((tA 1 (Tr.cm (Cm.mk [IV n,YK,IV i] [YG es ck] 1 2 [(0,1)] [(1,0),(3,1)] 4) (List cL) φ (fun(x:List cL)=>aX 1 n n) (fun(l:List cL)=>[YG es ck,(1,ke (aU l) n)]) (fun(x:List cL)=>SL 3 n n) (fun(x:List cL)=>[(1,YE es ck),(3,Ou x n)]) (fun(x:List cL)=>z) (fun(x:List cL)=>zn) fun(x:List cL)=>Tr.cm (Cm.mk [ep n] [(0,Ou x n)] 1 2 [(0,3)] [(3,0),(4,1)] 5) Unit Yx (fun(x:Unit)=>aX 1 n n) (fun(x_1:Unit)=>[(1,Ft (f (aU x)) n)]) (fun(x:Unit)=>SL 4 n n) (fun(x_1:Unit)=>[(4,BQ (f (aU x)) (n*1) 1 3)]) (fZ z) (fY zn) fun(x_1:Unit)=>tO (Y9 i) (tX (my.NM (a1++aX 4 n n::a2)) (tO (dS i) (tE [Ye,Yl] [(zn,4,BQ (f (aU x)) (n*1) 1 3)] [(0,IV n),(7,MP 1),(8,SL 2 n n),(21,IV n),(22,IV (i+1))] [(1,YE es ck),(2,BQ (a1++eJ zn n::a2) (n*1) 1 160)] 3 (jG z [(zn,4,BQ (f (aU x)) (n*1) 1 3)]) (zn+1)))))).fork (tA 1 (tE [Yl] [] [(8,SL 2 n n)] [(2,vD cs n)] 3 z zn)))
noncomputable abbrev YGL(n:Nat)(s:eh):ax:=ax.mk YO [(8,aX 2 n n)] [(2,tH s.cs n)] 3 s.z s.zn
abbrev sD(x_1:eh)(n:Nat):aa:=BQ x_1.cs (n*1) 1 160
noncomputable abbrev YGN(n:Nat):eh->Tr:=fun(x:eh)=>tR [(1,2)] [] (TP [cQ n,YM]) [(1,sD x n)] 2 x.z x.zn
theorem al(z:T aa)(zn n m:Nat)(cs cs0:List Value)(φ:oA->Prop)(ψ:oA->eh->Prop)(Q:QF)(hyp:(aT prog z zn 110 [IV n,ep m,Yk] [(0,iG cs m)] 1 1 Yx (fun(x:Unit)=>YM) fun(x:Unit)=>[(0,iG cs m)])/\Rs [IV n,ep m,Yk]/\KO (sig YC) (iG cs m)/\ ∀(x:Unit),True->Ki/\KO (sig YC) (iG cs m)/\(bF prog z zn 111 [ep m,F0] [(0,iG cs m)] 1 2 φ (fun(x:oA)=>mp 1) (fun(s:oA)=>[(0,iG cs m),(1,E2 s.l)]) (fun(x:oA)=>x.z) fun(x:oA)=>x.zn)/\Rs [ep m,F0]/\KO (sig YC) (iG cs m)/\ ∀(x:oA),φ x->Rs (MP 1)/\K2 (sig dq) (iG cs m) (Oo x) (Yz n/\Yz n/\n<=1048576/\rep n [Yk]=cs0/\Yg/\ai prog (ah (ag f104) 0) 3 35 (AH n 0) [(1,Oo x),(2,tH cs0 n)] 3 x.z x.zn (Al.cons eh (ψ x) (fun(s:eh)=>YGL n s) (fun(x:eh)=>eO) Al.nil).R/\E6 35 x.z x.zn (R5 (IV n) (MP 1) (SL 2 n n) (IV n) YM (K2 (aA [Ye,Yl] []) (Oo x) (vD cs0 n) (∀(x_1:eh),ψ x x_1->E6 35 x_1.z x_1.zn (KO (aA [(1,2)] []) (sD x_1 n)/\Rs (TP [SL 2 n n,YM])/\Q (TP [cQ n,YM]) [(1,sD x_1 n)] 2 x_1.z x_1.zn)))))):ed prog gH jW f104 [iv n,aX 0 m m] z [(0,nW cs m)] 1 zn Q:=K1t hyp (Tr.cm (Cm.mk [IV n,ep m,Yk] [(0,iG cs m)] 1 1 YC YC 1) Unit Yx (fun(x:Unit)=>YM) (fun(x:Unit)=>[(0,iG cs m)]) (fun(x:Unit)=>YM) (fun(x:Unit)=>[(0,iG cs m)]) (fZ z) (fY zn) fun(x:Unit)=>tA 2 (Tr.cm (Cm.mk [ep m,F0] [(0,iG cs m)] 1 2 YC dq 2) oA φ (fun(x:oA)=>mp 1) (fun(s:oA)=>[(0,iG cs m),(1,E2 s.l)]) (fun(x:oA)=>MP 1) (fun(x:oA)=>[(0,iG cs m),(1,Oo x)]) (fun(x:oA)=>x.z) (fun(x:oA)=>x.zn) fun(x:oA)=>tX (my.SS n cs0) (Tr.lp 3 35 [Ye,Yl] [] (AH n 0) [(1,Oo x),(2,tH cs0 n)] 3 x.z x.zn (Al.cons eh (ψ x) (fun(s:eh)=>ax.mk YO [(8,aX 2 n n)] [(2,tH s.cs n)] 3 s.z s.zn) (YGN n) Al.nil))))
abbrev GC(x:ae)(es:List MapEntry):Option (Option (Nat × Value)):=aC prog 156 (sE x) es 0
abbrev jV(b:Bool):Nat × Value:=(2,gJ b)
abbrev Ez(n:Nat)(b:Bool)(m cp i:Nat):List (Nat × Value):=[eI n,jV b,(7,YK),(19,fJ m cp),(20,IV m),(21,IV (i+1))]
noncomputable abbrev U9:Code:=ah (ag f90) 0
theorem Z3(z:T aa)(zn m cp n i ck:Nat)(b:Bool)(kb:ba)(x:ae)(es:List MapEntry)(Q:QL)(hyp:Br (decide ((↑i:Int)<(↑m:Int))) (Yz i/\i<m/\OI/\OH z kb/\Y4 kb i x/\Br b (b=true/\Br x.sf (b=true/\b=true/\GC x es≠none/\(∀(p:Nat × Value),GC x es=YH p->Exists (YJ p))/\(∀(i_1:Nat × Int),GC x es=some (some (YI i_1))->(decide (x.aK<i_1.snd)=true->GC x es=some (some (i_1.fst,ZV i_1.snd))/\xN es i_1.fst (sE x)/\Rf (cY i_1.fst (sE x) (ZV x.aK) es)/\ZV (IntKind.i64.wrap ((↑i:Int)+1))=IV (i+1)/\E6 81 z zn (R6 (IV n) (gJ b) YK (fJ m cp) (IV m) (IV (i+1)) (KO YD (aa.map (cY i_1.fst (sE x) (ZV x.aK) es) ck)/\Q aN (Ez n b m cp i) [(0,aa.map (cY i_1.fst (sE x) (ZV x.aK) es) ck)] 1 z zn)))/\(decide (x.aK<i_1.snd)=false->ZV (IntKind.i64.wrap ((↑i:Int)+1))=IV (i+1)/\E6 81 z zn (R6 (IV n) (gJ b) YK (fJ m cp) (IV m) (IV (i+1)) (YF es ck/\Q aN (Ez n b m cp i) [YG es ck] 1 z zn))))/\(GC x es=YL->GC x es=YL/\ZV (IntKind.i64.wrap ((↑i:Int)+1))=IV (i+1)/\E6 81 z zn (R6 (IV n) (gJ b) YK (fJ m cp) (IV m) (IV (i+1)) (KO YD (aa.map (es++[MapEntry.mk (sE x) (ZV x.aK) ck]) (ck+1))/\Q aN (Ez n b m cp i) [(0,aa.map (es++[MapEntry.mk (sE x) (ZV x.aK) ck]) (ck+1))] 1 z zn)))) (b=true/\b=true/\ZV (IntKind.i64.wrap ((↑i:Int)+1))=IV (i+1)/\E6 81 z zn (R6 (IV n) (gJ b) YK (fJ m cp) (IV m) (IV (i+1)) (YF es ck/\Q aN (Ez n b m cp i) [YG es ck] 1 z zn)))) (b=false/\b=false/\b=false/\GC x es≠none/\(∀(p:Nat × Value),GC x es=YH p->Exists (YJ p))/\(∀(i_1:Nat × Int),GC x es=some (some (YI i_1))->(decide (x.aK<i_1.snd)=true->GC x es=some (some (i_1.fst,ZV i_1.snd))/\xN es i_1.fst (sE x)/\Rf (cY i_1.fst (sE x) (ZV x.aK) es)/\ZV (IntKind.i64.wrap ((↑i:Int)+1))=IV (i+1)/\E6 81 z zn (R6 (IV n) (gJ b) YK (fJ m cp) (IV m) (IV (i+1)) (KO YD (aa.map (cY i_1.fst (sE x) (ZV x.aK) es) ck)/\Q aN (Ez n b m cp i) [(0,aa.map (cY i_1.fst (sE x) (ZV x.aK) es) ck)] 1 z zn)))/\(decide (x.aK<i_1.snd)=false->ZV (IntKind.i64.wrap ((↑i:Int)+1))=IV (i+1)/\E6 81 z zn (R6 (IV n) (gJ b) YK (fJ m cp) (IV m) (IV (i+1)) (YF es ck/\Q aN (Ez n b m cp i) [YG es ck] 1 z zn))))/\(GC x es=YL->GC x es=YL/\ZV (IntKind.i64.wrap ((↑i:Int)+1))=IV (i+1)/\E6 81 z zn (R6 (IV n) (gJ b) YK (fJ m cp) (IV m) (IV (i+1)) (KO YD (aa.map (es++[MapEntry.mk (sE x) (ZV x.aK) ck]) (ck+1))/\Q aN (Ez n b m cp i) [(0,aa.map (es++[MapEntry.mk (sE x) (ZV x.aK) ck]) (ck+1))] 1 z zn))))) (E6 81 z zn (R2 (IV n) YK (YF es ck/\Q YO [eI n,(7,YK)] [YG es ck] 1 z zn)))):ew prog gH jW U9 81 (AD m cp n b i) z [YG es ck] 1 zn 1 Q:=K1t hyp ((tA 1 (tO (Y9 i) (tO (OE kb x) (tA 1 ((tO cH ((tO cH (tO cH (tA 5 (Tr.find (Nat × Int) YI (fun(i_1:Nat × Int)=>tA 5 ((tA 4 (tX (my.n9 i_1.fst (zv i_1.snd) (cY i_1.fst (AG [zv x.fz1,zv x.aq,F0]) (zv x.aK) es)) (tO (dS i) (tE YC [] (Ez n b m cp i) [(0,aa.map (cY i_1.fst (sE x) (ZV x.aK) es) ck)] 1 z zn)))).fork (tA 2 (tO (dS i) (tE YC [] (Ez n b m cp i) [YG es ck] 1 z zn))))) (tA 8 (tO BI (tO (dS i) (tE YC [] (Ez n b
 m cp i) [(0,aa.map (es++[MapEntry.mk (sE x) (ZV x.aK) ck]) (ck+1))] 1 z zn)))))))).fork (tO cH (tO cH (tA 1 (tO (dS i) (tE YC [] (Ez n b m cp i) [YG es ck] 1 z zn))))))).fork (tO bO (tO bO (tO bO (tA 5 (Tr.find (Nat × Int) YI (fun(i_1:Nat × Int)=>tA 5 ((tA 4 (tX (my.n9 i_1.fst (zv i_1.snd) (cY i_1.fst (AG [zv x.fz1,zv x.aq,F0]) (zv x.aK) es)) (tO (dS i) (tE YC [] (Ez n b m cp i) [(0,aa.map (cY i_1.fst (sE x) (ZV x.aK) es) ck)] 1 z zn)))).fork (tA 2 (tO (dS i) (tE YC [] (Ez n b m cp i) [YG es ck] 1 z zn))))) (tA 8 (tO BI (tO (dS i) (tE YC [] (Ez n b m cp i) [(0,aa.map (es++[MapEntry.mk (sE x) (ZV x.aK) ck]) (ck+1))] 1 z zn)))))))))))))).fork (tA 1 (tE YC [] [eI n,(7,YK)] [YG es ck] 1 z zn)))
abbrev XT(x:Nat × gp):List Value:=[ZV x.snd.fst,ZV x.snd.snd.fst,ZV x.snd.snd.snd]
noncomputable abbrev XS:Code:=ah (ag f90) 1
theorem ds1(z:T aa)(zn n r mm ck:Nat)(es:List MapEntry)(cs:List Value)(csf:Nat × gp->List Value)(seen:List Nat)(φ:Nat × gp->Prop)(Q:QL)(hyp:ck<=ck/\(∀(e:MapEntry),e∈es->e.born<ck)/\(∀(e:MapEntry),e∈es->kQ e.born seen=false-> ∃(x:Nat × gp),φ x/\e=UE x)/\(∀(x:Nat × gp),φ x->Rf ck/\fH x.fst es=some (MapEntry.mk (AG [ZV x.snd.fst,ZV x.snd.snd.fst,F0]) (ZV x.snd.snd.snd) x.fst)/\Rs (XT x)/\r+1<=mm/\overwrite cs (0+r*3) (XT x)=some (csf x)/\(csf x).length<=mm*3/\E6 81 z zn (R3 (IV n) (SL 1 (r+1) mm) jZ (K2 Yn (YE es ck) (BQ (csf x) (mm*3) 3 175) (Rs (aa.dC (some 0) ck (x.fst::seen) ck)/\Q aN [eI n,(13,SL 1 (r+1) mm),(59,jZ)] [YG es ck,(1,BQ (csf x) (mm*3) 3 175),(2,aa.dC (some 0) ck (x.fst::seen) ck)] 3 z zn))))/\((∀(e:MapEntry),e∈es->kQ e.born seen=true)->E6 81 z zn (R2 (IV n) (SL 1 r mm) (K2 nS (YE es ck) (iG cs mm) (Q ja [eI n,(13,SL 1 r mm)] [YG es ck,(1,iG cs mm)] 3 z zn))))):ew prog gH jW XS 81 (vO n r mm) z (vH mm ck es cs seen) 3 zn 3 Q:=K1t hyp (Tr.jY (Nat × gp) φ (fun(x:Nat × gp)=>UE x) (fun(x:Nat × gp)=>tA 1 (tX (my.XL (MapEntry.mk (Eo x.snd) (zv x.snd.snd.snd) x.fst)) (tA 3 (tX (my.app 1 (XT x) (csf x)) (tE Ym [] [eI n,(13,SL 1 (r+1) mm),(59,jZ)] [YG es ck,(1,BQ (csf x) (mm*3) 3 175),(2,aa.dC (some 0) ck (x.fst::seen) ck)] 3 z zn))))) (tA 1 (tE dq [] [eI n,(13,SL 1 r mm)] [YG es ck,(1,iG cs mm)] 3 z zn)))
noncomputable abbrev YGU(n:Nat)(l:List gp)(z:T aa)(zn:Nat):List eF->ax:=fun(l_1:List eF)=>ax.mk ja [(1,iv n),(13,aX 1 l.length l.length)] [(0,aa.map (gM 0 l) l.length),(1,nW (bC l_1) l.length)] 3 z zn
abbrev U8(n:Nat):eh->Value:=fun(x:eh)=>TP [aX 1 n n,YM]
abbrev U7(n:Nat):eh->List (Nat × aa):=fun(s:eh)=>[(1,tH s.cs n)]
abbrev GB:eh->Nat:=fun(x:eh)=>x.zn
noncomputable abbrev YGY(n:Nat)(x:eh):Tr:=tR [(0,3)] [] (ep n) [(0,sD x n)] 1 x.z x.zn
theorem ds(z:T aa)(zn n m cp:Nat)(b:Bool)(l:List gp)(cs0:List Value)(φ:List eF->Prop)(ψ:eh->Prop)(Q:QF)(hyp:YP/\ai prog U9 1 81 (AD m cp n b 0) [(0,Yt)] 1 z zn (alt True (ax.mk YO [(1,iv n),(7,mp 0)] [(0,T8 l)] 1 z zn) Al.nil).R/\E6 81 z zn (R6 (IV n) (gJ b) YK (fJ m cp) (IV m) YM (Yu/\ ∀(x:Unit),True->Int.ofNat 0=0/\(↑(gM 0 l).length:Int)=(↑l.length:Int)/\0<=l.length/\l.length<=1048576/\rep l.length YW=cs0/\Yg/\ai prog XS 3 81 (vO n 0 l.length) (vH l.length l.length (gM 0 l) cs0 []) 3 z zn (Al.cons (List eF) φ (YGU n l z zn) (fun(x:List eF)=>eO) Al.nil).R/\E6 81 z zn (R3 (IV n) (SL 1 0 l.length) jZ (K2 (aA [Ye,Yl,YB] []) (aa.map (gM 0 l) l.length) (BQ cs0 (l.length*3) 3 175) (Rs (aa.dC (some 0) l.length [] l.length)/\ ∀(x:List eF),φ x->bF prog z zn 104 [IV n,SL 0 l.length l.length] [(0,BQ (bC x) (l.length*3) 3 175)] 1 2 ψ (U8 n) (U7 n) (fun(x:eh)=>x.z) GB/\Rs [IV n,SL 1 l.length l.length]/\KO (sig [(0,1)]) (BQ (bC x) (l.length*3) 3 175)/\ ∀(x:eh),ψ x->Rs (TP [cQ n,YM])/\KO (sig [(1,0),(3,1)]) (sD x n)/\E6 81 x.z x.zn (KO (aA [(0,3)] []) (sD x n)/\Rs (SL 3 n n)/\Q (ep n) [(0,sD x n)] 1 x.z x.zn))))))):ed prog gH jW f90 [tb 4 m cp,iv n,gJ b] z [] 0 zn Q:=K1t hyp (Tr.lp 1 81 YC [] (AD m cp n b 0) [(0,Yt)] 1 z zn (Al.cons Unit Yx (fun(x:Unit)=>ax.mk YO [(1,iv n),(7,mp 0)] [(0,T8 l)] 1 z zn) (fun(x:Unit)=>tX (my.WL 0 l.length cs0) (Tr.lp 3 81 [Ye,Yl,YB] [] (vO n 0 l.length) (vH l.length l.length (gM 0 l) cs0 []) 3 z zn (Al.cons (List eF) φ (YGU n l z zn) (fun(x:List eF)=>Tr.cm (Cm.mk [IV n,SL 0 l.length l.length] [(0,BQ (bC x) (l.length*3) 3 175)] 1 2 [(0,1)] [(1,0),(3,1)] 4) eh ψ (U8 n) (U7 n) (fun(x:eh)=>TP [SL 3 n n,YM]) (fun(x:eh)=>[(3,sD x n)]) (fun(x:eh)=>x.z) GB fun(x:eh)=>YGY n x) Al.nil))) Al.nil))
abbrev U6:Prop:=Rs (BQ [Yk] 1 1 26)
theorem ad0(z:T aa)(zn k:Nat)(a b n:Int)(f:Bool)(Q:QF)(hyp:Br (decide (n>0)) (Br (decide (n<=14400)) (E3 23 (Rf (jG z [(zn,2,BR [ZV a,ZV b,ZV n,gJ f] 4 4 134)])/\zn.le (zn+1)/\ay z zn/\zn<=zn/\zn<zn+1/\Rs (BR [ZV a,ZV b,ZV n,gJ f] 4 4 134)/\aI (aA YC [(zn,2,BR [ZV a,ZV b,ZV n,gJ f] 4 4 134)]) (BQ [SL (tF zn) 1 1] 1 1 26)=some (BQ [SL 2 1 1] 1 1 26)/\mA/\Q nX [(0,BQ [SL (tF zn) 1 1] 1 1 26)] 1 (jG z [(zn,2,BR [ZV a,ZV b,ZV n,gJ f] 4 4 134)]) (zn+1))) (E6 23 z zn (U6/\mA/\Q nX [(0,BQ [Yk] 1 1 26)] 1 z zn))) (E6 23 z zn (U6/\mA/\Q nX [(0,BQ [Yk] 1 1 26)] 1 z zn))):ed prog gH jW f91 [zv a,zv b,zv n,gJ f,Y8] z [(0,oB az)] 1 zn Q:=K1t hyp ((tA 2 ((tA 5 (tR YC [(zn,2,BR [ZV a,ZV b,ZV n,gJ f] 4 4 134)] nX [(0,BQ [SL (tF zn) 1 1] 1 1 26)] 1 (jG z [(zn,2,BR [ZV a,ZV b,ZV n,gJ f] 4 4 134)]) (zn+1))).fork (tA 2 (tR YC [] nX [(0,BQ [Yk] 1 1 26)] 1 z zn)))).fork (tA 4 (tR YC [] nX [(0,BQ [Yk] 1 1 26)] 1 z zn)))
abbrev Rt(zn:Nat)(kb:ba)(a b n:Int)(f:Bool)(r:Nat):List (Nat × Nat × aa):=[(zn,2,BR (kb.cells++[ZV a,ZV b,ZV n,gJ f]) ((r+1)*4) 4 134)]
theorem ad1(z:T aa)(zn k r:Nat)(kb:ba)(a b n:Int)(f:Bool)(Q:QF)(hyp:Br (decide (n>0)) (Br (decide (n<=14400)) (Y0 k/\Y2 z k kb/\kb.exact=false/\kb.own=true/\kb.bQ=0/\kb.jU=4/\kb.elem=134/\Rs [ZV a,ZV b,ZV n,gJ f]/\Rf r/\kb.cells.length=r*4/\kb.cap=r*4/\r+1<=1048576/\E3 23 (Rf (jG (z.del k) (Rt zn kb a b n f r))/\zn.le (zn+1)/\ay (z.del k) zn/\zn<=zn/\zn<zn+1/\KO (aA YC (Rt zn kb a b n f r)) (BR (kb.cells++[ZV a,ZV b,ZV n,gJ f]) ((r+1)*4) 4 134)/\aI (aA YC (Rt zn kb a b n f r)) (BQ [SL (tF zn) (r+1) (r+1)] 1 1 26)=some (BQ [SL 2 (r+1) (r+1)] 1 1 26)/\mA/\Q nX [(0,BQ [SL (tF zn) (r+1) (r+1)] 1 1 26)] 1 (jG (z.del k) (Rt zn kb a b n f r)) (zn+1))) (E6 23 z zn (Rs (BQ [eJ k r] 1 1 26)/\mA/\Q nX [(0,BQ [eJ k r] 1 1 26)] 1 z zn))) (E6 23 z zn (Rs (BQ [eJ k r] 1 1 26)/\mA/\Q nX [(0,BQ [eJ k r] 1 1 26)] 1 z zn))):ed prog gH jW f91 [zv a,zv b,zv n,gJ f,Y8] z [(0,oB (tb k r r))] 1 zn Q:=K1t hyp ((tA 2 ((tA 3 (tX (my.TH k kb 1 [ZV a,ZV b,ZV n,gJ f]) (tA 1 (tR YC (Rt zn kb a b n f r) nX [(0,BQ [SL (tF zn) (r+1) (r+1)] 1 1 26)] 1 (jG (z.del k) (Rt zn kb a b n f r)) (zn+1))))).fork (tA 2 (tR YC [] nX [(0,BQ [eJ k r] 1 1 26)] 1 z zn)))).fork (tA 4 (tR YC [] nX [(0,BQ [eJ k r] 1 1 26)] 1 z zn)))
abbrev Df:Value:=Value.func (Fn.func 91) Sg (Array.mk [jZ])
abbrev Ey(s0:eR):Value:=Value.slice s0.oa s0.k s0.k
abbrev xJ(s0:eR):aa:=BQ [Ey s0] 1 1 26
abbrev On(n a ka b:Nat):List (Nat × Value):=[(5,ep n),(6,cQ n),(7,jZ),(8,Df),(9,IV a),(21,IV n),(22,IV a),(28,eJ ka n),(29,IV n),(30,IV (b+1))]
abbrev GA(A:List Value)(n:Nat)(B:List Value)(s0:eR):List (Nat × aa):=[(0,vD A n),(1,vD B n),(2,xJ s0)]
abbrev YGg(B:List Value)(n a kf:Nat):Prop:=aE prog (ba.mk B (n*1) 1 160 true true 0 true) 160 (0+a*1)=some (eJ kf n)
abbrev KB:eR->Value:=fun(x:eR)=>nX
abbrev QM:eR->List (Nat × aa):=fun(s:eR)=>[(0,oB s.v)]
abbrev pe:eR->T aa:=fun(x:eR)=>x.z
abbrev QK:eR->Nat:=fun(x:eR)=>x.zn
abbrev U5(s0:eR):Prop:=KO (sig [(0,2)]) (xJ s0)
abbrev U4(x:eR):Prop:=KO (sig [(2,0)]) (xJ x)
noncomputable abbrev U3:Code:=ah (ag f76) 0
noncomputable abbrev pd(ka:Nat)(k1:ba)(d:Int):An:=An.ld ka k1 (zv d)
noncomputable abbrev nR(kf n:Nat):An:=An.D1 (tb kf n n)
abbrev Ue:eR->List (Nat × aa):=fun(x:eR)=>[(2,xJ x)]
noncomputable abbrev YGr(b n a ka:Nat)(A B:List Value)(x:eR):Tr:=tO (dS b) (tE Ym [] (On n a ka b) (GA A n B x) 3 (pe x) x.zn)
noncomputable abbrev YGs(a b:Nat)(f:Int)(ψ:eR->eR->Prop)(n ka:Nat)(A B:List Value):eR->Tr:=fun(x:eR)=>(tA 1 (Tr.cm (Cm.mk [IV a,IV b,ZV f,T1,Yi] [(0,xJ x)] 1 1 [(0,2)] [(2,0)] 3) eR (ψ x) KB QM KB Ue pe QK fun(x:eR)=>YGr b n a ka A B x)).fork (tA 1 (tO (dS b) (tE Ym [] (On n a ka b) (GA A n B x) 3 (pe x) x.zn)))
theorem Z7(z:T aa)(zn n a ka kf b:Nat)(A B:List Value)(s0:eR)(k1 k2:ba)(d f:Int)(φ:eR->Prop)(ψ:eR->eR->Prop)(Q:QL)(hyp:Br (decide ((↑b:Int)<(↑n:Int))) (Yz b/\b<n/\Y0 ka/\Y2 z ka k1/\ou k1 b d/\Br ((↑a:Int)==(↑b:Int)) (ZV (IntKind.i64.wrap ((↑b:Int)+1))=IV (b+1)/\E6 66 z zn (R2 (ep n) (cQ n) (R8 jZ Df (IV a) (IV n) (IV a) (eJ ka n) (IV n) (IV (b+1)) (K3 Yn (vD A n) (vD B n) (xJ s0) (Q aN (On n a ka b) (GA A n B s0) 3 z zn))))) (Yz a/\a<n/\YGg B n a kf/\Yz b/\b<n/\Y0 kf/\Y2 z kf k2/\ou k2 b f/\Br (f==d) (bF prog z zn 91 [IV a,IV b,ZV d,T1,Yi] [(0,xJ s0)] 1 1 φ KB QM pe QK/\Rs [IV a,IV b,ZV d,T1,jZ]/\U5 s0/\ ∀(x:eR),φ x->mA/\U4 x/\((f !=d)=true->bF prog (pe x) x.zn 91 [IV a,IV b,ZV f,T1,Yi] [(0,xJ x)] 1 1 (ψ x) KB QM pe QK/\Rs [IV a,IV b,ZV f,T1,jZ]/\U5 x/\ ∀(x_1:eR),ψ x x_1->mA/\U4 x_1/\ZV (IntKind.i64.wrap ((↑b:Int)+1))=IV (b+1)/\E6 66 (pe x_1) x_1.zn (R2 (ep n) (cQ n) (R8 jZ Df (IV a) (IV n) (IV a) (eJ ka n) (IV n) (IV (b+1)) (K3 Yn (vD A n) (vD B n) (xJ x_1) (Q aN (On n a ka b) (GA A n B x_1) 3 (pe x_1) x_1.zn)))))/\((f !=d)=false->ZV (IntKind.i64.wrap ((↑b:Int)+1))=IV (b+1)/\E6 66 (pe x) x.zn (R2 (ep n) (cQ n) (R8 jZ Df (IV a) (IV n) (IV a) (eJ ka n) (IV n) (IV (b+1)) (K3 Yn (vD A n) (vD B n) (xJ x) (Q aN (On n a ka b) (GA A n B x) 3 (pe x) x.zn)))))) (bF prog z zn 91 [IV a,IV b,ZV d,F0,Yi] [(0,xJ s0)] 1 1 φ KB QM pe QK/\Rs [IV a,IV b,ZV d,F0,jZ]/\U5 s0/\ ∀(x:eR),φ x->mA/\U4 x/\((f !=d)=true->bF prog (pe x) x.zn 91 [IV a,IV b,ZV f,T1,Yi] [(0,xJ x)] 1 1 (ψ x) KB QM pe QK/\Rs [IV a,IV b,ZV f,T1,jZ]/\U5 x/\ ∀(x_1:eR),ψ x x_1->mA/\U4 x_1/\ZV (IntKind.i64.wrap ((↑b:Int)+1))=IV (b+1)/\E6 66 (pe x_1) x_1.zn (R2 (ep n) (cQ n) (R8 jZ Df (IV a) (IV n) (IV a) (eJ ka n) (IV n) (IV (b+1)) (K3 Yn (vD A n) (vD B n) (xJ x_1) (Q aN (On n a ka b) (GA A n B x_1) 3 (pe x_1) x_1.zn)))))/\((f !=d)=false->ZV (IntKind.i64.wrap ((↑b:Int)+1))=IV (b+1)/\E6 66 (pe x) x.zn (R2 (ep n) (cQ n) (R8 jZ Df (IV a) (IV n) (IV a) (eJ ka n) (IV n) (IV (b+1)) (K3 Yn (vD A n) (vD B n) (xJ x) (Q aN (On n a ka b) (GA A n B x) 3 (pe x) x.zn)))))))) (E6 66 z zn (R6 (ep n) (cQ n) jZ Df (IV n) (IV a) (K3 Yn (vD A n) (vD B n) (xJ s0) (Q ja [(5,ep n),(6,cQ n),(7,jZ),(8,Df),(21,IV n),(22,IV a)] (GA A n B s0) 3 z zn))))):ew prog gH jW (ah U3 0) 66 (AF n a ka b) z (yZ n A B s0.v) 3 zn 3 Q:=K1t hyp ((tA 1 (tO (Y9 b) (tO (pd ka k1 d) ((tA 1 (tO (dS b) (tE Ym [] (On n a ka b) (GA A n B s0) 3 z zn))).fork (tA 1 (tO (Y9 a) (tO (nR kf n) (tO (Y9 b) (tO (pd kf k2 f) ((Tr.cm (Cm.mk [IV a,IV b,ZV d,T1,Yi] [(0,xJ s0)] 1 1 [(0,2)] [(2,0)] 3) eR φ KB QM KB Ue pe QK (YGs a b f ψ n ka A B)).fork (Tr.cm (Cm.mk [IV a,IV b,ZV d,F0,Yi] [(0,xJ s0)] 1 1 [(0,2)] [(2,0)] 3) eR φ KB QM KB Ue pe QK (YGs a b f ψ n ka A B)))))))))))).fork (tA 1 (tE Ym [] [(5,ep n),(6,cQ n),(7,jZ),(8,Df),(21,IV n),(22,IV a)] (GA A n B s0) 3 z zn)))
noncomputable abbrev YGt(n a:Nat)(A B:List Value):eR->ax:=fun(s:eR)=>ax.mk ja (vP n a) (yZ n A B s.v) 3 (pe s) s.zn
noncomputable abbrev YGu(a n:Nat)(A B:List Value)(x:eR):Tr:=tO (dS a) (tE Ym [] [(5,ep n),(6,cQ n),(7,jZ),(8,Df),(21,IV n),(22,IV (a+1))] (GA A n B x) 3 (pe x) x.zn)
theorem Z8(z:T aa)(zn n a ka:Nat)(A B:List Value)(s0:eR)(φ:eR->Prop)(Q:QL)(hyp:Br (decide ((↑a:Int)<(↑n:Int))) (Yz a/\a<n/\YGg A n a ka/\Yg/\ai prog (ah U3 0) 3 66 (AF n a ka 0) (yZ n A B s0.v) 3 z zn (Al.cons eR φ (YGt n a A B) (fun(x:eR)=>eO) Al.nil).R/\E6 66 z zn (R2 (ep n) (cQ n) (R8 jZ Df (IV a) (IV n) (IV a) (eJ ka n) (IV n) YM (K3 Yn (vD A n) (vD B n) (xJ s0) (∀(x:eR),φ x->ZV (IntKind.i64.wrap ((↑a:Int)+1))=IV (a+1)/\E6 66 (pe x) x.zn (R6 (ep n) (cQ n) jZ Df (IV n) (IV (a+1)) (K3 Yn (vD A n) (vD B n) (xJ x) (Q aN [(5,ep n),(6,cQ n),(7,jZ),(8,Df),(21,IV n),(22,IV (a+1))] (GA A n B x) 3 (pe x) x.zn)))))))) (E6 66 z zn (Rs jZ/\KO (aA [Yl] []) (xJ s0)/\Q YO [(7,jZ)] (Ue s0) 3 z zn))):ew prog gH jW U3 66 (vP n a) z (yZ n A B s0.v) 3 zn 3 Q:=K1t hyp ((tA 1 (tO (Y9 a) (tO (nR ka n) (Tr.lp 3 66 Ym [] (AF n a ka 0) (yZ n A B s0.v) 3 z zn (Al.cons eR φ (YGt n a A B) (fun(x:eR)=>YGu a n A B x) Al.nil))))).fork (tA 1 (tE [Yl] [] [(7,jZ)] (Ue s0) 3 z zn)))
abbrev Om(n:Nat):eh->Value:=fun(x:eh)=>aX 0 n n
abbrev Ol(n:Nat):eh->List (Nat × aa):=fun(s:eh)=>[(0,tH s.cs n)]
noncomputable abbrev YGx(s:eR):ax:=ax.mk YO [(7,ip 2)] [(2,oB s.v)] 3 (pe s) s.zn
noncomputable abbrev YGy:eR->ax:=fun(s:eR)=>YGx s
abbrev YGz(n:Nat)(x x_1:eh)(χ:eh->eh->eR->Prop):Prop:=ai prog U3 3 66 (vP n 0) (yZ n x.cs x_1.cs az) 3 x_1.z x_1.zn (Al.cons eR (χ x x_1) YGy (fun(x:eR)=>eO) Al.nil).R
abbrev YG0(x_2:eR):Prop:=aT prog (pe x_2) x_2.zn 92 [Ey x_2,ic] [] 0 0 Yx mz db
noncomputable abbrev YG1(x:eR):Tr:=tA 1 (Tr.cm (Cm.mk [Ey x,ic] [] 0 0 [] [] 3) Unit Yx mz db mz db (fun(x_2:Unit)=>pe x) (fun(x_2:Unit)=>x.zn) fun(x_2:Unit)=>tA 1 (tR [] [] (Ey x) [] 0 (pe x) x.zn))
noncomputable abbrev YG2(n:Nat)(x:eh)(χ:eh->eh->eR->Prop):eh->Tr:=fun(x_1:eh)=>Tr.lp 3 66 Ym [] (vP n 0) (yZ n x.cs x_1.cs az) 3 x_1.z x_1.zn (Al.cons eR (χ x x_1) YGy (fun(x:eR)=>YG1 x) Al.nil)
theorem cl(z:T aa)(zn n m cp:Nat)(φ:eh->Prop)(ψ:eh->eh->Prop)(χ:eh->eh->eR->Prop)(Q:QF)(hyp:bF prog z zn 90 [fJ m cp,IV n,F0] [] 0 1 φ (Om n) (Ol n) (fun(x:eh)=>x.z) GB/\Rs [fJ m cp,IV n,F0]/\ ∀(x:eh),φ x->Rs (ep n)/\KO (sig YC) (sD x n)/\bF prog x.z x.zn 90 [fJ m cp,IV n,T1] [] 0 1 (ψ x) (Om n) (Ol n) (fun(x:eh)=>x.z) GB/\Rs [fJ m cp,IV n,T1]/\ ∀(x_1:eh),ψ x x_1->Rs (ep n)/\KO (sig BJ) (sD x_1 n)/\Yg/\YGz n x x_1 χ/\E6 66 x_1.z x_1.zn (R6 (ep n) (cQ n) jZ Df (IV n) YM (K2 Yn (sD x n) (sD x_1 n) (U6/\ ∀(x_2:eR),χ x x_1 x_2->YG0 x_2/\bz (sig []) [Ey x_2,ic]=some [Ey x_2,ic]/\ ∀(x:Unit),True->mA/\E6 66 (pe x_2) x_2.zn (aW (aA [] []) (Ey x_2)=some (Ey x_2)/\Q (Ey x_2) [] 0 (pe x_2) x_2.zn))))):ed prog gH jW f76 [tb 4 m cp,iv n] z [] 0 zn Q:=K1t hyp (Tr.cm (Cm.mk [fJ m cp,IV n,F0] [] 0 1 [] YC 1) eh φ (Om n) (Ol n) (fun(x:eh)=>ep n) (fun(x:eh)=>[(0,sD x n)]) (fun(x:eh)=>x.z) GB fun(x:eh)=>Tr.cm (Cm.mk [fJ m cp,IV n,T1] [] 0 1 [] BJ 2) eh (ψ x) (Om n) (Ol n) (fun(x:eh)=>cQ n) (fun(x:eh)=>[(1,sD x n)]) (fun(x:eh)=>x.z) GB (YG2 n x χ))
noncomputable abbrev Uf:Code:=ah (ag f64) 0
theorem Z0(z:T aa)(zn k r m cp i:Nat)(k1 k2:ba)(x y:ae)(b:Bool)(Q:QL)(hyp:Br (decide ((↑i:Int)<(↑r:Int))) (Yz i/\i<r/\Y0 k/\Y2 z k k2/\Y4 k2 i y/\Yz i/\i<m/\OI/\OH z k1/\Y4 k1 i x/\F7 prog BinOp.neq 134 (Operand.tmp 36) (Operand.tmp 40) (Y3 y) (Y3 x) (gJ b)/\Br b (E6 43 z zn (YQ/\Q af.ret [(4,F0)] [] 0 z zn)) (ZV (IntKind.i64.wrap ((↑i:Int)+1))=IV (i+1)/\E6 43 z zn (R5 (fJ m cp) (eJ k r) (eJ k r) (IV r) (IV (i+1)) (Q aN [(0,fJ m cp),(28,eJ k r),(7,eJ k r),(29,IV r),(30,IV (i+1))] [] 0 z zn)))) (E6 43 z zn (Q YO [] [] 0 z zn))):ew prog gH jW Uf 43 (CD k r m cp i) z [] 0 zn 0 Q:=K1t hyp ((tA 1 (tO (Y9 i) (tO (An.ld k k2 (AG y.row)) (tO (Y9 i) (tO (OE k1 x) (tX (my.bin (gJ b)) ((tE [] [] [(4,F0)] [] 0 z zn).fork (tO (dS i) (tE [] [] [(0,fJ m cp),(28,eJ k r),(7,eJ k r),(29,IV r),(30,IV (i+1))] [] 0 z zn))))))))).fork (Q5 z zn))
theorem Xg(z:T aa)(zn:Nat)(v:Value)(Q:QL)(hyp:E6 43 z zn (Q YO [] [] 0 z zn)):ew prog gH jW Uf 43 (og v) z [] 0 zn 0 Q:=K1t hyp (tA 2 (tE [] [] [] [] 0 z zn))
abbrev Rx:Unit->Value:=fun(x:Unit)=>TP [zv 0,zv 0]
abbrev Rw(m cp n:Nat):List Value:=[fJ m cp,ZV (if 0>(↑n:Int) then 0 else (↑n:Int))]
abbrev Vc:T aa × Nat->Value:=fun(x:T aa × Nat)=>az
abbrev Rv:T aa × Nat->List (Nat × aa):=fun(x:T aa × Nat)=>[]
abbrev vp:T aa × Nat->T aa:=fun(x:T aa × Nat)=>x.fst
abbrev Vb:T aa × Nat->Nat:=fun(x:T aa × Nat)=>x.snd
theorem icz(z:T aa)(zn n m cp:Nat)(φ:T aa × Nat->Prop)(Q:QF)(hyp:Br (decide ((↑n:Int)>64)) (E6 43 z zn (YQ/\Q F0 [] 0 z zn)) (aT prog z zn 75 [fJ m cp,IV n] [] 0 0 Yx Rx db/\Rs [fJ m cp,IV n]/\ ∀(x:Unit),True->vW/\bF prog z zn 76 (Rw m cp n) [] 0 0 φ Vc Rv vp Vb/\Rs (Rw m cp n)/\ ∀(x:T aa × Nat),φ x->Rs Yk/\((0 !=(↑m:Int))=true->E6 43 (vp x) x.snd (YQ/\Q F0 [] 0 (vp x) x.snd))/\((0 !=(↑m:Int))=false->r9/\ai prog Uf 0 43 (og (tb 4 m cp)) [] 0 (vp x) x.snd (alt True (ax.mk YO [] [] 0 (vp x) x.snd) Al.nil).R/\E6 43 (vp x) x.snd (R4 (fJ m cp) Yk YM YM (∀(x_1:Unit),True->E6 43 (vp x) x.snd (YA/\Q T1 [] 0 (vp x) x.snd)))))):ed prog gH jW f64 [tb 4 m cp,iv n] z [] 0 zn Q:=K1t hyp ((tA 1 (GM z zn)).fork (tA 1 (Tr.cm (Cm.mk [fJ m cp,IV n] [] 0 0 [] [] 0) Unit Yx Rx db (fun(x:Unit)=>sY) db (fZ z) (fY zn) fun(x:Unit)=>tA 3 (Tr.cm (Cm.mk (Rw m cp n) [] 0 0 [] [] 0) (T aa × Nat) φ Vc Rv (fun(x:T aa × Nat)=>Yk) Rv vp Vb fun(x:T aa × Nat)=>(tA 1 (tR [] [] F0 [] 0 (vp x) x.snd)).fork (tA 1 (Tr.lp 0 43 [] [] (og (tb 4 m cp)) [] 0 (vp x) x.snd (Al.cons Unit Yx (fun(x_1:Unit)=>ax.mk YO [] [] 0 (vp x) x.snd) (fun(x_1:Unit)=>tR [] [] T1 [] 0 (vp x) x.snd) Al.nil)))))))
abbrev YHA:Nat × Nat × T aa × Nat->Value:=fun(s:Nat × Nat × T aa × Nat)=>tb s.fst s.snd.fst s.snd.fst
abbrev XR:Nat × Nat × T aa × Nat->List (Nat × aa):=fun(x:Nat × Nat × T aa × Nat)=>[]
abbrev YHC(x:Nat × Nat × T aa × Nat):T aa:=x.snd.snd.fst
abbrev ze:Nat × Nat × T aa × Nat->T aa:=fun(x:Nat × Nat × T aa × Nat)=>YHC x
abbrev UY(x:Nat × Nat × T aa × Nat):Value:=SL (tF x.fst) x.snd.fst x.snd.fst
theorem ict(z:T aa)(zn n m cp:Nat)(b:Bool)(φ:Nat × Nat × T aa × Nat->Prop)(Q:QF)(hyp:Br (decide ((↑n:Int)>64)) (E6 43 z zn (YQ/\Q F0 [] 0 z zn)) (aT prog z zn 75 [fJ m cp,IV n] [] 0 0 Yx Rx db/\Rs [fJ m cp,IV n]/\ ∀(x:Unit),True->vW/\(bF prog z zn 76 (Rw m cp n) [] 0 0 φ YHA XR ze fun(x:Nat × Nat × T aa × Nat)=>x.snd.snd.snd)/\Rs (Rw m cp n)/\ ∀(x:Nat × Nat × T aa × Nat),φ x->Rs (UY x)/\(((↑x.snd.fst:Int) !=(↑m:Int))=true->E6 43 (ze x) x.snd.snd.snd (YQ/\Q F0 [] 0 (ze x) x.snd.snd.snd))/\(((↑x.snd.fst:Int) !=(↑m:Int))=false->r9/\ai prog Uf 0 43 (CD x.fst x.snd.fst m cp 0) [] 0 (ze x) x.snd.snd.snd (alt (b=false) (ax.mk af.ret [(4,F0)] [] 0 (ze x) x.snd.snd.snd) (alt (b=true) (ax.mk YO [] [] 0 (ze x) x.snd.snd.snd) Al.nil)).R/\E6 43 (ze x) x.snd.snd.snd (R5 (fJ m cp) (UY x) (UY x) (IV x.snd.fst) YM ((∀(x_1:Unit),b=false->E6 43 (ze x) x.snd.snd.snd (YQ/\Q F0 [] 0 (ze x) x.snd.snd.snd))/\ ∀(x_1:Unit),b=true->E6 43 (ze x) x.snd.snd.snd (YA/\Q T1 [] 0 (ze x) x.snd.snd.snd)))))):ed prog gH jW f64 [tb 4 m cp,iv n] z [] 0 zn Q:=K1t hyp ((tA 1 (GM z zn)).fork (tA 1 (Tr.cm (Cm.mk [fJ m cp,IV n] [] 0 0 [] [] 0) Unit Yx Rx db (fun(x:Unit)=>sY) db (fZ z) (fY zn) fun(x:Unit)=>tA 3 (Tr.cm (Cm.mk (Rw m cp n) [] 0 0 [] [] 0) (Nat × Nat × T aa × Nat) φ YHA XR UY XR ze (fun(x:Nat × Nat × T aa × Nat)=>x.snd.snd.snd) fun(x:Nat × Nat × T aa × Nat)=>(tA 1 (tR [] [] F0 [] 0 (ze x) x.snd.snd.snd)).fork (tA 1 (Tr.lp 0 43 [] [] (CD x.fst x.snd.fst m cp 0) [] 0 (ze x) x.snd.snd.snd (Al.cons Unit (YS b) (fun(x_1:Unit)=>ax.mk af.ret [(4,F0)] [] 0 (ze x) x.snd.snd.snd) (fun(x_1:Unit)=>tR [] [] F0 [] 0 (ze x) x.snd.snd.snd) (Al.cons Unit (YR b) (fun(x_1:Unit)=>ax.mk YO [] [] 0 (ze x) x.snd.snd.snd) (fun(x_1:Unit)=>tR [] [] T1 [] 0 (ze x) x.snd.snd.snd) Al.nil))))))))
abbrev XQ(n:Nat):List Value:=[Yk,ZV (if 0>(↑n:Int) then 0 else (↑n:Int))]
noncomputable abbrev YHG(x:T aa × Nat):Tr:=tA 2 (Tr.lp 0 43 [] [] (og az) [] 0 (vp x) x.snd (Al.cons Unit Yx (fun(x_1:Unit)=>ax.mk YO [] [] 0 (vp x) x.snd) (fun(x_1:Unit)=>tR [] [] T1 [] 0 (vp x) x.snd) Al.nil))
theorem icn(z:T aa)(zn n:Nat)(φ:T aa × Nat->Prop)(Q:QF)(hyp:Br (decide ((↑n:Int)>64)) (E6 43 z zn (YQ/\Q F0 [] 0 z zn)) (aT prog z zn 75 [Yk,IV n] [] 0 0 Yx Rx db/\Rs [Yk,IV n]/\ ∀(x:Unit),True->vW/\bF prog z zn 76 (XQ n) [] 0 0 φ Vc Rv vp Vb/\Rs (XQ n)/\ ∀(x:T aa × Nat),φ x->Rs Yk/\r9/\ai prog Uf 0 43 (og az) [] 0 (vp x) x.snd (alt True (ax.mk YO [] [] 0 (vp x) x.snd) Al.nil).R/\E6 43 (vp x) x.snd (R4 Yk Yk YM YM (∀(x_1:Unit),True->E6 43 (vp x) x.snd (YA/\Q T1 [] 0 (vp x) x.snd))))):ed prog gH jW f64 [az,iv n] z [] 0 zn Q:=K1t hyp ((tA 1 (GM z zn)).fork (tA 1 (Tr.cm (Cm.mk [Yk,IV n] [] 0 0 [] [] 0) Unit Yx Rx db (fun(x:Unit)=>sY) db (fZ z) (fY zn) fun(x:Unit)=>tA 3 (Tr.cm (Cm.mk (XQ n) [] 0 0 [] [] 0) (T aa × Nat) φ Vc Rv (fun(x:T aa × Nat)=>Yk) Rv vp Vb fun(x:T aa × Nat)=>YHG x))))
theorem XM(z:T aa)(zn n:Nat)(b:Bool)(Q:QL)(hyp:E6 81 z zn (R2 (IV n) YK (Yu/\Q YO [eI n,(7,YK)] [(0,Yt)] 1 z zn))):ew prog gH jW U9 81 (wR n b) z [(0,Yt)] 1 zn 1 Q:=K1t hyp (tA 2 (tE YC [] [eI n,(7,YK)] [(0,Yt)] 1 z zn))
noncomputable abbrev YHH(n:Nat)(z:T aa)(zn:Nat):List eF->ax:=fun(l:List eF)=>ax.mk ja [(1,iv n),(13,aX 1 0 0)] [(0,Yt),(1,nW (bC l) 0)] 3 z zn
abbrev KA:Value:=SL 1 0 0
theorem dsz(z:T aa)(zn n:Nat)(b:Bool)(φ:List eF->Prop)(ψ:eh->Prop)(Q:QF)(hyp:YP/\ai prog U9 1 81 (wR n b) [(0,Yt)] 1 z zn (alt True (ax.mk YO [(1,iv n),(7,mp 0)] [(0,Yt)] 1 z zn) Al.nil).R/\E6 81 z zn (R6 (IV n) (gJ b) YK Yk YM YM (Yu/\ ∀(x:Unit),True->Yg/\ai prog XS 3 81 (vO n 0 0) (vH 0 0 [] [] []) 3 z zn (Al.cons (List eF) φ (YHH n z zn) (fun(x:List eF)=>eO) Al.nil).R/\E6 81 z zn (R3 (IV n) KA jZ (Yu/\Rs (BQ [] 0 3 175)/\Rs (aa.dC (some 0) 0 [] 0)/\ ∀(x:List eF),φ x->bF prog z zn 104 [IV n,SL 0 0 0] [(0,BQ (bC x) 0 3 175)] 1 2 ψ (U8 n) (U7 n) (fun(x:eh)=>x.z) GB/\Rs [IV n,KA]/\KO (sig [(0,1)]) (BQ (bC x) 0 3 175)/\ ∀(x:eh),ψ x->Rs (TP [cQ n,YM])/\KO (sig [(1,0),(3,1)]) (sD x n)/\E6 81 x.z x.zn (KO (aA [(0,3)] []) (sD x n)/\Rs (SL 3 n n)/\Q (ep n) [(0,sD x n)] 1 x.z x.zn)))))):ed prog gH jW f90 [az,iv n,gJ b] z [] 0 zn Q:=K1t hyp (Tr.lp 1 81 YC [] (wR n b) [(0,Yt)] 1 z zn (Al.cons Unit Yx (fun(x:Unit)=>ax.mk YO [(1,iv n),(7,mp 0)] [(0,Yt)] 1 z zn) (fun(x:Unit)=>tA 1 (Tr.lp 3 81 [Ye,Yl,YB] [] (vO n 0 0) (vH 0 0 [] [] []) 3 z zn (Al.cons (List eF) φ (YHH n z zn) (fun(x:List eF)=>Tr.cm (Cm.mk [IV n,SL 0 0 0] [(0,BQ (bC x) 0 3 175)] 1 2 [(0,1)] [(1,0),(3,1)] 4) eh ψ (U8 n) (U7 n) (fun(x:eh)=>TP [SL 3 n n,YM]) (fun(x:eh)=>[(3,sD x n)]) (fun(x:eh)=>x.z) GB fun(x:eh)=>tR [(0,3)] [] (ep n) [(0,sD x n)] 1 x.z x.zn) Al.nil))) Al.nil))
theorem clz(z:T aa)(zn n:Nat)(φ:eh->Prop)(ψ:eh->eh->Prop)(χ:eh->eh->eR->Prop)(Q:QF)(hyp:bF prog z zn 90 [Yk,IV n,F0] [] 0 1 φ (Om n) (Ol n) (fun(x:eh)=>x.z) GB/\Rs [Yk,IV n,F0]/\ ∀(x:eh),φ x->Rs (ep n)/\KO (sig YC) (sD x n)/\bF prog x.z x.zn 90 [Yk,IV n,T1] [] 0 1 (ψ x) (Om n) (Ol n) (fun(x:eh)=>x.z) GB/\Rs [Yk,IV n,T1]/\ ∀(x_1:eh),ψ x x_1->Rs (ep n)/\KO (sig BJ) (sD x_1 n)/\Yg/\YGz n x x_1 χ/\E6 66 x_1.z x_1.zn (R6 (ep n) (cQ n) jZ Df (IV n) YM (K2 Yn (sD x n) (sD x_1 n) (U6/\ ∀(x_2:eR),χ x x_1 x_2->YG0 x_2/\bz (sig []) [Ey x_2,ic]=some [Ey x_2,ic]/\ ∀(x:Unit),True->mA/\E6 66 (pe x_2) x_2.zn (aW (aA [] []) (Ey x_2)=some (Ey x_2)/\Q (Ey x_2) [] 0 (pe x_2) x_2.zn))))):ed prog gH jW f76 [az,iv n] z [] 0 zn Q:=K1t hyp (Tr.cm (Cm.mk [Yk,IV n,F0] [] 0 1 [] YC 1) eh φ (Om n) (Ol n) (fun(x:eh)=>ep n) (fun(x:eh)=>[(0,sD x n)]) (fun(x:eh)=>x.z) GB fun(x:eh)=>Tr.cm (Cm.mk [Yk,IV n,T1] [] 0 1 [] BJ 2) eh (ψ x) (Om n) (Ol n) (fun(x:eh)=>cQ n) (fun(x:eh)=>[(1,sD x n)]) (fun(x:eh)=>x.z) GB (YG2 n x χ))
end
end Go.Proofs.Nw
namespace Go.Proofs.Nw
open Go Go.AV Tryz Go.jo
set_option maxHeartbeats 1000000
set_option maxRecDepth 100000
def EE(E:List eF):bU:=fun u v w=> ∃e∈E,e.fz1=(u:Int)/\e.aq=(v:Int)/\e.wt=(w:Int)
abbrev CO(l:List cL)(n:Nat):ba:=⟨wY l,n*1,1,3,true,true,0,true⟩
def mf(b n:Nat)(i:Nat):List Value:=(List.range i).map fun j=>tb (b+j) n n
def gL(b n i:Nat):List Value:=mf b n i++List.replicate (n - i) az
theorem pn(b n i:Nat):(mf b n i).length=i:=by simp[mf]
theorem pj(b n i:Nat):mf b n (i+1)=mf b n i++[tb (b+i) n n]:=by simp[mf,List.range_succ]
theorem Jn{b n i:Nat}(h:i<n):(gL b n n)[i]? =some (tb (b+i) n n):=by
 unfold gL mf
 rw[List.getElem?_append_left (by simpa using h),List.getElem?_map,List.getElem?_range h];rfl
theorem MU{b n i:Nat}(h:i<=n):(gL b n i).length=n:=by simp[gL,mf];omega
theorem FP{b n i:Nat}(h:i<n):gL b n i=mf b n i++az::List.replicate (n - (i+1)) az:=by
 unfold gL
 obtain⟨m,hm⟩: ∃m,n - i=m+1:=⟨n - i - 1,by omega⟩
 rw[hm,show n - (i+1)=m by omega];rfl
theorem Jm{b n i:Nat}:gL b n (i+1)=mf b n i++tb (b+i) n n::List.replicate (n - (i+1)) az:=by
 unfold gL
 rw[pj,List.append_assoc];rfl
theorem mG{σ:Nat->Option Nat}: ∀{a a' b b':List Value},bz σ a=some a'->bz σ b=some b'->bz σ (a++b)=some (a'++b')
 |[],a',b,b',h1,h2=>by simp only[bz,Option.some.injEq] at h1;subst h1;exact h2
 |v::a,a',b,b',h1,h2=>by
  simp only[bz] at h1
  split at h1
  ·rename_i k q1
   split at h1
   ·rename_i m q3
    cases h1
    simp only[List.cons_append,bz,q1,mG q3 h2]
   ·cases h1
  ·cases h1
theorem pC{σ:Nat->Option Nat}{b n:Nat}: ∀{i:Nat},(∀j,j<i->σ (256*(b+j)+510)=some (256*(b+j)+510))->bz σ (mf b n i)=some (mf b n i)
 |0,_=>rfl
 |i+1,h=>by
  rw[pj]
  refine mG (pC fun j hj=>h j (by omega)) ?_
  have:=h i (Nat.lt_succ_self i)
  simp only[bz,aW,this]
theorem oP(m:Nat):bE (List.replicate m az)=true:=by
 rw[cU];intro v hv;rw[List.eq_of_mem_replicate hv];rfl
theorem Lg{σ:Nat->Option Nat}{b n i:Nat}(h: ∀j,j<i->σ (256*(b+j)+510)=some (256*(b+j)+510)):bz σ (gL b n i)=some (gL b n i):=mG (pC h) (fE (oP _))
theorem Dv(σ:bu)(k:Nat):sig σ (256*k+510)=some (256*k+510):=iY (by unfold cI;omega)
theorem mE(σ:bu)(b n i c:Nat):aI (aA σ []) (aa.aw (ba.mk (gL b n i) c 1 160 true true 0 true))=some (aa.aw (ba.mk (gL b n i) c 1 160 true true 0 true)):=by
 have:=Lg (σ:=aA σ []) (b:=b) (n:=n) (i:=i) fun j _=>Dv σ _
 simp only[aI,this]
structure BW(b n:Nat)(L:List nY)(z1:T aa)(i:Nat)(zz:T aa):Prop where
 bQ:ay zz (b+i)
 iL: ∀k,k<b->zz.get k=z1.get k
 row: ∀j,j<i-> ∃l,D3φ L n j l/\zz.get (b+j)=some (.aw (CO l n))
structure BV(z:T aa)(zn n:Nat)(E:bU)(s:eh):Prop where
 bQ:ay s.z s.zn
 le:zn<=s.zn
 iL: ∀k,k<zn->s.z.get k=z.get k
 row: ∃b,zn<=b/\b+n<=s.zn/\s.cs=gL b n n/\ ∀i,i<n-> ∃l,s.z.get (b+i)=some (.aw (CO l n))/\l.length=n/\ ∀j,j<n->l9 E i j (fA l j).len
section
variable{z:T aa}{zn:Nat}
theorem SR{n:Nat}{E:List eF}(hE:Gs n E){s:oA}(h:Gm z zn E E.length s){zz:T aa}(hzz: ∀k,k<s.zn->zz.get k=s.z.get k)(zm:Nat):V2 zz zm n s.l:=by
 refine⟨fun x hx=>?_,fun x hx=>?_⟩
 ·obtain⟨k1,k2,k3,_⟩:=h.row x hx
  exact⟨_,(hzz _ k2).trans k3,rfl⟩
 ·obtain⟨k1,k2,k3,k4,k5,k6⟩:=h.row x hx
  refine⟨Nat.le_trans k5 hE.len,fun e he=>?_⟩
  obtain⟨m1,m2,m3,m4,m5,m6⟩:=hE.ok e (k6 e he)
  exact⟨m3,m4,m5,m6⟩
theorem Pw{E:List eF}{s:oA}(h:Gm z zn E E.length s):GE s.l=EE E:=by
 funext u v w
 apply propext
 unfold GE EE
 rw[h.lY,List.take_of_length_le (Nat.le_refl _)]
 constructor
 ·rintro⟨e,he,h1,h2⟩
  rw[List.mem_filter] at he
  exact⟨e,he.1,by simpa using he.2,h1,h2⟩
 ·rintro⟨e,he,h0,h1,h2⟩
  exact⟨e,List.mem_filter.2 ⟨he,by simpa using h0⟩,h1,h2⟩
theorem Mq(n:Nat)(hn:n<=64)(E:List eF)(hE:Gs n E)(s:oA)(hs:Gm z zn E E.length s):
 ai prog (ah (ag f104) 0) 3 35 (AH n 0) [(1,E2 s.l),(2,tH (rep n [az]) n)] 3 s.z s.zn (Al.R (Tv n s.l.length (ff 0 s.l) (rep n [az]) s.z s.zn (fun r=> ∃zz,BW s.zn n s.l s.z n zz/\r=⟨gL s.zn n n,zz,s.zn+n⟩)).l):=by
 have e0:rep n [az]=gL s.zn n 0:=by rw[nA n [az] rfl];simp[gL,mf]
 rw[e0]
 refine an hD (cS T.leaf) (α:=Nat × T aa) 3 35 3 (fun t=>t.1<=n/\BW s.zn n s.l s.z t.1 t.2) (fun t=>AH n t.1) (fun t=>[(1,E2 s.l),(2,tH (gL s.zn n t.1) n)]) (fun t=>t.2) (fun t=>s.zn+t.1) (fun t=>n - t.1) _ (fun t hI=>?_) (0,s.z) ⟨Nat.zero_le _,hs.bQ,fun _ _=>rfl,fun j hj=>by omega⟩
 obtain⟨i,zz⟩:=t
 obtain⟨h1,h2⟩:=hI
 simp only at h1 h2 ⊢
 have hfr:=h2.bQ
 by_cases hi:i<n
 ·have hc:decide ((i:Int)<(n:Int))=true:=by simp;omega
  have hL:=SR hE hs (zz:=zz) h2.iL (s.zn+i)
  have hlab:=JQ hfr s.l n i hL hn hi
  have hlen: ∀l,D3φ s.l n i l->A1 zz (s.zn+i) 112 [aX 0 n n] [(0,ke (aU l) n)] 1 2 (aX 1 n n) [(1,Ft (vS (aU l)) n)]:=fun l hl=>Qx hfr l n hl.1 (by omega)
  have o1:=pI (cs:=gL s.zn n i) (i:=i) (by rw[MU h1];exact hi) (aX 4 n n)
  have e1:(gL s.zn n i).set i (aX 4 n n)=mf s.zn n i++aX 4 n n::List.replicate (n - (i+1)) az:=by
   rw[FP hi,List.set_append_right _ _ (by rw[pn];exact Nat.le_refl _),pn,Nat.sub_self,List.set_cons_zero]
  rw[e1] at o1
  have l1:(mf s.zn n i++aX 4 n n::List.replicate (n - (i+1)) az).length<=n*1:=by simp[pn];omega
  have r1: ∀(σ:Nat->Option Nat) l c,aI σ (aa.aw (ba.mk (vS (aU l)) c 1 3 true true 0 true))=some (aa.aw (ba.mk (vS (aU l)) c 1 3 true true 0 true)):=fun σ l c=>by
   rw[nM];exact mF (lH (·.len) l) c
  have r2: ∀o,aI (aA [(1,1),(2,2)] [(s.zn+i,4,o)]) (aa.map (ff 0 s.l) s.l.length)=some (aa.map (ff 0 s.l) s.l.length):=fun o=>Hk (fun x hx=>ny (by have:=(hs.row x hx).2.1;omega)) _
  have r3: ∀o c,aI (aA [(1,1),(2,2)] [(s.zn+i,4,o)]) (aa.aw (ba.mk (mf s.zn n i++tb (s.zn+i) n n::List.replicate (n - (i+1)) az) c 1 160 true true 0 true))=some (aa.aw (ba.mk (mf s.zn n i++aX 4 n n::List.replicate (n - (i+1)) az) c 1 160 true true 0 true)):=fun o c=>by
   have q1:=pC (σ:=aA [(1,1),(2,2)] [(s.zn+i,4,o)]) (b:=s.zn) (n:=n) (i:=i) fun j hj=>ny (by omega)
   have q2:bz (aA [(1,1),(2,2)] [(s.zn+i,4,o)]) (tb (s.zn+i) n n::List.replicate (n - (i+1)) az)=some (aX 4 n n::List.replicate (n - (i+1)) az):=by
    have:=pD (σ:=[(1,1),(2,2)]) (k:=s.zn+i) (c:=4) (n:=n) (m:=n) (o:=o)
    simp only[bz,this,fE (oP _)]
   simp only[aI,mG q1 q2]
  have nx: ∀l,D3φ s.l n i l->ak (fun t:Nat × T aa=>t.1<=n/\BW s.zn n s.l s.z t.1 t.2) (fun t=>AH n t.1) (fun t=>[(1,E2 s.l),(2,tH (gL s.zn n t.1) n)]) 3 (fun t=>t.2) (fun t=>s.zn+t.1) (fun t=>n - t.1) (Al.R (Tv n s.l.length (ff 0 s.l) (gL s.zn n 0) s.z s.zn (fun r=> ∃zz,BW s.zn n s.l s.z n zz/\r=⟨gL s.zn n n,zz,s.zn+n⟩)).l) (i,zz) .normal (AH n (i+1)) [(1,E2 s.l),(2,tH (mf s.zn n i++tb (s.zn+i) n n::List.replicate (n - (i+1)) az) n)] 3 (jG zz [(s.zn+i,4, .aw (ba.mk (vS (aU l)) (n*1) 1 3 true true 0 true))]) (s.zn+i+1):=fun l hl=>by
   refine⟨(i+1,zz.set (s.zn+i) (.aw (CO l n))),rfl,by simp only[Jm],rfl,by simp only[jG,nM],by simp only;omega,⟨hi,?_⟩,by show n - (i+1)<n - i;omega⟩
   show BW s.zn n s.l s.z (i+1) (zz.set (s.zn+i) (.aw (CO l n)))
   refine⟨?_,fun k hk=>?_,fun j hj=>?_⟩
   ·have:=jz hfr (k:=CO l n) (lH (·.len) l)
    exact this
   ·rw[T.aP,if_neg (by omega)];exact h2.iL k hk
   ·by_cases e:j=i
    ·subst e;exact⟨l,hl,by rw[T.aP,if_pos rfl]⟩
    ·obtain⟨l',k1,k2⟩:=h2.row j (by omega)
     exact⟨l',k1,by rw[T.aP,if_neg (by omega)];exact k2⟩
  refine t100 (al0 zz (s.zn+i) n i s.l.length (ff 0 s.l) (mf s.zn n i) (List.replicate (n - (i+1)) az) (gL s.zn n i) vS (D3φ s.l n i) (ak _ _ _ _ _ _ _ _ _) ⟨fun _=>?_,nC1 hc⟩)
  (repeat' first|(with_reducible first|exact rfl|assumption|apply And.intro|exact hlen _ ‹_›|exact r1 _ _ _|exact r2 _|exact r3 _ _|exact xY _ _ _|exact jH _ _|exact Nat.le_refl _|exact Nat.lt_succ_self _|exact bP (by omega))|exact Nat.le_succ _|intro hq)
  all_goals exact nx _ (by with_reducible assumption)
 ·have hie:i=n:=by omega
  subst hie
  have hc:decide ((i:Int)<(i:Int))=false:=by simp
  refine t100 (al0 zz (s.zn+i) i i s.l.length (ff 0 s.l) [] [] (gL s.zn i i) vS (fun _=>False) (ak _ _ _ _ _ _ _ _ _) ⟨nC1 hc,fun _=>?_⟩)
  (repeat' first|(with_reducible first|exact rfl|assumption|apply And.intro|exact mE _ _ _ _ _))
  exact De (k:=fun _=>eO) ⟨gL s.zn i i,zz,s.zn+i⟩ ⟨zz,h2,rfl⟩ rfl
theorem T5(hz:ay z zn)(n:Nat)(hn:n<=64)(E:List eF)(hE:Gs n E):
 bF prog z zn 104 [iv n,aX 0 E.length E.length] [(0,nW (bC E) E.length)] 1 2 (BV z zn n (EE E)) (fun _=> .tuple ⟨[aX 1 n n,I 0]⟩) (fun s=>[(1,tH s.cs n)]) (fun s=>s.z) (fun s=>s.zn):=by
 have hck:=JV hz n hn E hE
 have hnb:=XO hz E hE.len
 have hal: ∀s,Gm z zn E E.length s->_:=fun s hs=>Mq n hn E hE s hs
 have hp:bE (rep n [az])=true:=by rw[nA n [az] rfl];exact oP n
 have r0: ∀σ c,aI σ (aa.aw (ba.mk (rep n [az]) c 1 160 true true 0 true))=some (aa.aw (ba.mk (rep n [az]) c 1 160 true true 0 true)):=fun σ c=>cR hp
 have fin: ∀s,Gm z zn E E.length s-> ∀r:eh,(∃zz,BW s.zn n s.l s.z n zz/\r=⟨gL s.zn n n,zz,s.zn+n⟩)->BV z zn n (EE E) r:=fun s hs r ⟨zz,h,e⟩=>by
  subst e
  have hle:=hs.zn
  refine⟨h.bQ,by show zn<=s.zn+n;omega,fun k hk=>(h.iL k (by omega)).trans (hs.iL k hk),s.zn,by omega,Nat.le_refl _,rfl,fun i hi=>?_⟩
  obtain⟨l,hl,hg⟩:=h.row i hi
  refine⟨l,hg,hl.1,fun j hj=>?_⟩
  rw[←Pw hs];exact hl.2 j hj
 have Lq: ∀σ s,Gm z zn E E.length s-> ∀r:eh,(∃zz,BW s.zn n s.l s.z n zz/\r=⟨gL s.zn n n,zz,s.zn+n⟩)-> ∀c,aI (aA σ []) (aa.aw (ba.mk r.cs c 1 160 true true 0 true))=some (aa.aw (ba.mk r.cs c 1 160 true true 0 true)):=fun σ s hs r ⟨zz,h,e⟩ c=>by
  subst e;exact mE _ _ _ _ _
 refine gi (cS T.leaf) (fn:=f104) (by kernel_rfl) (by kernel_rfl) hz ⟨by decide,by decide⟩ (fun s hs=>⟨rfl,hs.le,hs.bQ⟩) (N:=100) ?_
 refine al z zn n E.length (bC E) (rep n [az]) (Gm z zn E E.length) (fun s r=> ∃zz,BW s.zn n s.l s.z n zz/\r=⟨gL s.zn n n,zz,s.zn+n⟩) _ ?_
 (repeat' first|(with_reducible first|exact rfl|assumption|apply And.intro|exact Gm.bQ ‹_›|exact BV.bQ (fin _ ‹_› _ ‹_›)|exact Lq _ _ ‹_› _ ‹_› _|exact r0 _ _|exact jI _ _|exact xY _ _ _|exact gU _ _ _|exact(by omega:n<=1048576))|exact hal _ (by with_reducible assumption)|intro hq)
 all_goals exact q2 _ (fin _ (by with_reducible assumption) _ hq) rfl rfl rfl rfl rfl
end
end Go.Proofs.Nw
