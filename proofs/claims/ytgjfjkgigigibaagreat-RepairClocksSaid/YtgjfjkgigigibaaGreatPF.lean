/-
  A part of the proof: lemmas of my own.
-/
import Derived.Test.YtgjfjkgigigibaaGreatPE
import Derived.Test.YtgjfjkgigigibaaGreatXA
set_option linter.unusedVariables false
set_option linter.unusedSimpArgs false
namespace Go.Proofs.Nw
open Go Go.AV Tryz Go.RowKit
set_option maxRecDepth 100000
def oh.abs(j:Nat)(r:oh):RunT:=⟨⟨r.xa,r.day,r.inst,r.id,r.jv,r.sf,r.cancelled,lG (6+j) r.cv,lE r.cv,lF r.cv⟩,r.calls⟩
def kA.T(N:kA):fP:=⟨N.stops,N.ft,N.runs.mapIdx oh.abs,N.eE,N.paths,N.jy⟩
def kA.V(N:kA):aq:=⟨lG 2 N.sv,lE N.sv,lF N.sv,lG 3 N.rv,lE N.rv,lF N.rv,lG 1 N.uv,lE N.uv,lF N.uv,lG 0 N.lv,lE N.lv,lF N.lv,lG 4 N.pv,lE N.pv,lF N.pv,lG 5 N.fv,lE N.fv,lF N.fv,N.d,N.w,N.c⟩
def Ar(N:kA):List (List Value):=(N.runs.mapIdx oh.abs).map fun r=>r.v.row
def kA.HU(N:kA):xx
 |0=>iz N.lv (N.eE.map aI.row).flatten
 |1=>iz N.uv (Ar N).flatten
 |2=>iz N.sv (N.stops.map bT.row).flatten
 |3=>iz N.rv (N.ft.map bm.row).flatten
 |4=>iz N.pv (N.paths.map ae.row).flatten
 |5=>iz N.fv (N.jy.map bO.row).flatten
 |j+6=>match N.runs[j]? with
  |some r=>iz r.cv (r.calls.map br.row).flatten
  |none=>none
theorem yR{N:kA}{i:Nat}:(Ar N)[i]? =(N.runs[i]?).map fun r=>(oh.abs i r).v.row:=by
 unfold Ar
 rw[List.getElem?_map,List.getElem?_mapIdx,Option.map_map]
 rfl
theorem yQ{N:kA}: ∀r∈Ar N,r.length=8:=by
 intro r hr
 obtain⟨x,_,rfl⟩:=List.mem_map.1 hr
 rfl
theorem Gk{l:List Value}(h:bJ l=true){x:Value}(hx:x∈l):aC x=true:=by
 induction l with
 |nil=>cases hx
 |cons v l ih=>
  simp only[bJ] at h
  cases hv:aC v with
  |false=>simp[hv] at h
  |true=>
   rw[hv] at h
   rcases List.mem_cons.1 hx with rfl|hx
   ·exact hv
   ·exact ih h hx
theorem nH{α:Type}{F:xx}(row:α->List Value)(l:List α)(hp: ∀x,bJ (row x)=true):
 (∀(i:Nat)(r:List Value)(j:Nat)(x:Value),(l.map row)[i]? =some r->r[j]? =some x-> ∃r' x',(l.map row)[i]? =some r'/\r'[j]? =some x'/\VR (eQ F) x x')/\ ∀σ,∀r∈l.map row,aS σ r=some r:=by
 refine⟨fun i r j x h1 h2=>⟨r,x,h1,h2,VR.aQ ?_⟩,fun σ r hr=>?_⟩
 ·obtain⟨y,_,rfl⟩:=List.mem_map.1 (List.mem_of_getElem? h1)
  exact Gk (hp y) (List.mem_of_getElem? h2)
 ·obtain⟨y,_,rfl⟩:=List.mem_map.1 hr
  exact cQ (hp y)
section
variable{w:World}{N:kA}
theorem Jb(h:wR w N):AE N.HU (N.runs.length+6) w:=by
 intro k g o cs hF
 match k with
 |0=>
  obtain⟨h1,h2⟩:=nH (F:=N.HU) aI.row N.eE (fun _=>rfl)
  exact kU h.eE (aO _ fun _=>rfl) h1 (fun σ _=>h2 σ) hF
 |1=>
  refine kU h.runs yQ (fun i r j x h1 h2=>?_) (fun σ hσ r hr=>?_) hF
  ·rw[yR] at h1
   cases hc:N.runs[i]? with
   |none=>rw[hc] at h1;cases h1
   |some y=>
    rw[hc] at h1
    simp only[Option.map_some,Option.some.injEq] at h1
    subst h1
    have hy:=List.mem_of_getElem? hc
    refine⟨y.row y.cv,?_⟩
    rw[List.getElem?_map,hc]
    match j with
    |0=>cases h2;exact⟨_,rfl,rfl, .sc _ rfl⟩
    |1=>cases h2;exact⟨_,rfl,rfl, .sc _ rfl⟩
    |2=>cases h2;exact⟨_,rfl,rfl, .sc _ rfl⟩
    |3=>cases h2;exact⟨_,rfl,rfl, .sc _ rfl⟩
    |4=>cases h2;exact⟨_,rfl,rfl, .sc _ rfl⟩
    |5=>cases h2;exact⟨_,rfl,rfl, .sc _ rfl⟩
    |6=>cases h2;exact⟨_,rfl,rfl, .sc _ rfl⟩
    |7=>
     cases h2
     refine⟨_,rfl,rfl,kY (h.calls y hy) (cs:=(y.calls.map br.row).flatten) ?_⟩
     rw[Nat.add_comm 6 i]
     show(match N.runs[i]? with|some r=>iz r.cv (r.calls.map br.row).flatten|none=>none)=_
     rw[hc]
    |j+8=>simp[oh.abs] at h2
  ·obtain⟨i,hi⟩:=List.mem_iff_getElem?.1 hr
   rw[yR] at hi
   cases hc:N.runs[i]? with
   |none=>rw[hc] at hi;cases hi
   |some y=>
    rw[hc] at hi
    simp only[Option.map_some,Option.some.injEq] at hi
    subst hi
    have hlt:=(List.getElem?_eq_some_iff.1 hc).1
    have:=Ln (k:=6+i) (h.calls y (List.mem_of_getElem? hc)) (fun _=>by omega) (by omega) hσ
    have e: ∀x:Int,aP σ (zv x)=some (zv x):=fun _=>rfl
    have e1: ∀s:ByteArray,aP σ (.string s)=some (.string s):=fun _=>rfl
    have e2: ∀s:Bool,aP σ (.bool s)=some (.bool s):=fun _=>rfl
    simp only[oh.abs,aS,e,e1,e2,this]
 |2=>
  obtain⟨h1,h2⟩:=nH (F:=N.HU) bT.row N.stops (fun _=>rfl)
  exact kU h.stops (aO _ fun _=>rfl) h1 (fun σ _=>h2 σ) hF
 |3=>
  obtain⟨h1,h2⟩:=nH (F:=N.HU) bm.row N.ft (fun _=>rfl)
  exact kU h.ft (aO _ fun _=>rfl) h1 (fun σ _=>h2 σ) hF
 |4=>
  obtain⟨h1,h2⟩:=nH (F:=N.HU) ae.row N.paths (fun _=>rfl)
  exact kU h.paths (aO _ fun _=>rfl) h1 (fun σ _=>h2 σ) hF
 |5=>
  obtain⟨h1,h2⟩:=nH (F:=N.HU) bO.row N.jy (fun _=>rfl)
  exact kU h.jy (aO _ fun _=>rfl) h1 (fun σ _=>h2 σ) hF
 |j+6=>
  have hF':(match N.runs[j]? with|some r=>iz r.cv (r.calls.map br.row).flatten|none=>none)=some (g,o,some cs):=hF
  split at hF'
  ·rename_i r hr
   obtain⟨h1,h2⟩:=nH (F:=N.HU) br.row r.calls (fun _=>rfl)
   exact kU (h.calls r (List.mem_of_getElem? hr)) (aO _ fun _=>rfl) h1 (fun σ _=>h2 σ) hF'
  ·cases hF'
theorem Dv(N:kA): ∀k x,N.HU k=some x->k<N.runs.length+6:=by
 intro k x h
 match k with
 |0|1|2|3|4|5=>omega
 |j+6=>
  have h':(match N.runs[j]? with|some r=>iz r.cv (r.calls.map br.row).flatten|none=>none)=some x:=h
  split at h'
  ·rename_i r hr
   have:=(List.getElem?_eq_some_iff.1 hr).1
   omega
  ·cases h'
theorem pA{k sz:Nat}{v:Value}{rows:List (List Value)}{m:Nat}(h:mg w v sz rows)(hn:ky v)(hm:rows.length=m):nk k (lG k v) (lE v) (lF v) m:=by
 subst hm
 rcases h with ⟨rfl,rfl⟩|⟨⟨g,o,s,rfl⟩,rfl⟩|⟨g,o,c,rfl,_⟩
 ·exact .inl ⟨rfl,rfl,rfl,rfl⟩
 ·have:=hn _ _ _ rfl;cases this
 ·exact .inr ⟨rfl,rfl⟩
theorem QH{k sz:Nat}{v:Value}{rows:List (List Value)}{m:Nat}(h:mg w v sz rows)(hm:rows.length=m):Uv k (lG k v) (lE v) (lF v) m:=by
 subst hm
 rcases h with ⟨rfl,rfl⟩|⟨⟨g,o,s,rfl⟩,rfl⟩|⟨g,o,c,rfl,_⟩
 ·exact .inl (.inl ⟨rfl,rfl,rfl,rfl⟩)
 ·exact .inr ⟨⟨g,o,s,rfl⟩,rfl,rfl,rfl⟩
 ·exact .inl (.inr ⟨rfl,rfl⟩)
theorem N6{sz:Nat}(hs:0<sz){rows:List (List Value)}(hl: ∀r∈rows,r.length=sz)(h:rows≠[]):rows.flatten≠[]:=by
 cases rows with
 |nil=>exact(h rfl).elim
 |cons r rows=>
  have:=hl r (by simp)
  cases r with
  |nil=>simp at this;omega
  |cons v r=>simp
theorem AW{F:xx}{z:T aa}{k sz:Nat}{v:Value}{rows ar:List (List Value)}(hg: ∀k g o cs,F k=some (g,o,some cs)-> ∃e,z.get k=some (.az (bk e cs)))(h:mg w v sz rows)(hn:ar.length=rows.length)(hs:0<sz)(hl: ∀r∈ar,r.length=sz)
 (hF:F k=iz v ar.flatten) (hsz: ∀r∈ar,∀s:ByteArray,Value.string s∈r->s.size<=9223372036854775807):bP z k ar:=by
 refine⟨fun hne=>?_,hsz⟩
 have hr:rows≠[]:=fun e=>by rw[e] at hn;exact hne (List.length_eq_zero_iff.1 hn)
 rcases h with ⟨_,e⟩|⟨_,e⟩|⟨g,off,cap,rfl,_⟩
 ·exact(hr e).elim
 ·exact(hr e).elim
 ·have hf:=N6 hs hl hne
  cases hc:ar.flatten with
  |nil=>exact(hf hc).elim
  |cons x l=>
   rw[hc] at hF
   exact hg k g off (x::l) hF
theorem Q6(h:wR w N){F:xx}(hF: ∀k,k<N.runs.length+6->F k=N.HU k){z:T aa}(h4: ∀k g o cs,F k=some (g,o,some cs)-> ∃e,z.get k=some (.az (bk e cs))):c9 z N.V N.T:=by
 have cc: ∀(j:Nat)(r:oh),N.runs[j]? =some r->bP z (6+j) (r.calls.map br.row):=fun j r hr=>by
  refine AW h4 (h.calls r (List.mem_of_getElem? hr)) rfl (by decide) (aO _ fun _=>rfl) ((hF (6+j) (by have:=(List.getElem?_eq_some_iff.1 hr).1;omega)).trans ?_) (fun r hr s hs=>?_)
  ·rw[Nat.add_comm 6 j]
   show(match N.runs[j]? with|some r=>iz r.cv (r.calls.map br.row).flatten|none=>none)=_
   rw[hr]
  ·obtain⟨x,_,rfl⟩:=List.mem_map.1 hr
   simp at hs
 have gr: ∀(j:Nat)(r:RunT),(N.runs.mapIdx oh.abs)[j]? =some r-> ∃y,N.runs[j]? =some y/\r=oh.abs j y:=fun j r hr=>by
  rw[List.getElem?_mapIdx] at hr
  cases hc:N.runs[j]? with
  |none=>rw[hc] at hr;cases hr
  |some y=>rw[hc] at hr;cases hr;exact⟨y,rfl,rfl⟩
 exact {
  s:=pA h.stops h.ns (by simp[kA.T])
  r:=pA h.ft h.nr (by simp[kA.T])
  u:=pA h.runs h.nu (by simp[kA.T])
  l:=pA h.eE h.nl (by simp[kA.T])
  p:=pA h.paths h.np (by simp[kA.T])
  f:=pA h.jy h.nf (by simp[kA.T])
  ts:=AW h4 h.stops rfl (by decide) (aO _ fun _=>rfl) (hF 2 (by omega)) (fun r hr s hs=>by
   obtain⟨x,hx,rfl⟩:=List.mem_map.1 hr
   have:=h.zs x hx
   simp at hs;subst hs;exact this)
  tr:=AW h4 h.ft rfl (by decide) (aO _ fun _=>rfl) (hF 3 (by omega)) (fun r hr s hs=>by
   obtain⟨x,hx,rfl⟩:=List.mem_map.1 hr
   have:=h.zr x hx
   simp at hs;subst hs;exact this)
  tu:={
   HM:=AW h4 h.runs (by simp[kA.T]) (by decide) (yQ (N:=N)) (hF 1 (by omega)) (fun r hr s hs=>by
    obtain⟨x,hx,rfl⟩:=List.mem_map.1 hr
    obtain⟨i,hi⟩:=List.mem_iff_getElem?.1 hx
    obtain⟨y,hy,rfl⟩:=gr i x hi
    have:=h.zu y (List.mem_of_getElem? hy)
    simp[oh.abs] at hs;subst hs;exact this)
   sl:=fun j r hr=>by
    obtain⟨y,hy,rfl⟩:=gr j r hr
    exact QH (h.calls y (List.mem_of_getElem? hy)) (by simp[oh.abs])
   calls:=fun j r hr=>by
    obtain⟨y,hy,rfl⟩:=gr j r hr
    exact cc j y hy}
  tl:=AW h4 h.eE rfl (by decide) (aO _ fun _=>rfl) (hF 0 (by omega)) (fun r hr s hs=>by
   obtain⟨x,hx,rfl⟩:=List.mem_map.1 hr
   simp at hs)
  tp:=AW h4 h.paths rfl (by decide) (aO _ fun _=>rfl) (hF 4 (by omega)) (fun r hr s hs=>by
   obtain⟨x,hx,rfl⟩:=List.mem_map.1 hr
   simp at hs)
  tf:=AW h4 h.jy rfl (by decide) (aO _ fun _=>rfl) (hF 5 (by omega)) (fun r hr s hs=>by
   obtain⟨x,hx,rfl⟩:=List.mem_map.1 hr
   have:=h.zf x hx
   simp at hs;subst hs;exact this)}
theorem M6(h:wR w N){F:xx}(hF: ∀k,k<N.runs.length+6->F k=N.HU k){l l':List Value}(hl:cU (eQ F) l l'):cU (eQ F) (.agg ⟨N.V.cells⟩::l) (.agg ⟨N.cells⟩::l'):=by
 exact .cons _ _ _ _ (.agg _ _ (.cons _ _ _ _ (kY h.stops (hF 2 (by omega))) (.cons _ _ _ _ (kY h.ft (hF 3 (by omega))) (.cons _ _ _ _ (kY h.runs (hF 1 (by omega))) (.cons _ _ _ _ (kY h.eE (hF 0 (by omega))) (.cons _ _ _ _ (kY h.paths (hF 4 (by omega))) (.cons _ _ _ _ (kY h.jy (hF 5 (by omega)))
  (.cons _ _ _ _ (.sc _ rfl) (.cons _ _ _ _ (.sc _ rfl) (.cons _ _ _ _ (.sc _ rfl) .nil)))))))))) hl
end
end Go.Proofs.Nw
namespace Go.Proofs.Nw
open Go Go.AV Tryz Go.RowKit
set_option maxHeartbeats 1000000
set_option maxRecDepth 100000
theorem Ho{z:T aa}{zn:Nat}(hz:aw z zn){f:Nat}{args:List Value}{v:Value}(hp:bJ args=true)(hv:aC v=true)(h: ∀w,Calls prog f ⟨args⟩ w fun e w'=>e= .returned v/\Go.RowKit.Below w.heap.size w w'):A1 z zn f args [] 0 0 v []:=by
 refine⟨hz,Nat.le_refl _,by decide,fun _ _=>Le hz (fun b o h=>by cases h),fun ρ w args' n hargs hh hf hfb=>callsIn_wide.2 ?_⟩
 have e:=hargs.plain hp
 subst e
 refine(h w).mono fun e w' ⟨h1,h2⟩=>?_
 rw[h1]
 obtain⟨ρ',v',g1,g2,g3,g4⟩:=v9 (h:=eC z [] 0) hv hh h2
 exact⟨(),trivial,ρ',v',g1,g2,g3,g4.z zn⟩
theorem wx{z:T aa}{zn:Nat}(hz:aw z zn):A1 z zn 10 [] [] 0 0 T1 []:=
 Ho hz rfl rfl fun w=>(Ad RP w).mono fun e w' ⟨h1,h2,h3,h4,h5,h6⟩=>⟨h1,h2,h3,h4,h5,h6⟩
section
variable{z:T aa}{zn:Nat}
theorem ud{o:aa}: ∀k,k<zn->(z.set zn o).get k=z.get k:=fun k hk=>by rw[T.aH,if_neg (by omega)]
end
section
variable{H:Type}{enc:TypeId × Value->H}{W:World}{base:Nat}
theorem EI{P:Program}{r:List Value}(h:cK enc P W base [.b, .i .i64, .i .i64, .i .i64, .i .i64, .i .i64, .i .i64, .i .i64, .b] r): ∃x:ak,r=x.row/\True:=by
 obtain⟨x0,l0,rfl,h0⟩:=h.b
 obtain⟨x1,l1,rfl,_,h1⟩:=h0.i
 obtain⟨x2,l2,rfl,_,h2⟩:=h1.i
 obtain⟨x3,l3,rfl,_,h3⟩:=h2.i
 obtain⟨x4,l4,rfl,_,h4⟩:=h3.i
 obtain⟨x5,l5,rfl,_,h5⟩:=h4.i
 obtain⟨x6,l6,rfl,_,h6⟩:=h5.i
 obtain⟨x7,l7,rfl,_,h7⟩:=h6.i
 obtain⟨x8,l8,rfl,h8⟩:=h7.b
 obtain rfl:=h8.e
 exact⟨⟨x0,x1,x2,x3,x4,x5,x6,x7,x8⟩,rfl,True.intro⟩
theorem ML{P:Program}{t:TypeId}{r:List Value}(h:cK enc P W base [.sl t] r): ∃v,r=[v]/\ ∃n y,DataW.trod enc P W base (fun _=>true) true n t [v]=some y:=by
 obtain⟨x0,l0,rfl,g0,h0⟩:=h.sl
 obtain rfl:=h0.e
 exact⟨x0,rfl,g0⟩
theorem pQ{r:Reach}{b:Nat}{v0:Value}{n:Nat}{x:DataW H × List MemPlace}(hok:Value.okWide prog W r b 34 v0)(h:DataW.trod enc prog W base (fun _=>true) true n 34 v0.cells.toList=some x):
 ∃(v:Value)(l:List ak),v0= .agg ⟨[v]⟩/\mg W v 9 (l.map ak.row)/\ky v:=by
 obtain⟨fs,hfs⟩: ∃fs,prog.underlying 34=some (.struct fs):=Cb (by kernel_rfl)
 unfold Value.okWide at hok
 rw[hfs] at hok
 obtain⟨cs,rfl,hsz,ts,hts,_,hcell⟩:=hok
 have hcs:(Value.agg cs).cells.toList=cs.toList:=rfl
 rw[hcs] at h
 have hr:=nw (sh:=[.sl 32]) (fuel:=5) hfs (by kernel_rfl) (by kernel_rfl) h
 have hts':ts=[32]:=by
  have:prog.cellTypes prog.depth 34=some [32]:=by kernel_rfl
  rw[this] at hts;cases hts;rfl
 subst hts'
 obtain⟨l⟩:=cs
 obtain⟨v,rfl,n0,y0,g0⟩:=ML hr
 obtain⟨ls,s1,_⟩:=ml (sh:=[.b, .i .i64, .i .i64, .i .i64, .i .i64, .i .i64, .i .i64, .i .i64, .b]) (row:=ak.row) (e:=62) (sz:=9) (by kernel_rfl) (by kernel_rfl) (by decide) (by kernel_rfl) (by kernel_rfl) rfl (fun r hr=>EI hr) g0
 refine⟨v,ls,rfl,s1,fun a n c hvv=>?_⟩
 subst hvv
 obtain⟨u,h1,h2⟩:=hcell 0 _ rfl
 have:u=32:=by
  have h3:[32][0 % 1]? =some u:=h1
  cases h3;rfl
 subst this
 exact sG (e:=62) (by kernel_rfl) h2
end
theorem zH{w:World}{N:kA}(h:wR w N){v:Value}{l:List ak}(hl:mg w v 9 (l.map ak.row))(hn:ky v): ∃(z:T aa)(F:xx),Tf z (eQ F) w/\aw z (N.runs.length+7)/\fQ (eQ F) (N.runs.length+7)/\c9 z N.V N.T/\bP z (N.runs.length+6) (l.map ak.row)/\nk (N.runs.length+6) (lG (N.runs.length+6) v) (lE v) (lF v) l.length/\VR (eQ F) (.slice (lG (N.runs.length+6) v) (lE v) (lF v)) v/\ ∀bs bs',cU (eQ F) bs bs'->cU (eQ F) (.agg ⟨N.V.cells⟩::bs) (.agg ⟨N.cells⟩::bs'):=by
 have p2: ∀(σ:Nat->Option Nat)(r:List Value),r∈l.map ak.row->aS σ r=some r:=(nH (F:=fun _=>none) ak.row l (fun _=>rfl)).2
 obtain⟨f1,f2⟩:=GW (Jb h) (Dv N) hl (aO _ fun _=>rfl) (fun F=>(nH (F:=F) ak.row l (fun _=>rfl)).1) p2
 obtain⟨z,h1,h2,h3,h4⟩:=J6 _ (N.runs.length+6+1) w f2 f1
 have hF: ∀k,k<N.runs.length+6->sD N.HU (N.runs.length+6) (iz v (l.map ak.row).flatten) k=N.HU k:=fun k hk=>mL (by omega)
 refine⟨z,_,h1,h2,h3,Q6 h hF h4,AW h4 hl rfl (by decide) (aO _ fun _=>rfl) pV (fun r hr s hs=>?_),pA hl hn (by simp),kY hl pV,fun bs bs' ha=>M6 h hF ha⟩
 obtain⟨x,_,rfl⟩:=List.mem_map.1 hr
 simp at hs
end Go.Proofs.Nw
