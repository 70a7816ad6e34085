/-
  A part of the proof: lemmas of my own.
-/
import Derived.Test.YtahphlnjdhnkdaaGreatPG
set_option linter.unusedVariables false
set_option linter.unusedSimpArgs false
namespace Go.Proofs.Nw
open Go Go.AV Tryz Go.RowKit
set_option maxHeartbeats 1000000
set_option maxRecDepth 100000
theorem G9{z:T aa}{zn:Nat}(hz:au z zn){f:Nat}{args:List Value}{v:Value}(hp:bE args=true)(hv:aD v=true)(h: ∀w,Calls prog f ⟨args⟩ w fun e w'=>e= .returned v/\Go.RowKit.Below w.heap.size w w'):A1 z zn f args [] 0 0 v []:=by
 refine⟨hz,Nat.le_refl _,by decide,fun _ _=>KB hz (fun b o h=>by cases h),fun ρ w args' n hargs hh hf hfb=>callsIn_wide.2 ?_⟩
 have e:=hargs.plain hp
 subst e
 refine(h w).mono fun e w' ⟨h1,h2⟩=>?_
 rw[h1]
 obtain⟨ρ',v',g1,g2,g3,g4⟩:=vA (h:=dI z [] 0) hv hh h2
 exact⟨(),trivial,ρ',v',g1,g2,g3,g4.z zn⟩
theorem OM{z:T aa}{zn:Nat}(hz:au z zn):A1 z zn 6 [] [] 0 0 T1 []:=
 G9 hz rfl rfl fun w=>(zx Ux w).mono fun e w' ⟨h1,h2,h3,h4,h5,h6⟩=>⟨h1,h2,h3,h4,h5,h6⟩
section
variable{z:T aa}{zn:Nat}{N:aw}{D:gM}
theorem Ro(h5:5<=zn)(hz:au z zn)(hown: ∀k o,z.get k=some o->o.owned=false)(hN:dt z N D){K:Nat}(hK:6<=K)(hKn:K<zn){G:List az}{J:lq}(hJ:pP K J.a J.n J.c G.length)(hT:bM z K (G.map az.row)):
 A1 z zn 3 [.agg ⟨N.cells⟩,J.jn] [] 0 0 T1 []:=by
 have hv1:=jP (hN.val [])
 have hv2:=Jl hN hJ.tv
 have hfe:=UR hz hN
 have hex:=OM hz
 have hjn:=cK hJ
 cases hl:BL N D with
 |false=>
  rw[hl] at hfe
  refine aK1 (cg (zg:=T.leaf)) (fn:=Tryz.f3) hz (N:=100) ?_
  refine yla z zn N J _ ?_
  (repeat' first|(with_reducible first|exact rfl|assumption|apply And.intro)|intro hq)
  all_goals exact q1
 |true=>
  rw[hl] at hfe
  by_cases h20:20<J.n
  ·have e1:Value.bool (decide ((J.n:Int)>20))=Value.bool true:=by rw[decide_eq_true (show(J.n:Int)>20 by omega)]
   refine aK1 (cg (zg:=T.leaf)) (fn:=Tryz.f3) hz (N:=100) ?_
   refine ylb z zn N J _ ?_
   (repeat' first|(with_reducible first|exact rfl|assumption|apply And.intro)|intro hq)
   all_goals exact q1
  have e1:Value.bool (decide ((J.n:Int)>20))=Value.bool false:=by rw[decide_eq_false (show¬(J.n:Int)>20 by omega)]
  have hG:G.length<=1000:=by omega
  have hnp:=cK hN.p
  have hle:=Nx hl
  have hll:D.paths.length<=10000:=by omega
  have hB:mD N D z:=⟨z,zn,hz,hown,by omega,hN,fun _ _ h=>h⟩
  by_cases h0:jE N D G=0
  ·have hm:=ZF hz hown hN hll hK hKn hG hJ hT h0
   have hr: ∀s,ke z zn (cT D.runs G G.length) s->bq prog s.z s.zn 8 [.agg ⟨N.cells⟩,J.jn] [] 0 0 (fun s'=>ke s.z s.zn (cT D.runs G G.length) s') (fun s=> .tuple ⟨[.agg ⟨[s.v]⟩,I 0]⟩) (fun _=>[]) (fun s=>s.z) (fun s=>s.zn):=fun s hs=>
    ZG hs.bH (hB.more hz hs.fE) (Nat.le_trans h5 hs.le) (hN.Nk hz hs.fE) hK (Nat.lt_of_lt_of_le hKn hs.le) hG hJ (cH hT hz hs.fE) h0
   have hqe: ∀s s',ke z zn (cT D.runs G G.length) s->ke s.z s.zn (cT D.runs G G.length) s'->A1 s'.z s'.zn 9 [.agg ⟨[.slice s.oa s.k s.k]⟩, .agg ⟨[.slice s'.oa s'.k s'.k]⟩] [] 0 0 T1 []:=fun s s' hs hs'=>by
    have hml:=qs D.runs G G.length (Nat.le_refl _)
    rcases hs.val with ⟨l1,l2,l3⟩|⟨l1,k1,l2,l3,l4,l5,l6⟩
    ·rcases hs'.val with ⟨_,m2,m3⟩|⟨m1,_⟩
     ·rw[l2,l3,m2,m3];exact ON hs'.bH
     ·exact(m1 l1).elim
    ·rcases hs'.val with ⟨m1,_⟩|⟨m1,k2,m2,m3,m4,m5,m6⟩
     ·exact(l1 m1).elim
     ·rw[l4,l5,m4,m5]
      exact US hs'.bH (by omega) (by rw[hs'.fE k1 l3];exact l6) m6
   have hra: ∀s s',ke z zn (cT D.runs G G.length) s->ke s.z s.zn (cT D.runs G G.length) s'->aT (sig []) [.agg ⟨[.slice s.oa s.k s.k]⟩, .agg ⟨[.slice s'.oa s'.k s'.k]⟩]=some [.agg ⟨[.slice s.oa s.k s.k]⟩, .agg ⟨[.slice s'.oa s'.k s'.k]⟩]:=fun s s' hs hs'=>eP (ng (za hs)) (eP (ng (za hs')) rfl)
   have hxs: ∀s s',ke z zn (cT D.runs G G.length) s->ke s.z s.zn (cT D.runs G G.length) s'->A1 s'.z s'.zn 6 [] [] 0 0 T1 []:=fun s s' hs hs'=>OM hs'.bH
   have key:bq prog z zn 3 [.agg ⟨N.cells⟩,J.jn] [] 0 0 (fun s:bI=>DX z zn s) (fun _=>T1) (fun _=>[]) (fun s=>s.z) (fun s=>s.zn):=by
    refine eM (cg (zg:=T.leaf)) (fn:=Tryz.f3) (by kernel_rfl) (by kernel_rfl) hz ⟨by decide,by decide⟩ (fun s hs=>⟨rfl,hs.le,hs.bH⟩) (N:=100) ?_
    refine yld z zn N J (fun s=>ke z zn (cT D.runs G G.length) s) (fun s s'=>ke s.z s.zn (cT D.runs G G.length) s') _ ?_
    (repeat' first|(with_reducible first|exact rfl|assumption|apply And.intro|exact hr _ ‹_›|exact Bw ‹_›|exact ke.bH ‹_›|exact hqe _ _ ‹_› ‹_›|exact hra _ _ ‹_› ‹_›|exact hxs _ _ ‹_› ‹_›)|intro hq)
    rename_i s h1 s' h2 _ _ _
    exact q2 s' (OD (xB (OD h1) h2)) rfl rfl rfl rfl rfl
   exact jG key rfl fun s hs=>hs.fE
  ·have hm:=UM hz hN hll hG hJ hT h0
   have hr:=UP hz hB h5 hN hK hKn hG hJ hT h0
   have hqe:=ON hz
   have e2:Value.bool (jE N D G==jE N D G)=Value.bool true:=by simp
   refine aK1 (cg (zg:=T.leaf)) (fn:=Tryz.f3) hz (N:=100) ?_
   refine ylc z zn N J (jE N D G) _ ?_
   (repeat' first|(with_reducible first|exact rfl|assumption|apply And.intro)|intro hq)
   all_goals exact q1
end
section
variable{H:Type}{enc:TypeId × Value->H}{W:World}{base:Nat}
theorem LY{P:Program}{r:List Value}(h:cE enc P W base [.b, .i .i64, .i .i64, .i .i64, .i .i64, .i .i64, .i .i64, .i .i64, .b] r): ∃x:az,r=x.row/\True:=by
 obtain⟨x0,l0,rfl,h0⟩:=h.b
 obtain⟨x1,l1,rfl,_,h1⟩:=h0.i
 obtain⟨x2,l2,rfl,_,h2⟩:=h1.i
 obtain⟨x3,l3,rfl,_,h3⟩:=h2.i
 obtain⟨x4,l4,rfl,_,h4⟩:=h3.i
 obtain⟨x5,l5,rfl,_,h5⟩:=h4.i
 obtain⟨x6,l6,rfl,_,h6⟩:=h5.i
 obtain⟨x7,l7,rfl,_,h7⟩:=h6.i
 obtain⟨x8,l8,rfl,h8⟩:=h7.b
 obtain rfl:=h8.e
 exact⟨⟨x0,x1,x2,x3,x4,x5,x6,x7,x8⟩,rfl,True.intro⟩
theorem L4{P:Program}{t:TypeId}{r:List Value}(h:cE enc P W base [.sl t] r): ∃v,r=[v]/\ ∃n y,DataW.trod enc P W base (fun _=>true) true n t [v]=some y:=by
 obtain⟨x0,l0,rfl,g0,h0⟩:=h.sl
 obtain rfl:=h0.e
 exact⟨x0,rfl,g0⟩
theorem Dk{r:Reach}{b:Nat}{v0:Value}{n:Nat}{x:DataW H × List MemPlace}(hok:Value.okWide prog W r b 34 v0)(h:DataW.trod enc prog W base (fun _=>true) true n 34 v0.cells.toList=some x):
 ∃(v:Value)(l:List az),v0= .agg ⟨[v]⟩/\mE W v 9 (l.map az.row)/\kY v:=by
 obtain⟨fs,hfs⟩: ∃fs,prog.underlying 34=some (.struct fs):=Jx (by kernel_rfl)
 unfold Value.okWide at hok
 rw[hfs] at hok
 obtain⟨cs,rfl,hsz,ts,hts,_,hcell⟩:=hok
 have hcs:(Value.agg cs).cells.toList=cs.toList:=rfl
 rw[hcs] at h
 have hr:=uk (sh:=[.sl 32]) (fuel:=5) hfs (by kernel_rfl) (by kernel_rfl) h
 have hts':ts=[32]:=by
  have:prog.cellTypes prog.depth 34=some [32]:=by kernel_rfl
  rw[this] at hts;cases hts;rfl
 subst hts'
 obtain⟨l⟩:=cs
 obtain⟨v,rfl,n0,y0,g0⟩:=L4 hr
 obtain⟨ls,s1,_⟩:=mW (sh:=[.b, .i .i64, .i .i64, .i .i64, .i .i64, .i .i64, .i .i64, .i .i64, .b]) (row:=az.row) (e:=62) (sz:=9) (by kernel_rfl) (by kernel_rfl) (by decide) (by kernel_rfl) (by kernel_rfl) rfl (fun r hr=>LY hr) g0
 refine⟨v,ls,rfl,s1,fun a n c hvv=>?_⟩
 subst hvv
 obtain⟨u,h1,h2⟩:=hcell 0 _ rfl
 have:u=32:=by
  have h3:[32][0 % 1]? =some u:=h1
  cases h3;rfl
 subst this
 exact xW (e:=62) (by kernel_rfl) h2
end
theorem Qk{w:World}{N:j0}(h:wc w N){v:Value}{l:List az}(hl:mE w v 9 (l.map az.row))(hn:kY v): ∃(z:T aa)(F:wP),Sf z (gz F) w/\au z (N.runs.length+7)/\fL (gz F) (N.runs.length+7)/\dt z N.V N.T/\bM z (N.runs.length+6) (l.map az.row)/\pP (N.runs.length+6) (qX (N.runs.length+6) v) (qV v) (qW v) l.length/\
 c7 (gz F) [.agg ⟨N.V.cells⟩, .agg ⟨[.slice (qX (N.runs.length+6) v) (qV v) (qW v)]⟩] [.agg ⟨N.cells⟩, .agg ⟨[v]⟩]:=by
 obtain⟨p1,p2⟩:=nj (F:=N.GF) az.row l (fun _=>rfl)
 obtain⟨f1,f2⟩:=GC (IF h) (C3 N) hl (aM _ fun _=>rfl) (fun F=>(nj (F:=F) az.row l (fun _=>rfl)).1) p2
 obtain⟨z,h1,h2,h3,h4⟩:=JA _ (N.runs.length+6+1) w f2 f1
 have hF: ∀k,k<N.runs.length+6->sg N.GF (N.runs.length+6) (ie v (l.map az.row).flatten) k=N.GF k:=fun k hk=>mi (by omega)
 refine⟨z,_,h1,h2,h3,Qj h hF h4,As h4 hl rfl (by decide) (aM _ fun _=>rfl) pF (fun r hr s hs=>?_),o8 hl hn (by simp),Ms h hF (.cons _ _ _ _ (.agg _ _ (.cons _ _ _ _ (kN hl pF) .nil)) .nil)⟩
 obtain⟨x,_,rfl⟩:=List.mem_map.1 hr
 simp at hs
end Go.Proofs.Nw
