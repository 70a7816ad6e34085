/-
  A part of the proof: lemmas of my own.
-/
import Derived.Test.YtgjfjkgigigibaaGreatPF
import Derived.KernelRfl
set_option linter.unusedVariables false
set_option linter.unusedSimpArgs false
namespace Go.Proofs.Nw
open Go Go.AV Tryz
set_option maxRecDepth 1000000
noncomputable section
abbrev Xo(zn:Nat):List (Nat × Value):=[sQ,(3,Yp),qd,(6,SL (tF zn) 1 1),(7,iq)]
noncomputable abbrev PE:Code:=ah (ag f12) 0
abbrev Tz:Live:=j9 an 0
noncomputable abbrev WI(e:Int)(z:T aa)(zn:Nat):Tr:=tA 2 (tE [Y6] [] [qd,(5,ZV e)] [nn] 3 z zn)
abbrev CG(x:ak)(vd va:Int):List Value:=[Value.bool x.bg,ZV x.run,ZV x.pZ,ZV x.off,ZV x.fz1,ZV x.aB,ZV vd,ZV va,Value.bool x.stay]
abbrev Ty(z:T aa)(k zn:Nat)(kb:aV)(x:ak)(pa v2:Int)(i:Nat):T aa:=gb (z.del k) [(zn,5,BR (kb.cells++CG x pa v2) ((i+1)*9) 9 62)]
abbrev Tx(zn:Nat)(kb:aV)(x:ak)(pa v2:Int)(i:Nat):Nat->Option Nat:=ay Y7 [(zn,5,BR (kb.cells++CG x pa v2) ((i+1)*9) 9 62)]
abbrev Xn(zn i:Nat):List (Nat × Value):=[sQ,(3,Yp),qd,(6,OZ zn i),(7,IV (i+1))]
abbrev Tw(z:T aa)(zn:Nat)(N:aq):Prop:=aF prog z zn 20 (Yb N) [] 0 0 Yc gf Ye
abbrev YJp(z':T aa)(k:Nat)(cs1:List Value)(kb:aV)(cs2:List Value)(kb1:aV):T aa:=(H3 z' k cs1 kb).set k (aa.az (aV.mk cs2 kb1.cap kb1.ko kb1.elem kb1.exact kb1.whole kb1.bN kb1.own))
end
noncomputable section
noncomputable abbrev Tv:Code:=ah (ag f13) 0
abbrev YJr:List (Nat × aa):=[(0,jB an),(1,jB an)]
noncomputable abbrev YJs(z:T aa)(zn:Nat):Al:=Al.cons Unit Yc (WZ z zn) (S6 z zn) Al.nil
abbrev YJt(J V:dz):List (Nat × aa):=[(0,jB (Value.slice J.a 0 J.c)),(1,jB (Value.slice V.a 0 V.c))]
end
noncomputable section
abbrev AL(N:aq)(J:dz):List Value:=[AG (Ya N),AG [yS J]]
abbrev Xm(z:T aa)(zn:Nat)(N:aq)(J:dz):Prop:=aF prog z zn 9 (AL N J) [] 0 0 Yc uG Ye
abbrev qc(N:aq)(J:dz):Prop:=aS Yf (AL N J)=some (AL N J)
abbrev Lp(z:T aa)(zn:Nat):Prop:=aF prog z zn 10 [] [] 0 0 Yc gf Ye
abbrev Ek:Prop:=Rs aao
noncomputable abbrev CF(N:aq)(J:dz):Cm:=Cm.mk (AL N J) [] 0 0 [] [] 2
noncomputable abbrev Xv(z:T aa)(zn:Nat):Tr:=Tr.cm (Cm.mk [] [] 0 0 [] [] 2) Unit Yc gf Ye gf Ye (Yl z) (Ym zn) (S6 z zn)
abbrev Lu(z:T aa)(zn:Nat)(N:aq)(J:dz):Prop:=aF prog z zn 9 (AL N J) [] 0 0 Yc gf Ye
abbrev Hp(e:Int):Unit->Value:=fun(x:Unit)=>TP [AG [an],zv e]
abbrev Xu(z:T aa)(zn:Nat)(N:aq)(J:dz)(e:Int):Prop:=aF prog z zn 11 (AL N J) [] 0 0 Yc (Hp e) Ye
abbrev PI(e:Int):Unit->Value:=fun(x:Unit)=>L3 e
noncomputable abbrev Lt(N:aq)(J:dz):Cm:=Cm.mk (AL N J) [] 0 0 [] [] 3
noncomputable abbrev WJ:Cm:=Cm.mk [] [] 0 0 [] [] 4
abbrev TI(zn n:Nat):Unit->Value:=fun(x:Unit)=>TP [AG [tb zn n n],YM]
abbrev PH(z:T aa)(zn:Nat)(cs:List Value)(n:Nat):Unit->T aa:=fun(x:Unit)=>wK z zn cs n
abbrev Ls(zn:Nat):Unit->Nat:=fun(x:Unit)=>zn+1
abbrev WH(z:T aa)(zn:Nat)(N:aq)(J:dz)(n:Nat)(cs:List Value):Prop:=bb prog z zn 11 (AL N J) [] 0 0 Yc (TI zn n) Ye (PH z zn cs n) (Ls zn)
abbrev YKB(s:da):Value:=TP [AG [s.v],YM]
abbrev Tu:da->Value:=fun(s:da)=>YKB s
abbrev OV:da->List (Nat × aa):=fun(x:da)=>[]
abbrev WG(x:da):Value:=TP [AG [wM x],YM]
abbrev YKF(x:da):Prop:=aP Yf (WG x)=some (WG x)
abbrev YKG(x:da):Prop:=aF prog (ik x) x.zn 10 [] [] 0 0 Yc gf Ye
abbrev WE(zn n:Nat):Unit->Value:=fun(x:Unit)=>AM zn n
noncomputable abbrev YKI(zn n:Nat)(x:da):Tr:=tA 7 (Tr.cm (Cm.mk [AG [eg zn n],AG [wM x]] [] 0 0 [] [] 4) Unit Yc gf Ye gf Ye (fun(x_1:Unit)=>ik x) (fun(x_1:Unit)=>x.zn) fun(x_1:Unit)=>tA 2 (Tr.cm WJ Unit Yc gf Ye gf Ye (fun(x_2:Unit)=>ik x) (fun(x_2:Unit)=>x.zn) fun(x_2:Unit)=>tA 1 (tR [] [] T1 [] 0 (ik x) x.zn)))
end
noncomputable section
noncomputable abbrev YKJ:Code:=ah (ag f31) 0
theorem uga(z:T aa)(zn i K n cp:Nat)(x:ak)(kj:aV)(now:Int)(Q:QL)(hyp:Value.bool (decide ((↑i:Int)<(↑n:Int)))=T1/\cG i/\i<n/\fH K/\fR z K kj/\SJ kj i x/\Br (decide (x.dep>=now)) (E6 24 z zn (Rs (IV i)/\Q af.ret [(4,IV i)] [] 1 z zn)) (ZV (IntKind.i64.wrap ((↑i:Int)+1))=IV (i+1)/\E6 24 z zn (R5 (ZV now) Y3 (SL (tF K) n cp) (IV n) (IV (i+1)) (Rs (sN K n cp)/\Q aN [(1,ZV now),sQ,(8,SL (tF K) n cp),(9,IV n),(10,IV (i+1))] [(0,sN K n cp)] 1 z zn)))):RdT prog Yi cW YKJ 24 (DA now (tb K n cp) n i) z [(0,jB (tb K n cp))] 1 zn 1 Q:=K1t hyp (tO kI (tA 1 (tO (bS i) (tO (OY K kj x) (tA 2 ((tA 1 (tE [] [] [(4,IV i)] [] 1 z zn)).fork (tA 1 (tO (dI i) (tE YC [] [(1,ZV now),sQ,(8,SL (tF K) n cp),(9,IV n),(10,IV (i+1))] [(0,sN K n cp)] 1 z zn)))))))))
theorem ugb(z:T aa)(zn i n:Nat)(v:Value)(now:Int)(Q:QL)(hyp:Value.bool (decide ((↑i:Int)<(↑n:Int)))=F0/\E6 24 z zn (AQ/\KO YD (BQ [v] 1 1 34)/\Q YO [sQ] [(0,BQ [v] 1 1 34)] 1 z zn)):RdT prog Yi cW YKJ 24 (DA now v n i) z [(0,jB v)] 1 zn 1 Q:=K1t hyp (tO kx (tA 1 (tE YC [] [sQ] [(0,BQ [v] 1 1 34)] 1 z zn)))
noncomputable abbrev YKK(m:Nat)(J:dz)(z:T aa)(zn:Nat):aA->Prop:=(alt (m<J.n) (aA.mk af.ret [(4,iv m)] [] 1 z zn) (alt (m=J.n) (aA.mk YO [(2,ip 0)] [(0,jB J.v)] 1 z zn) Al.nil)).R
noncomputable abbrev YKL(m:Nat)(J:dz)(z:T aa)(zn:Nat):Al:=Al.cons Unit (fun(x:Unit)=>m<J.n) (fun(x:Unit)=>aA.mk af.ret [(4,iv m)] [] 1 z zn) (fun(x:Unit)=>tR [] [] (IV m) [] 0 z zn) (Al.cons Unit (fun(x:Unit)=>m=J.n) (fun(x:Unit)=>aA.mk YO [(2,ip 0)] [(0,jB J.v)] 1 z zn) (fun(x:Unit)=>tA 1 (tR [] [] (IV J.n) [] 0 z zn)) Al.nil)
theorem ug(z:T aa)(zn m:Nat)(J:dz)(now:Int)(Q:QF)(hyp:YP/\aj prog YKJ 1 24 (DA now J.v J.n 0) [(0,jB J.v)] 1 z zn (YKK m J z zn)/\E6 24 z zn (R2 (ZV now) Y3 (aP YD (yS J)=some (yS J)/\R2 (IV J.n) YM (KO YD (Lr J)/\(∀(x:Unit),m<J.n->E6 24 z zn (Rs (IV m)/\Q (IV m) [] 0 z zn))/\ ∀(x:Unit),m=J.n->E6 24 z zn (Rs (IV J.n)/\Q (IV J.n) [] 0 z zn))))):FnT prog Yi cW f31 [J.jn,zv now] z [] 0 zn Q:=K1t hyp (tA 1 (Tr.lp 1 24 YC [] (DA now J.v J.n 0) [(0,jB J.v)] 1 z zn (YKL m J z zn)))
theorem ufe(z:T aa)(zn:Nat)(N:aq)(J:dz)(now e:Int)(Q:QF)(hyp:Xu z zn N J e/\qc N J/\ ∀(x:Unit),True->HY e/\Value.bool (e !=0)=T1/\E6 22 z zn (Rs (TP [YM,ZV e])/\Q (TP [YM,ZV e]) [] 0 z zn)):FnT prog Yi cW f16 [Yj N,J.jn,zv now] z [] 0 zn Q:=K1t hyp (tA 2 (Tr.cm (CF N J) Unit Yc (Hp e) Ye (PI e) Ye (Yl z) (Ym zn) fun(x:Unit)=>tA 1 (tO kI (tA 1 (tR [] [] (TP [YM,ZV e]) [] 0 z zn)))))
theorem uf(z:T aa)(zn n m:Nat)(N:aq)(J:dz)(now:Int)(cs:List Value)(Q:QF)(hyp:WH z zn N J n cs/\qc N J/\ ∀(x:Unit),True->Rs (AM zn n)/\aF prog (wK z zn cs n) (zn+1) 31 [AG [eg zn n],ZV now] [] 0 0 Yc (Mk m) Ye/\Rs [AG [eg zn n],ZV now]/\ ∀(x:Unit),True->Rs (IV m)/\E6 22 (wK z zn cs n) (zn+1) (Rs (TP [IV m,YM])/\Q (TP [IV m,YM]) [] 0 (wK z zn cs n) (zn+1))):FnT prog Yi cW f16 [Yj N,J.jn,zv now] z [] 0 zn Q:=K1t hyp (tA 2 (Tr.cm (CF N J) Unit Yc (TI zn n) Ye (WE zn n) Ye (PH z zn cs n) (Ls zn) fun(x:Unit)=>tA 4 (Tr.cm (Cm.mk [AG [eg zn n],ZV now] [] 0 0 [] [] 3) Unit Yc (Mk m) Ye (W2 m) Ye (PH z zn cs n) (Ls zn) fun(x:Unit)=>tR [] [] (TP [IV m,YM]) [] 0 (wK z zn cs n) (zn+1))))
end
end Go.Proofs.Nw
namespace Go.Proofs.Nw
open Go Go.AV Tryz
set_option maxHeartbeats 1000000
set_option maxRecDepth 100000
structure LJ(z:T aa)(J:dz)(L:List ak):Prop where
 n:J.n=L.length
 nm: ∀σ,aP (ay σ []) J.v=some J.v
 here:L≠[]-> ∃(K:Nat)(B:aV),J.a=some ⟨256*K+510,0,none⟩/\z.get K=some (.az B)/\B.cells=(L.map ak.row).flatten
theorem Fl{z:T aa}{K c:Nat}{B:aV}{L:List ak}(h:z.get K=some (.az B))(hB:B.cells=(L.map ak.row).flatten):LJ z ⟨some ⟨256*K+510,0,none⟩,L.length,c⟩ L:=
 ⟨rfl,fun σ=>lq σ _ _ _,fun _=>⟨K,B,rfl,h,hB⟩⟩
theorem w6.aaK{z0:T aa}{n0:Nat}{L:List ak}{s:da}(h:w6 z0 n0 L s):LJ s.z ⟨s.oa,s.k,s.k⟩ L:=by
 obtain⟨oa,k,sz,szn⟩:=s
 rcases h.val with ⟨e1,e2,e3⟩|⟨e0,kk,_,_,e1,e2,e3⟩<;>simp only at*
 ·subst e1 e2 e3
  exact⟨rfl,fun _=>rfl,fun h=>(h rfl).elim⟩
 ·subst e1 e2
  exact Fl e3 rfl
section
variable{z:T aa}{zn:Nat}
theorem K9{L:List ak}{now:Int}{i:Nat}{x:ak}(hi:i<L.length)(h2: ∀j x,j<i->L[j]? =some x->x.dep<now)(hx:L[i]? =some x)(h:now<=x.dep):jL now L=i:=uB now L i h2 (fun y hy=>by rw[hx] at hy;cases hy;exact h) (by omega)
theorem OJ(hz:aw z zn){J:dz}{L:List ak}(hJ:LJ z J L)(hl:L.length<1000000000)(now:Int):A1 z zn 31 [J.jn,zv now] [] 0 0 (iv (jL now L)) []:=by
 obtain⟨hn,hr,hh⟩:=hJ
 have hjb:=nQ hr
 have hlp:aj prog (ah (ag f31) 0) 1 24 (DA now J.v J.n 0) [(0,jB J.v)] 1 z zn (Al.R (aax z zn now J.v J.n (jL now L)).l):=by
  refine ax hD (bC (zg:=T.leaf)) (α:=Nat) 1 24 1 (fun i=>i<=L.length/\ ∀j x,j<i->L[j]? =some x->x.dep<now) (fun i=>DA now J.v J.n i) (fun _=>[(0,jB J.v)]) (fun _=>z) (fun _=>zn) (fun i=>L.length - i) _ (fun i hI=>?_) 0 ⟨Nat.zero_le _,fun j x h=>absurd h (Nat.not_lt_zero _)⟩
  obtain⟨h1,h2⟩:=hI
  by_cases hi:i<L.length
  ·obtain⟨x,hx⟩:=dm hi
   obtain⟨K,B,a1,b1,b2⟩:=hh (fun h=>by rw[h] at hi;simp at hi)
   obtain⟨ja,jn,jc⟩:=J
   simp only at a1 hn hr hjb
   subst a1 hn
   have hc:Value.bool (decide ((i:Int)<(L.length:Int)))=Value.bool true:=by rw[decide_eq_true (by omega)]
   have k2:ai prog B 62 (0+i*9)=some (.agg ⟨x.row⟩):=Dh hx b2
   have w:=bH (n:=i) (by omega)
   refine t100 (uga z zn i K L.length jc x B now (au _ _ _ _ _ _ _ _ _) ?_)
   (repeat' first|(with_reducible first|exact rfl|assumption|apply And.intro)|intro hq)
   ·have he:=K9 hi h2 hx (of_decide_eq_true (by with_reducible assumption:decide (x.dep>=now)=true))
    rw[he]
    exact bh hi
   ·have hlt: ¬x.dep>=now:=of_decide_eq_false (by with_reducible assumption:decide (x.dep>=now)=false)
    exact⟨i+1,rfl,rfl,rfl,rfl,rfl,⟨hi,fun j y hj hy=>by
     by_cases e:j=i
     ·subst e;rw[hx] at hy;cases hy;omega
     ·exact h2 j y (by omega) hy⟩,by show L.length - (i+1)<L.length - i;omega⟩
  ·have hc:Value.bool (decide ((i:Int)<(J.n:Int)))=Value.bool false:=by rw[decide_eq_false (by omega)]
   refine t100 (ugb z zn i J.n J.v now (au _ _ _ _ _ _ _ _ _) ?_)
   (repeat' first|(with_reducible first|exact rfl|assumption|apply And.intro|exact hjb _))
   have he:jL now L=i:=uB now L i h2 (fun y hy=>by have:=(List.getElem?_eq_some_iff.1 hy).1;omega) h1
   rw[he]
   exact c8 (bh (by omega))
 refine aK1 (bC (zg:=T.leaf)) (fn:=f31) hz (N:=100) ?_
 refine ug z zn (jL now L) J now _ ?_
 (repeat' first|(with_reducible first|exact rfl|assumption|apply And.intro|exact hr _|exact hjb _)|exact hlp|intro hq)
 all_goals first
  |exact q1
  |(refine qh ?_;rw[(by assumption:jL now L=J.n)])
variable{N:aq}{D:fP}
noncomputable def lA(D:fP)(G:List ak)(now:Int):Nat:=jL now (oY D.runs G)
theorem MG{D:fP}{G:List ak}:LJ (z.set zn (ic (iE D G) G.length)) ⟨some ⟨256*zn+510,0,none⟩,G.length,G.length⟩ (oY D.runs G):=by
 have hl:=qw D.runs G
 have:=Fl (z:=z.set zn (ic (iE D G) G.length)) (K:=zn) (c:=G.length) (B:=fL (oY D.runs G) G.length) (L:=oY D.runs G) (by rw[T.aH,if_pos rfl]) rfl
 rw[hl] at this
 exact this
theorem KT(hz:aw z zn)(hN:c9 z N D)(hll:D.paths.length<=10000){K:Nat}{G:List ak}(hG:G.length<=1000){J:dz}(hJ:nk K J.a J.n J.c G.length)(hT:bP z K (G.map ak.row))(he:jY N D G≠0)(now:Int):
 A1 z zn 16 [.agg ⟨N.cells⟩,J.jn,zv now] [] 0 0 (.tuple ⟨[iv 0,zv (jY N D G)]⟩) []:=by
 have hc:=FG hz hN hll hG hJ hT he
 have hv:=tj hN hJ.nm
 have e1:Value.bool (jY N D G !=0)=Value.bool true:=by rw[show(jY N D G !=0)=true by simpa using he]
 refine aK1 (bC (zg:=T.leaf)) (fn:=f16) hz (N:=100) ?_
 refine ufe z zn N J now (jY N D G) _ ?_
 (repeat' first|(with_reducible first|exact rfl|assumption|apply And.intro)|intro hq)
 exact q1
theorem Py(hz:aw z zn)(h6:6<=zn)(hN:c9 z N D)(hll:D.paths.length<=10000){K:Nat}{G:List ak}(hG:G.length<=1000){J:dz}(hJ:nk K J.a J.n J.c G.length)(hT:bP z K (G.map ak.row))(he:jY N D G=0)(now:Int):
 A1 z zn 16 [.agg ⟨N.cells⟩,J.jn,zv now] [] 0 0 (.tuple ⟨[iv (lA D G now),I 0]⟩) []:=by
 have hc:=Ot hz h6 hN hll hG hJ hT he
 have hv:=tj hN hJ.nm
 have hfz:aw (z.set zn (ic (iE D G) G.length)) (zn+1):=dL hz (db _)
 have hb:=OJ hfz (MG (D:=D) (G:=G)) (by rw[qw];omega) now
 have hra:aS (sig []) [.agg ⟨[tb zn G.length G.length]⟩,zv now]=some [.agg ⟨[tb zn G.length G.length]⟩,zv now]:=rfl
 have key:bb prog z zn 16 [.agg ⟨N.cells⟩,J.jn,zv now] [] 0 0 (fun _:Unit=>True) (fun _=> .tuple ⟨[iv (lA D G now),I 0]⟩) (fun _=>[]) (fun _=>z.set zn (ic (iE D G) G.length)) (fun _=>zn+1):=by
  refine dV (bC (zg:=T.leaf)) (fn:=f16) (by kernel_rfl) (by kernel_rfl) hz ⟨by decide,by decide⟩ (fun s hs=>⟨rfl,Nat.le_succ _,hfz⟩) (N:=100) ?_
  refine uf z zn G.length (jL now (oY D.runs G)) N J now (iE D G) _ ?_
  (repeat' first|(with_reducible first|exact rfl|assumption|apply And.intro)|intro hq)
  exact q2 () True.intro rfl rfl rfl rfl rfl
 exact eL key rfl fun s hs k hk=>by rw[T.aH,if_neg (by omega)]
end
end Go.Proofs.Nw
namespace Go.Proofs.Nw
open Go Go.AV Tryz
set_option maxRecDepth 1000000
noncomputable section
noncomputable abbrev YKM:Code:=ah (ag f17) 0
end
noncomputable section
abbrev FV(N:aq)(J:dz)(now:Int):List Value:=[AG (Ya N),AG [yS J],ZV now]
abbrev Tt(e:Int):Unit->Value:=fun(x:Unit)=>TP [iv 0,zv e]
abbrev PD(N:aq)(J:dz)(now:Int):Prop:=aS Yf (FV N J now)=some (FV N J now)
noncomputable abbrev YKQ:Cm:=Cm.mk [] [] 0 0 [] [] 3
noncomputable abbrev YKR(z:T aa)(zn:Nat):Tr:=tO kI (tA 2 (Tr.cm YKQ Unit Yc gf Ye gf Ye (Yl z) (Ym zn) fun(x:Unit)=>tA 1 (Yn z zn)))
end
noncomputable section
abbrev CW(q:nc):Value:=AG [ZV q.fz1,ZV q.aB,ZV q.time,Value.bool q.back,ZV q.ba,ZV q.walk,Value.bool q.sf,Value.bool q.OO,ZV q.bL,Value.bool q.Oj]
abbrev SF(N:aq)(q:nc):Prop:=aS Yf [AG (Ya N),CW q]=some [AG (Ya N),CW q]
abbrev LZ:Prop:=Rs (I 22)
noncomputable abbrev LY(z:T aa)(zn:Nat):Tr:=tR [] [] (I 22) [] 0 z zn
noncomputable abbrev YKW(x:da):Tr:=tA 4 ((tA 5 (tR [] [] tV [] 0 (ik x) x.zn)).fork (tA 4 ((tA 2 (tR [] [] tV [] 0 (ik x) x.zn)).fork (tA 2 (tR [] [] YM [] 0 (ik x) x.zn)))))
noncomputable abbrev WD(N:aq)(q:nc):Cm:=Cm.mk [AG (Ya N),CW q] [] 0 0 [] [] 4
abbrev SE:Unit->Value:=fun(x:Unit)=>zv 0
abbrev Xl(z:T aa)(zn:Nat)(N:aq)(q:nc):Prop:=aF prog z zn 27 [AG (Ya N),CW q] [] 0 0 Yc SE Ye
abbrev YKa:Value:=TP [AG [Y5],I 22]
abbrev Ts:Value:=TP [AG [Y5],tV]
abbrev HX(N:aq)(q:nc)(J:dz)(now:Int):List Value:=[AG (Ya N),AG [ZV q.fz1,ZV q.aB,ZV q.time,Value.bool q.back,ZV q.ba,ZV q.walk,Value.bool q.sf,Value.bool q.OO,ZV q.bL,Value.bool q.Oj,yS J,ZV now]]
end
noncomputable section
end
noncomputable section
abbrev Tq(N:aq)(J:dz)(a b:Int):List Value:=[Yj N,J.jn,AG [zv a,zv b]]
noncomputable abbrev YKe(z:T aa)(zn:Nat):Tr:=Tr.cm YKQ Unit Yc gf Ye gf Ye (Yl z) (Ym zn) (S6 z zn)
theorem uca(z:T aa)(zn:Nat)(N:aq)(J:dz)(a b:Int)(Q:QF)(hyp:Xm z zn N J/\qc N J/\ ∀(x:Unit),True->YQ/\Lp z zn/\Ek/\ ∀(x:Unit),True->YA/\E6 106 z zn (YA/\Q T1 [] 0 z zn)):FnT prog Yi cW Tryz.f8 (Tq N J a b) z [] 0 zn Q:=K1t hyp (tA 2 (Tr.cm (Lt N J) Unit Yc uG Ye uG Ye (Yl z) (Ym zn) fun(x:Unit)=>tA 11 (YKe z zn)))
theorem ucb(z:T aa)(zn:Nat)(N:aq)(J:dz)(a b:Int)(Q:QF)(hyp:Lu z zn N J/\qc N J/\ ∀(x:Unit),True->YA/\aF prog z zn 20 (Yb N) [] 0 0 Yc uG Ye/\Yg N/\ ∀(x:Unit),True->YQ/\Lp z zn/\Ek/\ ∀(x:Unit),True->YA/\E6 106 z zn (YA/\Q T1 [] 0 z zn)):FnT prog Yi cW Tryz.f8 (Tq N J a b) z [] 0 zn Q:=K1t hyp (tA 2 (Tr.cm (Lt N J) Unit Yc gf Ye gf Ye (Yl z) (Ym zn) fun(x:Unit)=>tA 3 (Tr.cm (C2 N) Unit Yc uG Ye uG Ye (Yl z) (Ym zn) fun(x:Unit)=>tA 9 (YKe z zn))))
theorem ucc(z:T aa)(zn:Nat)(N:aq)(J:dz)(a b:Int)(Q:QF)(hyp:Lu z zn N J/\qc N J/\ ∀(x:Unit),True->YA/\Tw z zn N/\Yg N/\ ∀(x:Unit),True->YA/\Value.bool (decide (a>b))=T1/\Lp z zn/\Ek/\ ∀(x:Unit),True->YA/\E6 106 z zn (YA/\Q T1 [] 0 z zn)):FnT prog Yi cW Tryz.f8 (Tq N J a b) z [] 0 zn Q:=K1t hyp (tA 2 (Tr.cm (Lt N J) Unit Yc gf Ye gf Ye (Yl z) (Ym zn) fun(x:Unit)=>tA 3 (Tr.cm (C2 N) Unit Yc gf Ye gf Ye (Yl z) (Ym zn) fun(x:Unit)=>tA 9 (tO kI (tA 2 (YKe z zn))))))
noncomputable abbrev Tp(N:aq)(J:dz)(a:Int):Cm:=Cm.mk (FV N J a) [] 0 0 [] [] 3
theorem ucd(z:T aa)(zn:Nat)(N:aq)(J:dz)(a b e:Int)(Q:QF)(hyp:Lu z zn N J/\qc N J/\ ∀(x:Unit),True->YA/\Tw z zn N/\Yg N/\ ∀(x:Unit),True->YA/\Value.bool (decide (a>b))=F0/\aF prog z zn 16 (FV N J a) [] 0 0 Yc (Tt e) Ye/\PD N J a/\ ∀(x:Unit),True->Rs (TP [YM,ZV e])/\aF prog z zn 16 (FV N J b) [] 0 0 Yc (Tt e) Ye/\PD N J b/\ ∀(x:Unit),True->Rs (TP [YM,ZV e])/\Value.bool (e !=e)=F0/\Value.bool (e==0)=F0/\Xu z zn N J e/\qc N J/\ ∀(x:Unit),True->HY e/\Value.bool (e !=0)=T1/\Lp z zn/\Ek/\ ∀(x:Unit),True->YA/\E6 106 z zn (YA/\Q T1 [] 0 z zn)):FnT prog Yi cW Tryz.f8 (Tq N J a b) z [] 0 zn Q:=K1t hyp (tA 2 (Tr.cm (Lt N J) Unit Yc gf Ye gf Ye (Yl z) (Ym zn) fun(x:Unit)=>tA 3 (Tr.cm (C2 N) Unit Yc gf Ye gf Ye (Yl z) (Ym zn) fun(x:Unit)=>tA 9 (tO kx (tA 5 (Tr.cm (Tp N J a) Unit Yc (Tt e) Ye (fun(x:Unit)=>TP [YM,ZV e]) Ye (Yl z) (Ym zn) fun(x:Unit)=>tA 3 (Tr.cm (Tp N J b) Unit Yc (Tt e) Ye (fun(x:Unit)=>TP [YM,ZV e]) Ye (Yl z) (Ym zn) fun(x:Unit)=>tO kx (tA 2 (tO kx (tA 13 (Tr.cm (Lt N J) Unit Yc (Hp e) Ye (PI e) Ye (Yl z) (Ym zn) fun(x:Unit)=>tA 1 (tO kI (tA 6 (Tr.cm WJ Unit Yc gf Ye gf Ye (Yl z) (Ym zn) (S6 z zn)))))))))))))))
abbrev Xk:Unit->Value:=fun(x:Unit)=>TP [iv 0,zv 0]
theorem uce(z:T aa)(zn:Nat)(N:aq)(J:dz)(a b:Int)(cs:List Value)(Q:QF)(hyp:Lu z zn N J/\qc N J/\ ∀(x:Unit),True->YA/\Tw z zn N/\Yg N/\ ∀(x:Unit),True->YA/\Value.bool (decide (a>b))=F0/\aF prog z zn 16 (FV N J a) [] 0 0 Yc Xk Ye/\PD N J a/\ ∀(x:Unit),True->wO/\aF prog z zn 16 (FV N J b) [] 0 0 Yc Xk Ye/\PD N J b/\ ∀(x:Unit),True->wO/\bb prog z zn 11 (AL N J) [] 0 0 Yc (fun(x:Unit)=>TP [AG [tb zn 0 0],YM]) Ye (fun(x:Unit)=>z.set zn (ic cs 0)) (Ls zn)/\qc N J/\ ∀(x:Unit),True->Rs (SG zn)/\aF prog (z.set zn (ic cs 0)) (zn+1) 10 [] [] 0 0 Yc gf Ye/\Ek/\ ∀(x:Unit),True->YA/\E6 106 (z.set zn (ic cs 0)) (zn+1) (YA/\Q T1 [] 0 (z.set zn (ic cs 0)) (zn+1))):FnT prog Yi cW Tryz.f8 (Tq N J a b) z [] 0 zn Q:=K1t hyp (tA 2 (Tr.cm (Lt N J) Unit Yc gf Ye gf Ye (Yl z) (Ym zn) fun(x:Unit)=>tA 3 (Tr.cm (C2 N) Unit Yc gf Ye gf Ye (Yl z) (Ym zn) fun(x:Unit)=>tA 9 (tO kx (tA 5 (Tr.cm (Tp N J a) Unit Yc Xk Ye WO Ye (Yl z) (Ym zn) fun(x:Unit)=>tA 3 (Tr.cm (Tp N J b) Unit Yc Xk Ye WO Ye (Yl z) (Ym zn) fun(x:Unit)=>tA 31 (Tr.cm (Lt N J) Unit Yc (fun(x:Unit)=>TP [AG [tb zn 0 0],YM]) Ye (fun(x:Unit)=>SG zn) Ye (fun(x:Unit)=>z.set zn (ic cs 0)) (Ls zn) fun(x:Unit)=>tA 10 (Tr.cm WJ Unit Yc gf Ye gf Ye (fun(x:Unit)=>z.set zn (ic cs 0)) (Ls zn) fun(x:Unit)=>tR [] [] T1 [] 0 (z.set zn (ic cs 0)) (zn+1))))))))))
theorem ucf(z zg:T aa)(g:Nat->List Value->Option Value)(zn n:Nat)(N:aq)(J:dz)(a b d:Int)(kb:aV)(fr:Int->Nat)(cs:List Value)(Q:QF)(hyp:Lu z zn N J/\qc N J/\ ∀(x:Unit),True->YA/\Tw z zn N/\Yg N/\ ∀(x:Unit),True->YA/\Value.bool (decide (a>b))=F0/\aF prog z zn 16 (FV N J a) [] 0 0 Yc (fun(x:Unit)=>TP [iv (fr a),YM]) Ye/\PD N J a/\ ∀(x:Unit),True->Rs (TP [IV (fr a),YM])/\aF prog z zn 16 (FV N J b) [] 0 0 Yc (fun(x:Unit)=>TP [iv (fr b),YM]) Ye/\PD N J b/\ ∀(x:Unit),True->Rs (TP [IV (fr b),YM])/\Value.bool (decide ((↑(fr a):Int)>(↑(fr b):Int)))=F0/\Value.bool (decide ((↑(fr b):Int)>(↑J.n:Int)))=F0/\WH z zn N J n cs/\qc N J/\ ∀(x:Unit),True->Rs (AM zn n)/\Value.bool ((↑n:Int)==0)=F0/\Int.ofNat 0=0/\0<n/\fH zn/\(wK z zn cs n).get zn=rM kb/\ai prog kb 3 6=some (ZV d)/\wK z zn cs n=zg/\g 16 (FV N J d)=some (TP [IV (fr d),YM])/\Value.bool ((↑(fr d):Int)==0)=T1/\aF prog (wK z zn cs n) (zn+1) 10 [] [] 0 0 Yc gf Ye/\Ek/\ ∀(x:Unit),True->YA/\E6 106 (wK z zn cs n) (zn+1) (YA/\Q T1 [] 0 (wK z zn cs n) (zn+1))):FnT prog g zg Tryz.f8 (Tq N J a b) z [] 0 zn Q:=K1t hyp (tA 2 (Tr.cm (Lt N J) Unit Yc gf Ye gf Ye (Yl z) (Ym zn) fun(x:Unit)=>tA 3 (Tr.cm (C2 N) Unit Yc gf Ye gf Ye (Yl z) (Ym zn) fun(x:Unit)=>tA 9 (tO kx (tA 5 (Tr.cm (Tp N J a) Unit Yc (fun(x:Unit)=>TP [iv (fr a),YM]) Ye (fun(x:Unit)=>TP [IV (fr a),YM]) Ye (Yl z) (Ym zn) fun(x:Unit)=>tA 3 (Tr.cm (Tp N J b) Unit Yc (fun(x:Unit)=>TP [iv (fr b),YM]) Ye (fun(x:Unit)=>TP [IV (fr b),YM]) Ye (Yl z) (Ym zn) fun(x:Unit)=>tA 12 (tO kx (tA 9 (tO kx (tA 8 (Tr.cm (Lt N J) Unit Yc (TI zn n) Ye (WE zn n) Ye (PH z zn cs n) (Ls zn) fun(x:Unit)=>tA 7 (tO kx (tA 5 (tO Lz (tO (oX zn kb d) (tO (An.cl (TP [IV (fr d),YM])) (tA 3 (tO kI (tA 2 (Tr.cm WJ Unit Yc gf Ye gf Ye (PH z zn cs n) (Ls zn) fun(x:Unit)=>tA 1 (tR [] [] T1 [] 0 (wK z zn cs n) (zn+1)))))))))))))))))))))))
end
end Go.Proofs.Nw
namespace Go.Proofs.Nw
open Go Go.AV Tryz Go.RowKit
set_option maxHeartbeats 1000000
set_option maxRecDepth 100000
open Classical in
noncomputable def gF(c:List Value)(v:Value)(fr:Int->Nat):Nat->List Value->Option Value
 |f,[.agg ⟨c'⟩, .agg ⟨[v']⟩, .int .i64 t]=>if f=16/\c'=c/\v'=v then some (.tuple ⟨[iv (fr t),I 0]⟩) else none
 |_,_=>none
theorem VP{c:List Value}{v:Value}{fr:Int->Nat}(t:Int):gF c v fr 16 [.agg ⟨c⟩, .agg ⟨[v]⟩, .int .i64 t]=some (.tuple ⟨[iv (fr t),I 0]⟩):=if_pos ⟨rfl,rfl,rfl⟩
theorem aa4{z:T aa}{c:List Value}{v:Value}{fr:Int->Nat}(h: ∀t:Int,kZ prog z 16 [.agg ⟨c⟩, .agg ⟨[v]⟩,zv t] (.tuple ⟨[iv (fr t),I 0]⟩)):fq prog z (gF c v fr):=by
 intro f args u hu
 unfold gF at hu
 split at hu
 ·split at hu
  ·rename_i hc
   obtain⟨rfl,rfl,rfl⟩:=hc
   cases hu
   exact h _
  ·cases hu
 ·cases hu
section
variable{z:T aa}{zn:Nat}{N:aq}{D:fP}
theorem Jc(h:c9 z N D){m:Nat}(hm:6<=m){K:Nat}{J:dz}{len:Nat}(hJ:nk K J.a J.n J.c len)(hK:K<m)(t:Int):Xc m [.agg ⟨N.cells⟩,J.jn,zv t]:=fun σ hσ=>by
 have e: ∀x:Int,aP σ (zv x)=some (zv x):=fun _=>rfl
 have hc:aS σ N.cells=some N.cells:=by
  simp only[aS,mu h.s (show 2<m by omega) hσ,mu h.r (show 3<m by omega) hσ,mu h.u (show 1<m by omega) hσ,mu h.l (show 0<m by omega) hσ,mu h.p (show 4<m by omega) hσ,mu h.f (show 5<m by omega) hσ,e]
 exact bM (by simp only[aP,hc]) (bM (g8 (mu hJ hK hσ)) (cQ rfl))
theorem OC(h6:6<=zn)(hz:aw z zn)(hown: ∀k o,z.get k=some o->o.owned=false)(hN:c9 z N D){K:Nat}(hK:6<=K)(hKn:K<zn){G:List ak}{J:dz}(hJ:nk K J.a J.n J.c G.length)(hT:bP z K (G.map ak.row))(a b:Int):
 A1 z zn 8 [.agg ⟨N.cells⟩,J.jn, .agg ⟨[zv a,zv b]⟩] [] 0 0 T1 []:=by
 have hv:=tj hN hJ.nm
 have hv1:=jx (hN.val [])
 have hv3: ∀t:Int,aS (sig []) [.agg ⟨N.cells⟩,J.jn,zv t]=some [.agg ⟨N.cells⟩,J.jn,zv t]:=fun t=>by
  have:=hJ.nm []
  rw[lO] at this
  exact bM (hN.val []) (bM (g8 this) (cQ rfl))
 have hsz:=uA hz hN hJ.nm
 have hvl:=uz hz (by omega) hN
 have hex:=wx hz
 have hjn:=dh hJ
 have hjb:=nQ hJ.nm
 cases hl:HN N D J.n with
 |false=>
  rw[hl] at hsz
  refine aK1 (bC (zg:=T.leaf)) (fn:=Tryz.f8) hz (N:=100) ?_
  refine uca z zn N J a b _ ?_
  (repeat' first|(with_reducible first|exact rfl|assumption|apply And.intro)|intro hq)
  exact q1
 |true=>
  rw[hl] at hsz
  obtain⟨hnp,hn20⟩:=za hl
  have hG:G.length<=1000:=by omega
  have hll:D.paths.length<=10000:=by have:=dh hN.p;omega
  by_cases hvv:(bB N D).2.2=0
  rotate_left
  ·rw[show((bB N D).2.2==0)=false by simpa using hvv] at hvl
   refine aK1 (bC (zg:=T.leaf)) (fn:=Tryz.f8) hz (N:=100) ?_
   refine ucb z zn N J a b _ ?_
   (repeat' first|(with_reducible first|exact rfl|assumption|apply And.intro)|intro hq)
   exact q1
  have hvl:A1 z zn 20 [.agg ⟨N.cells⟩] [] 0 0 T1 []:=by rw[hvv] at hvl;exact hvl
  by_cases hab:a>b
  ·have e1:Value.bool (decide (a>b))=Value.bool true:=by rw[decide_eq_true hab]
   refine aK1 (bC (zg:=T.leaf)) (fn:=Tryz.f8) hz (N:=100) ?_
   refine ucc z zn N J a b _ ?_
   (repeat' first|(with_reducible first|exact rfl|assumption|apply And.intro)|intro hq)
   exact q1
  have e1:Value.bool (decide (a>b))=Value.bool false:=by rw[decide_eq_false hab]
  by_cases he:jY N D G=0
  rotate_left
  ·have hf:=fun t=>KT hz hN hll hG hJ hT he t
   have hc:=FG hz hN hll hG hJ hT he
   have e2:Value.bool (jY N D G !=jY N D G)=Value.bool false:=by simp
   have e3:Value.bool (jY N D G==0)=Value.bool false:=by rw[show(jY N D G==0)=false by simpa using he]
   have e4:Value.bool (jY N D G !=0)=Value.bool true:=by rw[show(jY N D G !=0)=true by simpa using he]
   refine aK1 (bC (zg:=T.leaf)) (fn:=Tryz.f8) hz (N:=100) ?_
   refine ucd z zn N J a b (jY N D G) _ ?_
   (repeat' first|(with_reducible first|exact rfl|assumption|apply And.intro|exact hv3 _|exact hf _)|intro hq)
   all_goals first|exact q1
  have hf:=fun t=>Py hz h6 hN hll hG hJ hT he t
  have hc:=Ot hz h6 hN hll hG hJ hT he
  have hfz:aw (z.set zn (ic (iE D G) G.length)) (zn+1):=dL hz (db _)
  have hex2:=wx hfz
  have hlp:=qw D.runs G
  have key:bb prog z zn 8 [.agg ⟨N.cells⟩,J.jn, .agg ⟨[zv a,zv b]⟩] [] 0 0 (fun _:Unit=>True) (fun _=>T1) (fun _=>[]) (fun _=>z.set zn (ic (iE D G) G.length)) (fun _=>zn+1):=by
   by_cases h0:G=[]
   ·have hf0: ∀t,A1 z zn 16 [.agg ⟨N.cells⟩,J.jn,zv t] [] 0 0 (.tuple ⟨[iv 0,zv 0]⟩) []:=fun t=>by
     have:=hf t
     have e:lA D G t=0:=by subst h0;rfl
     rw[e] at this
     exact this
    have e2:Value.bool (decide ((0:Int)>(J.n:Int)))=Value.bool false:=by rw[decide_eq_false (by omega)]
    refine dV (bC (zg:=T.leaf)) (fn:=Tryz.f8) (by kernel_rfl) (by kernel_rfl) hz ⟨by decide,by decide⟩ (fun s hs=>⟨rfl,Nat.le_succ _,hfz⟩) (N:=100) ?_
    have NY:G.length=0:=by rw[h0];rfl
    rw[NY] at hc hfz hex2 ⊢
    refine uce z zn N J a b (iE D G) _ ?_
    (repeat' first|(with_reducible first|exact rfl|assumption|apply And.intro|exact hv3 _|exact hf0 _)|intro hq)
    all_goals first|exact q2 () True.intro rfl rfl rfl rfl rfl
   ·have hpos:0<G.length:=List.length_pos_iff.2 h0
    obtain⟨x,hx⟩:=dm (l:=oY D.runs G) (i:=0) (by omega)
    have hrd:=(kS (B:=fL (oY D.runs G) G.length) hx rfl).dep
    have hrd':ai prog (fL (oY D.runs G) G.length) 3 6=some (zv x.dep):=hrd
    have hg:(z.set zn (ic (iE D G) G.length)).get zn=some (.az (fL (oY D.runs G) G.length)):=by rw[T.aH,if_pos rfl]
    have f0:lA D G x.dep=0:=by
     unfold lA
     cases hR:oY D.runs G with
     |nil=>rfl
     |cons p r=>
      rw[hR] at hx
      simp at hx
      subst hx
      exact Ee _ _
    have hm:lA D G a<=lA D G b:=yN (by omega) _
    have hle:lA D G b<=G.length:=by rw[←hlp];exact FL _ _
    have e2:Value.bool (decide ((lA D G a:Int)>(lA D G b:Int)))=Value.bool false:=by rw[decide_eq_false (by omega)]
    have e3:Value.bool (decide ((lA D G b:Int)>(J.n:Int)))=Value.bool false:=by rw[decide_eq_false (by omega)]
    have e4:Value.bool ((G.length:Int)==0)=Value.bool false:=by rw[show((G.length:Int)==0)=false by simp;exact h0]
    have e5:Value.bool ((lA D G x.dep:Int)==0)=Value.bool true:=by rw[f0];rfl
    have hge:=VP (c:=N.cells) (v:=J.v) (fr:=lA D G) x.dep
    have hgk:fq prog (z.set zn (ic (iE D G) G.length)) (gF N.cells J.v (lA D G)):=aa4 fun t=>D6 (fun k o hk=>by
     rw[T.aH,if_neg (by have:=(hz k o hk).1;omega)];exact hk) (sH (hf t) (fun _ _=>rfl) rfl hown (Jc hN h6 hJ hKn t))
    refine dV hgk (fn:=Tryz.f8) (by kernel_rfl) (by kernel_rfl) hz ⟨by decide,by decide⟩ (fun s hs=>⟨rfl,Nat.le_succ _,hfz⟩) (N:=100) ?_
    refine ucf z (z.set zn (ic (iE D G) G.length)) (gF N.cells J.v (lA D G)) zn G.length N J a b x.dep (fL (oY D.runs G) G.length) (lA D G) (iE D G) _ ?_
    (repeat' first|(with_reducible first|exact rfl|assumption|apply And.intro|exact hv3 _|exact hf _)|exact(rfl:Int.ofNat _=_)|intro hq)
    all_goals first|exact q2 () True.intro rfl rfl rfl rfl rfl
  exact eL key rfl fun s hs=>ud
end
section
variable{H:Type}{enc:TypeId × Value->H}{W:World}{base:Nat}
theorem Ra{r:Reach}{b:Nat}{v0:Value}{n:Nat}{x:DataW H × List MemPlace}(hok:Value.okWide prog W r b 60 v0)(h:DataW.trod enc prog W base (fun _=>true) true n 60 v0.cells.toList=some x):
 ∃a c:Int,v0= .agg ⟨[zv a,zv c]⟩:=by
 obtain⟨fs,hfs⟩: ∃fs,prog.underlying 60=some (.struct fs):=Cb (by kernel_rfl)
 unfold Value.okWide at hok
 rw[hfs] at hok
 obtain⟨cs,rfl,_⟩:=hok
 have hcs:(Value.agg cs).cells.toList=cs.toList:=rfl
 rw[hcs] at h
 have hr:=nw (sh:=[.i .i64, .i .i64]) (fuel:=5) hfs (by kernel_rfl) (by kernel_rfl) h
 obtain⟨l⟩:=cs
 obtain⟨x0,l0,rfl,_,h0⟩:=hr.i
 obtain⟨x1,l1,rfl,_,h1⟩:=h0.i
 obtain rfl:=h1.e
 exact⟨x0,x1,rfl⟩
end
end Go.Proofs.Nw
