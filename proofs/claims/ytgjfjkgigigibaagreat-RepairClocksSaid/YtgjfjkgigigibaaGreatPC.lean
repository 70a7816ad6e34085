/-
  A part of the proof: lemmas of my own.
-/
import Derived.Test.YtgjfjkgigigibaaGreatPB
import Derived.KernelRfl
import Derived.WalkKit
import Derived.Below
import Derived.Lib.Hide
import Derived.LoopTactic
import Derived.Laws.IdiomStrings
import Derived.Laws.StructEq
set_option linter.unusedVariables false
set_option linter.unusedSimpArgs false
namespace Go.Proofs.Nw
open Go Go.AV Tryz
set_option maxRecDepth 1000000
noncomputable section
abbrev iy:af:=af.exit 2
abbrev ZO(kk n i:Nat):List (Nat × Value):=[(0,eg kk n),(1,YM),(2,IV n),(3,ir),(8,IV i)]
noncomputable abbrev Us:Code:=ah (ag f213) 0
theorem ji1(z:T aa)(zn kk n i j:Nat)(kb:aV)(x y:ae)(Q:QL)(hyp:Br (decide ((↑(j+1):Int)>0)) (Rf (↑(j+1):Int)/\j+1<n/\fH kk/\fR z kk kb/\ai prog kb 125 (0+(j+1)*4)=some (O6 y)/\WQ1 ((↑(j+1):Int) - 1)/\(↑(j+1):Int) - 1=(↑j:Int)/\j<n/\fH kk/\fR z kk kb/\F5 kb j x/\Rf z/\YBK y x/\Value.bool (decide (sF y.fz1 y.aB y.aK x.fz1 x.aB x.aK<0))=F0/\E6 53 z zn (R5 (eg kk n) YM (IV n) ir (IV i) (Q iy (ZO kk n i) [] 0 z zn))) (E6 53 z zn (R5 (eg kk n) YM (IV n) ir (IV i) (Q iy (ZO kk n i) [] 0 z zn)))):RdT prog gS z (ah Us 0) 53 (GA (tb kk n n) n i (j+1)) z [] 0 zn 0 Q:=K1t hyp ((tA 4 (tO (An.idx (j+1)) (tA 1 (tO (An.ld kk kb (AG y.row)) (tA 3 (tO (An.val (ZV ((↑(j+1):Int) - 1))) (tA 1 (tO (bS j) (tA 1 (tO (An.ld kk kb (AG x.row)) (tA 1 (tO (YBO y x) (tA 1 (tO kx (tA 2 (tE [] [] (ZO kk n i) [] 0 z zn)))))))))))))))).fork (tA 14 (tE [] [] (ZO kk n i) [] 0 z zn)))
abbrev tD:Prop:=Rf 0
abbrev C4(i:Nat):Nat × Value:=(8,IV (i+1))
noncomputable abbrev dI(i:Nat):An:=An.val (IV (i+1))
noncomputable abbrev S8(z:T aa)(zn:Nat):Tr:=tA 1 (tE [] [] [] [] 0 z zn)
theorem ji0(z:T aa)(zn kk n i:Nat)(Q:QL)(hyp:Br (decide ((↑i:Int)<(↑n:Int))) (tD/\aj prog (ah Us 0) 0 53 (GA (tb kk n n) n i i) [] 0 z zn (alt True (aA.mk iy (qO (tb kk n n) n i) [] 0 z zn) Al.nil).R/\E6 53 z zn (R6 (eg kk n) YM (IV n) ir (IV i) (IV i) (∀(x:Unit),True->ZV (IntKind.i64.wrap ((↑i:Int)+1))=IV (i+1)/\E6 53 z zn (R5 (eg kk n) YM (IV n) ir (IV (i+1)) (Q aN [(0,eg kk n),(1,YM),(2,IV n),(3,ir),C4 i] [] 0 z zn))))) (E6 53 z zn (Q YO [] [] 0 z zn))):RdT prog gS z Us 53 (qO (tb kk n n) n i) z [] 0 zn 0 Q:=K1t hyp ((tA 1 (Tr.lp 0 53 [] [] (GA (tb kk n n) n i i) [] 0 z zn (Al.cons Unit Yc (fun(x:Unit)=>aA.mk iy (qO (tb kk n n) n i) [] 0 z zn) (fun(x:Unit)=>tO (dI i) (tE [] [] [(0,eg kk n),(1,YM),(2,IV n),(3,ir),C4 i] [] 0 z zn)) Al.nil))).fork (S8 z zn))
theorem aaU(z:T aa)(zn:Nat)(Q:QL)(hyp:E6 53 z zn (Q YO [] [] 0 z zn)):RdT prog gS z Us 53 (qO an 0 1) z [] 0 zn 0 Q:=K1t hyp (tA 2 (tE [] [] [] [] 0 z zn))
noncomputable abbrev ZN(z:T aa)(zn:Nat):aA->Prop:=(alt True (aA.mk YO [] [] 0 z zn) Al.nil).R
abbrev pd:Value:=TP []
abbrev nv:Prop:=Rs pd
noncomputable abbrev S7(z:T aa)(zn:Nat):Unit->aA:=fun(x:Unit)=>aA.mk YO [] [] 0 z zn
noncomputable abbrev W3(z:T aa)(zn:Nat):Unit->Tr:=fun(x:Unit)=>tR [] [] pd [] 0 z zn
theorem ji(z:T aa)(zn kk n:Nat)(Q:QF)(hyp:tD/\aj prog Us 0 53 (qO (tb kk n n) n 1) [] 0 z zn (ZN z zn)/\E6 53 z zn (R5 (eg kk n) YM (IV n) ir iq (∀(x:Unit),True->E6 53 z zn (nv/\Q pd [] 0 z zn)))):FnT prog gS z f213 [tb kk n n,YM,iv n,jg] z [] 0 zn Q:=K1t hyp (tA 1 (Tr.lp 0 53 [] [] (qO (tb kk n n) n 1) [] 0 z zn (Al.cons Unit Yc (S7 z zn) (W3 z zn) Al.nil)))
theorem jiz(z:T aa)(zn:Nat)(Q:QF)(hyp:tD/\aj prog Us 0 53 (qO an 0 1) [] 0 z zn (ZN z zn)/\E6 53 z zn (R5 Y5 YM YM ir iq (∀(x:Unit),True->E6 53 z zn (nv/\Q pd [] 0 z zn)))):FnT prog gS z f213 [an,YM,iv 0,jg] z [] 0 zn Q:=K1t hyp (tA 1 (Tr.lp 0 53 [] [] (qO an 0 1) [] 0 z zn (Al.cons Unit Yc (S7 z zn) (W3 z zn) Al.nil)))
abbrev HE(i:Nat):Nat × Value:=(9,IV (i+1))
noncomputable abbrev ZM:Code:=ah (ag f218) 0
theorem jq1(z:T aa)(zn kk n i:Nat)(kb:aV)(x y:ae)(Q:QL)(hyp:Br (decide ((↑(i+1):Int)<(↑n:Int))) (Rf (↑(i+1):Int)/\i+1<n/\fH kk/\fR z kk kb/\ai prog kb 125 (0+(i+1)*4)=some (O6 y)/\WQ1 ((↑(i+1):Int) - 1)/\(↑(i+1):Int) - 1=(↑i:Int)/\i<n/\fH kk/\fR z kk kb/\F5 kb i x/\Rf z/\YBK y x/\Value.bool (decide (sF y.fz1 y.aB y.aK x.fz1 x.aB x.aK<0))=F0/\ZV (IntKind.i64.wrap ((↑(i+1):Int)+1))=IV (i+1+1)/\E6 141 z zn (R6 (eg kk n) YM (IV n) ir (IV (i+1+1)) YM (Q aN [(0,eg kk n),(1,YM),(2,IV n),(3,ir),(9,IV (i+1+1)),(10,YM)] [] 0 z zn))) (E6 141 z zn (R6 (eg kk n) YM (IV n) ir (IV (i+1)) YM (Q iy [(0,eg kk n),(1,YM),(2,IV n),(3,ir),HE i,(10,YM)] [] 0 z zn)))):RdT prog gS z (ah ZM 0) 141 (ke kk n (i+1) 0) z [] 0 zn 0 Q:=K1t hyp ((tA 4 (tO (An.idx (i+1)) (tA 1 (tO (An.ld kk kb (AG y.row)) (tA 3 (tO (An.val (ZV ((↑(i+1):Int) - 1))) (tA 1 (tO (bS i) (tA 1 (tO (An.ld kk kb (AG x.row)) (tA 1 (tO (YBO y x) (tA 1 (tO kx (tA 3 (tO (An.val (IV (i+1+1))) (tE [] [] [(0,eg kk n),(1,YM),(2,IV n),(3,ir),(9,IV (i+1+1)),(10,YM)] [] 0 z zn))))))))))))))))).fork (tA 15 (tE [] [] [(0,eg kk n),(1,YM),(2,IV n),(3,ir),HE i,(10,YM)] [] 0 z zn)))
theorem jq0(z:T aa)(zn kk n:Nat)(Q:QL)(hyp:tD/\aj prog (ah ZM 0) 0 141 (ke kk n 1 0) [] 0 z zn (alt True (aA.mk iy (ke kk n n 0) [] 0 z zn) Al.nil).R/\E6 141 z zn (R6 (eg kk n) YM (IV n) ir iq YM (∀(x:Unit),True->Value.bool ((↑n:Int)==(↑n:Int))=T1/\E6 141 z zn (YA/\Q af.ret [(8,T1)] [] 0 z zn)))):RdT prog gS z ZM 141 (ke kk n 1 0) z [] 0 zn 0 Q:=K1t hyp (tA 2 (Tr.lp 0 141 [] [] (ke kk n 1 0) [] 0 z zn (Al.cons Unit Yc (fun(x:Unit)=>aA.mk iy (ke kk n n 0) [] 0 z zn) (fun(x:Unit)=>tO kI (tA 1 (tE [] [] [(8,T1)] [] 0 z zn))) Al.nil)))
noncomputable abbrev S6(z:T aa)(zn:Nat):Unit->Tr:=fun(x:Unit)=>Yn z zn
theorem jq(z:T aa)(zn kk n:Nat)(Q:QF)(hyp:tD/\aj prog ZM 0 141 (ke kk n 1 0) [] 0 z zn (alt True (aA.mk af.ret [(8,T1)] [] 0 z zn) Al.nil).R/\E6 141 z zn (R6 (eg kk n) YM (IV n) ir iq YM (∀(x:Unit),True->E6 141 z zn (YA/\Q T1 [] 0 z zn)))):FnT prog gS z f218 [tb kk n n,YM,iv n,jg] z [] 0 zn Q:=K1t hyp (tA 1 (Tr.lp 0 141 [] [] (ke kk n 1 0) [] 0 z zn (Al.cons Unit Yc (fun(x:Unit)=>aA.mk af.ret [(8,T1)] [] 0 z zn) (S6 z zn) Al.nil)))
abbrev O5(kk n:Nat):List Value:=[eg kk n,YM,IV n,ir]
abbrev nq:Unit->Value:=fun(x:Unit)=>pd
abbrev gf:Unit->Value:=fun(x:Unit)=>T1
noncomputable abbrev ZL:Code:=ah (ag f187) 0
theorem jp0(z:T aa)(zn kk n l p:Nat)(Q:QL)(hyp:WQ1 ((↑n:Int) - 0)/\Br (decide ((↑n:Int) - 0<=12)) (aF prog z zn 213 (O5 kk n) [] 0 0 Yc nq Ye/\Rs (O5 kk n)/\ ∀(x:Unit),True->nv/\E6 148 z zn (Q af.ret [] [] 0 z zn)) (Value.bool ((↑l:Int)==0)=F0/\aF prog z zn 216 (O5 kk n) [] 0 1 Yc (fun(x:Unit)=>TP [iv p,iq]) Ye/\Rs (O5 kk n)/\ ∀(x:Unit),True->Rs (TP [IV p,iq])/\aF prog z zn 218 (O5 kk n) [] 0 0 Yc gf Ye/\Rs (O5 kk n)/\ ∀(x:Unit),True->YA/\E6 148 z zn (Q af.ret [] [] 0 z zn))):RdT prog gS z ZL 148 (vN (tb kk n n) n l) z [] 0 zn 0 Q:=K1t hyp (tO (An.val (ZV ((↑n:Int) - 0))) ((tA 1 (Tr.cm (Cm.mk (O5 kk n) [] 0 0 [] [] 0) Unit Yc nq Ye nq Ye (Yl z) (Ym zn) fun(x:Unit)=>tE [] [] [] [] 0 z zn)).fork (tA 1 (tO kx (tA 2 (Tr.cm (Cm.mk (O5 kk n) [] 0 1 [] YC 1) Unit Yc (fun(x:Unit)=>TP [iv p,iq]) Ye (fun(x:Unit)=>TP [IV p,iq]) Ye (Yl z) (Ym zn) fun(x:Unit)=>tA 9 (Tr.cm (Cm.mk (O5 kk n) [] 0 0 [] [] 1) Unit Yc gf Ye gf Ye (Yl z) (Ym zn) fun(x:Unit)=>S8 z zn)))))))
theorem aaR(z:T aa)(zn l:Nat)(Q:QL)(hyp:aF prog z zn 213 [Y5,YM,YM,ir] [] 0 0 Yc nq Ye/\Rs [Y5,YM,YM,ir]/\ ∀(x:Unit),True->nv/\E6 148 z zn (Q af.ret [] [] 0 z zn)):RdT prog gS z ZL 148 (vN an 0 l) z [] 0 zn 0 Q:=K1t hyp (tA 3 (Tr.cm (Cm.mk [Y5,YM,YM,ir] [] 0 0 [] [] 0) Unit Yc nq Ye nq Ye (Yl z) (Ym zn) fun(x:Unit)=>tE [] [] [] [] 0 z zn))
noncomputable abbrev YBs(z:T aa)(zn:Nat):Al:=Al.cons Unit Yc (fun(x:Unit)=>aA.mk af.ret [] [] 0 z zn) (W3 z zn) Al.nil
theorem jp(z:T aa)(zn n l kk:Nat)(Q:QF)(hyp:tD/\aj prog ZL 0 148 (vN (tb kk n n) n l) [] 0 z zn (alt True (aA.mk af.ret [] [] 0 z zn) Al.nil).R/\E6 148 z zn (R7 (eg kk n) YM (IV n) (IV l) ir T1 T1 (∀(x:Unit),True->E6 148 z zn (nv/\Q pd [] 0 z zn)))):FnT prog gS z f187 [tb kk n n,YM,iv n,iv l,jg] z [] 0 zn Q:=K1t hyp (Tr.lp 0 148 [] [] (vN (tb kk n n) n l) [] 0 z zn (YBs z zn))
theorem jpz(z:T aa)(zn l:Nat)(Q:QF)(hyp:tD/\aj prog ZL 0 148 (vN an 0 l) [] 0 z zn (alt True (aA.mk af.ret [] [] 0 z zn) Al.nil).R/\E6 148 z zn (R7 Y5 YM YM (IV l) ir T1 T1 (∀(x:Unit),True->E6 148 z zn (nv/\Q pd [] 0 z zn)))):FnT prog gS z f187 [an,YM,iv 0,iv l,jg] z [] 0 zn Q:=K1t hyp (Tr.lp 0 148 [] [] (vN an 0 l) [] 0 z zn (YBs z zn))
abbrev YBt(n:Nat):List Value:=[Value.int IntKind.u64 (IntKind.u64.wrap (↑n:Int))]
abbrev Mk(l:Nat):Unit->Value:=fun(x:Unit)=>iv l
abbrev W2(l:Nat):Unit->Value:=fun(x:Unit)=>IV l
theorem js(z:T aa)(zn kk n l:Nat)(Q:QF)(hyp:aF prog z zn 188 (YBt n) [] 0 0 Yc (Mk l) Ye/\Rs (YBt n)/\ ∀(x:Unit),True->Rs (IV l)/\aF prog z zn 187 [eg kk n,YM,IV n,IV l,ir] [] 0 0 Yc nq Ye/\Rs [eg kk n,YM,IV n,IV l,ir]/\ ∀(x:Unit),True->nv/\E6 14 z zn (nv/\Q pd [] 0 z zn)):FnT prog gS z f152 [tb kk n n,jg] z [] 0 zn Q:=K1t hyp (Tr.cm (Cm.mk (YBt n) [] 0 0 [] [] 0) Unit Yc (Mk l) Ye (W2 l) Ye (Yl z) (Ym zn) fun(x:Unit)=>Tr.cm (Cm.mk [eg kk n,YM,IV n,IV l,ir] [] 0 0 [] [] 0) Unit Yc nq Ye nq Ye (Yl z) (Ym zn) (W3 z zn))
abbrev YBw:List Value:=[Value.int IntKind.u64 0]
theorem jsz(z:T aa)(zn l:Nat)(Q:QF)(hyp:aF prog z zn 188 YBw [] 0 0 Yc (Mk l) Ye/\Rs YBw/\ ∀(x:Unit),True->Rs (IV l)/\aF prog z zn 187 [Y5,YM,YM,IV l,ir] [] 0 0 Yc nq Ye/\Rs [Y5,YM,YM,IV l,ir]/\ ∀(x:Unit),True->nv/\E6 14 z zn (nv/\Q pd [] 0 z zn)):FnT prog gS z f152 [an,jg] z [] 0 zn Q:=K1t hyp (Tr.cm (Cm.mk YBw [] 0 0 [] [] 0) Unit Yc (Mk l) Ye (W2 l) Ye (Yl z) (Ym zn) fun(x:Unit)=>Tr.cm (Cm.mk [Y5,YM,YM,IV l,ir] [] 0 0 [] [] 0) Unit Yc nq Ye nq Ye (Yl z) (Ym zn) (W3 z zn))
end
noncomputable section
abbrev uG:Unit->Value:=fun(x:Unit)=>F0
abbrev w5:Prop:=Rs YM
noncomputable abbrev Ij(z:T aa)(zn:Nat):Tr:=tR [] [] YM [] 0 z zn
theorem aaV(z:T aa)(zn:Nat)(a b:Int)(Q:QF)(hyp:aF prog z zn 189 [ZV a] [] 0 0 Yc uG Ye/\Rs [ZV a]/\ ∀(x:Unit),True->YQ/\aF prog z zn 189 [ZV b] [] 0 0 Yc uG Ye/\Rs [ZV b]/\ ∀(x:Unit),True->YQ/\Br (decide (a<b)) (E6 20 z zn (Rs (J 0)/\Q (J 0) [] 0 z zn)) (Br (decide (a>b)) (E6 20 z zn (Rs iq/\Q iq [] 0 z zn)) (E6 20 z zn (w5/\Q YM [] 0 z zn)))):FnT prog Yi z f155 [zv a,zv b] z [] 0 zn Q:=K1t hyp (Tr.cm (Cm.mk [ZV a] [] 0 0 [] [] 0) Unit Yc uG Ye uG Ye (Yl z) (Ym zn) fun(x:Unit)=>Tr.cm (Cm.mk [ZV b] [] 0 0 [] [] 0) Unit Yc uG Ye uG Ye (Yl z) (Ym zn) fun(x:Unit)=>tA 2 ((tA 1 (tR [] [] (J 0) [] 0 z zn)).fork (tA 1 ((tA 1 (tR [] [] iq [] 0 z zn)).fork (tA 1 (Ij z zn))))))
theorem aaT(z:T aa)(zn:Nat)(a:Int)(Q:QF)(hyp:Br (a !=a) (E6 6 z zn (YA/\Q T1 [] 0 z zn)) (E6 6 z zn (YQ/\Q F0 [] 0 z zn))):FnT prog Yi z f189 [zv a] z [] 0 zn Q:=K1t hyp ((Yn z zn).fork (Yo z zn))
abbrev Mm:Prop:=Rf 510
abbrev Ml(z:T aa)(kb:aV):Prop:=z.get 0=rM kb
abbrev px(kb:aV)(i:Nat)(x:Int):Prop:=ai prog kb 3 (0+i*1)=some (ZV x)
abbrev xw(x:Int):Prop:=Rs (ZV x)
theorem aaS(z:T aa)(zn i:Nat)(kb:aV)(x r:Int)(Q:QL)(hyp:Br (decide ((↑i:Int)<3)) (cG i/\i<3/\Mm/\Ml z kb/\px kb i x/\Br (x !=0) (E6 18 z zn (xw x/\Q af.ret [(2,ZV x)] [] 0 z zn)) (ZV (IntKind.i64.wrap ((↑i:Int)+1))=IV (i+1)/\E6 18 z zn (R4 YM (SL 510 3 3) (I 3) (IV (i+1)) (Q aN [(3,YM),(6,SL 510 3 3),(7,I 3),C4 i] [] 0 z zn)))) (E6 18 z zn (w5/\Q YO [(3,YM)] [] 0 z zn))):RdT prog Yi z (ah (ag f154) 0) 18 (Gw i) z [] 0 zn 0 Q:=K1t hyp ((tA 1 (tO (bS i) (tO (An.ld 0 kb (zv x)) ((tA 1 (tE [] [] [(2,ZV x)] [] 0 z zn)).fork (tA 1 (tO (dI i) (tE [] [] [(3,YM),(6,SL 510 3 3),(7,I 3),C4 i] [] 0 z zn))))))).fork (tA 1 (tE [] [] [(3,YM)] [] 0 z zn)))
abbrev Ta(r:Int):Unit->Prop:=fun(x:Unit)=>r≠0
abbrev Uu(r:Int):Unit->Prop:=fun(x:Unit)=>r=0
theorem jor(z:T aa)(zn:Nat)(r:Int)(Q:QF)(hyp:tD/\aj prog (ah (ag f154) 0) 0 18 (Gw 0) [] 0 z zn (alt (r≠0) (aA.mk af.ret [(2,zv r)] [] 0 z zn) (alt (r=0) (aA.mk YO [(3,YM)] [] 0 z zn) Al.nil)).R/\E6 18 z zn (R4 YM (SL 510 3 3) (I 3) YM ((∀(x:Unit),r≠0->E6 18 z zn (xw r/\Q (ZV r) [] 0 z zn))/\ ∀(x:Unit),r=0->E6 18 z zn (w5/\Q YM [] 0 z zn)))):FnT prog Yi z f154 [tb 0 3 3] z [] 0 zn Q:=K1t hyp (Tr.lp 0 18 [] [] (Gw 0) [] 0 z zn (Al.cons Unit (Ta r) (fun(x:Unit)=>aA.mk af.ret [(2,zv r)] [] 0 z zn) (fun(x:Unit)=>tR [] [] (ZV r) [] 0 z zn) (Al.cons Unit (Uu r) (fun(x:Unit)=>aA.mk YO [(3,YM)] [] 0 z zn) (fun(x:Unit)=>Ij z zn) Al.nil)))
end
noncomputable section
noncomputable abbrev W4(z:T aa)(zn:Nat):Tr:=(tA 3 ((tA 1 (Yn z zn)).fork (tA 1 (Yo z zn)))).fork (tA 4 (Yo z zn))
theorem gwi(z:T aa)(zn:Nat)(a b:Int)(Q:QF)(hyp:Br (decide (a>=0)) (Br (decide (a<b)) (E6 12 z zn (YA/\Q T1 [] 0 z zn)) (E6 12 z zn (YQ/\Q F0 [] 0 z zn))) (E6 12 z zn (YQ/\Q F0 [] 0 z zn))):FnT prog Yi z f80 [zv a,zv b] z [] 0 zn Q:=K1t hyp (W4 z zn)
theorem gin(z:T aa)(zn:Nat)(n a b:Int)(Q:QF)(hyp:Br (decide (n>=a)) (Br (decide (n<=b)) (E6 15 z zn (YA/\Q T1 [] 0 z zn)) (E6 15 z zn (YQ/\Q F0 [] 0 z zn))) (E6 15 z zn (YQ/\Q F0 [] 0 z zn))):FnT prog Yi z f119 [zv n,zv a,zv b] z [] 0 zn Q:=K1t hyp (W4 z zn)
theorem gpw(z:T aa)(zn:Nat)(n a b:Int)(Q:QF)(hyp:Br (decide (n>=a)) (Br (decide (n<=b)) (E6 15 z zn (YA/\Q T1 [] 0 z zn)) (E6 15 z zn (YQ/\Q F0 [] 0 z zn))) (E6 15 z zn (YQ/\Q F0 [] 0 z zn))):FnT prog Yi z f82 [zv n,zv a,zv b] z [] 0 zn Q:=K1t hyp (W4 z zn)
theorem gkn(z:T aa)(zn:Nat)(n:Int)(Q:QF)(hyp:Br (decide (n>=0)) (Br (decide (n<8)) (E6 9 z zn (YA/\Q T1 [] 0 z zn)) (E6 9 z zn (YQ/\Q F0 [] 0 z zn))) (E6 9 z zn (YQ/\Q F0 [] 0 z zn))):FnT prog Yi z f78 [zv n] z [] 0 zn Q:=K1t hyp ((tA 2 ((tA 1 (Yn z zn)).fork (tA 1 (Yo z zn)))).fork (tA 3 (Yo z zn)))
abbrev wP(a b c:Int):Value:=AG [ZV a,ZV b,ZV c]
theorem gof(z:T aa)(zn:Nat)(a b c:Int)(Q:QF)(hyp:E6 11 z zn (Rs (wP a b c)/\Q (wP a b c) [] 0 z zn)):FnT prog Yi z f45 [zv a,zv b,zv c] z [] 0 zn Q:=K1t hyp (tA 1 (tR [] [] (wP a b c) [] 0 z zn))
end
end Go.Proofs.Nw
namespace Go.Proofs.Nw
open Go.RowKit Tryz
set_option maxRecDepth 1000000
theorem Fs(s:ByteArray)(k:Nat)(h:k<s.size):(s.data.toList.drop k).all mZ=(mZ (s[k]'h) && (s.data.toList.drop (k+1)).all mZ):=by
 have e:s.data.toList.drop k=(s[k]'h)::s.data.toList.drop (k+1):=by rw[List.drop_eq_getElem_cons (by simpa using h)];rfl
 rw[e];rfl
theorem JW(s:ByteArray)(k:Nat)(h:s.size<=k):(s.data.toList.drop k).all mZ=true:=by
 rw[List.drop_of_length_le (by simpa using h)];rfl
theorem fU(c:UInt8):mZ c=true↔((97<=c.toNat/\c.toNat<=122)\/(65<=c.toNat/\c.toNat<=90)\/(48<=c.toNat/\c.toNat<=57)\/c.toNat=45\/c.toNat=95\/c.toNat=46):=by
 simp[mZ,or_assoc]
theorem dy(c:UInt8):mZ c=false↔ ¬((97<=c.toNat/\c.toNat<=122)\/(65<=c.toNat/\c.toNat<=90)\/(48<=c.toNat/\c.toNat<=57)\/c.toNat=45\/c.toNat=95\/c.toNat=46):=by
 rw[←fU];simp
set_option maxHeartbeats 8000000 in
theorem Qs(s:ByteArray)(w:World)(hs:s.size<=9223372036854775807):Calls prog 77 #[.string s] w fun e w'=>e= .returned (.bool (bW s))/\w=w':=by
 go_enter func77,ntmps77
 go_wp2
 go_loop [3] (fun i=> ∃k:Nat,k<=s.size/\i= .int .i64 k/\(s.data.toList.drop k).all mZ=s.data.toList.all mZ) (fun i=>s.size - (intOf i).toNat)
 case atStart=>exact⟨0,Nat.zero_le _,rfl,rfl⟩
 case round=>
  obtain⟨k,hk,rfl,hv⟩:=hrel
  have HV:=Lib.hid hv
  clear hv
  by_cases hlt:k<s.size
  ·have HD:=Lib.hid (Fs s k hlt)
   have hb:(s[k]'hlt).toNat<256:=(s[k]'hlt).toNat_lt
   have hcat:(0<=(s[k]'hlt).toNat/\(s[k]'hlt).toNat<=44)\/(45<=(s[k]'hlt).toNat/\(s[k]'hlt).toNat<=45)\/(46<=(s[k]'hlt).toNat/\(s[k]'hlt).toNat<=46)\/(47<=(s[k]'hlt).toNat/\(s[k]'hlt).toNat<=47)\/(48<=(s[k]'hlt).toNat/\(s[k]'hlt).toNat<=57)\/(58<=(s[k]'hlt).toNat/\(s[k]'hlt).toNat<=64)\/(65<=(s[k]'hlt).toNat/\(s[k]'hlt).toNat<=90)\/(91<=(s[k]'hlt).toNat/\(s[k]'hlt).toNat<=94)\/(95<=(s[k]'hlt).toNat/\(s[k]'hlt).toNat<=95)\/(96<=(s[k]'hlt).toNat/\(s[k]'hlt).toNat<=96)\/(97<=(s[k]'hlt).toNat/\(s[k]'hlt).toNat<=122)\/(123<=(s[k]'hlt).toNat/\(s[k]'hlt).toNat<=255):=by omega
   rcases hcat with hcat|hcat|hcat|hcat|hcat|hcat|hcat|hcat|hcat|hcat|hcat|hcat
   ·have x0: ¬97<=(s[k]'hlt).toNat:=by omega
    have y0: ¬(97:Int)<=(((s[k]'hlt).toNat:Nat):Int):=by omega
    have x1: ¬65<=(s[k]'hlt).toNat:=by omega
    have y1: ¬(65:Int)<=(((s[k]'hlt).toNat:Nat):Int):=by omega
    have x2: ¬48<=(s[k]'hlt).toNat:=by omega
    have y2: ¬(48:Int)<=(((s[k]'hlt).toNat:Nat):Int):=by omega
    have e45: ¬(s[k]'hlt).toNat=45:=by omega
    have f45: ¬(((s[k]'hlt).toNat:Nat):Int)=45:=by omega
    have e95: ¬(s[k]'hlt).toNat=95:=by omega
    have f95: ¬(((s[k]'hlt).toNat:Nat):Int)=95:=by omega
    have e46: ¬(s[k]'hlt).toNat=46:=by omega
    have f46: ¬(((s[k]'hlt).toNat:Nat):Int)=46:=by omega
    have OK:=Lib.hid (show mZ (s[k]'hlt)=false by rw[dy];omega)
    have HR:=Lib.hid (show bW s=false by unfold bW;rw[←HV.out,HD.out,OK.out];simp)
    go_wp2
    go_ret
    exact⟨by rw[HR.out];rfl,rfl⟩
   ·have x0: ¬97<=(s[k]'hlt).toNat:=by omega
    have y0: ¬(97:Int)<=(((s[k]'hlt).toNat:Nat):Int):=by omega
    have x1: ¬65<=(s[k]'hlt).toNat:=by omega
    have y1: ¬(65:Int)<=(((s[k]'hlt).toNat:Nat):Int):=by omega
    have x2: ¬48<=(s[k]'hlt).toNat:=by omega
    have y2: ¬(48:Int)<=(((s[k]'hlt).toNat:Nat):Int):=by omega
    have e45:(s[k]'hlt).toNat=45:=by omega
    have f45:(((s[k]'hlt).toNat:Nat):Int)=45:=by omega
    have e95: ¬(s[k]'hlt).toNat=95:=by omega
    have f95: ¬(((s[k]'hlt).toNat:Nat):Int)=95:=by omega
    have e46: ¬(s[k]'hlt).toNat=46:=by omega
    have f46: ¬(((s[k]'hlt).toNat:Nat):Int)=46:=by omega
    have OK:=Lib.hid (show mZ (s[k]'hlt)=true by rw[fU];omega)
    go_wp2
    exact⟨⟨k+1,by omega,by simp,by rw[←HV.out,HD.out,OK.out,Bool.true_and]⟩,by simp[intOf];omega⟩
   ·have x0: ¬97<=(s[k]'hlt).toNat:=by omega
    have y0: ¬(97:Int)<=(((s[k]'hlt).toNat:Nat):Int):=by omega
    have x1: ¬65<=(s[k]'hlt).toNat:=by omega
    have y1: ¬(65:Int)<=(((s[k]'hlt).toNat:Nat):Int):=by omega
    have x2: ¬48<=(s[k]'hlt).toNat:=by omega
    have y2: ¬(48:Int)<=(((s[k]'hlt).toNat:Nat):Int):=by omega
    have e45: ¬(s[k]'hlt).toNat=45:=by omega
    have f45: ¬(((s[k]'hlt).toNat:Nat):Int)=45:=by omega
    have e95: ¬(s[k]'hlt).toNat=95:=by omega
    have f95: ¬(((s[k]'hlt).toNat:Nat):Int)=95:=by omega
    have e46:(s[k]'hlt).toNat=46:=by omega
    have f46:(((s[k]'hlt).toNat:Nat):Int)=46:=by omega
    have OK:=Lib.hid (show mZ (s[k]'hlt)=true by rw[fU];omega)
    go_wp2
    exact⟨⟨k+1,by omega,by simp,by rw[←HV.out,HD.out,OK.out,Bool.true_and]⟩,by simp[intOf];omega⟩
   ·have x0: ¬97<=(s[k]'hlt).toNat:=by omega
    have y0: ¬(97:Int)<=(((s[k]'hlt).toNat:Nat):Int):=by omega
    have x1: ¬65<=(s[k]'hlt).toNat:=by omega
    have y1: ¬(65:Int)<=(((s[k]'hlt).toNat:Nat):Int):=by omega
    have x2: ¬48<=(s[k]'hlt).toNat:=by omega
    have y2: ¬(48:Int)<=(((s[k]'hlt).toNat:Nat):Int):=by omega
    have e45: ¬(s[k]'hlt).toNat=45:=by omega
    have f45: ¬(((s[k]'hlt).toNat:Nat):Int)=45:=by omega
    have e95: ¬(s[k]'hlt).toNat=95:=by omega
    have f95: ¬(((s[k]'hlt).toNat:Nat):Int)=95:=by omega
    have e46: ¬(s[k]'hlt).toNat=46:=by omega
    have f46: ¬(((s[k]'hlt).toNat:Nat):Int)=46:=by omega
    have OK:=Lib.hid (show mZ (s[k]'hlt)=false by rw[dy];omega)
    have HR:=Lib.hid (show bW s=false by unfold bW;rw[←HV.out,HD.out,OK.out];simp)
    go_wp2
    go_ret
    exact⟨by rw[HR.out];rfl,rfl⟩
   ·have x0: ¬97<=(s[k]'hlt).toNat:=by omega
    have y0: ¬(97:Int)<=(((s[k]'hlt).toNat:Nat):Int):=by omega
    have x1: ¬65<=(s[k]'hlt).toNat:=by omega
    have y1: ¬(65:Int)<=(((s[k]'hlt).toNat:Nat):Int):=by omega
    have x2:48<=(s[k]'hlt).toNat:=by omega
    have y2:(48:Int)<=(((s[k]'hlt).toNat:Nat):Int):=by omega
    have x3:(s[k]'hlt).toNat<=57:=by omega
    have y3:(((s[k]'hlt).toNat:Nat):Int)<=(57:Int):=by omega
    have OK:=Lib.hid (show mZ (s[k]'hlt)=true by rw[fU];omega)
    go_wp2
    exact⟨⟨k+1,by omega,by simp,by rw[←HV.out,HD.out,OK.out,Bool.true_and]⟩,by simp[intOf];omega⟩
   ·have x0: ¬97<=(s[k]'hlt).toNat:=by omega
    have y0: ¬(97:Int)<=(((s[k]'hlt).toNat:Nat):Int):=by omega
    have x1: ¬65<=(s[k]'hlt).toNat:=by omega
    have y1: ¬(65:Int)<=(((s[k]'hlt).toNat:Nat):Int):=by omega
    have x2:48<=(s[k]'hlt).toNat:=by omega
    have y2:(48:Int)<=(((s[k]'hlt).toNat:Nat):Int):=by omega
    have x3: ¬(s[k]'hlt).toNat<=57:=by omega
    have y3: ¬(((s[k]'hlt).toNat:Nat):Int)<=(57:Int):=by omega
    have e45: ¬(s[k]'hlt).toNat=45:=by omega
    have f45: ¬(((s[k]'hlt).toNat:Nat):Int)=45:=by omega
    have e95: ¬(s[k]'hlt).toNat=95:=by omega
    have f95: ¬(((s[k]'hlt).toNat:Nat):Int)=95:=by omega
    have e46: ¬(s[k]'hlt).toNat=46:=by omega
    have f46: ¬(((s[k]'hlt).toNat:Nat):Int)=46:=by omega
    have OK:=Lib.hid (show mZ (s[k]'hlt)=false by rw[dy];omega)
    have HR:=Lib.hid (show bW s=false by unfold bW;rw[←HV.out,HD.out,OK.out];simp)
    go_wp2
    go_ret
    exact⟨by rw[HR.out];rfl,rfl⟩
   ·have x0: ¬97<=(s[k]'hlt).toNat:=by omega
    have y0: ¬(97:Int)<=(((s[k]'hlt).toNat:Nat):Int):=by omega
    have x1:65<=(s[k]'hlt).toNat:=by omega
    have y1:(65:Int)<=(((s[k]'hlt).toNat:Nat):Int):=by omega
    have x2:(s[k]'hlt).toNat<=90:=by omega
    have y2:(((s[k]'hlt).toNat:Nat):Int)<=(90:Int):=by omega
    have OK:=Lib.hid (show mZ (s[k]'hlt)=true by rw[fU];omega)
    go_wp2
    exact⟨⟨k+1,by omega,by simp,by rw[←HV.out,HD.out,OK.out,Bool.true_and]⟩,by simp[intOf];omega⟩
   ·have x0: ¬97<=(s[k]'hlt).toNat:=by omega
    have y0: ¬(97:Int)<=(((s[k]'hlt).toNat:Nat):Int):=by omega
    have x1:65<=(s[k]'hlt).toNat:=by omega
    have y1:(65:Int)<=(((s[k]'hlt).toNat:Nat):Int):=by omega
    have x2: ¬(s[k]'hlt).toNat<=90:=by omega
    have y2: ¬(((s[k]'hlt).toNat:Nat):Int)<=(90:Int):=by omega
    have x3:48<=(s[k]'hlt).toNat:=by omega
    have y3:(48:Int)<=(((s[k]'hlt).toNat:Nat):Int):=by omega
    have x4: ¬(s[k]'hlt).toNat<=57:=by omega
    have y4: ¬(((s[k]'hlt).toNat:Nat):Int)<=(57:Int):=by omega
    have e45: ¬(s[k]'hlt).toNat=45:=by omega
    have f45: ¬(((s[k]'hlt).toNat:Nat):Int)=45:=by omega
    have e95: ¬(s[k]'hlt).toNat=95:=by omega
    have f95: ¬(((s[k]'hlt).toNat:Nat):Int)=95:=by omega
    have e46: ¬(s[k]'hlt).toNat=46:=by omega
    have f46: ¬(((s[k]'hlt).toNat:Nat):Int)=46:=by omega
    have OK:=Lib.hid (show mZ (s[k]'hlt)=false by rw[dy];omega)
    have HR:=Lib.hid (show bW s=false by unfold bW;rw[←HV.out,HD.out,OK.out];simp)
    go_wp2
    go_ret
    exact⟨by rw[HR.out];rfl,rfl⟩
   ·have x0: ¬97<=(s[k]'hlt).toNat:=by omega
    have y0: ¬(97:Int)<=(((s[k]'hlt).toNat:Nat):Int):=by omega
    have x1:65<=(s[k]'hlt).toNat:=by omega
    have y1:(65:Int)<=(((s[k]'hlt).toNat:Nat):Int):=by omega
    have x2: ¬(s[k]'hlt).toNat<=90:=by omega
    have y2: ¬(((s[k]'hlt).toNat:Nat):Int)<=(90:Int):=by omega
    have x3:48<=(s[k]'hlt).toNat:=by omega
    have y3:(48:Int)<=(((s[k]'hlt).toNat:Nat):Int):=by omega
    have x4: ¬(s[k]'hlt).toNat<=57:=by omega
    have y4: ¬(((s[k]'hlt).toNat:Nat):Int)<=(57:Int):=by omega
    have e45: ¬(s[k]'hlt).toNat=45:=by omega
    have f45: ¬(((s[k]'hlt).toNat:Nat):Int)=45:=by omega
    have e95:(s[k]'hlt).toNat=95:=by omega
    have f95:(((s[k]'hlt).toNat:Nat):Int)=95:=by omega
    have e46: ¬(s[k]'hlt).toNat=46:=by omega
    have f46: ¬(((s[k]'hlt).toNat:Nat):Int)=46:=by omega
    have OK:=Lib.hid (show mZ (s[k]'hlt)=true by rw[fU];omega)
    go_wp2
    exact⟨⟨k+1,by omega,by simp,by rw[←HV.out,HD.out,OK.out,Bool.true_and]⟩,by simp[intOf];omega⟩
   ·have x0: ¬97<=(s[k]'hlt).toNat:=by omega
    have y0: ¬(97:Int)<=(((s[k]'hlt).toNat:Nat):Int):=by omega
    have x1:65<=(s[k]'hlt).toNat:=by omega
    have y1:(65:Int)<=(((s[k]'hlt).toNat:Nat):Int):=by omega
    have x2: ¬(s[k]'hlt).toNat<=90:=by omega
    have y2: ¬(((s[k]'hlt).toNat:Nat):Int)<=(90:Int):=by omega
    have x3:48<=(s[k]'hlt).toNat:=by omega
    have y3:(48:Int)<=(((s[k]'hlt).toNat:Nat):Int):=by omega
    have x4: ¬(s[k]'hlt).toNat<=57:=by omega
    have y4: ¬(((s[k]'hlt).toNat:Nat):Int)<=(57:Int):=by omega
    have e45: ¬(s[k]'hlt).toNat=45:=by omega
    have f45: ¬(((s[k]'hlt).toNat:Nat):Int)=45:=by omega
    have e95: ¬(s[k]'hlt).toNat=95:=by omega
    have f95: ¬(((s[k]'hlt).toNat:Nat):Int)=95:=by omega
    have e46: ¬(s[k]'hlt).toNat=46:=by omega
    have f46: ¬(((s[k]'hlt).toNat:Nat):Int)=46:=by omega
    have OK:=Lib.hid (show mZ (s[k]'hlt)=false by rw[dy];omega)
    have HR:=Lib.hid (show bW s=false by unfold bW;rw[←HV.out,HD.out,OK.out];simp)
    go_wp2
    go_ret
    exact⟨by rw[HR.out];rfl,rfl⟩
   ·have x0:97<=(s[k]'hlt).toNat:=by omega
    have y0:(97:Int)<=(((s[k]'hlt).toNat:Nat):Int):=by omega
    have x1:(s[k]'hlt).toNat<=122:=by omega
    have y1:(((s[k]'hlt).toNat:Nat):Int)<=(122:Int):=by omega
    have OK:=Lib.hid (show mZ (s[k]'hlt)=true by rw[fU];omega)
    go_wp2
    exact⟨⟨k+1,by omega,by simp,by rw[←HV.out,HD.out,OK.out,Bool.true_and]⟩,by simp[intOf];omega⟩
   ·have x0:97<=(s[k]'hlt).toNat:=by omega
    have y0:(97:Int)<=(((s[k]'hlt).toNat:Nat):Int):=by omega
    have x1: ¬(s[k]'hlt).toNat<=122:=by omega
    have y1: ¬(((s[k]'hlt).toNat:Nat):Int)<=(122:Int):=by omega
    have x2:65<=(s[k]'hlt).toNat:=by omega
    have y2:(65:Int)<=(((s[k]'hlt).toNat:Nat):Int):=by omega
    have x3: ¬(s[k]'hlt).toNat<=90:=by omega
    have y3: ¬(((s[k]'hlt).toNat:Nat):Int)<=(90:Int):=by omega
    have x4:48<=(s[k]'hlt).toNat:=by omega
    have y4:(48:Int)<=(((s[k]'hlt).toNat:Nat):Int):=by omega
    have x5: ¬(s[k]'hlt).toNat<=57:=by omega
    have y5: ¬(((s[k]'hlt).toNat:Nat):Int)<=(57:Int):=by omega
    have e45: ¬(s[k]'hlt).toNat=45:=by omega
    have f45: ¬(((s[k]'hlt).toNat:Nat):Int)=45:=by omega
    have e95: ¬(s[k]'hlt).toNat=95:=by omega
    have f95: ¬(((s[k]'hlt).toNat:Nat):Int)=95:=by omega
    have e46: ¬(s[k]'hlt).toNat=46:=by omega
    have f46: ¬(((s[k]'hlt).toNat:Nat):Int)=46:=by omega
    have OK:=Lib.hid (show mZ (s[k]'hlt)=false by rw[dy];omega)
    have HR:=Lib.hid (show bW s=false by unfold bW;rw[←HV.out,HD.out,OK.out];simp)
    go_wp2
    go_ret
    exact⟨by rw[HR.out];rfl,rfl⟩
  ·have he:s.data.toList.all mZ=true:=by rw[←HV.out];exact JW s k (by omega)
   by_cases h0:0<s.size
   ·by_cases h1:s.size<=32
    ·have HR:=Lib.hid (show bW s=true by unfold bW;rw[he];simp[h0,h1])
     clear he
     have h0':(0:Int)<(s.size:Int):=by omega
     have h1':(s.size:Int)<=32:=by omega
     go_wp2
     go_ret
     exact⟨by rw[HR.out];rfl,rfl⟩
    ·have HR:=Lib.hid (show bW s=false by unfold bW;rw[he];simp[h0,h1])
     clear he
     have h0':(0:Int)<(s.size:Int):=by omega
     have h1': ¬(s.size:Int)<=32:=by omega
     go_wp2
     go_ret
     exact⟨by rw[HR.out];rfl,rfl⟩
   ·have HR:=Lib.hid (show bW s=false by unfold bW;rw[he];simp[h0])
    clear he
    have h0': ¬(0:Int)<(s.size:Int):=by omega
    go_wp2
    go_ret
    exact⟨by rw[HR.out];rfl,rfl⟩
set_option maxHeartbeats 8000000 in
theorem Qr(s:ByteArray)(w:World)(hs:s.size<=9223372036854775807):Calls prog 118 #[.string s] w fun e w'=>e= .returned (.bool (bW s))/\w=w':=by
 by_cases h0:0<s.size
 case neg=>
  have HR:=Lib.hid (show bW s=false by unfold bW;simp[h0])
  have h0':(s.size:Int)<1:=by omega
  go_enter func118,ntmps118
  go_wp2
  go_ret
  exact⟨by rw[HR.out];rfl,rfl⟩
 by_cases h1:s.size<=32
 case neg=>
  have HR:=Lib.hid (show bW s=false by unfold bW;simp[h1])
  have h0': ¬(s.size:Int)<1:=by omega
  have h1':(32:Int)<(s.size:Int):=by omega
  go_enter func118,ntmps118
  go_wp2
  go_ret
  exact⟨by rw[HR.out];rfl,rfl⟩
 have h0': ¬(s.size:Int)<1:=by omega
 have h1': ¬(32:Int)<(s.size:Int):=by omega
 go_enter func118,ntmps118
 go_wp2
 go_loop [3] (fun i=> ∃k:Nat,k<=s.size/\i= .int .i64 k/\(s.data.toList.drop k).all mZ=s.data.toList.all mZ) (fun i=>s.size - (intOf i).toNat)
 case atStart=>exact⟨0,Nat.zero_le _,rfl,rfl⟩
 case round=>
  obtain⟨k,hk,rfl,hv⟩:=hrel
  have HV:=Lib.hid hv
  clear hv
  by_cases hlt:k<s.size
  ·have HD:=Lib.hid (Fs s k hlt)
   have hb:(s[k]'hlt).toNat<256:=(s[k]'hlt).toNat_lt
   have hcat:(0<=(s[k]'hlt).toNat/\(s[k]'hlt).toNat<=44)\/(45<=(s[k]'hlt).toNat/\(s[k]'hlt).toNat<=45)\/(46<=(s[k]'hlt).toNat/\(s[k]'hlt).toNat<=46)\/(47<=(s[k]'hlt).toNat/\(s[k]'hlt).toNat<=47)\/(48<=(s[k]'hlt).toNat/\(s[k]'hlt).toNat<=57)\/(58<=(s[k]'hlt).toNat/\(s[k]'hlt).toNat<=64)\/(65<=(s[k]'hlt).toNat/\(s[k]'hlt).toNat<=90)\/(91<=(s[k]'hlt).toNat/\(s[k]'hlt).toNat<=94)\/(95<=(s[k]'hlt).toNat/\(s[k]'hlt).toNat<=95)\/(96<=(s[k]'hlt).toNat/\(s[k]'hlt).toNat<=96)\/(97<=(s[k]'hlt).toNat/\(s[k]'hlt).toNat<=122)\/(123<=(s[k]'hlt).toNat/\(s[k]'hlt).toNat<=255):=by omega
   rcases hcat with hcat|hcat|hcat|hcat|hcat|hcat|hcat|hcat|hcat|hcat|hcat|hcat
   ·have x0: ¬97<=(s[k]'hlt).toNat:=by omega
    have y0: ¬(97:Int)<=(((s[k]'hlt).toNat:Nat):Int):=by omega
    have x1: ¬65<=(s[k]'hlt).toNat:=by omega
    have y1: ¬(65:Int)<=(((s[k]'hlt).toNat:Nat):Int):=by omega
    have x2: ¬48<=(s[k]'hlt).toNat:=by omega
    have y2: ¬(48:Int)<=(((s[k]'hlt).toNat:Nat):Int):=by omega
    have e45: ¬(s[k]'hlt).toNat=45:=by omega
    have f45: ¬(((s[k]'hlt).toNat:Nat):Int)=45:=by omega
    have g45:((((s[k]'hlt).toNat:Nat):Int) !=45)=true:=by rw[bne_iff_ne];exact f45
    have e95: ¬(s[k]'hlt).toNat=95:=by omega
    have f95: ¬(((s[k]'hlt).toNat:Nat):Int)=95:=by omega
    have g95:((((s[k]'hlt).toNat:Nat):Int) !=95)=true:=by rw[bne_iff_ne];exact f95
    have e46: ¬(s[k]'hlt).toNat=46:=by omega
    have f46: ¬(((s[k]'hlt).toNat:Nat):Int)=46:=by omega
    have g46:((((s[k]'hlt).toNat:Nat):Int) !=46)=true:=by rw[bne_iff_ne];exact f46
    have OK:=Lib.hid (show mZ (s[k]'hlt)=false by rw[dy];omega)
    have HR:=Lib.hid (show bW s=false by unfold bW;rw[←HV.out,HD.out,OK.out];simp)
    go_wp2
    go_ret
    exact⟨by rw[HR.out];rfl,rfl⟩
   ·have x0: ¬97<=(s[k]'hlt).toNat:=by omega
    have y0: ¬(97:Int)<=(((s[k]'hlt).toNat:Nat):Int):=by omega
    have x1: ¬65<=(s[k]'hlt).toNat:=by omega
    have y1: ¬(65:Int)<=(((s[k]'hlt).toNat:Nat):Int):=by omega
    have x2: ¬48<=(s[k]'hlt).toNat:=by omega
    have y2: ¬(48:Int)<=(((s[k]'hlt).toNat:Nat):Int):=by omega
    have e45:(s[k]'hlt).toNat=45:=by omega
    have f45:(((s[k]'hlt).toNat:Nat):Int)=45:=by omega
    have g45:((((s[k]'hlt).toNat:Nat):Int) !=45)=false:=by rw[f45];rfl
    have e95: ¬(s[k]'hlt).toNat=95:=by omega
    have f95: ¬(((s[k]'hlt).toNat:Nat):Int)=95:=by omega
    have g95:((((s[k]'hlt).toNat:Nat):Int) !=95)=true:=by rw[bne_iff_ne];exact f95
    have e46: ¬(s[k]'hlt).toNat=46:=by omega
    have f46: ¬(((s[k]'hlt).toNat:Nat):Int)=46:=by omega
    have g46:((((s[k]'hlt).toNat:Nat):Int) !=46)=true:=by rw[bne_iff_ne];exact f46
    have OK:=Lib.hid (show mZ (s[k]'hlt)=true by rw[fU];omega)
    go_wp2
    exact⟨⟨k+1,by omega,by simp,by rw[←HV.out,HD.out,OK.out,Bool.true_and]⟩,by simp[intOf];omega⟩
   ·have x0: ¬97<=(s[k]'hlt).toNat:=by omega
    have y0: ¬(97:Int)<=(((s[k]'hlt).toNat:Nat):Int):=by omega
    have x1: ¬65<=(s[k]'hlt).toNat:=by omega
    have y1: ¬(65:Int)<=(((s[k]'hlt).toNat:Nat):Int):=by omega
    have x2: ¬48<=(s[k]'hlt).toNat:=by omega
    have y2: ¬(48:Int)<=(((s[k]'hlt).toNat:Nat):Int):=by omega
    have e45: ¬(s[k]'hlt).toNat=45:=by omega
    have f45: ¬(((s[k]'hlt).toNat:Nat):Int)=45:=by omega
    have g45:((((s[k]'hlt).toNat:Nat):Int) !=45)=true:=by rw[bne_iff_ne];exact f45
    have e95: ¬(s[k]'hlt).toNat=95:=by omega
    have f95: ¬(((s[k]'hlt).toNat:Nat):Int)=95:=by omega
    have g95:((((s[k]'hlt).toNat:Nat):Int) !=95)=true:=by rw[bne_iff_ne];exact f95
    have e46:(s[k]'hlt).toNat=46:=by omega
    have f46:(((s[k]'hlt).toNat:Nat):Int)=46:=by omega
    have g46:((((s[k]'hlt).toNat:Nat):Int) !=46)=false:=by rw[f46];rfl
    have OK:=Lib.hid (show mZ (s[k]'hlt)=true by rw[fU];omega)
    go_wp2
    exact⟨⟨k+1,by omega,by simp,by rw[←HV.out,HD.out,OK.out,Bool.true_and]⟩,by simp[intOf];omega⟩
   ·have x0: ¬97<=(s[k]'hlt).toNat:=by omega
    have y0: ¬(97:Int)<=(((s[k]'hlt).toNat:Nat):Int):=by omega
    have x1: ¬65<=(s[k]'hlt).toNat:=by omega
    have y1: ¬(65:Int)<=(((s[k]'hlt).toNat:Nat):Int):=by omega
    have x2: ¬48<=(s[k]'hlt).toNat:=by omega
    have y2: ¬(48:Int)<=(((s[k]'hlt).toNat:Nat):Int):=by omega
    have e45: ¬(s[k]'hlt).toNat=45:=by omega
    have f45: ¬(((s[k]'hlt).toNat:Nat):Int)=45:=by omega
    have g45:((((s[k]'hlt).toNat:Nat):Int) !=45)=true:=by rw[bne_iff_ne];exact f45
    have e95: ¬(s[k]'hlt).toNat=95:=by omega
    have f95: ¬(((s[k]'hlt).toNat:Nat):Int)=95:=by omega
    have g95:((((s[k]'hlt).toNat:Nat):Int) !=95)=true:=by rw[bne_iff_ne];exact f95
    have e46: ¬(s[k]'hlt).toNat=46:=by omega
    have f46: ¬(((s[k]'hlt).toNat:Nat):Int)=46:=by omega
    have g46:((((s[k]'hlt).toNat:Nat):Int) !=46)=true:=by rw[bne_iff_ne];exact f46
    have OK:=Lib.hid (show mZ (s[k]'hlt)=false by rw[dy];omega)
    have HR:=Lib.hid (show bW s=false by unfold bW;rw[←HV.out,HD.out,OK.out];simp)
    go_wp2
    go_ret
    exact⟨by rw[HR.out];rfl,rfl⟩
   ·have x0: ¬97<=(s[k]'hlt).toNat:=by omega
    have y0: ¬(97:Int)<=(((s[k]'hlt).toNat:Nat):Int):=by omega
    have x1: ¬65<=(s[k]'hlt).toNat:=by omega
    have y1: ¬(65:Int)<=(((s[k]'hlt).toNat:Nat):Int):=by omega
    have x2:48<=(s[k]'hlt).toNat:=by omega
    have y2:(48:Int)<=(((s[k]'hlt).toNat:Nat):Int):=by omega
    have x3:(s[k]'hlt).toNat<=57:=by omega
    have y3:(((s[k]'hlt).toNat:Nat):Int)<=(57:Int):=by omega
    have OK:=Lib.hid (show mZ (s[k]'hlt)=true by rw[fU];omega)
    go_wp2
    exact⟨⟨k+1,by omega,by simp,by rw[←HV.out,HD.out,OK.out,Bool.true_and]⟩,by simp[intOf];omega⟩
   ·have x0: ¬97<=(s[k]'hlt).toNat:=by omega
    have y0: ¬(97:Int)<=(((s[k]'hlt).toNat:Nat):Int):=by omega
    have x1: ¬65<=(s[k]'hlt).toNat:=by omega
    have y1: ¬(65:Int)<=(((s[k]'hlt).toNat:Nat):Int):=by omega
    have x2:48<=(s[k]'hlt).toNat:=by omega
    have y2:(48:Int)<=(((s[k]'hlt).toNat:Nat):Int):=by omega
    have x3: ¬(s[k]'hlt).toNat<=57:=by omega
    have y3: ¬(((s[k]'hlt).toNat:Nat):Int)<=(57:Int):=by omega
    have e45: ¬(s[k]'hlt).toNat=45:=by omega
    have f45: ¬(((s[k]'hlt).toNat:Nat):Int)=45:=by omega
    have g45:((((s[k]'hlt).toNat:Nat):Int) !=45)=true:=by rw[bne_iff_ne];exact f45
    have e95: ¬(s[k]'hlt).toNat=95:=by omega
    have f95: ¬(((s[k]'hlt).toNat:Nat):Int)=95:=by omega
    have g95:((((s[k]'hlt).toNat:Nat):Int) !=95)=true:=by rw[bne_iff_ne];exact f95
    have e46: ¬(s[k]'hlt).toNat=46:=by omega
    have f46: ¬(((s[k]'hlt).toNat:Nat):Int)=46:=by omega
    have g46:((((s[k]'hlt).toNat:Nat):Int) !=46)=true:=by rw[bne_iff_ne];exact f46
    have OK:=Lib.hid (show mZ (s[k]'hlt)=false by rw[dy];omega)
    have HR:=Lib.hid (show bW s=false by unfold bW;rw[←HV.out,HD.out,OK.out];simp)
    go_wp2
    go_ret
    exact⟨by rw[HR.out];rfl,rfl⟩
   ·have x0: ¬97<=(s[k]'hlt).toNat:=by omega
    have y0: ¬(97:Int)<=(((s[k]'hlt).toNat:Nat):Int):=by omega
    have x1:65<=(s[k]'hlt).toNat:=by omega
    have y1:(65:Int)<=(((s[k]'hlt).toNat:Nat):Int):=by omega
    have x2:(s[k]'hlt).toNat<=90:=by omega
    have y2:(((s[k]'hlt).toNat:Nat):Int)<=(90:Int):=by omega
    have OK:=Lib.hid (show mZ (s[k]'hlt)=true by rw[fU];omega)
    go_wp2
    exact⟨⟨k+1,by omega,by simp,by rw[←HV.out,HD.out,OK.out,Bool.true_and]⟩,by simp[intOf];omega⟩
   ·have x0: ¬97<=(s[k]'hlt).toNat:=by omega
    have y0: ¬(97:Int)<=(((s[k]'hlt).toNat:Nat):Int):=by omega
    have x1:65<=(s[k]'hlt).toNat:=by omega
    have y1:(65:Int)<=(((s[k]'hlt).toNat:Nat):Int):=by omega
    have x2: ¬(s[k]'hlt).toNat<=90:=by omega
    have y2: ¬(((s[k]'hlt).toNat:Nat):Int)<=(90:Int):=by omega
    have x3:48<=(s[k]'hlt).toNat:=by omega
    have y3:(48:Int)<=(((s[k]'hlt).toNat:Nat):Int):=by omega
    have x4: ¬(s[k]'hlt).toNat<=57:=by omega
    have y4: ¬(((s[k]'hlt).toNat:Nat):Int)<=(57:Int):=by omega
    have e45: ¬(s[k]'hlt).toNat=45:=by omega
    have f45: ¬(((s[k]'hlt).toNat:Nat):Int)=45:=by omega
    have g45:((((s[k]'hlt).toNat:Nat):Int) !=45)=true:=by rw[bne_iff_ne];exact f45
    have e95: ¬(s[k]'hlt).toNat=95:=by omega
    have f95: ¬(((s[k]'hlt).toNat:Nat):Int)=95:=by omega
    have g95:((((s[k]'hlt).toNat:Nat):Int) !=95)=true:=by rw[bne_iff_ne];exact f95
    have e46: ¬(s[k]'hlt).toNat=46:=by omega
    have f46: ¬(((s[k]'hlt).toNat:Nat):Int)=46:=by omega
    have g46:((((s[k]'hlt).toNat:Nat):Int) !=46)=true:=by rw[bne_iff_ne];exact f46
    have OK:=Lib.hid (show mZ (s[k]'hlt)=false by rw[dy];omega)
    have HR:=Lib.hid (show bW s=false by unfold bW;rw[←HV.out,HD.out,OK.out];simp)
    go_wp2
    go_ret
    exact⟨by rw[HR.out];rfl,rfl⟩
   ·have x0: ¬97<=(s[k]'hlt).toNat:=by omega
    have y0: ¬(97:Int)<=(((s[k]'hlt).toNat:Nat):Int):=by omega
    have x1:65<=(s[k]'hlt).toNat:=by omega
    have y1:(65:Int)<=(((s[k]'hlt).toNat:Nat):Int):=by omega
    have x2: ¬(s[k]'hlt).toNat<=90:=by omega
    have y2: ¬(((s[k]'hlt).toNat:Nat):Int)<=(90:Int):=by omega
    have x3:48<=(s[k]'hlt).toNat:=by omega
    have y3:(48:Int)<=(((s[k]'hlt).toNat:Nat):Int):=by omega
    have x4: ¬(s[k]'hlt).toNat<=57:=by omega
    have y4: ¬(((s[k]'hlt).toNat:Nat):Int)<=(57:Int):=by omega
    have e45: ¬(s[k]'hlt).toNat=45:=by omega
    have f45: ¬(((s[k]'hlt).toNat:Nat):Int)=45:=by omega
    have g45:((((s[k]'hlt).toNat:Nat):Int) !=45)=true:=by rw[bne_iff_ne];exact f45
    have e95:(s[k]'hlt).toNat=95:=by omega
    have f95:(((s[k]'hlt).toNat:Nat):Int)=95:=by omega
    have g95:((((s[k]'hlt).toNat:Nat):Int) !=95)=false:=by rw[f95];rfl
    have e46: ¬(s[k]'hlt).toNat=46:=by omega
    have f46: ¬(((s[k]'hlt).toNat:Nat):Int)=46:=by omega
    have g46:((((s[k]'hlt).toNat:Nat):Int) !=46)=true:=by rw[bne_iff_ne];exact f46
    have OK:=Lib.hid (show mZ (s[k]'hlt)=true by rw[fU];omega)
    go_wp2
    exact⟨⟨k+1,by omega,by simp,by rw[←HV.out,HD.out,OK.out,Bool.true_and]⟩,by simp[intOf];omega⟩
   ·have x0: ¬97<=(s[k]'hlt).toNat:=by omega
    have y0: ¬(97:Int)<=(((s[k]'hlt).toNat:Nat):Int):=by omega
    have x1:65<=(s[k]'hlt).toNat:=by omega
    have y1:(65:Int)<=(((s[k]'hlt).toNat:Nat):Int):=by omega
    have x2: ¬(s[k]'hlt).toNat<=90:=by omega
    have y2: ¬(((s[k]'hlt).toNat:Nat):Int)<=(90:Int):=by omega
    have x3:48<=(s[k]'hlt).toNat:=by omega
    have y3:(48:Int)<=(((s[k]'hlt).toNat:Nat):Int):=by omega
    have x4: ¬(s[k]'hlt).toNat<=57:=by omega
    have y4: ¬(((s[k]'hlt).toNat:Nat):Int)<=(57:Int):=by omega
    have e45: ¬(s[k]'hlt).toNat=45:=by omega
    have f45: ¬(((s[k]'hlt).toNat:Nat):Int)=45:=by omega
    have g45:((((s[k]'hlt).toNat:Nat):Int) !=45)=true:=by rw[bne_iff_ne];exact f45
    have e95: ¬(s[k]'hlt).toNat=95:=by omega
    have f95: ¬(((s[k]'hlt).toNat:Nat):Int)=95:=by omega
    have g95:((((s[k]'hlt).toNat:Nat):Int) !=95)=true:=by rw[bne_iff_ne];exact f95
    have e46: ¬(s[k]'hlt).toNat=46:=by omega
    have f46: ¬(((s[k]'hlt).toNat:Nat):Int)=46:=by omega
    have g46:((((s[k]'hlt).toNat:Nat):Int) !=46)=true:=by rw[bne_iff_ne];exact f46
    have OK:=Lib.hid (show mZ (s[k]'hlt)=false by rw[dy];omega)
    have HR:=Lib.hid (show bW s=false by unfold bW;rw[←HV.out,HD.out,OK.out];simp)
    go_wp2
    go_ret
    exact⟨by rw[HR.out];rfl,rfl⟩
   ·have x0:97<=(s[k]'hlt).toNat:=by omega
    have y0:(97:Int)<=(((s[k]'hlt).toNat:Nat):Int):=by omega
    have x1:(s[k]'hlt).toNat<=122:=by omega
    have y1:(((s[k]'hlt).toNat:Nat):Int)<=(122:Int):=by omega
    have OK:=Lib.hid (show mZ (s[k]'hlt)=true by rw[fU];omega)
    go_wp2
    exact⟨⟨k+1,by omega,by simp,by rw[←HV.out,HD.out,OK.out,Bool.true_and]⟩,by simp[intOf];omega⟩
   ·have x0:97<=(s[k]'hlt).toNat:=by omega
    have y0:(97:Int)<=(((s[k]'hlt).toNat:Nat):Int):=by omega
    have x1: ¬(s[k]'hlt).toNat<=122:=by omega
    have y1: ¬(((s[k]'hlt).toNat:Nat):Int)<=(122:Int):=by omega
    have x2:65<=(s[k]'hlt).toNat:=by omega
    have y2:(65:Int)<=(((s[k]'hlt).toNat:Nat):Int):=by omega
    have x3: ¬(s[k]'hlt).toNat<=90:=by omega
    have y3: ¬(((s[k]'hlt).toNat:Nat):Int)<=(90:Int):=by omega
    have x4:48<=(s[k]'hlt).toNat:=by omega
    have y4:(48:Int)<=(((s[k]'hlt).toNat:Nat):Int):=by omega
    have x5: ¬(s[k]'hlt).toNat<=57:=by omega
    have y5: ¬(((s[k]'hlt).toNat:Nat):Int)<=(57:Int):=by omega
    have e45: ¬(s[k]'hlt).toNat=45:=by omega
    have f45: ¬(((s[k]'hlt).toNat:Nat):Int)=45:=by omega
    have g45:((((s[k]'hlt).toNat:Nat):Int) !=45)=true:=by rw[bne_iff_ne];exact f45
    have e95: ¬(s[k]'hlt).toNat=95:=by omega
    have f95: ¬(((s[k]'hlt).toNat:Nat):Int)=95:=by omega
    have g95:((((s[k]'hlt).toNat:Nat):Int) !=95)=true:=by rw[bne_iff_ne];exact f95
    have e46: ¬(s[k]'hlt).toNat=46:=by omega
    have f46: ¬(((s[k]'hlt).toNat:Nat):Int)=46:=by omega
    have g46:((((s[k]'hlt).toNat:Nat):Int) !=46)=true:=by rw[bne_iff_ne];exact f46
    have OK:=Lib.hid (show mZ (s[k]'hlt)=false by rw[dy];omega)
    have HR:=Lib.hid (show bW s=false by unfold bW;rw[←HV.out,HD.out,OK.out];simp)
    go_wp2
    go_ret
    exact⟨by rw[HR.out];rfl,rfl⟩
  ·have he:s.data.toList.all mZ=true:=by rw[←HV.out];exact JW s k (by omega)
   have HR:=Lib.hid (show bW s=true by unfold bW;rw[he];simp[h0,h1])
   clear he
   go_wp2
   go_ret
   exact⟨by rw[HR.out];rfl,rfl⟩
end Go.Proofs.Nw
namespace Go.Proofs.Nw
open Go Go.AV Tryz
set_option maxRecDepth 1000000
noncomputable section
abbrev rV(e:Int):Unit->Value:=fun(x:Unit)=>zv e
abbrev cM:Value:=I 2
abbrev pw(N:aq):aa:=BQ (Ya N) 9 1 31
abbrev qe:Nat × Value:=(1,Y3)
abbrev AQ:Prop:=Rs Y3
abbrev F4(e:Int):Unit->Value:=fun(x:Unit)=>ZV e
theorem rc7(z:T aa)(zn i:Nat)(N:aq)(e:Int)(Q:QL)(hyp:Br (decide ((↑i:Int)<(↑N.nu:Int))) (aF prog z zn 73 [AG (Ya N),IV i] [] 0 0 Yc (rV e) Ye/\aS Yf [AG (Ya N),IV i]=some [AG (Ya N),IV i]/\ ∀(x:Unit),True->xw e/\Br (e !=0) (E6 84 z zn (R3 cM (IV i) (ZV e) (Q af.ret [(2,cM),(3,IV i),(4,ZV e)] [] 1 z zn))) (ZV (IntKind.i64.wrap ((↑i:Int)+1))=IV (i+1)/\E6 84 z zn (R2 Y3 (IV (i+1)) (KO YD (pw N)/\Q aN [qe,(7,IV (i+1))] [(0,pw N)] 1 z zn)))) (E6 84 z zn (AQ/\KO YD (pw N)/\Q YO [qe] [(0,pw N)] 1 z zn))):RdT prog gP z (ah (ag f40) 0) 84 (DC i) z [(0,N.box)] 1 zn 1 Q:=K1t hyp (tA 1 ((tA 2 (Tr.cm (Cm.mk [AG (Ya N),IV i] [] 0 0 [] [] 1) Unit Yc (rV e) Ye (F4 e) Ye (Yl z) (Ym zn) fun(x:Unit)=>(tA 1 (tE [] [] [(2,cM),(3,IV i),(4,ZV e)] [] 1 z zn)).fork (tA 1 (tO (dI i) (tE YC [] [qe,(7,IV (i+1))] [(0,pw N)] 1 z zn))))).fork (tA 1 (tE YC [] [qe] [(0,pw N)] 1 z zn))))
theorem rc8(z:T aa)(zn i:Nat)(N:aq)(e:Int)(Q:QL)(hyp:Br (decide ((↑i:Int)<(↑N.nl:Int))) (aF prog z zn 74 [AG (Ya N),IV i] [] 0 0 Yc (rV e) Ye/\aS Yf [AG (Ya N),IV i]=some [AG (Ya N),IV i]/\ ∀(x:Unit),True->xw e/\Br (e !=0) (E6 84 z zn (R3 (I 3) (IV i) (ZV e) (Q af.ret [(2,I 3),(3,IV i),(4,ZV e)] [] 1 z zn))) (ZV (IntKind.i64.wrap ((↑i:Int)+1))=IV (i+1)/\E6 84 z zn (R2 Y3 (IV (i+1)) (KO YD (pw N)/\Q aN [qe,C4 i] [(0,pw N)] 1 z zn)))) (E6 84 z zn (AQ/\KO YD (pw N)/\Q iy [qe] [(0,pw N)] 1 z zn))):RdT prog gP z (ah (ag f40) 1) 84 (DB i) z [(0,N.box)] 1 zn 1 Q:=K1t hyp (tA 1 ((tA 2 (Tr.cm (Cm.mk [AG (Ya N),IV i] [] 0 0 [] [] 1) Unit Yc (rV e) Ye (F4 e) Ye (Yl z) (Ym zn) fun(x:Unit)=>(tA 1 (tE [] [] [(2,I 3),(3,IV i),(4,ZV e)] [] 1 z zn)).fork (tA 1 (tO (dI i) (tE YC [] [qe,C4 i] [(0,pw N)] 1 z zn))))).fork (tA 1 (tE YC [] [qe] [(0,pw N)] 1 z zn))))
abbrev C3(s1 s2:Int):Unit->Value:=fun(x:Unit)=>TP [zv s1,zv s2]
abbrev Ii(s1 s2:Int):Value:=TP [ZV s1,ZV s2]
abbrev CL(s1 s2:Int):Prop:=Rs (Ii s1 s2)
abbrev Qk(N:aq):List Value:=[AG [YZ N,ZV N.d,ZV N.w,ZV N.c]]
abbrev Qj(s1 s2:Int):Unit->Value:=fun(x:Unit)=>Ii s1 s2
theorem VS(z:T aa)(zn:Nat)(N:aq)(s1 s2 r1 r2 u1 u2 k1 k2 p1 p2 f1 f2:Int)(Q:QF)(hyp:aF prog z zn 71 [YU N] [] 0 0 Yc (C3 s1 s2) Ye/\aS Yf [YU N]=some [YU N]/\ ∀(x:Unit),True->CL s1 s2/\Br (s2 !=0) (E6 84 z zn (Rs (TP [YM,ZV s1,ZV s2])/\Q (TP [YM,ZV s1,ZV s2]) [] 0 z zn)) (aF prog z zn 72 [YV N] [] 0 0 Yc (C3 r1 r2) Ye/\aS Yf [YV N]=some [YV N]/\ ∀(x:Unit),True->CL r1 r2/\Br (r2 !=0) (E6 84 z zn (Rs (TP [iq,ZV r1,ZV r2])/\Q (TP [iq,ZV r1,ZV r2]) [] 0 z zn)) (Br (decide ((↑N.nu:Int)>1024)) (E6 84 z zn (Rs (TP [cM,YM,I 5])/\Q (TP [cM,YM,I 5]) [] 0 z zn)) (YP/\aj prog (ah (ag f40) 0) 1 84 (DC 0) [(0,N.box)] 1 z zn (alt (u2≠0) (aA.mk af.ret [(2,cM),(3,zv u1),(4,zv u2)] [] 1 z zn) (alt (u2=0) (aA.mk YO [(1,ip 0)] [(0,N.box)] 1 z zn) Al.nil)).R/\E6 84 z zn (R2 Y3 YM (KO YD (pw N)/\(∀(x:Unit),u2≠0->E6 84 z zn (Rs (TP [cM,ZV u1,ZV u2])/\Q (TP [cM,ZV u1,ZV u2]) [] 0 z zn))/\ ∀(x:Unit),u2=0->Br (decide ((↑N.nl:Int)>1024)) (E6 84 z zn (Rs (TP [I 3,YM,I 5])/\Q (TP [I 3,YM,I 5]) [] 0 z zn)) (YP/\aj prog (ah (ag f40) 1) 1 84 (DB 0) [(0,N.box)] 1 z zn (alt (k2≠0) (aA.mk af.ret [(2,I 3),(3,zv k1),(4,zv k2)] [] 1 z zn) (alt (k2=0) (aA.mk iy [(1,ip 0)] [(0,N.box)] 1 z zn) Al.nil)).R/\E6 84 z zn (R2 Y3 YM (KO YD (pw N)/\(∀(x:Unit),k2≠0->E6 84 z zn (Rs (TP [I 3,ZV k1,ZV k2])/\Q (TP [I 3,ZV k1,ZV k2]) [] 0 z zn))/\ ∀(x:Unit),k2=0->aF prog z zn 75 (Yb N) [] 0 0 Yc (C3 p1 p2) Ye/\Yg N/\ ∀(x:Unit),True->CL p1 p2/\Br (p2 !=0) (E6 84 z zn (Rs (TP [I 4,ZV p1,ZV p2])/\Q (TP [I 4,ZV p1,ZV p2]) [] 0 z zn)) (aF prog z zn 76 (Qk N) [] 0 0 Yc (C3 f1 f2) Ye/\aS Yf (Qk N)=some (Qk N)/\ ∀(x:Unit),True->CL f1 f2/\Br (f2 !=0) (E6 84 z zn (Rs (TP [I 5,ZV f1,ZV f2])/\Q (TP [I 5,ZV f1,ZV f2]) [] 0 z zn)) (E6 84 z zn (Rs (TP Yr)/\Q (TP Yr) [] 0 z zn)))))))))))):FnT prog gP z f40 [Yj N] z [] 0 zn Q:=K1t hyp (tA 1 (Tr.cm (Cm.mk [YU N] [] 0 0 [] [] 1) Unit Yc (C3 s1 s2) Ye (Qj s1 s2) Ye (Yl z) (Ym zn) fun(x:Unit)=>(tA 1 (tR [] [] (TP [YM,ZV s1,ZV s2]) [] 0 z zn)).fork (tA 2 (Tr.cm (Cm.mk [YV N] [] 0 0 [] [] 1) Unit Yc (C3 r1 r2) Ye (Qj r1 r2) Ye (Yl z) (Ym zn) fun(x:Unit)=>(tA 1 (tR [] [] (TP [iq,ZV r1,ZV r2]) [] 0 z zn)).fork (tA 2 ((tA 1 (tR [] [] (TP [cM,YM,I 5]) [] 0 z zn)).fork (tA 1 (Tr.lp 1 84 YC [] (DC 0) [(0,N.box)] 1 z zn (Al.cons Unit (Ta u2) (fun(x:Unit)=>aA.mk af.ret [(2,cM),(3,zv u1),(4,zv u2)] [] 1 z zn) (fun(x:Unit)=>tR [] [] (TP [cM,ZV u1,ZV u2]) [] 0 z zn) (Al.cons Unit (Uu u2) (fun(x:Unit)=>aA.mk YO [(1,ip 0)] [(0,N.box)] 1 z zn) (fun(x:Unit)=>tA 1 ((tA 1 (tR [] [] (TP [I 3,YM,I 5]) [] 0 z zn)).fork (tA 1 (Tr.lp 1 84 YC [] (DB 0) [(0,N.box)] 1 z zn (Al.cons Unit (Ta k2) (fun(x:Unit)=>aA.mk af.ret [(2,I 3),(3,zv k1),(4,zv k2)] [] 1 z zn) (fun(x:Unit)=>tR [] [] (TP [I 3,ZV k1,ZV k2]) [] 0 z zn) (Al.cons Unit (Uu k2) (fun(x:Unit)=>aA.mk iy [(1,ip 0)] [(0,N.box)] 1 z zn) (fun(x:Unit)=>tA 1 (Tr.cm (Cm.mk (Yb N) [] 0 0 []
 [] 1) Unit Yc (C3 p1 p2) Ye (Qj p1 p2) Ye (Yl z) (Ym zn) fun(x:Unit)=>(tA 1 (tR [] [] (TP [I 4,ZV p1,ZV p2]) [] 0 z zn)).fork (tA 2 (Tr.cm (Cm.mk (Qk N) [] 0 0 [] [] 1) Unit Yc (C3 f1 f2) Ye (Qj f1 f2) Ye (Yl z) (Ym zn) fun(x:Unit)=>(tA 1 (tR [] [] (TP [I 5,ZV f1,ZV f2]) [] 0 z zn)).fork (tA 1 (tR [] [] (TP Yr) [] 0 z zn)))))) Al.nil)))))) Al.nil))))))))))
end
noncomputable section
abbrev YCJ(a b c d e f:Int):Prop:=Rs (BQ [ZV a,ZV b,ZV c,ZV d,ZV e,ZV f] 6 3 103)
abbrev ZG(a b c d e f:Int):List (Nat × aa):=[(0,BQ [ZV a,ZV b,ZV c,ZV d,ZV e,ZV f] 6 3 103),Yv]
noncomputable abbrev ZF:Code:=ah (ag f44) 0
abbrev dv:List (Nat × Nat):=[YB,Yz]
theorem aaf(z:T aa)(zn i:Nat)(a b c d e f x y w:Int)(Q:QL)(hyp:Br (c !=0) (E6 17 z zn (Yq/\Rs (BQ [ZV a,ZV b,ZV c] 3 1 103)/\Q af.ret Yu [(1,BQ [ZV a,ZV b,ZV c] 3 1 103)] 2 z zn)) (E6 17 z zn (R4 Yp (SL 0 2 2) cM iq (YCJ a b c d e f/\Ys/\Q aN [Yt,(5,SL 0 2 2),(6,cM),(7,iq)] (ZG a b c d e f) 2 z zn)))):RdT prog gP z ZF 17 (BH 0) z [(0,LP a b c d e f),Yx] 2 zn 2 Q:=K1t hyp (tA 6 ((tA 3 (tE Y0 [] Yu [(1,BQ [ZV a,ZV b,ZV c] 3 1 103)] 2 z zn)).fork (tA 2 (tE dv [] [Yt,(5,SL 0 2 2),(6,cM),(7,iq)] (ZG a b c d e f) 2 z zn))))
theorem aae(z:T aa)(zn i:Nat)(a b c d e f x y w:Int)(Q:QL)(hyp:Br (f !=0) (E6 17 z zn (Yq/\Rs (BQ [ZV d,ZV e,ZV f] 3 1 103)/\Q af.ret Yu [(1,BQ [ZV d,ZV e,ZV f] 3 1 103)] 2 z zn)) (E6 17 z zn (R4 Yp (SL 0 2 2) cM cM (YCJ a b c d e f/\Ys/\Q aN [Yt,(5,SL 0 2 2),(6,cM),(7,cM)] (ZG a b c d e f) 2 z zn)))):RdT prog gP z ZF 17 (BH 1) z [(0,LP a b c d e f),Yx] 2 zn 2 Q:=K1t hyp (tA 6 ((tA 3 (tE Y0 [] Yu [(1,BQ [ZV d,ZV e,ZV f] 3 1 103)] 2 z zn)).fork (tA 2 (tE dv [] [Yt,(5,SL 0 2 2),(6,cM),(7,cM)] (ZG a b c d e f) 2 z zn))))
theorem aad(z:T aa)(zn i:Nat)(a b c d e f x y w:Int)(Q:QL)(hyp:E6 17 z zn (Yq/\Ys/\Q YO Yu [Yv] 2 z zn)):RdT prog gP z ZF 17 (BH 2) z [(0,LP a b c d e f),Yx] 2 zn 2 Q:=K1t hyp (tA 2 (tE Y0 [] Yu [Yv] 2 z zn))
abbrev rU:Prop:=Rf 2
abbrev S5(c f:Int):Unit->Prop:=fun(x:Unit)=>c=0/\f=0
theorem ffi(z:T aa)(zn i:Nat)(a b c d e f x y w:Int)(Q:QF)(hyp:rU/\aj prog ZF 2 17 (BH 0) [(0,LP a b c d e f),Yx] 2 z zn (alt (x=pk c f a d/\y=pk c f b e/\w=pk c f c f) (aA.mk af.ret Y2 [(1,du x y w)] 2 z zn) (alt (c=0/\f=0) (aA.mk YO Y2 [Yx] 2 z zn) Al.nil)).R/\E6 17 z zn (R4 Yp (SL 0 2 2) cM YM (YCJ a b c d e f/\Ys/\(∀(x_1:Unit),x=pk c f a d/\y=pk c f b e/\w=pk c f c f->E6 17 z zn (Rs (wP x y w)/\Q (wP x y w) [] 1 z zn))/\ ∀(x:Unit),c=0/\f=0->E6 17 z zn (Rs yV/\Q yV [] 1 z zn)))):FnT prog gP z f44 [SL 0 2 2] z [(0,LP a b c d e f)] 1 zn Q:=K1t hyp (Tr.lp 2 17 [Yz,YB] [] (BH 0) [(0,LP a b c d e f),Yx] 2 z zn (Al.cons Unit (fun(x_1:Unit)=>x=pk c f a d/\y=pk c f b e/\w=pk c f c f) (fun(x_1:Unit)=>aA.mk af.ret Y2 [(1,du x y w)] 2 z zn) (fun(x_1:Unit)=>tR [] [] (wP x y w) [] 1 z zn) (Al.cons Unit (S5 c f) (fun(x:Unit)=>aA.mk YO Y2 [Yx] 2 z zn) (fun(x:Unit)=>tA 1 (tR [] [] yV [] 1 z zn)) Al.nil)))
abbrev Uo(u1 u2 u3:Int):Unit->Value:=fun(x:Unit)=>AG [zv u1,zv u2,zv u3]
abbrev CK:List (Nat × Nat):=[(1,0)]
noncomputable abbrev C2(N:aq):Cm:=Cm.mk (Yb N) [] 0 0 [] [] 3
theorem abo(z:T aa)(zn:Nat)(N:aq)(s1 s2 r1 r2 f1 f2 u1 u2 u3 k1 k2 k3 p1 p2 p3:Int)(Q:QF)(hyp:aF prog z zn 42 [YU N] [] 0 0 Yc (C3 s1 s2) Ye/\aS Yf [YU N]=some [YU N]/\ ∀(x:Unit),True->CL s1 s2/\aF prog z zn 43 [YV N] [] 0 0 Yc (C3 r1 r2) Ye/\aS Yf [YV N]=some [YV N]/\ ∀(x:Unit),True->CL r1 r2/\Rf z/\gP 45 [YM,ZV s1,ZV s2]=some (AG [YM,ZV s1,ZV s2])/\Rf z/\gP 45 [iq,ZV r1,ZV r2]=some (AG [iq,ZV r1,ZV r2])/\aF prog z zn 44 [SL 0 2 2] [(0,BQ [YM,ZV s1,ZV s2,iq,ZV r1,ZV r2] 6 3 103)] 1 1 Yc (fun(x:Unit)=>AG [zv (pk s2 r2 0 1),zv (pk s2 r2 s1 r1),zv (pk s2 r2 s2 r2)]) Ye/\Rs [SL 1 2 2]/\Rs (BQ [YM,ZV s1,ZV s2,iq,ZV r1,ZV r2] 6 3 103)/\ ∀(x:Unit),True->Rs (AG [ZV (pk s2 r2 0 1),ZV (pk s2 r2 s1 r1),ZV (pk s2 r2 s2 r2)])/\Br (pk s2 r2 s2 r2==0) (aF prog z zn 46 (Yb N) [] 0 0 Yc (Uo u1 u2 u3) Ye/\Yg N/\ ∀(x:Unit),True->Rs (wP u1 u2 u3)/\Br (u3==0) (aF prog z zn 47 (Yb N) [] 0 0 Yc (Uo k1 k2 k3) Ye/\Yg N/\ ∀(x:Unit),True->Rs (wP k1 k2 k3)/\Br (k3==0) (aF prog z zn 48 (Qk N) [] 0 0 Yc (C3 f1 f2) Ye/\aS Yf (Qk N)=some (Qk N)/\ ∀(x:Unit),True->CL f1 f2/\aF prog z zn 49 (Yb N) [] 0 0 Yc (Uo p1 p2 p3) Ye/\Yg N/\ ∀(x:Unit),True->Rs (wP p1 p2 p3)/\Rf z/\gP 45 [I 5,ZV f1,ZV f2]=some (AG [I 5,ZV f1,ZV f2])/\aF prog z zn 44 [SL 0 2 2] [(0,BQ [ZV p1,ZV p2,ZV p3,I 5,ZV f1,ZV f2] 6 3 103)] 1 1 Yc (fun(x:Unit)=>AG [zv (pk p3 f2 p1 5),zv (pk p3 f2 p2 f1),zv (pk p3 f2 p3 f2)]) Ye/\Rs [SL 3 2 2]/\Rs (BQ [ZV p1,ZV p2,ZV p3,I 5,ZV f1,ZV f2] 6 3 103)/\ ∀(x:Unit),True->Rs (AG [ZV (pk p3 f2 p1 5),ZV (pk p3 f2 p2 f1),ZV (pk p3 f2 p3 f2)])/\E6 64 z zn (Rs (TP [ZV (pk p3 f2 p1 5),ZV (pk p3 f2 p2 f1),ZV (pk p3 f2 p3 f2)])/\Q (TP [ZV (pk p3 f2 p1 5),ZV (pk p3 f2 p2 f1),ZV (pk p3 f2 p3 f2)]) [] 0 z zn)) (E6 64 z zn (Yh k1 k2 k3/\Q (TP [ZV k1,ZV k2,ZV k3]) [] 0 z zn))) (Value.bool (u3==0)=F0/\E6 64 z zn (Yh u1 u2 u3/\Q (TP [ZV u1,ZV u2,ZV u3]) [] 0 z zn))) (Value.bool (pk s2 r2 s2 r2==0)=F0/\Value.bool (pk s2 r2 s2 r2==0)=F0/\E6 64 z zn (Rs (TP [ZV (pk s2 r2 0 1),ZV (pk s2 r2 s1 r1),ZV (pk s2 r2 s2 r2)])/\Q (TP [ZV (pk s2 r2 0 1),ZV (pk s2 r2 s1 r1),ZV (pk s2 r2 s2 r2)]) [] 0 z zn))):FnT prog gP z f24 [Yj N] z [] 0 zn Q:=K1t hyp (tA 1 (Tr.cm (Cm.mk [YU N] [] 0 0 [] [] 1) Unit Yc (C3 s1 s2) Ye (Qj s1 s2) Ye (Yl z) (Ym zn) fun(x:Unit)=>tA 1 (Tr.cm (Cm.mk [YV N] [] 0 0 [] [] 1) Unit Yc (C3 r1 r2) Ye (Qj r1 r2) Ye (Yl z) (Ym zn) fun(x:Unit)=>tO (An.cl (AG [YM,ZV s1,ZV s2])) (tO (An.cl (AG [iq,ZV r1,ZV r2])) (Tr.cm (Cm.mk [SL 0 2 2] [(0,BQ [YM,ZV s1,ZV s2,iq,ZV r1,ZV r2] 6 3 103)] 1 1 [(0,1)] CK 2) Unit Yc (fun(x:Unit)=>AG [zv (pk s2 r2 0 1),zv (pk s2 r2 s1 r1),zv (pk s2 r2 s2 r2)]) Ye (fun(x:Unit)=>AG [ZV (pk s2 r2 0 1),ZV (pk s2 r2 s1 r1),ZV (pk s2 r2 s2 r2)]) Ye (Yl z) (Ym zn) fun(x:Unit)=>tA 2 ((tA 2 (Tr.cm (C2 N) Unit Yc (Uo u1 u2 u3) Ye (fun(x:Unit)=>wP u1 u2 u3) Ye (Yl z) (Ym zn) fun(x:Unit)=>tA 2 ((tA 2 (Tr.cm (C2 N) Unit Yc (Uo k1 k2 k3) Ye (fun(x:Unit)=>wP k1 k2 k3) Ye (Yl z) (Ym zn) fun
 (x:Unit)=>tA 2 ((tA 2 (Tr.cm (Cm.mk (Qk N) [] 0 0 [] [] 3) Unit Yc (C3 f1 f2) Ye (Qj f1 f2) Ye (Yl z) (Ym zn) fun(x:Unit)=>tA 1 (Tr.cm (C2 N) Unit Yc (Uo p1 p2 p3) Ye (fun(x:Unit)=>wP p1 p2 p3) Ye (Yl z) (Ym zn) fun(x:Unit)=>tO (An.cl (AG [I 5,ZV f1,ZV f2])) (Tr.cm (Cm.mk [SL 0 2 2] [(0,BQ [ZV p1,ZV p2,ZV p3,I 5,ZV f1,ZV f2] 6 3 103)] 1 1 [(0,3)] [(3,0)] 4) Unit Yc (fun(x:Unit)=>AG [zv (pk p3 f2 p1 5),zv (pk p3 f2 p2 f1),zv (pk p3 f2 p3 f2)]) Ye (fun(x:Unit)=>AG [ZV (pk p3 f2 p1 5),ZV (pk p3 f2 p2 f1),ZV (pk p3 f2 p3 f2)]) Ye (Yl z) (Ym zn) fun(x:Unit)=>tA 4 (tR [] [] (TP [ZV (pk p3 f2 p1 5),ZV (pk p3 f2 p2 f1),ZV (pk p3 f2 p3 f2)]) [] 0 z zn))))).fork (tA 4 (tR [] [] (TP [ZV k1,ZV k2,ZV k3]) [] 0 z zn))))).fork (tA 2 (tO kx (tA 4 (tR [] [] (TP [ZV u1,ZV u2,ZV u3]) [] 0 z zn))))))).fork (tA 2 (tO kx (tA 2 (tO kx (tA 4 (tR [] [] (TP [ZV (pk s2 r2 0 1),ZV (pk s2 r2 s1 r1),ZV (pk s2 r2 s2 r2)]) [] 0 z zn))))))))))))
end
noncomputable section
noncomputable abbrev Un:Code:=ah (ag f71) 0
theorem Z9(z:T aa)(zn:Nat)(Q:QL)(hyp:E6 57 z zn (Q YO [] [] 0 z zn)):RdT prog gP z Un 57 vO z [] 0 zn 0 Q:=K1t hyp (tA 2 (tE [] [] [] [] 0 z zn))
abbrev wZ:Value:=TP [YM,YM]
abbrev wO:Prop:=Rs wZ
noncomputable abbrev Mh(z:T aa)(zn:Nat):Unit->Tr:=fun(x:Unit)=>tR [] [] wZ [] 0 z zn
theorem abb(z:T aa)(zn:Nat)(Q:QF)(hyp:tD/\aj prog Un 0 57 vO [] 0 z zn (ZN z zn)/\E6 57 z zn (R2 Y5 YM (∀(x:Unit),True->E6 57 z zn (wO/\Q wZ [] 0 z zn)))):FnT prog gP z f71 [an] z [] 0 zn Q:=K1t hyp (tA 2 (Tr.lp 0 57 [] [] vO [] 0 z zn (Al.cons Unit Yc (S7 z zn) (Mh z zn) Al.nil)))
noncomputable abbrev Um:Code:=ah (ag f72) 0
theorem aaa(z:T aa)(zn:Nat)(Q:QL)(hyp:E6 48 z zn (Q YO [] [] 0 z zn)):RdT prog gP z Um 48 vO z [] 0 zn 0 Q:=K1t hyp (tA 2 (tE [] [] [] [] 0 z zn))
theorem abc(z:T aa)(zn:Nat)(Q:QF)(hyp:tD/\aj prog Um 0 48 vO [] 0 z zn (ZN z zn)/\E6 48 z zn (R2 Y5 YM (∀(x:Unit),True->E6 48 z zn (wO/\Q wZ [] 0 z zn)))):FnT prog gP z f72 [an] z [] 0 zn Q:=K1t hyp (tA 2 (Tr.lp 0 48 [] [] vO [] 0 z zn (Al.cons Unit Yc (S7 z zn) (Mh z zn) Al.nil)))
noncomputable abbrev Ul:Code:=ah (ag f76) 0
theorem aab(z:T aa)(zn:Nat)(d w c:Int)(Q:QL)(hyp:E6 88 z zn (Q YO [] [] 1 z zn)):RdT prog gP z Ul 88 (tM 0) z [(0,xl an d w c)] 1 zn 1 Q:=K1t hyp (tA 3 (tE [] [] [] [] 1 z zn))
abbrev YCY(d:Int):Value:=Value.bool (decide (0<=d) && decide (d<=1000000))
abbrev ZE(d:Int):Prop:=gP 119 [ZV d,YM,I 1000000]=some (YCY d)
abbrev F3:Value:=TP [J 0,cM]
abbrev Ih:Prop:=Rs F3
abbrev Qi(w:Int):Value:=Value.bool (decide (0<=w) && decide (w<=86400))
noncomputable abbrev ZD(z:T aa)(zn:Nat):aA->Prop:=(alt True (aA.mk YO [] [] 1 z zn) Al.nil).R
noncomputable abbrev Qh(d:Int):An:=An.cl (YCY d)
noncomputable abbrev bI:An:=An.bool true
noncomputable abbrev Uk(z:T aa)(zn:Nat):Tr:=tR [] [] F3 [] 0 z zn
noncomputable abbrev ZC(z:T aa)(zn:Nat):Tr:=tO bI (tO bI (tO bI (tO bI (tA 6 (Uk z zn)))))
noncomputable abbrev bc:An:=An.bool false
noncomputable abbrev ZB(z:T aa)(zn:Nat):Tr:=tO bI (tO bI (tO bI (tO bI (tA 1 (Uk z zn)))))
noncomputable abbrev ZA(z:T aa)(zn:Nat):Al:=Al.cons Unit Yc (fun(x:Unit)=>aA.mk YO [] [] 1 z zn) (Mh z zn) Al.nil
theorem abd(z:T aa)(zn:Nat)(d w c:Int)(Q:QF)(hyp:Rf z/\ZE d/\Br (!(decide (0<=d) && decide (d<=1000000))) ((!(decide (0<=d) && decide (d<=1000000)))=true/\(!(decide (0<=d) && decide (d<=1000000)))=true/\(!(decide (0<=d) && decide (d<=1000000)))=true/\(!(decide (0<=d) && decide (d<=1000000)))=true/\E6 88 z zn (Ih/\Q F3 [] 0 z zn)) ((!(decide (0<=d) && decide (d<=1000000)))=false/\(!(decide (0<=d) && decide (d<=1000000)))=false/\Rf z/\gP 119 [ZV w,YM,I 86400]=some (Qi w)/\(!(decide (0<=d) && decide (d<=1000000)))=false/\(!(decide (0<=d) && decide (d<=1000000)))=false/\Br (!(decide (0<=w) && decide (w<=86400))) ((!(decide (0<=w) && decide (w<=86400)))=true/\(!(decide (0<=w) && decide (w<=86400)))=true/\(!(decide (0<=w) && decide (w<=86400)))=true/\(!(decide (0<=w) && decide (w<=86400)))=true/\E6 88 z zn (Ih/\Q F3 [] 0 z zn)) ((!(decide (0<=w) && decide (w<=86400)))=false/\(!(decide (0<=w) && decide (w<=86400)))=false/\Rf z/\ZE c/\(!(decide (0<=w) && decide (w<=86400)))=false/\(!(decide (0<=w) && decide (w<=86400)))=false/\Br (!(decide (0<=c) && decide (c<=1000000))) (E6 88 z zn (Ih/\Q F3 [] 0 z zn)) (YP/\aj prog Ul 1 88 (tM 0) [(0,xl an d w c)] 1 z zn (ZD z zn)/\E6 88 z zn (R2 Y3 YM (Rs (BQ [Y5,ZV d,ZV w,ZV c] 4 1 29)/\ ∀(x:Unit),True->E6 88 z zn (wO/\Q wZ [] 0 z zn))))))):FnT prog gP z f76 [AG [an,zv d,zv w,zv c]] z [] 0 zn Q:=K1t hyp (tA 1 (tO (Qh d) ((ZC z zn).fork (tO bc (tA 1 (tO bc (tO (An.cl (Qi w)) (tO bc (tO bc ((ZB z zn).fork (tO bc (tA 1 (tO bc (tO (Qh c) (tO bc (tO bc ((Uk z zn).fork (tA 3 (Tr.lp 1 88 YC [] (tM 0) [(0,xl an d w c)] 1 z zn (ZA z zn))))))))))))))))))))
end
noncomputable section
abbrev Qg:Prop:=Rf 1534
abbrev gU:Value:=I 9
abbrev HC(i:Nat):List (Nat × Value):=[(4,IV i),(5,gU)]
abbrev Qf(x:ae):Value:=AG [ZV x.fz1,ZV x.aB,T1]
abbrev eF(ks:List Value):List MapEntry:=k9 0 ks
abbrev Ig(p:Nat × Value):Nat->Prop:=fun(x:Nat)=>p=(x,T1)
abbrev Ie(i_1:Nat):Option (Option (Nat × Value)):=some (some (i_1,T1))
abbrev fO(m cp:Nat):Value:=SL 1534 m cp
abbrev Zz(n:Int)(m cp i:Nat):List (Nat × Value):=[(1,ZV n),(6,YK),(11,fO m cp),(12,IV m),(13,IV (i+1))]
abbrev tW(x:ae):Value:=AG [ZV x.fz1,ZV x.aB,F0]
noncomputable abbrev Zy:Code:=ah (ag f124) 0
noncomputable abbrev Qe(kb:aV)(x:ae):An:=An.ld 4 kb (AG x.row)
noncomputable abbrev Qd(i:Nat)(z:T aa)(zn:Nat):Tr:=tA 2 (tE [] [] (HC i) [] 1 z zn)
noncomputable abbrev CJ:An:=An.fno none
noncomputable abbrev W1(z:T aa)(zn:Nat):Tr:=tA 1 (tE [] [] [] [] 1 z zn)
theorem rso(z:T aa)(zn i m cp:Nat)(n:Int)(kb:aV)(x:ae)(ks:List Value)(Q:QL)(hyp:Br (decide ((↑i:Int)<(↑m:Int))) (cG i/\i<m/\Qg/\z.get 4=rM kb/\F5 kb i x/\Br x.sf (Br (decide (x.fz1<0)) (E6 62 z zn (R2 (IV i) gU (Q af.ret (HC i) [] 1 z zn))) (Br (decide (x.fz1>=n)) (E6 62 z zn (R2 (IV i) gU (Q af.ret (HC i) [] 1 z zn))) (Br (decide (x.aB<0)) (E6 62 z zn (R2 (IV i) gU (Q af.ret (HC i) [] 1 z zn))) (Br (decide (x.aB>=n)) (E6 62 z zn (R2 (IV i) gU (Q af.ret (HC i) [] 1 z zn))) (Br (x.fz1==x.aB) (E6 62 z zn (R2 (IV i) gU (Q af.ret (HC i) [] 1 z zn))) (Br (decide (x.aK<1)) (E6 62 z zn (R2 (IV i) cM (Q af.ret [(4,IV i),(5,cM)] [] 1 z zn))) (Br (decide (x.aK>14400)) (E6 62 z zn (R2 (IV i) cM (Q af.ret [(4,IV i),(5,cM)] [] 1 z zn))) (aE prog 236 (Qf x) (eF ks) 0≠none/\(∀(p:Nat × Value),aE prog 236 (Qf x) (eF ks) 0=YH p->Exists (Ig p))/\(∀(i_1:Nat),aE prog 236 (Qf x) (eF ks) 0=Ie i_1->E6 62 z zn (R2 (IV i) (I 6) (Q af.ret [(4,IV i),(5,I 6)] [] 1 z zn)))/\(aE prog 236 (Qf x) (eF ks) 0=YL->aE prog 236 (Qf x) (eF ks) 0=YL/\ZV (IntKind.i64.wrap ((↑i:Int)+1))=IV (i+1)/\E6 62 z zn (R5 (ZV n) YK (fO m cp) (IV m) (IV (i+1)) (KO YD (aa.map (eF ks++[MapEntry.mk (Qf x) T1 ks.length]) (ks.length+1))/\Q aN (Zz n m cp i) [(0,aa.map (eF ks++[MapEntry.mk (Qf x) T1 ks.length]) (ks.length+1))] 1 z zn))))))))))) (Br (decide (x.fz1<0)) (E6 62 z zn (R2 (IV i) gU (Q af.ret (HC i) [] 1 z zn))) (Br (decide (x.fz1>=n)) (E6 62 z zn (R2 (IV i) gU (Q af.ret (HC i) [] 1 z zn))) (Br (decide (x.aB<0)) (E6 62 z zn (R2 (IV i) gU (Q af.ret (HC i) [] 1 z zn))) (Br (decide (x.aB>=n)) (E6 62 z zn (R2 (IV i) gU (Q af.ret (HC i) [] 1 z zn))) (Br (x.fz1==x.aB) (E6 62 z zn (R2 (IV i) gU (Q af.ret (HC i) [] 1 z zn))) (Br (decide (x.aK<1)) (E6 62 z zn (R2 (IV i) cM (Q af.ret [(4,IV i),(5,cM)] [] 1 z zn))) (Br (decide (x.aK>14400)) (E6 62 z zn (R2 (IV i) cM (Q af.ret [(4,IV i),(5,cM)] [] 1 z zn))) (aE prog 236 (tW x) (eF ks) 0≠none/\(∀(p:Nat × Value),aE prog 236 (tW x) (eF ks) 0=YH p->Exists (Ig p))/\(∀(i_1:Nat),aE prog 236 (tW x) (eF ks) 0=Ie i_1->E6 62 z zn (R2 (IV i) (I 6) (Q af.ret [(4,IV i),(5,I 6)] [] 1 z zn)))/\(aE prog 236 (tW x) (eF ks) 0=YL->aE prog 236 (tW x) (eF ks) 0=YL/\ZV (IntKind.i64.wrap ((↑i:Int)+1))=IV (i+1)/\E6 62 z zn (R5 (ZV n) YK (fO m cp) (IV m) (IV (i+1)) (KO YD (aa.map (eF ks++[MapEntry.mk (tW x) T1 ks.length]) (ks.length+1))/\Q aN (Zz n m cp i) [(0,aa.map (eF ks++[MapEntry.mk (tW x) T1 ks.length]) (ks.length+1))] 1 z zn)))))))))))) (E6 62 z zn (Q YO [] [] 1 z zn))):RdT prog gP z Zy 62 (BA n m cp i) z [(0,bt ks)] 1 zn 1 Q:=K1t hyp ((tA 1 (tO (bS i) (tO (Qe kb x) (tA 3 ((tA 2 ((Qd i z zn).fork (tA 2 ((Qd i z zn).fork (tA 2 ((Qd i z zn).fork (tA 2 ((Qd i z zn).fork (tA 3 ((tA 1 (tE [] [] (HC i) [] 1 z zn)).fork (tA 2 ((tA
 2 (tE [] [] [(4,IV i),(5,cM)] [] 1 z zn)).fork (tA 2 ((tA 1 (tE [] [] [(4,IV i),(5,cM)] [] 1 z zn)).fork (tA 2 (Tr.find Nat (fun(x:Nat)=>(x,T1)) (fun(i_1:Nat)=>tA 1 (tE [] [] [(4,IV i),(5,I 6)] [] 1 z zn)) (tA 2 (tO CJ (tO (dI i) (tE YC [] (Zz n m cp i) [(0,aa.map (eF ks++[MapEntry.mk (Qf x) T1 ks.length]) (ks.length+1))] 1 z zn)))))))))))))))))))).fork (tA 2 ((Qd i z zn).fork (tA 2 ((Qd i z zn).fork (tA 2 ((Qd i z zn).fork (tA 2 ((Qd i z zn).fork (tA 3 ((tA 1 (tE [] [] (HC i) [] 1 z zn)).fork (tA 2 ((tA 2 (tE [] [] [(4,IV i),(5,cM)] [] 1 z zn)).fork (tA 2 ((tA 1 (tE [] [] [(4,IV i),(5,cM)] [] 1 z zn)).fork (tA 2 (Tr.find Nat (fun(x:Nat)=>(x,T1)) (fun(i_1:Nat)=>tA 1 (tE [] [] [(4,IV i),(5,I 6)] [] 1 z zn)) (tA 2 (tO CJ (tO (dI i) (tE YC [] (Zz n m cp i) [(0,aa.map (eF ks++[MapEntry.mk (tW x) T1 ks.length]) (ks.length+1))] 1 z zn))))))))))))))))))))))))).fork (W1 z zn))
abbrev Er:List (Nat × aa):=[(0,bt [])]
noncomputable abbrev Ur(r1 r2:Int)(z:T aa)(zn:Nat):Unit->Tr:=fun(x:Unit)=>tR [] [] (Ii r1 r2) [] 0 z zn
theorem fso(z:T aa)(zn m cp:Nat)(n r1 r2:Int)(Q:QF)(hyp:YP/\aj prog Zy 1 62 (BA n m cp 0) Er 1 z zn (jA z zn 1 4 5 0 r1 r2).R/\E6 62 z zn (R5 (ZV n) YK (fO m cp) (IV m) YM (tG/\(∀(x:Unit),True->E6 62 z zn (CL r1 r2/\Q (Ii r1 r2) [] 0 z zn))/\ ∀(x:Unit),r1=0/\r2=0->E6 62 z zn (wO/\Q wZ [] 0 z zn)))):FnT prog gP z f124 [tb 4 m cp,zv n] z [] 0 zn Q:=K1t hyp (Tr.lp 1 62 YC [] (BA n m cp 0) Er 1 z zn (Al.cons Unit Yc (fun(x:Unit)=>aA.mk af.ret [(4,zv r1),(5,zv r2)] [] 1 z zn) (Ur r1 r2 z zn) (Al.cons Unit (S5 r1 r2) (fun(x:Unit)=>aA.mk YO [] [] 1 z zn) (Mh z zn) Al.nil)))
theorem Z5(z:T aa)(zn:Nat)(n:Int)(Q:QL)(hyp:E6 62 z zn (Q YO [] [] 1 z zn)):RdT prog gP z Zy 62 (xT n) z Er 1 zn 1 Q:=K1t hyp (tA 2 (tE [] [] [] [] 1 z zn))
theorem aa7(z:T aa)(zn:Nat)(n:Int)(Q:QF)(hyp:YP/\aj prog Zy 1 62 (xT n) Er 1 z zn (ZD z zn)/\E6 62 z zn (R5 (ZV n) YK Y5 YM YM (tG/\ ∀(x:Unit),True->E6 62 z zn (wO/\Q wZ [] 0 z zn)))):FnT prog gP z f124 [an,zv n] z [] 0 zn Q:=K1t hyp (Tr.lp 1 62 YC [] (xT n) Er 1 z zn (ZA z zn))
abbrev ZK(x:ae)(N:aq):Value:=Value.bool (decide (0<=x.fz1) && decide (x.fz1<(↑N.ns:Int)))
abbrev Uq(i:Nat):Prop:=gP 45 [I 4,IV i,gU]=some (AG [I 4,IV i,gU])
abbrev Up(i:Nat):Prop:=Rs (BQ [I 4,IV i,gU] 3 1 103)
abbrev O4(i:Nat):List (Nat × aa):=[(1,BQ [I 4,IV i,gU] 3 1 103)]
abbrev ZJ(x:ae)(N:aq):Value:=Value.bool (decide (0<=x.aB) && decide (x.aB<(↑N.ns:Int)))
abbrev ZI(i:Nat):Prop:=gP 45 [I 4,IV i,cM]=some (AG [I 4,IV i,cM])
abbrev ZH(i:Nat):Prop:=Rs (BQ [I 4,IV i,cM] 3 1 103)
abbrev Ql(i:Nat):List (Nat × aa):=[(1,BQ [I 4,IV i,cM] 3 1 103)]
abbrev Qc(x:ae):Value:=AG [ZV x.fz1,ZV x.aB,YM,T1]
abbrev YDB(i:Nat):Prop:=gP 45 [I 4,IV i,I 6]=some (AG [I 4,IV i,I 6])
abbrev LF(N:aq):Value:=SL 1534 N.np N.pc
abbrev nj(N:aq):aa:=BQ [YU N,YV N,YW N,YX N,LF N,YZ N,ZV N.d,ZV N.w,ZV N.c] 9 1 31
abbrev Zx(N:aq)(i:Nat):List (Nat × Value):=[qe,Yt,(3,Y4),(9,LF N),(10,IV N.np),(11,IV (i+1))]
abbrev Qb(x:ae):Value:=AG [ZV x.fz1,ZV x.aB,YM,F0]
abbrev oe:Nat->Option Nat:=ay dv []
noncomputable abbrev Zw:Code:=ah (ag f49) 0
abbrev AP(N:aq):Nat × aa:=(0,N.cd N.p1)
noncomputable abbrev YDJ(i:Nat)(z:T aa)(zn:Nat):Tr:=tO bI (tO bI (tO bI (tO bI (tO bI (tO bI (tO bI (tA 7 (tO (An.cl (AG [I 4,IV i,gU])) (tA 1 (tE Y0 [] Yu (O4 i) 3 z zn))))))))))
noncomputable abbrev YDK(i:Nat)(z:T aa)(zn:Nat):Tr:=tO bI (tO bI (tO bI (tO bI (tO bI (tA 1 (tO (An.cl (AG [I 4,IV i,gU])) (tA 1 (tE Y0 [] Yu (O4 i) 3 z zn))))))))
noncomputable abbrev YDL(i:Nat)(z:T aa)(zn:Nat):Tr:=tO bc (tA 1 (tO (An.cl (AG [I 4,IV i,gU])) (tA 1 (tE Y0 [] Yu (O4 i) 3 z zn))))
noncomputable abbrev YDM(i:Nat)(z:T aa)(zn:Nat):Nat->Tr:=fun(i_1:Nat)=>tA 1 (tO (An.cl (AG [I 4,IV i,I 6])) (tA 1 (tE Y0 [] Yu [(1,BQ [I 4,IV i,I 6] 3 1 103)] 3 z zn)))
theorem rcp(z:T aa)(zn i:Nat)(N:aq)(kb:aV)(x:ae)(ks:List Value)(Q:QL)(hyp:Br (decide ((↑i:Int)<(↑N.np:Int))) (cG i/\i<N.np/\Qg/\z.get 4=rM kb/\F5 kb i x/\Br x.sf (Rf z/\gP 80 [ZV x.fz1,IV N.ns]=some (ZK x N)/\Br (!(decide (0<=x.fz1) && decide (x.fz1<(↑N.ns:Int)))) ((!(decide (0<=x.fz1) && decide (x.fz1<(↑N.ns:Int))))=true/\(!(decide (0<=x.fz1) && decide (x.fz1<(↑N.ns:Int))))=true/\(!(decide (0<=x.fz1) && decide (x.fz1<(↑N.ns:Int))))=true/\(!(decide (0<=x.fz1) && decide (x.fz1<(↑N.ns:Int))))=true/\(!(decide (0<=x.fz1) && decide (x.fz1<(↑N.ns:Int))))=true/\(!(decide (0<=x.fz1) && decide (x.fz1<(↑N.ns:Int))))=true/\(!(decide (0<=x.fz1) && decide (x.fz1<(↑N.ns:Int))))=true/\Rf z/\Uq i/\E6 78 z zn (Yq/\Up i/\Q af.ret Yu (O4 i) 3 z zn)) ((!(decide (0<=x.fz1) && decide (x.fz1<(↑N.ns:Int))))=false/\(!(decide (0<=x.fz1) && decide (x.fz1<(↑N.ns:Int))))=false/\(!(decide (0<=x.fz1) && decide (x.fz1<(↑N.ns:Int))))=false/\(!(decide (0<=x.fz1) && decide (x.fz1<(↑N.ns:Int))))=false/\(!(decide (0<=x.fz1) && decide (x.fz1<(↑N.ns:Int))))=false/\Rf z/\gP 80 [ZV x.aB,IV N.ns]=some (ZJ x N)/\(!(decide (0<=x.fz1) && decide (x.fz1<(↑N.ns:Int))))=false/\(!(decide (0<=x.fz1) && decide (x.fz1<(↑N.ns:Int))))=false/\Br (!(decide (0<=x.aB) && decide (x.aB<(↑N.ns:Int)))) ((!(decide (0<=x.aB) && decide (x.aB<(↑N.ns:Int))))=true/\(!(decide (0<=x.aB) && decide (x.aB<(↑N.ns:Int))))=true/\(!(decide (0<=x.aB) && decide (x.aB<(↑N.ns:Int))))=true/\(!(decide (0<=x.aB) && decide (x.aB<(↑N.ns:Int))))=true/\(!(decide (0<=x.aB) && decide (x.aB<(↑N.ns:Int))))=true/\Rf z/\Uq i/\E6 78 z zn (Yq/\Up i/\Q af.ret Yu (O4 i) 3 z zn)) ((!(decide (0<=x.aB) && decide (x.aB<(↑N.ns:Int))))=false/\(!(decide (0<=x.aB) && decide (x.aB<(↑N.ns:Int))))=false/\(!(decide (0<=x.aB) && decide (x.aB<(↑N.ns:Int))))=false/\(!(decide (0<=x.aB) && decide (x.aB<(↑N.ns:Int))))=false/\Br (x.fz1==x.aB) ((!(decide (0<=x.aB) && decide (x.aB<(↑N.ns:Int))))=false/\Rf z/\Uq i/\E6 78 z zn (Yq/\Up i/\Q af.ret Yu (O4 i) 3 z zn)) ((!(decide (0<=x.aB) && decide (x.aB<(↑N.ns:Int))))=false/\Br (decide (x.aK<1)) (Rf z/\ZI i/\E6 78 z zn (Yq/\ZH i/\Q af.ret Yu (Ql i) 3 z zn)) (Br (decide (x.aK>14400)) (Rf z/\ZI i/\E6 78 z zn (Yq/\ZH i/\Q af.ret Yu (Ql i) 3 z zn)) (aE prog 125 (Qc x) (eF ks) 0≠none/\(∀(p:Nat × Value),aE prog 125 (Qc x) (eF ks) 0=YH p->Exists (Ig p))/\(∀(i_1:Nat),aE prog 125 (Qc x) (eF ks) 0=Ie i_1->Rf z/\YDB i/\E6 78 z zn (Yq/\Rs (BQ [I 4,IV i,I 6] 3 1 103)/\Q af.ret Yu [(1,BQ [I 4,IV i,I 6] 3 1 103)] 3 z zn))/\(aE prog 125 (Qc x) (eF ks) 0=YL->aE prog 125 (Qc x) (eF ks) 0=YL/\ZV (IntKind.i64.wrap ((↑i:Int)+1))=IV (i+1)/\E6 78 z zn (R6 Y3 Yp Y4 (LF N) (IV N.np) (IV (i+1)) (KO Y8 (nj N)/\Ys/\KO Y8 (aa.map (eF ks++[MapEntry.mk (Qc x) T1 ks.length]) (ks.length+1))/\Q aN (Zx N i) [(0,nj N),Yv,(2,aa.map (eF ks++[MapEntry.mk (Qc x) T1 ks.length])
 (ks.length+1))] 3 z zn))))))))) (Rf z/\gP 80 [ZV x.fz1,IV N.ns]=some (ZK x N)/\Br (!(decide (0<=x.fz1) && decide (x.fz1<(↑N.ns:Int)))) ((!(decide (0<=x.fz1) && decide (x.fz1<(↑N.ns:Int))))=true/\(!(decide (0<=x.fz1) && decide (x.fz1<(↑N.ns:Int))))=true/\(!(decide (0<=x.fz1) && decide (x.fz1<(↑N.ns:Int))))=true/\(!(decide (0<=x.fz1) && decide (x.fz1<(↑N.ns:Int))))=true/\(!(decide (0<=x.fz1) && decide (x.fz1<(↑N.ns:Int))))=true/\(!(decide (0<=x.fz1) && decide (x.fz1<(↑N.ns:Int))))=true/\(!(decide (0<=x.fz1) && decide (x.fz1<(↑N.ns:Int))))=true/\Rf z/\Uq i/\E6 78 z zn (Yq/\Up i/\Q af.ret Yu (O4 i) 3 z zn)) ((!(decide (0<=x.fz1) && decide (x.fz1<(↑N.ns:Int))))=false/\(!(decide (0<=x.fz1) && decide (x.fz1<(↑N.ns:Int))))=false/\(!(decide (0<=x.fz1) && decide (x.fz1<(↑N.ns:Int))))=false/\(!(decide (0<=x.fz1) && decide (x.fz1<(↑N.ns:Int))))=false/\(!(decide (0<=x.fz1) && decide (x.fz1<(↑N.ns:Int))))=false/\Rf z/\gP 80 [ZV x.aB,IV N.ns]=some (ZJ x N)/\(!(decide (0<=x.fz1) && decide (x.fz1<(↑N.ns:Int))))=false/\(!(decide (0<=x.fz1) && decide (x.fz1<(↑N.ns:Int))))=false/\Br (!(decide (0<=x.aB) && decide (x.aB<(↑N.ns:Int)))) ((!(decide (0<=x.aB) && decide (x.aB<(↑N.ns:Int))))=true/\(!(decide (0<=x.aB) && decide (x.aB<(↑N.ns:Int))))=true/\(!(decide (0<=x.aB) && decide (x.aB<(↑N.ns:Int))))=true/\(!(decide (0<=x.aB) && decide (x.aB<(↑N.ns:Int))))=true/\(!(decide (0<=x.aB) && decide (x.aB<(↑N.ns:Int))))=true/\Rf z/\Uq i/\E6 78 z zn (Yq/\Up i/\Q af.ret Yu (O4 i) 3 z zn)) ((!(decide (0<=x.aB) && decide (x.aB<(↑N.ns:Int))))=false/\(!(decide (0<=x.aB) && decide (x.aB<(↑N.ns:Int))))=false/\(!(decide (0<=x.aB) && decide (x.aB<(↑N.ns:Int))))=false/\(!(decide (0<=x.aB) && decide (x.aB<(↑N.ns:Int))))=false/\Br (x.fz1==x.aB) ((!(decide (0<=x.aB) && decide (x.aB<(↑N.ns:Int))))=false/\Rf z/\Uq i/\E6 78 z zn (Yq/\Up i/\Q af.ret Yu (O4 i) 3 z zn)) ((!(decide (0<=x.aB) && decide (x.aB<(↑N.ns:Int))))=false/\Br (decide (x.aK<1)) (Rf z/\ZI i/\E6 78 z zn (Yq/\ZH i/\Q af.ret Yu (Ql i) 3 z zn)) (Br (decide (x.aK>14400)) (Rf z/\ZI i/\E6 78 z zn (Yq/\ZH i/\Q af.ret Yu (Ql i) 3 z zn)) (aE prog 125 (Qb x) (eF ks) 0≠none/\(∀(p:Nat × Value),aE prog 125 (Qb x) (eF ks) 0=YH p->Exists (Ig p))/\(∀(i_1:Nat),aE prog 125 (Qb x) (eF ks) 0=Ie i_1->Rf z/\YDB i/\E6 78 z zn (Yq/\Rs (BQ [I 4,IV i,I 6] 3 1 103)/\Q af.ret Yu [(1,BQ [I 4,IV i,I 6] 3 1 103)] 3 z zn))/\(aE prog 125 (Qb x) (eF ks) 0=YL->aE prog 125 (Qb x) (eF ks) 0=YL/\ZV (IntKind.i64.wrap ((↑i:Int)+1))=IV (i+1)/\E6 78 z zn (R6 Y3 Yp Y4 (LF N) (IV N.np) (IV (i+1)) (KO Y8 (nj N)/\Ys/\KO Y8 (aa.map (eF ks++[MapEntry.mk (Qb x) T1 ks.length]) (ks.length+1))/\Q aN (Zx N i) [(0,nj N),Yv,(2,aa.map (eF ks++[MapEntry.mk (Qb x) T1 ks.length]) (ks.length+1))] 3 z zn)))))))))) (E6 78 z zn (R2 Y3 Yp (KO oe (nj N)/\Ys/\Q YO [qe,Yt] [(0,nj N),Yv] 3 z zn)))):RdT prog gP z Zw 78 (BJ N.np
 N.pc i) z [AP N,Yx,(2,bt ks)] 3 zn 3 Q:=K1t hyp ((tA 1 (tO (bS i) (tO (Qe kb x) (tA 3 ((tA 3 (tO (An.cl (ZK x N)) ((YDJ i z zn).fork (tO bc (tA 1 (tO bc (tO bc (tA 1 (tO bc (tO bc (tO (An.cl (ZJ x N)) (tO bc (tO bc ((YDK i z zn).fork (tO bc (tA 1 (tO bc (tO bc (tA 1 (tO bc ((YDL i z zn).fork (tO bc (tA 2 ((tA 5 (tO (An.cl (AG [I 4,IV i,cM])) (tA 1 (tE Y0 [] Yu (Ql i) 3 z zn)))).fork (tA 4 ((tA 2 (tO (An.cl (AG [I 4,IV i,cM])) (tA 1 (tE Y0 [] Yu (Ql i) 3 z zn)))).fork (tA 3 (Tr.find Nat (fun(x:Nat)=>(x,T1)) (YDM i z zn) (tA 2 (tO CJ (tO (dI i) (tE Y7 [] (Zx N i) [(0,nj N),Yv,(2,aa.map (eF ks++[MapEntry.mk (Qc x) T1 ks.length]) (ks.length+1))] 3 z zn)))))))))))))))))))))))))))))))).fork (tA 3 (tO (An.cl (ZK x N)) ((YDJ i z zn).fork (tO bc (tA 1 (tO bc (tO bc (tA 1 (tO bc (tO bc (tO (An.cl (ZJ x N)) (tO bc (tO bc ((YDK i z zn).fork (tO bc (tA 1 (tO bc (tO bc (tA 1 (tO bc ((YDL i z zn).fork (tO bc (tA 2 ((tA 5 (tO (An.cl (AG [I 4,IV i,cM])) (tA 1 (tE Y0 [] Yu (Ql i) 3 z zn)))).fork (tA 4 ((tA 2 (tO (An.cl (AG [I 4,IV i,cM])) (tA 1 (tE Y0 [] Yu (Ql i) 3 z zn)))).fork (tA 3 (Tr.find Nat (fun(x:Nat)=>(x,T1)) (YDM i z zn) (tA 2 (tO CJ (tO (dI i) (tE Y7 [] (Zx N i) [(0,nj N),Yv,(2,aa.map (eF ks++[MapEntry.mk (Qb x) T1 ks.length]) (ks.length+1))] 3 z zn))))))))))))))))))))))))))))))))))))).fork (tA 1 (tE dv [] [qe,Yt] [(0,nj N),Yv] 3 z zn)))
abbrev fY(cl:Bool):Value:=Value.bool cl
abbrev sR(cl:Bool):Unit->Value:=fun(x:Unit)=>fY cl
abbrev S3:Value:=AG [I 4,YM,I 18]
abbrev YDQ:Prop:=gP 45 [I 4,YM,I 18]=some S3
noncomputable abbrev YDR(z:T aa)(zn:Nat):Unit->Tr:=fun(x:Unit)=>(tO (An.cl S3) (tA 1 (tR [] [] S3 [] 0 z zn))).fork (tA 1 (tR [] [] yV [] 0 z zn))
theorem fcp(z:T aa)(zn:Nat)(N:aq)(r1 r2 r3:Int)(cl:Bool)(Q:QF)(hyp:Y1/\aj prog Zw 3 78 (BJ N.np N.pc 0) [AP N,Yx,(2,bt [])] 3 z zn (alt (r1≠0) (aA.mk af.ret Y2 [(1,du r1 r2 r3)] 3 z zn) (alt (r1=0) (aA.mk YO [(1,ip 0),(2,ip 1)] [AP N,Yx] 3 z zn) Al.nil)).R/\E6 78 z zn (R6 Y3 Yp Y4 (LF N) (IV N.np) YM (KO Y8 (nj N)/\Ys/\tG/\(∀(x:Unit),r1≠0->E6 78 z zn (Rs (wP r1 r2 r3)/\Q (wP r1 r2 r3) [] 0 z zn))/\ ∀(x:Unit),r1=0->aF prog z zn 83 [LF N,IV N.ns] [] 0 0 Yc (sR cl) Ye/\Rs [LF N,IV N.ns]/\ ∀(x:Unit),True->Rs (fY cl)/\Br (!cl) (Rf z/\YDQ/\E6 78 z zn (Rs S3/\Q S3 [] 0 z zn)) (E6 78 z zn (Rs yV/\Q yV [] 0 z zn))))):FnT prog gP z f49 [AG (N.iJ N.p1)] z [] 0 zn Q:=K1t hyp (tA 1 (Tr.lp 3 78 Y7 [] (BJ N.np N.pc 0) [AP N,Yx,(2,bt [])] 3 z zn (Al.cons Unit (Ta r1) (fun(x:Unit)=>aA.mk af.ret Y2 [(1,du r1 r2 r3)] 3 z zn) (fun(x:Unit)=>tR [] [] (wP r1 r2 r3) [] 0 z zn) (Al.cons Unit (Uu r1) (fun(x:Unit)=>aA.mk YO [(1,ip 0),(2,ip 1)] [AP N,Yx] 3 z zn) (fun(x:Unit)=>tA 2 (Tr.cm (Cm.mk [LF N,IV N.ns] [] 0 0 [] [] 3) Unit Yc (sR cl) Ye (sR cl) Ye (Yl z) (Ym zn) (YDR z zn))) Al.nil))))
abbrev O3(N:aq):aa:=BQ [YU N,YV N,YW N,YX N,Y5,YZ N,ZV N.d,ZV N.w,ZV N.c] 9 1 31
theorem aag(z:T aa)(zn:Nat)(N:aq)(Q:QL)(hyp:E6 78 z zn (R2 Y3 Yp (KO oe (O3 N)/\Ys/\Q YO [qe,Yt] [(0,O3 N),Yv] 3 z zn))):RdT prog gP z Zw 78 yb z [(0,N.cd an),Yx,(2,bt [])] 3 zn 3 Q:=K1t hyp (tA 2 (tE dv [] [qe,Yt] [(0,O3 N),Yv] 3 z zn))
theorem abl(z:T aa)(zn:Nat)(N:aq)(cl:Bool)(Q:QF)(hyp:Y1/\aj prog Zw 3 78 yb [(0,N.cd an),Yx,(2,bt [])] 3 z zn (alt True (aA.mk YO [(1,ip 0),(2,ip 1)] [(0,N.cd an),Yx] 3 z zn) Al.nil).R/\E6 78 z zn (R6 Y3 Yp Y4 Y5 YM YM (KO Y8 (O3 N)/\Ys/\tG/\ ∀(x:Unit),True->aF prog z zn 83 [Y5,IV N.ns] [] 0 0 Yc (sR cl) Ye/\Rs [Y5,IV N.ns]/\ ∀(x:Unit),True->Rs (fY cl)/\Br (!cl) (Rf z/\YDQ/\E6 78 z zn (Rs S3/\Q S3 [] 0 z zn)) (E6 78 z zn (Rs yV/\Q yV [] 0 z zn))))):FnT prog gP z f49 [AG (N.iJ an)] z [] 0 zn Q:=K1t hyp (tA 1 (Tr.lp 3 78 Y7 [] yb [(0,N.cd an),Yx,(2,bt [])] 3 z zn (Al.cons Unit Yc (fun(x:Unit)=>aA.mk YO [(1,ip 0),(2,ip 1)] [(0,N.cd an),Yx] 3 z zn) (fun(x:Unit)=>tA 2 (Tr.cm (Cm.mk [Y5,IV N.ns] [] 0 0 [] [] 3) Unit Yc (sR cl) Ye (sR cl) Ye (Yl z) (Ym zn) (YDR z zn))) Al.nil)))
end
noncomputable section
abbrev wN(x:aI):Value:=ZV x.fz1
abbrev Ui(kl:aV)(i:Nat)(x:aI):Prop:=ai prog kl 127 (0+i*5)=some (AG [wN x,ZV x.fc,ZV x.aB,ZV x.tc,Value.bool x.stay])
abbrev YDV(x:aI)(N:aq):Value:=Value.bool (decide (0<=x.fz1) && decide (x.fz1<(↑N.nu:Int)))
abbrev Uh(i:Nat):Prop:=gP 45 [I 3,IV i,gU]=some (AG [I 3,IV i,gU])
abbrev Ug(i:Nat):Prop:=Rs (BQ [I 3,IV i,gU] 3 1 103)
abbrev S2(i:Nat):List (Nat × aa):=[(1,BQ [I 3,IV i,gU] 3 1 103)]
abbrev YDZ(x:aI)(N:aq):Value:=Value.bool (decide (0<=x.aB) && decide (x.aB<(↑N.nu:Int)))
abbrev C1:Prop:=Rf 766
abbrev C0(z:T aa)(kr:aV):Prop:=z.get 1=rM kr
abbrev Ib(kr:aV)(f ma ca:Nat):Prop:=ai prog kr 64 (0+f*8+7)=some (SL (tF (6+f)) ma ca)
abbrev Hz(f:Nat):Prop:=Rf (tF (6+f))
abbrev Hy(z:T aa)(f:Nat)(ka:aV):Prop:=z.get (6+f)=rM ka
abbrev Uf(ka:aV)(fc:Nat)(sa:Int):Prop:=ai prog ka 3 (0+fc*5+0)=some (ZV sa)
abbrev YDg(i:Nat):Prop:=gP 45 [I 3,IV i,I 13]=some (AG [I 3,IV i,I 13])
abbrev S1(i:Nat):Prop:=gP 45 [I 3,IV i,I 19]=some (AG [I 3,IV i,I 19])
abbrev S0(i:Nat):Prop:=Rs (BQ [I 3,IV i,I 19] 3 1 103)
abbrev Qa(i:Nat):List (Nat × aa):=[(1,BQ [I 3,IV i,I 19] 3 1 103)]
abbrev Mf(x:aI):Value:=AG [wN x,ZV x.fc,ZV x.aB,ZV x.tc]
abbrev Ep(x:aI)(ks:List Value):Option (Option (Nat × Value)):=aE prog 153 (Mf x) (eF ks) 0
abbrev YDm(i:Nat):Prop:=gP 45 [I 3,IV i,I 6]=some (AG [I 3,IV i,I 6])
abbrev YDn(i:Nat):Prop:=Rs (BQ [I 3,IV i,I 6] 3 1 103)
abbrev Zv(i:Nat):List (Nat × aa):=[(1,BQ [I 3,IV i,I 6] 3 1 103)]
abbrev O2(N:aq):Value:=SL 510 N.nl N.lc
abbrev SZ:List (Nat × Nat):=[YB,Yz,Y6,(3,3),(4,4)]
abbrev Ue:Nat->Option Nat:=ay SZ []
abbrev SY(N:aq):List Value:=[YU N,YV N,SL 766 N.nu N.uc,O2 N,YY N,YZ N,ZV N.d,ZV N.w,ZV N.c]
abbrev Zu(N:aq):Prop:=KO Ue (BQ (SY N) 9 1 31)
abbrev Hx(ps:List (Int × Int)):aa:=aa.map (ju 0 ps) ps.length
abbrev Ud(N:aq)(i:Nat):List (Nat × Value):=[qe,Yt,(3,Y4),(4,MP 3),(5,MP 4),(22,O2 N),(23,IV N.nl),(24,IV (i+1))]
abbrev SX(N:aq):Nat × aa:=(0,BQ (SY N) 9 1 31)
abbrev Zt(is:List Value):Nat × aa:=(3,aa.map (eF is) is.length)
noncomputable abbrev Uc:Code:=ah (ag f47) 0
noncomputable abbrev Ub(kl:aV)(x:aI):An:=An.ld 0 kl (AG x.row)
noncomputable abbrev Uj(i:Nat)(z:T aa)(zn:Nat):Tr:=tO (An.cl (AG [I 3,IV i,gU])) (tA 1 (tE Y0 [] Yu (S2 i) 5 z zn))
noncomputable abbrev Ic(kr:aV)(f ma ca:Nat):An:=An.ld 1 kr (tb (6+f) ma ca)
noncomputable abbrev HA(f:Nat)(ka:aV)(sa:Int):An:=An.ld (6+f) ka (zv sa)
noncomputable abbrev YD3(i:Nat)(z:T aa)(zn:Nat):Tr:=tA 1 (tO (An.cl (AG [I 3,IV i,I 13])) (tA 1 (tE Y0 [] Yu [(1,BQ [I 3,IV i,I 13] 3 1 103)] 5 z zn)))
noncomputable abbrev S4(i:Nat)(z:T aa)(zn:Nat):Tr:=tO (An.cl (AG [I 3,IV i,I 19])) (tA 1 (tE Y0 [] Yu (Qa i) 5 z zn))
noncomputable abbrev YD5(i:Nat)(z:T aa)(zn:Nat):Nat->Tr:=fun(i_2:Nat)=>tA 1 (tO (An.cl (AG [I 3,IV i,I 6])) (tA 1 (tE Y0 [] Yu (Zv i) 5 z zn)))
theorem rk(z:T aa)(zn i:Nat)(N:aq)(kl kr ka kb:aV)(x:aI)(f tn fc tc ma ca mb cb:Nat)(sa sb:Int)(lb:Bool)(ps:List (Int × Int))(is ks:List Value)(Q:QL)(hyp:Br (decide ((↑i:Int)<(↑N.nl:Int))) (cG i/\i<N.nl/\Mm/\Ml z kl/\Ui kl i x/\Rf z/\gP 80 [wN x,IV N.nu]=some (YDV x N)/\Br (!(decide (0<=x.fz1) && decide (x.fz1<(↑N.nu:Int)))) ((!(decide (0<=x.fz1) && decide (x.fz1<(↑N.nu:Int))))=true/\(!(decide (0<=x.fz1) && decide (x.fz1<(↑N.nu:Int))))=true/\(!(decide (0<=x.fz1) && decide (x.fz1<(↑N.nu:Int))))=true/\(!(decide (0<=x.fz1) && decide (x.fz1<(↑N.nu:Int))))=true/\(!(decide (0<=x.fz1) && decide (x.fz1<(↑N.nu:Int))))=true/\(!(decide (0<=x.fz1) && decide (x.fz1<(↑N.nu:Int))))=true/\(!(decide (0<=x.fz1) && decide (x.fz1<(↑N.nu:Int))))=true/\Rf z/\Uh i/\E6 171 z zn (Yq/\Ug i/\Q af.ret Yu (S2 i) 5 z zn)) ((!(decide (0<=x.fz1) && decide (x.fz1<(↑N.nu:Int))))=false/\(!(decide (0<=x.fz1) && decide (x.fz1<(↑N.nu:Int))))=false/\(!(decide (0<=x.fz1) && decide (x.fz1<(↑N.nu:Int))))=false/\(!(decide (0<=x.fz1) && decide (x.fz1<(↑N.nu:Int))))=false/\(!(decide (0<=x.fz1) && decide (x.fz1<(↑N.nu:Int))))=false/\Rf z/\gP 80 [ZV x.aB,IV N.nu]=some (YDZ x N)/\(!(decide (0<=x.fz1) && decide (x.fz1<(↑N.nu:Int))))=false/\(!(decide (0<=x.fz1) && decide (x.fz1<(↑N.nu:Int))))=false/\Br (!(decide (0<=x.aB) && decide (x.aB<(↑N.nu:Int)))) ((!(decide (0<=x.aB) && decide (x.aB<(↑N.nu:Int))))=true/\(!(decide (0<=x.aB) && decide (x.aB<(↑N.nu:Int))))=true/\(!(decide (0<=x.aB) && decide (x.aB<(↑N.nu:Int))))=true/\(!(decide (0<=x.aB) && decide (x.aB<(↑N.nu:Int))))=true/\(!(decide (0<=x.aB) && decide (x.aB<(↑N.nu:Int))))=true/\Rf z/\Uh i/\E6 171 z zn (Yq/\Ug i/\Q af.ret Yu (S2 i) 5 z zn)) ((!(decide (0<=x.aB) && decide (x.aB<(↑N.nu:Int))))=false/\(!(decide (0<=x.aB) && decide (x.aB<(↑N.nu:Int))))=false/\(!(decide (0<=x.aB) && decide (x.aB<(↑N.nu:Int))))=false/\(!(decide (0<=x.aB) && decide (x.aB<(↑N.nu:Int))))=false/\Br (x.fz1==x.aB) ((!(decide (0<=x.aB) && decide (x.aB<(↑N.nu:Int))))=false/\Rf z/\Uh i/\E6 171 z zn (Yq/\Ug i/\Q af.ret Yu (S2 i) 5 z zn)) ((!(decide (0<=x.aB) && decide (x.aB<(↑N.nu:Int))))=false/\x.fz1=(↑f:Int)/\f<N.nu/\C1/\C0 z kr/\Ib kr f ma ca/\x.aB=(↑tn:Int)/\tn<N.nu/\C1/\C0 z kr/\Ib kr tn mb cb/\Rf z/\gP 80 [ZV x.fc,IV ma]=some (Value.bool (decide (0<=x.fc) && decide (x.fc<(↑ma:Int))))/\Br (!(decide (0<=x.fc) && decide (x.fc<(↑ma:Int)))) ((!(decide (0<=x.fc) && decide (x.fc<(↑ma:Int))))=true/\(!(decide (0<=x.fc) && decide (x.fc<(↑ma:Int))))=true/\(!(decide (0<=x.fc) && decide (x.fc<(↑ma:Int))))=true/\(!(decide (0<=x.fc) && decide (x.fc<(↑ma:Int))))=true/\(!(decide (0<=x.fc) && decide (x.fc<(↑ma:Int))))=true/\(!(decide (0<=x.fc) && decide (x.fc<(↑ma:Int))))=true/\Rf z/\Uh i/\E6 171 z zn (Yq/\Ug i/\Q af.ret Yu (S2 i) 5 z zn)) ((!(decide (0<=x.fc) && decide (x.fc<(↑ma:Int))))=false/\(!(decide (0<=x.fc) && decide (x.fc<(↑ma:Int))))=false/\(!(decide
 (0<=x.fc) && decide (x.fc<(↑ma:Int))))=false/\(!(decide (0<=x.fc) && decide (x.fc<(↑ma:Int))))=false/\Rf z/\gP 80 [ZV x.tc,IV mb]=some (Value.bool (decide (0<=x.tc) && decide (x.tc<(↑mb:Int))))/\(!(decide (0<=x.fc) && decide (x.fc<(↑ma:Int))))=false/\(!(decide (0<=x.fc) && decide (x.fc<(↑ma:Int))))=false/\Br (!(decide (0<=x.tc) && decide (x.tc<(↑mb:Int)))) (Rf z/\Uh i/\E6 171 z zn (Yq/\Ug i/\Q af.ret Yu (S2 i) 5 z zn)) (aE prog 3 (wN x) (ju 0 ps) 0≠none/\(∀(p:Nat × Value),aE prog 3 (wN x) (ju 0 ps) 0=YH p->Exists (YJ p))/\(∀(i_1:Nat × Int),aE prog 3 (wN x) (ju 0 ps) 0=some (some (YI i_1))->x.fc=(↑fc:Int)/\fc<ma/\Hz f/\Hy z f ka/\Uf ka fc sa/\x.tc=(↑tc:Int)/\tc<mb/\Hz tn/\Hy z tn kb/\Uf kb tc sb/\Br (sa !=sb) (Rf z/\YDg i/\E6 171 z zn (Yq/\Rs (BQ [I 3,IV i,I 13] 3 1 103)/\Q af.ret Yu [(1,BQ [I 3,IV i,I 13] 3 1 103)] 5 z zn)) (Br x.stay (WQ1 (x.fc+1)/\Br (x.fc+1 !=(↑ma:Int)) (Rf z/\S1 i/\E6 171 z zn (Yq/\S0 i/\Q af.ret Yu (Qa i) 5 z zn)) (Br (x.tc !=0) (Rf z/\S1 i/\E6 171 z zn (Yq/\S0 i/\Q af.ret Yu (Qa i) 5 z zn)) (Rf z/\S1 i/\E6 171 z zn (Yq/\S0 i/\Q af.ret Yu (Qa i) 5 z zn)))) (Ep x ks≠none/\(∀(p:Nat × Value),Ep x ks=YH p->Exists (Ig p))/\(∀(i_2:Nat),Ep x ks=Ie i_2->Rf z/\YDm i/\E6 171 z zn (Yq/\YDn i/\Q af.ret Yu (Zv i) 5 z zn))/\(Ep x ks=YL->Ep x ks=YL/\Value.bool x.stay=F0/\ZV (IntKind.i64.wrap ((↑i:Int)+1))=IV (i+1)/\E6 171 z zn (R8 Y3 Yp Y4 (MP 3) (MP 4) (O2 N) (IV N.nl) (IV (i+1)) (Zu N/\Ys/\K3 Ue (Hx ps) (aa.map (eF is) is.length) (aa.map (eF ks++[MapEntry.mk (Mf x) T1 ks.length]) (ks.length+1)) (Q aN (Ud N i) [SX N,Yv,(2,Hx ps),Zt is,(4,aa.map (eF ks++[MapEntry.mk (Mf x) T1 ks.length]) (ks.length+1))] 5 z zn)))))))/\(aE prog 3 (wN x) (ju 0 ps) 0=YL->x.fc=(↑fc:Int)/\fc<ma/\Hz f/\Hy z f ka/\Uf ka fc sa/\x.tc=(↑tc:Int)/\tc<mb/\Hz tn/\Hy z tn kb/\Uf kb tc sb/\Br (sa !=sb) (Rf z/\YDg i/\E6 171 z zn (Yq/\Rs (BQ [I 3,IV i,I 13] 3 1 103)/\Q af.ret Yu [(1,BQ [I 3,IV i,I 13] 3 1 103)] 5 z zn)) (Br x.stay (WQ1 (x.fc+1)/\Br (x.fc+1 !=(↑ma:Int)) (Rf z/\S1 i/\E6 171 z zn (Yq/\S0 i/\Q af.ret Yu (Qa i) 5 z zn)) (Br (x.tc !=0) (Rf z/\S1 i/\E6 171 z zn (Yq/\S0 i/\Q af.ret Yu (Qa i) 5 z zn)) (aE prog 3 (ZV x.aB) (eF is) 0≠none/\(∀(p:Nat × Value),aE prog 3 (ZV x.aB) (eF is) 0=YH p->Exists (Ig p))/\(∀(i_1:Nat),aE prog 3 (ZV x.aB) (eF is) 0=Ie i_1->Rf z/\S1 i/\E6 171 z zn (Yq/\S0 i/\Q af.ret Yu (Qa i) 5 z zn))/\(aE prog 3 (ZV x.aB) (eF is) 0=YL->(aF prog z zn 81 [YK,ZV x.aB,wN x] [(0,Hx ps)] 1 1 Yc (sR lb) fun(x:Unit)=>[(0,Hx ps)])/\Rs [Y4,ZV x.aB,wN x]/\KO (sig [(0,2)]) (Hx ps)/\ ∀(x_1:Unit),True->Rs (fY lb)/\KO (sig [(2,0)]) (Hx ps)/\Br lb (Rf z/\S1 i/\E6 171 z zn (Yq/\S0 i/\Q af.ret Yu (Qa i) 5 z zn)) (Ep x ks≠none/\(∀(p:Nat × Value),Ep x ks=YH p->Exists (Ig p))/\(∀(i_1:Nat),Ep x ks=Ie i_1->Rf z/\YDm i/\E6 171 z zn (Yq/\YDn i/\Q af.ret Yu (Zv i) 5 z zn))/\(Ep x ks=YL->Ep x
 ks=YL/\Value.bool x.stay=T1/\aE prog 3 (wN x) (ju 0 ps) 0=YL/\aE prog 3 (ZV x.aB) (eF is) 0=YL/\ZV (IntKind.i64.wrap ((↑i:Int)+1))=IV (i+1)/\E6 171 z zn (R8 Y3 Yp Y4 (MP 3) (MP 4) (O2 N) (IV N.nl) (IV (i+1)) (Zu N/\Ys/\K3 Ue (aa.map (ju 0 ps++[MapEntry.mk (wN x) (ZV x.aB) ps.length]) (ps.length+1)) (aa.map (eF is++[MapEntry.mk (ZV x.aB) T1 is.length]) (is.length+1)) (aa.map (eF ks++[MapEntry.mk (Mf x) T1 ks.length]) (ks.length+1)) (Q aN (Ud N i) [SX N,Yv,(2,aa.map (ju 0 ps++[MapEntry.mk (wN x) (ZV x.aB) ps.length]) (ps.length+1)),(3,aa.map (eF is++[MapEntry.mk (ZV x.aB) T1 is.length]) (is.length+1)),(4,aa.map (eF ks++[MapEntry.mk (Mf x) T1 ks.length]) (ks.length+1))] 5 z zn))))))))) (Ep x ks≠none/\(∀(p:Nat × Value),Ep x ks=YH p->Exists (Ig p))/\(∀(i_1:Nat),Ep x ks=Ie i_1->Rf z/\YDm i/\E6 171 z zn (Yq/\YDn i/\Q af.ret Yu (Zv i) 5 z zn))/\(Ep x ks=YL->Ep x ks=YL/\Value.bool x.stay=F0/\ZV (IntKind.i64.wrap ((↑i:Int)+1))=IV (i+1)/\E6 171 z zn (R8 Y3 Yp Y4 (MP 3) (MP 4) (O2 N) (IV N.nl) (IV (i+1)) (Zu N/\Ys/\K3 Ue (Hx ps) (aa.map (eF is) is.length) (aa.map (eF ks++[MapEntry.mk (Mf x) T1 ks.length]) (ks.length+1)) (Q aN (Ud N i) [SX N,Yv,(2,Hx ps),Zt is,(4,aa.map (eF ks++[MapEntry.mk (Mf x) T1 ks.length]) (ks.length+1))] 5 z zn))))))))))))) (E6 171 z zn (Yq/\Ys/\Q YO Yu [Yv] 5 z zn))):RdT prog gP z Uc 171 (Gz N.nl N.lc i) z [(0,N.cH N.u1 N.l1),Yx,(2,vM ps),(3,bt is),(4,bt ks)] 5 zn 5 Q:=K1t hyp ((tA 1 (tO (bS i) (tO (Ub kl x) (tA 3 (tO (An.cl (YDV x N)) ((tO bI (tO bI (tO bI (tO bI (tO bI (tO bI (tO bI (tA 7 (Uj i z zn))))))))).fork (tO bc (tA 1 (tO bc (tO bc (tA 1 (tO bc (tO bc (tO (An.cl (YDZ x N)) (tO bc (tO bc ((tO bI (tO bI (tO bI (tO bI (tO bI (tA 1 (Uj i z zn))))))).fork (tO bc (tA 1 (tO bc (tO bc (tA 1 (tO bc ((tO bc (tA 1 (Uj i z zn))).fork (tO bc (tA 3 (tO (bS f) (tO (Ic kr f ma ca) (tA 2 (tO (bS tn) (tO (Ic kr tn mb cb) (tA 1 (tO (An.cl (Value.bool (decide (0<=x.fc) && decide (x.fc<(↑ma:Int))))) ((tO bI (tO bI (tO bI (tO bI (tO bI (tO bI (tA 1 (Uj i z zn)))))))).fork (tO bc (tA 1 (tO bc (tO bc (tO bc (tO (An.cl (Value.bool (decide (0<=x.tc) && decide (x.tc<(↑mb:Int))))) (tO bc (tO bc ((Uj i z zn).fork (tA 6 (Tr.find (Nat × Int) YI (fun(i_1:Nat × Int)=>tA 1 (tO (bS fc) (tO (HA f ka sa) (tA 1 (tO (bS tc) (tO (HA tn kb sb) ((YD3 i z zn).fork (tA 1 ((tA 4 (tO (An.val (ZV (x.fc+1))) (tA 3 ((tA 28 (S4 i z zn)).fork (tA 5 ((tA 24 (S4 i z zn)).fork (tA 24 (S4 i z zn)))))))).fork (tA 17 (Tr.find Nat (fun(x:Nat)=>(x,T1)) (YD5 i z zn) (tA 2 (tO CJ (tO kx (tA 1 (tO (dI i) (tE SZ [] (Ud N i) [SX N,Yv,(2,Hx ps),Zt is,(4,aa.map (eF ks++[MapEntry.mk (Mf x) T1 ks.length]) (ks.length+1))] 5 z zn))))))))))))))))) (tA 1 (tO (bS fc) (tO (HA f ka sa) (tA 1 (tO (bS tc) (tO (HA tn kb sb) ((YD3 i z zn).fork (tA 1 ((tA 4 (tO (An.val (ZV (x.fc+1))) (tA 3 ((tA 28 (S4 i z zn)).fork (tA 5 ((tA 24 (S4 i z zn)).fork (tA 12
 (Tr.find Nat (fun(x:Nat)=>(x,T1)) (fun(i_1:Nat)=>tA 13 (S4 i z zn)) (tA 11 (Tr.cm (Cm.mk [YK,ZV x.aB,wN x] [(0,Hx ps)] 1 1 [(0,2)] [(2,0)] 7) Unit Yc (sR lb) (fun(x:Unit)=>[(0,Hx ps)]) (sR lb) (fun(x:Unit)=>[(2,Hx ps)]) (Yl z) (Ym zn) fun(x_1:Unit)=>tA 3 ((S4 i z zn).fork (tA 1 (Tr.find Nat (fun(x:Nat)=>(x,T1)) (YD5 i z zn) (tA 2 (tO CJ (tO kI (tA 4 (tO CJ (tO CJ (tO (dI i) (tE SZ [] (Ud N i) [SX N,Yv,(2,aa.map (ju 0 ps++[MapEntry.mk (wN x) (ZV x.aB) ps.length]) (ps.length+1)),(3,aa.map (eF is++[MapEntry.mk (ZV x.aB) T1 is.length]) (is.length+1)),(4,aa.map (eF ks++[MapEntry.mk (Mf x) T1 ks.length]) (ks.length+1))] 5 z zn))))))))))))))))))))).fork (tA 17 (Tr.find Nat (fun(x:Nat)=>(x,T1)) (YD5 i z zn) (tA 2 (tO CJ (tO kx (tA 1 (tO (dI i) (tE SZ [] (Ud N i) [SX N,Yv,(2,Hx ps),Zt is,(4,aa.map (eF ks++[MapEntry.mk (Mf x) T1 ks.length]) (ks.length+1))] 5 z zn)))))))))))))))))))))))))))))))))))))))))))))))))))))))))))))).fork (tA 1 (tE Y0 [] Yu [Yv] 5 z zn)))
abbrev YD6(N:aq):List (Nat × aa):=[(0,N.cH an N.l1),Yx,(2,Y9),(3,bt []),(4,bt [])]
theorem rkn(z:T aa)(zn i:Nat)(N:aq)(kl:aV)(x:aI)(Q:QL)(hyp:Br (decide ((↑i:Int)<(↑N.nl:Int))) (cG i/\i<N.nl/\Mm/\Ml z kl/\Ui kl i x/\Rf z/\gP 80 [wN x,YM]=some F0/\Rf z/\Uh i/\E6 171 z zn (Yq/\Ug i/\Q af.ret Yu (S2 i) 5 z zn)) (E6 171 z zn (Yq/\Ys/\Q YO Yu [Yv] 5 z zn))):RdT prog gP z Uc 171 (Gz N.nl N.lc i) z (YD6 N) 5 zn 5 Q:=K1t hyp ((tA 1 (tO (bS i) (tO (Ub kl x) (tA 3 (tO (An.cl F0) (tA 15 (Uj i z zn))))))).fork (tA 1 (tE Y0 [] Yu [Yv] 5 z zn)))
abbrev Mg:Value:=AG [I 3,YM,I 5]
noncomputable abbrev YD8(r1 r2 r3:Int)(z:T aa)(zn:Nat):aA->Prop:=(alt True (aA.mk af.ret Y2 [(1,du r1 r2 r3)] 5 z zn) (alt (r1=0/\r2=0/\r3=0) (aA.mk YO Y2 [Yx] 5 z zn) Al.nil)).R
noncomputable abbrev YD9(r1 r2 r3:Int)(z:T aa)(zn:Nat):Al:=Al.cons Unit Yc (fun(x:Unit)=>aA.mk af.ret Y2 [(1,du r1 r2 r3)] 5 z zn) (fun(x:Unit)=>tR [] [] (wP r1 r2 r3) [] 0 z zn) (Al.cons Unit (fun(x:Unit)=>r1=0/\r2=0/\r3=0) (fun(x:Unit)=>aA.mk YO Y2 [Yx] 5 z zn) (ZP z zn) Al.nil)
theorem fk(z:T aa)(zn:Nat)(N:aq)(u:Value)(r1 r2 r3:Int)(Q:QF)(hyp:Br (decide ((↑N.nl:Int)>1024)) (Rf z/\gP 45 [I 3,YM,I 5]=some Mg/\E6 171 z zn (Rs Mg/\Q Mg [] 0 z zn)) (Rf 5/\aj prog Uc 5 171 (Gz N.nl N.lc 0) [(0,N.cH N.u1 N.l1),Yx,(2,Y9),(3,bt []),(4,bt [])] 5 z zn (YD8 r1 r2 r3 z zn)/\E6 171 z zn (R8 Y3 Yp Y4 (MP 3) (MP 4) (O2 N) (IV N.nl) YM (Zu N/\Ys/\tG/\tG/\tG/\(∀(x:Unit),True->E6 171 z zn (Rs (wP r1 r2 r3)/\Q (wP r1 r2 r3) [] 0 z zn))/\ ∀(x:Unit),r1=0/\r2=0/\r3=0->E6 171 z zn (Rs yV/\Q yV [] 0 z zn))))):FnT prog gP z f47 [AG (N.ed N.u1 N.l1)] z [] 0 zn Q:=K1t hyp (tA 1 ((tA 1 (tO (An.cl Mg) (tA 1 (tR [] [] Mg [] 0 z zn)))).fork (tA 2 (Tr.lp 5 171 SZ [] (Gz N.nl N.lc 0) [(0,N.cH N.u1 N.l1),Yx,(2,Y9),(3,bt []),(4,bt [])] 5 z zn (YD9 r1 r2 r3 z zn)))))
theorem fkn(z:T aa)(zn:Nat)(N:aq)(u:Value)(r1 r2 r3:Int)(Q:QF)(hyp:Br (decide ((↑N.nl:Int)>1024)) (Rf z/\gP 45 [I 3,YM,I 5]=some Mg/\E6 171 z zn (Rs Mg/\Q Mg [] 0 z zn)) (Rf 5/\aj prog Uc 5 171 (Gz N.nl N.lc 0) (YD6 N) 5 z zn (YD8 r1 r2 r3 z zn)/\E6 171 z zn (R8 Y3 Yp Y4 (MP 3) (MP 4) (O2 N) (IV N.nl) YM (KO Ue (BQ [YU N,YV N,Y5,O2 N,YY N,YZ N,ZV N.d,ZV N.w,ZV N.c] 9 1 31)/\Ys/\tG/\tG/\tG/\(∀(x:Unit),True->E6 171 z zn (Rs (wP r1 r2 r3)/\Q (wP r1 r2 r3) [] 0 z zn))/\ ∀(x:Unit),r1=0/\r2=0/\r3=0->E6 171 z zn (Rs yV/\Q yV [] 0 z zn))))):FnT prog gP z f47 [AG (N.ed an N.l1)] z [] 0 zn Q:=K1t hyp (tA 1 ((tA 1 (tO (An.cl Mg) (tA 1 (tR [] [] Mg [] 0 z zn)))).fork (tA 2 (Tr.lp 5 171 SZ [] (Gz N.nl N.lc 0) (YD6 N) 5 z zn (YD9 r1 r2 r3 z zn)))))
abbrev YEA(N:aq):List (Nat × aa):=[(0,N.cH N.u0 an),Yx,(2,Y9),(3,bt []),(4,bt [])]
theorem rkz(z:T aa)(zn:Nat)(N:aq)(Q:QL)(hyp:E6 171 z zn (Yq/\Ys/\Q YO Yu [Yv] 5 z zn)):RdT prog gP z Uc 171 Gy z (YEA N) 5 zn 5 Q:=K1t hyp (tA 2 (tE Y0 [] Yu [Yv] 5 z zn))
theorem fkz(z:T aa)(zn:Nat)(N:aq)(Q:QF)(hyp:Rf 5/\aj prog Uc 5 171 Gy (YEA N) 5 z zn (alt True (aA.mk YO Y2 [Yx] 5 z zn) Al.nil).R/\E6 171 z zn (R8 Y3 Yp Y4 (MP 3) (MP 4) Y5 YM YM (KO Ue (BQ [YU N,YV N,YW N,Y5,YY N,YZ N,ZV N.d,ZV N.w,ZV N.c] 9 1 31)/\Ys/\tG/\tG/\tG/\ ∀(x:Unit),True->E6 171 z zn (Rs yV/\Q yV [] 0 z zn)))):FnT prog gP z f47 [AG (N.ed N.u0 an)] z [] 0 zn Q:=K1t hyp (tA 4 (Tr.lp 5 171 SZ [] Gy (YEA N) 5 z zn (Al.cons Unit Yc (fun(x:Unit)=>aA.mk YO Y2 [Yx] 5 z zn) (ZP z zn) Al.nil)))
end
noncomputable section
abbrev CI(N:aq):aa:=BQ [YU N,YV N,YW N,O2 N,YY N,YZ N,ZV N.d,ZV N.w,ZV N.c] 9 1 31
abbrev eM(i:Nat):Nat × Value:=(1,IV i)
abbrev Zr(i:Nat)(f tt:Int)(j:Nat)(m:Int)(k:Nat):List (Nat × Value):=[eM i,(2,ZV f),(3,ZV tt),(4,Y3),(9,IV j),(10,ZV m),(11,IV (k+1))]
noncomputable abbrev Zq:Code:=ah (ag f121) 0
abbrev P9(N:aq):List (Nat × aa):=[(0,N.cH N.u0 N.l1)]
theorem rlk(z:T aa)(zn i k j:Nat)(N:aq)(kb:aV)(y:aI)(f tt m:Int)(Q:QL)(hyp:Br (decide ((↑k:Int)<(↑i:Int))) (cG k/\k<N.nl/\Mm/\Ml z kb/\ai prog kb 4 (0+k*5+4)=some (Value.bool y.stay)/\Br y.stay (y.stay=true/\y.stay=true/\y.stay=true/\cG k/\k<N.nl/\y.stay=true/\y.stay=true/\Mm/\Ml z kb/\ai prog kb 3 (0+k*5+0)=some (wN y)/\y.stay=true/\y.stay=true/\Br (y.fz1==f) (y.stay=true/\cG k/\k<N.nl/\Mm/\Ml z kb/\ai prog kb 3 (0+k*5+2)=some (ZV y.aB)/\ZV (IntKind.i64.wrap ((↑k:Int)+1))=IV (k+1)/\E6 48 z zn (R7 (IV i) (ZV f) (ZV tt) Y3 (IV j) (ZV y.aB) (IV (k+1)) (KO YD (CI N)/\Q aN [eM i,(2,ZV f),(3,ZV tt),(4,Y3),(9,IV j),(10,ZV y.aB),(11,IV (k+1))] [(0,CI N)] 1 z zn))) (y.stay=true/\ZV (IntKind.i64.wrap ((↑k:Int)+1))=IV (k+1)/\E6 48 z zn (R7 (IV i) (ZV f) (ZV tt) Y3 (IV j) (ZV m) (IV (k+1)) (KO YD (CI N)/\Q aN (Zr i f tt j m k) [(0,CI N)] 1 z zn)))) (y.stay=false/\y.stay=false/\y.stay=false/\y.stay=false/\y.stay=false/\y.stay=false/\y.stay=false/\y.stay=false/\ZV (IntKind.i64.wrap ((↑k:Int)+1))=IV (k+1)/\E6 48 z zn (R7 (IV i) (ZV f) (ZV tt) Y3 (IV j) (ZV m) (IV (k+1)) (KO YD (CI N)/\Q aN (Zr i f tt j m k) [(0,CI N)] 1 z zn)))) (E6 48 z zn (R6 (IV i) (ZV f) (ZV tt) Y3 (IV j) (ZV m) (KO YD (CI N)/\Q iy [eM i,(2,ZV f),(3,ZV tt),(4,Y3),(9,IV j),(10,ZV m)] [(0,CI N)] 1 z zn)))):RdT prog gP z (ah Zq 0) 48 (te i f tt j m k) z (P9 N) 1 zn 1 Q:=K1t hyp ((tA 2 (tO (bS k) (tO (An.ld 0 kb (Value.bool y.stay)) ((tO bI (tA 1 (tO bI (tO bI (tO (bS k) (tO bI (tO bI (tO (An.ld 0 kb (zv y.fz1)) (tO bI (tO bI ((tO bI (tA 2 (tO (bS k) (tO (An.ld 0 kb (zv y.aB)) (tO (dI k) (tE YC [] [eM i,(2,ZV f),(3,ZV tt),(4,Y3),(9,IV j),(10,ZV y.aB),(11,IV (k+1))] [(0,CI N)] 1 z zn)))))).fork (tO bI (tA 1 (tO (dI k) (tE YC [] (Zr i f tt j m k) [(0,CI N)] 1 z zn))))))))))))))).fork (tO bc (tO bc (tO bc (tO bc (tO bc (tO bc (tO bc (tO bc (tA 1 (tO (dI k) (tE YC [] (Zr i f tt j m k) [(0,CI N)] 1 z zn))))))))))))))).fork (tA 1 (tE YC [] [eM i,(2,ZV f),(3,ZV tt),(4,Y3),(9,IV j),(10,ZV m)] [(0,CI N)] 1 z zn)))
theorem rlj(z:T aa)(zn i j:Nat)(N:aq)(r f tt:Int)(Q:QL)(hyp:Br (decide ((↑j:Int)<=(↑i:Int))) (YP/\aj prog (ah Zq 0) 1 48 (te i f tt j (-1) 0) (P9 N) 1 z zn (alt True (aA.mk iy (Jk i f tt j r) (P9 N) 1 z zn) Al.nil).R/\E6 48 z zn (R7 (IV i) (ZV f) (ZV tt) Y3 (IV j) (J 0) YM (KO YD (CI N)/\ ∀(x:Unit),True->Br (r==tt) (E6 48 z zn (YA/\Q af.ret [(8,T1)] [] 1 z zn)) (ZV (IntKind.i64.wrap ((↑j:Int)+1))=IV (j+1)/\E6 48 z zn (R5 (IV i) (ZV r) (ZV tt) Y3 (IV (j+1)) (KO YD (CI N)/\Q aN [eM i,(2,ZV r),(3,ZV tt),(4,Y3),HE j] [(0,CI N)] 1 z zn)))))) (E6 48 z zn (Q YO [] [] 1 z zn))):RdT prog gP z Zq 48 (Gu i f tt j) z (P9 N) 1 zn 1 Q:=K1t hyp ((tA 1 (Tr.lp 1 48 YC [] (te i f tt j (-1) 0) (P9 N) 1 z zn (Al.cons Unit Yc (fun(x:Unit)=>aA.mk iy (Jk i f tt j r) (P9 N) 1 z zn) (fun(x:Unit)=>(tA 1 (tE [] [] [(8,T1)] [] 1 z zn)).fork (tA 1 (tO (dI j) (tE YC [] [eM i,(2,ZV r),(3,ZV tt),(4,Y3),HE j] [(0,CI N)] 1 z zn)))) Al.nil))).fork (W1 z zn))
theorem frl(z:T aa)(zn i:Nat)(N:aq)(f tt:Int)(b:Bool)(Q:QF)(hyp:YP/\aj prog Zq 1 48 (Gu i f tt 0) (P9 N) 1 z zn (alt (b=true) (aA.mk af.ret [(8,T1)] [] 1 z zn) (alt (b=false) (aA.mk YO [] [] 1 z zn) Al.nil)).R/\E6 48 z zn (R5 (IV i) (ZV f) (ZV tt) Y3 YM (KO YD (CI N)/\(∀(x:Unit),b=true->E6 48 z zn (YA/\Q T1 [] 0 z zn))/\ ∀(x:Unit),b=false->E6 48 z zn (YQ/\Q F0 [] 0 z zn)))):FnT prog gP z f121 [AG (N.ed N.u0 N.l1),iv i,zv f,zv tt] z [] 0 zn Q:=K1t hyp (Tr.lp 1 48 YC [] (Gu i f tt 0) (P9 N) 1 z zn (Al.cons Unit (YR b) (fun(x:Unit)=>aA.mk af.ret [(8,T1)] [] 1 z zn) (S6 z zn) (Al.cons Unit (YS b) (fun(x:Unit)=>aA.mk YO [] [] 1 z zn) (fun(x:Unit)=>Yo z zn) Al.nil)))
abbrev SW:Prop:=Rs (I 19)
abbrev Ia(N:aq):Prop:=KO oe (BQ (SY N) 9 1 31)
abbrev Hw(x:aI):aa:=BQ [wN x,ZV x.fc,ZV x.aB,ZV x.tc,Value.bool x.stay] 5 1 127
abbrev sQ:Nat × Value:=(2,Y3)
abbrev F2(N:aq)(x:aI):List (Nat × aa):=[SX N,(1,Hw x)]
abbrev Me(N:aq)(x:aI):List (Nat × aa):=[(0,N.cH N.u1 N.l1),(1,HP x)]
noncomputable abbrev YEM(k i:Nat)(N:aq)(x:aI)(z:T aa)(zn:Nat):Tr:=tO (dI k) (tE dv [] [eM i,sQ,(5,Yp),C4 k] (F2 N x) 2 z zn)
theorem UN(z:T aa)(zn i k:Nat)(N:aq)(kb:aV)(x y:aI)(Q:QL)(hyp:Br (decide ((↑k:Int)<(↑i:Int))) (cG k/\k<N.nl/\Mm/\Ml z kb/\Ui kb k y/\Br x.stay (Br y.stay (Br (y.fz1==x.fz1) (E6 177 z zn (SW/\Q af.ret [(4,I 19)] [] 2 z zn)) (Br (y.aB==x.aB) (E6 177 z zn (SW/\Q af.ret [(4,I 19)] [] 2 z zn)) (ZV (IntKind.i64.wrap ((↑k:Int)+1))=IV (k+1)/\E6 177 z zn (R4 (IV i) Y3 Yp (IV (k+1)) (Ia N/\Rs (Hw x)/\Q aN [eM i,sQ,(5,Yp),C4 k] (F2 N x) 2 z zn))))) (ZV (IntKind.i64.wrap ((↑k:Int)+1))=IV (k+1)/\E6 177 z zn (R4 (IV i) Y3 Yp (IV (k+1)) (Ia N/\Rs (Hw x)/\Q aN [eM i,sQ,(5,Yp),C4 k] (F2 N x) 2 z zn)))) (ZV (IntKind.i64.wrap ((↑k:Int)+1))=IV (k+1)/\E6 177 z zn (R4 (IV i) Y3 Yp (IV (k+1)) (Ia N/\Rs (Hw x)/\Q aN [eM i,sQ,(5,Yp),C4 k] (F2 N x) 2 z zn)))) (E6 177 z zn (R3 (IV i) Y3 Yp (Ia N/\Rs (Hw x)/\Q YO [eM i,sQ,(5,Yp)] (F2 N x) 2 z zn)))):RdT prog gP z (ah (ag f74) 0) 177 (zN i k) z (Me N x) 2 zn 2 Q:=K1t hyp ((tA 2 (tO (bS k) (tO (Ub kb y) (tA 1 ((tA 2 ((tA 8 ((tA 10 (tE [] [] [(4,I 19)] [] 2 z zn)).fork (tA 8 ((tA 4 (tE [] [] [(4,I 19)] [] 2 z zn)).fork (tA 4 (YEM k i N x z zn)))))).fork (tA 10 (YEM k i N x z zn)))).fork (tA 12 (YEM k i N x z zn))))))).fork (tA 1 (tE dv [] [eM i,sQ,(5,Yp)] (F2 N x) 2 z zn)))
abbrev P8(i k:Nat):List (Nat × Value):=[eM i,sQ,(5,Yp),(10,IV (k+1))]
noncomputable abbrev T9(z:T aa)(zn:Nat):Tr:=tA 1 (tE [] [] [] [] 2 z zn)
theorem UM(z:T aa)(zn i k:Nat)(N:aq)(kb:aV)(x y:aI)(Q:QL)(hyp:Br (decide ((↑k:Int)<(↑i:Int))) (cG k/\k<N.nl/\Mm/\Ml z kb/\Ui kb k y/\Br (y.fz1==x.fz1) (Br (y.fc==x.fc) (Br (y.aB==x.aB) (Br (y.tc==x.tc) (E6 177 z zn (Rs (I 6)/\Q af.ret [(4,I 6)] [] 2 z zn)) (ZV (IntKind.i64.wrap ((↑k:Int)+1))=IV (k+1)/\E6 177 z zn (R4 (IV i) Y3 Yp (IV (k+1)) (Ia N/\Rs (Hw x)/\Q aN (P8 i k) (F2 N x) 2 z zn)))) (ZV (IntKind.i64.wrap ((↑k:Int)+1))=IV (k+1)/\E6 177 z zn (R4 (IV i) Y3 Yp (IV (k+1)) (Ia N/\Rs (Hw x)/\Q aN (P8 i k) (F2 N x) 2 z zn)))) (ZV (IntKind.i64.wrap ((↑k:Int)+1))=IV (k+1)/\E6 177 z zn (R4 (IV i) Y3 Yp (IV (k+1)) (Ia N/\Rs (Hw x)/\Q aN (P8 i k) (F2 N x) 2 z zn)))) (ZV (IntKind.i64.wrap ((↑k:Int)+1))=IV (k+1)/\E6 177 z zn (R4 (IV i) Y3 Yp (IV (k+1)) (Ia N/\Rs (Hw x)/\Q aN (P8 i k) (F2 N x) 2 z zn)))) (E6 177 z zn (Q iy [] [] 2 z zn))):RdT prog gP z (ah (ag f74) 1) 177 (BG i k) z (Me N x) 2 zn 2 Q:=K1t hyp ((tA 2 (tO (bS k) (tO (Ub kb y) (tA 3 ((tA 7 ((tA 8 ((tA 8 ((tA 2 (tE [] [] [(4,I 6)] [] 2 z zn)).fork (tA 2 (tO (dI k) (tE dv [] (P8 i k) (F2 N x) 2 z zn))))).fork (tA 8 (tO (dI k) (tE dv [] (P8 i k) (F2 N x) 2 z zn))))).fork (tA 14 (tO (dI k) (tE dv [] (P8 i k) (F2 N x) 2 z zn))))).fork (tA 19 (tO (dI k) (tE dv [] (P8 i k) (F2 N x) 2 z zn)))))))).fork (T9 z zn))
abbrev Hv:Prop:=Rs gU
abbrev YEQ(i:Nat)(N:aq)(x:aI)(z:T aa)(zn:Nat)(va:Bool):Prop:=aj prog (ah (ag f74) 0) 2 177 (zN i 0) (Me N x) 2 z zn (alt (va=true) (aA.mk af.ret [(4,I 19)] [] 2 z zn) (alt (va=false) (aA.mk YO (Nc i) (Me N x) 2 z zn) Al.nil)).R
abbrev YER(i:Nat)(N:aq)(x:aI)(z:T aa)(zn:Nat)(vb:Bool):Prop:=aj prog (ah (ag f74) 1) 2 177 (BG i 0) (Me N x) 2 z zn (alt (vb=true) (aA.mk af.ret [(4,I 6)] [] 2 z zn) (alt (vb=false) (aA.mk iy [] [] 2 z zn) Al.nil)).R
noncomputable abbrev LB(z:T aa)(zn:Nat):Tr:=tR [] [] gU [] 0 z zn
noncomputable abbrev YET(i:Nat)(N:aq)(x:aI)(z:T aa)(zn:Nat)(vb:Bool):Tr:=Tr.lp 2 177 dv [] (BG i 0) (Me N x) 2 z zn (Al.cons Unit (YR vb) (fun(x:Unit)=>aA.mk af.ret [(4,I 6)] [] 2 z zn) (fun(x:Unit)=>tR [] [] (I 6) [] 0 z zn) (Al.cons Unit (YS vb) (fun(x:Unit)=>aA.mk iy [] [] 2 z zn) (fun(x:Unit)=>Ij z zn) Al.nil))
theorem flk(z:T aa)(zn i:Nat)(N:aq)(kl kr ka kb:aV)(x:aI)(f tn fc tc ma ca mb cb:Nat)(sa sb:Int)(lb va vb:Bool)(Q:QF)(hyp:cG i/\i<N.nl/\Mm/\Ml z kl/\Ui kl i x/\WQ1 ((↑N.nu:Int) - 1)/\Rf z/\gP 119 [wN x,YM,ZV ((↑N.nu:Int) - 1)]=some (Value.bool (decide (0<=x.fz1) && decide (x.fz1<=(↑N.nu:Int) - 1)))/\Br (!(decide (0<=x.fz1) && decide (x.fz1<=(↑N.nu:Int) - 1))) ((!(decide (0<=x.fz1) && decide (x.fz1<=(↑N.nu:Int) - 1)))=true/\(!(decide (0<=x.fz1) && decide (x.fz1<=(↑N.nu:Int) - 1)))=true/\(!(decide (0<=x.fz1) && decide (x.fz1<=(↑N.nu:Int) - 1)))=true/\(!(decide (0<=x.fz1) && decide (x.fz1<=(↑N.nu:Int) - 1)))=true/\(!(decide (0<=x.fz1) && decide (x.fz1<=(↑N.nu:Int) - 1)))=true/\(!(decide (0<=x.fz1) && decide (x.fz1<=(↑N.nu:Int) - 1)))=true/\(!(decide (0<=x.fz1) && decide (x.fz1<=(↑N.nu:Int) - 1)))=true/\(!(decide (0<=x.fz1) && decide (x.fz1<=(↑N.nu:Int) - 1)))=true/\E6 177 z zn (Hv/\Q gU [] 0 z zn)) ((!(decide (0<=x.fz1) && decide (x.fz1<=(↑N.nu:Int) - 1)))=false/\(!(decide (0<=x.fz1) && decide (x.fz1<=(↑N.nu:Int) - 1)))=false/\(!(decide (0<=x.fz1) && decide (x.fz1<=(↑N.nu:Int) - 1)))=false/\(!(decide (0<=x.fz1) && decide (x.fz1<=(↑N.nu:Int) - 1)))=false/\(!(decide (0<=x.fz1) && decide (x.fz1<=(↑N.nu:Int) - 1)))=false/\WQ1 ((↑N.nu:Int) - 1)/\(!(decide (0<=x.fz1) && decide (x.fz1<=(↑N.nu:Int) - 1)))=false/\Rf z/\gP 119 [ZV x.aB,YM,ZV ((↑N.nu:Int) - 1)]=some (Value.bool (decide (0<=x.aB) && decide (x.aB<=(↑N.nu:Int) - 1)))/\(!(decide (0<=x.fz1) && decide (x.fz1<=(↑N.nu:Int) - 1)))=false/\(!(decide (0<=x.fz1) && decide (x.fz1<=(↑N.nu:Int) - 1)))=false/\Br (!(decide (0<=x.aB) && decide (x.aB<=(↑N.nu:Int) - 1))) ((!(decide (0<=x.aB) && decide (x.aB<=(↑N.nu:Int) - 1)))=true/\(!(decide (0<=x.aB) && decide (x.aB<=(↑N.nu:Int) - 1)))=true/\(!(decide (0<=x.aB) && decide (x.aB<=(↑N.nu:Int) - 1)))=true/\(!(decide (0<=x.aB) && decide (x.aB<=(↑N.nu:Int) - 1)))=true/\(!(decide (0<=x.aB) && decide (x.aB<=(↑N.nu:Int) - 1)))=true/\E6 177 z zn (Hv/\Q gU [] 0 z zn)) ((!(decide (0<=x.aB) && decide (x.aB<=(↑N.nu:Int) - 1)))=false/\(!(decide (0<=x.aB) && decide (x.aB<=(↑N.nu:Int) - 1)))=false/\(!(decide (0<=x.aB) && decide (x.aB<=(↑N.nu:Int) - 1)))=false/\(!(decide (0<=x.aB) && decide (x.aB<=(↑N.nu:Int) - 1)))=false/\Br (x.fz1==x.aB) ((!(decide (0<=x.aB) && decide (x.aB<=(↑N.nu:Int) - 1)))=false/\E6 177 z zn (Hv/\Q gU [] 0 z zn)) ((!(decide (0<=x.aB) && decide (x.aB<=(↑N.nu:Int) - 1)))=false/\x.fz1=(↑f:Int)/\f<N.nu/\C1/\C0 z kr/\Ib kr f ma ca/\x.aB=(↑tn:Int)/\tn<N.nu/\C1/\C0 z kr/\Ib kr tn mb cb/\WQ1 ((↑ma:Int) - 1)/\Rf z/\gP 119 [ZV x.fc,YM,ZV ((↑ma:Int) - 1)]=some (Value.bool (decide (0<=x.fc) && decide (x.fc<=(↑ma:Int) - 1)))/\Br (!(decide (0<=x.fc) && decide (x.fc<=(↑ma:Int) - 1))) ((!(decide (0<=x.fc) && decide (x.fc<=(↑ma:Int) - 1)))=true/\(!(decide (0<=x.fc) && decide (x.fc<=(↑ma:Int) - 1)))=true/\(!(decide (0<=x.fc) && decide
 (x.fc<=(↑ma:Int) - 1)))=true/\(!(decide (0<=x.fc) && decide (x.fc<=(↑ma:Int) - 1)))=true/\(!(decide (0<=x.fc) && decide (x.fc<=(↑ma:Int) - 1)))=true/\(!(decide (0<=x.fc) && decide (x.fc<=(↑ma:Int) - 1)))=true/\(!(decide (0<=x.fc) && decide (x.fc<=(↑ma:Int) - 1)))=true/\E6 177 z zn (Hv/\Q gU [] 0 z zn)) ((!(decide (0<=x.fc) && decide (x.fc<=(↑ma:Int) - 1)))=false/\(!(decide (0<=x.fc) && decide (x.fc<=(↑ma:Int) - 1)))=false/\(!(decide (0<=x.fc) && decide (x.fc<=(↑ma:Int) - 1)))=false/\(!(decide (0<=x.fc) && decide (x.fc<=(↑ma:Int) - 1)))=false/\WQ1 ((↑mb:Int) - 1)/\(!(decide (0<=x.fc) && decide (x.fc<=(↑ma:Int) - 1)))=false/\Rf z/\gP 119 [ZV x.tc,YM,ZV ((↑mb:Int) - 1)]=some (Value.bool (decide (0<=x.tc) && decide (x.tc<=(↑mb:Int) - 1)))/\(!(decide (0<=x.fc) && decide (x.fc<=(↑ma:Int) - 1)))=false/\(!(decide (0<=x.fc) && decide (x.fc<=(↑ma:Int) - 1)))=false/\Br (!(decide (0<=x.tc) && decide (x.tc<=(↑mb:Int) - 1))) (E6 177 z zn (Hv/\Q gU [] 0 z zn)) (x.fc=(↑fc:Int)/\fc<ma/\Hz f/\Hy z f ka/\Uf ka fc sa/\x.tc=(↑tc:Int)/\tc<mb/\Hz tn/\Hy z tn kb/\Uf kb tc sb/\Br (sa !=sb) (E6 177 z zn (Rs (I 13)/\Q (I 13) [] 0 z zn)) (Br x.stay (WQ1 ((↑ma:Int) - 1)/\Br (x.fc !=(↑ma:Int) - 1) (E6 177 z zn (SW/\Q (I 19) [] 0 z zn)) (Br (x.tc !=0) (E6 177 z zn (SW/\Q (I 19) [] 0 z zn)) (rU/\YEQ i N x z zn va/\E6 177 z zn (R4 (IV i) Y3 Yp YM (Ia N/\Rs (Hw x)/\(∀(x:Unit),va=true->E6 177 z zn (SW/\Q (I 19) [] 0 z zn))/\ ∀(x_1:Unit),va=false->Value.bool x.stay=T1/\aF prog z zn 121 [AG (SY N),IV i,ZV x.aB,wN x] [] 0 0 Yc (sR lb) Ye/\aS Yf [AG (SY N),IV i,ZV x.aB,wN x]=some [AG (SY N),IV i,ZV x.aB,wN x]/\ ∀(x_2:Unit),True->Rs (fY lb)/\Br lb (E6 177 z zn (SW/\Q (I 19) [] 0 z zn)) (rU/\YER i N x z zn vb/\E6 177 z zn (R4 (IV i) Y3 Yp YM (Ia N/\Rs (Hw x)/\(∀(x:Unit),vb=true->E6 177 z zn (Rs (I 6)/\Q (I 6) [] 0 z zn))/\ ∀(x:Unit),vb=false->E6 177 z zn (w5/\Q YM [] 0 z zn))))))))) (rU/\YEQ i N x z zn va/\E6 177 z zn (R4 (IV i) Y3 Yp YM (Ia N/\Rs (Hw x)/\(∀(x:Unit),va=true->E6 177 z zn (SW/\Q (I 19) [] 0 z zn))/\ ∀(x_1:Unit),va=false->Value.bool x.stay=F0/\rU/\YER i N x z zn vb/\E6 177 z zn (R4 (IV i) Y3 Yp YM (Ia N/\Rs (Hw x)/\(∀(x:Unit),vb=true->E6 177 z zn (Rs (I 6)/\Q (I 6) [] 0 z zn))/\ ∀(x:Unit),vb=false->E6 177 z zn (w5/\Q YM [] 0 z zn))))))))))))):FnT prog gP z f74 [AG (N.ed N.u1 N.l1),iv i] z [] 0 zn Q:=K1t hyp (tA 1 (tO (bS i) (tO (Ub kl x) (tA 3 (tO (An.val (ZV ((↑N.nu:Int) - 1))) (tO (An.cl (Value.bool (decide (0<=x.fz1) && decide (x.fz1<=(↑N.nu:Int) - 1)))) ((tO bI (tO bI (tO bI (tO bI (tO bI (tO bI (tO bI (tO bI (tA 7 (LB z zn)))))))))).fork (tO bc (tA 1 (tO bc (tO bc (tA 1 (tO bc (tO bc (tO (An.val (ZV ((↑N.nu:Int) - 1))) (tO bc (tO (An.cl (Value.bool (decide (0<=x.aB) && decide (x.aB<=(↑N.nu:Int) - 1)))) (tO bc (tO bc ((tO bI (tO bI (tO bI (tO bI (tO bI (tA 1 (LB z zn))))))).fork (tO bc (tA 1 (tO bc (tO bc (tA 1 (tO bc ((tO bc (tA 1 (LB z zn))).fork (tO bc (tA 3 (tO (bS f) (tO (Ic kr f ma ca) (tA 2
 (tO (bS tn) (tO (Ic kr tn mb cb) (tA 1 (tO (An.val (ZV ((↑ma:Int) - 1))) (tO (An.cl (Value.bool (decide (0<=x.fc) && decide (x.fc<=(↑ma:Int) - 1)))) ((tO bI (tO bI (tO bI (tO bI (tO bI (tO bI (tO bI (tA 1 (LB z zn))))))))).fork (tO bc (tA 1 (tO bc (tO bc (tO bc (tO (An.val (ZV ((↑mb:Int) - 1))) (tO bc (tO (An.cl (Value.bool (decide (0<=x.tc) && decide (x.tc<=(↑mb:Int) - 1)))) (tO bc (tO bc ((LB z zn).fork (tA 1 (tO (bS fc) (tO (HA f ka sa) (tA 1 (tO (bS tc) (tO (HA tn kb sb) ((tA 1 (tR [] [] (I 13) [] 0 z zn)).fork (tA 1 ((tA 6 (tO (An.val (ZV ((↑ma:Int) - 1))) (tA 1 ((tA 8 (tR [] [] (I 19) [] 0 z zn)).fork (tA 5 ((tA 4 (tR [] [] (I 19) [] 0 z zn)).fork (tA 4 (Tr.lp 2 177 dv [] (zN i 0) (Me N x) 2 z zn (Al.cons Unit (YR va) (fun(x:Unit)=>aA.mk af.ret [(4,I 19)] [] 2 z zn) (fun(x:Unit)=>tR [] [] (I 19) [] 0 z zn) (Al.cons Unit (YS va) (fun(x_1:Unit)=>aA.mk YO (Nc i) (Me N x) 2 z zn) (fun(x_1:Unit)=>tO kI (tA 10 (Tr.cm (Cm.mk [AG (SY N),IV i,ZV x.aB,wN x] [] 0 0 [] [] 2) Unit Yc (sR lb) Ye (sR lb) Ye (Yl z) (Ym zn) fun(x_2:Unit)=>tA 1 ((tR [] [] (I 19) [] 0 z zn).fork (YET i N x z zn vb))))) Al.nil)))))))))).fork (tA 10 (Tr.lp 2 177 dv [] (zN i 0) (Me N x) 2 z zn (Al.cons Unit (YR va) (fun(x:Unit)=>aA.mk af.ret [(4,I 19)] [] 2 z zn) (fun(x:Unit)=>tR [] [] (I 19) [] 0 z zn) (Al.cons Unit (YS va) (fun(x_1:Unit)=>aA.mk YO (Nc i) (Me N x) 2 z zn) (fun(x_1:Unit)=>tO kx (tA 9 (YET i N x z zn vb))) Al.nil))))))))))))))))))))))))))))))))))))))))))))))))))))))))))))))
theorem abk(z:T aa)(zn i:Nat)(N:aq)(kl:aV)(x:aI)(Q:QF)(hyp:cG i/\i<N.nl/\Mm/\Ml z kl/\Ui kl i x/\Rf z/\gP 119 [wN x,YM,J 0]=some F0/\E6 177 z zn (Hv/\Q gU [] 0 z zn)):FnT prog gP z f74 [AG (N.ed an N.l1),iv i] z [] 0 zn Q:=K1t hyp (tA 1 (tO (bS i) (tO (Ub kl x) (tA 4 (tO (An.cl F0) (tA 16 (LB z zn)))))))
end
noncomputable section
abbrev YEU(kb:aV)(i:Nat)(x:br):Prop:=ai prog kb 70 (0+i*5)=some (AG [ZV x.stop,ZV x.arr,ZV x.dep,Value.bool x.PA,Value.bool x.Lh])
abbrev tV:Value:=I 10
abbrev AB:Prop:=Rs tV
noncomputable abbrev SV(i:Nat):An:=An.idx (i - 1)
noncomputable abbrev Md(z:T aa)(zn:Nat):Tr:=tR [] [] tV [] 0 z zn
theorem abi(z:T aa)(zn k i n cp:Nat)(s lo hi:Int)(kb:aV)(x p:br)(Q:QF)(hyp:cG i/\i<n/\fH k/\fR z k kb/\YEU kb i x/\Br (decide (x.stop<0)) (E6 70 z zn (Hv/\Q gU [] 0 z zn)) (Br (decide (x.stop>=s)) (E6 70 z zn (Hv/\Q gU [] 0 z zn)) (Br (decide ((↑i:Int)>0)) (WQ1 ((↑i:Int) - 1)/\(↑i:Int) - 1=(↑(i - 1):Int)/\i - 1<n/\fH k/\fR z k kb/\ai prog kb 3 (0+(i - 1)*5+0)=some (ZV p.stop)/\Br (p.stop==x.stop) (E6 70 z zn (Rs (I 13)/\Q (I 13) [] 0 z zn)) (Br (decide (x.arr<lo)) (E6 70 z zn (AB/\Q tV [] 0 z zn)) (Br (decide (x.arr>x.dep)) (E6 70 z zn (AB/\Q tV [] 0 z zn)) (Br (decide (x.dep>hi)) (E6 70 z zn (AB/\Q tV [] 0 z zn)) (Value.bool (decide ((↑i:Int)>0))=T1/\WQ1 ((↑i:Int) - 1)/\(↑i:Int) - 1=(↑(i - 1):Int)/\i - 1<n/\fH k/\fR z k kb/\ai prog kb 3 (0+(i - 1)*5+2)=some (ZV p.dep)/\Br (decide (x.arr<p.dep)) (E6 70 z zn (AB/\Q tV [] 0 z zn)) (E6 70 z zn (w5/\Q YM [] 0 z zn))))))) (Br (decide (x.arr<lo)) (E6 70 z zn (AB/\Q tV [] 0 z zn)) (Br (decide (x.arr>x.dep)) (E6 70 z zn (AB/\Q tV [] 0 z zn)) (Br (decide (x.dep>hi)) (E6 70 z zn (AB/\Q tV [] 0 z zn)) (Value.bool (decide ((↑i:Int)>0))=F0/\E6 70 z zn (w5/\Q YM [] 0 z zn)))))))):FnT prog gP z f123 [tb k n cp,iv i,zv s,zv lo,zv hi] z [] 0 zn Q:=K1t hyp (tO (bS i) (tO (An.ld k kb (AG x.row)) (tA 2 ((tA 6 (LB z zn)).fork (tA 5 ((tA 2 (LB z zn)).fork (tA 2 ((tA 3 (tO (An.val (ZV ((↑i:Int) - 1))) (tA 1 (tO (SV i) (tA 2 (tO (An.ld k kb (zv p.stop)) (tA 4 ((tA 2 (tR [] [] (I 13) [] 0 z zn)).fork (tA 3 ((tA 17 (Md z zn)).fork (tA 7 ((tA 12 (Md z zn)).fork (tA 6 ((tA 7 (Md z zn)).fork (tA 3 (tO kI (tA 7 (tO (An.val (ZV ((↑i:Int) - 1))) (tA 1 (tO (SV i) (tA 2 (tO (An.ld k kb (zv p.dep)) (tA 1 ((tA 4 (Md z zn)).fork (tA 4 (Ij z zn)))))))))))))))))))))))))).fork (tA 12 ((tA 17 (Md z zn)).fork (tA 7 ((tA 12 (Md z zn)).fork (tA 6 ((tA 7 (Md z zn)).fork (tA 3 (tO kx (tA 14 (Ij z zn))))))))))))))))))
theorem rck(z:T aa)(zn k i n cp:Nat)(s lo hi e:Int)(Q:QL)(hyp:Br (decide ((↑i:Int)<(↑n:Int))) (aF prog z zn 123 [SL (tF k) n cp,IV i,ZV s,ZV lo,ZV hi] [] 0 0 Yc (rV e) Ye/\Rs [SL (tF k) n cp,IV i,ZV s,ZV lo,ZV hi]/\ ∀(x:Unit),True->xw e/\Br (e !=0) (E6 36 z zn (R2 (IV i) (ZV e) (Q af.ret [(8,IV i),(9,ZV e)] [] 0 z zn))) (ZV (IntKind.i64.wrap ((↑i:Int)+1))=IV (i+1)/\E6 36 z zn (R6 (SL (tF k) n cp) (ZV s) (ZV lo) (ZV hi) (IV n) (IV (i+1)) (Q aN [(0,SL (tF k) n cp),(1,ZV s),(2,ZV lo),(3,ZV hi),(21,IV n),(22,IV (i+1))] [] 0 z zn)))) (E6 36 z zn (Q YO [] [] 0 z zn))):RdT prog gP z (ah (ag f79) 0) 36 (GB k n cp s lo hi i) z [] 0 zn 0 Q:=K1t hyp ((tA 1 (Tr.cm (Cm.mk [SL (tF k) n cp,IV i,ZV s,ZV lo,ZV hi] [] 0 0 [] [] 0) Unit Yc (rV e) Ye (F4 e) Ye (Yl z) (Ym zn) fun(x:Unit)=>(tA 1 (tE [] [] [(8,IV i),(9,ZV e)] [] 0 z zn)).fork (tA 1 (tO (dI i) (tE [] [] [(0,SL (tF k) n cp),(1,ZV s),(2,ZV lo),(3,ZV hi),(21,IV n),(22,IV (i+1))] [] 0 z zn))))).fork (S8 z zn))
abbrev CZ:Value:=TP [YM,I 5]
abbrev Mc:Prop:=Rs CZ
theorem fck(z:T aa)(zn k n cp:Nat)(s lo hi r1 r2:Int)(Q:QF)(hyp:Br (decide ((↑n:Int)<2)) (E6 36 z zn (Mc/\Q CZ [] 0 z zn)) (Br (decide ((↑n:Int)>32)) (E6 36 z zn (Mc/\Q CZ [] 0 z zn)) (tD/\aj prog (ah (ag f79) 0) 0 36 (GB k n cp s lo hi 0) [] 0 z zn (jA z zn 0 8 9 0 r1 r2).R/\E6 36 z zn (R6 (SL (tF k) n cp) (ZV s) (ZV lo) (ZV hi) (IV n) YM ((∀(x:Unit),True->E6 36 z zn (CL r1 r2/\Q (Ii r1 r2) [] 0 z zn))/\ ∀(x:Unit),r1=0/\r2=0->E6 36 z zn (wO/\Q wZ [] 0 z zn)))))):FnT prog gP z f79 [tb k n cp,zv s,zv lo,zv hi] z [] 0 zn Q:=K1t hyp ((tA 5 (tR [] [] CZ [] 0 z zn)).fork (tA 3 ((tA 2 (tR [] [] CZ [] 0 z zn)).fork (tA 2 (Tr.lp 0 36 [] [] (GB k n cp s lo hi 0) [] 0 z zn (Al.cons Unit Yc (fun(x:Unit)=>aA.mk af.ret [(8,zv r1),(9,zv r2)] [] 0 z zn) (Ur r1 r2 z zn) (Al.cons Unit (S5 r1 r2) (S7 z zn) (Mh z zn) Al.nil)))))))
abbrev F1:List (Nat × Value):=[(8,tV)]
abbrev Zp(k n cp:Nat)(s lo hi:Int)(i:Nat):List (Nat × Value):=[(0,SL (tF k) n cp),(1,ZV s),(2,ZV lo),(3,ZV hi),HE i]
theorem rrc(z:T aa)(zn k i n cp:Nat)(s lo hi:Int)(kb:aV)(x p:br)(Q:QL)(hyp:Br (decide ((↑i:Int)<(↑n:Int))) (cG i/\i<n/\fH k/\fR z k kb/\YEU kb i x/\Br (decide (x.stop<0)) (E6 83 z zn (Hv/\Q af.ret [(8,gU)] [] 0 z zn)) (Br (decide (x.stop>=s)) (E6 83 z zn (Hv/\Q af.ret [(8,gU)] [] 0 z zn)) (Br (decide ((↑i:Int)>0)) (WQ1 ((↑i:Int) - 1)/\(↑i:Int) - 1=(↑(i - 1):Int)/\i - 1<n/\fH k/\fR z k kb/\ai prog kb 3 (0+(i - 1)*5+0)=some (ZV p.stop)/\Br (p.stop==x.stop) (E6 83 z zn (Rs (I 13)/\Q af.ret [(8,I 13)] [] 0 z zn)) (Br (decide (x.arr<lo)) (E6 83 z zn (AB/\Q af.ret F1 [] 0 z zn)) (Br (decide (x.arr>x.dep)) (E6 83 z zn (AB/\Q af.ret F1 [] 0 z zn)) (Br (decide (x.dep>hi)) (E6 83 z zn (AB/\Q af.ret F1 [] 0 z zn)) (Value.bool (decide ((↑i:Int)>0))=T1/\WQ1 ((↑i:Int) - 1)/\(↑i:Int) - 1=(↑(i - 1):Int)/\i - 1<n/\fH k/\fR z k kb/\ai prog kb 3 (0+(i - 1)*5+2)=some (ZV p.dep)/\Br (decide (x.arr<p.dep)) (E6 83 z zn (AB/\Q af.ret F1 [] 0 z zn)) (ZV (IntKind.i64.wrap ((↑i:Int)+1))=IV (i+1)/\E6 83 z zn (R5 (SL (tF k) n cp) (ZV s) (ZV lo) (ZV hi) (IV (i+1)) (Q aN (Zp k n cp s lo hi i) [] 0 z zn)))))))) (Br (decide (x.arr<lo)) (E6 83 z zn (AB/\Q af.ret F1 [] 0 z zn)) (Br (decide (x.arr>x.dep)) (E6 83 z zn (AB/\Q af.ret F1 [] 0 z zn)) (Br (decide (x.dep>hi)) (E6 83 z zn (AB/\Q af.ret F1 [] 0 z zn)) (Value.bool (decide ((↑i:Int)>0))=F0/\ZV (IntKind.i64.wrap ((↑i:Int)+1))=IV (i+1)/\E6 83 z zn (R5 (SL (tF k) n cp) (ZV s) (ZV lo) (ZV hi) (IV (i+1)) (Q aN (Zp k n cp s lo hi i) [] 0 z zn))))))))) (E6 83 z zn (Q YO [] [] 0 z zn))):RdT prog gP z (ah (ag f120) 0) 83 (BE k n cp s lo hi i) z [] 0 zn 0 Q:=K1t hyp ((tA 1 (tO (bS i) (tO (An.ld k kb (AG x.row)) (tA 2 ((tA 6 (tE [] [] [(8,gU)] [] 0 z zn)).fork (tA 5 ((tA 2 (tE [] [] [(8,gU)] [] 0 z zn)).fork (tA 2 ((tA 3 (tO (An.val (ZV ((↑i:Int) - 1))) (tA 1 (tO (SV i) (tA 2 (tO (An.ld k kb (zv p.stop)) (tA 4 ((tA 2 (tE [] [] [(8,I 13)] [] 0 z zn)).fork (tA 3 ((tA 17 (tE [] [] F1 [] 0 z zn)).fork (tA 7 ((tA 12 (tE [] [] F1 [] 0 z zn)).fork (tA 6 ((tA 7 (tE [] [] F1 [] 0 z zn)).fork (tA 3 (tO kI (tA 7 (tO (An.val (ZV ((↑i:Int) - 1))) (tA 1 (tO (SV i) (tA 2 (tO (An.ld k kb (zv p.dep)) (tA 1 ((tA 4 (tE [] [] F1 [] 0 z zn)).fork (tA 4 (tO (dI i) (tE [] [] (Zp k n cp s lo hi i) [] 0 z zn))))))))))))))))))))))))))).fork (tA 12 ((tA 17 (tE [] [] F1 [] 0 z zn)).fork (tA 7 ((tA 12 (tE [] [] F1 [] 0 z zn)).fork (tA 6 ((tA 7 (tE [] [] F1 [] 0 z zn)).fork (tA 3 (tO kx (tA 14 (tO (dI i) (tE [] [] (Zp k n cp s lo hi i) [] 0 z zn)))))))))))))))))))).fork (S8 z zn))
theorem frc(z:T aa)(zn k n cp:Nat)(s lo hi r:Int)(Q:QF)(hyp:Br (decide ((↑n:Int)<2)) (E6 83 z zn (Rs (I 5)/\Q (I 5) [] 0 z zn)) (Br (decide ((↑n:Int)>32)) (E6 83 z zn (Rs (I 5)/\Q (I 5) [] 0 z zn)) (tD/\aj prog (ah (ag f120) 0) 0 83 (BE k n cp s lo hi 0) [] 0 z zn (alt True (aA.mk af.ret [(8,zv r)] [] 0 z zn) (alt (r=0) (aA.mk YO [] [] 0 z zn) Al.nil)).R/\E6 83 z zn (R5 (SL (tF k) n cp) (ZV s) (ZV lo) (ZV hi) YM ((∀(x:Unit),True->E6 83 z zn (xw r/\Q (ZV r) [] 0 z zn))/\ ∀(x:Unit),r=0->E6 83 z zn (w5/\Q YM [] 0 z zn)))))):FnT prog gP z f120 [tb k n cp,zv s,zv lo,zv hi] z [] 0 zn Q:=K1t hyp ((tA 5 (tR [] [] (I 5) [] 0 z zn)).fork (tA 3 ((tA 2 (tR [] [] (I 5) [] 0 z zn)).fork (tA 2 (Tr.lp 0 83 [] [] (BE k n cp s lo hi 0) [] 0 z zn (Al.cons Unit Yc (fun(x:Unit)=>aA.mk af.ret [(8,zv r)] [] 0 z zn) (fun(x:Unit)=>tR [] [] (ZV r) [] 0 z zn) (Al.cons Unit (Uu r) (S7 z zn) (fun(x:Unit)=>Ij z zn) Al.nil)))))))
end
noncomputable section
abbrev Hu(x:bO):Value:=Value.string x.id
abbrev T8(x:bO):List Value:=[Hu x,ZV x.cF,ZV x.ba,ZV x.cD,ZV x.aK,ZV x.bL]
abbrev H9(i:Nat):List (Nat × Value):=[(2,IV i),(3,I 12)]
abbrev uF(i:Nat):List (Nat × Value):=[(2,IV i),(3,I 6)]
abbrev Zo(x:bO):Value:=Value.bool (decide (0<=x.cF) && decide (x.cF<=1000000))
abbrev rS(i:Nat):List (Nat × Value):=[(2,IV i),(3,cM)]
abbrev Zn(x:bO):Value:=Value.bool (decide (1<=x.ba) && decide (x.ba<=8))
abbrev Zm(x:bO):Value:=Value.bool (decide (1<=x.cD) && decide (x.cD<=16))
abbrev Zl(x:bO):Value:=Value.bool (decide (0<=x.aK) && decide (x.aK<=86400))
abbrev Zk(x:bO):Value:=Value.bool (decide (1<=x.bL) && decide (x.bL<=255))
noncomputable abbrev Zj:Code:=ah (ag f48) 0
theorem rpr(z:T aa)(zn i n cp:Nat)(kb:aV)(x:bO)(ks:List Value)(Q:QL)(hyp:Br (decide ((↑i:Int)<(↑n:Int))) (cG i/\i<n/\Rf 1790/\z.get 5=rM kb/\ai prog kb 99 (0+i*6)=some (AG (T8 x))/\Rf z/\gP 77 [Hu x]=some (Value.bool (bW x.id))/\Br (!bW x.id) (E6 79 z zn (R2 (IV i) (I 12) (Q af.ret (H9 i) [] 2 z zn))) (aE prog 9 (Hu x) (eF ks) 0≠none/\(∀(p:Nat × Value),aE prog 9 (Hu x) (eF ks) 0=YH p->Exists (Ig p))/\(∀(i_1:Nat),aE prog 9 (Hu x) (eF ks) 0=Ie i_1->E6 79 z zn (R2 (IV i) (I 6) (Q af.ret (uF i) [] 2 z zn)))/\(aE prog 9 (Hu x) (eF ks) 0=YL->Rf z/\gP 82 [ZV x.cF,YM,I 1000000]=some (Zo x)/\Br (!(decide (0<=x.cF) && decide (x.cF<=1000000))) ((!(decide (0<=x.cF) && decide (x.cF<=1000000)))=true/\(!(decide (0<=x.cF) && decide (x.cF<=1000000)))=true/\(!(decide (0<=x.cF) && decide (x.cF<=1000000)))=true/\(!(decide (0<=x.cF) && decide (x.cF<=1000000)))=true/\E6 79 z zn (R2 (IV i) cM (Q af.ret (rS i) [] 2 z zn))) ((!(decide (0<=x.cF) && decide (x.cF<=1000000)))=false/\(!(decide (0<=x.cF) && decide (x.cF<=1000000)))=false/\Rf z/\gP 82 [ZV x.ba,iq,I 8]=some (Zn x)/\(!(decide (0<=x.cF) && decide (x.cF<=1000000)))=false/\(!(decide (0<=x.cF) && decide (x.cF<=1000000)))=false/\Br (!(decide (1<=x.ba) && decide (x.ba<=8))) ((!(decide (1<=x.ba) && decide (x.ba<=8)))=true/\(!(decide (1<=x.ba) && decide (x.ba<=8)))=true/\(!(decide (1<=x.ba) && decide (x.ba<=8)))=true/\(!(decide (1<=x.ba) && decide (x.ba<=8)))=true/\E6 79 z zn (R2 (IV i) cM (Q af.ret (rS i) [] 2 z zn))) ((!(decide (1<=x.ba) && decide (x.ba<=8)))=false/\(!(decide (1<=x.ba) && decide (x.ba<=8)))=false/\Rf z/\gP 82 [ZV x.cD,iq,I 16]=some (Zm x)/\(!(decide (1<=x.ba) && decide (x.ba<=8)))=false/\(!(decide (1<=x.ba) && decide (x.ba<=8)))=false/\Br (!(decide (1<=x.cD) && decide (x.cD<=16))) ((!(decide (1<=x.cD) && decide (x.cD<=16)))=true/\(!(decide (1<=x.cD) && decide (x.cD<=16)))=true/\(!(decide (1<=x.cD) && decide (x.cD<=16)))=true/\(!(decide (1<=x.cD) && decide (x.cD<=16)))=true/\E6 79 z zn (R2 (IV i) cM (Q af.ret (rS i) [] 2 z zn))) ((!(decide (1<=x.cD) && decide (x.cD<=16)))=false/\(!(decide (1<=x.cD) && decide (x.cD<=16)))=false/\Rf z/\gP 82 [ZV x.aK,YM,I 86400]=some (Zl x)/\(!(decide (1<=x.cD) && decide (x.cD<=16)))=false/\(!(decide (1<=x.cD) && decide (x.cD<=16)))=false/\Br (!(decide (0<=x.aK) && decide (x.aK<=86400))) ((!(decide (0<=x.aK) && decide (x.aK<=86400)))=true/\(!(decide (0<=x.aK) && decide (x.aK<=86400)))=true/\(!(decide (0<=x.aK) && decide (x.aK<=86400)))=true/\(!(decide (0<=x.aK) && decide (x.aK<=86400)))=true/\E6 79 z zn (R2 (IV i) cM (Q af.ret (rS i) [] 2 z zn))) ((!(decide (0<=x.aK) && decide (x.aK<=86400)))=false/\(!(decide (0<=x.aK) && decide (x.aK<=86400)))=false/\Rf z/\gP 82 [ZV x.bL,iq,I 255]=some (Zk x)/\(!(decide (0<=x.aK) && decide (x.aK<=86400)))=false/\(!(decide (0<=x.aK) && decide
 (x.aK<=86400)))=false/\Br (!(decide (1<=x.bL) && decide (x.bL<=255))) (E6 79 z zn (R2 (IV i) cM (Q af.ret (rS i) [] 2 z zn))) (aE prog 9 (Hu x) (eF ks) 0=YL/\ZV (IntKind.i64.wrap ((↑i:Int)+1))=IV (i+1)/\E6 79 z zn (R4 (MP 1) (SL 1790 n cp) (IV n) (IV (i+1)) (KO (ay Y0 []) (aa.map (eF ks++[MapEntry.mk (Hu x) T1 ks.length]) (ks.length+1))/\Q aN [(4,MP 1),(29,SL 1790 n cp),(30,IV n),(31,IV (i+1))] [(1,aa.map (eF ks++[MapEntry.mk (Hu x) T1 ks.length]) (ks.length+1))] 2 z zn)))))))))) (E6 79 z zn (Q YO [] [] 2 z zn))):RdT prog gP z Zj 79 (Gv n cp i) z [(1,bt ks)] 2 zn 2 Q:=K1t hyp ((tA 1 (tO (bS i) (tO (An.ld 5 kb (AG x.row)) (tA 2 (tO (An.cl (Value.bool (bW x.id))) ((tE [] [] (H9 i) [] 2 z zn).fork (tA 1 (Tr.find Nat (fun(x:Nat)=>(x,T1)) (fun(i_1:Nat)=>tA 1 (tE [] [] (uF i) [] 2 z zn)) (tA 2 (tO (An.cl (Zo x)) ((tO bI (tO bI (tO bI (tO bI (tA 16 (tE [] [] (rS i) [] 2 z zn)))))).fork (tO bc (tA 1 (tO bc (tO (An.cl (Zn x)) (tO bc (tO bc ((tO bI (tO bI (tO bI (tO bI (tA 11 (tE [] [] (rS i) [] 2 z zn)))))).fork (tO bc (tA 1 (tO bc (tO (An.cl (Zm x)) (tO bc (tO bc ((tO bI (tO bI (tO bI (tO bI (tA 6 (tE [] [] (rS i) [] 2 z zn)))))).fork (tO bc (tA 1 (tO bc (tO (An.cl (Zl x)) (tO bc (tO bc ((tO bI (tO bI (tO bI (tO bI (tA 1 (tE [] [] (rS i) [] 2 z zn)))))).fork (tO bc (tA 1 (tO bc (tO (An.cl (Zk x)) (tO bc (tO bc ((tE [] [] (rS i) [] 2 z zn).fork (tA 1 (tO CJ (tO (dI i) (tE Y0 [] [(4,MP 1),(29,SL 1790 n cp),(30,IV n),(31,IV (i+1))] [(1,aa.map (eF ks++[MapEntry.mk (Hu x) T1 ks.length]) (ks.length+1))] 2 z zn))))))))))))))))))))))))))))))))))))))))))).fork (T9 z zn))
abbrev Zi(d:Int):Prop:=gP 82 [ZV d,YM,I 1000000]=some (YCY d)
abbrev W0:List (Nat × aa):=[(1,bt [])]
noncomputable abbrev T7(z:T aa)(zn:Nat):Tr:=tA 1 (tR [] [] CZ [] 0 z zn)
noncomputable abbrev WZ(z:T aa)(zn:Nat):Unit->aA:=fun(x:Unit)=>aA.mk YO [] [] 2 z zn
theorem abh(z:T aa)(zn n cp:Nat)(r1 r2 d w c:Int)(Q:QF)(hyp:Rf z/\Zi d/\Br (!(decide (0<=d) && decide (d<=1000000))) ((!(decide (0<=d) && decide (d<=1000000)))=true/\(!(decide (0<=d) && decide (d<=1000000)))=true/\(!(decide (0<=d) && decide (d<=1000000)))=true/\(!(decide (0<=d) && decide (d<=1000000)))=true/\E6 79 z zn (Ih/\Q F3 [] 0 z zn)) ((!(decide (0<=d) && decide (d<=1000000)))=false/\(!(decide (0<=d) && decide (d<=1000000)))=false/\Rf z/\gP 82 [ZV w,YM,I 86400]=some (Qi w)/\(!(decide (0<=d) && decide (d<=1000000)))=false/\(!(decide (0<=d) && decide (d<=1000000)))=false/\Br (!(decide (0<=w) && decide (w<=86400))) ((!(decide (0<=w) && decide (w<=86400)))=true/\(!(decide (0<=w) && decide (w<=86400)))=true/\(!(decide (0<=w) && decide (w<=86400)))=true/\(!(decide (0<=w) && decide (w<=86400)))=true/\E6 79 z zn (Ih/\Q F3 [] 0 z zn)) ((!(decide (0<=w) && decide (w<=86400)))=false/\(!(decide (0<=w) && decide (w<=86400)))=false/\Rf z/\Zi c/\(!(decide (0<=w) && decide (w<=86400)))=false/\(!(decide (0<=w) && decide (w<=86400)))=false/\Br (!(decide (0<=c) && decide (c<=1000000))) (E6 79 z zn (Ih/\Q F3 [] 0 z zn)) (Br (decide ((↑n:Int)>16)) (E6 79 z zn (Mc/\Q CZ [] 0 z zn)) (rU/\aj prog Zj 2 79 (Gv n cp 0) W0 2 z zn (jA z zn 2 2 3 0 r1 r2).R/\E6 79 z zn (R4 (MP 1) (SL 1790 n cp) (IV n) YM (tG/\(∀(x:Unit),True->E6 79 z zn (CL r1 r2/\Q (Ii r1 r2) [] 0 z zn))/\ ∀(x:Unit),r1=0/\r2=0->E6 79 z zn (wO/\Q wZ [] 0 z zn)))))))):FnT prog gP z f48 [AG [tb 5 n cp,zv d,zv w,zv c]] z [] 0 zn Q:=K1t hyp (tA 1 (tO (Qh d) ((ZC z zn).fork (tO bc (tA 1 (tO bc (tO (An.cl (Qi w)) (tO bc (tO bc ((ZB z zn).fork (tO bc (tA 1 (tO bc (tO (Qh c) (tO bc (tO bc ((Uk z zn).fork (tA 1 ((T7 z zn).fork (tA 2 (Tr.lp 2 79 Y0 [] (Gv n cp 0) W0 2 z zn (Al.cons Unit Yc (fun(x:Unit)=>aA.mk af.ret [(2,zv r1),(3,zv r2)] [] 2 z zn) (Ur r1 r2 z zn) (Al.cons Unit (S5 r1 r2) (WZ z zn) (Mh z zn) Al.nil)))))))))))))))))))))))
noncomputable abbrev Zh(z:T aa)(zn:Nat):aA->Prop:=(alt True (aA.mk YO [] [] 2 z zn) Al.nil).R
theorem abg(z:T aa)(zn:Nat)(d w c:Int)(Q:QF)(hyp:Rf z/\Zi d/\Br (!(decide (0<=d) && decide (d<=1000000))) ((!(decide (0<=d) && decide (d<=1000000)))=true/\(!(decide (0<=d) && decide (d<=1000000)))=true/\(!(decide (0<=d) && decide (d<=1000000)))=true/\(!(decide (0<=d) && decide (d<=1000000)))=true/\E6 79 z zn (Ih/\Q F3 [] 0 z zn)) ((!(decide (0<=d) && decide (d<=1000000)))=false/\(!(decide (0<=d) && decide (d<=1000000)))=false/\Rf z/\gP 82 [ZV w,YM,I 86400]=some (Qi w)/\(!(decide (0<=d) && decide (d<=1000000)))=false/\(!(decide (0<=d) && decide (d<=1000000)))=false/\Br (!(decide (0<=w) && decide (w<=86400))) ((!(decide (0<=w) && decide (w<=86400)))=true/\(!(decide (0<=w) && decide (w<=86400)))=true/\(!(decide (0<=w) && decide (w<=86400)))=true/\(!(decide (0<=w) && decide (w<=86400)))=true/\E6 79 z zn (Ih/\Q F3 [] 0 z zn)) ((!(decide (0<=w) && decide (w<=86400)))=false/\(!(decide (0<=w) && decide (w<=86400)))=false/\Rf z/\Zi c/\(!(decide (0<=w) && decide (w<=86400)))=false/\(!(decide (0<=w) && decide (w<=86400)))=false/\Br (!(decide (0<=c) && decide (c<=1000000))) (E6 79 z zn (Ih/\Q F3 [] 0 z zn)) (rU/\aj prog Zj 2 79 xZ W0 2 z zn (Zh z zn)/\E6 79 z zn (R4 (MP 1) Y5 YM YM (tG/\ ∀(x:Unit),True->E6 79 z zn (wO/\Q wZ [] 0 z zn))))))):FnT prog gP z f48 [AG [an,zv d,zv w,zv c]] z [] 0 zn Q:=K1t hyp (tA 1 (tO (Qh d) ((ZC z zn).fork (tO bc (tA 1 (tO bc (tO (An.cl (Qi w)) (tO bc (tO bc ((ZB z zn).fork (tO bc (tA 1 (tO bc (tO (Qh c) (tO bc (tO bc ((Uk z zn).fork (tA 4 (Tr.lp 2 79 Y0 [] xZ W0 2 z zn (Al.cons Unit Yc (WZ z zn) (Mh z zn) Al.nil))))))))))))))))))))
theorem aac(z:T aa)(zn:Nat)(Q:QL)(hyp:E6 79 z zn (Q YO [] [] 2 z zn)):RdT prog gP z Zj 79 xZ z W0 2 zn 2 Q:=K1t hyp (tA 2 (tE [] [] [] [] 2 z zn))
end
noncomputable section
abbrev En(y:bm):Value:=Value.string y.id
abbrev YEu(kb:aV)(k:Nat)(y:bm):Prop:=ai prog kb 9 (0+k*3+0)=some (En y)
theorem UK(z:T aa)(zn i k n cp:Nat)(kb:aV)(x y:bm)(Q:QL)(hyp:Br (decide ((↑k:Int)<(↑i:Int))) (cG k/\k<n/\Rf 1278/\z.get 3=rM kb/\YEu kb k y/\cG i/\i<n/\Rf 1278/\z.get 3=rM kb/\YEu kb i x/\Br (y.id.toList==x.id.toList) (E6 48 z zn (R2 (IV i) (I 6) (Q af.ret (uF i) [] 0 z zn))) (ZV (IntKind.i64.wrap ((↑k:Int)+1))=IV (k+1)/\E6 48 z zn (R3 (SL 1278 n cp) (IV i) (IV (k+1)) (Q aN [(0,SL 1278 n cp),(4,IV i),(5,IV (k+1))] [] 0 z zn)))) (E6 48 z zn (R2 (SL 1278 n cp) (IV i) (Q iy [(0,SL 1278 n cp),(4,IV i)] [] 0 z zn)))):RdT prog gP z (ah Um 0) 48 (xX n cp i k) z [] 0 zn 0 Q:=K1t hyp ((tA 1 (tO (bS k) (tO (An.ld 3 kb (En y)) (tO (bS i) (tO (An.ld 3 kb (En x)) ((tA 1 (tE [] [] (uF i) [] 0 z zn)).fork (tA 1 (tO (dI k) (tE [] [] [(0,SL 1278 n cp),(4,IV i),(5,IV (k+1))] [] 0 z zn))))))))).fork (tA 1 (tE [] [] [(0,SL 1278 n cp),(4,IV i)] [] 0 z zn)))
noncomputable abbrev Zg(i:Nat)(z:T aa)(zn:Nat):aA:=aA.mk af.ret [(2,iv i),(3,I 6)] [] 0 z zn
abbrev YEw(x:bm):Value:=Value.bool (decide (0<=x.mode) && decide (x.mode<=7))
theorem rrr(z:T aa)(zn i n cp:Nat)(kb:aV)(x:bm)(b:Bool)(Q:QL)(hyp:Br (decide ((↑i:Int)<(↑n:Int))) (cG i/\i<n/\Rf 1278/\z.get 3=rM kb/\YEu kb i x/\Rf z/\gP 118 [En x]=some (Value.bool (bW x.id))/\Br (!bW x.id) (E6 48 z zn (R2 (IV i) (I 12) (Q af.ret (H9 i) [] 0 z zn))) (tD/\aj prog (ah Um 0) 0 48 (xX n cp i 0) [] 0 z zn (alt (b=true) (Zg i z zn) (alt (b=false) (aA.mk iy (zL n cp i) [] 0 z zn) Al.nil)).R/\E6 48 z zn (R3 (SL 1278 n cp) (IV i) YM ((∀(x:Unit),b=true->E6 48 z zn (R2 (IV i) (I 6) (Q af.ret (uF i) [] 0 z zn)))/\ ∀(x_1:Unit),b=false->cG i/\i<n/\Rf 1278/\z.get 3=rM kb/\ai prog kb 3 (0+i*3+1)=some (ZV x.mode)/\Rf z/\gP 119 [ZV x.mode,YM,I 7]=some (YEw x)/\Br (!(decide (0<=x.mode) && decide (x.mode<=7))) (E6 48 z zn (R2 (IV i) cM (Q af.ret (rS i) [] 0 z zn))) (ZV (IntKind.i64.wrap ((↑i:Int)+1))=IV (i+1)/\E6 48 z zn (R2 (SL 1278 n cp) (IV (i+1)) (Q aN [(0,SL 1278 n cp),(4,IV (i+1))] [] 0 z zn))))))) (E6 48 z zn (Q YO [] [] 0 z zn))):RdT prog gP z Um 48 (zL n cp i) z [] 0 zn 0 Q:=K1t hyp ((tA 1 (tO (bS i) (tO (An.ld 3 kb (En x)) (tO (An.cl (Value.bool (bW x.id))) ((tE [] [] (H9 i) [] 0 z zn).fork (Tr.lp 0 48 [] [] (xX n cp i 0) [] 0 z zn (Al.cons Unit (YR b) (fun(x:Unit)=>Zg i z zn) (fun(x:Unit)=>tE [] [] (uF i) [] 0 z zn) (Al.cons Unit (YS b) (fun(x:Unit)=>aA.mk iy (zL n cp i) [] 0 z zn) (fun(x_1:Unit)=>tO (bS i) (tO (An.ld 3 kb (zv x.mode)) (tO (An.cl (YEw x)) ((tE [] [] (rS i) [] 0 z zn).fork (tO (dI i) (tE [] [] [(0,SL 1278 n cp),(4,IV (i+1))] [] 0 z zn)))))) Al.nil)))))))).fork (S8 z zn))
noncomputable abbrev YEx(r1 r2:Int)(z:T aa)(zn:Nat):Al:=Al.cons Unit Yc (fun(x:Unit)=>aA.mk af.ret [(2,zv r1),(3,zv r2)] [] 0 z zn) (Ur r1 r2 z zn) (Al.cons Unit (S5 r1 r2) (S7 z zn) (Mh z zn) Al.nil)
theorem frr(z:T aa)(zn n cp:Nat)(r1 r2:Int)(Q:QF)(hyp:Br (decide ((↑n:Int)>64)) (E6 48 z zn (Mc/\Q CZ [] 0 z zn)) (tD/\aj prog Um 0 48 (zL n cp 0) [] 0 z zn (jA z zn 0 2 3 0 r1 r2).R/\E6 48 z zn (R2 (SL 1278 n cp) YM ((∀(x:Unit),True->E6 48 z zn (CL r1 r2/\Q (Ii r1 r2) [] 0 z zn))/\ ∀(x:Unit),r1=0/\r2=0->E6 48 z zn (wO/\Q wZ [] 0 z zn))))):FnT prog gP z f72 [tb 3 n cp] z [] 0 zn Q:=K1t hyp ((T7 z zn).fork (tA 1 (Tr.lp 0 48 [] [] (zL n cp 0) [] 0 z zn (YEx r1 r2 z zn))))
end
noncomputable section
abbrev YEy(x:bm):Value:=Value.bool (decide (0<=x.mode) && decide (x.mode<8))
noncomputable abbrev Zf:Code:=ah (ag f43) 0
noncomputable abbrev LC(i:Nat)(z:T aa)(zn:Nat):Tr:=tE [] [] (rS i) [] 1 z zn
theorem rrt(z:T aa)(zn i n cp:Nat)(kb:aV)(x:bm)(ks:List Value)(Q:QL)(hyp:Br (decide ((↑i:Int)<(↑n:Int))) (cG i/\i<n/\Rf 1278/\z.get 3=rM kb/\ai prog kb 96 (0+i*3)=some (AG [En x,ZV x.mode,Value.bool x.OO])/\Rf z/\gP 77 [En x]=some (Value.bool (bW x.id))/\Br (!bW x.id) (E6 37 z zn (R2 (IV i) (I 12) (Q af.ret (H9 i) [] 1 z zn))) (aE prog 9 (En x) (eF ks) 0≠none/\(∀(p:Nat × Value),aE prog 9 (En x) (eF ks) 0=YH p->Exists (Ig p))/\(∀(i_1:Nat),aE prog 9 (En x) (eF ks) 0=Ie i_1->E6 37 z zn (R2 (IV i) (I 6) (Q af.ret (uF i) [] 1 z zn)))/\(aE prog 9 (En x) (eF ks) 0=YL->Rf z/\gP 78 [ZV x.mode]=some (YEy x)/\Br (!(decide (0<=x.mode) && decide (x.mode<8))) (E6 37 z zn (R2 (IV i) cM (Q af.ret (rS i) [] 1 z zn))) (aE prog 9 (En x) (eF ks) 0=YL/\ZV (IntKind.i64.wrap ((↑i:Int)+1))=IV (i+1)/\E6 37 z zn (R4 YK (SL 1278 n cp) (IV n) (IV (i+1)) (KO YD (aa.map (eF ks++[MapEntry.mk (En x) T1 ks.length]) (ks.length+1))/\Q aN [(4,YK),(11,SL 1278 n cp),(12,IV n),(13,IV (i+1))] [(0,aa.map (eF ks++[MapEntry.mk (En x) T1 ks.length]) (ks.length+1))] 1 z zn)))))) (E6 37 z zn (Q YO [] [] 1 z zn))):RdT prog gP z Zf 37 [(4,mp 0),(11,tb 3 n cp),(12,iv n),(13,iv i)] z [(0,bt ks)] 1 zn 1 Q:=K1t hyp ((tA 1 (tO (bS i) (tO (An.ld 3 kb (AG x.row)) (tA 2 (tO (An.cl (Value.bool (bW x.id))) ((tE [] [] (H9 i) [] 1 z zn).fork (tA 1 (Tr.find Nat (fun(x:Nat)=>(x,T1)) (fun(i_1:Nat)=>tA 1 (tE [] [] (uF i) [] 1 z zn)) (tA 2 (tO (An.cl (YEy x)) ((LC i z zn).fork (tA 1 (tO CJ (tO (dI i) (tE YC [] [(4,YK),(11,SL 1278 n cp),(12,IV n),(13,IV (i+1))] [(0,aa.map (eF ks++[MapEntry.mk (En x) T1 ks.length]) (ks.length+1))] 1 z zn))))))))))))))).fork (W1 z zn))
noncomputable abbrev YE1(r1 r2:Int)(z:T aa)(zn:Nat):Al:=Al.cons Unit Yc (fun(x:Unit)=>aA.mk af.ret [(2,zv r1),(3,zv r2)] [] 1 z zn) (Ur r1 r2 z zn) (Al.cons Unit (S5 r1 r2) (fun(x:Unit)=>aA.mk YO [] [] 1 z zn) (Mh z zn) Al.nil)
theorem aba(z:T aa)(zn n cp:Nat)(r1 r2:Int)(Q:QF)(hyp:Br (decide ((↑n:Int)>64)) (E6 37 z zn (Mc/\Q CZ [] 0 z zn)) (YP/\aj prog Zf 1 37 (Jj n cp 0) Er 1 z zn (jA z zn 1 2 3 0 r1 r2).R/\E6 37 z zn (R4 YK (SL 1278 n cp) (IV n) YM (tG/\(∀(x:Unit),True->E6 37 z zn (CL r1 r2/\Q (Ii r1 r2) [] 0 z zn))/\ ∀(x:Unit),r1=0/\r2=0->E6 37 z zn (wO/\Q wZ [] 0 z zn))))):FnT prog gP z f43 [tb 3 n cp] z [] 0 zn Q:=K1t hyp ((T7 z zn).fork (tA 1 (Tr.lp 1 37 YC [] (Jj n cp 0) Er 1 z zn (YE1 r1 r2 z zn))))
theorem aa9(z:T aa)(zn:Nat)(Q:QF)(hyp:YP/\aj prog Zf 1 37 xV Er 1 z zn (ZD z zn)/\E6 37 z zn (R4 YK Y5 YM YM (tG/\ ∀(x:Unit),True->E6 37 z zn (wO/\Q wZ [] 0 z zn)))):FnT prog gP z f43 [an] z [] 0 zn Q:=K1t hyp (tA 2 (Tr.lp 1 37 YC [] xV Er 1 z zn (ZA z zn)))
theorem Z8(z:T aa)(zn:Nat)(Q:QL)(hyp:E6 37 z zn (Q YO [] [] 1 z zn)):RdT prog gP z Zf 37 xV z Er 1 zn 1 Q:=K1t hyp (tA 2 (tE [] [] [] [] 1 z zn))
end
noncomputable section
abbrev Eo(y:bT):Value:=Value.string y.id
abbrev YE3(kb:aV)(k:Nat)(y:bT):Prop:=ai prog kb 9 (0+k*4+0)=some (Eo y)
theorem UJ(z:T aa)(zn i k n cp:Nat)(kb:aV)(x y:bT)(Q:QL)(hyp:Br (decide ((↑k:Int)<(↑i:Int))) (cG k/\k<n/\Rf 1022/\z.get 2=rM kb/\YE3 kb k y/\cG i/\i<n/\Rf 1022/\z.get 2=rM kb/\YE3 kb i x/\Br (y.id.toList==x.id.toList) (E6 57 z zn (R2 (IV i) (I 6) (Q af.ret (uF i) [] 0 z zn))) (ZV (IntKind.i64.wrap ((↑k:Int)+1))=IV (k+1)/\E6 57 z zn (R3 (SL 1022 n cp) (IV i) (IV (k+1)) (Q aN [(0,SL 1022 n cp),(4,IV i),(5,IV (k+1))] [] 0 z zn)))) (E6 57 z zn (R2 (SL 1022 n cp) (IV i) (Q iy [(0,SL 1022 n cp),(4,IV i)] [] 0 z zn)))):RdT prog gP z (ah Un 0) 57 (xW n cp i k) z [] 0 zn 0 Q:=K1t hyp ((tA 1 (tO (bS k) (tO (An.ld 2 kb (Eo y)) (tO (bS i) (tO (An.ld 2 kb (Eo x)) ((tA 1 (tE [] [] (uF i) [] 0 z zn)).fork (tA 1 (tO (dI k) (tE [] [] [(0,SL 1022 n cp),(4,IV i),(5,IV (k+1))] [] 0 z zn))))))))).fork (tA 1 (tE [] [] [(0,SL 1022 n cp),(4,IV i)] [] 0 z zn)))
abbrev YE4(x:bT):Value:=Value.bool (decide (0<=x.aU) && decide (x.aU<=15))
abbrev YE5(x:bT):Value:=Value.bool (decide (0<=x.change) && decide (x.change<=3600))
theorem rrs(z:T aa)(zn i n cp:Nat)(kb:aV)(x:bT)(b:Bool)(Q:QL)(hyp:Br (decide ((↑i:Int)<(↑n:Int))) (cG i/\i<n/\Rf 1022/\z.get 2=rM kb/\YE3 kb i x/\Rf z/\gP 118 [Eo x]=some (Value.bool (bW x.id))/\Br (!bW x.id) (E6 57 z zn (R2 (IV i) (I 12) (Q af.ret (H9 i) [] 0 z zn))) (tD/\aj prog (ah Un 0) 0 57 (xW n cp i 0) [] 0 z zn (alt (b=true) (Zg i z zn) (alt (b=false) (aA.mk iy (zK n cp i) [] 0 z zn) Al.nil)).R/\E6 57 z zn (R3 (SL 1022 n cp) (IV i) YM ((∀(x:Unit),b=true->E6 57 z zn (R2 (IV i) (I 6) (Q af.ret (uF i) [] 0 z zn)))/\ ∀(x_1:Unit),b=false->cG i/\i<n/\Rf 1022/\z.get 2=rM kb/\ai prog kb 3 (0+i*4+1)=some (ZV x.aU)/\Rf z/\gP 119 [ZV x.aU,YM,I 15]=some (YE4 x)/\Br (!(decide (0<=x.aU) && decide (x.aU<=15))) ((!(decide (0<=x.aU) && decide (x.aU<=15)))=true/\(!(decide (0<=x.aU) && decide (x.aU<=15)))=true/\(!(decide (0<=x.aU) && decide (x.aU<=15)))=true/\(!(decide (0<=x.aU) && decide (x.aU<=15)))=true/\(!(decide (0<=x.aU) && decide (x.aU<=15)))=true/\(!(decide (0<=x.aU) && decide (x.aU<=15)))=true/\(!(decide (0<=x.aU) && decide (x.aU<=15)))=true/\E6 57 z zn (R2 (IV i) cM (Q af.ret (rS i) [] 0 z zn))) ((!(decide (0<=x.aU) && decide (x.aU<=15)))=false/\(!(decide (0<=x.aU) && decide (x.aU<=15)))=false/\cG i/\i<n/\(!(decide (0<=x.aU) && decide (x.aU<=15)))=false/\(!(decide (0<=x.aU) && decide (x.aU<=15)))=false/\Rf 1022/\z.get 2=rM kb/\ai prog kb 3 (0+i*4+3)=some (ZV x.change)/\(!(decide (0<=x.aU) && decide (x.aU<=15)))=false/\Rf z/\gP 119 [ZV x.change,YM,I 3600]=some (YE5 x)/\(!(decide (0<=x.aU) && decide (x.aU<=15)))=false/\(!(decide (0<=x.aU) && decide (x.aU<=15)))=false/\Br (!(decide (0<=x.change) && decide (x.change<=3600))) (E6 57 z zn (R2 (IV i) cM (Q af.ret (rS i) [] 0 z zn))) (ZV (IntKind.i64.wrap ((↑i:Int)+1))=IV (i+1)/\E6 57 z zn (R2 (SL 1022 n cp) (IV (i+1)) (Q aN [(0,SL 1022 n cp),(4,IV (i+1))] [] 0 z zn)))))))) (E6 57 z zn (Q YO [] [] 0 z zn))):RdT prog gP z Un 57 (zK n cp i) z [] 0 zn 0 Q:=K1t hyp ((tA 1 (tO (bS i) (tO (An.ld 2 kb (Eo x)) (tO (An.cl (Value.bool (bW x.id))) ((tE [] [] (H9 i) [] 0 z zn).fork (Tr.lp 0 57 [] [] (xW n cp i 0) [] 0 z zn (Al.cons Unit (YR b) (fun(x:Unit)=>Zg i z zn) (fun(x:Unit)=>tE [] [] (uF i) [] 0 z zn) (Al.cons Unit (YS b) (fun(x:Unit)=>aA.mk iy (zK n cp i) [] 0 z zn) (fun(x_1:Unit)=>tO (bS i) (tO (An.ld 2 kb (zv x.aU)) (tO (An.cl (YE4 x)) ((tO bI (tO bI (tO bI (tO bI (tO bI (tO bI (tO bI (tA 1 (tE [] [] (rS i) [] 0 z zn))))))))).fork (tO bc (tO bc (tO (bS i) (tO bc (tO bc (tO (An.ld 2 kb (zv x.change)) (tO bc (tO (An.cl (YE5 x)) (tO bc (tO bc ((tE [] [] (rS i) [] 0 z zn).fork (tO (dI i) (tE [] [] [(0,SL 1022 n cp),(4,IV (i+1))] [] 0 z zn))))))))))))))))) Al.nil)))))))).fork (S8 z zn))
theorem Tl(z:T aa)(zn n cp:Nat)(r1 r2:Int)(Q:QF)(hyp:Br (decide ((↑n:Int)>64)) (E6 57 z zn (Mc/\Q CZ [] 0 z zn)) (tD/\aj prog Un 0 57 (zK n cp 0) [] 0 z zn (jA z zn 0 2 3 0 r1 r2).R/\E6 57 z zn (R2 (SL 1022 n cp) YM ((∀(x:Unit),True->E6 57 z zn (CL r1 r2/\Q (Ii r1 r2) [] 0 z zn))/\ ∀(x:Unit),r1=0/\r2=0->E6 57 z zn (wO/\Q wZ [] 0 z zn))))):FnT prog gP z f71 [tb 2 n cp] z [] 0 zn Q:=K1t hyp ((T7 z zn).fork (tA 1 (Tr.lp 0 57 [] [] (zK n cp 0) [] 0 z zn (YEx r1 r2 z zn))))
end
noncomputable section
noncomputable abbrev Zs:Code:=ah (ag f42) 0
theorem rst(z:T aa)(zn i n cp:Nat)(kb:aV)(x:bT)(ks:List Value)(Q:QL)(hyp:Br (decide ((↑i:Int)<(↑n:Int))) (cG i/\i<n/\Rf 1022/\z.get 2=rM kb/\ai prog kb 94 (0+i*4)=some (AG [Eo x,ZV x.aU,Value.bool x.sf,ZV x.change])/\Rf z/\gP 77 [Eo x]=some (Value.bool (bW x.id))/\Br (!bW x.id) (E6 54 z zn (R2 (IV i) (I 12) (Q af.ret (H9 i) [] 1 z zn))) (aE prog 9 (Eo x) (eF ks) 0≠none/\(∀(p:Nat × Value),aE prog 9 (Eo x) (eF ks) 0=YH p->Exists (Ig p))/\(∀(i_1:Nat),aE prog 9 (Eo x) (eF ks) 0=Ie i_1->E6 54 z zn (R2 (IV i) (I 6) (Q af.ret (uF i) [] 1 z zn)))/\(aE prog 9 (Eo x) (eF ks) 0=YL->Br (decide (x.aU<0)) (E6 54 z zn (R2 (IV i) cM (Q af.ret (rS i) [] 1 z zn))) (Br (decide (x.aU>=16)) (E6 54 z zn (R2 (IV i) cM (Q af.ret (rS i) [] 1 z zn))) (Br (decide (x.change<0)) (E6 54 z zn (R2 (IV i) cM (Q af.ret (rS i) [] 1 z zn))) (Br (decide (x.change>3600)) (E6 54 z zn (R2 (IV i) cM (Q af.ret (rS i) [] 1 z zn))) (aE prog 9 (Eo x) (eF ks) 0=YL/\ZV (IntKind.i64.wrap ((↑i:Int)+1))=IV (i+1)/\E6 54 z zn (R4 YK (SL 1022 n cp) (IV n) (IV (i+1)) (KO YD (aa.map (eF ks++[MapEntry.mk (Eo x) T1 ks.length]) (ks.length+1))/\Q aN [(4,YK),(11,SL 1022 n cp),(12,IV n),(13,IV (i+1))] [(0,aa.map (eF ks++[MapEntry.mk (Eo x) T1 ks.length]) (ks.length+1))] 1 z zn))))))))) (E6 54 z zn (Q YO [] [] 1 z zn))):RdT prog gP z Zs 54 [(4,mp 0),(11,tb 2 n cp),(12,iv n),(13,iv i)] z [(0,bt ks)] 1 zn 1 Q:=K1t hyp ((tA 1 (tO (bS i) (tO (An.ld 2 kb (AG x.row)) (tA 2 (tO (An.cl (Value.bool (bW x.id))) ((tE [] [] (H9 i) [] 1 z zn).fork (tA 1 (Tr.find Nat (fun(x:Nat)=>(x,T1)) (fun(i_1:Nat)=>tA 1 (tE [] [] (uF i) [] 1 z zn)) (tA 2 ((tA 13 (LC i z zn)).fork (tA 4 ((tA 10 (LC i z zn)).fork (tA 5 ((tA 6 (LC i z zn)).fork (tA 5 ((tA 2 (LC i z zn)).fork (tA 3 (tO CJ (tO (dI i) (tE YC [] [(4,YK),(11,SL 1022 n cp),(12,IV n),(13,IV (i+1))] [(0,aa.map (eF ks++[MapEntry.mk (Eo x) T1 ks.length]) (ks.length+1))] 1 z zn)))))))))))))))))))).fork (W1 z zn))
theorem aa6(z:T aa)(zn n cp:Nat)(r1 r2:Int)(Q:QF)(hyp:Br (decide ((↑n:Int)>64)) (E6 54 z zn (Mc/\Q CZ [] 0 z zn)) (YP/\aj prog Zs 1 54 (Ji n cp 0) Er 1 z zn (jA z zn 1 2 3 0 r1 r2).R/\E6 54 z zn (R4 YK (SL 1022 n cp) (IV n) YM (tG/\(∀(x:Unit),True->E6 54 z zn (CL r1 r2/\Q (Ii r1 r2) [] 0 z zn))/\ ∀(x:Unit),r1=0/\r2=0->E6 54 z zn (wO/\Q wZ [] 0 z zn))))):FnT prog gP z f42 [tb 2 n cp] z [] 0 zn Q:=K1t hyp ((T7 z zn).fork (tA 1 (Tr.lp 1 54 YC [] (Ji n cp 0) Er 1 z zn (YE1 r1 r2 z zn))))
theorem aa5(z:T aa)(zn:Nat)(Q:QF)(hyp:YP/\aj prog Zs 1 54 xS Er 1 z zn (ZD z zn)/\E6 54 z zn (R4 YK Y5 YM YM (tG/\ ∀(x:Unit),True->E6 54 z zn (wO/\Q wZ [] 0 z zn)))):FnT prog gP z f42 [an] z [] 0 zn Q:=K1t hyp (tA 2 (Tr.lp 1 54 YC [] xS Er 1 z zn (ZA z zn)))
theorem Z4(z:T aa)(zn:Nat)(Q:QL)(hyp:E6 54 z zn (Q YO [] [] 1 z zn)):RdT prog gP z Zs 54 xS z Er 1 zn 1 Q:=K1t hyp (tA 2 (tE [] [] [] [] 1 z zn))
end
end Go.Proofs.Nw
namespace Go.Proofs.Nw
open Go Go.AV Tryz
set_option maxRecDepth 100000
def eG(l:List bT)(i:Nat):Option Int:=match l[i]? with
 |some x=>if bW x.id=false then some 12 else if (l.take i).any (fun y=>y.id.data==x.id.data) then some 6 else if x.aU<0\/16<=x.aU\/x.change<0\/3600<x.change then some 2 else none
 |none=>none
def cy(l:List bT):Int × Int:=if 64<l.length then (0,5) else scan (eG l) l.length 0
structure bP(z:T aa)(k:Nat)(rows:List (List Value)):Prop where
 here:rows≠[]-> ∃e,z.get k=some (.az (bk e rows.flatten))
 size: ∀r∈rows,∀s:ByteArray,Value.string s∈r->s.size<=9223372036854775807
theorem bP.sz{z:T aa}{k:Nat}{rows:List (List Value)}(h:bP z k rows){i:Nat}{r:List Value}{s:ByteArray}(hr:rows[i]? =some r)(hs:Value.string s∈r):s.size<=9223372036854775807:=h.size r (List.mem_of_getElem? hr) s hs
theorem bP.az{z:T aa}{k i:Nat}{rows:List (List Value)}(h:bP z k rows)(hi:i<rows.length): ∃e,z.get k=some (.az (bk e rows.flatten)):=
 h.here (fun e=>by rw[e] at hi;simp at hi)
theorem aO{α:Type}{row:α->List Value}{sz:Nat}(l:List α)(h: ∀x,(row x).length=sz): ∀r∈l.map row,r.length=sz:=by
 intro r hr
 obtain⟨y,_,rfl⟩:=List.mem_map.1 hr
 exact h y
theorem bH{n:Nat}(h:n<1000000000):Value.int .i64 (IntKind.i64.wrap ((n:Int)+1))=Value.int .i64 ((n+1:Nat):Int):=by
 have:IntKind.i64.wrap ((n:Int)+1)=(n:Int)+1:=by
  simp only[IntKind.wrap,IntKind.signed,IntKind.bits]
  simp
  omega
 rw[this];rfl
theorem vI{s:ByteArray}{l:List ByteArray}:Value.string s∈l.map Value.string↔s∈l:=by
 rw[List.mem_map]
 exact⟨fun⟨x,h1,h2⟩=>by cases h2;exact h1,fun h=>⟨s,h,rfl⟩⟩
section
variable{z:T aa}{zn:Nat}
theorem Nn(hz:aw z zn)(hg:fq prog z gP)(l:List bT)(cp:Nat)(ht:bP z 2 (l.map bT.row))(hl:l.length<100000)(r:Int × Int)(hr:scan (eG l) l.length 0=r):
 aj prog (ah (ag f42) 0) 1 54 (Ji l.length cp 0) [(0,bt [])] 1 z zn (Al.R (U5 z zn l.length cp r.1 r.2).l):=by
 refine ax hD hg (α:=Nat) 1 54 1 (fun i=>i<=l.length/\scan (eG l) (l.length - i) i=r) (fun i=>Ji l.length cp i) (fun i=>[(0,bt (((l.take i).map bT.id).map .string))]) (fun _=>z) (fun _=>zn) (fun i=>l.length - i) _ (fun i hI=>?_) 0 ⟨Nat.zero_le _,hr⟩
 obtain⟨h1,h2⟩:=hI
 by_cases hi:i<l.length
 ·obtain⟨e,he⟩:=ht.az (i:=i) (by simpa using hi)
  obtain⟨x,hx⟩: ∃x,l[i]? =some x:=⟨l[i],List.getElem?_eq_getElem hi⟩
  have hid:=Xi (ht.sz (i:=i) (r:=x.row) (s:=x.id) (by rw[List.getElem?_map,hx];rfl) (by simp))
  have hrow:ai prog (bk e (l.map bT.row).flatten) 94 (0+i*4)=some (.agg ⟨x.row⟩):=bG (P:=prog) (e:=e) (t:=94) (k:=i) (r:=x.row) (sz:=4) underlying94 rfl rfl (aO (row:=bT.row) l fun _=>rfl) (by rw[List.getElem?_map,hx];rfl)
  have hk:=DM x.id ((l.take i).map bT.id)
  have hps:=pL ((l.take i).map bT.id)
  have hany:Value.string x.id∈((l.take i).map bT.id).map Value.string↔(l.take i).any (fun y=>y.id.data==x.id.data)=true:=by
   rw[vI,List.any_eq_true,List.mem_map]
   exact⟨fun⟨y,q1,q2⟩=>⟨y,q1,by rw[q2];exact(kq _ _).2 rfl⟩,fun⟨y,q1,q2⟩=>⟨y,q1,(kq _ _).1 q2⟩⟩
  have hc:decide ((i:Int)<(l.length:Int))=true:=by simp;omega
  have ret: ∀e:Int,eG l i=some e->Al.R (U5 z zn l.length cp r.1 r.2).l ⟨.ret,[(2,iv i),(3,zv e)],[],1,z,zn⟩:=fun e h=>by
   have:r=((i:Int),e):=by rw[←h2,cZ hi h]
   rw[this];exact bh trivial
  refine t100 (rst z zn i l.length cp (bk e (l.map bT.row).flatten) x (((l.take i).map bT.id).map .string) (au _ _ _ _ _ _ _ _ _) ⟨fun _=>?_,fun h=>by rw[hc] at h;cases h⟩)
  (repeat' first|(with_reducible first|exact rfl|assumption|apply And.intro|exact hk.no|exact hk.ex|exact iS _ hps rfl|exact bH (by omega))|intro hq)
  all_goals try (have hm:=hk.Fu (by with_reducible assumption);rw[hany] at hm)
  all_goals try (have hm:=hk.LU (by with_reducible assumption);rw[hany] at hm)
  all_goals clear hk hps hrow hany he ht hz hr
  all_goals first
   |(refine ret _ ?_;clear ret h2;simp only[eG,hx];simp_all;done)
   |(refine ret _ ?_;clear ret h2;simp only[eG,hx];simp_all;omega)
   |with_reducible assumption
   |skip
  have hb:eG l i=none:=by
   clear ret h2
   simp only[eG,hx]
   rw[if_neg (by simp_all),if_neg hm,if_neg (by simp only[decide_eq_false_iff_not] at*;omega)]
  refine⟨i+1,rfl,?_,rfl,rfl,rfl,⟨hi,by rw[←cI hi hb];exact h2⟩,by show l.length - (i+1)<l.length - i;omega⟩
  rw[fT]
  show _=[(0,bt (((l.take (i+1)).map bT.id).map .string))]
  rw[List.take_add_one,hx]
  simp
 ·have hc:decide ((i:Int)<(l.length:Int))=false:=by simp;omega
  refine t100 (rst z zn i l.length cp ⟨[],0,0,0,true,true,0,true⟩ ⟨⟨#[]⟩,0,true,0⟩ (((l.take i).map bT.id).map .string) (au _ _ _ _ _ _ _ _ _) ⟨nC1 hc,fun _=>?_⟩)
  (repeat' first|(with_reducible first|exact rfl|assumption|apply And.intro))
  refine c8 (bh ?_)
  rw[dN (by omega)] at h2
  rw[←h2]
  exact⟨rfl,rfl⟩
theorem Si(hz:aw z zn)(hg:fq prog z gP)(l:List bT)(cp:Nat)(ht:bP z 2 (l.map bT.row)):
 A1 z zn 42 [tb 2 l.length cp] [] 0 0 (.tuple ⟨[zv (cy l).1,zv (cy l).2]⟩) []:=by
 refine dg hg (fn:=f42) (by kernel_rfl) (by kernel_rfl) hz ⟨by decide,by decide⟩ rfl (aa6 z zn l.length cp (cy l).1 (cy l).2 _ ?_)
 by_cases h:64<l.length
 ·have hr:cy l=(0,5):=if_pos h
  have hc:decide ((l.length:Int)>64)=true:=by simp;omega
  rw[hr]
  refine⟨fun _=>?_,nC1 hc⟩
  (repeat' first|(with_reducible first|exact rfl|assumption|apply And.intro))
  exact q1
 ·have hr:cy l=scan (eG l) l.length 0:=if_neg h
  have hc:decide ((l.length:Int)>64)=false:=by simp;omega
  have hL:=Nn hz hg l cp ht (by omega) (cy l) hr.symm
  refine⟨nC1 hc,fun _=>?_⟩
  (repeat' first|(with_reducible first|exact rfl|assumption|apply And.intro)|exact hL|intro hq)
  ·exact q1
  ·rw[hq.1,hq.2];exact q1
theorem Om(hz:aw z zn)(hg:fq prog z gP):A1 z zn 42 [an] [] 0 0 (.tuple ⟨[I 0,I 0]⟩) []:=by
 have hL:aj prog (ah (ag f42) 0) 1 54 xS [(0,bt [])] 1 z zn (Al.R (U4 z zn).l):=by
  refine ax hD hg (α:=Unit) 1 54 1 (fun _=>True) (fun _=>xS) (fun _=>[(0,bt [])]) (fun _=>z) (fun _=>zn) (fun _=>0) _ (fun i hI=>?_) () trivial
  refine t100 (Z4 z zn (au _ _ _ _ _ _ _ _ _) ?_)
  (repeat' first|(with_reducible first|exact rfl|assumption|apply And.intro))
  exact bh trivial
 refine dg hg (fn:=f42) (by kernel_rfl) (by kernel_rfl) hz ⟨by decide,by decide⟩ rfl (aa5 z zn _ ?_)
 (repeat' first|(with_reducible first|exact rfl|assumption|apply And.intro|exact q1)|exact hL|intro hq)
end
theorem ku{α:Type}{p:α->Bool}{l:List α}{k:Nat}{y:α}(h:l[k]? =some y):(l.take (k+1)).any p=((l.take k).any p||p y):=by
 rw[List.take_add_one,h,List.any_append];simp
theorem any_true{α:Type}{p:α->Bool}{l:List α}{i k:Nat}{y:α}(h:l[k]? =some y)(hk:k<i)(hp:p y=true):(l.take i).any p=true:=by
 rw[List.any_eq_true]
 exact⟨y,List.mem_of_getElem? (by rw[List.getElem?_take,if_pos hk,h]),hp⟩
theorem dm{α:Type}{l:List α}{i:Nat}(h:i<l.length): ∃x,l[i]? =some x:=⟨l[i],List.getElem?_eq_getElem h⟩
theorem p8(a b:ByteArray):(a.toList==b.toList)=(a.data==b.data):=by
 rw[ByteArray.toList_eq,ByteArray.toList_eq]
 cases h:(a.data==b.data) with
 |true=>have:=(kq a b).1 h;subst this;simp
 |false=>
  cases h2:(a.data.toList==b.data.toList) with
  |false=>rfl
  |true=>
   have h3:a.data.toList=b.data.toList:=by simpa using h2
   have:a.data=b.data:=by cases ha:a.data;cases hb:b.data;rw[ha,hb] at h3;simp at h3;rw[h3]
   rw[this] at h;simp at h
section
variable{z:T aa}{zn:Nat}
theorem Jr(hz:aw z zn)(hg:fq prog z gP)(l:List bT)(cp:Nat)(e:TypeId)(he:z.get 2=some (.az (bk e (l.map bT.row).flatten)))(hl:l.length<100000)(i:Nat)(x:bT)(hx:l[i]? =some x)(b:Bool)(hb:b=(l.take i).any fun y=>y.id.data==x.id.data):
 aj prog (ah (ah (ag f71) 0) 0) 0 57 (xW l.length cp i 0) [] 0 z zn (Al.R (Vb z zn l.length cp i b).l):=by
 have hil:i<l.length:=(List.getElem?_eq_some_iff.1 hx).1
 refine ax hD hg (α:=Nat) 0 57 0 (fun k=>k<=i/\((l.take k).any fun y=>y.id.data==x.id.data)=false) (fun k=>xW l.length cp i k) (fun _=>[]) (fun _=>z) (fun _=>zn) (fun k=>i - k) _ (fun k hI=>?_) 0 ⟨Nat.zero_le _,rfl⟩
 obtain⟨h1,h2⟩:=hI
 have hlen:=aO (row:=bT.row) (sz:=4) l fun _=>rfl
 have rx:ai prog (bk e (l.map bT.row).flatten) 9 (0+i*4+0)=some (.string x.id):=aT (r:=x.row) (j:=0) underlying9 rfl hlen (by rw[List.getElem?_map,hx];rfl) rfl
 by_cases hk:k<i
 ·obtain⟨y,hy⟩:=dm (l:=l) (i:=k) (by omega)
  have ry:ai prog (bk e (l.map bT.row).flatten) 9 (0+k*4+0)=some (.string y.id):=aT (r:=y.row) (j:=0) underlying9 rfl hlen (by rw[List.getElem?_map,hy];rfl) rfl
  have hc:decide ((k:Int)<(i:Int))=true:=by simp;omega
  refine t100 (UJ z zn i k l.length cp (bk e (l.map bT.row).flatten) x y (au _ _ _ _ _ _ _ _ _) ⟨fun _=>?_,nC1 hc⟩)
  (repeat' first|(with_reducible first|exact rfl|assumption|apply And.intro|exact(by omega:k<l.length)|exact bH (by omega))|intro hq)
  ·rw[p8] at hq
   exact bh (by rw[hb];exact any_true hy hk hq)
  ·rw[p8] at hq
   exact⟨k+1,rfl,rfl,rfl,rfl,rfl,⟨hk,by rw[ku hy,h2,hq];rfl⟩,by show i - (k+1)<i - k;omega⟩
 ·have hc:decide ((k:Int)<(i:Int))=false:=by simp;omega
  refine t100 (UJ z zn i k l.length cp (bk e (l.map bT.row).flatten) x x (au _ _ _ _ _ _ _ _ _) ⟨nC1 hc,fun _=>?_⟩)
  (repeat' first|(with_reducible first|exact rfl|assumption|apply And.intro))
  refine c8 (bh ?_)
  rw[hb,←h2,show k=i by omega]
theorem Nr(hz:aw z zn)(hg:fq prog z gP)(l:List bT)(cp:Nat)(ht:bP z 2 (l.map bT.row))(hl:l.length<100000)(r:Int × Int)(hr:scan (eG l) l.length 0=r):
 aj prog (ah (ag f71) 0) 0 57 (zK l.length cp 0) [] 0 z zn (Al.R (Vc z zn l.length cp r.1 r.2).l):=by
 refine ax hD hg (α:=Nat) 0 57 0 (fun i=>i<=l.length/\scan (eG l) (l.length - i) i=r) (fun i=>zK l.length cp i) (fun i=>[]) (fun _=>z) (fun _=>zn) (fun i=>l.length - i) _ (fun i hI=>?_) 0 ⟨Nat.zero_le _,hr⟩
 obtain⟨h1,h2⟩:=hI
 by_cases hi:i<l.length
 ·obtain⟨e,he⟩:=ht.az (i:=i) (by simpa using hi)
  obtain⟨x,hx⟩:=dm hi
  have hid:=Xh (ht.sz (i:=i) (r:=x.row) (s:=x.id) (by rw[List.getElem?_map,hx];rfl) (by simp))
  have hlen:=aO (row:=bT.row) (sz:=4) l fun _=>rfl
  have hr:(l.map bT.row)[i]? =some x.row:=by rw[List.getElem?_map,hx];rfl
  have r0:ai prog (bk e (l.map bT.row).flatten) 9 (0+i*4+0)=some (.string x.id):=aT (j:=0) underlying9 rfl hlen hr rfl
  have r1:ai prog (bk e (l.map bT.row).flatten) 3 (0+i*4+1)=some (zv x.aU):=aT (j:=1) underlying3 rfl hlen hr rfl
  have r3:ai prog (bk e (l.map bT.row).flatten) 3 (0+i*4+3)=some (zv x.change):=aT (j:=3) underlying3 rfl hlen hr rfl
  have hL:=Jr hz hg l cp e he hl i x hx _ rfl
  generalize hb:((l.take i).any fun y=>y.id.data==x.id.data)=b at hL
  have hc:decide ((i:Int)<(l.length:Int))=true:=by simp;omega
  have ret: ∀e:Int,eG l i=some e->Al.R (Vc z zn l.length cp r.1 r.2).l ⟨.ret,[(2,iv i),(3,zv e)],[],0,z,zn⟩:=fun e h=>by
   have:r=((i:Int),e):=by rw[←h2,cZ hi h]
   rw[this];exact bh trivial
  have hbad:eG l i=if bW x.id=false then some 12 else if b=true then some 6 else if x.aU<0\/16<=x.aU\/x.change<0\/3600<x.change then some 2 else none:=by
   simp only[eG,hx,hb]
  refine t100 (rrs z zn i l.length cp (bk e (l.map bT.row).flatten) x b (au _ _ _ _ _ _ _ _ _) ⟨fun _=>?_,nC1 hc⟩)
  (repeat' first|(with_reducible first|exact rfl|assumption|apply And.intro|exact bH (by omega))|exact(rfl:gP _ _=_)|exact hL|intro hq)
  all_goals clear hL r0 r1 r3 hr hlen he ht hz
  all_goals first
   |with_reducible assumption
   |rfl
   |(refine ret _ ?_;clear ret h2;rw[hbad];simp_all;done)
   |(refine ret _ ?_;clear ret h2;rw[hbad];simp_all;omega)
   |(have hb0:eG l i=none:=by
      clear ret h2
      rw[hbad,if_neg (by simp_all),if_neg (by simp_all),if_neg (by simp only[bS1] at*;omega)]
     exact⟨i+1,rfl,rfl,rfl,rfl,rfl,⟨hi,by rw[←cI hi hb0];exact h2⟩,by show l.length - (i+1)<l.length - i;omega⟩)
 ·have hc:decide ((i:Int)<(l.length:Int))=false:=by simp;omega
  refine t100 (rrs z zn i l.length cp ⟨[],0,0,0,true,true,0,true⟩ ⟨⟨#[]⟩,0,true,0⟩ true (au _ _ _ _ _ _ _ _ _) ⟨nC1 hc,fun _=>?_⟩)
  (repeat' first|(with_reducible first|exact rfl|assumption|apply And.intro))
  refine c8 (bh ?_)
  rw[dN (by omega)] at h2
  rw[←h2]
  exact⟨rfl,rfl⟩
theorem KC(hz:aw z zn)(hg:fq prog z gP)(l:List bT)(cp:Nat)(ht:bP z 2 (l.map bT.row)):
 A1 z zn 71 [tb 2 l.length cp] [] 0 0 (.tuple ⟨[zv (cy l).1,zv (cy l).2]⟩) []:=by
 refine dg hg (fn:=f71) (by kernel_rfl) (by kernel_rfl) hz ⟨by decide,by decide⟩ rfl (Tl z zn l.length cp (cy l).1 (cy l).2 _ ?_)
 by_cases h:64<l.length
 ·have hr:cy l=(0,5):=if_pos h
  have hc:decide ((l.length:Int)>64)=true:=by simp;omega
  rw[hr]
  refine⟨fun _=>?_,nC1 hc⟩
  (repeat' first|(with_reducible first|exact rfl|assumption|apply And.intro))
  exact q1
 ·have hr:cy l=scan (eG l) l.length 0:=if_neg h
  have hc:decide ((l.length:Int)>64)=false:=by simp;omega
  have hL:=Nr hz hg l cp ht (by omega) (cy l) hr.symm
  refine⟨nC1 hc,fun _=>?_⟩
  (repeat' first|(with_reducible first|exact rfl|assumption|apply And.intro)|exact hL|intro hq)
  ·exact q1
  ·rw[hq.1,hq.2];exact q1
end
def dC(l:List bm)(i:Nat):Option Int:=match l[i]? with
 |some x=>if bW x.id=false then some 12 else if (l.take i).any (fun y=>y.id.data==x.id.data) then some 6 else if x.mode<0\/8<=x.mode then some 2 else none
 |none=>none
def cg(l:List bm):Int × Int:=if 64<l.length then (0,5) else scan (dC l) l.length 0
section
variable{z:T aa}{zn:Nat}
theorem Nq(hz:aw z zn)(hg:fq prog z gP)(l:List bm)(cp:Nat)(ht:bP z 3 (l.map bm.row))(hl:l.length<100000)(r:Int × Int)(hr:scan (dC l) l.length 0=r):
 aj prog (ah (ag f43) 0) 1 37 (Jj l.length cp 0) [(0,bt [])] 1 z zn (Al.R (Va z zn l.length cp r.1 r.2).l):=by
 refine ax hD hg (α:=Nat) 1 37 1 (fun i=>i<=l.length/\scan (dC l) (l.length - i) i=r) (fun i=>Jj l.length cp i) (fun i=>[(0,bt (((l.take i).map bm.id).map .string))]) (fun _=>z) (fun _=>zn) (fun i=>l.length - i) _ (fun i hI=>?_) 0 ⟨Nat.zero_le _,hr⟩
 obtain⟨h1,h2⟩:=hI
 by_cases hi:i<l.length
 ·obtain⟨e,he⟩:=ht.az (i:=i) (by simpa using hi)
  obtain⟨x,hx⟩: ∃x,l[i]? =some x:=⟨l[i],List.getElem?_eq_getElem hi⟩
  have hid:=Xi (ht.sz (i:=i) (r:=x.row) (s:=x.id) (by rw[List.getElem?_map,hx];rfl) (by simp))
  have hrow:ai prog (bk e (l.map bm.row).flatten) 96 (0+i*3)=some (.agg ⟨x.row⟩):=bG (P:=prog) (e:=e) (t:=96) (k:=i) (r:=x.row) (sz:=3) underlying96 rfl rfl (aO (row:=bm.row) l fun _=>rfl) (by rw[List.getElem?_map,hx];rfl)
  have hk:=DM x.id ((l.take i).map bm.id)
  have hps:=pL ((l.take i).map bm.id)
  have hany:Value.string x.id∈((l.take i).map bm.id).map Value.string↔(l.take i).any (fun y=>y.id.data==x.id.data)=true:=by
   rw[vI,List.any_eq_true,List.mem_map]
   exact⟨fun⟨y,q1,q2⟩=>⟨y,q1,by rw[q2];exact(kq _ _).2 rfl⟩,fun⟨y,q1,q2⟩=>⟨y,q1,(kq _ _).1 q2⟩⟩
  have hc:decide ((i:Int)<(l.length:Int))=true:=by simp;omega
  have ret: ∀e:Int,dC l i=some e->Al.R (Va z zn l.length cp r.1 r.2).l ⟨.ret,[(2,iv i),(3,zv e)],[],1,z,zn⟩:=fun e h=>by
   have:r=((i:Int),e):=by rw[←h2,cZ hi h]
   rw[this];exact bh trivial
  refine t100 (rrt z zn i l.length cp (bk e (l.map bm.row).flatten) x (((l.take i).map bm.id).map .string) (au _ _ _ _ _ _ _ _ _) ⟨fun _=>?_,fun h=>by rw[hc] at h;cases h⟩)
  (repeat' first|(with_reducible first|exact rfl|assumption|apply And.intro|exact hk.no|exact hk.ex|exact iS _ hps rfl|exact bH (by omega))|exact(rfl:gP _ _=_)|intro hq)
  all_goals try (have hm:=hk.Fu (by with_reducible assumption);rw[hany] at hm)
  all_goals try (have hm:=hk.LU (by with_reducible assumption);rw[hany] at hm)
  all_goals clear hk hps hrow hany he ht hz hr
  all_goals first
   |(refine ret _ ?_;clear ret h2;simp only[dC,hx];simp_all;done)
   |(refine ret _ ?_;clear ret h2;simp only[dC,hx];simp_all;omega)
   |with_reducible assumption
   |rfl
   |skip
  have hb:dC l i=none:=by
   clear ret h2
   simp only[dC,hx]
   rw[if_neg (by simp_all),if_neg hm,if_neg (by simp only[bS1] at*;omega)]
  refine⟨i+1,rfl,?_,rfl,rfl,rfl,⟨hi,by rw[←cI hi hb];exact h2⟩,by show l.length - (i+1)<l.length - i;omega⟩
  rw[fT]
  show _=[(0,bt (((l.take (i+1)).map bm.id).map .string))]
  rw[List.take_add_one,hx]
  simp
 ·have hc:decide ((i:Int)<(l.length:Int))=false:=by simp;omega
  refine t100 (rrt z zn i l.length cp ⟨[],0,0,0,true,true,0,true⟩ ⟨⟨#[]⟩,0,true⟩ (((l.take i).map bm.id).map .string) (au _ _ _ _ _ _ _ _ _) ⟨nC1 hc,fun _=>?_⟩)
  (repeat' first|(with_reducible first|exact rfl|assumption|apply And.intro))
  refine c8 (bh ?_)
  rw[dN (by omega)] at h2
  rw[←h2]
  exact⟨rfl,rfl⟩
theorem Ou(hz:aw z zn)(hg:fq prog z gP)(l:List bm)(cp:Nat)(ht:bP z 3 (l.map bm.row)):
 A1 z zn 43 [tb 3 l.length cp] [] 0 0 (.tuple ⟨[zv (cg l).1,zv (cg l).2]⟩) []:=by
 refine dg hg (fn:=f43) (by kernel_rfl) (by kernel_rfl) hz ⟨by decide,by decide⟩ rfl (aba z zn l.length cp (cg l).1 (cg l).2 _ ?_)
 by_cases h:64<l.length
 ·have hr:cg l=(0,5):=if_pos h
  have hc:decide ((l.length:Int)>64)=true:=by simp;omega
  rw[hr]
  refine⟨fun _=>?_,nC1 hc⟩
  (repeat' first|(with_reducible first|exact rfl|assumption|apply And.intro))
  exact q1
 ·have hr:cg l=scan (dC l) l.length 0:=if_neg h
  have hc:decide ((l.length:Int)>64)=false:=by simp;omega
  have hL:=Nq hz hg l cp ht (by omega) (cg l) hr.symm
  refine⟨nC1 hc,fun _=>?_⟩
  (repeat' first|(with_reducible first|exact rfl|assumption|apply And.intro)|exact hL|intro hq)
  ·exact q1
  ·rw[hq.1,hq.2];exact q1
theorem KF(hz:aw z zn)(hg:fq prog z gP):A1 z zn 43 [an] [] 0 0 (.tuple ⟨[I 0,I 0]⟩) []:=by
 have hL:aj prog (ah (ag f43) 0) 1 37 xV [(0,bt [])] 1 z zn (Al.R (U9 z zn).l):=by
  refine ax hD hg (α:=Unit) 1 37 1 (fun _=>True) (fun _=>xV) (fun _=>[(0,bt [])]) (fun _=>z) (fun _=>zn) (fun _=>0) _ (fun i hI=>?_) () trivial
  refine t100 (Z8 z zn (au _ _ _ _ _ _ _ _ _) ?_)
  (repeat' first|(with_reducible first|exact rfl|assumption|apply And.intro))
  exact bh trivial
 refine dg hg (fn:=f43) (by kernel_rfl) (by kernel_rfl) hz ⟨by decide,by decide⟩ rfl (aa9 z zn _ ?_)
 (repeat' first|(with_reducible first|exact rfl|assumption|apply And.intro|exact q1)|exact hL|intro hq)
end
section
variable{z:T aa}{zn:Nat}
theorem Jw(hz:aw z zn)(hg:fq prog z gP)(l:List bm)(cp:Nat)(e:TypeId)(he:z.get 3=some (.az (bk e (l.map bm.row).flatten)))(hl:l.length<100000)(i:Nat)(x:bm)(hx:l[i]? =some x)(b:Bool)(hb:b=(l.take i).any fun y=>y.id.data==x.id.data):
 aj prog (ah (ah (ag f72) 0) 0) 0 48 (xX l.length cp i 0) [] 0 z zn (Al.R (Vd z zn l.length cp i b).l):=by
 have hil:i<l.length:=(List.getElem?_eq_some_iff.1 hx).1
 refine ax hD hg (α:=Nat) 0 48 0 (fun k=>k<=i/\((l.take k).any fun y=>y.id.data==x.id.data)=false) (fun k=>xX l.length cp i k) (fun _=>[]) (fun _=>z) (fun _=>zn) (fun k=>i - k) _ (fun k hI=>?_) 0 ⟨Nat.zero_le _,rfl⟩
 obtain⟨h1,h2⟩:=hI
 have hlen:=aO (row:=bm.row) (sz:=3) l fun _=>rfl
 have rx:ai prog (bk e (l.map bm.row).flatten) 9 (0+i*3+0)=some (.string x.id):=aT (r:=x.row) (j:=0) underlying9 rfl hlen (by rw[List.getElem?_map,hx];rfl) rfl
 by_cases hk:k<i
 ·obtain⟨y,hy⟩:=dm (l:=l) (i:=k) (by omega)
  have ry:ai prog (bk e (l.map bm.row).flatten) 9 (0+k*3+0)=some (.string y.id):=aT (r:=y.row) (j:=0) underlying9 rfl hlen (by rw[List.getElem?_map,hy];rfl) rfl
  have hc:decide ((k:Int)<(i:Int))=true:=by simp;omega
  refine t100 (UK z zn i k l.length cp (bk e (l.map bm.row).flatten) x y (au _ _ _ _ _ _ _ _ _) ⟨fun _=>?_,nC1 hc⟩)
  (repeat' first|(with_reducible first|exact rfl|assumption|apply And.intro|exact(by omega:k<l.length)|exact bH (by omega))|intro hq)
  ·rw[p8] at hq
   exact bh (by rw[hb];exact any_true hy hk hq)
  ·rw[p8] at hq
   exact⟨k+1,rfl,rfl,rfl,rfl,rfl,⟨hk,by rw[ku hy,h2,hq];rfl⟩,by show i - (k+1)<i - k;omega⟩
 ·have hc:decide ((k:Int)<(i:Int))=false:=by simp;omega
  refine t100 (UK z zn i k l.length cp (bk e (l.map bm.row).flatten) x x (au _ _ _ _ _ _ _ _ _) ⟨nC1 hc,fun _=>?_⟩)
  (repeat' first|(with_reducible first|exact rfl|assumption|apply And.intro))
  refine c8 (bh ?_)
  rw[hb,←h2,show k=i by omega]
theorem Ns(hz:aw z zn)(hg:fq prog z gP)(l:List bm)(cp:Nat)(ht:bP z 3 (l.map bm.row))(hl:l.length<100000)(r:Int × Int)(hr:scan (dC l) l.length 0=r):
 aj prog (ah (ag f72) 0) 0 48 (zL l.length cp 0) [] 0 z zn (Al.R (Ve z zn l.length cp r.1 r.2).l):=by
 refine ax hD hg (α:=Nat) 0 48 0 (fun i=>i<=l.length/\scan (dC l) (l.length - i) i=r) (fun i=>zL l.length cp i) (fun i=>[]) (fun _=>z) (fun _=>zn) (fun i=>l.length - i) _ (fun i hI=>?_) 0 ⟨Nat.zero_le _,hr⟩
 obtain⟨h1,h2⟩:=hI
 by_cases hi:i<l.length
 ·obtain⟨e,he⟩:=ht.az (i:=i) (by simpa using hi)
  obtain⟨x,hx⟩:=dm hi
  have hid:=Xh (ht.sz (i:=i) (r:=x.row) (s:=x.id) (by rw[List.getElem?_map,hx];rfl) (by simp))
  have hlen:=aO (row:=bm.row) (sz:=3) l fun _=>rfl
  have hr:(l.map bm.row)[i]? =some x.row:=by rw[List.getElem?_map,hx];rfl
  have r0:ai prog (bk e (l.map bm.row).flatten) 9 (0+i*3+0)=some (.string x.id):=aT (j:=0) underlying9 rfl hlen hr rfl
  have r1:ai prog (bk e (l.map bm.row).flatten) 3 (0+i*3+1)=some (zv x.mode):=aT (j:=1) underlying3 rfl hlen hr rfl
  have hL:=Jw hz hg l cp e he hl i x hx _ rfl
  generalize hb:((l.take i).any fun y=>y.id.data==x.id.data)=b at hL
  have hc:decide ((i:Int)<(l.length:Int))=true:=by simp;omega
  have ret: ∀e:Int,dC l i=some e->Al.R (Ve z zn l.length cp r.1 r.2).l ⟨.ret,[(2,iv i),(3,zv e)],[],0,z,zn⟩:=fun e h=>by
   have:r=((i:Int),e):=by rw[←h2,cZ hi h]
   rw[this];exact bh trivial
  have hbad:dC l i=if bW x.id=false then some 12 else if b=true then some 6 else if x.mode<0\/8<=x.mode then some 2 else none:=by
   simp only[dC,hx,hb]
  refine t100 (rrr z zn i l.length cp (bk e (l.map bm.row).flatten) x b (au _ _ _ _ _ _ _ _ _) ⟨fun _=>?_,nC1 hc⟩)
  (repeat' first|(with_reducible first|exact rfl|assumption|apply And.intro|exact bH (by omega))|exact(rfl:gP _ _=_)|exact hL|intro hq)
  all_goals clear hL r0 r1 hr hlen he ht hz
  all_goals first
   |with_reducible assumption
   |rfl
   |(refine ret _ ?_;clear ret h2;rw[hbad];simp_all;done)
   |(refine ret _ ?_;clear ret h2;rw[hbad];simp_all;omega)
   |(have hb0:dC l i=none:=by
      clear ret h2
      rw[hbad,if_neg (by simp_all),if_neg (by simp_all),if_neg (by simp only[bS1] at*;omega)]
     exact⟨i+1,rfl,rfl,rfl,rfl,rfl,⟨hi,by rw[←cI hi hb0];exact h2⟩,by show l.length - (i+1)<l.length - i;omega⟩)
 ·have hc:decide ((i:Int)<(l.length:Int))=false:=by simp;omega
  refine t100 (rrr z zn i l.length cp ⟨[],0,0,0,true,true,0,true⟩ ⟨⟨#[]⟩,0,true⟩ true (au _ _ _ _ _ _ _ _ _) ⟨nC1 hc,fun _=>?_⟩)
  (repeat' first|(with_reducible first|exact rfl|assumption|apply And.intro))
  refine c8 (bh ?_)
  rw[dN (by omega)] at h2
  rw[←h2]
  exact⟨rfl,rfl⟩
theorem G8(hz:aw z zn)(hg:fq prog z gP)(l:List bm)(cp:Nat)(ht:bP z 3 (l.map bm.row)):
 A1 z zn 72 [tb 3 l.length cp] [] 0 0 (.tuple ⟨[zv (cg l).1,zv (cg l).2]⟩) []:=by
 refine dg hg (fn:=f72) (by kernel_rfl) (by kernel_rfl) hz ⟨by decide,by decide⟩ rfl (frr z zn l.length cp (cg l).1 (cg l).2 _ ?_)
 by_cases h:64<l.length
 ·have hr:cg l=(0,5):=if_pos h
  have hc:decide ((l.length:Int)>64)=true:=by simp;omega
  rw[hr]
  refine⟨fun _=>?_,nC1 hc⟩
  (repeat' first|(with_reducible first|exact rfl|assumption|apply And.intro))
  exact q1
 ·have hr:cg l=scan (dC l) l.length 0:=if_neg h
  have hc:decide ((l.length:Int)>64)=false:=by simp;omega
  have hL:=Ns hz hg l cp ht (by omega) (cg l) hr.symm
  refine⟨nC1 hc,fun _=>?_⟩
  (repeat' first|(with_reducible first|exact rfl|assumption|apply And.intro)|exact hL|intro hq)
  ·exact q1
  ·rw[hq.1,hq.2];exact q1
end
def AI(n a b:Int):Bool:=decide (a<=n) && decide (n<=b)
theorem fold(n a b:Int):(decide (a<=n) && decide (n<=b))=AI n a b:=rfl
def eH(l:List bO)(i:Nat):Option Int:=match l[i]? with
 |some x=>if bW x.id=false then some 12 else if (l.take i).any (fun y=>y.id.data==x.id.data) then some 6 else if (AI x.cF 0 1000000 && AI x.ba 1 8 && AI x.cD 1 16 && AI x.aK 0 86400 && AI x.bL 1 255)=false then some 2 else none
 |none=>none
def fN(d w c:Int):Bool:=AI d 0 1000000 && AI w 0 86400 && AI c 0 1000000
def bE(d w c:Int)(l:List bO):Int × Int:=if fN d w c=false then (-1,2) else if 16<l.length then (0,5) else scan (eH l) l.length 0
section
variable{z:T aa}{zn:Nat}
theorem NA(hz:aw z zn)(hg:fq prog z gP)(l:List bO)(cp:Nat)(ht:bP z 5 (l.map bO.row))(hl:l.length<100000)(r:Int × Int)(hr:scan (eH l) l.length 0=r):
 aj prog (ah (ag f48) 0) 2 79 (Gv l.length cp 0) [(1,bt [])] 2 z zn (Al.R (Vn z zn l.length cp r.1 r.2).l):=by
 refine ax hD hg (α:=Nat) 2 79 2 (fun i=>i<=l.length/\scan (eH l) (l.length - i) i=r) (fun i=>Gv l.length cp i) (fun i=>[(1,bt (((l.take i).map bO.id).map .string))]) (fun _=>z) (fun _=>zn) (fun i=>l.length - i) _ (fun i hI=>?_) 0 ⟨Nat.zero_le _,hr⟩
 obtain⟨h1,h2⟩:=hI
 by_cases hi:i<l.length
 ·obtain⟨e,he⟩:=ht.az (i:=i) (by simpa using hi)
  obtain⟨x,hx⟩: ∃x,l[i]? =some x:=⟨l[i],List.getElem?_eq_getElem hi⟩
  have hid:=Xi (ht.sz (i:=i) (r:=x.row) (s:=x.id) (by rw[List.getElem?_map,hx];rfl) (by simp))
  have hrow:ai prog (bk e (l.map bO.row).flatten) 99 (0+i*6)=some (.agg ⟨x.row⟩):=bG (P:=prog) (e:=e) (t:=99) (k:=i) (r:=x.row) (sz:=6) underlying99 rfl rfl (aO (row:=bO.row) l fun _=>rfl) (by rw[List.getElem?_map,hx];rfl)
  have hk:=DM x.id ((l.take i).map bO.id)
  have hps:=pL ((l.take i).map bO.id)
  have hany:Value.string x.id∈((l.take i).map bO.id).map Value.string↔(l.take i).any (fun y=>y.id.data==x.id.data)=true:=by
   rw[vI,List.any_eq_true,List.mem_map]
   exact⟨fun⟨y,q1,q2⟩=>⟨y,q1,by rw[q2];exact(kq _ _).2 rfl⟩,fun⟨y,q1,q2⟩=>⟨y,q1,(kq _ _).1 q2⟩⟩
  have hc:decide ((i:Int)<(l.length:Int))=true:=by simp;omega
  have ret: ∀e:Int,eH l i=some e->Al.R (Vn z zn l.length cp r.1 r.2).l ⟨.ret,[(2,iv i),(3,zv e)],[],2,z,zn⟩:=fun e h=>by
   have:r=((i:Int),e):=by rw[←h2,cZ hi h]
   rw[this];exact bh trivial
  refine t100 (rpr z zn i l.length cp (bk e (l.map bO.row).flatten) x (((l.take i).map bO.id).map .string) (au _ _ _ _ _ _ _ _ _) ⟨fun _=>?_,fun h=>by rw[hc] at h;cases h⟩)
  (repeat' first|(with_reducible first|exact rfl|assumption|apply And.intro|exact hk.no|exact hk.ex|exact iS _ hps rfl|exact bH (by omega))|exact(rfl:gP _ _=_)|intro hq)
  all_goals try (have hm:=hk.Fu (by with_reducible assumption);rw[hany] at hm)
  all_goals try (have hm:=hk.LU (by with_reducible assumption);rw[hany] at hm)
  all_goals clear hk hps hrow hany he ht hz hr
  all_goals first
   |(refine ret _ ?_;clear ret h2;simp only[eH,hx];(try simp only[fold] at*);simp_all;done)
   |(refine ret _ ?_;clear ret h2;simp only[eH,hx];(try simp only[fold] at*);simp_all;omega)
   |with_reducible assumption
   |rfl
   |skip
  have hb:eH l i=none:=by
   clear ret h2
   simp only[eH,hx]
   rw[if_neg (by simp_all),if_neg hm,if_neg (by(try simp only[fold] at*);simp_all;done)]
  refine⟨i+1,rfl,?_,rfl,rfl,rfl,⟨hi,by rw[←cI hi hb];exact h2⟩,by show l.length - (i+1)<l.length - i;omega⟩
  rw[fT]
  show _=[(1,bt (((l.take (i+1)).map bO.id).map .string))]
  rw[List.take_add_one,hx]
  simp
 ·have hc:decide ((i:Int)<(l.length:Int))=false:=by simp;omega
  refine t100 (rpr z zn i l.length cp ⟨[],0,0,0,true,true,0,true⟩ ⟨⟨#[]⟩,0,0,0,0,0⟩ (((l.take i).map bO.id).map .string) (au _ _ _ _ _ _ _ _ _) ⟨nC1 hc,fun _=>?_⟩)
  (repeat' first|(with_reducible first|exact rfl|assumption|apply And.intro))
  refine c8 (bh ?_)
  rw[dN (by omega)] at h2
  rw[←h2]
  exact⟨rfl,rfl⟩
theorem Sq(hz:aw z zn)(hg:fq prog z gP)(l:List bO)(cp:Nat)(ht:bP z 5 (l.map bO.row))(d w c:Int):
 A1 z zn 48 [.agg ⟨[tb 5 l.length cp,zv d,zv w,zv c]⟩] [] 0 0 (.tuple ⟨[zv (bE d w c l).1,zv (bE d w c l).2]⟩) []:=by
 refine dg hg (fn:=f48) (by kernel_rfl) (by kernel_rfl) hz ⟨by decide,by decide⟩ rfl (abh z zn l.length cp (bE d w c l).1 (bE d w c l).2 d w c _ ?_)
 cases hf:fN d w c with
 |false=>
  have hr:bE d w c l=(-1,2):=if_pos hf
  rw[hr]
  unfold fN at hf
  (repeat' first|(with_reducible first|exact rfl|assumption|apply And.intro|exact q1)|exact(rfl:gP _ _=_)|exact q1|intro hq)
  all_goals (exfalso;(try simp only[fold] at*);simp_all;done)
 |true=>
  by_cases h:16<l.length
  ·have hr:bE d w c l=(0,5):=by unfold bE;rw[if_neg (by simp[hf]),if_pos h]
   have hc:decide ((l.length:Int)>16)=true:=by simp;omega
   rw[hr]
   unfold fN at hf
   (repeat' first|(with_reducible first|exact rfl|assumption|apply And.intro|exact q1)|exact(rfl:gP _ _=_)|exact q1|intro hq)
   all_goals (exfalso;(try simp only[fold] at*);simp_all;done)
  ·have hr:bE d w c l=scan (eH l) l.length 0:=by unfold bE;rw[if_neg (by simp[hf]),if_neg h]
   have hc:decide ((l.length:Int)>16)=false:=by simp;omega
   have hL:=NA hz hg l cp ht (by omega) (bE d w c l) hr.symm
   unfold fN at hf
   (repeat' first|(with_reducible first|exact rfl|assumption|apply And.intro|exact q1)|exact(rfl:gP _ _=_)|exact hL|intro hq)
   all_goals first|(rw[hq.1,hq.2];exact q1)|(exfalso;(try simp only[fold] at*);simp_all;done)|trace_state
end
def iR(p:Option br)(x:br):Bool:=match p with|some p=>decide (p.stop=x.stop)|none=>false
def early(p:Option br)(x:br):Bool:=match p with|some p=>decide (x.arr<p.dep)|none=>false
def bz(p:Option br)(x:br)(s lo hi:Int):Int:=
 if x.stop<0\/s<=x.stop then 9 else if iR p x=true then 13 else if x.arr<lo\/x.dep<x.arr\/hi<x.dep\/early p x=true then 10 else 0
def prev(l:List br)(i:Nat):Option br:=if i=0 then none else l[i - 1]?
def gu(l:List br)(s lo hi:Int)(i:Nat):Option Int:=match l[i]? with
 |some x=>if bz (prev l i) x s lo hi=0 then none else some (bz (prev l i) x s lo hi)
 |none=>none
def bK(l:List br)(s lo hi:Int):Int × Int:=if l.length<2\/32<l.length then (0,5) else scan (gu l s lo hi) l.length 0
theorem Pf{i:Nat}(h0:0<i)(h:i<1000000000):Value.int .i64 (IntKind.i64.wrap ((i:Int) - 1))=Value.int .i64 ((i:Int) - 1):=by
 have:IntKind.i64.wrap ((i:Int) - 1)=(i:Int) - 1:=by
  simp only[IntKind.wrap,IntKind.signed,IntKind.bits]
  simp
  omega
 rw[this]
theorem lq(σ:bq)(k n c:Nat):aP (ay σ []) (tb k n c)=some (tb k n c):=by
 have:ay σ [] (256*k+510)=some (256*k+510):=by
  rw[jF (by unfold cO;omega)];rfl
 simp only[aP,this]
section
variable{z:T aa}{zn:Nat}
theorem Wf(hz:aw z zn)(hg:fq prog z gP)(k:Nat)(l:List br)(cp:Nat)(ht:bP z k (l.map br.row))(hl:l.length<100000)(s lo hi:Int)(i:Nat)(x:br)(hx:l[i]? =some x):
 A1 z zn 123 [tb k l.length cp,iv i,zv s,zv lo,zv hi] [] 0 0 (zv (bz (prev l i) x s lo hi)) []:=by
 have hil:i<l.length:=(List.getElem?_eq_some_iff.1 hx).1
 obtain⟨e,he⟩:=ht.az (i:=i) (by simpa using hil)
 have hlen:=aO (row:=br.row) (sz:=5) l fun _=>rfl
 have hrow:ai prog (bk e (l.map br.row).flatten) 70 (0+i*5)=some (.agg ⟨x.row⟩):=bG (r:=x.row) (sz:=5) underlying70 rfl rfl hlen (by rw[List.getElem?_map,hx];rfl)
 obtain⟨p,hp0,hp⟩: ∃p:br,(0<i->prev l i=some p)/\(0<i->l[i - 1]? =some p):=by
  by_cases h:0<i
  ·obtain⟨p,hp⟩:=dm (l:=l) (i:=i - 1) (by omega)
   exact⟨p,fun _=>by unfold prev;rw[if_neg (by omega),hp],fun _=>hp⟩
  ·exact⟨x,fun h'=>(h h').elim,fun h'=>(h h').elim⟩
 refine dg hg (fn:=f123) (by kernel_rfl) (by kernel_rfl) hz ⟨by decide,by decide⟩ rfl (abi z zn k i l.length cp s lo hi (bk e (l.map br.row).flatten) x p _ ?_)
 rcases Nat.eq_zero_or_pos i with h0|h0
 ·have hpr:prev l i=none:=if_pos h0
  have hc:decide ((i:Int)>0)=false:=by simp;omega
  (repeat' first|(with_reducible first|exact rfl|assumption|apply And.intro)|intro hq)
  all_goals first
   |(exfalso;simp_all;done)
   |omega
   |(rw[hc];done)
   |(have hv:bz (prev l i) x s lo hi=9:=by rw[hpr];simp only[bz,iR,early];simp_all;(try omega)
     rw[hv];exact q1)
   |(have hv:bz (prev l i) x s lo hi=13:=by rw[hpr];simp only[bz,iR,early];simp_all;(try omega)
     rw[hv];exact q1)
   |(have hv:bz (prev l i) x s lo hi=10:=by rw[hpr];simp only[bz,iR,early];simp_all;(try omega)
     rw[hv];exact q1)
   |(have hv:bz (prev l i) x s lo hi=0:=by rw[hpr];simp only[bz,iR,early];simp_all;(try omega)
     rw[hv];exact q1)
 ·have hpr:=hp0 h0
  have r0:ai prog (bk e (l.map br.row).flatten) 3 (0+(i - 1)*5+0)=some (zv p.stop):=aT (r:=p.row) (j:=0) underlying3 rfl hlen (by rw[List.getElem?_map,hp h0];rfl) rfl
  have r2:ai prog (bk e (l.map br.row).flatten) 3 (0+(i - 1)*5+2)=some (zv p.dep):=aT (r:=p.row) (j:=2) underlying3 rfl hlen (by rw[List.getElem?_map,hp h0];rfl) rfl
  have hc:decide ((i:Int)>0)=true:=by simp;omega
  (repeat' first|(with_reducible first|exact rfl|assumption|apply And.intro|exact(by omega:i - 1<l.length))|intro hq)
  all_goals first
   |(exfalso;simp_all;done)
   |exact Pf h0 (by omega)
   |omega
   |(rw[hc];done)
   |(have hv:bz (prev l i) x s lo hi=9:=by rw[hpr];simp only[bz,iR,early];simp_all;(try omega)
     rw[hv];exact q1)
   |(have hv:bz (prev l i) x s lo hi=13:=by rw[hpr];simp only[bz,iR,early];simp_all;(try omega)
     rw[hv];exact q1)
   |(have hv:bz (prev l i) x s lo hi=10:=by rw[hpr];simp only[bz,iR,early];simp_all;(try omega)
     rw[hv];exact q1)
   |(have hv:bz (prev l i) x s lo hi=0:=by rw[hpr];simp only[bz,iR,early];simp_all;(try omega)
     rw[hv];exact q1)
theorem rE{l:List br}{s lo hi:Int}{i:Nat}{x:br}(hx:l[i]? =some x){e:Int}(he:bz (prev l i) x s lo hi=e)(h0:e≠0):gu l s lo hi i=some e:=by
 simp only[gu,hx,he];rw[if_neg h0]
theorem rF{l:List br}{s lo hi:Int}{i:Nat}{x:br}(hx:l[i]? =some x)(he:bz (prev l i) x s lo hi=0):gu l s lo hi i=none:=by
 simp only[gu,hx,he];rfl
theorem NK(hz:aw z zn)(hg:fq prog z gP)(k:Nat)(l:List br)(cp:Nat)(ht:bP z k (l.map br.row))(hl:l.length<100000)(s lo hi:Int)(r:Int × Int)(hr:scan (gu l s lo hi) l.length 0=r):
 aj prog (ah (ag f79) 0) 0 36 (GB k l.length cp s lo hi 0) [] 0 z zn (Al.R (aaI z zn k l.length cp s lo hi r.1 r.2).l):=by
 refine ax hD hg (α:=Nat) 0 36 0 (fun i=>i<=l.length/\scan (gu l s lo hi) (l.length - i) i=r) (fun i=>GB k l.length cp s lo hi i) (fun _=>[]) (fun _=>z) (fun _=>zn) (fun i=>l.length - i) _ (fun i hI=>?_) 0 ⟨Nat.zero_le _,hr⟩
 obtain⟨h1,h2⟩:=hI
 by_cases hi':i<l.length
 ·obtain⟨x,hx⟩:=dm hi'
  have hone:=Wf hz hg k l cp ht hl s lo hi i x hx
  generalize he:bz (prev l i) x s lo hi=e at hone
  have hc:decide ((i:Int)<(l.length:Int))=true:=by simp;omega
  refine t100 (rck z zn k i l.length cp s lo hi e (au _ _ _ _ _ _ _ _ _) ⟨fun _=>?_,nC1 hc⟩)
  (repeat' first|(with_reducible first|exact rfl|assumption|apply And.intro|exact bH (by omega))|intro hq)
  ·have h0:e≠0:=by simpa using hq
   have:r=((i:Int),e):=by rw[←h2,cZ hi' (rE hx he h0)]
   rw[this];exact bh trivial
  ·have h0:e=0:=by simpa using hq
   exact⟨i+1,rfl,rfl,rfl,rfl,rfl,⟨hi',by rw[←cI hi' (rF hx (he.trans h0))];exact h2⟩,by show l.length - (i+1)<l.length - i;omega⟩
 ·have hc:decide ((i:Int)<(l.length:Int))=false:=by simp;omega
  refine t100 (rck z zn k i l.length cp s lo hi 0 (au _ _ _ _ _ _ _ _ _) ⟨nC1 hc,fun _=>?_⟩)
  (repeat' first|(with_reducible first|exact rfl|assumption|apply And.intro))
  refine c8 (bh ?_)
  rw[dN (by omega)] at h2
  rw[←h2]
  exact⟨rfl,rfl⟩
theorem OI(hz:aw z zn)(hg:fq prog z gP)(k:Nat)(l:List br)(cp:Nat)(ht:bP z k (l.map br.row))(s lo hi:Int):
 A1 z zn 79 [tb k l.length cp,zv s,zv lo,zv hi] [] 0 0 (.tuple ⟨[zv (bK l s lo hi).1,zv (bK l s lo hi).2]⟩) []:=by
 refine dg hg (fn:=f79) (by kernel_rfl) (by kernel_rfl) hz ⟨by decide,by decide⟩ rfl (fck z zn k l.length cp s lo hi (bK l s lo hi).1 (bK l s lo hi).2 _ ?_)
 by_cases h:l.length<2\/32<l.length
 ·have hr:bK l s lo hi=(0,5):=if_pos h
  rw[hr]
  (repeat' first|(with_reducible first|exact rfl|assumption|apply And.intro|exact q1)|exact q1|intro hq)
  all_goals first|(exfalso;simp_all;done)|(exfalso;simp_all;omega)
 ·have hr:bK l s lo hi=scan (gu l s lo hi) l.length 0:=if_neg h
  have hL:=NK hz hg k l cp ht (by omega) s lo hi (bK l s lo hi) hr.symm
  (repeat' first|(with_reducible first|exact rfl|assumption|apply And.intro|exact q1)|exact hL|intro hq)
  all_goals first
   |(exfalso;simp_all;done)
   |(exfalso;simp_all;omega)
   |(rw[hq.1,hq.2];exact q1)
theorem Nx(hz:aw z zn)(hg:fq prog z gP)(k:Nat)(l:List br)(cp:Nat)(ht:bP z k (l.map br.row))(hl:l.length<100000)(s lo hi:Int)(r:Int × Int)(hr:scan (gu l s lo hi) l.length 0=r):
 aj prog (ah (ag f120) 0) 0 83 (BE k l.length cp s lo hi 0) [] 0 z zn (Al.R (Rl z zn k l.length cp s lo hi r.2).l):=by
 refine ax hD hg (α:=Nat) 0 83 0 (fun i=>i<=l.length/\scan (gu l s lo hi) (l.length - i) i=r) (fun i=>BE k l.length cp s lo hi i) (fun _=>[]) (fun _=>z) (fun _=>zn) (fun i=>l.length - i) _ (fun i hI=>?_) 0 ⟨Nat.zero_le _,hr⟩
 obtain⟨h1,h2⟩:=hI
 by_cases hil:i<l.length
 ·obtain⟨e,he⟩:=ht.az (i:=i) (by simpa using hil)
  obtain⟨x,hx⟩:=dm hil
  have hlen:=aO (row:=br.row) (sz:=5) l fun _=>rfl
  have hrow:ai prog (bk e (l.map br.row).flatten) 70 (0+i*5)=some (.agg ⟨x.row⟩):=bG (r:=x.row) (sz:=5) underlying70 rfl rfl hlen (by rw[List.getElem?_map,hx];rfl)
  obtain⟨p,hp0,hp⟩: ∃p:br,(0<i->prev l i=some p)/\(0<i->l[i - 1]? =some p):=by
   by_cases h:0<i
   ·obtain⟨p,hp⟩:=dm (l:=l) (i:=i - 1) (by omega)
    exact⟨p,fun _=>by unfold prev;rw[if_neg (by omega),hp],fun _=>hp⟩
   ·exact⟨x,fun h'=>(h h').elim,fun h'=>(h h').elim⟩
  have hc':decide ((i:Int)<(l.length:Int))=true:=by simp;omega
  have ret: ∀e:Int,bz (prev l i) x s lo hi=e->e≠0->Al.R (Rl z zn k l.length cp s lo hi r.2).l ⟨.ret,[(8,zv e)],[],0,z,zn⟩:=fun e he h0=>by
   have:r=((i:Int),e):=by rw[←h2,cZ hil (rE hx he h0)]
   rw[this];exact bh trivial
  have kF:bz (prev l i) x s lo hi=0->au (fun i=>i<=l.length/\scan (gu l s lo hi) (l.length - i) i=r) (fun i=>BE k l.length cp s lo hi i) (fun _=>[]) 0 (fun _=>z) (fun _=>zn) (fun i=>l.length - i) (Al.R (Rl z zn k l.length cp s lo hi r.2).l) i .normal (BE k l.length cp s lo hi (i+1)) [] 0 z zn:=fun h0=>
   ⟨i+1,rfl,rfl,rfl,rfl,rfl,⟨hil,by rw[←cI hil (rF hx h0)];exact h2⟩,by show l.length - (i+1)<l.length - i;omega⟩
  refine t100 (rrc z zn k i l.length cp s lo hi (bk e (l.map br.row).flatten) x p (au _ _ _ _ _ _ _ _ _) ⟨fun _=>?_,fun h=>(by rw[hc'] at h;cases h)⟩)
  clear h2
  rcases Nat.eq_zero_or_pos i with h0|h0
  ·have hpr:prev l i=none:=if_pos h0
   have hc:decide ((i:Int)>0)=false:=by simp;omega
   (repeat' first|(with_reducible first|exact rfl|assumption|apply And.intro|exact bH (by omega))|intro hq)
   all_goals first
    |(exfalso;clear ret kF;simp_all;done)
    |omega
    |(rw[hc];done)
    |(have hv:bz (prev l i) x s lo hi=9:=by clear ret kF;rw[hpr];simp only[bz,iR,early];simp_all;(try omega)
      exact ret _ hv (by decide))
    |(have hv:bz (prev l i) x s lo hi=13:=by clear ret kF;rw[hpr];simp only[bz,iR,early];simp_all;(try omega)
      exact ret _ hv (by decide))
    |(have hv:bz (prev l i) x s lo hi=10:=by clear ret kF;rw[hpr];simp only[bz,iR,early];simp_all;(try omega)
      exact ret _ hv (by decide))
    |(have hv:bz (prev l i) x s lo hi=0:=by clear ret kF;rw[hpr];simp only[bz,iR,early];simp_all;(try omega)
      exact kF hv)
  ·have hpr:=hp0 h0
   have r0:ai prog (bk e (l.map br.row).flatten) 3 (0+(i - 1)*5+0)=some (zv p.stop):=aT (r:=p.row) (j:=0) underlying3 rfl hlen (by rw[List.getElem?_map,hp h0];rfl) rfl
   have r2:ai prog (bk e (l.map br.row).flatten) 3 (0+(i - 1)*5+2)=some (zv p.dep):=aT (r:=p.row) (j:=2) underlying3 rfl hlen (by rw[List.getElem?_map,hp h0];rfl) rfl
   have hc:decide ((i:Int)>0)=true:=by simp;omega
   (repeat' first|(with_reducible first|exact rfl|assumption|apply And.intro|exact(by omega:i - 1<l.length)|exact bH (by omega))|intro hq)
   all_goals first
    |(exfalso;clear ret kF;simp_all;done)
    |exact Pf h0 (by omega)
    |omega
    |(rw[hc];done)
    |(have hv:bz (prev l i) x s lo hi=9:=by clear ret kF;rw[hpr];simp only[bz,iR,early];simp_all;(try omega)
      exact ret _ hv (by decide))
    |(have hv:bz (prev l i) x s lo hi=13:=by clear ret kF;rw[hpr];simp only[bz,iR,early];simp_all;(try omega)
      exact ret _ hv (by decide))
    |(have hv:bz (prev l i) x s lo hi=10:=by clear ret kF;rw[hpr];simp only[bz,iR,early];simp_all;(try omega)
      exact ret _ hv (by decide))
    |(have hv:bz (prev l i) x s lo hi=0:=by clear ret kF;rw[hpr];simp only[bz,iR,early];simp_all;(try omega)
      exact kF hv)
 ·have hc:decide ((i:Int)<(l.length:Int))=false:=by simp;omega
  refine t100 (rrc z zn k i l.length cp s lo hi ⟨[],0,0,0,true,true,0,true⟩ ⟨0,0,0,true,true⟩ ⟨0,0,0,true,true⟩ (au _ _ _ _ _ _ _ _ _) ⟨nC1 hc,fun _=>?_⟩)
  (repeat' first|(with_reducible first|exact rfl|assumption|apply And.intro))
  refine c8 (bh ?_)
  rw[dN (by omega)] at h2
  rw[←h2]
theorem KK(hz:aw z zn)(hg:fq prog z gP)(k:Nat)(l:List br)(cp:Nat)(ht:bP z k (l.map br.row))(s lo hi:Int):
 A1 z zn 120 [tb k l.length cp,zv s,zv lo,zv hi] [] 0 0 (zv (bK l s lo hi).2) []:=by
 refine dg hg (fn:=f120) (by kernel_rfl) (by kernel_rfl) hz ⟨by decide,by decide⟩ rfl (frc z zn k l.length cp s lo hi (bK l s lo hi).2 _ ?_)
 by_cases h:l.length<2\/32<l.length
 ·have hr:bK l s lo hi=(0,5):=if_pos h
  rw[hr]
  (repeat' first|(with_reducible first|exact rfl|assumption|apply And.intro|exact q1)|exact q1|intro hq)
  all_goals first|(exfalso;simp_all;done)|(exfalso;simp_all;omega)
 ·have hr:bK l s lo hi=scan (gu l s lo hi) l.length 0:=if_neg h
  have hL:=Nx hz hg k l cp ht (by omega) s lo hi (bK l s lo hi) hr.symm
  (repeat' first|(with_reducible first|exact rfl|assumption|apply And.intro|exact q1)|exact hL|intro hq)
  all_goals first
   |(exfalso;simp_all;done)
   |(exfalso;simp_all;omega)
   |(rw[hq];exact q1)
end
theorem prun_bind{α β:Type}{P:Program}(f:α->Sem β): ∀s:Sem α,prun P (s>>=f)=(prun P s).bind fun a=>prun P (f a)
 | .pure a=>rfl
 | .program k=>prun_bind f (k P)
 | .mark m k=>prun_bind f k
 | .load _ _ _=>rfl
 | .store _ _ _ _=>rfl
 | .new _ _=>rfl
 | .shape _ _=>rfl
 | .freeze _ _ _=>rfl
 | .frozen _ _=>rfl
 | .getObj _ _=>rfl
 | .setObj _ _ _=>rfl
 | .choose _ _=>rfl
 | .sys _ _=>rfl
 | .halt _=>rfl
theorem prun_pure{α:Type}{P:Program}(a:α):prun P (pure a:Sem α)=some a:=rfl
theorem Bh{α:Type}{P:Program}(c:Prop)[Decidable c](s t:Sem α):prun P (if c then s else t)=if c then prun P s else prun P t:=by split<;>rfl
theorem kO{P:Program}(d:Nat)(t:TypeId)(xs ys:Array Value)(fs:Array Field)(ht:prun P (underlying t)=some (.struct fs))(hp:P.stoodInHeld t=false):
 prun P (Op.equalIn (d+1) t (.agg xs) (.agg ys))=prun P (Op.eqFields d xs ys fs.toList):=by
 have hprog:prun P (program:Sem Program)=some P:=rfl
 simp only[Op.equalIn,prun_bind,ht,Option.bind_some,hprog,hp,Bool.false_eq_true,if_false]
 rw[←Array.forIn_toList]
 generalize fs.toList=fs
 clear ht
 induction fs with
 |nil=>simp[Op.eqFields,prun_pure]
 |cons f fs ih=>
  simp only[List.forIn_cons,Op.eqFields,prun_bind,Bh]
  split
  ·cases prun P (part f.type xs f.offset) with
   |none=>rfl
   |some a=>
    simp only[Option.bind_some]
    cases prun P (part f.type ys f.offset) with
    |none=>rfl
    |some b=>
     simp only[Option.bind_some]
     cases prun P (Op.equalIn d f.type a b) with
     |none=>rfl
     |some r=>
      cases r
      ·simp only[Option.bind_some,Bool.not_false,if_true,prun_pure]
      ·simp only[Option.bind_some,Bool.not_true,Bool.false_eq_true,if_false,prun_pure]
       exact ih
  ·simp only[prun_pure,Option.bind_some]
   exact ih
theorem Bi{P:Program}{d:Nat}{xs ys:Array Value}{f:Field}{fs:List Field}{a b:Value}{r:Bool}(hn:f.name≠ "_")(ha:prun P (part f.type xs f.offset)=some a)(hb:prun P (part f.type ys f.offset)=some b)(hr:prun P (Op.equalIn d f.type a b)=some r):
 prun P (Op.eqFields d xs ys (f::fs))=if r=true then prun P (Op.eqFields d xs ys fs) else some false:=by
 simp only[Op.eqFields,if_pos hn,prun_bind,ha,hb,hr,Option.bind_some]
 cases r<;>rfl
def fx(f:Field):Bool × TypeId × Nat:=(decide (f.name≠ "_"),f.type,f.offset)
theorem VQ{f:Field}{t o:Nat}(h:fx f=(true,t,o)):f.name≠ "_" /\f.type=t/\f.offset=o:=by
 unfold fx at h
 simp only[Prod.mk.injEq,decide_eq_true_eq] at h
 exact h
theorem step_eq{P:Program}{d:Nat}{xs ys:Array Value}{f:Field}{fs:List Field}{t o:Nat}{a b:Value}{r:Bool}(hf:fx f=(true,t,o))(ha:prun P (part t xs o)=some a)(hb:prun P (part t ys o)=some b)(hr:prun P (Op.equalIn d t a b)=some r):
 prun P (Op.eqFields d xs ys (f::fs))=if r=true then prun P (Op.eqFields d xs ys fs) else some false:=by
 obtain⟨h1,h2,h3⟩:=VQ hf
 subst h2 h3
 exact Bi h1 ha hb hr
theorem Pr{α β:Type}{g:α->β}{l:List α}{a b c:β}(h:l.map g=[a,b,c]): ∃x y z,l=[x,y,z]/\g x=a/\g y=b/\g z=c:=by
 match l,h with
 |[x,y,z],h=>simp at h;exact⟨x,y,z,rfl,h.1,h.2.1,h.2.2⟩
theorem VF{α β:Type}{g:α->β}{l:List α}{a b c d:β}(h:l.map g=[a,b,c,d]): ∃x y z u,l=[x,y,z,u]/\g x=a/\g y=b/\g z=c/\g u=d:=by
 match l,h with
 |[x,y,z,u],h=>simp at h;exact⟨x,y,z,u,rfl,h.1,h.2.1,h.2.2.1,h.2.2.2⟩
theorem HW(a b:Int):prun prog (Op.equalIn 9999 3 (zv a) (zv b))=some (decide (a=b)):=by kernel_rfl
theorem eqS(a b:ByteArray):prun prog (Op.equalIn 9999 9 (.string a) (.string b))=some (a.data==b.data):=by kernel_rfl
theorem N9(a b:Bool):prun prog (Op.equalIn 9999 4 (.bool a) (.bool b))=some (a==b):=by kernel_rfl
theorem RK(a b:ByteArray)(x y u w:Int):prun prog (Op.equal 148 (.agg ⟨[.string a,zv x,zv y]⟩) (.agg ⟨[.string b,zv u,zv w]⟩))=some ((a.data==b.data) && (decide (x=u) && decide (y=w))):=by
 have hm:(prog.fieldsOf 148).toList.map fx=[(true,9,0),(true,3,1),(true,3,2)]:=by kernel_rfl
 obtain⟨f0,f1,f2,hl,h0,h1,h2⟩:=Pr hm
 have hs:prun prog (underlying 148)=some (.struct (prog.fieldsOf 148)):=by kernel_rfl
 show prun _ (Op.equalIn (9999+1) _ _ _)=_
 rw[kO _ _ _ _ _ hs (by kernel_rfl),hl,step_eq h0 (by kernel_rfl) (by kernel_rfl) (eqS a b),step_eq h1 (by kernel_rfl) (by kernel_rfl) (HW x u),step_eq h2 (by kernel_rfl) (by kernel_rfl) (HW y w)]
 cases (a.data==b.data)<;>cases decide (x=u)<;>cases decide (y=w)<;>rfl
theorem Kc(a b c x y z:Int)(d w:Bool):prun prog (Op.equal 125 (.agg ⟨[zv a,zv b,zv c, .bool d]⟩) (.agg ⟨[zv x,zv y,zv z, .bool w]⟩))=some (decide (a=x) && (decide (b=y) && (decide (c=z) && (d==w)))):=by
 have hm:(prog.fieldsOf 125).toList.map fx=[(true,3,0),(true,3,1),(true,3,2),(true,4,3)]:=by kernel_rfl
 obtain⟨f0,f1,f2,f3,hl,h0,h1,h2,h3⟩:=VF hm
 have hs:prun prog (underlying 125)=some (.struct (prog.fieldsOf 125)):=by kernel_rfl
 show prun _ (Op.equalIn (9999+1) _ _ _)=_
 rw[kO _ _ _ _ _ hs (by kernel_rfl),hl,step_eq h0 (by kernel_rfl) (by kernel_rfl) (HW a x),step_eq h1 (by kernel_rfl) (by kernel_rfl) (HW b y),step_eq h2 (by kernel_rfl) (by kernel_rfl) (HW c z),step_eq h3 (by kernel_rfl) (by kernel_rfl) (N9 d w)]
 cases decide (a=x)<;>cases decide (b=y)<;>cases decide (c=z)<;>cases (d==w)<;>rfl
theorem Ke(a b x y:Int)(d w:Bool):prun prog (Op.equal 236 (.agg ⟨[zv a,zv b, .bool d]⟩) (.agg ⟨[zv x,zv y, .bool w]⟩))=some (decide (a=x) && (decide (b=y) && (d==w))):=by
 have hm:(prog.fieldsOf 236).toList.map fx=[(true,3,0),(true,3,1),(true,4,2)]:=by kernel_rfl
 obtain⟨f0,f1,f3,hl,h0,h1,h3⟩:=Pr hm
 have hs:prun prog (underlying 236)=some (.struct (prog.fieldsOf 236)):=by kernel_rfl
 show prun _ (Op.equalIn (9999+1) _ _ _)=_
 rw[kO _ _ _ _ _ hs (by kernel_rfl),hl,step_eq h0 (by kernel_rfl) (by kernel_rfl) (HW a x),step_eq h1 (by kernel_rfl) (by kernel_rfl) (HW b y),step_eq h3 (by kernel_rfl) (by kernel_rfl) (N9 d w)]
 cases decide (a=x)<;>cases decide (b=y)<;>cases (d==w)<;>rfl
end Go.Proofs.Nw
namespace Go.Proofs.Nw
open Go Go.AV Tryz Go.jP
set_option maxRecDepth 100000
theorem Dk{P:Program}(d:Nat)(e sz:Nat)(xs ys:Array Value): ∀is:List Nat,
 prun P (Op.eqItems d e sz xs ys is)=match is with
  |[]=>some true
  |i::l=>(prun P (part e xs (i*sz))).bind fun a=>(prun P (part e ys (i*sz))).bind fun b=>(prun P (Op.equalIn d e a b)).bind fun r=>if r=true then prun P (Op.eqItems d e sz xs ys l) else some false
 |[]=>rfl
 |i::l=>by
  simp only[Op.eqItems,prun_bind]
  congr 1;funext a;congr 1;funext b;congr 1;funext r
  cases r<;>rfl
theorem Dl{P:Program}(d:Nat)(t:TypeId)(xs ys:Array Value)(n e sz:Nat)(ht:prun P (underlying t)=some (.array n e))(hs:prun P (sizeOf e)=some sz):
 prun P (Op.equalIn (d+1) t (.agg xs) (.agg ys))=prun P (Op.eqItems d e sz xs ys (List.range n)):=by
 simp only[Op.equalIn,prun_bind,ht,hs,Option.bind_some]
 simp only[Std.Legacy.Range.forIn_eq_forIn_range',Std.Legacy.Range.size,Nat.sub_zero,Nat.add_one_sub_one,Nat.div_one,List.range_eq_range']
 generalize List.range' 0 n 1=is
 induction is with
 |nil=>simp[Op.eqItems,prun_pure]
 |cons i is ih=>
  simp only[List.forIn_cons,Op.eqItems,prun_bind,Bh]
  cases prun P (part e xs (i*sz)) with
  |none=>rfl
  |some a=>
   simp only[Option.bind_some]
   cases prun P (part e ys (i*sz)) with
   |none=>rfl
   |some b=>
    simp only[Option.bind_some]
    cases prun P (Op.equalIn d e a b) with
    |none=>rfl
    |some r=>
     cases r
     ·simp only[Option.bind_some,Bool.not_false,if_true,prun_pure]
     ·simp only[Option.bind_some,Bool.not_true,Bool.false_eq_true,if_false,prun_pure]
      exact ih
theorem RN(a b c d x y u w:Int):prun prog (Op.equal 153 (.agg ⟨[zv a,zv b,zv c,zv d]⟩) (.agg ⟨[zv x,zv y,zv u,zv w]⟩))=some (decide (a=x) && (decide (b=y) && (decide (c=u) && decide (d=w)))):=by
 have ht:prun prog (underlying 153)=some (.array 4 3):=by kernel_rfl
 have hs:prun prog (sizeOf 3)=some 1:=by kernel_rfl
 have p0: ∀a b c d:Int,prun prog (part 3 ⟨[zv a,zv b,zv c,zv d]⟩ (0*1))=some (zv a):=fun a b c d=>by kernel_rfl
 have p1: ∀a b c d:Int,prun prog (part 3 ⟨[zv a,zv b,zv c,zv d]⟩ (1*1))=some (zv b):=fun a b c d=>by kernel_rfl
 have p2: ∀a b c d:Int,prun prog (part 3 ⟨[zv a,zv b,zv c,zv d]⟩ (2*1))=some (zv c):=fun a b c d=>by kernel_rfl
 have p3: ∀a b c d:Int,prun prog (part 3 ⟨[zv a,zv b,zv c,zv d]⟩ (3*1))=some (zv d):=fun a b c d=>by kernel_rfl
 show prun _ (Op.equalIn (9999+1) _ _ _)=_
 rw[Dl _ _ _ _ _ _ _ ht hs,show List.range 4=[0,1,2,3] from rfl]
 simp only[Dk,p0,p1,p2,p3,HW,Option.bind_some,decide_eq_true_eq]
 by_cases h1:a=x<;>by_cases h2:b=y<;>by_cases h3:c=u<;>by_cases h4:d=w<;>simp[h1,h2,h3,h4]
abbrev kR(x:aI):Value:= .agg ⟨[zv x.fz1,zv x.fc,zv x.aB,zv x.tc]⟩
def mY(x y:aI):Bool:=decide (y.fz1=x.fz1) && (decide (y.fc=x.fc) && (decide (y.aB=x.aB) && decide (y.tc=x.tc)))
theorem VG(x:aI)(l:List aI):mh 153 (kR x) (l.map kR):=⟨fun k' hk'=>by
 obtain⟨y,_,rfl⟩:=List.mem_map.1 hk'
 refine⟨rfl,_,RN _ _ _ _ _ _ _ _,?_⟩
 simp only[Bool.and_eq_true,decide_eq_true_eq,kR,Value.agg.injEq,Array.mk.injEq,List.cons.injEq,Value.int.injEq,true_and,and_true]⟩
theorem Jf(x:aI)(l:List aI):kR x∈l.map kR↔l.any (mY x)=true:=by
 rw[List.mem_map,List.any_eq_true]
 simp only[mY,Bool.and_eq_true,decide_eq_true_eq,kR,Value.agg.injEq,Array.mk.injEq,List.cons.injEq,Value.int.injEq,true_and,and_true]
theorem IX(l:List aI): ∀k,k∈l.map kR->aC k=true:=fun k hk=>by
 obtain⟨t,_,rfl⟩:=List.mem_map.1 hk
 rfl
theorem Ry(a:Int)(l:List Int):mh 3 (zv a) (l.map fun x=>zv x):=⟨fun k' hk'=>by
 obtain⟨y,_,rfl⟩:=List.mem_map.1 hk'
 exact⟨rfl,_,Kg _ _,by simp⟩⟩
theorem Fh(a:Int)(l:List Int):zv a∈(l.map fun x=>zv x)↔a∈l:=by
 rw[List.mem_map]
 constructor
 ·rintro⟨y,h1,h2⟩;injection h2 with _ h2;rw[←h2];exact h1
 ·intro h;exact⟨a,h,rfl⟩
theorem Gl(l:List Int): ∀k,k∈(l.map fun x=>zv x)->aC k=true:=fun k hk=>by
 obtain⟨t,_,rfl⟩:=List.mem_map.1 hk
 rfl
theorem Cj: ∀(l m:List (Int × Int)) (i:Nat),ju i (l++m)=ju i l++ju (i+l.length) m
 |[],m,i=>rfl
 |(a,b)::l,m,i=>by
  simp only[List.cons_append,ju,Cj l m (i+1),List.length_cons]
  rw[show i+1+l.length=i+(l.length+1) by omega]
theorem xR(l:List (Int × Int))(a b:Int):aa.map (ju 0 l++[{key:=zv a,val:=zv b,born:=l.length}]) (l.length+1)=vM (l++[(a,b)]):=by
 unfold vM
 rw[Cj,List.length_append]
 simp[ju]
theorem wg(σ:Nat->Option Nat): ∀(l:List (Int × Int)) (i:Nat),g9 σ (ju i l)=some (ju i l)
 |[],_=>rfl
 |(a,b)::l,i=>by simp only[ju,g9,aP,wg σ l (i+1)]
theorem By(σ:Nat->Option Nat)(l:List (Int × Int)):aD σ (vM l)=some (vM l):=by simp only[aD,wg]
def o7:List (Int × Int)->Int->Option Int
 |[],_=>none
 |(a,b)::l,x=>if x=a then some b else o7 l x
theorem Pt: ∀(l:List (Int × Int)) (i j:Nat) (a:Int),∃r:Option (Nat × Int),aE prog 3 (zv a) (ju j l) i=some (r.map fun p=>(p.1,zv p.2))/\r.map (·.2)=o7 l a
 |[],i,j,a=>⟨none,rfl,rfl⟩
 |(x,b)::l,i,j,a=>by
  simp only[ju,aE,Kg,o7]
  by_cases h:a=x
  ·simp only[h,decide_true,if_pos]
   exact⟨some (i,b),rfl,rfl⟩
  ·simp only[h,decide_false,if_neg,if_false]
   exact Pt l (i+1) (j+1) a
theorem GO(l:List (Int × Int))(F T:Int)(h:o7 l F=none):o7 (l++[(F,T)])=ins (o7 l) F T:=by
 funext x
 induction l with
 |nil=>rfl
 |cons p l ih=>
  obtain⟨a,b⟩:=p
  simp only[o7] at h
  split at h
  ·cases h
  ·rename_i hne
   simp only[List.cons_append,o7,ih h,ins]
   by_cases hx:x=a
   ·subst hx;simp[Ne.symm hne]
   ·simp[hx]
theorem aat(l:List (Int × Int)):wS (ju 0 l) (o7 l):=⟨fun a=>Pt l 0 0 a,fun σ c=>by simp only[aD,wg]⟩
end Go.Proofs.Nw
namespace Go.Proofs.Nw
open Go Go.AV Tryz
set_option maxRecDepth 1000000
noncomputable section
abbrev Ua(y:jN):List Value:=[ZV y.xa,ZV y.day,ZV y.inst,Value.string y.id,ZV y.jv,Value.bool y.sf,Value.bool y.cancelled,Value.slice y.ca y.cn y.cc]
abbrev YE8(kb:aV)(k:Nat)(y:jN):Prop:=ai prog kb 66 (0+k*8)=some (AG (Ua y))
abbrev O1(N:aq):List Value:=[YU N,YV N,SL 766 N.nu N.uc,YX N,YY N,YZ N,ZV N.d,ZV N.w,ZV N.c]
abbrev uE(N:aq):aa:=BQ (O1 N) 9 1 31
abbrev T4(i k:Nat):List (Nat × Value):=[eM i,sQ,(5,Yp),(7,IV (k+1))]
abbrev T3(N:aq)(x:jN):List (Nat × aa):=[(0,uE N),(1,BQ (Ua x) 8 1 66)]
theorem rrk(z:T aa)(zn i k:Nat)(N:aq)(kb:aV)(x y:jN)(Q:QL)(hyp:Br (decide ((↑k:Int)<(↑i:Int))) (cG k/\k<N.nu/\C1/\C0 z kb/\YE8 kb k y/\Br (y.id.toList==x.id.toList) (Br (y.day==x.day) (Br (y.inst==x.inst) (E6 79 z zn (Rs (I 6)/\Q af.ret [(4,I 6)] [] 2 z zn)) (ZV (IntKind.i64.wrap ((↑k:Int)+1))=IV (k+1)/\E6 79 z zn (R4 (IV i) Y3 Yp (IV (k+1)) (K2 oe (uE N) (BQ (Ua x) 8 1 66) (Q aN (T4 i k) (T3 N x) 2 z zn))))) (ZV (IntKind.i64.wrap ((↑k:Int)+1))=IV (k+1)/\E6 79 z zn (R4 (IV i) Y3 Yp (IV (k+1)) (K2 oe (uE N) (BQ (Ua x) 8 1 66) (Q aN (T4 i k) (T3 N x) 2 z zn))))) (ZV (IntKind.i64.wrap ((↑k:Int)+1))=IV (k+1)/\E6 79 z zn (R4 (IV i) Y3 Yp (IV (k+1)) (K2 oe (uE N) (BQ (Ua x) 8 1 66) (Q aN (T4 i k) (T3 N x) 2 z zn))))) (E6 79 z zn (Q YO [] [] 2 z zn))):RdT prog gP z (ah (ag f73) 0) 79 (BD i k) z [(0,N.iw),(1,qv x)] 2 zn 2 Q:=K1t hyp ((tA 2 (tO (bS k) (tO (An.ld 1 kb (AG y.row)) (tA 3 ((tA 7 ((tA 8 ((tA 2 (tE [] [] [(4,I 6)] [] 2 z zn)).fork (tA 2 (tO (dI k) (tE dv [] (T4 i k) (T3 N x) 2 z zn))))).fork (tA 8 (tO (dI k) (tE dv [] (T4 i k) (T3 N x) 2 z zn))))).fork (tA 13 (tO (dI k) (tE dv [] (T4 i k) (T3 N x) 2 z zn)))))))).fork (T9 z zn))
abbrev YFD(x:jN):Value:=Value.bool (decide (0<=x.day) && decide (x.day<=36524))
abbrev P7(x:jN)(N:aq):List Value:=[Value.slice x.ca x.cn x.cc,IV N.ns,YM,I 3155932800]
theorem aa8(z:T aa)(zn i:Nat)(N:aq)(kb:aV)(x:jN)(e:Int)(b:Bool)(Q:QF)(hyp:cG i/\i<N.nu/\C1/\C0 z kb/\YE8 kb i x/\Rf z/\gP 118 [Value.string x.id]=some (Value.bool (bW x.id))/\Br (!bW x.id) (E6 79 z zn (Rs (I 12)/\Q (I 12) [] 0 z zn)) (Br (decide (x.xa< -1)) (E6 79 z zn (Rs cM/\Q cM [] 0 z zn)) (Br (decide (x.inst<0)) (E6 79 z zn (Rs cM/\Q cM [] 0 z zn)) (Rf z/\gP 119 [ZV x.day,YM,I 36524]=some (YFD x)/\Br (!(decide (0<=x.day) && decide (x.day<=36524))) (E6 79 z zn (Rs (I 11)/\Q (I 11) [] 0 z zn)) (Br (decide (x.jv<0)) (E6 79 z zn (Hv/\Q gU [] 0 z zn)) (Br (decide (x.jv>=(↑N.nr:Int))) (E6 79 z zn (Hv/\Q gU [] 0 z zn)) (aF prog z zn 120 (P7 x N) [] 0 0 Yc (rV e) Ye/\aS Yf (P7 x N)=some (P7 x N)/\ ∀(x_1:Unit),True->xw e/\Br (e !=0) (E6 79 z zn (xw e/\Q (ZV e) [] 0 z zn)) (rU/\aj prog (ah (ag f73) 0) 2 79 (BD i 0) [(0,N.iw),(1,qv x)] 2 z zn (alt (b=true) (aA.mk af.ret [(4,I 6)] [] 2 z zn) (alt (b=false) (aA.mk YO [] [] 2 z zn) Al.nil)).R/\E6 79 z zn (R4 (IV i) Y3 Yp YM (K2 oe (uE N) (BQ (Ua x) 8 1 66) ((∀(x:Unit),b=true->E6 79 z zn (Rs (I 6)/\Q (I 6) [] 0 z zn))/\ ∀(x:Unit),b=false->E6 79 z zn (w5/\Q YM [] 0 z zn)))))))))))):FnT prog gP z f73 [AG N.nZ,iv i] z [] 0 zn Q:=K1t hyp (tA 1 (tO (bS i) (tO (An.ld 1 kb (AG x.row)) (tA 2 (tO (An.cl (Value.bool (bW x.id))) ((tR [] [] (I 12) [] 0 z zn).fork (tA 1 ((tA 5 (tR [] [] cM [] 0 z zn)).fork (tA 4 ((tA 2 (tR [] [] cM [] 0 z zn)).fork (tA 3 (tO (An.cl (YFD x)) ((tR [] [] (I 11) [] 0 z zn).fork (tA 1 ((tA 8 (LB z zn)).fork (tA 8 ((tA 2 (LB z zn)).fork (tA 4 (Tr.cm (Cm.mk (P7 x N) [] 0 0 [] [] 2) Unit Yc (rV e) Ye (F4 e) Ye (Yl z) (Ym zn) fun(x_1:Unit)=>(tA 1 (tR [] [] (ZV e) [] 0 z zn)).fork (tA 1 (Tr.lp 2 79 dv [] (BD i 0) [(0,N.iw),(1,qv x)] 2 z zn (Al.cons Unit (YR b) (fun(x:Unit)=>aA.mk af.ret [(4,I 6)] [] 2 z zn) (fun(x:Unit)=>tR [] [] (I 6) [] 0 z zn) (Al.cons Unit (YS b) (WZ z zn) (fun(x:Unit)=>Ij z zn) Al.nil)))))))))))))))))))))))
end
noncomputable section
theorem abm(z:T aa)(zn:Nat)(s lo hi:Int)(Q:QF)(hyp:E6 36 z zn (Mc/\Q CZ [] 0 z zn)):FnT prog gP z f79 [an,zv s,zv lo,zv hi] z [] 0 zn Q:=K1t hyp (tA 6 (tR [] [] CZ [] 0 z zn))
theorem abe(z:T aa)(zn:Nat)(s lo hi:Int)(Q:QF)(hyp:E6 83 z zn (Rs (I 5)/\Q (I 5) [] 0 z zn)):FnT prog gP z f120 [an,zv s,zv lo,zv hi] z [] 0 zn Q:=K1t hyp (tA 6 (tR [] [] (I 5) [] 0 z zn))
theorem abn(z:T aa)(zn b o sp:Nat)(s lo hi:Int)(Q:QF)(hyp:E6 36 z zn (Mc/\Q CZ [] 0 z zn)):FnT prog gP z f79 [Value.slice (some (Addr.mk b o (some sp))) 0 0,zv s,zv lo,zv hi] z [] 0 zn Q:=K1t hyp (tA 6 (tR [] [] CZ [] 0 z zn))
theorem abf(z:T aa)(zn b o sp:Nat)(s lo hi:Int)(Q:QF)(hyp:E6 83 z zn (Rs (I 5)/\Q (I 5) [] 0 z zn)):FnT prog gP z f120 [Value.slice (some (Addr.mk b o (some sp))) 0 0,zv s,zv lo,zv hi] z [] 0 zn Q:=K1t hyp (tA 6 (tR [] [] (I 5) [] 0 z zn))
abbrev YFF(i:Nat):Prop:=gP 45 [cM,IV i,cM]=some (AG [cM,IV i,cM])
abbrev YFG(i:Nat):Prop:=gP 45 [cM,IV i,I 11]=some (AG [cM,IV i,I 11])
abbrev YFH(i:Nat):Prop:=gP 45 [cM,IV i,gU]=some (AG [cM,IV i,gU])
abbrev P6(x:jN):Value:=AG [Value.string x.id,ZV x.day,ZV x.inst]
noncomputable abbrev YFJ(i:Nat)(z:T aa)(zn:Nat):Tr:=tO (An.cl (AG [cM,IV i,cM])) (tA 1 (tE Y0 [] Yu [(1,BQ [cM,IV i,cM] 3 1 103)] 3 z zn))
noncomputable abbrev YFK(i:Nat)(z:T aa)(zn:Nat):Tr:=tO (An.cl (AG [cM,IV i,I 11])) (tA 1 (tE Y0 [] Yu [(1,BQ [cM,IV i,I 11] 3 1 103)] 3 z zn))
noncomputable abbrev YFL(i:Nat)(z:T aa)(zn:Nat):Tr:=tO (An.cl (AG [cM,IV i,gU])) (tA 1 (tE Y0 [] Yu [(1,BQ [cM,IV i,gU] 3 1 103)] 3 z zn))
theorem ru(z:T aa)(zn i:Nat)(N:aq)(kb:aV)(x:jN)(ks:List Value)(c1 c2:Int)(Q:QL)(hyp:Br (decide ((↑i:Int)<(↑N.nu:Int))) (cG i/\i<N.nu/\C1/\C0 z kb/\YE8 kb i x/\Rf z/\gP 77 [Value.string x.id]=some (Value.bool (bW x.id))/\Br (!bW x.id) (Rf z/\gP 45 [cM,IV i,I 12]=some (AG [cM,IV i,I 12])/\E6 96 z zn (Yq/\Rs (BQ [cM,IV i,I 12] 3 1 103)/\Q af.ret Yu [(1,BQ [cM,IV i,I 12] 3 1 103)] 3 z zn)) (Br (decide (x.xa< -1)) (Rf z/\YFF i/\E6 96 z zn (Yq/\Rs (BQ [cM,IV i,cM] 3 1 103)/\Q af.ret Yu [(1,BQ [cM,IV i,cM] 3 1 103)] 3 z zn)) (Br (decide (x.inst<0)) (Rf z/\YFF i/\E6 96 z zn (Yq/\Rs (BQ [cM,IV i,cM] 3 1 103)/\Q af.ret Yu [(1,BQ [cM,IV i,cM] 3 1 103)] 3 z zn)) (Br (decide (x.day<0)) (Rf z/\YFG i/\E6 96 z zn (Yq/\Rs (BQ [cM,IV i,I 11] 3 1 103)/\Q af.ret Yu [(1,BQ [cM,IV i,I 11] 3 1 103)] 3 z zn)) (Br (decide (x.day>36524)) (Rf z/\YFG i/\E6 96 z zn (Yq/\Rs (BQ [cM,IV i,I 11] 3 1 103)/\Q af.ret Yu [(1,BQ [cM,IV i,I 11] 3 1 103)] 3 z zn)) (Br (decide (x.jv<0)) (Rf z/\YFH i/\E6 96 z zn (Yq/\Rs (BQ [cM,IV i,gU] 3 1 103)/\Q af.ret Yu [(1,BQ [cM,IV i,gU] 3 1 103)] 3 z zn)) (Br (decide (x.jv>=(↑N.nr:Int))) (Rf z/\YFH i/\E6 96 z zn (Yq/\Rs (BQ [cM,IV i,gU] 3 1 103)/\Q af.ret Yu [(1,BQ [cM,IV i,gU] 3 1 103)] 3 z zn)) (aF prog z zn 79 (P7 x N) [] 0 0 Yc (C3 c1 c2) Ye/\aS Yf (P7 x N)=some (P7 x N)/\ ∀(x_1:Unit),True->CL c1 c2/\Br (c2 !=0) (Rf z/\gP 45 [cM,IV i,ZV c2]=some (AG [cM,IV i,ZV c2])/\E6 96 z zn (Yq/\Rs (BQ [cM,IV i,ZV c2] 3 1 103)/\Q af.ret Yu [(1,BQ [cM,IV i,ZV c2] 3 1 103)] 3 z zn)) (aE prog 148 (P6 x) (eF ks) 0≠none/\(∀(p:Nat × Value),aE prog 148 (P6 x) (eF ks) 0=YH p->Exists (Ig p))/\(∀(i_1:Nat),aE prog 148 (P6 x) (eF ks) 0=Ie i_1->Rf z/\gP 45 [cM,IV i,I 6]=some (AG [cM,IV i,I 6])/\E6 96 z zn (Yq/\Rs (BQ [cM,IV i,I 6] 3 1 103)/\Q af.ret Yu [(1,BQ [cM,IV i,I 6] 3 1 103)] 3 z zn))/\(aE prog 148 (P6 x) (eF ks) 0=YL->aE prog 148 (P6 x) (eF ks) 0=YL/\ZV (IntKind.i64.wrap ((↑i:Int)+1))=IV (i+1)/\E6 96 z zn (R6 Y3 Yp Y4 (SL 766 N.nu N.uc) (IV N.nu) (IV (i+1)) (KO Y8 (uE N)/\Ys/\KO Y8 (aa.map (eF ks++[MapEntry.mk (P6 x) T1 ks.length]) (ks.length+1))/\Q aN [qe,Yt,(3,Y4),(16,SL 766 N.nu N.uc),(17,IV N.nu),(18,IV (i+1))] [(0,uE N),Yv,(2,aa.map (eF ks++[MapEntry.mk (P6 x) T1 ks.length]) (ks.length+1))] 3 z zn)))))))))))) (E6 96 z zn (Yq/\Ys/\Q YO Yu [Yv] 3 z zn))):RdT prog gP z Yw 96 (Tj N.nu N.uc i) z [(0,N.iw),Yx,(2,bt ks)] 3 zn 3 Q:=K1t hyp ((tA 1 (tO (bS i) (tO (An.ld 1 kb (AG x.row)) (tA 2 (tO (An.cl (Value.bool (bW x.id))) ((tO (An.cl (AG [cM,IV i,I 12])) (tA 1 (tE Y0 [] Yu [(1,BQ [cM,IV i,I 12] 3 1 103)] 3 z zn))).fork (tA 1 ((tA 5 (YFJ i z zn)).fork (tA 4 ((tA 2 (YFJ i z zn)).fork (tA 3 ((tA 5 (YFK i z zn)).fork (tA 4 ((tA 2 (YFK i z zn)).fork (tA 3 ((tA 8 (YFL i z zn)).fork (tA 8 ((tA 2 (YFL i z zn)).fork (tA 4 (Tr.cm (Cm.mk (P7 x N) [] 0 0 [] [] 4) Unit Yc (C3 c1 c2) Ye (Qj c1 c2) Ye (Yl z) (Ym zn) fun(x_1:Unit)=>(tA 1 (tO
 (An.cl (AG [cM,IV i,ZV c2])) (tA 1 (tE Y0 [] Yu [(1,BQ [cM,IV i,ZV c2] 3 1 103)] 3 z zn)))).fork (tA 6 (Tr.find Nat (fun(x:Nat)=>(x,T1)) (fun(i_1:Nat)=>tA 1 (tO (An.cl (AG [cM,IV i,I 6])) (tA 1 (tE Y0 [] Yu [(1,BQ [cM,IV i,I 6] 3 1 103)] 3 z zn)))) (tA 2 (tO CJ (tO (dI i) (tE Y7 [] [qe,Yt,(3,Y4),(16,SL 766 N.nu N.uc),(17,IV N.nu),(18,IV (i+1))] [(0,uE N),Yv,(2,aa.map (eF ks++[MapEntry.mk (P6 x) T1 ks.length]) (ks.length+1))] 3 z zn)))))))))))))))))))))))))).fork (tA 1 (tE Y0 [] Yu [Yv] 3 z zn)))
abbrev WY:Value:=AG [cM,YM,I 5]
theorem fu(z:T aa)(zn:Nat)(N:aq)(r1 r2 r3:Int)(Q:QF)(hyp:Br (decide ((↑N.nu:Int)>1024)) (Rf z/\gP 45 [cM,YM,I 5]=some WY/\E6 96 z zn (Rs WY/\Q WY [] 0 z zn)) (Y1/\aj prog Yw 3 96 (Tj N.nu N.uc 0) [(0,N.iw),Yx,(2,bt [])] 3 z zn (alt True (aA.mk af.ret Y2 [(1,du r1 r2 r3)] 3 z zn) (alt (r1=0/\r2=0/\r3=0) (aA.mk YO Y2 [Yx] 3 z zn) Al.nil)).R/\E6 96 z zn (R6 Y3 Yp Y4 (SL 766 N.nu N.uc) (IV N.nu) YM (KO Y8 (uE N)/\Ys/\tG/\(∀(x:Unit),True->E6 96 z zn (Rs (wP r1 r2 r3)/\Q (wP r1 r2 r3) [] 0 z zn))/\ ∀(x:Unit),r1=0/\r2=0/\r3=0->E6 96 z zn (Rs yV/\Q yV [] 0 z zn))))):FnT prog gP z f46 [AG N.nZ] z [] 0 zn Q:=K1t hyp (tA 1 ((tA 1 (tO (An.cl WY) (tA 1 (tR [] [] WY [] 0 z zn)))).fork (tA 2 (Tr.lp 3 96 Y7 [] (Tj N.nu N.uc 0) [(0,N.iw),Yx,(2,bt [])] 3 z zn (Al.cons Unit Yc (fun(x:Unit)=>aA.mk af.ret Y2 [(1,du r1 r2 r3)] 3 z zn) (fun(x:Unit)=>tR [] [] (wP r1 r2 r3) [] 0 z zn) (Al.cons Unit (fun(x:Unit)=>r1=0/\r2=0/\r3=0) (fun(x:Unit)=>aA.mk YO Y2 [Yx] 3 z zn) (ZP z zn) Al.nil))))))
end
end Go.Proofs.Nw
namespace Go.Proofs.Nw
open Go Go.AV Tryz
set_option maxHeartbeats 4000000
set_option maxRecDepth 100000
def nk(k:Nat)(a:Option Addr)(n c len:Nat):Prop:=(a=none/\n=0/\c=0/\len=0)\/(a=some ⟨256*k+510,0,none⟩/\n=len)
def Uv(k:Nat)(a:Option Addr)(n c len:Nat):Prop:=nk k a n c len\/((∃b o s,a=some ⟨b,o,some s⟩)/\n=0/\c=0/\len=0)
structure RunT where
 v:jN
 calls:List br
def sameKey(y x:RunT):Bool:=(y.v.id.data==x.v.id.data) && (decide (y.v.day=x.v.day) && decide (y.v.inst=x.v.inst))
def De(ns:Nat)(x:RunT):Int:=(bK x.calls ns 0 3155932800).2
def dH(ns nr:Nat)(l:List RunT)(i:Nat):Option Int:=match l[i]? with
 |some x=>if bW x.v.id=false then some 12 else if x.v.xa< -1\/x.v.inst<0 then some 2 else if x.v.day<0\/36524<x.v.day then some 11
  else if x.v.jv<0\/(nr:Int)<=x.v.jv then some 9 else if De ns x≠0 then some (De ns x) else if (l.take i).any (fun y=>sameKey y x)=true then some 6 else none
 |none=>none
structure rN(z:T aa)(l:List RunT):Prop where
 HM:bP z 1 (l.map fun r=>r.v.row)
 sl: ∀(j:Nat)(r:RunT),l[j]? =some r->Uv (6+j) r.v.ca r.v.cn r.v.cc r.calls.length
 calls: ∀(j:Nat)(r:RunT),l[j]? =some r->bP z (6+j) (r.calls.map br.row)
section
variable{z:T aa}{zn:Nat}
theorem KY(hz:aw z zn)(hg:fq prog z gP)(k:Nat)(l:List br){a:Option Addr}{n c:Nat}(hs:Uv k a n c l.length)(ht:bP z k (l.map br.row))(s lo hi:Int):
 A1 z zn 79 [.slice a n c,zv s,zv lo,zv hi] [] 0 0 (.tuple ⟨[zv (bK l s lo hi).1,zv (bK l s lo hi).2]⟩) []:=by
 rcases hs with (⟨rfl,rfl,rfl,h⟩|⟨rfl,rfl⟩)|⟨⟨b,o,sp,rfl⟩,rfl,rfl,h⟩
 rotate_left 2
 ·have hr:bK l s lo hi=(0,5):=if_pos (by omega)
  rw[hr]
  refine dg hg (fn:=f79) (by kernel_rfl) (by kernel_rfl) hz ⟨by decide,by decide⟩ rfl (abn z zn b o sp s lo hi _ ?_)
  (repeat' first|(with_reducible first|exact rfl|assumption|apply And.intro)|exact q1)
 ·have hr:bK l s lo hi=(0,5):=if_pos (by omega)
  rw[hr]
  refine dg hg (fn:=f79) (by kernel_rfl) (by kernel_rfl) hz ⟨by decide,by decide⟩ rfl (abm z zn s lo hi _ ?_)
  (repeat' first|(with_reducible first|exact rfl|assumption|apply And.intro)|exact q1)
 ·exact OI hz hg k l c ht s lo hi
theorem Hd(hz:aw z zn)(hg:fq prog z gP)(k:Nat)(l:List br){a:Option Addr}{n c:Nat}(hs:Uv k a n c l.length)(ht:bP z k (l.map br.row))(s lo hi:Int):
 A1 z zn 120 [.slice a n c,zv s,zv lo,zv hi] [] 0 0 (zv (bK l s lo hi).2) []:=by
 rcases hs with (⟨rfl,rfl,rfl,h⟩|⟨rfl,rfl⟩)|⟨⟨b,o,sp,rfl⟩,rfl,rfl,h⟩
 rotate_left 2
 ·have hr:bK l s lo hi=(0,5):=if_pos (by omega)
  rw[hr]
  refine dg hg (fn:=f120) (by kernel_rfl) (by kernel_rfl) hz ⟨by decide,by decide⟩ rfl (abf z zn b o sp s lo hi _ ?_)
  (repeat' first|(with_reducible first|exact rfl|assumption|apply And.intro)|exact q1)
 ·have hr:bK l s lo hi=(0,5):=if_pos (by omega)
  rw[hr]
  refine dg hg (fn:=f120) (by kernel_rfl) (by kernel_rfl) hz ⟨by decide,by decide⟩ rfl (abe z zn s lo hi _ ?_)
  (repeat' first|(with_reducible first|exact rfl|assumption|apply And.intro)|exact q1)
 ·exact KK hz hg k l c ht s lo hi
theorem nk.nm{k:Nat}{a:Option Addr}{n c len:Nat}(h:nk k a n c len)(σ:bq):aP (ay σ []) (.slice a n c)=some (.slice a n c):=by
 rcases h with ⟨rfl,rfl,rfl,_⟩|⟨rfl,_⟩
 ·rfl
 ·exact lq σ k n c
theorem Uv.nm{k:Nat}{a:Option Addr}{n c len:Nat}(h:Uv k a n c len)(σ:bq):aP (ay σ []) (.slice a n c)=some (.slice a n c):=by
 rcases h with h|⟨⟨b,o,s,rfl⟩,rfl,rfl,_⟩
 ·exact h.nm σ
 ·rfl
theorem bM{σ:Nat->Option Nat}{v:Value}{l:List Value}(h:aP σ v=some v)(k:aS σ l=some l):aS σ (v::l)=some (v::l):=by simp only[aS,h,k]
theorem Rx(x:RunT)(l:List RunT):mh 148 x.v.key (l.map fun y=>y.v.key):=⟨fun k' hk'=>by
 obtain⟨y,_,rfl⟩:=List.mem_map.1 hk'
 refine⟨rfl,_,RK _ _ _ _ _ _,?_⟩
 simp only[Bool.and_eq_true,decide_eq_true_eq,kq]
 constructor
 ·rintro⟨h1,h2,h3⟩
  show Value.agg _=Value.agg _
  rw[h1,h2,h3]
 ·intro h
  have h:jN.key x.v=jN.key y.v:=h
  simp only[jN.key,Value.agg.injEq,Array.mk.injEq,List.cons.injEq,Value.string.injEq,Value.int.injEq,true_and,and_true] at h
  exact h⟩
theorem mem_keys(x:RunT)(l:List RunT):x.v.key∈(l.map fun y=>y.v.key)↔l.any (fun y=>sameKey y x)=true:=by
 rw[List.mem_map,List.any_eq_true]
 constructor
 ·rintro⟨y,h1,h2⟩
  refine⟨y,h1,?_⟩
  have h:jN.key y.v=jN.key x.v:=h2
  simp only[jN.key,Value.agg.injEq,Array.mk.injEq,List.cons.injEq,Value.string.injEq,Value.int.injEq,true_and,and_true] at h
  simp only[sameKey,Bool.and_eq_true,decide_eq_true_eq,kq]
  exact h
 ·rintro⟨y,h1,h2⟩
  refine⟨y,h1,?_⟩
  simp only[sameKey,Bool.and_eq_true,decide_eq_true_eq,kq] at h2
  show Value.agg _=Value.agg _
  rw[h2.1,h2.2.1,h2.2.2]
theorem Dm(l:List RunT): ∀k,k∈(l.map fun y=>y.v.key)->aC k=true:=fun k hk=>by
 obtain⟨t,_,rfl⟩:=List.mem_map.1 hk
 rfl
theorem Rt(hz:aw z zn)(hg:fq prog z gP)(N:aq)(l:List RunT)(hl:l.length<100000)(hN:N.nu=l.length)(hZ:rN z l)(hnet: ∀σ:bq,aD (ay σ []) N.iw=some N.iw)(r:Int × Int)(hr:scan (dH N.ns N.nr l) l.length 0=r):
 aj prog (ah (ag f46) 0) 3 96 (Tj N.nu N.uc 0) [(0,N.iw),(1,du 0 0 0),(2,bt [])] 3 z zn (Al.R (lpu z zn N (if r.2=0 then 0 else 2) r.1 r.2).l):=by
 refine ax hD hg (α:=Nat) 3 96 3 (fun i=>i<=l.length/\scan (dH N.ns N.nr l) (l.length - i) i=r) (fun i=>Tj N.nu N.uc i) (fun i=>[(0,N.iw),(1,du 0 0 0),(2,bt ((l.take i).map fun y=>y.v.key))]) (fun _=>z) (fun _=>zn) (fun i=>l.length - i) _ (fun i hI=>?_) 0 ⟨Nat.zero_le _,hr⟩
 obtain⟨h1,h2⟩:=hI
 by_cases hi:i<l.length
 ·obtain⟨e,he⟩:=hZ.HM.az (i:=i) (by simpa using hi)
  obtain⟨x,hx⟩:=dm hi
  have hid:=Xi (hZ.HM.sz (i:=i) (r:=x.v.row) (s:=x.v.id) (by rw[List.getElem?_map,hx];rfl) (by simp))
  have hlen:=aO (row:=fun r:RunT=>r.v.row) (sz:=8) l fun _=>rfl
  have hrow:ai prog (bk e (l.map fun r=>r.v.row).flatten) 66 (0+i*8)=some (.agg ⟨x.v.row⟩):=bG (r:=x.v.row) (sz:=8) underlying66 rfl rfl hlen (by rw[List.getElem?_map,hx];rfl)
  have hk:=Rx x (l.take i)
  have hps:=Dm (l.take i)
  have hany:=mem_keys x (l.take i)
  have hsl:=(hZ.sl i x hx).nm
  have hcalls:=KY hz hg (6+i) x.calls (hZ.sl i x hx) (hZ.calls i x hx) N.ns 0 3155932800
  have hargs:aS (sig []) [.slice x.v.ca x.v.cn x.v.cc,iv N.ns,I 0,I 3155932800]=some [.slice x.v.ca x.v.cn x.v.cc,iv N.ns,I 0,I 3155932800]:=by
   have:=hsl []
   rw[lO] at this
   exact bM this rfl
  have hbad:dH N.ns N.nr l i=if bW x.v.id=false then some 12 else if x.v.xa< -1\/x.v.inst<0 then some 2 else if x.v.day<0\/36524<x.v.day then some 11
   else if x.v.jv<0\/(N.nr:Int)<=x.v.jv then some 9 else if (bK x.calls N.ns 0 3155932800).2≠0 then some (bK x.calls N.ns 0 3155932800).2 else if (l.take i).any (fun y=>sameKey y x)=true then some 6 else none:=by
   unfold dH;rw[hx];rfl
  have hc:decide ((i:Int)<(N.nu:Int))=true:=by simp;omega
  have ret: ∀e:Int,dH N.ns N.nr l i=some e->e≠0->Al.R (lpu z zn N (if r.2=0 then 0 else 2) r.1 r.2).l ⟨.ret,[(2,ip 1)],[(1,du 2 i e)],3,z,zn⟩:=fun e h h0=>by
   have:r=((i:Int),e):=by rw[←h2,cZ hi h]
   rw[this]
   simp only[if_neg h0]
   exact bh trivial
  refine t100 (ru z zn i N (bk e (l.map fun r=>r.v.row).flatten) x.v ((l.take i).map fun y=>y.v.key) (bK x.calls N.ns 0 3155932800).1 (bK x.calls N.ns 0 3155932800).2 (au _ _ _ _ _ _ _ _ _) ⟨fun _=>?_,nC1 hc⟩)
  (repeat' first|(with_reducible first|exact rfl|assumption|apply And.intro|exact(by omega:i<N.nu)|exact hk.no|exact hk.ex|exact iS _ hps rfl|exact bH (by omega))|exact(rfl:gP _ _=_)|exact hcalls|exact hnet _|intro hq)
  all_goals try (have hm:=hk.Fu (by with_reducible assumption);rw[hany] at hm)
  all_goals try (have hm:=hk.LU (by with_reducible assumption);rw[hany] at hm)
  all_goals clear hk hps hrow hany he hz hr hnet hZ hargs hsl hlen
  all_goals first
   |(refine ret _ ?_ (by decide);clear ret h2 hcalls;rw[hbad];clear hbad;(repeat' split)<;>first|rfl|(exfalso;simp only[decide_eq_true_eq,decide_eq_false_iff_not,Bool.not_eq_true',Bool.not_eq_false',bS2] at*;omega)|(exfalso;simp_all;done))
   |(refine ret _ ?_ (by simpa using hq);clear ret h2 hcalls;rw[hbad];clear hbad;(repeat' split)<;>first|rfl|(exfalso;simp only[decide_eq_true_eq,decide_eq_false_iff_not,Bool.not_eq_true',Bool.not_eq_false',bS2] at*;omega)|(exfalso;simp_all;done))
   |(have hb:dH N.ns N.nr l i=none:=by
      clear ret h2 hcalls
      rw[hbad,if_neg (by simp_all),if_neg (by simp only[decide_eq_false_iff_not] at*;omega),if_neg (by simp only[decide_eq_false_iff_not] at*;omega),if_neg (by simp only[decide_eq_false_iff_not] at*;omega),if_neg (by simp_all),if_neg hm]
     refine⟨i+1,rfl,?_,rfl,rfl,rfl,⟨hi,by rw[←cI hi hb];exact h2⟩,by show l.length - (i+1)<l.length - i;omega⟩
     rw[fT]
     show _=[(0,N.iw),(1,du 0 0 0),(2,bt ((l.take (i+1)).map fun y=>y.v.key))]
     rw[List.take_add_one,hx]
     simp)
 ·have hc:decide ((i:Int)<(N.nu:Int))=false:=by simp;omega
  refine t100 (ru z zn i N ⟨[],0,0,0,true,true,0,true⟩ ⟨0,0,0,⟨#[]⟩,0,true,true,none,0,0⟩ ((l.take i).map fun y=>y.v.key) 0 0 (au _ _ _ _ _ _ _ _ _) ⟨nC1 hc,fun _=>?_⟩)
  (repeat' first|(with_reducible first|exact rfl|assumption|apply And.intro))
  rw[dN (by omega)] at h2
  refine c8 (bh ?_)
  rw[←h2]
  exact⟨rfl,rfl,rfl⟩
def cY(ns nr:Nat)(l:List RunT):Int × Int:=if 1024<l.length then (0,5) else scan (dH ns nr l) l.length 0
theorem Sl(hz:aw z zn)(hg:fq prog z gP)(N:aq)(l:List RunT)(hN:N.nu=l.length)(hZ:rN z l)(hnet: ∀σ:bq,aD (ay σ []) N.iw=some N.iw):
 A1 z zn 46 [.agg ⟨N.nZ⟩] [] 0 0 (.agg ⟨[zv (if (cY N.ns N.nr l).2=0 then 0 else 2),zv (cY N.ns N.nr l).1,zv (cY N.ns N.nr l).2]⟩) []:=by
 refine dg hg (fn:=f46) (by kernel_rfl) (by kernel_rfl) hz ⟨by decide,by decide⟩ rfl (fu z zn N (if (cY N.ns N.nr l).2=0 then 0 else 2) (cY N.ns N.nr l).1 (cY N.ns N.nr l).2 _ ?_)
 by_cases h:1024<l.length
 ·have hr:cY N.ns N.nr l=(0,5):=if_pos h
  have hc:decide ((N.nu:Int)>1024)=true:=by simp;omega
  rw[hr]
  refine⟨fun _=>?_,nC1 hc⟩
  (repeat' first|(with_reducible first|exact rfl|assumption|apply And.intro)|exact(rfl:gP _ _=_)|exact q1)
 ·have hr:cY N.ns N.nr l=scan (dH N.ns N.nr l) l.length 0:=if_neg h
  have hc:decide ((N.nu:Int)>1024)=false:=by simp;omega
  have hL:=Rt hz hg N l (by omega) hN hZ hnet (cY N.ns N.nr l) hr.symm
  refine⟨nC1 hc,fun _=>?_⟩
  (repeat' first|(with_reducible first|exact rfl|assumption|apply And.intro|exact q1)|exact hL|exact hnet _|intro hq)
  all_goals first|(rw[hq.1,hq.2.1,hq.2.2];exact q1)|trace_state
end
theorem A7{σ:Nat->Option Nat}(x:jN)(h:aP σ (.slice x.ca x.cn x.cc)=some (.slice x.ca x.cn x.cc)):aD σ (qv x)=some (qv x):=by
 have hr:aS σ x.row=some x.row:=by
  unfold jN.row
  repeat (first|exact bM h rfl|refine bM rfl ?_)
 simp only[aD,hr]
section
variable{z:T aa}{zn:Nat}
theorem Nu(hz:aw z zn)(hg:fq prog z gP)(N:aq)(l:List RunT)(hl:l.length<100000)(hN:N.nu=l.length)(hZ:rN z l)(hnet: ∀σ:bq,aD (ay σ []) N.iw=some N.iw)(i:Nat)(x:RunT)(hx:l[i]? =some x)(b:Bool)(hb:b=(l.take i).any fun y=>sameKey y x):
 aj prog (ah (ag f73) 0) 2 79 (BD i 0) [(0,N.iw),(1,qv x.v)] 2 z zn (Al.R (Vf z zn i N x.v b).l):=by
 have hil:i<l.length:=(List.getElem?_eq_some_iff.1 hx).1
 have hsl:=(hZ.sl i x hx).nm
 have hrun: ∀σ:bq,aD (ay σ []) (qv x.v)=some (qv x.v):=fun σ=>A7 x.v (hsl σ)
 refine ax hD hg (α:=Nat) 2 79 2 (fun k=>k<=i/\((l.take k).any fun y=>sameKey y x)=false) (fun k=>BD i k) (fun _=>[(0,N.iw),(1,qv x.v)]) (fun _=>z) (fun _=>zn) (fun k=>i - k) _ (fun k hI=>?_) 0 ⟨Nat.zero_le _,rfl⟩
 obtain⟨h1,h2⟩:=hI
 by_cases hk:k<i
 ·obtain⟨e,he⟩:=hZ.HM.az (i:=k) (by simp;omega)
  obtain⟨y,hy⟩:=dm (l:=l) (i:=k) (by omega)
  have hlen:=aO (row:=fun r:RunT=>r.v.row) (sz:=8) l fun _=>rfl
  have hrow:ai prog (bk e (l.map fun r=>r.v.row).flatten) 66 (0+k*8)=some (.agg ⟨y.v.row⟩):=bG (r:=y.v.row) (sz:=8) underlying66 rfl rfl hlen (by rw[List.getElem?_map,hy];rfl)
  have hc:decide ((k:Int)<(i:Int))=true:=by simp;omega
  have hsame:sameKey y x=((y.v.id.toList==x.v.id.toList) && ((y.v.day==x.v.day) && (y.v.inst==x.v.inst))):=by
   rw[p8];rfl
  have kF:sameKey y x=false->au (fun k=>k<=i/\((l.take k).any fun y=>sameKey y x)=false) (fun k=>BD i k) (fun _=>[(0,N.iw),(1,qv x.v)]) 2 (fun _=>z) (fun _=>zn) (fun k=>i - k) (Al.R (Vf z zn i N x.v b).l) k .normal (BD i (k+1)) [(0,N.iw),(1,qv x.v)] 2 z zn:=fun h=>
   ⟨k+1,rfl,rfl,rfl,rfl,rfl,⟨hk,by rw[ku hy,h2,h];rfl⟩,by show i - (k+1)<i - k;omega⟩
  refine t100 (rrk z zn i k N (bk e (l.map fun r=>r.v.row).flatten) x.v y.v (au _ _ _ _ _ _ _ _ _) ⟨fun _=>?_,nC1 hc⟩)
  (repeat' first|(with_reducible first|exact rfl|assumption|apply And.intro|exact(by omega:k<N.nu)|exact bH (by omega))|exact hnet _|exact hrun _|intro hq)
  all_goals first
   |(refine kF ?_;rw[hsame];simp_all;done)
   |(refine bh ?_;rw[hb];refine any_true hy hk ?_;rw[hsame];simp_all;done)
 ·have hc:decide ((k:Int)<(i:Int))=false:=by simp;omega
  refine t100 (rrk z zn i k N ⟨[],0,0,0,true,true,0,true⟩ x.v x.v (au _ _ _ _ _ _ _ _ _) ⟨nC1 hc,fun _=>?_⟩)
  (repeat' first|(with_reducible first|exact rfl|assumption|apply And.intro))
  refine c8 (bh ?_)
  rw[hb,←h2,show k=i by omega]
theorem Sm(hz:aw z zn)(hg:fq prog z gP)(N:aq)(l:List RunT)(hl:l.length<100000)(hN:N.nu=l.length)(hZ:rN z l)(hnet: ∀σ:bq,aD (ay σ []) N.iw=some N.iw)(i:Nat)(hi:i<l.length):
 A1 z zn 73 [.agg ⟨N.nZ⟩,iv i] [] 0 0 (zv ((dH N.ns N.nr l i).getD 0)) []:=by
 obtain⟨e,he⟩:=hZ.HM.az (i:=i) (by simpa using hi)
 obtain⟨x,hx⟩:=dm hi
 have hid:=Xh (hZ.HM.sz (i:=i) (r:=x.v.row) (s:=x.v.id) (by rw[List.getElem?_map,hx];rfl) (by simp))
 have hlen:=aO (row:=fun r:RunT=>r.v.row) (sz:=8) l fun _=>rfl
 have hrow:ai prog (bk e (l.map fun r=>r.v.row).flatten) 66 (0+i*8)=some (.agg ⟨x.v.row⟩):=bG (r:=x.v.row) (sz:=8) underlying66 rfl rfl hlen (by rw[List.getElem?_map,hx];rfl)
 have hsl:=(hZ.sl i x hx).nm
 have hrun: ∀σ:bq,aD (ay σ []) (qv x.v)=some (qv x.v):=fun σ=>A7 x.v (hsl σ)
 have hcalls:=Hd hz hg (6+i) x.calls (hZ.sl i x hx) (hZ.calls i x hx) N.ns 0 3155932800
 have hargs:aS (sig []) [.slice x.v.ca x.v.cn x.v.cc,iv N.ns,I 0,I 3155932800]=some [.slice x.v.ca x.v.cn x.v.cc,iv N.ns,I 0,I 3155932800]:=by
  have:=hsl []
  rw[lO] at this
  exact bM this rfl
 have hL:=Nu hz hg N l hl hN hZ hnet i x hx _ rfl
 have hbad:dH N.ns N.nr l i=if bW x.v.id=false then some 12 else if x.v.xa< -1\/x.v.inst<0 then some 2 else if x.v.day<0\/36524<x.v.day then some 11
  else if x.v.jv<0\/(N.nr:Int)<=x.v.jv then some 9 else if (bK x.calls N.ns 0 3155932800).2≠0 then some (bK x.calls N.ns 0 3155932800).2 else if (l.take i).any (fun y=>sameKey y x)=true then some 6 else none:=by
  unfold dH;rw[hx];rfl
 generalize ((l.take i).any fun y=>sameKey y x)=b at hL hbad
 generalize (bK x.calls N.ns 0 3155932800).2=ce at hcalls hbad
 refine dg hg (fn:=f73) (by kernel_rfl) (by kernel_rfl) hz ⟨by decide,by decide⟩ rfl (aa8 z zn i N (bk e (l.map fun r=>r.v.row).flatten) x.v ce b _ ?_)
 (repeat' first|(with_reducible first|exact rfl|assumption|apply And.intro|exact(by omega:i<N.nu))|exact(rfl:gP _ _=_)|exact hcalls|exact hL|exact hnet _|exact hrun _|intro hq)
 all_goals clear hL hcalls hrow he hz hnet hZ hargs hsl hlen hrun
 all_goals first
  |(have hv:(dH N.ns N.nr l i).getD 0=12:=by(rw[hbad];clear hbad;(repeat' split)<;>first|rfl|(exfalso;simp only[bS1,bS2] at*;omega)|(exfalso;simp_all;done))
    rw[hv];exact q1)
  |(have hv:(dH N.ns N.nr l i).getD 0=2:=by(rw[hbad];clear hbad;(repeat' split)<;>first|rfl|(exfalso;simp only[bS1,bS2] at*;omega)|(exfalso;simp_all;done))
    rw[hv];exact q1)
  |(have hv:(dH N.ns N.nr l i).getD 0=11:=by(rw[hbad];clear hbad;(repeat' split)<;>first|rfl|(exfalso;simp only[bS1,bS2] at*;omega)|(exfalso;simp_all;done))
    rw[hv];exact q1)
  |(have hv:(dH N.ns N.nr l i).getD 0=9:=by(rw[hbad];clear hbad;(repeat' split)<;>first|rfl|(exfalso;simp only[bS1,bS2] at*;omega)|(exfalso;simp_all;done))
    rw[hv];exact q1)
  |(have hv:(dH N.ns N.nr l i).getD 0=6:=by(rw[hbad];clear hbad;(repeat' split)<;>first|rfl|(exfalso;simp only[bS1,bS2] at*;omega)|(exfalso;simp_all;done))
    rw[hv];exact q1)
  |(have hv:(dH N.ns N.nr l i).getD 0=0:=by(rw[hbad];clear hbad;(repeat' split)<;>first|rfl|(exfalso;simp only[bS1,bS2] at*;omega)|(exfalso;simp_all;done))
    rw[hv];exact q1)
  |(have hv:(dH N.ns N.nr l i).getD 0=ce:=by(rw[hbad];clear hbad;(repeat' split)<;>first|rfl|(exfalso;simp only[bS1,bS2] at*;omega)|(exfalso;simp_all;done))
    rw[hv];exact q1)
end
end Go.Proofs.Nw
namespace Go.Proofs.Nw
open Go Go.AV Tryz Go.jP
set_option maxRecDepth 100000
def stays(l:List aI):List (Int × Int):=(l.filter (·.stay)).map fun x=>(x.fz1,x.aB)
def D4(x y:aI):Bool:=y.stay && ((y.fz1==x.fz1)||(y.aB==x.aB))
def gh(U:List RunT)(f:Int):Nat:=match U[f.toNat]? with|some r=>r.calls.length|none=>0
def lM(U:List RunT)(f c:Int):Int:=match U[f.toNat]? with|some r=>(match r.calls[c.toNat]? with|some x=>x.stop|none=>0)|none=>0
def iV(U:List RunT)(L:List aI)(i:Nat)(x:aI):Int:=
 if x.fz1<0\/(U.length:Int)<=x.fz1\/x.aB<0\/(U.length:Int)<=x.aB\/x.fz1=x.aB then 9
 else if x.fc<0\/(gh U x.fz1:Int)<=x.fc\/x.tc<0\/(gh U x.aB:Int)<=x.tc then 9
 else if lM U x.fz1 x.fc≠lM U x.aB x.tc then 13
 else if x.stay=true/\(x.fc+1≠gh U x.fz1\/x.tc≠0) then 19
 else if x.stay=true/\(L.take i).any (D4 x)=true then 19
 else if x.stay=true/\dO (gM (stays (L.take i))) x.fz1 (i+1) x.aB=true then 19
 else if (L.take i).any (mY x)=true then 6 else 0
def fD(U:List RunT)(L:List aI)(i:Nat):Option Int:=match L[i]? with
 |some x=>if iV U L i x=0 then none else some (iV U L i x)
 |none=>none
def bQ(U:List RunT)(L:List aI):Int × Int:=if 1024<L.length then (0,5) else scan (fD U L) L.length 0
theorem mr(l:List aI)(x:aI):stays (l++[x])=if x.stay=true then stays l++[(x.fz1,x.aB)] else stays l:=by
 unfold stays
 rw[List.filter_append]
 cases h:x.stay<;>simp[h]
theorem GP{l:List (Int × Int)}{a:Int}:o7 l a=none↔ ∀p∈l,p.1≠a:=by
 induction l with
 |nil=>simp[o7]
 |cons p l ih=>
  obtain⟨x,b⟩:=p
  simp only[o7]
  by_cases h:a=x
  ·simp[h]
  ·simp only[if_neg h,ih,List.mem_cons,forall_eq_or_imp]
   exact⟨fun k=>⟨fun e=>h e.symm,k⟩,fun k=>k.2⟩
theorem FR(l:List aI)(x:aI):l.any (D4 x)=false↔o7 (stays l) x.fz1=none/\x.aB ∉ (stays l).map (·.2):=by
 rw[GP]
 unfold stays
 simp only[List.any_eq_false,D4,Bool.and_eq_true,Bool.or_eq_true,beq_iff_eq,List.mem_map,List.mem_filter,not_and,not_or,not_exists,forall_exists_index,and_imp]
 constructor
 ·intro h
  exact⟨fun p y h1 h2 h3 e=>(h y h1 h2).1 (by subst h3;exact e),fun p y h1 h2 h3 e=>(h y h1 h2).2 (by subst h3;exact e)⟩
 ·rintro⟨h1,h2⟩ y hy hs
  exact⟨fun e=>h1 _ y hy hs rfl e,fun e=>h2 _ y hy hs rfl e⟩
structure AD(l:List aI):Prop where
 eq:o7 (stays l)=gM (stays l)
 dep: ∀f,∃d,xz (gM (stays l)) f d
 pos: ∀p∈stays l,0<=p.1
theorem I5:AD []:=⟨rfl,fun f=>⟨0, .nil rfl⟩,fun p hp=>by cases hp⟩
theorem AD.neg{l:List aI}(h:AD l):gM (stays l) (-1)=none:=by
 cases hc:gM (stays l) (-1) with
 |none=>rfl
 |some a=>have:=h.pos _ (xK hc);simp at this
theorem Gb(l:List aI):(stays l).length<=l.length:=by
 unfold stays;rw[List.length_map];exact List.length_filter_le _ _
theorem AD.leads{l:List aI}(h:AD l){a b:Int}(hb:0<=b){n:Nat}(hn:l.length<=n):dO (gM (stays l)) b (n+1) a=true↔kB (gM (stays l)) b a:=by
 obtain⟨d,hd⟩:=h.dep a
 refine DK hb h.neg hd _ ?_
 have:=hd.NQ ((stays l).map (·.1)) fun x hx=>M0 hx
 rw[List.length_map] at this
 have:=Gb l
 omega
theorem AD.snoc{l:List aI}(h:AD l){U:List RunT}{L:List aI}{i:Nat}{x:aI}(hl:l=L.take i)(hi:i<=L.length)(he:iV U L i x=0):AD (l++[x]):=by
 cases hs:x.stay with
 |false=>
  have e:stays (l++[x])=stays l:=by rw[mr,hs];rfl
  exact⟨by rw[e];exact h.eq,by rw[e];exact h.dep,by rw[e];exact h.pos⟩
 |true=>
  have e:stays (l++[x])=stays l++[(x.fz1,x.aB)]:=by rw[mr,hs];rfl
  unfold iV at he
  split at he
  ·cases he
  rename_i c1
  split at he
  ·cases he
  rename_i c2
  split at he
  ·cases he
  split at he
  ·cases he
  split at he
  ·cases he
  rename_i c5
  split at he
  ·cases he
  rename_i c6
  rw[hs] at c5 c6
  have c5:(L.take i).any (D4 x)=false:=by simpa using c5
  rw[←hl] at c5 c6
  obtain⟨h1,h2⟩:=(FR l x).1 c5
  have hn:gM (stays l) x.fz1=none:=by rw[←h.eq];exact h1
  have hlen:l.length<=i:=by rw[hl,List.length_take];omega
  have hnl: ¬kB (gM (stays l)) x.fz1 x.aB:=fun k=>c6 ⟨rfl,(h.leads (by omega) hlen).2 k⟩
  refine⟨?_,?_,?_⟩
  ·rw[e,GO _ _ _ h1,oJ,h.eq]
  ·rw[e,oJ]
   exact Oc h.dep hn (by omega) hnl
  ·rw[e]
   intro p hp
   rcases List.mem_append.1 hp with q|q
   ·exact h.pos p q
   ·simp at q;subst q;simp;omega
theorem xJ(U:List RunT)(L:List aI): ∀k,k<=L.length->(∀j,j<k->fD U L j=none)->AD (L.take k)
 |0,_,_=>I5
 |k+1,hk,h=>by
  obtain⟨x,hx⟩:=dm (l:=L) (i:=k) (by omega)
  rw[List.take_add_one,hx]
  refine(xJ U L k (by omega) fun j hj=>h j (by omega)).snoc (U:=U) rfl (by omega) ?_
  have:=h k (by omega)
  unfold fD at this
  rw[hx] at this
  simpa using this
end Go.Proofs.Nw
namespace Go.Proofs.Nw
open Go Go.AV Tryz Go.jP
set_option maxHeartbeats 4000000
set_option maxRecDepth 100000
def CU(L:List aI)(k:Nat)(f:Int):Int:=(gM (stays (L.take k)) f).getD (-1)
theorem Ja{L:List aI}{k:Nat}{y:aI}(hy:L[k]? =some y)(f:Int):CU L (k+1) f=if y.stay=true/\y.fz1=f then y.aB else CU L k f:=by
 unfold CU
 rw[List.take_add_one,hy]
 show(gM (stays (L.take k++[y])) f).getD (-1)=_
 rw[mr]
 cases hs:y.stay with
 |false=>simp
 |true=>
  simp only[if_true,oJ,ins]
  by_cases h:f=y.fz1
  ·simp[h]
  ·simp[h,Ne.symm h]
section
variable{z:T aa}{zn:Nat}
theorem Jx(hz:aw z zn)(hg:fq prog z gP)(N:aq)(L:List aI)(hl:L.length<100000)(hN:N.nl=L.length)(hL:bP z 0 (L.map aI.row))(hnet: ∀σ:bq,aD (ay σ []) (N.cH N.u0 N.l1)=some (N.cH N.u0 N.l1))(i j:Nat)(hi:i<=L.length)(f tt:Int):
 aj prog (ah (ah (ag f121) 0) 0) 1 48 (te i f tt j (-1) 0) [(0,N.cH N.u0 N.l1)] 1 z zn (Al.R (Pq z zn N i f tt j (CU L i f) (-1)).l):=by
 refine ax hD hg (α:=Nat) 1 48 1 (fun k=>k<=i) (fun k=>te i f tt j (CU L k f) k) (fun _=>[(0,N.cH N.u0 N.l1)]) (fun _=>z) (fun _=>zn) (fun k=>i - k) _ (fun k hk=>?_) 0 (Nat.zero_le _)
 by_cases h:k<i
 ·obtain⟨e,he⟩:=hL.az (i:=k) (by simp;omega)
  obtain⟨y,hy⟩:=dm (l:=L) (i:=k) (by omega)
  have hlen:=aO (row:=aI.row) (sz:=5) L fun _=>rfl
  have hrow:(L.map aI.row)[k]? =some y.row:=by rw[List.getElem?_map,hy];rfl
  have r4:ai prog (bk e (L.map aI.row).flatten) 4 (0+k*5+4)=some (.bool y.stay):=aT underlying4 rfl hlen hrow rfl
  have r0:ai prog (bk e (L.map aI.row).flatten) 3 (0+k*5+0)=some (zv y.fz1):=aT underlying3 rfl hlen hrow rfl
  have r2:ai prog (bk e (L.map aI.row).flatten) 3 (0+k*5+2)=some (zv y.aB):=aT underlying3 rfl hlen hrow rfl
  have hn:=Ja hy f
  have hc:decide ((k:Int)<(i:Int))=true:=by simp;omega
  have kF: ∀m:Int,CU L (k+1) f=m->au (fun k=>k<=i) (fun k=>te i f tt j (CU L k f) k) (fun _=>[(0,N.cH N.u0 N.l1)]) 1 (fun _=>z) (fun _=>zn) (fun k=>i - k) (Al.R (Pq z zn N i f tt j (CU L i f) (-1)).l) k .normal (te i f tt j m (k+1)) [(0,N.cH N.u0 N.l1)] 1 z zn:=fun m hm=>
   ⟨k+1,by rw[←hm],rfl,rfl,rfl,rfl,(by omega:k+1<=i),by show i - (k+1)<i - k;omega⟩
  refine t100 (rlk z zn i k j N (bk e (L.map aI.row).flatten) y f tt (CU L k f) (au _ _ _ _ _ _ _ _ _) ⟨fun _=>?_,nC1 hc⟩)
  (repeat' first|(with_reducible first|exact rfl|assumption|apply And.intro|exact(by omega:k<N.nl)|exact bH (by omega))|exact hnet _|intro hq)
  all_goals (refine kF _ ?_;rw[hn];simp_all;done)
 ·have hc:decide ((k:Int)<(i:Int))=false:=by simp;omega
  refine t100 (rlk z zn i k j N ⟨[],0,0,0,true,true,0,true⟩ ⟨0,0,0,0,true⟩ f tt (CU L k f) (au _ _ _ _ _ _ _ _ _) ⟨nC1 hc,fun _=>?_⟩)
  (repeat' first|(with_reducible first|exact rfl|assumption|apply And.intro)|exact hnet _)
  rw[show k=i by omega]
  exact bh trivial
theorem JO(nx:Int->Option Int)(t:Int): ∀(n:Nat)(f:Int),dO nx t (n+1) f=if (nx f).getD (-1)=t then true else dO nx t n ((nx f).getD (-1)):=fun _ _=>rfl
theorem Nt(hz:aw z zn)(hg:fq prog z gP)(N:aq)(L:List aI)(hl:L.length<100000)(hN:N.nl=L.length)(hL:bP z 0 (L.map aI.row))(hnet: ∀σ:bq,aD (ay σ []) (N.cH N.u0 N.l1)=some (N.cH N.u0 N.l1))(i:Nat)(hi:i<=L.length)(f tt:Int)(b:Bool)(hb:b=dO (gM (stays (L.take i))) tt (i+1) f):
 aj prog (ah (ag f121) 0) 1 48 (Gu i f tt 0) [(0,N.cH N.u0 N.l1)] 1 z zn (Al.R (aaA z zn N i f tt b).l):=by
 refine ax hD hg (α:=Nat × Int) 1 48 1 (fun x=>x.1<=i+1/\b=dO (gM (stays (L.take i))) tt (i+1 - x.1) x.2) (fun x=>Gu i x.2 tt x.1) (fun _=>[(0,N.cH N.u0 N.l1)]) (fun _=>z) (fun _=>zn) (fun x=>i+1 - x.1) _ (fun x hx=>?_) (0,f) ⟨Nat.zero_le _,hb⟩
 obtain⟨j,f⟩:=x
 obtain⟨h1,h2⟩:=hx
 simp only at h1 h2
 by_cases h:j<=i
 ·have hc:decide ((j:Int)<=(i:Int))=true:=by simp;omega
  have hin:=Jx hz hg N L hl hN hL hnet i j hi f tt
  rw[show i+1 - j=(i - j)+1 by omega,JO] at h2
  refine t100 (rlj z zn i j N (CU L i f) f tt (au _ _ _ _ _ _ _ _ _) ⟨fun _=>?_,nC1 hc⟩)
  (repeat' first|(with_reducible first|exact rfl|assumption|apply And.intro|exact bH (by omega))|exact hin|exact hnet _|intro hq)
  all_goals first
   |(refine bh ?_
     have e:CU L i f=tt:=by simp_all
     unfold CU at e
     rw[h2,if_pos e];done)
   |(have e:CU L i f≠tt:=by simp_all
     unfold CU at e
     rw[if_neg e] at h2
     exact⟨(j+1,CU L i f),rfl,rfl,rfl,rfl,rfl,⟨by show j+1<=i+1;omega,by show b=dO _ _ (i+1 - (j+1)) _;rw[h2,show i+1 - (j+1)=i - j by omega];rfl⟩,by show i+1 - (j+1)<i+1 - j;omega⟩)
 ·have hc:decide ((j:Int)<=(i:Int))=false:=by simp;omega
  refine t100 (rlj z zn i j N 0 f tt (au _ _ _ _ _ _ _ _ _) ⟨nC1 hc,fun _=>?_⟩)
  (repeat' first|(with_reducible first|exact rfl|assumption|apply And.intro))
  refine c8 (bh ?_)
  rw[h2,show i+1 - j=0 by omega];rfl
theorem KH(hz:aw z zn)(hg:fq prog z gP)(N:aq)(L:List aI)(hl:L.length<100000)(hN:N.nl=L.length)(hL:bP z 0 (L.map aI.row))(hnet: ∀σ:bq,aD (ay σ []) (N.cH N.u0 N.l1)=some (N.cH N.u0 N.l1))(i:Nat)(hi:i<=L.length)(f tt:Int):
 A1 z zn 121 [.agg ⟨N.ed N.u0 N.l1⟩,iv i,zv f,zv tt] [] 0 0 (.bool (dO (gM (stays (L.take i))) tt (i+1) f)) []:=by
 have h:=Nt hz hg N L hl hN hL hnet i hi f tt _ rfl
 refine dg hg (fn:=f121) (by kernel_rfl) (by kernel_rfl) hz ⟨by decide,by decide⟩ rfl (frl z zn i N f tt (dO (gM (stays (L.take i))) tt (i+1) f) _ ?_)
 (repeat' first|(with_reducible first|exact rfl|assumption|apply And.intro)|exact h|exact hnet _|intro hq)
 all_goals first
  |(have e:dO (gM (stays (L.take i))) tt (i+1) f=true:=by assumption
    rw[e];exact q1)
  |(have e:dO (gM (stays (L.take i))) tt (i+1) f=false:=by assumption
    rw[e];exact q1)
end
theorem Il{n:Nat}(h:n<1000000000):Value.int .i64 (IntKind.i64.wrap ((n:Int) - 1))=Value.int .i64 ((n:Int) - 1):=by
 have:IntKind.i64.wrap ((n:Int) - 1)=(n:Int) - 1:=by
  simp only[IntKind.wrap,IntKind.signed,IntKind.bits]
  simp
  omega
 rw[this]
theorem qh{z:T aa}{zn ff:Nat}{v v':Value}{zo:bV}(h:v'=v):Q1 z zn ff v zo v' zo ff z zn:=by subst h;exact q1
structure fy(U:List RunT):Prop where
 len:U.length<=1024
 calls: ∀r,r∈U->2<=r.calls.length/\r.calls.length<=32
section
variable{z:T aa}{zn:Nat}
theorem ze{U:List RunT}(hZ:rN z U)(hU:fy U)(e0:TypeId)(y:Int): ∃(ca:Nat)(kb:aV),0<=y->y<U.length->ai prog (bk e0 (U.map fun r=>r.v.row).flatten) 64 (0+y.toNat*8+7)=some (tb (6+y.toNat) (gh U y) ca)/\z.get (6+y.toNat)=some (.az kb)
 /\ ∀c:Int,0<=c->c<gh U y->ai prog kb 3 (0+c.toNat*5+0)=some (zv (lM U y c)):=by
 by_cases h:0<=y/\y<U.length
 ·obtain⟨r,hr⟩:=dm (l:=U) (i:=y.toNat) (by omega)
  have hc:=hU.calls r (List.mem_of_getElem? hr)
  have hu:gh U y=r.calls.length:=by unfold gh;rw[hr]
  obtain⟨e,he⟩:=(hZ.calls _ r hr).az (i:=0) (by simp;omega)
  have hs:r.v.ca=some ⟨256*(6+y.toNat)+510,0,none⟩/\r.v.cn=r.calls.length:=by
   rcases hZ.sl _ r hr with (⟨_,_,_,h4⟩|h)|⟨_,_,_,h4⟩
   ·omega
   ·exact h
   ·omega
  refine⟨r.v.cc,_,fun _ _=>⟨?_,he,fun c h0 h1=>?_⟩⟩
  ·have hlen:=aO (row:=fun r:RunT=>r.v.row) (sz:=8) U fun _=>rfl
   have:=aT (P:=prog) (e:=e0) (t:=64) (k:=y.toNat) (j:=7) (r:=r.v.row) (v:= .slice r.v.ca r.v.cn r.v.cc) underlying64 rfl hlen (by rw[List.getElem?_map,hr];rfl) rfl
   rw[this,hs.1,hs.2,hu]
  ·obtain⟨x,hx⟩:=dm (l:=r.calls) (i:=c.toNat) (by omega)
   have hst:lM U y c=x.stop:=by unfold lM;rw[hr];simp only;rw[hx]
   rw[hst]
   exact aT underlying3 rfl (aO (row:=br.row) (sz:=5) r.calls fun _=>rfl) (by rw[List.getElem?_map,hx];rfl) rfl
 ·exact⟨0,⟨[],0,0,0,true,true,0,true⟩,fun h1 h2=>(h ⟨h1,h2⟩).elim⟩
theorem JD(hz:aw z zn)(hg:fq prog z gP)(N:aq)(L:List aI)(hl:L.length<100000)(hN:N.nl=L.length)(hL:bP z 0 (L.map aI.row))(hnet: ∀σ:bq,aD (ay σ []) (N.cH N.u1 N.l1)=some (N.cH N.u1 N.l1))(i:Nat)(hi:i<=L.length)(x:aI)(b:Bool)(hb:b=(x.stay && (L.take i).any (D4 x))):
 aj prog (ah (ag f74) 0) 2 177 (zN i 0) [(0,N.cH N.u1 N.l1),(1,HP x)] 2 z zn (Al.R (Vr z zn N i x b).l):=by
 refine ax hD hg (α:=Nat) 2 177 2 (fun k=>k<=i/\(x.stay && (L.take k).any (D4 x))=false) (fun k=>zN i k) (fun _=>[(0,N.cH N.u1 N.l1),(1,HP x)]) (fun _=>z) (fun _=>zn) (fun k=>i - k) _ (fun k hI=>?_) 0 ⟨Nat.zero_le _,by simp⟩
 obtain⟨h1,h2⟩:=hI
 by_cases hk:k<i
 ·obtain⟨e,he⟩:=hL.az (i:=k) (by simp;omega)
  obtain⟨y,hy⟩:=dm (l:=L) (i:=k) (by omega)
  have hlen:=aO (row:=aI.row) (sz:=5) L fun _=>rfl
  have hrow:ai prog (bk e (L.map aI.row).flatten) 127 (0+k*5)=some (.agg ⟨y.row⟩):=bG (r:=y.row) (sz:=5) underlying127 rfl rfl hlen (by rw[List.getElem?_map,hy];rfl)
  have hc:decide ((k:Int)<(i:Int))=true:=by simp;omega
  have kF:(x.stay && D4 x y)=false->au (fun k=>k<=i/\(x.stay && (L.take k).any (D4 x))=false) (fun k=>zN i k) (fun _=>[(0,N.cH N.u1 N.l1),(1,HP x)]) 2 (fun _=>z) (fun _=>zn) (fun k=>i - k) (Al.R (Vr z zn N i x b).l) k .normal (zN i (k+1)) [(0,N.cH N.u1 N.l1),(1,HP x)] 2 z zn:=fun h=>
   ⟨k+1,rfl,rfl,rfl,rfl,rfl,⟨hk,by rw[ku hy];cases hs:x.stay<;>simp_all⟩,by show i - (k+1)<i - k;omega⟩
  refine t100 (UN z zn i k N (bk e (L.map aI.row).flatten) x y (au _ _ _ _ _ _ _ _ _) ⟨fun _=>?_,nC1 hc⟩)
  (repeat' first|(with_reducible first|exact rfl|assumption|apply And.intro|exact(by omega:k<N.nl)|exact bH (by omega))|exact hnet _|intro hq)
  all_goals clear hnet hL hrow he hz hlen
  all_goals first
   |(refine kF ?_;unfold D4;simp_all;done)
   |(refine bh ?_;rw[hb]
     have:(L.take i).any (D4 x)=true:=any_true hy hk (by unfold D4;simp_all)
     rw[this];simp_all;done)
 ·have hc:decide ((k:Int)<(i:Int))=false:=by simp;omega
  refine t100 (UN z zn i k N ⟨[],0,0,0,true,true,0,true⟩ x x (au _ _ _ _ _ _ _ _ _) ⟨nC1 hc,fun _=>?_⟩)
  (repeat' first|(with_reducible first|exact rfl|assumption|apply And.intro)|exact hnet _)
  refine c8 (bh ?_)
  rw[hb,←h2,show k=i by omega]
theorem JC(hz:aw z zn)(hg:fq prog z gP)(N:aq)(L:List aI)(hl:L.length<100000)(hN:N.nl=L.length)(hL:bP z 0 (L.map aI.row))(hnet: ∀σ:bq,aD (ay σ []) (N.cH N.u1 N.l1)=some (N.cH N.u1 N.l1))(i:Nat)(hi:i<=L.length)(x:aI)(b:Bool)(hb:b=(L.take i).any (mY x)):
 aj prog (ah (ag f74) 1) 2 177 (BG i 0) [(0,N.cH N.u1 N.l1),(1,HP x)] 2 z zn (Al.R (Vq z zn N i x b).l):=by
 refine ax hD hg (α:=Nat) 2 177 2 (fun k=>k<=i/\(L.take k).any (mY x)=false) (fun k=>BG i k) (fun _=>[(0,N.cH N.u1 N.l1),(1,HP x)]) (fun _=>z) (fun _=>zn) (fun k=>i - k) _ (fun k hI=>?_) 0 ⟨Nat.zero_le _,by simp⟩
 obtain⟨h1,h2⟩:=hI
 by_cases hk:k<i
 ·obtain⟨e,he⟩:=hL.az (i:=k) (by simp;omega)
  obtain⟨y,hy⟩:=dm (l:=L) (i:=k) (by omega)
  have hlen:=aO (row:=aI.row) (sz:=5) L fun _=>rfl
  have hrow:ai prog (bk e (L.map aI.row).flatten) 127 (0+k*5)=some (.agg ⟨y.row⟩):=bG (r:=y.row) (sz:=5) underlying127 rfl rfl hlen (by rw[List.getElem?_map,hy];rfl)
  have hc:decide ((k:Int)<(i:Int))=true:=by simp;omega
  have kF:mY x y=false->au (fun k=>k<=i/\(L.take k).any (mY x)=false) (fun k=>BG i k) (fun _=>[(0,N.cH N.u1 N.l1),(1,HP x)]) 2 (fun _=>z) (fun _=>zn) (fun k=>i - k) (Al.R (Vq z zn N i x b).l) k .normal (BG i (k+1)) [(0,N.cH N.u1 N.l1),(1,HP x)] 2 z zn:=fun h=>
   ⟨k+1,rfl,rfl,rfl,rfl,rfl,⟨hk,by rw[ku hy,h2,h];rfl⟩,by show i - (k+1)<i - k;omega⟩
  refine t100 (UM z zn i k N (bk e (L.map aI.row).flatten) x y (au _ _ _ _ _ _ _ _ _) ⟨fun _=>?_,nC1 hc⟩)
  (repeat' first|(with_reducible first|exact rfl|assumption|apply And.intro|exact(by omega:k<N.nl)|exact bH (by omega))|exact hnet _|intro hq)
  all_goals clear hnet hL hrow he hz hlen
  all_goals first
   |(refine kF ?_;unfold mY;simp_all;done)
   |(refine bh ?_;rw[hb]
     exact any_true hy hk (by unfold mY;simp_all))
 ·have hc:decide ((k:Int)<(i:Int))=false:=by simp;omega
  refine t100 (UM z zn i k N ⟨[],0,0,0,true,true,0,true⟩ x x (au _ _ _ _ _ _ _ _ _) ⟨nC1 hc,fun _=>?_⟩)
  (repeat' first|(with_reducible first|exact rfl|assumption|apply And.intro))
  refine c8 (bh ?_)
  rw[hb,←h2,show k=i by omega]
theorem Ov(hz:aw z zn)(hg:fq prog z gP)(N:aq)(U:List RunT)(L:List aI)(hl:L.length<100000)(hNu:N.nu=U.length)(hN:N.nl=L.length)(hL:bP z 0 (L.map aI.row))(hZ:rN z U)(hU:fy U)(hnet: ∀σ:bq,aD (ay σ []) (N.cH N.u1 N.l1)=some (N.cH N.u1 N.l1))(hv:aS (sig []) [.agg ⟨N.ed N.u1 N.l1⟩]=some [.agg ⟨N.ed N.u1 N.l1⟩])(i:Nat)(x:aI)(hx:L[i]? =some x):
 A1 z zn 74 [.agg ⟨N.ed N.u1 N.l1⟩,iv i] [] 0 0 (zv (iV U L i x)) []:=by
 have hi:i<L.length:=(List.getElem?_eq_some_iff.1 hx).1
 obtain⟨el,hel⟩:=hL.az (i:=i) (by simp;omega)
 have hlen:=aO (row:=aI.row) (sz:=5) L fun _=>rfl
 have hrow:ai prog (bk el (L.map aI.row).flatten) 127 (0+i*5)=some (.agg ⟨x.row⟩):=bG (r:=x.row) (sz:=5) underlying127 rfl rfl hlen (by rw[List.getElem?_map,hx];rfl)
 have hu0: ∃eu:TypeId,0<U.length->z.get 1=some (.az (bk eu (U.map fun r=>r.v.row).flatten)):=by
  by_cases h:0<U.length
  ·obtain⟨e,he⟩:=hZ.HM.az (i:=0) (by simpa using h)
   exact⟨e,fun _=>he⟩
  ·exact⟨0,fun k=>(h k).elim⟩
 obtain⟨eu,heu⟩:=hu0
 obtain⟨ca,ka,hA⟩:=ze hZ hU eu x.fz1
 obtain⟨cb,kb,hB⟩:=ze hZ hU eu x.aB
 have hla:gh U x.fz1<1000000000:=by
  unfold gh
  split
  ·rename_i r hr;have:=(hU.calls r (List.mem_of_getElem? hr)).2;omega
  ·omega
 have hlb:gh U x.aB<1000000000:=by
  unfold gh
  split
  ·rename_i r hr;have:=(hU.calls r (List.mem_of_getElem? hr)).2;omega
  ·omega
 have hl3:=KH hz hg {N with ua:=some ⟨766,0,none⟩} L hl hN hL hnet i (by omega) x.aB x.fz1
 have hla3:aS (sig []) [.agg ⟨N.ed N.u1 N.l1⟩,iv i,zv x.aB,zv x.fz1]=some [.agg ⟨N.ed N.u1 N.l1⟩,iv i,zv x.aB,zv x.fz1]:=by
  have hv2:aP (sig []) (.agg ⟨N.ed N.u1 N.l1⟩)=some (.agg ⟨N.ed N.u1 N.l1⟩):=by
   simp only[aS] at hv
   split at hv
   ·rename_i u hu;simp only[Option.some.injEq,List.cons.injEq,and_true] at hv;rw[hu,hv]
   ·cases hv
  exact bM hv2 rfl
 have ha:=JD hz hg N L hl hN hL hnet i (by omega) x _ rfl
 have hb:=JC hz hg N L hl hN hL hnet i (by omega) x _ rfl
 have hlk:iV U L i x=if x.fz1<0\/(U.length:Int)<=x.fz1\/x.aB<0\/(U.length:Int)<=x.aB\/x.fz1=x.aB then 9
  else if x.fc<0\/(gh U x.fz1:Int)<=x.fc\/x.tc<0\/(gh U x.aB:Int)<=x.tc then 9
  else if lM U x.fz1 x.fc≠lM U x.aB x.tc then 13
  else if x.stay=true/\(x.fc+1≠gh U x.fz1\/x.tc≠0) then 19
  else if (x.stay && (L.take i).any (D4 x))=true then 19
  else if x.stay=true/\dO (gM (stays (L.take i))) x.fz1 (i+1) x.aB=true then 19
  else if (L.take i).any (mY x)=true then 6 else 0:=by
  unfold iV;simp only[Bool.and_eq_true]
 generalize (x.stay && (L.take i).any (D4 x))=va at ha hlk
 generalize ((L.take i).any (mY x))=vb at hb hlk
 generalize dO (gM (stays (L.take i))) x.fz1 (i+1) x.aB=lb at hl3 hlk
 have heu':0<N.nu->z.get 1=some (.az (bk eu (U.map fun r=>r.v.row).flatten)):=fun h=>heu (by omega)
 have hA1: ∀h0:0<=x.fz1,x.fz1<N.nu->_:=fun h0 h1=>hA h0 (by omega)
 have hB1: ∀h0:0<=x.aB,x.aB<N.nu->_:=fun h0 h1=>hB h0 (by omega)
 rw[←hNu] at hlk
 refine dg hg (fn:=f74) (by kernel_rfl) (by kernel_rfl) hz ⟨by decide,by decide⟩ rfl (flk z zn i N (bk el (L.map aI.row).flatten) (bk eu (U.map fun r=>r.v.row).flatten) ka kb x x.fz1.toNat x.aB.toNat x.fc.toNat x.tc.toNat (gh U x.fz1) ca (gh U x.aB) cb (lM U x.fz1 x.fc) (lM U x.aB x.tc) lb va vb _ ?_)
 have hnu:N.nu<1000000000:=by have:=hU.len;omega
 (repeat' first|(with_reducible first|exact rfl|assumption|apply And.intro|exact(by omega:i<N.nl)|exact Il hnu|exact Il hla|exact Il hlb)|exact(rfl:gP _ _=_)|exact ha|exact hb|exact hnet _|intro hq)
 all_goals clear hla3 hl3 ha hb hel hrow hnet hv hz hL hZ hU hA hB heu
 all_goals first
  |(refine qh (congrArg (Value.int .i64) ?_)
    clear hA1 hB1 heu'
    rw[hlk]
    clear hlk
    (repeat' split)<;>first|rfl|(exfalso;simp only[bS1,bS2,bS3] at*;omega)|(exfalso;simp_all;done)|(exfalso;simp_all;omega)|trace_state)
  |exact congrArg Value.bool (by assumption)
  |exact heu' (by simp only[bS1,bS2,bS3] at*;omega)
  |exact(hA1 (by simp only[bS1,bS2,bS3] at*;omega) (by simp only[bS1,bS2,bS3] at*;omega)).1
  |exact(hA1 (by simp only[bS1,bS2,bS3] at*;omega) (by simp only[bS1,bS2,bS3] at*;omega)).2.1
  |exact(hA1 (by simp only[bS1,bS2,bS3] at*;omega) (by simp only[bS1,bS2,bS3] at*;omega)).2.2 _ (by simp only[bS1,bS2,bS3] at*;omega) (by simp only[bS1,bS2,bS3] at*;omega)
  |exact(hB1 (by simp only[bS1,bS2,bS3] at*;omega) (by simp only[bS1,bS2,bS3] at*;omega)).1
  |exact(hB1 (by simp only[bS1,bS2,bS3] at*;omega) (by simp only[bS1,bS2,bS3] at*;omega)).2.1
  |exact(hB1 (by simp only[bS1,bS2,bS3] at*;omega) (by simp only[bS1,bS2,bS3] at*;omega)).2.2 _ (by simp only[bS1,bS2,bS3] at*;omega) (by simp only[bS1,bS2,bS3] at*;omega)
  |(clear hA1 hB1 heu' hlk;simp only[bS1,bS2,bS3] at*;omega)
end
end Go.Proofs.Nw
namespace Go.Proofs.Nw
open Go Go.AV Tryz Go.jP
set_option maxHeartbeats 8000000
set_option maxRecDepth 100000
abbrev Rz(ps:List (Int × Int)):List Value:=(ps.map (·.2)).map fun x=>zv x
theorem Gr(σ:Nat->Option Nat)(l:List (Int × Int))(a b:Int):aD σ (aa.map (ju 0 l++[{key:=zv a,val:=zv b,born:=l.length}]) (l.length+1))=some (aa.map (ju 0 l++[{key:=zv a,val:=zv b,born:=l.length}]) (l.length+1)):=by
 rw[xR];exact By _ _
theorem UC{a:Int}(h0:0<=a)(h:a<1000000000):Value.int .i64 (IntKind.i64.wrap (a+1))=Value.int .i64 (a+1):=by
 have:IntKind.i64.wrap (a+1)=a+1:=by
  simp only[IntKind.wrap,IntKind.signed,IntKind.bits]
  simp
  omega
 rw[this]
theorem Mq{U:List RunT}(hU:fy U)(y:Int):(gh U y:Int)<=32:=by
 unfold gh
 split
 ·rename_i r hr;have:=(hU.calls r (List.mem_of_getElem? hr)).2;omega
 ·omega
section
variable{z:T aa}{zn:Nat}
theorem Ru(hz:aw z zn)(hg:fq prog z gP)(N:aq)(U:List RunT)(L:List aI)(hl:L.length<100000)(hNu:N.nu=U.length)(hN:N.nl=L.length)(hL:bP z 0 (L.map aI.row))(hZ:rN z U)(hU:fy U)(hnet: ∀σ:bq,aD (ay σ []) (N.cH N.u1 N.l1)=some (N.cH N.u1 N.l1))(r:Int × Int)(hr:scan (fD U L) L.length 0=r):
 aj prog (ah (ag f47) 0) 5 171 (Gz N.nl N.lc 0) [(0,N.cH N.u1 N.l1),(1,du 0 0 0),(2, .map [] 0),(3,bt []),(4,bt [])] 5 z zn (Al.R (Xd z zn N N.u1 (if r.2=0 then 0 else 3) r.1 r.2).l):=by
 refine ax hD hg (α:=Nat) 5 171 5 (fun i=>i<=L.length/\scan (fD U L) (L.length - i) i=r/\ ∀j,j<i->fD U L j=none) (fun i=>Gz N.nl N.lc i) (fun i=>[(0,N.cH N.u1 N.l1),(1,du 0 0 0),(2,vM (stays (L.take i))),(3,bt (Rz (stays (L.take i)))),(4,bt ((L.take i).map kR))]) (fun _=>z) (fun _=>zn) (fun i=>L.length - i) _ (fun i hI=>?_) 0 ⟨Nat.zero_le _,hr,fun j hj=>by omega⟩
 obtain⟨h1,h2,h3⟩:=hI
 by_cases hi:i<L.length
 ·obtain⟨x,hx⟩:=dm hi
  obtain⟨el,hel⟩:=hL.az (i:=i) (by simp;omega)
  have hlen:=aO (row:=aI.row) (sz:=5) L fun _=>rfl
  have hrow:ai prog (bk el (L.map aI.row).flatten) 127 (0+i*5)=some (.agg ⟨x.row⟩):=bG (r:=x.row) (sz:=5) underlying127 rfl rfl hlen (by rw[List.getElem?_map,hx];rfl)
  have hu0: ∃eu:TypeId,0<U.length->z.get 1=some (.az (bk eu (U.map fun r=>r.v.row).flatten)):=by
   by_cases h:0<U.length
   ·obtain⟨e,he⟩:=hZ.HM.az (i:=0) (by simpa using h)
    exact⟨e,fun _=>he⟩
   ·exact⟨0,fun k=>(h k).elim⟩
  obtain⟨eu,heu⟩:=hu0
  obtain⟨ca,ka,hA⟩:=ze hZ hU eu x.fz1
  obtain⟨cb,kb,hB⟩:=ze hZ hU eu x.aB
  have heu':0<N.nu->z.get 1=some (.az (bk eu (U.map fun r=>r.v.row).flatten)):=fun h=>heu (by omega)
  have hA1: ∀h0:0<=x.fz1,x.fz1<N.nu->_:=fun h0 h1=>hA h0 (by omega)
  have hB1: ∀h0:0<=x.aB,x.aB<N.nu->_:=fun h0 h1=>hB h0 (by omega)
  have hla:=Mq hU x.fz1
  have ok:=xJ U L i h1 h3
  have hm:=aat (stays (L.take i))
  have hk:=VG x (L.take i)
  have hps:=IX (L.take i)
  have hi2:=Ry x.aB ((stays (L.take i)).map (·.2))
  have hpi:=Gl ((stays (L.take i)).map (·.2))
  have hcf:=FR (L.take i) x
  have hlds:0<=x.fz1->A1 z zn 81 [mp 0,zv x.aB,zv x.fz1] [(0,vM (stays (L.take i)))] 1 1 (.bool (dO (gM (stays (L.take i))) x.fz1 (i+1) x.aB)) [(0,vM (stays (L.take i)))]:=fun h0=>
   OB hz hm (by rw[ok.eq];exact ok.dep) x.aB x.fz1 _ (by rw[ok.eq];exact ok.leads h0 (by rw[List.length_take];omega))
  have hlk:iV U L i x=if x.fz1<0\/(U.length:Int)<=x.fz1\/x.aB<0\/(U.length:Int)<=x.aB\/x.fz1=x.aB then 9
   else if x.fc<0\/(gh U x.fz1:Int)<=x.fc\/x.tc<0\/(gh U x.aB:Int)<=x.tc then 9
   else if lM U x.fz1 x.fc≠lM U x.aB x.tc then 13
   else if x.stay=true/\(x.fc+1≠gh U x.fz1\/x.tc≠0) then 19
   else if x.stay=true/\(L.take i).any (D4 x)=true then 19
   else if x.stay=true/\dO (gM (stays (L.take i))) x.fz1 (i+1) x.aB=true then 19
   else if (L.take i).any (mY x)=true then 6 else 0:=rfl
  have ret: ∀e:Int,e=iV U L i x->e≠0->Al.R (Xd z zn N N.u1 (if r.2=0 then 0 else 3) r.1 r.2).l ⟨.ret,[(2,ip 1)],[(1,du 3 i e)],5,z,zn⟩:=fun e h h0=>by
   have hb:fD U L i=some e:=by unfold fD;rw[hx];simp only;rw[←h,if_neg h0]
   have:r=((i:Int),e):=by rw[←h2,cZ hi hb]
   rw[this]
   simp only[if_neg h0]
   exact bh trivial
  have htk:L.take (i+1)=L.take i++[x]:=by rw[List.take_add_one,hx];rfl
  have kF:iV U L i x=0->au (fun i=>i<=L.length/\scan (fD U L) (L.length - i) i=r/\ ∀j,j<i->fD U L j=none) (fun i=>Gz N.nl N.lc i) (fun i=>[(0,N.cH N.u1 N.l1),(1,du 0 0 0),(2,vM (stays (L.take i))),(3,bt (Rz (stays (L.take i)))),(4,bt ((L.take i).map kR))]) 5 (fun _=>z) (fun _=>zn) (fun i=>L.length - i) (Al.R (Xd z zn N N.u1 (if r.2=0 then 0 else 3) r.1 r.2).l) i .normal (Gz N.nl N.lc (i+1))
   [(0,N.cH N.u1 N.l1),(1,du 0 0 0),(2,vM (if x.stay=true then stays (L.take i)++[(x.fz1,x.aB)] else stays (L.take i))),(3,bt (Rz (if x.stay=true then stays (L.take i)++[(x.fz1,x.aB)] else stays (L.take i)))),(4,bt ((L.take i).map kR++[kR x]))] 5 z zn:=fun h0=>by
   have hb:fD U L i=none:=by unfold fD;rw[hx];simp only;rw[if_pos h0]
   refine⟨i+1,rfl,?_,rfl,rfl,rfl,⟨hi,by rw[←cI hi hb];exact h2,fun j hj=>?_⟩,by show L.length - (i+1)<L.length - i;omega⟩
   ·show _=[(0,N.cH N.u1 N.l1),(1,du 0 0 0),(2,vM (stays (L.take (i+1)))),(3,bt (Rz (stays (L.take (i+1))))),(4,bt ((L.take (i+1)).map kR))]
    rw[htk,mr,List.map_append];rfl
   ·by_cases e:j=i
    ·subst e;exact hb
    ·exact h3 j (by omega)
  have hc:decide ((i:Int)<(N.nl:Int))=true:=by simp;omega
  rw[←hNu] at hlk
  generalize (L.take i).any (D4 x)=va at hlk hcf
  generalize dO (gM (stays (L.take i))) x.fz1 (i+1) x.aB=lb at hlk hlds
  have hv0:o7 (stays (L.take i)) x.fz1=none->x.aB ∉ (stays (L.take i)).map (·.2)->va=false:=fun h k=>hcf.2 ⟨h,k⟩
  have hv1: ∀b,o7 (stays (L.take i)) x.fz1=some b->va=true:=fun b h=>by
   cases hva:va with
   |true=>rfl
   |false=>(have:=(hcf.1 hva).1;rw[h] at this;cases this)
  have hv2:x.aB∈(stays (L.take i)).map (·.2)->va=true:=fun h=>by
   cases hva:va with
   |true=>rfl
   |false=>exact((hcf.1 hva).2 h).elim
  refine t100 (rk z zn i N (bk el (L.map aI.row).flatten) (bk eu (U.map fun r=>r.v.row).flatten) ka kb x x.fz1.toNat x.aB.toNat x.fc.toNat x.tc.toNat (gh U x.fz1) ca (gh U x.aB) cb (lM U x.fz1 x.fc) (lM U x.aB x.tc) lb (stays (L.take i)) (Rz (stays (L.take i))) ((L.take i).map kR) (au _ _ _ _ _ _ _ _ _) ⟨fun _=>?_,nC1 hc⟩)
  (repeat' first|(with_reducible first|exact rfl|assumption|apply And.intro|exact(by omega:i<N.nl)|exact hm.no _|exact hm.ex _|exact hk.no|exact hk.ex|exact hi2.no|exact hi2.ex|exact iS _ hps rfl|exact iS _ hpi rfl|exact Bb hpi|exact By _ _|exact Gr _ _ _ _|exact bH (by omega))|exact(rfl:gP _ _=_)|exact hnet _|intro hq)
  all_goals clear hnet hrow hel hz hL hZ hU hA hB heu hlen hps hpi
  all_goals try (have hm1:=hk.Fu (by with_reducible assumption);rw[Jf] at hm1)
  all_goals try (have hm1:=hk.LU (by with_reducible assumption);rw[Jf] at hm1)
  all_goals try (have hm2:=hi2.Fu (by with_reducible assumption);rw[Fh] at hm2)
  all_goals try (have hm2:=hi2.LU (by with_reducible assumption);rw[Fh] at hm2)
  all_goals try (have hm3:=hm.Fu (by with_reducible assumption))
  all_goals try (have hm3:=hm.none (by with_reducible assumption))
  all_goals clear hm hk hi2
  all_goals try (have hv:=hv0 hm3 hm2)
  all_goals try (have hv:=hv1 _ hm3)
  all_goals try (have hv:=hv2 hm2)
  all_goals clear hv0 hv1 hv2
  all_goals clear hcf
  all_goals first
   |(refine ret _ ?_ (by decide)
     clear ret kF hlds hA1 hB1 heu' h2 h3 hr
     rw[hlk]
     clear hlk
     (repeat' split)<;>first|rfl|(exfalso;simp only[bS1,bS2,bS3] at*;omega)|(exfalso;simp_all;done)|(exfalso;simp_all;omega))
   |(have h0:iV U L i x=0:=by
      clear ret kF hlds hA1 hB1 heu' h2 h3 hr
      rw[hlk]
      clear hlk
      (repeat' split)<;>first|rfl|(exfalso;simp only[bS1,bS2,bS3] at*;omega)|(exfalso;simp_all;done)|(exfalso;simp_all;omega)
     have q:=kF h0
     rw[fT]
     first
      |(have hs:x.stay=true:=by assumption
        simp only[hs,if_true] at q
        rw[xR,fT]
        simp only[Rz,List.map_append,List.map_cons,List.map_nil] at q ⊢
        exact q)
      |(have hs:x.stay=false:=by assumption
        simp only[hs,Bool.false_eq_true,if_false] at q
        exact q))
   |exact congrArg Value.bool (by assumption)
   |exact heu' (by simp only[bS1,bS2,bS3] at*;omega)
   |exact(hA1 (by simp only[bS1,bS2,bS3] at*;omega) (by simp only[bS1,bS2,bS3] at*;omega)).1
   |exact(hA1 (by simp only[bS1,bS2,bS3] at*;omega) (by simp only[bS1,bS2,bS3] at*;omega)).2.1
   |exact(hA1 (by simp only[bS1,bS2,bS3] at*;omega) (by simp only[bS1,bS2,bS3] at*;omega)).2.2 _ (by simp only[bS1,bS2,bS3] at*;omega) (by simp only[bS1,bS2,bS3] at*;omega)
   |exact(hB1 (by simp only[bS1,bS2,bS3] at*;omega) (by simp only[bS1,bS2,bS3] at*;omega)).1
   |exact(hB1 (by simp only[bS1,bS2,bS3] at*;omega) (by simp only[bS1,bS2,bS3] at*;omega)).2.1
   |exact(hB1 (by simp only[bS1,bS2,bS3] at*;omega) (by simp only[bS1,bS2,bS3] at*;omega)).2.2 _ (by simp only[bS1,bS2,bS3] at*;omega) (by simp only[bS1,bS2,bS3] at*;omega)
   |exact hlds (by simp only[bS1,bS2,bS3] at*;omega)
   |exact UC (by simp only[bS1,bS2,bS3] at*;omega) (by simp only[bS1,bS2,bS3] at*;omega)
   |(clear hA1 hB1 heu' hlk hlds kF ret;simp only[bS1,bS2,bS3] at*;omega)
 ·have hc:decide ((i:Int)<(N.nl:Int))=false:=by simp;omega
  refine t100 (rk z zn i N ⟨[],0,0,0,true,true,0,true⟩ ⟨[],0,0,0,true,true,0,true⟩ ⟨[],0,0,0,true,true,0,true⟩ ⟨[],0,0,0,true,true,0,true⟩ ⟨0,0,0,0,true⟩ 0 0 0 0 0 0 0 0 0 0 true (stays (L.take i)) (Rz (stays (L.take i))) ((L.take i).map kR) (au _ _ _ _ _ _ _ _ _) ⟨nC1 hc,fun _=>?_⟩)
  (repeat' first|(with_reducible first|exact rfl|assumption|apply And.intro))
  rw[dN (by omega)] at h2
  refine c8 (bh ?_)
  rw[←h2]
  exact⟨rfl,rfl,rfl⟩
theorem OA(hz:aw z zn)(hg:fq prog z gP)(N:aq)(U:List RunT)(L:List aI)(hNu:N.nu=U.length)(hN:N.nl=L.length)(hL:bP z 0 (L.map aI.row))(hZ:rN z U)(hU:fy U)(hnet: ∀σ:bq,aD (ay σ []) (N.cH N.u1 N.l1)=some (N.cH N.u1 N.l1)):
 A1 z zn 47 [.agg ⟨N.ed N.u1 N.l1⟩] [] 0 0 (.agg ⟨[zv (if (bQ U L).2=0 then 0 else 3),zv (bQ U L).1,zv (bQ U L).2]⟩) []:=by
 refine dg hg (fn:=f47) (by kernel_rfl) (by kernel_rfl) hz ⟨by decide,by decide⟩ rfl (fk z zn N N.u1 (if (bQ U L).2=0 then 0 else 3) (bQ U L).1 (bQ U L).2 _ ?_)
 by_cases h:1024<L.length
 ·have hr:bQ U L=(0,5):=if_pos h
  have hc:decide ((N.nl:Int)>1024)=true:=by simp;omega
  rw[hr]
  refine⟨fun _=>?_,nC1 hc⟩
  (repeat' first|(with_reducible first|exact rfl|assumption|apply And.intro)|exact(rfl:gP _ _=_)|exact q1)
 ·have hr:bQ U L=scan (fD U L) L.length 0:=if_neg h
  have hc:decide ((N.nl:Int)>1024)=false:=by simp;omega
  have hK:=Ru hz hg N U L (by omega) hNu hN hL hZ hU hnet (bQ U L) hr.symm
  refine⟨nC1 hc,fun _=>?_⟩
  (repeat' first|(with_reducible first|exact rfl|assumption|apply And.intro|exact q1)|exact hK|exact hnet _|intro hq)
  all_goals first|(rw[hq.1,hq.2.1,hq.2.2];exact q1)|trace_state
theorem NF(hz:aw z zn)(hg:fq prog z gP)(N:aq)(L:List aI)(hl:L.length<100000)(hN:N.nl=L.length)(hL:bP z 0 (L.map aI.row))(hnet: ∀σ:bq,aD (ay σ []) (N.cH an N.l1)=some (N.cH an N.l1))(r:Int × Int)(hr:scan (fD [] L) L.length 0=r):
 aj prog (ah (ag f47) 0) 5 171 (Gz N.nl N.lc 0) [(0,N.cH an N.l1),(1,du 0 0 0),(2, .map [] 0),(3,bt []),(4,bt [])] 5 z zn (Al.R (Xd z zn N an (if r.2=0 then 0 else 3) r.1 r.2).l):=by
 refine ax hD hg (α:=Nat) 5 171 5 (fun i=>i=0) (fun i=>Gz N.nl N.lc i) (fun i=>[(0,N.cH an N.l1),(1,du 0 0 0),(2, .map [] 0),(3,bt []),(4,bt [])]) (fun _=>z) (fun _=>zn) (fun i=>1) _ (fun i hI=>?_) 0 rfl
 subst hI
 by_cases hi:0<L.length
 ·obtain⟨x,hx⟩:=dm hi
  obtain⟨el,hel⟩:=hL.az (i:=0) (by simp;omega)
  have hlen:=aO (row:=aI.row) (sz:=5) L fun _=>rfl
  have hrow:ai prog (bk el (L.map aI.row).flatten) 127 (0+0*5)=some (.agg ⟨x.row⟩):=bG (r:=x.row) (sz:=5) underlying127 rfl rfl hlen (by rw[List.getElem?_map,hx];rfl)
  have hb:fD [] L 0=some 9:=by
   unfold fD;rw[hx];simp only
   have:iV [] L 0 x=9:=by unfold iV;rw[if_pos (by simp;omega)]
   rw[this];rfl
  have hrr:r=(0,9):=by rw[←hr];exact cZ hi hb
  have hwf:gP 80 [zv x.fz1,I 0]=some (.bool false):=by
   show some (Value.bool (decide (0<=x.fz1) && decide (x.fz1<0)))=_
   have:(decide (0<=x.fz1) && decide (x.fz1<0))=false:=by simp
   rw[this]
  have hc:decide (((0:Nat):Int)<(N.nl:Int))=true:=by simp;omega
  refine t100 (rkn z zn 0 N (bk el (L.map aI.row).flatten) x (au _ _ _ _ _ _ _ _ _) ⟨fun _=>?_,nC1 hc⟩)
  (repeat' first|(with_reducible first|exact rfl|assumption|apply And.intro|exact(by omega:0<N.nl))|exact(rfl:gP _ _=_))
  all_goals first
   |(rw[hrr];exact bh trivial)
 ·have hc:decide (((0:Nat):Int)<(N.nl:Int))=false:=by simp;omega
  refine t100 (rkn z zn 0 N ⟨[],0,0,0,true,true,0,true⟩ ⟨0,0,0,0,true⟩ (au _ _ _ _ _ _ _ _ _) ⟨nC1 hc,fun _=>?_⟩)
  (repeat' first|(with_reducible first|exact rfl|assumption|apply And.intro))
  have e:L.length=0:=by omega
  rw[e] at hr
  refine c8 (bh ?_)
  rw[←hr]
  exact⟨rfl,rfl,rfl⟩
theorem KR(hz:aw z zn)(hg:fq prog z gP)(N:aq)(L:List aI)(hN:N.nl=L.length)(hL:bP z 0 (L.map aI.row))(hnet: ∀σ:bq,aD (ay σ []) (N.cH an N.l1)=some (N.cH an N.l1)):
 A1 z zn 47 [.agg ⟨N.ed an N.l1⟩] [] 0 0 (.agg ⟨[zv (if (bQ [] L).2=0 then 0 else 3),zv (bQ [] L).1,zv (bQ [] L).2]⟩) []:=by
 refine dg hg (fn:=f47) (by kernel_rfl) (by kernel_rfl) hz ⟨by decide,by decide⟩ rfl (fkn z zn N an (if (bQ [] L).2=0 then 0 else 3) (bQ [] L).1 (bQ [] L).2 _ ?_)
 by_cases h:1024<L.length
 ·have hr:bQ [] L=(0,5):=if_pos h
  have hc:decide ((N.nl:Int)>1024)=true:=by simp;omega
  rw[hr]
  refine⟨fun _=>?_,nC1 hc⟩
  (repeat' first|(with_reducible first|exact rfl|assumption|apply And.intro)|exact(rfl:gP _ _=_)|exact q1)
 ·have hr:bQ [] L=scan (fD [] L) L.length 0:=if_neg h
  have hc:decide ((N.nl:Int)>1024)=false:=by simp;omega
  have hK:=NF hz hg N L (by omega) hN hL hnet (bQ [] L) hr.symm
  refine⟨nC1 hc,fun _=>?_⟩
  (repeat' first|(with_reducible first|exact rfl|assumption|apply And.intro|exact q1)|exact hK|exact hnet _|intro hq)
  all_goals first|(rw[hq.1,hq.2.1,hq.2.2];exact q1)|trace_state
theorem KQ(hz:aw z zn)(hg:fq prog z gP)(N:aq)(hnet: ∀σ:bq,aD (ay σ []) (N.cH N.u0 an)=some (N.cH N.u0 an)):
 A1 z zn 47 [.agg ⟨N.ed N.u0 an⟩] [] 0 0 (.agg ⟨[I 0,I 0,I 0]⟩) []:=by
 have hL:aj prog (ah (ag f47) 0) 5 171 Gy [(0,N.cH N.u0 an),(1,du 0 0 0),(2, .map [] 0),(3,bt []),(4,bt [])] 5 z zn (Al.R (aaE z zn N).l):=by
  refine ax hD hg (α:=Nat) 5 171 5 (fun i=>i=0) (fun i=>Gy) (fun i=>[(0,N.cH N.u0 an),(1,du 0 0 0),(2, .map [] 0),(3,bt []),(4,bt [])]) (fun _=>z) (fun _=>zn) (fun i=>1) _ (fun i hI=>?_) 0 rfl
  refine t100 (rkz z zn N (au _ _ _ _ _ _ _ _ _) ?_)
  (repeat' first|(with_reducible first|exact rfl|assumption|apply And.intro))
  all_goals first|exact bh trivial|trace_state
 refine dg hg (fn:=f47) (by kernel_rfl) (by kernel_rfl) hz ⟨by decide,by decide⟩ rfl (fkz z zn N _ ?_)
 (repeat' first|(with_reducible first|exact rfl|assumption|apply And.intro|exact q1)|exact hL|exact hnet _|intro hq)
end
end Go.Proofs.Nw
namespace Go.Proofs.Nw
open Go Go.AV Tryz Go.jP
set_option maxRecDepth 100000
def cf(x y:ae):Bool:=decide (y.fz1=x.fz1) && (decide (y.aB=x.aB) && (y.sf==x.sf))
def fZ(n:Int)(l:List ae)(i:Nat)(x:ae):Int:=
 if x.fz1<0\/n<=x.fz1\/x.aB<0\/n<=x.aB\/x.fz1=x.aB then 9 else if x.aK<1\/14400<x.aK then 2 else if (l.take i).any (cf x)=true then 6 else 0
def cR(n:Int)(l:List ae)(i:Nat):Option Int:=match l[i]? with
 |some x=>if fZ n l i x=0 then none else some (fZ n l i x)
 |none=>none
def aW(n:Int)(l:List ae):Int × Int:=scan (cR n l) l.length 0
theorem qH: ∀(M:Nat)(l:List Nat),l.Nodup->(∀x∈l,x<M)->l.length<=M
 |0,l,_,h=>by
  cases l with
  |nil=>simp
  |cons a l=>have:=h a (by simp);omega
 |M+1,l,hn,h=>by
  have h1:=qH M (l.erase M) (hn.erase M) fun x hx=>by
   have:=h x (List.mem_of_mem_erase hx)
   have hne:x≠M:=fun e=>by subst e;exact hn.not_mem_erase hx
   omega
  by_cases hm:M∈l
  ·rw[List.length_erase_of_mem hm] at h1;omega
  ·rw[List.erase_of_not_mem hm] at h1;omega
def Ab(x:ae):Nat:=x.fz1.toNat*128+x.aB.toNat*2+(if x.sf=true then 1 else 0)
theorem Cl(n:Int)(hn:n<=64)(l:List ae): ∀k,k<=l.length->(∀j,j<k->cR n l j=none)->((l.take k).map Ab).Nodup/\ ∀y∈l.take k,0<=y.fz1/\y.fz1<64/\0<=y.aB/\y.aB<64
 |0,_,_=>by simp
 |k+1,hk,h=>by
  obtain⟨h1,h2⟩:=Cl n hn l k (by omega) fun j hj=>h j (by omega)
  obtain⟨x,hx⟩:=dm (l:=l) (i:=k) (by omega)
  have hb:=h k (by omega)
  unfold cR at hb
  rw[hx] at hb
  have he:fZ n l k x=0:=by simpa using hb
  unfold fZ at he
  split at he
  ·cases he
  rename_i c1
  split at he
  ·cases he
  split at he
  ·cases he
  rename_i c3
  have c3: ∀y∈l.take k,cf x y=false:=by simpa using c3
  have ht:l.take (k+1)=l.take k++[x]:=by rw[List.take_add_one,hx];rfl
  rw[ht]
  constructor
  ·rw[List.map_append,List.nodup_append]
   refine⟨h1,by simp,fun a ha b hb=>?_⟩
   obtain⟨y,hy,rfl⟩:=List.mem_map.1 ha
   have hb:b=Ab x:=by simpa using hb
   subst hb
   intro e
   have hs:=c3 y hy
   obtain⟨g1,g2,g3,g4⟩:=h2 y hy
   unfold Ab at e
   simp only[cf,Bool.and_eq_false_iff,decide_eq_false_iff_not,beq_eq_false_iff_ne] at hs
   have e1:y.fz1=x.fz1:=by(repeat' split at e)<;>omega
   have e2:y.aB=x.aB:=by(repeat' split at e)<;>omega
   have e3:y.sf=x.sf:=by
    cases hy1:y.sf<;>cases hx1:x.sf<;>rw[hy1,hx1] at e<;>first|rfl|(exfalso;simp only[if_true,if_false,Bool.false_eq_true] at e;omega)
   rcases hs with q|q|q
   ·exact q e1
   ·exact q e2
   ·exact q e3
  ·intro y hy
   rcases List.mem_append.1 hy with q|q
   ·exact h2 y q
   ·have:y=x:=by simpa using q
    subst this;omega
theorem EY{n:Int}(hn:n<=64){l:List ae}{k:Nat}(hk:k<=l.length)(h: ∀j,j<k->cR n l j=none):k<=8192:=by
 obtain⟨h1,h2⟩:=Cl n hn l k hk h
 have:=qH 8192 _ h1 fun c hc=>by
  obtain⟨y,hy,rfl⟩:=List.mem_map.1 hc
  obtain⟨g1,g2,g3,g4⟩:=h2 y hy
  unfold Ab
  split<;>omega
 simpa[List.length_take,Nat.min_eq_left hk] using this
abbrev gk(x:ae):Value:= .agg ⟨[zv x.fz1,zv x.aB, .bool x.sf]⟩
abbrev gj(x:ae):Value:= .agg ⟨[zv x.fz1,zv x.aB,zv 0, .bool x.sf]⟩
theorem aaQ(x:ae)(l:List ae):mh 236 (gk x) (l.map gk):=⟨fun k' hk'=>by
 obtain⟨y,_,rfl⟩:=List.mem_map.1 hk'
 refine⟨rfl,_,Ke _ _ _ _ _ _,?_⟩
 simp only[Bool.and_eq_true,decide_eq_true_eq,beq_iff_eq,Value.agg.injEq,Array.mk.injEq,List.cons.injEq,Value.int.injEq,Value.bool.injEq,true_and,and_true]⟩
theorem aaP(x:ae)(l:List ae):mh 125 (gj x) (l.map gj):=⟨fun k' hk'=>by
 obtain⟨y,_,rfl⟩:=List.mem_map.1 hk'
 refine⟨rfl,_,Kc _ _ _ _ _ _ _ _,?_⟩
 simp only[Bool.and_eq_true,decide_eq_true_eq,beq_iff_eq,Value.agg.injEq,Array.mk.injEq,List.cons.injEq,Value.int.injEq,Value.bool.injEq,true_and,and_true]⟩
theorem Bw(x:ae)(l:List ae):gk x∈l.map gk↔l.any (cf x)=true:=by
 rw[List.mem_map,List.any_eq_true]
 simp only[cf,Bool.and_eq_true,decide_eq_true_eq,beq_iff_eq,Value.agg.injEq,Array.mk.injEq,List.cons.injEq,Value.int.injEq,Value.bool.injEq,true_and,and_true]
theorem Bv(x:ae)(l:List ae):gj x∈l.map gj↔l.any (cf x)=true:=by
 rw[List.mem_map,List.any_eq_true]
 simp only[cf,Bool.and_eq_true,decide_eq_true_eq,beq_iff_eq,Value.agg.injEq,Array.mk.injEq,List.cons.injEq,Value.int.injEq,Value.bool.injEq,true_and,and_true]
theorem MY(l:List ae): ∀k,k∈l.map gk->aC k=true:=fun k hk=>by
 obtain⟨t,_,rfl⟩:=List.mem_map.1 hk
 rfl
theorem MX(l:List ae): ∀k,k∈l.map gj->aC k=true:=fun k hk=>by
 obtain⟨t,_,rfl⟩:=List.mem_map.1 hk
 rfl
end Go.Proofs.Nw
namespace Go.Proofs.Nw
open Go Go.AV Tryz Go.jP
set_option maxHeartbeats 8000000
set_option maxRecDepth 100000
section
variable{z:T aa}{zn:Nat}
theorem No(hz:aw z zn)(hg:fq prog z gP)(n:Int)(hn:n<=64)(l:List ae)(cp:Nat)(hL:bP z 4 (l.map ae.row))(r:Int × Int)(hr:scan (cR n l) l.length 0=r):
 aj prog (ah (ag f124) 0) 1 62 (BA n l.length cp 0) [(0,bt [])] 1 z zn (Al.R (Rg z zn l.length cp n r.1 r.2).l):=by
 refine ax hD hg (α:=Nat) 1 62 1 (fun i=>i<=l.length/\scan (cR n l) (l.length - i) i=r/\ ∀j,j<i->cR n l j=none) (fun i=>BA n l.length cp i) (fun i=>[(0,bt ((l.take i).map gk))]) (fun _=>z) (fun _=>zn) (fun i=>l.length - i) _ (fun i hI=>?_) 0 ⟨Nat.zero_le _,hr,fun j hj=>by omega⟩
 obtain⟨h1,h2,h3⟩:=hI
 have hle:=EY hn h1 h3
 by_cases hi:i<l.length
 ·obtain⟨x,hx⟩:=dm hi
  obtain⟨el,hel⟩:=hL.az (i:=i) (by simp;omega)
  have hlen:=aO (row:=ae.row) (sz:=4) l fun _=>rfl
  have hrow:ai prog (bk el (l.map ae.row).flatten) 125 (0+i*4)=some (.agg ⟨x.row⟩):=bG (r:=x.row) (sz:=4) underlying125 rfl rfl hlen (by rw[List.getElem?_map,hx];rfl)
  have hk:=aaQ x (l.take i)
  have hkT:x.sf=true->mh 236 (.agg ⟨[zv x.fz1,zv x.aB,T1]⟩) ((l.take i).map gk):=fun h=>by unfold gk at hk;rw[h] at hk;exact hk
  have hkF:x.sf=false->mh 236 (.agg ⟨[zv x.fz1,zv x.aB,F0]⟩) ((l.take i).map gk):=fun h=>by unfold gk at hk;rw[h] at hk;exact hk
  have hmT:x.sf=true->((.agg ⟨[zv x.fz1,zv x.aB,T1]⟩:Value)∈((l.take i).map gk)↔(l.take i).any (cf x)=true):=fun h=>by have:=Bw x (l.take i);unfold gk at this;rw[h] at this;exact this
  have hmF:x.sf=false->((.agg ⟨[zv x.fz1,zv x.aB,F0]⟩:Value)∈((l.take i).map gk)↔(l.take i).any (cf x)=true):=fun h=>by have:=Bw x (l.take i);unfold gk at this;rw[h] at this;exact this
  have hps:=MY (l.take i)
  have hlk:fZ n l i x=if x.fz1<0\/n<=x.fz1\/x.aB<0\/n<=x.aB\/x.fz1=x.aB then 9 else if x.aK<1\/14400<x.aK then 2 else if (l.take i).any (cf x)=true then 6 else 0:=rfl
  have ret: ∀e:Int,e=fZ n l i x->e≠0->Al.R (Rg z zn l.length cp n r.1 r.2).l ⟨.ret,[(4,iv i),(5,zv e)],[],1,z,zn⟩:=fun e h h0=>by
   have hb:cR n l i=some e:=by unfold cR;rw[hx];simp only;rw[←h,if_neg h0]
   have:r=((i:Int),e):=by rw[←h2,cZ hi hb]
   rw[this]
   exact bh trivial
  have htk:l.take (i+1)=l.take i++[x]:=by rw[List.take_add_one,hx];rfl
  have kF:fZ n l i x=0->au (fun i=>i<=l.length/\scan (cR n l) (l.length - i) i=r/\ ∀j,j<i->cR n l j=none) (fun i=>BA n l.length cp i) (fun i=>[(0,bt ((l.take i).map gk))]) 1 (fun _=>z) (fun _=>zn) (fun i=>l.length - i) (Al.R (Rg z zn l.length cp n r.1 r.2).l) i .normal (BA n l.length cp (i+1)) [(0,bt ((l.take i).map gk++[gk x]))] 1 z zn:=fun h0=>by
   have hb:cR n l i=none:=by unfold cR;rw[hx];simp only;rw[if_pos h0]
   refine⟨i+1,rfl,?_,rfl,rfl,rfl,⟨hi,by rw[←cI hi hb];exact h2,fun j hj=>?_⟩,by show l.length - (i+1)<l.length - i;omega⟩
   ·show _=[(0,bt ((l.take (i+1)).map gk))]
    rw[htk,List.map_append];rfl
   ·by_cases e:j=i
    ·subst e;exact hb
    ·exact h3 j (by omega)
  have hc:decide ((i:Int)<(l.length:Int))=true:=by simp;omega
  refine t100 (rso z zn i l.length cp n (bk el (l.map ae.row).flatten) x ((l.take i).map gk) (au _ _ _ _ _ _ _ _ _) ⟨fun _=>?_,nC1 hc⟩)
  (repeat' first|(with_reducible first|exact rfl|assumption|apply And.intro|exact(hkT (by assumption)).no|exact(hkF (by assumption)).no|exact(hkT (by assumption)).ex|exact(hkF (by assumption)).ex|exact iS _ hps rfl|exact bH (by omega))|intro hq)
  all_goals clear hrow hel hz hL hlen hps
  all_goals try (have hm1:=(hmT (by assumption)).1 ((hkT (by assumption)).Fu (by with_reducible assumption)))
  all_goals try (have hm1:=(hmF (by assumption)).1 ((hkF (by assumption)).Fu (by with_reducible assumption)))
  all_goals try (have hm1:=fun h=>(hkT (by assumption)).LU (by with_reducible assumption) ((hmT (by assumption)).2 h))
  all_goals try (have hm1:=fun h=>(hkF (by assumption)).LU (by with_reducible assumption) ((hmF (by assumption)).2 h))
  all_goals clear hk hkT hkF hmT hmF
  all_goals first
   |(refine ret _ ?_ (by decide)
     clear ret kF h2 h3 hr
     rw[hlk]
     clear hlk
     (repeat' split)<;>first|rfl|(exfalso;simp only[bS1,bS2,bS3] at*;omega)|(exfalso;simp_all;done))
   |(have h0:fZ n l i x=0:=by
      clear ret kF h2 h3 hr
      rw[hlk]
      clear hlk
      (repeat' split)<;>first|rfl|(exfalso;simp only[bS1,bS2,bS3] at*;omega)|(exfalso;simp_all;done)
     have q:=kF h0
     unfold gk at q
     rw[show x.sf=_ by assumption] at q
     rw[fT]
     exact q)
 ·have hc:decide ((i:Int)<(l.length:Int))=false:=by simp;omega
  refine t100 (rso z zn i l.length cp n ⟨[],0,0,0,true,true,0,true⟩ ⟨0,0,0,true⟩ ((l.take i).map gk) (au _ _ _ _ _ _ _ _ _) ⟨nC1 hc,fun _=>?_⟩)
  (repeat' first|(with_reducible first|exact rfl|assumption|apply And.intro))
  rw[dN (by omega)] at h2
  refine c8 (bh ?_)
  rw[←h2]
  exact⟨rfl,rfl⟩
theorem On(hz:aw z zn)(hg:fq prog z gP)(n:Int)(hn:n<=64)(l:List ae)(cp:Nat)(hL:bP z 4 (l.map ae.row)):
 A1 z zn 124 [tb 4 l.length cp,zv n] [] 0 0 (.tuple ⟨[zv (aW n l).1,zv (aW n l).2]⟩) []:=by
 have hK:=No hz hg n hn l cp hL (aW n l) rfl
 refine dg hg (fn:=f124) (by kernel_rfl) (by kernel_rfl) hz ⟨by decide,by decide⟩ rfl (fso z zn l.length cp n (aW n l).1 (aW n l).2 _ ?_)
 (repeat' first|(with_reducible first|exact rfl|assumption|apply And.intro|exact q1)|exact hK|intro hq)
 all_goals first|(rw[hq.1,hq.2];exact q1)|trace_state
theorem KB(hz:aw z zn)(hg:fq prog z gP)(n:Int):
 A1 z zn 124 [an,zv n] [] 0 0 (.tuple ⟨[zv 0,zv 0]⟩) []:=by
 have hL:aj prog (ah (ag f124) 0) 1 62 (xT n) [(0,bt [])] 1 z zn (Al.R (U6 z zn n).l):=by
  refine ax hD hg (α:=Nat) 1 62 1 (fun i=>i=0) (fun i=>xT n) (fun i=>[(0,bt [])]) (fun _=>z) (fun _=>zn) (fun i=>1) _ (fun i hI=>?_) 0 rfl
  refine t100 (Z5 z zn n (au _ _ _ _ _ _ _ _ _) ?_)
  (repeat' first|(with_reducible first|exact rfl|assumption|apply And.intro))
  all_goals first|exact bh trivial|trace_state
 refine dg hg (fn:=f124) (by kernel_rfl) (by kernel_rfl) hz ⟨by decide,by decide⟩ rfl (aa7 z zn n _ ?_)
 (repeat' first|(with_reducible first|exact rfl|assumption|apply And.intro)|exact hL|exact q1|intro hq)
end
section
variable{z:T aa}{zn:Nat}
theorem NJ(hz:aw z zn)(hg:fq prog z gP)(N:aq)(hn:N.ns<=64)(l:List ae)(hN:N.np=l.length)(hnet: ∀σ:bq,aD (ay σ []) (N.cd N.p1)=some (N.cd N.p1))(hL:bP z 4 (l.map ae.row))(r:Int × Int)(hr:scan (cR N.ns l) l.length 0=r):
 aj prog (ah (ag f49) 0) 3 78 (BJ N.np N.pc 0) [(0,N.cd N.p1),(1,du 0 0 0),(2,bt [])] 3 z zn (Al.R (Rq z zn N (if r.2=0 then 0 else 4) r.1 r.2).l):=by
 refine ax hD hg (α:=Nat) 3 78 3 (fun i=>i<=l.length/\scan (cR N.ns l) (l.length - i) i=r/\ ∀j,j<i->cR N.ns l j=none) (fun i=>BJ N.np N.pc i) (fun i=>[(0,N.cd N.p1),(1,du 0 0 0),(2,bt ((l.take i).map gj))]) (fun _=>z) (fun _=>zn) (fun i=>l.length - i) _ (fun i hI=>?_) 0 ⟨Nat.zero_le _,hr,fun j hj=>by omega⟩
 obtain⟨h1,h2,h3⟩:=hI
 have hle:=EY (by omega:(N.ns:Int)<=64) h1 h3
 by_cases hi:i<l.length
 ·obtain⟨x,hx⟩:=dm hi
  obtain⟨el,hel⟩:=hL.az (i:=i) (by simp;omega)
  have hlen:=aO (row:=ae.row) (sz:=4) l fun _=>rfl
  have hrow:ai prog (bk el (l.map ae.row).flatten) 125 (0+i*4)=some (.agg ⟨x.row⟩):=bG (r:=x.row) (sz:=4) underlying125 rfl rfl hlen (by rw[List.getElem?_map,hx];rfl)
  have hk:=aaP x (l.take i)
  have hkT:x.sf=true->mh 125 (.agg ⟨[zv x.fz1,zv x.aB,I 0,T1]⟩) ((l.take i).map gj):=fun h=>by unfold gj at hk;rw[h] at hk;exact hk
  have hkF:x.sf=false->mh 125 (.agg ⟨[zv x.fz1,zv x.aB,I 0,F0]⟩) ((l.take i).map gj):=fun h=>by unfold gj at hk;rw[h] at hk;exact hk
  have hmT:x.sf=true->((.agg ⟨[zv x.fz1,zv x.aB,I 0,T1]⟩:Value)∈((l.take i).map gj)↔(l.take i).any (cf x)=true):=fun h=>by have:=Bv x (l.take i);unfold gj at this;rw[h] at this;exact this
  have hmF:x.sf=false->((.agg ⟨[zv x.fz1,zv x.aB,I 0,F0]⟩:Value)∈((l.take i).map gj)↔(l.take i).any (cf x)=true):=fun h=>by have:=Bv x (l.take i);unfold gj at this;rw[h] at this;exact this
  have hps:=MX (l.take i)
  have hlk:fZ N.ns l i x=if x.fz1<0\/(N.ns:Int)<=x.fz1\/x.aB<0\/(N.ns:Int)<=x.aB\/x.fz1=x.aB then 9 else if x.aK<1\/14400<x.aK then 2 else if (l.take i).any (cf x)=true then 6 else 0:=rfl
  have ret: ∀e:Int,e=fZ N.ns l i x->e≠0->Al.R (Rq z zn N (if r.2=0 then 0 else 4) r.1 r.2).l ⟨.ret,[(2,ip 1)],[(1,du 4 i e)],3,z,zn⟩:=fun e h h0=>by
   have hb:cR N.ns l i=some e:=by unfold cR;rw[hx];simp only;rw[←h,if_neg h0]
   have:r=((i:Int),e):=by rw[←h2,cZ hi hb]
   rw[this]
   simp only[if_neg h0]
   exact bh (by decide)
  have htk:l.take (i+1)=l.take i++[x]:=by rw[List.take_add_one,hx];rfl
  have kF:fZ N.ns l i x=0->au (fun i=>i<=l.length/\scan (cR N.ns l) (l.length - i) i=r/\ ∀j,j<i->cR N.ns l j=none) (fun i=>BJ N.np N.pc i) (fun i=>[(0,N.cd N.p1),(1,du 0 0 0),(2,bt ((l.take i).map gj))]) 3 (fun _=>z) (fun _=>zn) (fun i=>l.length - i) (Al.R (Rq z zn N (if r.2=0 then 0 else 4) r.1 r.2).l) i .normal (BJ N.np N.pc (i+1)) [(0,N.cd N.p1),(1,du 0 0 0),(2,bt ((l.take i).map gj++[gj x]))] 3 z zn:=fun h0=>by
   have hb:cR N.ns l i=none:=by unfold cR;rw[hx];simp only;rw[if_pos h0]
   refine⟨i+1,rfl,?_,rfl,rfl,rfl,⟨hi,by rw[←cI hi hb];exact h2,fun j hj=>?_⟩,by show l.length - (i+1)<l.length - i;omega⟩
   ·show _=[(0,N.cd N.p1),(1,du 0 0 0),(2,bt ((l.take (i+1)).map gj))]
    rw[htk,List.map_append];rfl
   ·by_cases e:j=i
    ·subst e;exact hb
    ·exact h3 j (by omega)
  have hc:decide ((i:Int)<(N.np:Int))=true:=by simp;omega
  refine t100 (rcp z zn i N (bk el (l.map ae.row).flatten) x ((l.take i).map gj) (au _ _ _ _ _ _ _ _ _) ⟨fun _=>?_,nC1 hc⟩)
  (repeat' first|(with_reducible first|exact rfl|assumption|apply And.intro|exact(by omega:i<N.np)|exact(hkT (by assumption)).no|exact(hkF (by assumption)).no|exact(hkT (by assumption)).ex|exact(hkF (by assumption)).ex|exact iS _ hps rfl|exact bH (by omega))|exact(rfl:gP _ _=_)|exact hnet _|intro hq)
  all_goals clear hrow hel hz hL hlen hps
  all_goals try (have hm1:=(hmT (by assumption)).1 ((hkT (by assumption)).Fu (by with_reducible assumption)))
  all_goals try (have hm1:=(hmF (by assumption)).1 ((hkF (by assumption)).Fu (by with_reducible assumption)))
  all_goals try (have hm1:=fun h=>(hkT (by assumption)).LU (by with_reducible assumption) ((hmT (by assumption)).2 h))
  all_goals try (have hm1:=fun h=>(hkF (by assumption)).LU (by with_reducible assumption) ((hmF (by assumption)).2 h))
  all_goals clear hk hkT hkF hmT hmF
  all_goals first
   |(refine ret _ ?_ (by decide)
     clear ret kF h2 h3 hr
     rw[hlk]
     clear hlk
     (repeat' split)<;>first|rfl|(exfalso;simp only[bS1,bS2,bS3] at*;omega)|(exfalso;simp_all;done))
   |(have h0:fZ N.ns l i x=0:=by
      clear ret kF h2 h3 hr
      rw[hlk]
      clear hlk
      (repeat' split)<;>first|rfl|(exfalso;simp only[bS1,bS2,bS3] at*;omega)|(exfalso;simp_all;done)
     have q:=kF h0
     unfold gj at q
     rw[show x.sf=_ by assumption] at q
     rw[fT]
     exact q)
 ·have hc:decide ((i:Int)<(N.np:Int))=false:=by simp;omega
  refine t100 (rcp z zn i N ⟨[],0,0,0,true,true,0,true⟩ ⟨0,0,0,true⟩ ((l.take i).map gj) (au _ _ _ _ _ _ _ _ _) ⟨nC1 hc,fun _=>?_⟩)
  (repeat' first|(with_reducible first|exact rfl|assumption|apply And.intro)|exact hnet _)
  rw[dN (by omega)] at h2
  refine c8 (bh ?_)
  rw[←h2]
  rfl
theorem Oz(hz:aw z zn)(hg:fq prog z gP)(N:aq)(hn:N.ns<=64)(l:List ae)(hN:N.np=l.length)(hnet: ∀σ:bq,aD (ay σ []) (N.cd N.p1)=some (N.cd N.p1))(hL:bP z 4 (l.map ae.row))(cl:Bool)(hcl:(aW N.ns l).2=0->A1 z zn 83 [N.p1,iv N.ns] [] 0 0 (.bool cl) [])(r:Int × Int × Int)
 (hr:r=if (aW N.ns l).2≠0 then (4,aW N.ns l) else if cl=true then (0,0,0) else (4,0,18)):
 A1 z zn 49 [.agg ⟨N.iJ N.p1⟩] [] 0 0 (.agg ⟨[zv r.1,zv r.2.1,zv r.2.2]⟩) []:=by
 have hcl':(if (aW N.ns l).2=0 then (0:Int) else 4)=0->A1 z zn 83 [N.p1,iv N.ns] [] 0 0 (.bool cl) []:=fun h=>hcl (by
  split at h
  ·assumption
  ·cases h)
 have hK:=NJ hz hg N hn l hN hnet hL (aW N.ns l) rfl
 refine dg hg (fn:=f49) (by kernel_rfl) (by kernel_rfl) hz ⟨by decide,by decide⟩ rfl (fcp z zn N (if (aW N.ns l).2=0 then 0 else 4) (aW N.ns l).1 (aW N.ns l).2 cl _ ?_)
 (repeat' first|(with_reducible first|exact rfl|assumption|apply And.intro|exact hcl' ‹_›)|exact(rfl:gP _ _=_)|exact hK|exact hnet _|intro hq)
 all_goals first
  |(refine qh ?_
    rw[hr]
    by_cases h:(aW N.ns l).2=0<;>simp_all;done)
theorem KM(hz:aw z zn)(hg:fq prog z gP)(N:aq)(hnet: ∀σ:bq,aD (ay σ []) (N.cd an)=some (N.cd an))(cl:Bool)(hcl:A1 z zn 83 [an,iv N.ns] [] 0 0 (.bool cl) [])(r:Int × Int × Int)
 (hr:r=if cl=true then (0,0,0) else (4,0,18)):
 A1 z zn 49 [.agg ⟨N.iJ an⟩] [] 0 0 (.agg ⟨[zv r.1,zv r.2.1,zv r.2.2]⟩) []:=by
 have hL:aj prog (ah (ag f49) 0) 3 78 yb [(0,N.cd an),(1,du 0 0 0),(2,bt [])] 3 z zn (Al.R (Vx z zn N).l):=by
  refine ax hD hg (α:=Nat) 3 78 3 (fun i=>i=0) (fun i=>yb) (fun i=>[(0,N.cd an),(1,du 0 0 0),(2,bt [])]) (fun _=>z) (fun _=>zn) (fun i=>1) _ (fun i hI=>?_) 0 rfl
  refine t100 (aag z zn N (au _ _ _ _ _ _ _ _ _) ?_)
  (repeat' first|(with_reducible first|exact rfl|assumption|apply And.intro)|exact hnet _)
  all_goals first|exact bh trivial|trace_state
 refine dg hg (fn:=f49) (by kernel_rfl) (by kernel_rfl) hz ⟨by decide,by decide⟩ rfl (abl z zn N cl _ ?_)
 (repeat' first|(with_reducible first|exact rfl|assumption|apply And.intro)|exact(rfl:gP _ _=_)|exact hL|exact hnet _|intro hq)
 all_goals first
  |(refine qh ?_
    rw[hr]
    simp_all;done)
end
end Go.Proofs.Nw
namespace Go.Proofs.Nw
open Go Go.AV Tryz
set_option maxRecDepth 1000000
noncomputable section
abbrev WX(n cp:Nat)(d w c:Int):Prop:=Rs (BQ [SL 1790 n cp,ZV d,ZV w,ZV c] 4 1 29)
abbrev Mb(i k:Nat):List (Nat × Value):=[qe,(4,IV i),(5,Yp),(6,IV (k+1))]
abbrev Zc(n cp:Nat)(d w c:Int)(x:bO):List (Nat × aa):=[(0,BQ [SL 1790 n cp,ZV d,ZV w,ZV c] 4 1 29),(1,BQ (T8 x) 6 1 99)]
theorem UL(z:T aa)(zn i k n cp:Nat)(kb:aV)(x y:bO)(d w c:Int)(Q:QL)(hyp:Br (decide ((↑k:Int)<(↑i:Int))) (cG k/\k<n/\Rf 1790/\z.get 5=rM kb/\ai prog kb 9 (0+k*6+0)=some (Hu y)/\Br (y.id.toList==x.id.toList) (E6 88 z zn (R2 (IV i) (I 6) (Q af.ret (uF i) [] 2 z zn))) (ZV (IntKind.i64.wrap ((↑k:Int)+1))=IV (k+1)/\E6 88 z zn (R4 Y3 (IV i) Yp (IV (k+1)) (WX n cp d w c/\Rs (BQ (T8 x) 6 1 99)/\Q aN (Mb i k) (Zc n cp d w c x) 2 z zn)))) (E6 88 z zn (R3 Y3 (IV i) Yp (WX n cp d w c/\Rs (BQ (T8 x) 6 1 99)/\Q iy [qe,(4,IV i),(5,Yp)] (Zc n cp d w c x) 2 z zn)))):RdT prog gP z (ah Ul 0) 88 (xY i k) z [(0,xl (tb 5 n cp) d w c),(1,MW x)] 2 zn 2 Q:=K1t hyp ((tA 2 (tO (bS k) (tO (An.ld 5 kb (Hu y)) (tA 1 ((tA 1 (tE [] [] (uF i) [] 2 z zn)).fork (tA 1 (tO (dI k) (tE dv [] (Mb i k) (Zc n cp d w c x) 2 z zn)))))))).fork (tA 1 (tE dv [] [qe,(4,IV i),(5,Yp)] (Zc n cp d w c x) 2 z zn)))
noncomputable abbrev Zb(i:Nat)(z:T aa)(zn:Nat):aA:=aA.mk af.ret [(2,iv i),(3,I 6)] [] 2 z zn
theorem rrf(z:T aa)(zn i n cp:Nat)(kb:aV)(x:bO)(b:Bool)(d w c:Int)(Q:QL)(hyp:Br (decide ((↑i:Int)<(↑n:Int))) (cG i/\i<n/\Rf 1790/\z.get 5=rM kb/\ai prog kb 99 (0+i*6)=some (AG (T8 x))/\Rf z/\gP 118 [Hu x]=some (Value.bool (bW x.id))/\Br (!bW x.id) (E6 88 z zn (R2 (IV i) (I 12) (Q af.ret (H9 i) [] 1 z zn))) (rU/\aj prog (ah Ul 0) 2 88 (xY i 0) [(0,xl (tb 5 n cp) d w c),(1,MW x)] 2 z zn (alt (b=true) (Zb i z zn) (alt (b=false) (aA.mk iy (Jl i) [(0,xl (tb 5 n cp) d w c),(1,MW x)] 2 z zn) Al.nil)).R/\E6 88 z zn (R4 Y3 (IV i) Yp YM (WX n cp d w c/\Rs (BQ (T8 x) 6 1 99)/\(∀(x:Unit),b=true->E6 88 z zn (R2 (IV i) (I 6) (Q af.ret (uF i) [] 1 z zn)))/\ ∀(x_1:Unit),b=false->Rf z/\gP 119 [ZV x.cF,YM,I 1000000]=some (Zo x)/\Br (!(decide (0<=x.cF) && decide (x.cF<=1000000))) ((!(decide (0<=x.cF) && decide (x.cF<=1000000)))=true/\(!(decide (0<=x.cF) && decide (x.cF<=1000000)))=true/\(!(decide (0<=x.cF) && decide (x.cF<=1000000)))=true/\(!(decide (0<=x.cF) && decide (x.cF<=1000000)))=true/\E6 88 z zn (R2 (IV i) cM (Q af.ret (rS i) [] 1 z zn))) ((!(decide (0<=x.cF) && decide (x.cF<=1000000)))=false/\(!(decide (0<=x.cF) && decide (x.cF<=1000000)))=false/\Rf z/\gP 119 [ZV x.ba,iq,I 8]=some (Zn x)/\(!(decide (0<=x.cF) && decide (x.cF<=1000000)))=false/\(!(decide (0<=x.cF) && decide (x.cF<=1000000)))=false/\Br (!(decide (1<=x.ba) && decide (x.ba<=8))) ((!(decide (1<=x.ba) && decide (x.ba<=8)))=true/\(!(decide (1<=x.ba) && decide (x.ba<=8)))=true/\(!(decide (1<=x.ba) && decide (x.ba<=8)))=true/\(!(decide (1<=x.ba) && decide (x.ba<=8)))=true/\E6 88 z zn (R2 (IV i) cM (Q af.ret (rS i) [] 1 z zn))) ((!(decide (1<=x.ba) && decide (x.ba<=8)))=false/\(!(decide (1<=x.ba) && decide (x.ba<=8)))=false/\Rf z/\gP 119 [ZV x.cD,iq,I 16]=some (Zm x)/\(!(decide (1<=x.ba) && decide (x.ba<=8)))=false/\(!(decide (1<=x.ba) && decide (x.ba<=8)))=false/\Br (!(decide (1<=x.cD) && decide (x.cD<=16))) ((!(decide (1<=x.cD) && decide (x.cD<=16)))=true/\(!(decide (1<=x.cD) && decide (x.cD<=16)))=true/\(!(decide (1<=x.cD) && decide (x.cD<=16)))=true/\(!(decide (1<=x.cD) && decide (x.cD<=16)))=true/\E6 88 z zn (R2 (IV i) cM (Q af.ret (rS i) [] 1 z zn))) ((!(decide (1<=x.cD) && decide (x.cD<=16)))=false/\(!(decide (1<=x.cD) && decide (x.cD<=16)))=false/\Rf z/\gP 119 [ZV x.aK,YM,I 86400]=some (Zl x)/\(!(decide (1<=x.cD) && decide (x.cD<=16)))=false/\(!(decide (1<=x.cD) && decide (x.cD<=16)))=false/\Br (!(decide (0<=x.aK) && decide (x.aK<=86400))) ((!(decide (0<=x.aK) && decide (x.aK<=86400)))=true/\(!(decide (0<=x.aK) && decide (x.aK<=86400)))=true/\(!(decide (0<=x.aK) && decide (x.aK<=86400)))=true/\(!(decide (0<=x.aK) && decide (x.aK<=86400)))=true/\E6 88 z zn (R2 (IV i) cM (Q af.ret (rS i) [] 1 z zn))) ((!(decide (0<=x.aK) && decide (x.aK<=86400)))=false/\(!(decide (0<=x.aK) && decide (x.aK<=86400)))=false/\Rf z/\gP 119
 [ZV x.bL,iq,I 255]=some (Zk x)/\(!(decide (0<=x.aK) && decide (x.aK<=86400)))=false/\(!(decide (0<=x.aK) && decide (x.aK<=86400)))=false/\Br (!(decide (1<=x.bL) && decide (x.bL<=255))) (E6 88 z zn (R2 (IV i) cM (Q af.ret (rS i) [] 1 z zn))) (ZV (IntKind.i64.wrap ((↑i:Int)+1))=IV (i+1)/\E6 88 z zn (R2 Y3 (IV (i+1)) (WX n cp d w c/\Q aN [qe,(4,IV (i+1))] [(0,BQ [SL 1790 n cp,ZV d,ZV w,ZV c] 4 1 29)] 1 z zn))))))))))) (E6 88 z zn (Q YO [] [] 1 z zn))):RdT prog gP z Ul 88 (tM i) z [(0,xl (tb 5 n cp) d w c)] 1 zn 1 Q:=K1t hyp (tA 1 ((tA 2 (tO (bS i) (tO (An.ld 5 kb (AG x.row)) (tA 2 (tO (An.cl (Value.bool (bW x.id))) ((tE [] [] (H9 i) [] 1 z zn).fork (Tr.lp 2 88 dv [] (xY i 0) [(0,xl (tb 5 n cp) d w c),(1,MW x)] 2 z zn (Al.cons Unit (YR b) (fun(x:Unit)=>Zb i z zn) (fun(x:Unit)=>tE [] [] (uF i) [] 1 z zn) (Al.cons Unit (YS b) (fun(x_1:Unit)=>aA.mk iy (Jl i) [(0,xl (tb 5 n cp) d w c),(1,MW x)] 2 z zn) (fun(x_1:Unit)=>tA 1 (tO (An.cl (Zo x)) ((tO bI (tO bI (tO bI (tO bI (tA 16 (LC i z zn)))))).fork (tO bc (tA 1 (tO bc (tO (An.cl (Zn x)) (tO bc (tO bc ((tO bI (tO bI (tO bI (tO bI (tA 11 (LC i z zn)))))).fork (tO bc (tA 1 (tO bc (tO (An.cl (Zm x)) (tO bc (tO bc ((tO bI (tO bI (tO bI (tO bI (tA 6 (LC i z zn)))))).fork (tO bc (tA 1 (tO bc (tO (An.cl (Zl x)) (tO bc (tO bc ((tO bI (tO bI (tO bI (tO bI (tA 1 (LC i z zn)))))).fork (tO bc (tA 1 (tO bc (tO (An.cl (Zk x)) (tO bc (tO bc ((LC i z zn).fork (tO (dI i) (tE YC [] [qe,(4,IV (i+1))] [(0,BQ [SL 1790 n cp,ZV d,ZV w,ZV c] 4 1 29)] 1 z zn))))))))))))))))))))))))))))))))) Al.nil))))))))).fork (W1 z zn)))
theorem frf(z:T aa)(zn n cp:Nat)(r1 r2 d w c:Int)(Q:QF)(hyp:Rf z/\ZE d/\Br (!(decide (0<=d) && decide (d<=1000000))) ((!(decide (0<=d) && decide (d<=1000000)))=true/\(!(decide (0<=d) && decide (d<=1000000)))=true/\(!(decide (0<=d) && decide (d<=1000000)))=true/\(!(decide (0<=d) && decide (d<=1000000)))=true/\E6 88 z zn (Ih/\Q F3 [] 0 z zn)) ((!(decide (0<=d) && decide (d<=1000000)))=false/\(!(decide (0<=d) && decide (d<=1000000)))=false/\Rf z/\gP 119 [ZV w,YM,I 86400]=some (Qi w)/\(!(decide (0<=d) && decide (d<=1000000)))=false/\(!(decide (0<=d) && decide (d<=1000000)))=false/\Br (!(decide (0<=w) && decide (w<=86400))) ((!(decide (0<=w) && decide (w<=86400)))=true/\(!(decide (0<=w) && decide (w<=86400)))=true/\(!(decide (0<=w) && decide (w<=86400)))=true/\(!(decide (0<=w) && decide (w<=86400)))=true/\E6 88 z zn (Ih/\Q F3 [] 0 z zn)) ((!(decide (0<=w) && decide (w<=86400)))=false/\(!(decide (0<=w) && decide (w<=86400)))=false/\Rf z/\ZE c/\(!(decide (0<=w) && decide (w<=86400)))=false/\(!(decide (0<=w) && decide (w<=86400)))=false/\Br (!(decide (0<=c) && decide (c<=1000000))) (E6 88 z zn (Ih/\Q F3 [] 0 z zn)) (Br (decide ((↑n:Int)>16)) (E6 88 z zn (Mc/\Q CZ [] 0 z zn)) (YP/\aj prog Ul 1 88 (tM 0) [(0,xl (tb 5 n cp) d w c)] 1 z zn (jA z zn 1 2 3 0 r1 r2).R/\E6 88 z zn (R2 Y3 YM (WX n cp d w c/\(∀(x:Unit),True->E6 88 z zn (CL r1 r2/\Q (Ii r1 r2) [] 0 z zn))/\ ∀(x:Unit),r1=0/\r2=0->E6 88 z zn (wO/\Q wZ [] 0 z zn)))))))):FnT prog gP z f76 [AG [tb 5 n cp,zv d,zv w,zv c]] z [] 0 zn Q:=K1t hyp (tA 1 (tO (Qh d) ((ZC z zn).fork (tO bc (tA 1 (tO bc (tO (An.cl (Qi w)) (tO bc (tO bc ((ZB z zn).fork (tO bc (tA 1 (tO bc (tO (Qh c) (tO bc (tO bc ((Uk z zn).fork (tA 1 ((T7 z zn).fork (tA 1 (Tr.lp 1 88 YC [] (tM 0) [(0,xl (tb 5 n cp) d w c)] 1 z zn (YE1 r1 r2 z zn))))))))))))))))))))))
end
end Go.Proofs.Nw
