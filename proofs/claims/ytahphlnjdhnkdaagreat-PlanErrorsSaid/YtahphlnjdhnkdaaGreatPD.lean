/-
  A part of the proof: lemmas of my own.
-/
import Derived.Test.YtahphlnjdhnkdaaGreatPC
import Derived.KernelRfl
import Derived.WalkKit
import Derived.Below
import Derived.Lib.Hide
import Derived.LoopTactic
import Derived.Laws.IdiomStrings
import Derived.Laws.StructEq
set_option linter.unusedVariables false
set_option linter.unusedSimpArgs false
namespace Go.Proofs.Nw
open Go Go.AV
set_option maxRecDepth 1000000
noncomputable section
abbrev Sk(kk n i:Nat):List (Nat × Value):=[(0,eo kk n),(1,YM),(2,IV n),(3,gG),(8,IV i)]
noncomputable abbrev O6:Code:=ah (ag Tryz.f162) 0
theorem Zk(z:T aa)(zn kk n i j:Nat)(kb:bg)(x y:ae)(Q:QL)(hyp:Br (decide ((↑(j+1):Int)>0)) (Rf (↑(j+1):Int)/\j+1<n/\iK kk/\iJ z kk kb/\aB Tryz.prog kb 141 (0+(j+1)*4)=some (K9 y)/\ZV (IntKind.i64.wrap ((↑(j+1):Int) - 1))=ZV ((↑(j+1):Int) - 1)/\(↑(j+1):Int) - 1=(↑j:Int)/\j<n/\iK kk/\iJ z kk kb/\Dh kb j x/\Rf z/\VB y x/\Value.bool (decide (ql y.from_ y.an y.aH x.from_ x.an x.aH<0))=F0/\E6 53 z zn (R5 (eo kk n) YM (IV n) gG (IV i) (Q Y8 (Sk kk n i) [] 0 z zn))) (E6 53 z zn (R5 (eo kk n) YM (IV n) gG (IV i) (Q Y8 (Sk kk n i) [] 0 z zn)))):RdT Tryz.prog gS z (ah O6 0) 53 (DV (tb kk n n) n i (j+1)) z [] 0 zn 0 Q:=⟨(tA 4 (tO (An.idx (j+1)) (tA 1 (tO (An.ld kk kb (AG y.row)) (tA 3 (tO (An.val (ZV ((↑(j+1):Int) - 1))) (tA 1 (tO (Yj j) (tA 1 (tO (An.ld kk kb (AG x.row)) (tA 1 (tO (VA y x) (tA 1 (tO Dp (tA 2 (tE [] [] (Sk kk n i) [] 0 z zn)))))))))))))))).fork (tA 14 (tE [] [] (Sk kk n i) [] 0 z zn)),Eq.mp (by kernel_rfl) hyp⟩
theorem Zl(z:T aa)(zn kk n i:Nat)(Q:QL)(hyp:Br (decide ((↑i:Int)<(↑n:Int))) (qQ/\ai Tryz.prog (ah O6 0) 0 53 (DV (tb kk n n) n i i) [] 0 z zn (alt True (aw.mk Y8 (o8 (tb kk n n) n i) [] 0 z zn) Al.nil).R/\E6 53 z zn (R6 (eo kk n) YM (IV n) gG (IV i) (IV i) (∀(x:Unit),True->ZV (IntKind.i64.wrap ((↑i:Int)+1))=IV (i+1)/\E6 53 z zn (R5 (eo kk n) YM (IV n) gG (IV (i+1)) (Q aN [(0,eo kk n),(1,YM),(2,IV n),(3,gG),ES i] [] 0 z zn))))) (E6 53 z zn (Q YO [] [] 0 z zn))):RdT Tryz.prog gS z O6 53 (o8 (tb kk n n) n i) z [] 0 zn 0 Q:=⟨(tA 1 (Tr.lp 0 53 [] [] (DV (tb kk n n) n i i) [] 0 z zn (Al.cons Unit Yy (fun(x:Unit)=>aw.mk Y8 (o8 (tb kk n n) n i) [] 0 z zn) (fun(x:Unit)=>tO (Ym i) (tE [] [] [(0,eo kk n),(1,YM),(2,IV n),(3,gG),ES i] [] 0 z zn)) Al.nil))).fork (OU z zn),Eq.mp (by kernel_rfl) hyp⟩
theorem UL(z:T aa)(zn:Nat)(Q:QL)(hyp:E6 53 z zn (Q YO [] [] 0 z zn)):RdT Tryz.prog gS z O6 53 (o8 ay 0 1) z [] 0 zn 0 Q:=⟨tA 2 (tE [] [] [] [] 0 z zn),Eq.mp (by kernel_rfl) hyp⟩
noncomputable abbrev RF(z:T aa)(zn:Nat):Unit->Tr:=fun(x:Unit)=>tR [] [] nk [] 0 z zn
theorem ji(z:T aa)(zn kk n:Nat)(Q:QF)(hyp:qQ/\ai Tryz.prog O6 0 53 (o8 (tb kk n n) n 1) [] 0 z zn (S5 z zn)/\E6 53 z zn (R5 (eo kk n) YM (IV n) gG (I 1) (∀(x:Unit),True->E6 53 z zn (lP/\Q nk [] 0 z zn)))):FnT Tryz.prog gS z Tryz.f162 [tb kk n n,YM,iv n,iu] z [] 0 zn Q:=⟨tA 1 (Tr.lp 0 53 [] [] (o8 (tb kk n n) n 1) [] 0 z zn (Al.cons Unit Yy (OT z zn) (RF z zn) Al.nil)),Eq.mp (by kernel_rfl) hyp⟩
theorem Zj(z:T aa)(zn:Nat)(Q:QF)(hyp:qQ/\ai Tryz.prog O6 0 53 (o8 ay 0 1) [] 0 z zn (S5 z zn)/\E6 53 z zn (R5 Y5 YM YM gG (I 1) (∀(x:Unit),True->E6 53 z zn (lP/\Q nk [] 0 z zn)))):FnT Tryz.prog gS z Tryz.f162 [ay,YM,iv 0,iu] z [] 0 zn Q:=⟨tA 1 (Tr.lp 0 53 [] [] (o8 ay 0 1) [] 0 z zn (Al.cons Unit Yy (OT z zn) (RF z zn) Al.nil)),Eq.mp (by kernel_rfl) hyp⟩
noncomputable abbrev Sj:Code:=ah (ag Tryz.f269) 0
theorem WD(z:T aa)(zn kk n i:Nat)(kb:bg)(x y:ae)(Q:QL)(hyp:Br (decide ((↑(i+1):Int)<(↑n:Int))) (Rf (↑(i+1):Int)/\i+1<n/\iK kk/\iJ z kk kb/\aB Tryz.prog kb 141 (0+(i+1)*4)=some (K9 y)/\ZV (IntKind.i64.wrap ((↑(i+1):Int) - 1))=ZV ((↑(i+1):Int) - 1)/\(↑(i+1):Int) - 1=(↑i:Int)/\i<n/\iK kk/\iJ z kk kb/\Dh kb i x/\Rf z/\VB y x/\Value.bool (decide (ql y.from_ y.an y.aH x.from_ x.an x.aH<0))=F0/\ZV (IntKind.i64.wrap ((↑(i+1):Int)+1))=IV (i+1+1)/\E6 141 z zn (R6 (eo kk n) YM (IV n) gG (IV (i+1+1)) YM (Q aN [(0,eo kk n),(1,YM),(2,IV n),(3,gG),(9,IV (i+1+1)),(10,YM)] [] 0 z zn))) (E6 141 z zn (R6 (eo kk n) YM (IV n) gG (IV (i+1)) YM (Q Y8 [(0,eo kk n),(1,YM),(2,IV n),(3,gG),EV i,(10,YM)] [] 0 z zn)))):RdT Tryz.prog gS z (ah Sj 0) 141 (jk kk n (i+1) 0) z [] 0 zn 0 Q:=⟨(tA 4 (tO (An.idx (i+1)) (tA 1 (tO (An.ld kk kb (AG y.row)) (tA 3 (tO (An.val (ZV ((↑(i+1):Int) - 1))) (tA 1 (tO (Yj i) (tA 1 (tO (An.ld kk kb (AG x.row)) (tA 1 (tO (VA y x) (tA 1 (tO Dp (tA 3 (tO (An.val (IV (i+1+1))) (tE [] [] [(0,eo kk n),(1,YM),(2,IV n),(3,gG),(9,IV (i+1+1)),(10,YM)] [] 0 z zn))))))))))))))))).fork (tA 15 (tE [] [] [(0,eo kk n),(1,YM),(2,IV n),(3,gG),EV i,(10,YM)] [] 0 z zn)),Eq.mp (by kernel_rfl) hyp⟩
theorem Zc(z:T aa)(zn kk n:Nat)(Q:QL)(hyp:qQ/\ai Tryz.prog (ah Sj 0) 0 141 (jk kk n 1 0) [] 0 z zn (alt True (aw.mk Y8 (jk kk n n 0) [] 0 z zn) Al.nil).R/\E6 141 z zn (R6 (eo kk n) YM (IV n) gG (I 1) YM (∀(x:Unit),True->Value.bool ((↑n:Int)==(↑n:Int))=T1/\E6 141 z zn (YA/\Q af.ret [(8,T1)] [] 0 z zn)))):RdT Tryz.prog gS z Sj 141 (jk kk n 1 0) z [] 0 zn 0 Q:=⟨tA 2 (Tr.lp 0 141 [] [] (jk kk n 1 0) [] 0 z zn (Al.cons Unit Yy (fun(x:Unit)=>aw.mk Y8 (jk kk n n 0) [] 0 z zn) (fun(x:Unit)=>tO Lc (tA 1 (tE [] [] [(8,T1)] [] 0 z zn))) Al.nil)),Eq.mp (by kernel_rfl) hyp⟩
theorem jq(z:T aa)(zn kk n:Nat)(Q:QF)(hyp:qQ/\ai Tryz.prog Sj 0 141 (jk kk n 1 0) [] 0 z zn (alt True (aw.mk af.ret [(8,T1)] [] 0 z zn) Al.nil).R/\E6 141 z zn (R6 (eo kk n) YM (IV n) gG (I 1) YM (∀(x:Unit),True->E6 141 z zn (YA/\Q T1 [] 0 z zn)))):FnT Tryz.prog gS z Tryz.f269 [tb kk n n,YM,iv n,iu] z [] 0 zn Q:=⟨tA 1 (Tr.lp 0 141 [] [] (jk kk n 1 0) [] 0 z zn (Al.cons Unit Yy (fun(x:Unit)=>aw.mk af.ret [(8,T1)] [] 0 z zn) (fun(x:Unit)=>EP z zn) Al.nil)),Eq.mp (by kernel_rfl) hyp⟩
abbrev K0(kk n:Nat):List Value:=[eo kk n,YM,IV n,gG]
abbrev Dc:Unit->Value:=fun(x:Unit)=>T1
noncomputable abbrev Si:Code:=ah (ag Tryz.f254) 0
theorem Ze(z:T aa)(zn kk n l p:Nat)(Q:QL)(hyp:ZV (IntKind.i64.wrap ((↑n:Int) - 0))=ZV ((↑n:Int) - 0)/\Br (decide ((↑n:Int) - 0<=12)) (aM Tryz.prog z zn 162 (K0 kk n) [] 0 0 Yy lO cf/\Rs (K0 kk n)/\ ∀(x:Unit),True->lP/\E6 148 z zn (Q af.ret [] [] 0 z zn)) (Value.bool ((↑l:Int)==0)=F0/\aM Tryz.prog z zn 267 (K0 kk n) [] 0 1 Yy (fun(x:Unit)=>TP [iv p,I 1]) cf/\Rs (K0 kk n)/\ ∀(x:Unit),True->Rs (TP [IV p,I 1])/\aM Tryz.prog z zn 269 (K0 kk n) [] 0 0 Yy Dc cf/\Rs (K0 kk n)/\ ∀(x:Unit),True->YA/\E6 148 z zn (Q af.ret [] [] 0 z zn))):RdT Tryz.prog gS z Si 148 (tg (tb kk n n) n l) z [] 0 zn 0 Q:=⟨tO (An.val (ZV ((↑n:Int) - 0))) ((tA 1 (Tr.cm (Cm.mk (K0 kk n) [] 0 0 [] [] 0) Unit Yy lO cf lO cf (eE z) (eD zn) fun(x:Unit)=>tE [] [] [] [] 0 z zn)).fork (tA 1 (tO Dp (tA 2 (Tr.cm (Cm.mk (K0 kk n) [] 0 1 [] YC 1) Unit Yy (fun(x:Unit)=>TP [iv p,I 1]) cf (fun(x:Unit)=>TP [IV p,I 1]) cf (eE z) (eD zn) fun(x:Unit)=>tA 9 (Tr.cm (Cm.mk (K0 kk n) [] 0 0 [] [] 1) Unit Yy Dc cf Dc cf (eE z) (eD zn) fun(x:Unit)=>OU z zn)))))),Eq.mp (by kernel_rfl) hyp⟩
theorem UI(z:T aa)(zn l:Nat)(Q:QL)(hyp:aM Tryz.prog z zn 162 [Y5,YM,YM,gG] [] 0 0 Yy lO cf/\Rs [Y5,YM,YM,gG]/\ ∀(x:Unit),True->lP/\E6 148 z zn (Q af.ret [] [] 0 z zn)):RdT Tryz.prog gS z Si 148 (tg ay 0 l) z [] 0 zn 0 Q:=⟨tA 3 (Tr.cm (Cm.mk [Y5,YM,YM,gG] [] 0 0 [] [] 0) Unit Yy lO cf lO cf (eE z) (eD zn) fun(x:Unit)=>tE [] [] [] [] 0 z zn),Eq.mp (by kernel_rfl) hyp⟩
noncomputable abbrev WR(z:T aa)(zn:Nat):Al:=Al.cons Unit Yy (fun(x:Unit)=>aw.mk af.ret [] [] 0 z zn) (RF z zn) Al.nil
theorem jp(z:T aa)(zn n l kk:Nat)(Q:QF)(hyp:qQ/\ai Tryz.prog Si 0 148 (tg (tb kk n n) n l) [] 0 z zn (alt True (aw.mk af.ret [] [] 0 z zn) Al.nil).R/\E6 148 z zn (R7 (eo kk n) YM (IV n) (IV l) gG T1 T1 (∀(x:Unit),True->E6 148 z zn (lP/\Q nk [] 0 z zn)))):FnT Tryz.prog gS z Tryz.f254 [tb kk n n,YM,iv n,iv l,iu] z [] 0 zn Q:=⟨Tr.lp 0 148 [] [] (tg (tb kk n n) n l) [] 0 z zn (WR z zn),Eq.mp (by kernel_rfl) hyp⟩
theorem Zd(z:T aa)(zn l:Nat)(Q:QF)(hyp:qQ/\ai Tryz.prog Si 0 148 (tg ay 0 l) [] 0 z zn (alt True (aw.mk af.ret [] [] 0 z zn) Al.nil).R/\E6 148 z zn (R7 Y5 YM YM (IV l) gG T1 T1 (∀(x:Unit),True->E6 148 z zn (lP/\Q nk [] 0 z zn)))):FnT Tryz.prog gS z Tryz.f254 [ay,YM,iv 0,iv l,iu] z [] 0 zn Q:=⟨Tr.lp 0 148 [] [] (tg ay 0 l) [] 0 z zn (WR z zn),Eq.mp (by kernel_rfl) hyp⟩
abbrev Vx(n:Nat):List Value:=[Value.int IntKind.u64 (IntKind.u64.wrap (↑n:Int))]
theorem js(z:T aa)(zn kk n l:Nat)(Q:QF)(hyp:aM Tryz.prog z zn 78 (Vx n) [] 0 0 Yy (Ps l) cf/\Rs (Vx n)/\ ∀(x:Unit),True->Rs (IV l)/\aM Tryz.prog z zn 254 [eo kk n,YM,IV n,IV l,gG] [] 0 0 Yy lO cf/\Rs [eo kk n,YM,IV n,IV l,gG]/\ ∀(x:Unit),True->lP/\E6 14 z zn (lP/\Q nk [] 0 z zn)):FnT Tryz.prog gS z Tryz.f221 [tb kk n n,iu] z [] 0 zn Q:=⟨Tr.cm (Cm.mk (Vx n) [] 0 0 [] [] 0) Unit Yy (Ps l) cf (fun(x:Unit)=>IV l) cf (eE z) (eD zn) fun(x:Unit)=>Tr.cm (Cm.mk [eo kk n,YM,IV n,IV l,gG] [] 0 0 [] [] 0) Unit Yy lO cf lO cf (eE z) (eD zn) (RF z zn),Eq.mp (by kernel_rfl) hyp⟩
abbrev Vw:List Value:=[Value.int IntKind.u64 0]
theorem Zb(z:T aa)(zn l:Nat)(Q:QF)(hyp:aM Tryz.prog z zn 78 Vw [] 0 0 Yy (Ps l) cf/\Rs Vw/\ ∀(x:Unit),True->Rs (IV l)/\aM Tryz.prog z zn 254 [Y5,YM,YM,IV l,gG] [] 0 0 Yy lO cf/\Rs [Y5,YM,YM,IV l,gG]/\ ∀(x:Unit),True->lP/\E6 14 z zn (lP/\Q nk [] 0 z zn)):FnT Tryz.prog gS z Tryz.f221 [ay,iu] z [] 0 zn Q:=⟨Tr.cm (Cm.mk Vw [] 0 0 [] [] 0) Unit Yy (Ps l) cf (fun(x:Unit)=>IV l) cf (eE z) (eD zn) fun(x:Unit)=>Tr.cm (Cm.mk [Y5,YM,YM,IV l,gG] [] 0 0 [] [] 0) Unit Yy lO cf lO cf (eE z) (eD zn) (RF z zn),Eq.mp (by kernel_rfl) hyp⟩
end
noncomputable section
abbrev Vv(N:aC):List (Nat × aa):=[(0,N.cB ay N.l0),nG,(2,bt [])]
theorem XM(z:T aa)(zn:Nat)(N:aC)(Q:QL)(hyp:E6 96 z zn (jt/\rO/\Q YO eQ [pL] 3 z zn)):RdT Tryz.prog gP z Tl 96 DL z (Vv N) 3 zn 3 Q:=⟨tA 2 (tE gD [] eQ [pL] 3 z zn),Eq.mp (by kernel_rfl) hyp⟩
theorem Zx(z:T aa)(zn:Nat)(N:aC)(Q:QF)(hyp:AI/\ai Tryz.prog Tl 3 96 DL (Vv N) 3 z zn (alt True (aw.mk YO [(2,ip 1)] [nG] 3 z zn) Al.nil).R/\E6 96 z zn (R6 bH fD (MP 2) Y5 YM YM (KO u4 (BQ [Aq N,Ap N,Y5,RU N,OO N,IT N,ZV N.d,ZV N.w,ZV N.c] 9 1 31)/\rO/\Ys/\ ∀(x:Unit),True->E6 96 z zn (Rs wJ/\Q wJ [] 0 z zn)))):FnT Tryz.prog gP z Tryz.f83 [AG (N.dS ay N.l0)] z [] 0 zn Q:=⟨tA 4 (Tr.lp 3 96 AJ [] DL (Vv N) 3 z zn (Al.cons Unit Yy (fun(x:Unit)=>aw.mk YO [(2,ip 1)] [nG] 3 z zn) (Tk z zn) Al.nil)),Eq.mp (by kernel_rfl) hyp⟩
end
noncomputable section
theorem XY(z:T aa)(zn:Nat)(n a b:Int)(Q:QF)(hyp:Br (decide (n>=a)) (Br (decide (n<=b)) (E6 15 z zn (YA/\Q T1 [] 0 z zn)) (E6 15 z zn (YQ/\Q F0 [] 0 z zn))) (E6 15 z zn (YQ/\Q F0 [] 0 z zn))):FnT Tryz.prog uF z Tryz.f43 [zv n,zv a,zv b] z [] 0 zn Q:=⟨RS z zn,Eq.mp (by kernel_rfl) hyp⟩
theorem XT(z:T aa)(zn:Nat)(n a b:Int)(Q:QF)(hyp:Br (decide (n>=a)) (Br (decide (n<=b)) (E6 15 z zn (YA/\Q T1 [] 0 z zn)) (E6 15 z zn (YQ/\Q F0 [] 0 z zn))) (E6 15 z zn (YQ/\Q F0 [] 0 z zn))):FnT Tryz.prog uF z Tryz.f52 [zv n,zv a,zv b] z [] 0 zn Q:=⟨RS z zn,Eq.mp (by kernel_rfl) hyp⟩
theorem XU(z:T aa)(zn:Nat)(k:Int)(q:ux)(Q:QF)(hyp:ZV (IntKind.i64.wrap (k - 1))=ZV (k - 1)/\Rf z/\gQ 43 [ZV q.from_,YM,ZV (k - 1)]=some (Value.bool (bV q.from_ 0 (k - 1)))/\Br (bV q.from_ 0 (k - 1)) (bV q.from_ 0 (k - 1)=true/\bV q.from_ 0 (k - 1)=true/\bV q.from_ 0 (k - 1)=true/\ZV (IntKind.i64.wrap (k - 1))=ZV (k - 1)/\bV q.from_ 0 (k - 1)=true/\Rf z/\gQ 43 [ZV q.an,YM,ZV (k - 1)]=some (Value.bool (bV q.an 0 (k - 1)))/\bV q.from_ 0 (k - 1)=true/\Br (bV q.an 0 (k - 1)) (bV q.an 0 (k - 1)=true/\bV q.an 0 (k - 1)=true/\Rf z/\gQ 43 [ZV q.time,YM,I 3155932800]=some (Value.bool (bV q.time 0 3155932800))/\bV q.an 0 (k - 1)=true/\Br (bV q.time 0 3155932800) (bV q.time 0 3155932800=true/\bV q.time 0 3155932800=true/\Rf z/\gQ 43 [ZV q.bc,YM,I 8]=some (Value.bool (bV q.bc 0 8))/\bV q.time 0 3155932800=true/\Br (bV q.bc 0 8) (bV q.bc 0 8=true/\bV q.bc 0 8=true/\Rf z/\gQ 43 [ZV q.walk,YM,I 86400]=some (Value.bool (bV q.walk 0 86400))/\bV q.bc 0 8=true/\Br (bV q.walk 0 86400) (bV q.walk 0 86400=true/\bV q.walk 0 86400=true/\Rf z/\gQ 43 [ZV q.bR,YM,I 255]=some (Value.bool (bV q.bR 0 255))/\bV q.walk 0 86400=true/\Br (bV q.bR 0 255) (bV q.bR 0 255=true/\Br q.Ri (bV q.bR 0 255=true/\Br q.back (bV q.bR 0 255=true/\bV q.bR 0 255=true/\bV q.bR 0 255=true/\E6 46 z zn (YQ/\Q F0 [] 0 z zn)) (bV q.bR 0 255=true/\bV q.bR 0 255=true/\bV q.bR 0 255=true/\E6 46 z zn (YA/\Q T1 [] 0 z zn))) (bV q.bR 0 255=true/\bV q.bR 0 255=true/\bV q.bR 0 255=true/\bV q.bR 0 255=true/\E6 46 z zn (YA/\Q T1 [] 0 z zn))) (bV q.bR 0 255=false/\bV q.bR 0 255=false/\bV q.bR 0 255=false/\bV q.bR 0 255=false/\bV q.bR 0 255=false/\E6 46 z zn (YQ/\Q F0 [] 0 z zn))) (bV q.walk 0 86400=false/\bV q.walk 0 86400=false/\bV q.walk 0 86400=false/\E6 46 z zn (YQ/\Q F0 [] 0 z zn))) (bV q.bc 0 8=false/\bV q.bc 0 8=false/\bV q.bc 0 8=false/\E6 46 z zn (YQ/\Q F0 [] 0 z zn))) (bV q.time 0 3155932800=false/\bV q.time 0 3155932800=false/\bV q.time 0 3155932800=false/\E6 46 z zn (YQ/\Q F0 [] 0 z zn))) (bV q.an 0 (k - 1)=false/\bV q.an 0 (k - 1)=false/\bV q.an 0 (k - 1)=false/\E6 46 z zn (YQ/\Q F0 [] 0 z zn))) (bV q.from_ 0 (k - 1)=false/\bV q.from_ 0 (k - 1)=false/\bV q.from_ 0 (k - 1)=false/\bV q.from_ 0 (k - 1)=false/\bV q.from_ 0 (k - 1)=false/\E6 46 z zn (YQ/\Q F0 [] 0 z zn))):FnT Tryz.prog gQ z Tryz.f24 [zv k,AG q.row] z [] 0 zn Q:=⟨tA 1 (tO (An.val (ZV (k - 1))) (tO (An.cl (Value.bool (bV q.from_ 0 (k - 1)))) ((tO bL (tA 1 (tO bL (tO bL (tO (An.val (ZV (k - 1))) (tO bL (tO (An.cl (Value.bool (bV q.an 0 (k - 1)))) (tO bL ((tO bL (tA 1 (tO bL (tO (An.cl (Value.bool (bV q.time 0 3155932800))) (tO bL ((tO bL (tA 1 (tO bL (tO (An.cl (Value.bool (bV q.bc 0 8))) (tO bL ((tO bL (tA 1 (tO bL (tO (An.cl (Value.bool (bV q.walk 0 86400))) (tO bL ((tO bL (tA 1 (tO bL (tO (An.cl (Value.bool (bV q.bR 0 255))) (tO bL ((tO bL ((tO bL (tA 2 ((tO bL (tA 1 (tO bL (tO bL (qP z zn))))).fork (tO bL
 (tA 1 (tO bL (tO bL (EP z zn)))))))).fork (tO bL (tA 2 (tO bL (tA 1 (tO bL (tO bL (EP z zn))))))))).fork (tO bb (tO bb (tO bb (tO bb (tO bb (qP z zn)))))))))))).fork (tO bb (tO bb (tO bb (tA 6 (qP z zn))))))))))).fork (tO bb (tO bb (tO bb (tA 10 (qP z zn))))))))))).fork (tO bb (tO bb (tO bb (tA 14 (qP z zn))))))))))).fork (tO bb (tO bb (tO bb (tA 18 (qP z zn)))))))))))))).fork (tO bb (tO bb (tO bb (tO bb (tO bb (tA 22 (qP z zn)))))))))),Eq.mp (by kernel_rfl) hyp⟩
abbrev Sh(a b c:Int):Unit->Value:=fun(x:Unit)=>TP [zv a,zv b,zv c]
theorem XV(z:T aa)(zn:Nat)(N:aC)(a b c:Int)(Q:QF)(hyp:aM Tryz.prog z zn 42 (AF N) [] 0 0 Yy (Sh a b c) cf/\IL N/\ ∀(x:Unit),True->Rs (TP [ZV a,ZV b,ZV c])/\Br (c==0) (E6 14 z zn (YA/\Q T1 [] 0 z zn)) (E6 14 z zn (YQ/\Q F0 [] 0 z zn))):FnT Tryz.prog uF z Tryz.f23 [AG N.cells] z [] 0 zn Q:=⟨tA 1 (Tr.cm (Cm.mk (AF N) [] 0 0 [] [] 1) Unit Yy (Sh a b c) cf (fun(x:Unit)=>TP [ZV a,ZV b,ZV c]) cf (eE z) (eD zn) fun(x:Unit)=>(EP z zn).fork (qP z zn)),Eq.mp (by kernel_rfl) hyp⟩
abbrev KZ(q:ux):Value:=AG [ZV q.from_,ZV q.an,ZV q.time,Value.bool q.back,ZV q.bc,ZV q.walk,Value.bool q.sf,Value.bool q.Ry,ZV q.bR,Value.bool q.Ri]
abbrev LY:Prop:=Rs (I 22)
abbrev O5(N:aC)(q:ux):List Value:=[AG N.cells,AG q.row]
noncomputable abbrev RE(N:aC):Cm:=Cm.mk (AF N) [] 0 0 [] [] 2
noncomputable abbrev LX(z:T aa)(zn:Nat):Tr:=tR [] [] (I 22) [] 0 z zn
theorem XW(z:T aa)(zn:Nat)(N:aC)(q:ux)(b1 b2:Bool)(Q:QF)(hyp:aM Tryz.prog z zn 23 (AF N) [] 0 0 Yy (yh b1) cf/\IL N/\ ∀(x:Unit),True->Rs (fS b1)/\Br (!b1) (E6 14 z zn (Rs (I 21)/\Q (I 21) [] 0 z zn)) (aM Tryz.prog z zn 24 [IV N.ns,KZ q] [] 0 0 Yy (yh b2) cf/\Rs [IV N.ns,KZ q]/\ ∀(x:Unit),True->Rs (fS b2)/\Br (!b2) (E6 14 z zn (LY/\Q (I 22) [] 0 z zn)) (E6 14 z zn (Di/\Q YM [] 0 z zn)))):FnT Tryz.prog uF z Tryz.f10 (O5 N q) z [] 0 zn Q:=⟨tA 1 (Tr.cm (RE N) Unit Yy (yh b1) cf (yh b1) cf (eE z) (eD zn) fun(x:Unit)=>(tR [] [] (I 21) [] 0 z zn).fork (tA 2 (Tr.cm (Cm.mk [IV N.ns,KZ q] [] 0 0 [] [] 2) Unit Yy (yh b2) cf (yh b2) cf (eE z) (eD zn) fun(x:Unit)=>(LX z zn).fork (tR [] [] YM [] 0 z zn)))),Eq.mp (by kernel_rfl) hyp⟩
theorem XZ(z:T aa)(zn:Nat)(N:aC)(q:ux)(a b c:Int)(Q:QF)(hyp:aM Tryz.prog z zn 39 (AF N) [] 0 0 Yy (Sh a b c) cf/\IL N/\ ∀(x:Unit),True->Rs (TP [ZV a,ZV b,ZV c])/\Br (c !=0) (E6 65 z zn (Rs (I 21)/\Q (I 21) [] 0 z zn)) (ZV (IntKind.i64.wrap ((↑N.ns:Int) - 1))=ZV ((↑N.ns:Int) - 1)/\Rf z/\gQ 52 [ZV q.from_,YM,ZV ((↑N.ns:Int) - 1)]=some (Value.bool (bV q.from_ 0 ((↑N.ns:Int) - 1)))/\Br (!bV q.from_ 0 ((↑N.ns:Int) - 1)) ((!bV q.from_ 0 ((↑N.ns:Int) - 1))=true/\(!bV q.from_ 0 ((↑N.ns:Int) - 1))=true/\(!bV q.from_ 0 ((↑N.ns:Int) - 1))=true/\(!bV q.from_ 0 ((↑N.ns:Int) - 1))=true/\(!bV q.from_ 0 ((↑N.ns:Int) - 1))=true/\E6 65 z zn (LY/\Q (I 22) [] 0 z zn)) ((!bV q.from_ 0 ((↑N.ns:Int) - 1))=false/\(!bV q.from_ 0 ((↑N.ns:Int) - 1))=false/\(!bV q.from_ 0 ((↑N.ns:Int) - 1))=false/\Rf z/\gQ 52 [ZV q.an,YM,ZV ((↑N.ns:Int) - 1)]=some (Value.bool (bV q.an 0 ((↑N.ns:Int) - 1)))/\(!bV q.from_ 0 ((↑N.ns:Int) - 1))=false/\(!bV q.from_ 0 ((↑N.ns:Int) - 1))=false/\Br (!bV q.an 0 ((↑N.ns:Int) - 1)) ((!bV q.an 0 ((↑N.ns:Int) - 1))=true/\(!bV q.an 0 ((↑N.ns:Int) - 1))=true/\(!bV q.an 0 ((↑N.ns:Int) - 1))=true/\(!bV q.an 0 ((↑N.ns:Int) - 1))=true/\E6 65 z zn (LY/\Q (I 22) [] 0 z zn)) ((!bV q.an 0 ((↑N.ns:Int) - 1))=false/\(!bV q.an 0 ((↑N.ns:Int) - 1))=false/\Rf z/\gQ 52 [ZV q.time,YM,I 3155932800]=some (Value.bool (bV q.time 0 3155932800))/\(!bV q.an 0 ((↑N.ns:Int) - 1))=false/\(!bV q.an 0 ((↑N.ns:Int) - 1))=false/\Br (!bV q.time 0 3155932800) ((!bV q.time 0 3155932800)=true/\(!bV q.time 0 3155932800)=true/\(!bV q.time 0 3155932800)=true/\(!bV q.time 0 3155932800)=true/\E6 65 z zn (LY/\Q (I 22) [] 0 z zn)) ((!bV q.time 0 3155932800)=false/\(!bV q.time 0 3155932800)=false/\Rf z/\gQ 52 [ZV q.bc,YM,I 8]=some (Value.bool (bV q.bc 0 8))/\(!bV q.time 0 3155932800)=false/\(!bV q.time 0 3155932800)=false/\Br (!bV q.bc 0 8) ((!bV q.bc 0 8)=true/\(!bV q.bc 0 8)=true/\(!bV q.bc 0 8)=true/\(!bV q.bc 0 8)=true/\E6 65 z zn (LY/\Q (I 22) [] 0 z zn)) ((!bV q.bc 0 8)=false/\(!bV q.bc 0 8)=false/\Rf z/\gQ 52 [ZV q.walk,YM,I 86400]=some (Value.bool (bV q.walk 0 86400))/\(!bV q.bc 0 8)=false/\(!bV q.bc 0 8)=false/\Br (!bV q.walk 0 86400) ((!bV q.walk 0 86400)=true/\(!bV q.walk 0 86400)=true/\(!bV q.walk 0 86400)=true/\(!bV q.walk 0 86400)=true/\E6 65 z zn (LY/\Q (I 22) [] 0 z zn)) ((!bV q.walk 0 86400)=false/\(!bV q.walk 0 86400)=false/\Rf z/\gQ 52 [ZV q.bR,YM,I 255]=some (Value.bool (bV q.bR 0 255))/\(!bV q.walk 0 86400)=false/\(!bV q.walk 0 86400)=false/\Br (!bV q.bR 0 255) ((!bV q.bR 0 255)=true/\(!bV q.bR 0 255)=true/\(!bV q.bR 0 255)=true/\(!bV q.bR 0 255)=true/\E6 65 z zn (LY/\Q (I 22) [] 0 z zn)) ((!bV q.bR 0 255)=false/\Br q.Ri ((!bV q.bR 0 255)=false/\Br q.back ((!bV q.bR 0 255)=false/\(!bV q.bR 0 255)=false/\E6 65 z zn (LY/\Q (I 22) [] 0 z zn)) ((!bV q.bR 0 255)=false/\(!bV q.bR 0 255)=false/\E6 65 z zn (Di/\Q YM [] 0 z zn))) ((!bV q.bR 0 255)=false/\(!bV q.bR 0
 255)=false/\(!bV q.bR 0 255)=false/\E6 65 z zn (Di/\Q YM [] 0 z zn)))))))))):FnT Tryz.prog gQ z Tryz.f27 (O5 N q) z [] 0 zn Q:=⟨tA 1 (Tr.cm (RE N) Unit Yy (Sh a b c) cf (fun(x:Unit)=>TP [ZV a,ZV b,ZV c]) cf (eE z) (eD zn) fun(x:Unit)=>(tA 1 (tR [] [] (I 21) [] 0 z zn)).fork (tA 2 (tO (An.val (ZV ((↑N.ns:Int) - 1))) (tA 1 (tO (An.cl (Value.bool (bV q.from_ 0 ((↑N.ns:Int) - 1)))) ((tO bL (tO bL (tO bL (tO bL (tO bL (tA 26 (LX z zn))))))).fork (tO bb (tA 1 (tO bb (tO bb (tO (An.cl (Value.bool (bV q.an 0 ((↑N.ns:Int) - 1)))) (tO bb (tO bb ((tO bL (tO bL (tO bL (tO bL (tA 21 (LX z zn)))))).fork (tO bb (tA 1 (tO bb (tO (An.cl (Value.bool (bV q.time 0 3155932800))) (tO bb (tO bb ((tO bL (tO bL (tO bL (tO bL (tA 16 (LX z zn)))))).fork (tO bb (tA 1 (tO bb (tO (An.cl (Value.bool (bV q.bc 0 8))) (tO bb (tO bb ((tO bL (tO bL (tO bL (tO bL (tA 11 (LX z zn)))))).fork (tO bb (tA 1 (tO bb (tO (An.cl (Value.bool (bV q.walk 0 86400))) (tO bb (tO bb ((tO bL (tO bL (tO bL (tO bL (tA 6 (LX z zn)))))).fork (tO bb (tA 1 (tO bb (tO (An.cl (Value.bool (bV q.bR 0 255))) (tO bb (tO bb ((tO bL (tO bL (tO bL (tO bL (tA 1 (LX z zn)))))).fork (tO bb ((tO bb (tA 2 ((tO bb (tA 1 (tO bb (tA 1 (LX z zn))))).fork (tO bb (tA 1 (tO bb (tA 1 (tR [] [] YM [] 0 z zn)))))))).fork (tO bb (tA 2 (tO bb (tA 1 (tO bb (tA 1 (tR [] [] YM [] 0 z zn))))))))))))))))))))))))))))))))))))))))))))))))))),Eq.mp (by kernel_rfl) hyp⟩
abbrev RD(N:aC)(q:ux):Prop:=bz (sig []) [AG (Am N),KZ q]=some [AG (Am N),KZ q]
noncomputable abbrev RC(N:aC)(q:ux):Cm:=Cm.mk [AG (Am N),KZ q] [] 0 0 [] [] 2
theorem XX(z:T aa)(zn:Nat)(N:aC)(q:ux)(e:Int)(Q:QF)(hyp:aM Tryz.prog z zn 27 [AG (Am N),KZ q] [] 0 0 Yy (Dn e) cf/\RD N q/\ ∀(x:Unit),True->Rs (ZV e)/\Value.bool (e !=0)=T1/\E6 27 z zn (Rs (TP [Y5,ZV e])/\Q (TP [Y5,ZV e]) [] 0 z zn)):FnT Tryz.prog uF z Tryz.f13 (O5 N q) z [] 0 zn Q:=⟨tA 2 (Tr.cm (RC N q) Unit Yy (Dn e) cf (MJ e) cf (eE z) (eD zn) fun(x:Unit)=>tO Lc (tA 1 (tR [] [] (TP [Y5,ZV e]) [] 0 z zn))),Eq.mp (by kernel_rfl) hyp⟩
noncomputable abbrev Vu:Code:=ah (ag Tryz.f11) 0
theorem X8(z:T aa)(zn i n cc:Nat)(ca:Option Addr)(N:aC)(kr:bg)(Q:QL)(hyp:Br (decide ((↑i:Int)<(↑N.nu:Int))) (YU i/\i<N.nu/\Rf 766/\ME z kr/\aB Tryz.prog kr 51 (0+i*8+7)=some (Value.slice ca n cc)/\Br (decide ((↑n:Int)>40)) (E6 54 z zn (YQ/\Q af.ret [(2,F0)] [] 1 z zn)) (ZV (IntKind.i64.wrap ((↑i:Int)+1))=IV (i+1)/\E6 54 z zn (R3 bH (IV N.nu) (IV (i+1)) (KO YD (Fg N)/\Q aN [nH,(41,IV N.nu),(42,IV (i+1))] [(0,Fg N)] 1 z zn)))) (E6 54 z zn (Q YO [] [] 1 z zn))):RdT Tryz.prog uF iC Vu 54 (Bg N.nu i) z [(0,N.iR)] 1 zn 1 Q:=⟨(tA 2 (tO (Yj i) (tO (An.ld 1 kr (Value.slice ca n cc)) ((tA 1 (tE [] [] [(2,F0)] [] 1 z zn)).fork (tA 1 (tO (Ym i) (tE YC [] [nH,(41,IV N.nu),(42,IV (i+1))] [(0,Fg N)] 1 z zn))))))).fork (Yn z zn),Eq.mp (by kernel_rfl) hyp⟩
theorem Uk(z:T aa)(zn i:Nat)(N:aC)(Q:QL)(hyp:Value.bool (decide ((↑i:Int)<(↑N.nu:Int)))=F0/\E6 54 z zn (Q YO [] [] 1 z zn)):RdT Tryz.prog uF iC Vu 54 (Bg N.nu i) z [(0,N.box)] 1 zn 1 Q:=⟨tO Dp (Yn z zn),Eq.mp (by kernel_rfl) hyp⟩
theorem X4(z:T aa)(zn:Nat)(N:aC)(b:Bool)(Q:QF)(hyp:Br (decide ((↑N.ns:Int)>6)) (E6 54 z zn (YQ/\Q F0 [] 0 z zn)) (Br (decide ((↑N.nr:Int)>20)) (E6 54 z zn (YQ/\Q F0 [] 0 z zn)) (Br (decide ((↑N.nu:Int)>7)) (E6 54 z zn (YQ/\Q F0 [] 0 z zn)) (Br (decide ((↑N.nl:Int)>30)) (E6 54 z zn (YQ/\Q F0 [] 0 z zn)) (Br (decide ((↑N.np:Int)>60)) (E6 54 z zn (YQ/\Q F0 [] 0 z zn)) (Br (decide ((↑N.nf:Int)>16)) (E6 54 z zn (YQ/\Q F0 [] 0 z zn)) (YP/\ai Tryz.prog Vu 1 54 (Bg N.nu 0) [(0,N.box)] 1 z zn (alt (b=false) (aw.mk af.ret [(2,F0)] [] 1 z zn) (alt (b=true) (aw.mk YO [] [] 1 z zn) Al.nil)).R/\E6 54 z zn (R3 bH (IV N.nu) YM (OF N/\(∀(x:Unit),b=false->E6 54 z zn (YQ/\Q F0 [] 0 z zn))/\ ∀(x:Unit),b=true->E6 54 z zn (YA/\Q T1 [] 0 z zn)))))))))):FnT Tryz.prog uF iC Tryz.f11 [AG N.cells] z [] 0 zn Q:=⟨tA 1 ((tA 27 (qP z zn)).fork (tA 5 ((tA 23 (qP z zn)).fork (tA 6 ((tA 18 (qP z zn)).fork (tA 6 ((tA 13 (qP z zn)).fork (tA 6 ((tA 8 (qP z zn)).fork (tA 7 ((tA 2 (qP z zn)).fork (tA 3 (Tr.lp 1 54 YC [] (Bg N.nu 0) [(0,N.box)] 1 z zn (Al.cons Unit (YS b) (fun(x:Unit)=>aw.mk af.ret [(2,F0)] [] 1 z zn) (fun(x:Unit)=>qP z zn) (Al.cons Unit (YR b) (Y1 z zn) (fun(x:Unit)=>EP z zn) Al.nil))))))))))))))),Eq.mp (by kernel_rfl) hyp⟩
abbrev Vt(z:T aa)(zn:Nat)(N:aC)(q:ux)(e:Int):Prop:=aM Tryz.prog z zn 10 [AG (Am N),KZ q] [] 0 0 Yy (Dn e) cf
abbrev Vs(z:T aa)(zn:Nat):Prop:=aM Tryz.prog z zn 12 [] [] 0 0 Yy Dc cf
noncomputable abbrev WQ(z:T aa)(zn:Nat):Tr:=Tr.cm (Cm.mk [] [] 0 0 [] [] 2) Unit Yy Dc cf Dc cf (eE z) (eD zn) fun(x:Unit)=>EP z zn
theorem X7(z:T aa)(zn:Nat)(N:aC)(q:ux)(e:Int)(Q:QF)(hyp:Vt z zn N q e/\RD N q/\ ∀(x:Unit),True->Rs (ZV e)/\aM Tryz.prog z zn 11 (AF N) [] 0 0 Yy BV cf/\IL N/\ ∀(x:Unit),True->YQ/\Vs z zn/\Rs Nj/\ ∀(x:Unit),True->YA/\E6 36 z zn (YA/\Q T1 [] 0 z zn)):FnT Tryz.prog uF iC Tryz.f4 (O5 N q) z [] 0 zn Q:=⟨tA 2 (Tr.cm (RC N q) Unit Yy (Dn e) cf (MJ e) cf (eE z) (eD zn) fun(x:Unit)=>tA 1 (Tr.cm (RE N) Unit Yy BV cf BV cf (eE z) (eD zn) fun(x:Unit)=>tA 4 (WQ z zn))),Eq.mp (by kernel_rfl) hyp⟩
theorem X6(z:T aa)(zn:Nat)(N:aC)(q:ux)(e:Int)(Q:QF)(hyp:Vt z zn N q e/\RD N q/\ ∀(x:Unit),True->Rs (ZV e)/\aM Tryz.prog z zn 11 (AF N) [] 0 0 Yy Dc cf/\IL N/\ ∀(x:Unit),True->YA/\Value.bool (e==0)=T1/\Vs z zn/\Rs Nj/\ ∀(x:Unit),True->YA/\E6 36 z zn (YA/\Q T1 [] 0 z zn)):FnT Tryz.prog uF iC Tryz.f4 (O5 N q) z [] 0 zn Q:=⟨tA 2 (Tr.cm (RC N q) Unit Yy (Dn e) cf (MJ e) cf (eE z) (eD zn) fun(x:Unit)=>tA 1 (Tr.cm (RE N) Unit Yy Dc cf Dc cf (eE z) (eD zn) fun(x:Unit)=>tA 2 (tO Lc (tA 2 (WQ z zn))))),Eq.mp (by kernel_rfl) hyp⟩
theorem X5(z:T aa)(zn:Nat)(N:aC)(q:ux)(e:Int)(Q:QF)(hyp:Vt z zn N q e/\RD N q/\ ∀(x:Unit),True->Rs (ZV e)/\aM Tryz.prog z zn 11 (AF N) [] 0 0 Yy Dc cf/\IL N/\ ∀(x:Unit),True->YA/\Value.bool (e==0)=F0/\aM Tryz.prog z zn 13 [AG (Am N),KZ q] [] 0 0 Yy (fun(x:Unit)=>TP [ay,zv e]) cf/\RD N q/\ ∀(x:Unit),True->Rs (TP [Y5,ZV e])/\Value.bool (e==e)=T1/\Vs z zn/\Rs Nj/\ ∀(x:Unit),True->YA/\E6 36 z zn (YA/\Q T1 [] 0 z zn)):FnT Tryz.prog uF iC Tryz.f4 (O5 N q) z [] 0 zn Q:=⟨tA 2 (Tr.cm (RC N q) Unit Yy (Dn e) cf (MJ e) cf (eE z) (eD zn) fun(x:Unit)=>tA 1 (Tr.cm (RE N) Unit Yy Dc cf Dc cf (eE z) (eD zn) fun(x:Unit)=>tA 2 (tO Dp (tA 4 (Tr.cm (RC N q) Unit Yy (fun(x:Unit)=>TP [ay,zv e]) cf (fun(x:Unit)=>TP [Y5,ZV e]) cf (eE z) (eD zn) fun(x:Unit)=>tO Lc (tA 6 (Tr.cm (Cm.mk [] [] 0 0 [] [] 2) Unit Yy Dc cf Dc cf (eE z) (eD zn) fun(x:Unit)=>tA 1 (EP z zn)))))))),Eq.mp (by kernel_rfl) hyp⟩
end
end Go.Proofs.Nw
namespace Go.Proofs.Nw
open Go.RowKit
set_option maxRecDepth 1000000
theorem CO(s:ByteArray)(k:Nat)(h:k<s.size):(s.data.toList.drop k).all lG=(lG (s[k]'h) && (s.data.toList.drop (k+1)).all lG):=by
 have e:s.data.toList.drop k=(s[k]'h)::s.data.toList.drop (k+1):=by rw[List.drop_eq_getElem_cons (by simpa using h)];rfl
 rw[e];rfl
theorem GQ(s:ByteArray)(k:Nat)(h:s.size<=k):(s.data.toList.drop k).all lG=true:=by
 rw[List.drop_of_length_le (by simpa using h)];rfl
theorem fm(c:UInt8):lG c=true↔((97<=c.toNat/\c.toNat<=122)\/(65<=c.toNat/\c.toNat<=90)\/(48<=c.toNat/\c.toNat<=57)\/c.toNat=45\/c.toNat=95\/c.toNat=46):=by
 simp[lG,or_assoc]
theorem c9(c:UInt8):lG c=false↔ ¬((97<=c.toNat/\c.toNat<=122)\/(65<=c.toNat/\c.toNat<=90)\/(48<=c.toNat/\c.toNat<=57)\/c.toNat=45\/c.toNat=95\/c.toNat=46):=by
 rw[←fm];simp
set_option maxHeartbeats 8000000 in
theorem MR(s:ByteArray)(w:World)(hs:s.size<=9223372036854775807):Calls Tryz.prog 128 #[.string s] w fun e w'=>e= .returned (.bool (bU s))/\w=w':=by
 go_enter Tryz.func128,Tryz.ntmps128
 go_wp2
 go_loop [3] (fun i=> ∃k:Nat,k<=s.size/\i= .int .i64 k/\(s.data.toList.drop k).all lG=s.data.toList.all lG) (fun i=>s.size - (intOf i).toNat)
 case atStart=>exact⟨0,Nat.zero_le _,rfl,rfl⟩
 case round=>
  obtain⟨k,hk,rfl,hv⟩:=hrel
  have HV:=Lib.hid hv
  clear hv
  by_cases hlt:k<s.size
  ·have HD:=Lib.hid (CO s k hlt)
   have hb:(s[k]'hlt).toNat<256:=(s[k]'hlt).toNat_lt
   have hcat:(0<=(s[k]'hlt).toNat/\(s[k]'hlt).toNat<=44)\/(45<=(s[k]'hlt).toNat/\(s[k]'hlt).toNat<=45)\/(46<=(s[k]'hlt).toNat/\(s[k]'hlt).toNat<=46)\/(47<=(s[k]'hlt).toNat/\(s[k]'hlt).toNat<=47)\/(48<=(s[k]'hlt).toNat/\(s[k]'hlt).toNat<=57)\/(58<=(s[k]'hlt).toNat/\(s[k]'hlt).toNat<=64)\/(65<=(s[k]'hlt).toNat/\(s[k]'hlt).toNat<=90)\/(91<=(s[k]'hlt).toNat/\(s[k]'hlt).toNat<=94)\/(95<=(s[k]'hlt).toNat/\(s[k]'hlt).toNat<=95)\/(96<=(s[k]'hlt).toNat/\(s[k]'hlt).toNat<=96)\/(97<=(s[k]'hlt).toNat/\(s[k]'hlt).toNat<=122)\/(123<=(s[k]'hlt).toNat/\(s[k]'hlt).toNat<=255):=by omega
   rcases hcat with hcat|hcat|hcat|hcat|hcat|hcat|hcat|hcat|hcat|hcat|hcat|hcat
   ·have x0: ¬97<=(s[k]'hlt).toNat:=by omega
    have y0: ¬(97:Int)<=(((s[k]'hlt).toNat:Nat):Int):=by omega
    have x1: ¬65<=(s[k]'hlt).toNat:=by omega
    have y1: ¬(65:Int)<=(((s[k]'hlt).toNat:Nat):Int):=by omega
    have x2: ¬48<=(s[k]'hlt).toNat:=by omega
    have y2: ¬(48:Int)<=(((s[k]'hlt).toNat:Nat):Int):=by omega
    have e45: ¬(s[k]'hlt).toNat=45:=by omega
    have f45: ¬(((s[k]'hlt).toNat:Nat):Int)=45:=by omega
    have e95: ¬(s[k]'hlt).toNat=95:=by omega
    have f95: ¬(((s[k]'hlt).toNat:Nat):Int)=95:=by omega
    have e46: ¬(s[k]'hlt).toNat=46:=by omega
    have f46: ¬(((s[k]'hlt).toNat:Nat):Int)=46:=by omega
    have OK:=Lib.hid (show lG (s[k]'hlt)=false by rw[c9];omega)
    have HR:=Lib.hid (show bU s=false by unfold bU;rw[←HV.out,HD.out,OK.out];simp)
    go_wp2
    go_ret
    exact⟨by rw[HR.out];rfl,rfl⟩
   ·have x0: ¬97<=(s[k]'hlt).toNat:=by omega
    have y0: ¬(97:Int)<=(((s[k]'hlt).toNat:Nat):Int):=by omega
    have x1: ¬65<=(s[k]'hlt).toNat:=by omega
    have y1: ¬(65:Int)<=(((s[k]'hlt).toNat:Nat):Int):=by omega
    have x2: ¬48<=(s[k]'hlt).toNat:=by omega
    have y2: ¬(48:Int)<=(((s[k]'hlt).toNat:Nat):Int):=by omega
    have e45:(s[k]'hlt).toNat=45:=by omega
    have f45:(((s[k]'hlt).toNat:Nat):Int)=45:=by omega
    have e95: ¬(s[k]'hlt).toNat=95:=by omega
    have f95: ¬(((s[k]'hlt).toNat:Nat):Int)=95:=by omega
    have e46: ¬(s[k]'hlt).toNat=46:=by omega
    have f46: ¬(((s[k]'hlt).toNat:Nat):Int)=46:=by omega
    have OK:=Lib.hid (show lG (s[k]'hlt)=true by rw[fm];omega)
    go_wp2
    exact⟨⟨k+1,by omega,by simp,by rw[←HV.out,HD.out,OK.out,Bool.true_and]⟩,by simp[intOf];omega⟩
   ·have x0: ¬97<=(s[k]'hlt).toNat:=by omega
    have y0: ¬(97:Int)<=(((s[k]'hlt).toNat:Nat):Int):=by omega
    have x1: ¬65<=(s[k]'hlt).toNat:=by omega
    have y1: ¬(65:Int)<=(((s[k]'hlt).toNat:Nat):Int):=by omega
    have x2: ¬48<=(s[k]'hlt).toNat:=by omega
    have y2: ¬(48:Int)<=(((s[k]'hlt).toNat:Nat):Int):=by omega
    have e45: ¬(s[k]'hlt).toNat=45:=by omega
    have f45: ¬(((s[k]'hlt).toNat:Nat):Int)=45:=by omega
    have e95: ¬(s[k]'hlt).toNat=95:=by omega
    have f95: ¬(((s[k]'hlt).toNat:Nat):Int)=95:=by omega
    have e46:(s[k]'hlt).toNat=46:=by omega
    have f46:(((s[k]'hlt).toNat:Nat):Int)=46:=by omega
    have OK:=Lib.hid (show lG (s[k]'hlt)=true by rw[fm];omega)
    go_wp2
    exact⟨⟨k+1,by omega,by simp,by rw[←HV.out,HD.out,OK.out,Bool.true_and]⟩,by simp[intOf];omega⟩
   ·have x0: ¬97<=(s[k]'hlt).toNat:=by omega
    have y0: ¬(97:Int)<=(((s[k]'hlt).toNat:Nat):Int):=by omega
    have x1: ¬65<=(s[k]'hlt).toNat:=by omega
    have y1: ¬(65:Int)<=(((s[k]'hlt).toNat:Nat):Int):=by omega
    have x2: ¬48<=(s[k]'hlt).toNat:=by omega
    have y2: ¬(48:Int)<=(((s[k]'hlt).toNat:Nat):Int):=by omega
    have e45: ¬(s[k]'hlt).toNat=45:=by omega
    have f45: ¬(((s[k]'hlt).toNat:Nat):Int)=45:=by omega
    have e95: ¬(s[k]'hlt).toNat=95:=by omega
    have f95: ¬(((s[k]'hlt).toNat:Nat):Int)=95:=by omega
    have e46: ¬(s[k]'hlt).toNat=46:=by omega
    have f46: ¬(((s[k]'hlt).toNat:Nat):Int)=46:=by omega
    have OK:=Lib.hid (show lG (s[k]'hlt)=false by rw[c9];omega)
    have HR:=Lib.hid (show bU s=false by unfold bU;rw[←HV.out,HD.out,OK.out];simp)
    go_wp2
    go_ret
    exact⟨by rw[HR.out];rfl,rfl⟩
   ·have x0: ¬97<=(s[k]'hlt).toNat:=by omega
    have y0: ¬(97:Int)<=(((s[k]'hlt).toNat:Nat):Int):=by omega
    have x1: ¬65<=(s[k]'hlt).toNat:=by omega
    have y1: ¬(65:Int)<=(((s[k]'hlt).toNat:Nat):Int):=by omega
    have x2:48<=(s[k]'hlt).toNat:=by omega
    have y2:(48:Int)<=(((s[k]'hlt).toNat:Nat):Int):=by omega
    have x3:(s[k]'hlt).toNat<=57:=by omega
    have y3:(((s[k]'hlt).toNat:Nat):Int)<=(57:Int):=by omega
    have OK:=Lib.hid (show lG (s[k]'hlt)=true by rw[fm];omega)
    go_wp2
    exact⟨⟨k+1,by omega,by simp,by rw[←HV.out,HD.out,OK.out,Bool.true_and]⟩,by simp[intOf];omega⟩
   ·have x0: ¬97<=(s[k]'hlt).toNat:=by omega
    have y0: ¬(97:Int)<=(((s[k]'hlt).toNat:Nat):Int):=by omega
    have x1: ¬65<=(s[k]'hlt).toNat:=by omega
    have y1: ¬(65:Int)<=(((s[k]'hlt).toNat:Nat):Int):=by omega
    have x2:48<=(s[k]'hlt).toNat:=by omega
    have y2:(48:Int)<=(((s[k]'hlt).toNat:Nat):Int):=by omega
    have x3: ¬(s[k]'hlt).toNat<=57:=by omega
    have y3: ¬(((s[k]'hlt).toNat:Nat):Int)<=(57:Int):=by omega
    have e45: ¬(s[k]'hlt).toNat=45:=by omega
    have f45: ¬(((s[k]'hlt).toNat:Nat):Int)=45:=by omega
    have e95: ¬(s[k]'hlt).toNat=95:=by omega
    have f95: ¬(((s[k]'hlt).toNat:Nat):Int)=95:=by omega
    have e46: ¬(s[k]'hlt).toNat=46:=by omega
    have f46: ¬(((s[k]'hlt).toNat:Nat):Int)=46:=by omega
    have OK:=Lib.hid (show lG (s[k]'hlt)=false by rw[c9];omega)
    have HR:=Lib.hid (show bU s=false by unfold bU;rw[←HV.out,HD.out,OK.out];simp)
    go_wp2
    go_ret
    exact⟨by rw[HR.out];rfl,rfl⟩
   ·have x0: ¬97<=(s[k]'hlt).toNat:=by omega
    have y0: ¬(97:Int)<=(((s[k]'hlt).toNat:Nat):Int):=by omega
    have x1:65<=(s[k]'hlt).toNat:=by omega
    have y1:(65:Int)<=(((s[k]'hlt).toNat:Nat):Int):=by omega
    have x2:(s[k]'hlt).toNat<=90:=by omega
    have y2:(((s[k]'hlt).toNat:Nat):Int)<=(90:Int):=by omega
    have OK:=Lib.hid (show lG (s[k]'hlt)=true by rw[fm];omega)
    go_wp2
    exact⟨⟨k+1,by omega,by simp,by rw[←HV.out,HD.out,OK.out,Bool.true_and]⟩,by simp[intOf];omega⟩
   ·have x0: ¬97<=(s[k]'hlt).toNat:=by omega
    have y0: ¬(97:Int)<=(((s[k]'hlt).toNat:Nat):Int):=by omega
    have x1:65<=(s[k]'hlt).toNat:=by omega
    have y1:(65:Int)<=(((s[k]'hlt).toNat:Nat):Int):=by omega
    have x2: ¬(s[k]'hlt).toNat<=90:=by omega
    have y2: ¬(((s[k]'hlt).toNat:Nat):Int)<=(90:Int):=by omega
    have x3:48<=(s[k]'hlt).toNat:=by omega
    have y3:(48:Int)<=(((s[k]'hlt).toNat:Nat):Int):=by omega
    have x4: ¬(s[k]'hlt).toNat<=57:=by omega
    have y4: ¬(((s[k]'hlt).toNat:Nat):Int)<=(57:Int):=by omega
    have e45: ¬(s[k]'hlt).toNat=45:=by omega
    have f45: ¬(((s[k]'hlt).toNat:Nat):Int)=45:=by omega
    have e95: ¬(s[k]'hlt).toNat=95:=by omega
    have f95: ¬(((s[k]'hlt).toNat:Nat):Int)=95:=by omega
    have e46: ¬(s[k]'hlt).toNat=46:=by omega
    have f46: ¬(((s[k]'hlt).toNat:Nat):Int)=46:=by omega
    have OK:=Lib.hid (show lG (s[k]'hlt)=false by rw[c9];omega)
    have HR:=Lib.hid (show bU s=false by unfold bU;rw[←HV.out,HD.out,OK.out];simp)
    go_wp2
    go_ret
    exact⟨by rw[HR.out];rfl,rfl⟩
   ·have x0: ¬97<=(s[k]'hlt).toNat:=by omega
    have y0: ¬(97:Int)<=(((s[k]'hlt).toNat:Nat):Int):=by omega
    have x1:65<=(s[k]'hlt).toNat:=by omega
    have y1:(65:Int)<=(((s[k]'hlt).toNat:Nat):Int):=by omega
    have x2: ¬(s[k]'hlt).toNat<=90:=by omega
    have y2: ¬(((s[k]'hlt).toNat:Nat):Int)<=(90:Int):=by omega
    have x3:48<=(s[k]'hlt).toNat:=by omega
    have y3:(48:Int)<=(((s[k]'hlt).toNat:Nat):Int):=by omega
    have x4: ¬(s[k]'hlt).toNat<=57:=by omega
    have y4: ¬(((s[k]'hlt).toNat:Nat):Int)<=(57:Int):=by omega
    have e45: ¬(s[k]'hlt).toNat=45:=by omega
    have f45: ¬(((s[k]'hlt).toNat:Nat):Int)=45:=by omega
    have e95:(s[k]'hlt).toNat=95:=by omega
    have f95:(((s[k]'hlt).toNat:Nat):Int)=95:=by omega
    have e46: ¬(s[k]'hlt).toNat=46:=by omega
    have f46: ¬(((s[k]'hlt).toNat:Nat):Int)=46:=by omega
    have OK:=Lib.hid (show lG (s[k]'hlt)=true by rw[fm];omega)
    go_wp2
    exact⟨⟨k+1,by omega,by simp,by rw[←HV.out,HD.out,OK.out,Bool.true_and]⟩,by simp[intOf];omega⟩
   ·have x0: ¬97<=(s[k]'hlt).toNat:=by omega
    have y0: ¬(97:Int)<=(((s[k]'hlt).toNat:Nat):Int):=by omega
    have x1:65<=(s[k]'hlt).toNat:=by omega
    have y1:(65:Int)<=(((s[k]'hlt).toNat:Nat):Int):=by omega
    have x2: ¬(s[k]'hlt).toNat<=90:=by omega
    have y2: ¬(((s[k]'hlt).toNat:Nat):Int)<=(90:Int):=by omega
    have x3:48<=(s[k]'hlt).toNat:=by omega
    have y3:(48:Int)<=(((s[k]'hlt).toNat:Nat):Int):=by omega
    have x4: ¬(s[k]'hlt).toNat<=57:=by omega
    have y4: ¬(((s[k]'hlt).toNat:Nat):Int)<=(57:Int):=by omega
    have e45: ¬(s[k]'hlt).toNat=45:=by omega
    have f45: ¬(((s[k]'hlt).toNat:Nat):Int)=45:=by omega
    have e95: ¬(s[k]'hlt).toNat=95:=by omega
    have f95: ¬(((s[k]'hlt).toNat:Nat):Int)=95:=by omega
    have e46: ¬(s[k]'hlt).toNat=46:=by omega
    have f46: ¬(((s[k]'hlt).toNat:Nat):Int)=46:=by omega
    have OK:=Lib.hid (show lG (s[k]'hlt)=false by rw[c9];omega)
    have HR:=Lib.hid (show bU s=false by unfold bU;rw[←HV.out,HD.out,OK.out];simp)
    go_wp2
    go_ret
    exact⟨by rw[HR.out];rfl,rfl⟩
   ·have x0:97<=(s[k]'hlt).toNat:=by omega
    have y0:(97:Int)<=(((s[k]'hlt).toNat:Nat):Int):=by omega
    have x1:(s[k]'hlt).toNat<=122:=by omega
    have y1:(((s[k]'hlt).toNat:Nat):Int)<=(122:Int):=by omega
    have OK:=Lib.hid (show lG (s[k]'hlt)=true by rw[fm];omega)
    go_wp2
    exact⟨⟨k+1,by omega,by simp,by rw[←HV.out,HD.out,OK.out,Bool.true_and]⟩,by simp[intOf];omega⟩
   ·have x0:97<=(s[k]'hlt).toNat:=by omega
    have y0:(97:Int)<=(((s[k]'hlt).toNat:Nat):Int):=by omega
    have x1: ¬(s[k]'hlt).toNat<=122:=by omega
    have y1: ¬(((s[k]'hlt).toNat:Nat):Int)<=(122:Int):=by omega
    have x2:65<=(s[k]'hlt).toNat:=by omega
    have y2:(65:Int)<=(((s[k]'hlt).toNat:Nat):Int):=by omega
    have x3: ¬(s[k]'hlt).toNat<=90:=by omega
    have y3: ¬(((s[k]'hlt).toNat:Nat):Int)<=(90:Int):=by omega
    have x4:48<=(s[k]'hlt).toNat:=by omega
    have y4:(48:Int)<=(((s[k]'hlt).toNat:Nat):Int):=by omega
    have x5: ¬(s[k]'hlt).toNat<=57:=by omega
    have y5: ¬(((s[k]'hlt).toNat:Nat):Int)<=(57:Int):=by omega
    have e45: ¬(s[k]'hlt).toNat=45:=by omega
    have f45: ¬(((s[k]'hlt).toNat:Nat):Int)=45:=by omega
    have e95: ¬(s[k]'hlt).toNat=95:=by omega
    have f95: ¬(((s[k]'hlt).toNat:Nat):Int)=95:=by omega
    have e46: ¬(s[k]'hlt).toNat=46:=by omega
    have f46: ¬(((s[k]'hlt).toNat:Nat):Int)=46:=by omega
    have OK:=Lib.hid (show lG (s[k]'hlt)=false by rw[c9];omega)
    have HR:=Lib.hid (show bU s=false by unfold bU;rw[←HV.out,HD.out,OK.out];simp)
    go_wp2
    go_ret
    exact⟨by rw[HR.out];rfl,rfl⟩
  ·have he:s.data.toList.all lG=true:=by rw[←HV.out];exact GQ s k (by omega)
   by_cases h0:0<s.size
   ·by_cases h1:s.size<=32
    ·have HR:=Lib.hid (show bU s=true by unfold bU;rw[he];simp[h0,h1])
     clear he
     have h0':(0:Int)<(s.size:Int):=by omega
     have h1':(s.size:Int)<=32:=by omega
     go_wp2
     go_ret
     exact⟨by rw[HR.out];rfl,rfl⟩
    ·have HR:=Lib.hid (show bU s=false by unfold bU;rw[he];simp[h0,h1])
     clear he
     have h0':(0:Int)<(s.size:Int):=by omega
     have h1': ¬(s.size:Int)<=32:=by omega
     go_wp2
     go_ret
     exact⟨by rw[HR.out];rfl,rfl⟩
   ·have HR:=Lib.hid (show bU s=false by unfold bU;rw[he];simp[h0])
    clear he
    have h0': ¬(0:Int)<(s.size:Int):=by omega
    go_wp2
    go_ret
    exact⟨by rw[HR.out];rfl,rfl⟩
set_option maxHeartbeats 8000000 in
theorem MQ(s:ByteArray)(w:World)(hs:s.size<=9223372036854775807):Calls Tryz.prog 135 #[.string s] w fun e w'=>e= .returned (.bool (bU s))/\w=w':=by
 by_cases h0:0<s.size
 case neg=>
  have HR:=Lib.hid (show bU s=false by unfold bU;simp[h0])
  have h0':(s.size:Int)<1:=by omega
  go_enter Tryz.func135,Tryz.ntmps135
  go_wp2
  go_ret
  exact⟨by rw[HR.out];rfl,rfl⟩
 by_cases h1:s.size<=32
 case neg=>
  have HR:=Lib.hid (show bU s=false by unfold bU;simp[h1])
  have h0': ¬(s.size:Int)<1:=by omega
  have h1':(32:Int)<(s.size:Int):=by omega
  go_enter Tryz.func135,Tryz.ntmps135
  go_wp2
  go_ret
  exact⟨by rw[HR.out];rfl,rfl⟩
 have h0': ¬(s.size:Int)<1:=by omega
 have h1': ¬(32:Int)<(s.size:Int):=by omega
 go_enter Tryz.func135,Tryz.ntmps135
 go_wp2
 go_loop [3] (fun i=> ∃k:Nat,k<=s.size/\i= .int .i64 k/\(s.data.toList.drop k).all lG=s.data.toList.all lG) (fun i=>s.size - (intOf i).toNat)
 case atStart=>exact⟨0,Nat.zero_le _,rfl,rfl⟩
 case round=>
  obtain⟨k,hk,rfl,hv⟩:=hrel
  have HV:=Lib.hid hv
  clear hv
  by_cases hlt:k<s.size
  ·have HD:=Lib.hid (CO s k hlt)
   have hb:(s[k]'hlt).toNat<256:=(s[k]'hlt).toNat_lt
   have hcat:(0<=(s[k]'hlt).toNat/\(s[k]'hlt).toNat<=44)\/(45<=(s[k]'hlt).toNat/\(s[k]'hlt).toNat<=45)\/(46<=(s[k]'hlt).toNat/\(s[k]'hlt).toNat<=46)\/(47<=(s[k]'hlt).toNat/\(s[k]'hlt).toNat<=47)\/(48<=(s[k]'hlt).toNat/\(s[k]'hlt).toNat<=57)\/(58<=(s[k]'hlt).toNat/\(s[k]'hlt).toNat<=64)\/(65<=(s[k]'hlt).toNat/\(s[k]'hlt).toNat<=90)\/(91<=(s[k]'hlt).toNat/\(s[k]'hlt).toNat<=94)\/(95<=(s[k]'hlt).toNat/\(s[k]'hlt).toNat<=95)\/(96<=(s[k]'hlt).toNat/\(s[k]'hlt).toNat<=96)\/(97<=(s[k]'hlt).toNat/\(s[k]'hlt).toNat<=122)\/(123<=(s[k]'hlt).toNat/\(s[k]'hlt).toNat<=255):=by omega
   rcases hcat with hcat|hcat|hcat|hcat|hcat|hcat|hcat|hcat|hcat|hcat|hcat|hcat
   ·have x0: ¬97<=(s[k]'hlt).toNat:=by omega
    have y0: ¬(97:Int)<=(((s[k]'hlt).toNat:Nat):Int):=by omega
    have x1: ¬65<=(s[k]'hlt).toNat:=by omega
    have y1: ¬(65:Int)<=(((s[k]'hlt).toNat:Nat):Int):=by omega
    have x2: ¬48<=(s[k]'hlt).toNat:=by omega
    have y2: ¬(48:Int)<=(((s[k]'hlt).toNat:Nat):Int):=by omega
    have e45: ¬(s[k]'hlt).toNat=45:=by omega
    have f45: ¬(((s[k]'hlt).toNat:Nat):Int)=45:=by omega
    have g45:((((s[k]'hlt).toNat:Nat):Int) !=45)=true:=by rw[bne_iff_ne];exact f45
    have e95: ¬(s[k]'hlt).toNat=95:=by omega
    have f95: ¬(((s[k]'hlt).toNat:Nat):Int)=95:=by omega
    have g95:((((s[k]'hlt).toNat:Nat):Int) !=95)=true:=by rw[bne_iff_ne];exact f95
    have e46: ¬(s[k]'hlt).toNat=46:=by omega
    have f46: ¬(((s[k]'hlt).toNat:Nat):Int)=46:=by omega
    have g46:((((s[k]'hlt).toNat:Nat):Int) !=46)=true:=by rw[bne_iff_ne];exact f46
    have OK:=Lib.hid (show lG (s[k]'hlt)=false by rw[c9];omega)
    have HR:=Lib.hid (show bU s=false by unfold bU;rw[←HV.out,HD.out,OK.out];simp)
    go_wp2
    go_ret
    exact⟨by rw[HR.out];rfl,rfl⟩
   ·have x0: ¬97<=(s[k]'hlt).toNat:=by omega
    have y0: ¬(97:Int)<=(((s[k]'hlt).toNat:Nat):Int):=by omega
    have x1: ¬65<=(s[k]'hlt).toNat:=by omega
    have y1: ¬(65:Int)<=(((s[k]'hlt).toNat:Nat):Int):=by omega
    have x2: ¬48<=(s[k]'hlt).toNat:=by omega
    have y2: ¬(48:Int)<=(((s[k]'hlt).toNat:Nat):Int):=by omega
    have e45:(s[k]'hlt).toNat=45:=by omega
    have f45:(((s[k]'hlt).toNat:Nat):Int)=45:=by omega
    have g45:((((s[k]'hlt).toNat:Nat):Int) !=45)=false:=by rw[f45];rfl
    have e95: ¬(s[k]'hlt).toNat=95:=by omega
    have f95: ¬(((s[k]'hlt).toNat:Nat):Int)=95:=by omega
    have g95:((((s[k]'hlt).toNat:Nat):Int) !=95)=true:=by rw[bne_iff_ne];exact f95
    have e46: ¬(s[k]'hlt).toNat=46:=by omega
    have f46: ¬(((s[k]'hlt).toNat:Nat):Int)=46:=by omega
    have g46:((((s[k]'hlt).toNat:Nat):Int) !=46)=true:=by rw[bne_iff_ne];exact f46
    have OK:=Lib.hid (show lG (s[k]'hlt)=true by rw[fm];omega)
    go_wp2
    exact⟨⟨k+1,by omega,by simp,by rw[←HV.out,HD.out,OK.out,Bool.true_and]⟩,by simp[intOf];omega⟩
   ·have x0: ¬97<=(s[k]'hlt).toNat:=by omega
    have y0: ¬(97:Int)<=(((s[k]'hlt).toNat:Nat):Int):=by omega
    have x1: ¬65<=(s[k]'hlt).toNat:=by omega
    have y1: ¬(65:Int)<=(((s[k]'hlt).toNat:Nat):Int):=by omega
    have x2: ¬48<=(s[k]'hlt).toNat:=by omega
    have y2: ¬(48:Int)<=(((s[k]'hlt).toNat:Nat):Int):=by omega
    have e45: ¬(s[k]'hlt).toNat=45:=by omega
    have f45: ¬(((s[k]'hlt).toNat:Nat):Int)=45:=by omega
    have g45:((((s[k]'hlt).toNat:Nat):Int) !=45)=true:=by rw[bne_iff_ne];exact f45
    have e95: ¬(s[k]'hlt).toNat=95:=by omega
    have f95: ¬(((s[k]'hlt).toNat:Nat):Int)=95:=by omega
    have g95:((((s[k]'hlt).toNat:Nat):Int) !=95)=true:=by rw[bne_iff_ne];exact f95
    have e46:(s[k]'hlt).toNat=46:=by omega
    have f46:(((s[k]'hlt).toNat:Nat):Int)=46:=by omega
    have g46:((((s[k]'hlt).toNat:Nat):Int) !=46)=false:=by rw[f46];rfl
    have OK:=Lib.hid (show lG (s[k]'hlt)=true by rw[fm];omega)
    go_wp2
    exact⟨⟨k+1,by omega,by simp,by rw[←HV.out,HD.out,OK.out,Bool.true_and]⟩,by simp[intOf];omega⟩
   ·have x0: ¬97<=(s[k]'hlt).toNat:=by omega
    have y0: ¬(97:Int)<=(((s[k]'hlt).toNat:Nat):Int):=by omega
    have x1: ¬65<=(s[k]'hlt).toNat:=by omega
    have y1: ¬(65:Int)<=(((s[k]'hlt).toNat:Nat):Int):=by omega
    have x2: ¬48<=(s[k]'hlt).toNat:=by omega
    have y2: ¬(48:Int)<=(((s[k]'hlt).toNat:Nat):Int):=by omega
    have e45: ¬(s[k]'hlt).toNat=45:=by omega
    have f45: ¬(((s[k]'hlt).toNat:Nat):Int)=45:=by omega
    have g45:((((s[k]'hlt).toNat:Nat):Int) !=45)=true:=by rw[bne_iff_ne];exact f45
    have e95: ¬(s[k]'hlt).toNat=95:=by omega
    have f95: ¬(((s[k]'hlt).toNat:Nat):Int)=95:=by omega
    have g95:((((s[k]'hlt).toNat:Nat):Int) !=95)=true:=by rw[bne_iff_ne];exact f95
    have e46: ¬(s[k]'hlt).toNat=46:=by omega
    have f46: ¬(((s[k]'hlt).toNat:Nat):Int)=46:=by omega
    have g46:((((s[k]'hlt).toNat:Nat):Int) !=46)=true:=by rw[bne_iff_ne];exact f46
    have OK:=Lib.hid (show lG (s[k]'hlt)=false by rw[c9];omega)
    have HR:=Lib.hid (show bU s=false by unfold bU;rw[←HV.out,HD.out,OK.out];simp)
    go_wp2
    go_ret
    exact⟨by rw[HR.out];rfl,rfl⟩
   ·have x0: ¬97<=(s[k]'hlt).toNat:=by omega
    have y0: ¬(97:Int)<=(((s[k]'hlt).toNat:Nat):Int):=by omega
    have x1: ¬65<=(s[k]'hlt).toNat:=by omega
    have y1: ¬(65:Int)<=(((s[k]'hlt).toNat:Nat):Int):=by omega
    have x2:48<=(s[k]'hlt).toNat:=by omega
    have y2:(48:Int)<=(((s[k]'hlt).toNat:Nat):Int):=by omega
    have x3:(s[k]'hlt).toNat<=57:=by omega
    have y3:(((s[k]'hlt).toNat:Nat):Int)<=(57:Int):=by omega
    have OK:=Lib.hid (show lG (s[k]'hlt)=true by rw[fm];omega)
    go_wp2
    exact⟨⟨k+1,by omega,by simp,by rw[←HV.out,HD.out,OK.out,Bool.true_and]⟩,by simp[intOf];omega⟩
   ·have x0: ¬97<=(s[k]'hlt).toNat:=by omega
    have y0: ¬(97:Int)<=(((s[k]'hlt).toNat:Nat):Int):=by omega
    have x1: ¬65<=(s[k]'hlt).toNat:=by omega
    have y1: ¬(65:Int)<=(((s[k]'hlt).toNat:Nat):Int):=by omega
    have x2:48<=(s[k]'hlt).toNat:=by omega
    have y2:(48:Int)<=(((s[k]'hlt).toNat:Nat):Int):=by omega
    have x3: ¬(s[k]'hlt).toNat<=57:=by omega
    have y3: ¬(((s[k]'hlt).toNat:Nat):Int)<=(57:Int):=by omega
    have e45: ¬(s[k]'hlt).toNat=45:=by omega
    have f45: ¬(((s[k]'hlt).toNat:Nat):Int)=45:=by omega
    have g45:((((s[k]'hlt).toNat:Nat):Int) !=45)=true:=by rw[bne_iff_ne];exact f45
    have e95: ¬(s[k]'hlt).toNat=95:=by omega
    have f95: ¬(((s[k]'hlt).toNat:Nat):Int)=95:=by omega
    have g95:((((s[k]'hlt).toNat:Nat):Int) !=95)=true:=by rw[bne_iff_ne];exact f95
    have e46: ¬(s[k]'hlt).toNat=46:=by omega
    have f46: ¬(((s[k]'hlt).toNat:Nat):Int)=46:=by omega
    have g46:((((s[k]'hlt).toNat:Nat):Int) !=46)=true:=by rw[bne_iff_ne];exact f46
    have OK:=Lib.hid (show lG (s[k]'hlt)=false by rw[c9];omega)
    have HR:=Lib.hid (show bU s=false by unfold bU;rw[←HV.out,HD.out,OK.out];simp)
    go_wp2
    go_ret
    exact⟨by rw[HR.out];rfl,rfl⟩
   ·have x0: ¬97<=(s[k]'hlt).toNat:=by omega
    have y0: ¬(97:Int)<=(((s[k]'hlt).toNat:Nat):Int):=by omega
    have x1:65<=(s[k]'hlt).toNat:=by omega
    have y1:(65:Int)<=(((s[k]'hlt).toNat:Nat):Int):=by omega
    have x2:(s[k]'hlt).toNat<=90:=by omega
    have y2:(((s[k]'hlt).toNat:Nat):Int)<=(90:Int):=by omega
    have OK:=Lib.hid (show lG (s[k]'hlt)=true by rw[fm];omega)
    go_wp2
    exact⟨⟨k+1,by omega,by simp,by rw[←HV.out,HD.out,OK.out,Bool.true_and]⟩,by simp[intOf];omega⟩
   ·have x0: ¬97<=(s[k]'hlt).toNat:=by omega
    have y0: ¬(97:Int)<=(((s[k]'hlt).toNat:Nat):Int):=by omega
    have x1:65<=(s[k]'hlt).toNat:=by omega
    have y1:(65:Int)<=(((s[k]'hlt).toNat:Nat):Int):=by omega
    have x2: ¬(s[k]'hlt).toNat<=90:=by omega
    have y2: ¬(((s[k]'hlt).toNat:Nat):Int)<=(90:Int):=by omega
    have x3:48<=(s[k]'hlt).toNat:=by omega
    have y3:(48:Int)<=(((s[k]'hlt).toNat:Nat):Int):=by omega
    have x4: ¬(s[k]'hlt).toNat<=57:=by omega
    have y4: ¬(((s[k]'hlt).toNat:Nat):Int)<=(57:Int):=by omega
    have e45: ¬(s[k]'hlt).toNat=45:=by omega
    have f45: ¬(((s[k]'hlt).toNat:Nat):Int)=45:=by omega
    have g45:((((s[k]'hlt).toNat:Nat):Int) !=45)=true:=by rw[bne_iff_ne];exact f45
    have e95: ¬(s[k]'hlt).toNat=95:=by omega
    have f95: ¬(((s[k]'hlt).toNat:Nat):Int)=95:=by omega
    have g95:((((s[k]'hlt).toNat:Nat):Int) !=95)=true:=by rw[bne_iff_ne];exact f95
    have e46: ¬(s[k]'hlt).toNat=46:=by omega
    have f46: ¬(((s[k]'hlt).toNat:Nat):Int)=46:=by omega
    have g46:((((s[k]'hlt).toNat:Nat):Int) !=46)=true:=by rw[bne_iff_ne];exact f46
    have OK:=Lib.hid (show lG (s[k]'hlt)=false by rw[c9];omega)
    have HR:=Lib.hid (show bU s=false by unfold bU;rw[←HV.out,HD.out,OK.out];simp)
    go_wp2
    go_ret
    exact⟨by rw[HR.out];rfl,rfl⟩
   ·have x0: ¬97<=(s[k]'hlt).toNat:=by omega
    have y0: ¬(97:Int)<=(((s[k]'hlt).toNat:Nat):Int):=by omega
    have x1:65<=(s[k]'hlt).toNat:=by omega
    have y1:(65:Int)<=(((s[k]'hlt).toNat:Nat):Int):=by omega
    have x2: ¬(s[k]'hlt).toNat<=90:=by omega
    have y2: ¬(((s[k]'hlt).toNat:Nat):Int)<=(90:Int):=by omega
    have x3:48<=(s[k]'hlt).toNat:=by omega
    have y3:(48:Int)<=(((s[k]'hlt).toNat:Nat):Int):=by omega
    have x4: ¬(s[k]'hlt).toNat<=57:=by omega
    have y4: ¬(((s[k]'hlt).toNat:Nat):Int)<=(57:Int):=by omega
    have e45: ¬(s[k]'hlt).toNat=45:=by omega
    have f45: ¬(((s[k]'hlt).toNat:Nat):Int)=45:=by omega
    have g45:((((s[k]'hlt).toNat:Nat):Int) !=45)=true:=by rw[bne_iff_ne];exact f45
    have e95:(s[k]'hlt).toNat=95:=by omega
    have f95:(((s[k]'hlt).toNat:Nat):Int)=95:=by omega
    have g95:((((s[k]'hlt).toNat:Nat):Int) !=95)=false:=by rw[f95];rfl
    have e46: ¬(s[k]'hlt).toNat=46:=by omega
    have f46: ¬(((s[k]'hlt).toNat:Nat):Int)=46:=by omega
    have g46:((((s[k]'hlt).toNat:Nat):Int) !=46)=true:=by rw[bne_iff_ne];exact f46
    have OK:=Lib.hid (show lG (s[k]'hlt)=true by rw[fm];omega)
    go_wp2
    exact⟨⟨k+1,by omega,by simp,by rw[←HV.out,HD.out,OK.out,Bool.true_and]⟩,by simp[intOf];omega⟩
   ·have x0: ¬97<=(s[k]'hlt).toNat:=by omega
    have y0: ¬(97:Int)<=(((s[k]'hlt).toNat:Nat):Int):=by omega
    have x1:65<=(s[k]'hlt).toNat:=by omega
    have y1:(65:Int)<=(((s[k]'hlt).toNat:Nat):Int):=by omega
    have x2: ¬(s[k]'hlt).toNat<=90:=by omega
    have y2: ¬(((s[k]'hlt).toNat:Nat):Int)<=(90:Int):=by omega
    have x3:48<=(s[k]'hlt).toNat:=by omega
    have y3:(48:Int)<=(((s[k]'hlt).toNat:Nat):Int):=by omega
    have x4: ¬(s[k]'hlt).toNat<=57:=by omega
    have y4: ¬(((s[k]'hlt).toNat:Nat):Int)<=(57:Int):=by omega
    have e45: ¬(s[k]'hlt).toNat=45:=by omega
    have f45: ¬(((s[k]'hlt).toNat:Nat):Int)=45:=by omega
    have g45:((((s[k]'hlt).toNat:Nat):Int) !=45)=true:=by rw[bne_iff_ne];exact f45
    have e95: ¬(s[k]'hlt).toNat=95:=by omega
    have f95: ¬(((s[k]'hlt).toNat:Nat):Int)=95:=by omega
    have g95:((((s[k]'hlt).toNat:Nat):Int) !=95)=true:=by rw[bne_iff_ne];exact f95
    have e46: ¬(s[k]'hlt).toNat=46:=by omega
    have f46: ¬(((s[k]'hlt).toNat:Nat):Int)=46:=by omega
    have g46:((((s[k]'hlt).toNat:Nat):Int) !=46)=true:=by rw[bne_iff_ne];exact f46
    have OK:=Lib.hid (show lG (s[k]'hlt)=false by rw[c9];omega)
    have HR:=Lib.hid (show bU s=false by unfold bU;rw[←HV.out,HD.out,OK.out];simp)
    go_wp2
    go_ret
    exact⟨by rw[HR.out];rfl,rfl⟩
   ·have x0:97<=(s[k]'hlt).toNat:=by omega
    have y0:(97:Int)<=(((s[k]'hlt).toNat:Nat):Int):=by omega
    have x1:(s[k]'hlt).toNat<=122:=by omega
    have y1:(((s[k]'hlt).toNat:Nat):Int)<=(122:Int):=by omega
    have OK:=Lib.hid (show lG (s[k]'hlt)=true by rw[fm];omega)
    go_wp2
    exact⟨⟨k+1,by omega,by simp,by rw[←HV.out,HD.out,OK.out,Bool.true_and]⟩,by simp[intOf];omega⟩
   ·have x0:97<=(s[k]'hlt).toNat:=by omega
    have y0:(97:Int)<=(((s[k]'hlt).toNat:Nat):Int):=by omega
    have x1: ¬(s[k]'hlt).toNat<=122:=by omega
    have y1: ¬(((s[k]'hlt).toNat:Nat):Int)<=(122:Int):=by omega
    have x2:65<=(s[k]'hlt).toNat:=by omega
    have y2:(65:Int)<=(((s[k]'hlt).toNat:Nat):Int):=by omega
    have x3: ¬(s[k]'hlt).toNat<=90:=by omega
    have y3: ¬(((s[k]'hlt).toNat:Nat):Int)<=(90:Int):=by omega
    have x4:48<=(s[k]'hlt).toNat:=by omega
    have y4:(48:Int)<=(((s[k]'hlt).toNat:Nat):Int):=by omega
    have x5: ¬(s[k]'hlt).toNat<=57:=by omega
    have y5: ¬(((s[k]'hlt).toNat:Nat):Int)<=(57:Int):=by omega
    have e45: ¬(s[k]'hlt).toNat=45:=by omega
    have f45: ¬(((s[k]'hlt).toNat:Nat):Int)=45:=by omega
    have g45:((((s[k]'hlt).toNat:Nat):Int) !=45)=true:=by rw[bne_iff_ne];exact f45
    have e95: ¬(s[k]'hlt).toNat=95:=by omega
    have f95: ¬(((s[k]'hlt).toNat:Nat):Int)=95:=by omega
    have g95:((((s[k]'hlt).toNat:Nat):Int) !=95)=true:=by rw[bne_iff_ne];exact f95
    have e46: ¬(s[k]'hlt).toNat=46:=by omega
    have f46: ¬(((s[k]'hlt).toNat:Nat):Int)=46:=by omega
    have g46:((((s[k]'hlt).toNat:Nat):Int) !=46)=true:=by rw[bne_iff_ne];exact f46
    have OK:=Lib.hid (show lG (s[k]'hlt)=false by rw[c9];omega)
    have HR:=Lib.hid (show bU s=false by unfold bU;rw[←HV.out,HD.out,OK.out];simp)
    go_wp2
    go_ret
    exact⟨by rw[HR.out];rfl,rfl⟩
  ·have he:s.data.toList.all lG=true:=by rw[←HV.out];exact GQ s k (by omega)
   have HR:=Lib.hid (show bU s=true by unfold bU;rw[he];simp[h0,h1])
   clear he
   go_wp2
   go_ret
   exact⟨by rw[HR.out];rfl,rfl⟩
end Go.Proofs.Nw
namespace Go.Proofs.Nw
open Go Go.AV
set_option maxRecDepth 100000
def dW(l:List bS)(i:Nat):Option Int:=match l[i]? with
 |some x=>if bU x.id=false then some 12 else if (l.take i).any (fun y=>y.id.data==x.id.data) then some 6 else if x.aQ<0\/16<=x.aQ\/x.change<0\/3600<x.change then some 2 else none
 |none=>none
def cD(l:List bS):Int × Int:=if 64<l.length then (0,5) else scan (dW l) l.length 0
structure cu(z:T aa)(k:Nat)(rows:List (List Value)):Prop where
 here:rows≠[]-> ∃e,z.get k=some (.ax (br e rows.flatten))
 size: ∀r∈rows,∀s:ByteArray,Value.string s∈r->s.size<=9223372036854775807
theorem cu.sz{z:T aa}{k:Nat}{rows:List (List Value)}(h:cu z k rows){i:Nat}{r:List Value}{s:ByteArray}(hr:rows[i]? =some r)(hs:Value.string s∈r):s.size<=9223372036854775807:=h.size r (List.mem_of_getElem? hr) s hs
theorem cu.ax{z:T aa}{k i:Nat}{rows:List (List Value)}(h:cu z k rows)(hi:i<rows.length): ∃e,z.get k=some (.ax (br e rows.flatten)):=
 h.here (fun e=>by rw[e] at hi;simp at hi)
theorem aO{α:Type}{row:α->List Value}{sz:Nat}(l:List α)(h: ∀x,(row x).length=sz): ∀r∈l.map row,r.length=sz:=by
 intro r hr
 obtain⟨y,_,rfl⟩:=List.mem_map.1 hr
 exact h y
theorem aK{n:Nat}(h:n<1000000000):Value.int .i64 (IntKind.i64.wrap ((n:Int)+1))=Value.int .i64 ((n+1:Nat):Int):=by
 have:IntKind.i64.wrap ((n:Int)+1)=(n:Int)+1:=by
  simp only[IntKind.wrap,IntKind.signed,IntKind.bits]
  simp
  omega
 rw[this];rfl
theorem s8{s:ByteArray}{l:List ByteArray}:Value.string s∈l.map Value.string↔s∈l:=by
 rw[List.mem_map]
 exact⟨fun⟨x,h1,h2⟩=>by cases h2;exact h1,fun h=>⟨s,h,rfl⟩⟩
section
variable{z:T aa}{zn:Nat}
theorem JK(hz:aq z zn)(hg:eR Tryz.prog z gP)(l:List bS)(cp:Nat)(ht:cu z 2 (l.map bS.row))(hl:l.length<100000)(r:Int × Int)(hr:scan (dW l) l.length 0=r):
 ai Tryz.prog (ah (ag Tryz.f79) 0) 1 54 (Gd l.length cp 0) [(0,bt [])] 1 z zn (Al.R (Qm z zn l.length cp r.1 r.2).l):=by
 refine ak hD hg (α:=Nat) 1 54 1 (fun i=>i<=l.length/\scan (dW l) (l.length - i) i=r) (fun i=>Gd l.length cp i) (fun i=>[(0,bt (((l.take i).map bS.id).map .string))]) (fun _=>z) (fun _=>zn) (fun i=>l.length - i) _ (fun i hI=>?_) 0 ⟨Nat.zero_le _,hr⟩
 obtain⟨h1,h2⟩:=hI
 by_cases hi:i<l.length
 ·obtain⟨e,he⟩:=ht.ax (i:=i) (by simpa using hi)
  obtain⟨x,hx⟩: ∃x,l[i]? =some x:=⟨l[i],List.getElem?_eq_getElem hi⟩
  have hid:=Sf (ht.sz (i:=i) (r:=x.row) (s:=x.id) (by rw[List.getElem?_map,hx];rfl) (by simp))
  have hrow:aB Tryz.prog (br e (l.map bS.row).flatten) 84 (0+i*4)=some (.agg ⟨x.row⟩):=bJ (P:=Tryz.prog) (e:=e) (t:=84) (k:=i) (r:=x.row) (sz:=4) Tryz.underlying84 rfl rfl (aO (row:=bS.row) l fun _=>rfl) (by rw[List.getElem?_map,hx];rfl)
  have hk:=Bo x.id ((l.take i).map bS.id)
  have hps:=nU ((l.take i).map bS.id)
  have hany:Value.string x.id∈((l.take i).map bS.id).map Value.string↔(l.take i).any (fun y=>y.id.data==x.id.data)=true:=by
   rw[s8,List.any_eq_true,List.mem_map]
   exact⟨fun⟨y,q1,q2⟩=>⟨y,q1,by rw[q2];exact(jn _ _).2 rfl⟩,fun⟨y,q1,q2⟩=>⟨y,q1,(jn _ _).1 q2⟩⟩
  have hc:decide ((i:Int)<(l.length:Int))=true:=by simp;omega
  have ret: ∀e:Int,dW l i=some e->Al.R (Qm z zn l.length cp r.1 r.2).l ⟨.ret,[(2,iv i),(3,zv e)],[],1,z,zn⟩:=fun e h=>by
   have:r=((i:Int),e):=by rw[←h2,de hi h]
   rw[this];exact bE trivial
  refine t100 (V5 z zn i l.length cp (br e (l.map bS.row).flatten) x (((l.take i).map bS.id).map .string) (aj _ _ _ _ _ _ _ _ _) ⟨fun _=>?_,fun h=>by rw[hc] at h;cases h⟩)
  (repeat' first|(with_reducible first|exact rfl|exact True.intro|assumption|apply And.intro|exact hz|exact hi|exact he|exact hrow|exact hk.no|exact hk.ex|exact df _ hps rfl|exact aK (by omega))|exact(rfl:Int.ofNat _=_)|exact(rfl:gP _ _=_)|exact hz|exact hi|exact he|exact hrow|exact hk.no|exact hk.ex|exact df _ hps rfl|exact aK (by omega)|intro hq)
  all_goals try (have hm:=hk.CP (by with_reducible assumption);rw[hany] at hm)
  all_goals try (have hm:=hk.IB (by with_reducible assumption);rw[hany] at hm)
  all_goals clear hk hps hrow hany he ht hz hr
  all_goals first
   |(refine ret _ ?_;clear ret h2;simp only[dW,hx];simp_all;done)
   |(refine ret _ ?_;clear ret h2;simp only[dW,hx];simp_all;omega)
   |with_reducible assumption
   |skip
  have hb:dW l i=none:=by
   clear ret h2
   simp only[dW,hx]
   rw[if_neg (by simp_all),if_neg hm,if_neg (by simp only[decide_eq_false_iff_not] at*;omega)]
  refine⟨i+1,rfl,?_,rfl,rfl,rfl,⟨hi,by rw[←cP hi hb];exact h2⟩,by show l.length - (i+1)<l.length - i;omega⟩
  rw[fj]
  show _=[(0,bt (((l.take (i+1)).map bS.id).map .string))]
  rw[List.take_add_one,hx]
  simp
 ·have hc:decide ((i:Int)<(l.length:Int))=false:=by simp;omega
  refine t100 (V5 z zn i l.length cp ⟨[],0,0,0,true,true,0,true⟩ ⟨⟨#[]⟩,0,true,0⟩ (((l.take i).map bS.id).map .string) (aj _ _ _ _ _ _ _ _ _) ⟨fun h=>(by rw[hc] at h;cases h),fun _=>?_⟩)
  (repeat' first|(with_reducible first|exact rfl|exact True.intro|assumption|apply And.intro|exact hz)|exact(rfl:Int.ofNat _=_)|exact(rfl:gP _ _=_)|exact hz|intro hq)
  refine dp (bE ?_)
  rw[dy (by omega)] at h2
  rw[←h2]
  exact⟨rfl,rfl⟩
theorem N9(hz:aq z zn)(hg:eR Tryz.prog z gP)(l:List bS)(cp:Nat)(ht:cu z 2 (l.map bS.row)):
 A1 z zn 79 [tb 2 l.length cp] [] 0 0 (.tuple ⟨[zv (cD l).1,zv (cD l).2]⟩) []:=by
 refine aY hg (fn:=Tryz.f79) (by kernel_rfl) (by kernel_rfl) hz ⟨by decide,by decide⟩ rfl (U0 z zn l.length cp (cD l).1 (cD l).2 _ ?_)
 by_cases h:64<l.length
 ·have hr:cD l=(0,5):=if_pos h
  have hc:decide ((l.length:Int)>64)=true:=by simp;omega
  rw[hr]
  refine⟨fun _=>?_,fun h=>(by rw[hc] at h;cases h)⟩
  (repeat' first|(with_reducible first|exact rfl|exact True.intro|assumption|apply And.intro|exact hz)|exact(rfl:Int.ofNat _=_)|exact(rfl:gP _ _=_)|exact hz|intro hq)
  exact q1
 ·have hr:cD l=scan (dW l) l.length 0:=if_neg h
  have hc:decide ((l.length:Int)>64)=false:=by simp;omega
  have hL:=JK hz hg l cp ht (by omega) (cD l) hr.symm
  refine⟨fun h=>(by rw[hc] at h;cases h),fun _=>?_⟩
  (repeat' first|(with_reducible first|exact rfl|exact True.intro|assumption|apply And.intro|exact hz|exact hL)|exact(rfl:Int.ofNat _=_)|exact(rfl:gP _ _=_)|exact hz|exact hL|intro hq)
  ·exact q1
  ·rw[hq.1,hq.2];exact q1
theorem KE(hz:aq z zn)(hg:eR Tryz.prog z gP):A1 z zn 79 [ay] [] 0 0 (.tuple ⟨[I 0,I 0]⟩) []:=by
 have hL:ai Tryz.prog (ah (ag Tryz.f79) 0) 1 54 vF [(0,bt [])] 1 z zn (Al.R (Ql z zn).l):=by
  refine ak hD hg (α:=Unit) 1 54 1 (fun _=>True) (fun _=>vF) (fun _=>[(0,bt [])]) (fun _=>z) (fun _=>zn) (fun _=>0) _ (fun i hI=>?_) () trivial
  refine t100 (TT z zn (aj _ _ _ _ _ _ _ _ _) ?_)
  (repeat' first|(with_reducible first|exact rfl|exact True.intro|assumption|apply And.intro|exact hz)|exact(rfl:Int.ofNat _=_)|exact(rfl:gP _ _=_)|exact hz|intro hq)
  exact bE trivial
 refine aY hg (fn:=Tryz.f79) (by kernel_rfl) (by kernel_rfl) hz ⟨by decide,by decide⟩ rfl (UZ z zn _ ?_)
 (repeat' first|(with_reducible first|exact rfl|exact True.intro|assumption|apply And.intro|exact hz|exact hL|exact q1)|exact(rfl:Int.ofNat _=_)|exact(rfl:gP _ _=_)|exact hz|exact hL|exact q1|intro hq)
end
theorem jo{α:Type}{p:α->Bool}{l:List α}{k:Nat}{y:α}(h:l[k]? =some y):(l.take (k+1)).any p=((l.take k).any p||p y):=by
 rw[List.take_add_one,h,List.any_append];simp
theorem any_true{α:Type}{p:α->Bool}{l:List α}{i k:Nat}{y:α}(h:l[k]? =some y)(hk:k<i)(hp:p y=true):(l.take i).any p=true:=by
 rw[List.any_eq_true]
 exact⟨y,List.mem_of_getElem? (by rw[List.getElem?_take,if_pos hk,h]),hp⟩
theorem ey{α:Type}{l:List α}{i:Nat}(h:i<l.length): ∃x,l[i]? =some x:=⟨l[i],List.getElem?_eq_getElem h⟩
theorem oe(a b:ByteArray):(a.toList==b.toList)=(a.data==b.data):=by
 rw[ByteArray.toList_eq,ByteArray.toList_eq]
 cases h:(a.data==b.data) with
 |true=>have:=(jn a b).1 h;subst this;simp
 |false=>
  cases h2:(a.data.toList==b.data.toList) with
  |false=>rfl
  |true=>
   have h3:a.data.toList=b.data.toList:=by simpa using h2
   have:a.data=b.data:=by cases ha:a.data;cases hb:b.data;rw[ha,hb] at h3;simp at h3;rw[h3]
   rw[this] at h;simp at h
section
variable{z:T aa}{zn:Nat}
theorem Gk(hz:aq z zn)(hg:eR Tryz.prog z gP)(l:List bS)(cp:Nat)(e:TypeId)(he:z.get 2=some (.ax (br e (l.map bS.row).flatten)))(hl:l.length<100000)(i:Nat)(x:bS)(hx:l[i]? =some x)(b:Bool)(hb:b=(l.take i).any fun y=>y.id.data==x.id.data):
 ai Tryz.prog (ah (ah (ag Tryz.f87) 0) 0) 0 57 (vJ l.length cp i 0) [] 0 z zn (Al.R (Qs z zn l.length cp i b).l):=by
 have hil:i<l.length:=(List.getElem?_eq_some_iff.1 hx).1
 refine ak hD hg (α:=Nat) 0 57 0 (fun k=>k<=i/\((l.take k).any fun y=>y.id.data==x.id.data)=false) (fun k=>vJ l.length cp i k) (fun _=>[]) (fun _=>z) (fun _=>zn) (fun k=>i - k) _ (fun k hI=>?_) 0 ⟨Nat.zero_le _,rfl⟩
 obtain⟨h1,h2⟩:=hI
 have hlen:=aO (row:=bS.row) (sz:=4) l fun _=>rfl
 have rx:aB Tryz.prog (br e (l.map bS.row).flatten) 9 (0+i*4+0)=some (.string x.id):=bh (r:=x.row) (j:=0) Tryz.underlying9 rfl hlen (by rw[List.getElem?_map,hx];rfl) rfl
 by_cases hk:k<i
 ·obtain⟨y,hy⟩:=ey (l:=l) (i:=k) (by omega)
  have ry:aB Tryz.prog (br e (l.map bS.row).flatten) 9 (0+k*4+0)=some (.string y.id):=bh (r:=y.row) (j:=0) Tryz.underlying9 rfl hlen (by rw[List.getElem?_map,hy];rfl) rfl
  have hc:decide ((k:Int)<(i:Int))=true:=by simp;omega
  refine t100 (P5 z zn i k l.length cp (br e (l.map bS.row).flatten) x y (aj _ _ _ _ _ _ _ _ _) ⟨fun _=>?_,fun h=>(by rw[hc] at h;cases h)⟩)
  (repeat' first|(with_reducible first|exact rfl|exact True.intro|assumption|apply And.intro|exact hz|exact he|exact rx|exact ry|exact hil|exact(by omega:k<l.length)|exact aK (by omega))|exact(rfl:Int.ofNat _=_)|exact(rfl:gP _ _=_)|exact hz|exact he|exact rx|exact ry|exact hil|exact(by omega:k<l.length)|exact aK (by omega)|intro hq)
  ·rw[oe] at hq
   exact bE (by rw[hb];exact any_true hy hk hq)
  ·rw[oe] at hq
   exact⟨k+1,rfl,rfl,rfl,rfl,rfl,⟨hk,by rw[jo hy,h2,hq];rfl⟩,by show i - (k+1)<i - k;omega⟩
 ·have hc:decide ((k:Int)<(i:Int))=false:=by simp;omega
  refine t100 (P5 z zn i k l.length cp (br e (l.map bS.row).flatten) x x (aj _ _ _ _ _ _ _ _ _) ⟨fun h=>(by rw[hc] at h;cases h),fun _=>?_⟩)
  (repeat' first|(with_reducible first|exact rfl|exact True.intro|assumption|apply And.intro|exact hz)|exact(rfl:Int.ofNat _=_)|exact(rfl:gP _ _=_)|exact hz|intro hq)
  refine dp (bE ?_)
  rw[hb,←h2,show k=i by omega]
theorem JO(hz:aq z zn)(hg:eR Tryz.prog z gP)(l:List bS)(cp:Nat)(ht:cu z 2 (l.map bS.row))(hl:l.length<100000)(r:Int × Int)(hr:scan (dW l) l.length 0=r):
 ai Tryz.prog (ah (ag Tryz.f87) 0) 0 57 (xf l.length cp 0) [] 0 z zn (Al.R (Qt z zn l.length cp r.1 r.2).l):=by
 refine ak hD hg (α:=Nat) 0 57 0 (fun i=>i<=l.length/\scan (dW l) (l.length - i) i=r) (fun i=>xf l.length cp i) (fun i=>[]) (fun _=>z) (fun _=>zn) (fun i=>l.length - i) _ (fun i hI=>?_) 0 ⟨Nat.zero_le _,hr⟩
 obtain⟨h1,h2⟩:=hI
 by_cases hi:i<l.length
 ·obtain⟨e,he⟩:=ht.ax (i:=i) (by simpa using hi)
  obtain⟨x,hx⟩:=ey hi
  have hid:=Se (ht.sz (i:=i) (r:=x.row) (s:=x.id) (by rw[List.getElem?_map,hx];rfl) (by simp))
  have hlen:=aO (row:=bS.row) (sz:=4) l fun _=>rfl
  have hr:(l.map bS.row)[i]? =some x.row:=by rw[List.getElem?_map,hx];rfl
  have r0:aB Tryz.prog (br e (l.map bS.row).flatten) 9 (0+i*4+0)=some (.string x.id):=bh (j:=0) Tryz.underlying9 rfl hlen hr rfl
  have r1:aB Tryz.prog (br e (l.map bS.row).flatten) 3 (0+i*4+1)=some (zv x.aQ):=bh (j:=1) Tryz.underlying3 rfl hlen hr rfl
  have r3:aB Tryz.prog (br e (l.map bS.row).flatten) 3 (0+i*4+3)=some (zv x.change):=bh (j:=3) Tryz.underlying3 rfl hlen hr rfl
  have hL:=Gk hz hg l cp e he hl i x hx _ rfl
  generalize hb:((l.take i).any fun y=>y.id.data==x.id.data)=b at hL
  have hc:decide ((i:Int)<(l.length:Int))=true:=by simp;omega
  have ret: ∀e:Int,dW l i=some e->Al.R (Qt z zn l.length cp r.1 r.2).l ⟨.ret,[(2,iv i),(3,zv e)],[],0,z,zn⟩:=fun e h=>by
   have:r=((i:Int),e):=by rw[←h2,de hi h]
   rw[this];exact bE trivial
  have hbad:dW l i=if bU x.id=false then some 12 else if b=true then some 6 else if x.aQ<0\/16<=x.aQ\/x.change<0\/3600<x.change then some 2 else none:=by
   simp only[dW,hx,hb]
  refine t100 (We z zn i l.length cp (br e (l.map bS.row).flatten) x b (aj _ _ _ _ _ _ _ _ _) ⟨fun _=>?_,fun h=>(by rw[hc] at h;cases h)⟩)
  (repeat' first|(with_reducible first|exact rfl|exact True.intro|assumption|apply And.intro|exact hz|exact hi|exact he|exact r0|exact r1|exact r3|exact hL|exact aK (by omega))|exact(rfl:Int.ofNat _=_)|exact(rfl:gP _ _=_)|exact hz|exact hi|exact he|exact r0|exact r1|exact r3|exact hL|exact aK (by omega)|intro hq)
  all_goals clear hL r0 r1 r3 hr hlen he ht hz
  all_goals first
   |with_reducible assumption
   |rfl
   |(refine ret _ ?_;clear ret h2;rw[hbad];simp_all;done)
   |(refine ret _ ?_;clear ret h2;rw[hbad];simp_all;omega)
   |(have hb0:dW l i=none:=by
      clear ret h2
      rw[hbad,if_neg (by simp_all),if_neg (by simp_all),if_neg (by simp only[Bool.not_eq_true',Bool.not_eq_false',Bool.and_eq_true,Bool.and_eq_false_iff,decide_eq_true_eq,decide_eq_false_iff_not] at*;omega)]
     exact⟨i+1,rfl,rfl,rfl,rfl,rfl,⟨hi,by rw[←cP hi hb0];exact h2⟩,by show l.length - (i+1)<l.length - i;omega⟩)
 ·have hc:decide ((i:Int)<(l.length:Int))=false:=by simp;omega
  refine t100 (We z zn i l.length cp ⟨[],0,0,0,true,true,0,true⟩ ⟨⟨#[]⟩,0,true,0⟩ true (aj _ _ _ _ _ _ _ _ _) ⟨fun h=>(by rw[hc] at h;cases h),fun _=>?_⟩)
  (repeat' first|(with_reducible first|exact rfl|exact True.intro|assumption|apply And.intro|exact hz)|exact(rfl:Int.ofNat _=_)|exact(rfl:gP _ _=_)|exact hz|intro hq)
  refine dp (bE ?_)
  rw[dy (by omega)] at h2
  rw[←h2]
  exact⟨rfl,rfl⟩
theorem Hy(hz:aq z zn)(hg:eR Tryz.prog z gP)(l:List bS)(cp:Nat)(ht:cu z 2 (l.map bS.row)):
 A1 z zn 87 [tb 2 l.length cp] [] 0 0 (.tuple ⟨[zv (cD l).1,zv (cD l).2]⟩) []:=by
 refine aY hg (fn:=Tryz.f87) (by kernel_rfl) (by kernel_rfl) hz ⟨by decide,by decide⟩ rfl (O2 z zn l.length cp (cD l).1 (cD l).2 _ ?_)
 by_cases h:64<l.length
 ·have hr:cD l=(0,5):=if_pos h
  have hc:decide ((l.length:Int)>64)=true:=by simp;omega
  rw[hr]
  refine⟨fun _=>?_,fun h=>(by rw[hc] at h;cases h)⟩
  (repeat' first|(with_reducible first|exact rfl|exact True.intro|assumption|apply And.intro|exact hz)|exact(rfl:Int.ofNat _=_)|exact(rfl:gP _ _=_)|exact hz|intro hq)
  exact q1
 ·have hr:cD l=scan (dW l) l.length 0:=if_neg h
  have hc:decide ((l.length:Int)>64)=false:=by simp;omega
  have hL:=JO hz hg l cp ht (by omega) (cD l) hr.symm
  refine⟨fun h=>(by rw[hc] at h;cases h),fun _=>?_⟩
  (repeat' first|(with_reducible first|exact rfl|exact True.intro|assumption|apply And.intro|exact hz|exact hL)|exact(rfl:Int.ofNat _=_)|exact(rfl:gP _ _=_)|exact hz|exact hL|intro hq)
  ·exact q1
  ·rw[hq.1,hq.2];exact q1
end
def dh(l:List bd)(i:Nat):Option Int:=match l[i]? with
 |some x=>if bU x.id=false then some 12 else if (l.take i).any (fun y=>y.id.data==x.id.data) then some 6 else if x.mode<0\/8<=x.mode then some 2 else none
 |none=>none
def cC(l:List bd):Int × Int:=if 64<l.length then (0,5) else scan (dh l) l.length 0
section
variable{z:T aa}{zn:Nat}
theorem JN(hz:aq z zn)(hg:eR Tryz.prog z gP)(l:List bd)(cp:Nat)(ht:cu z 3 (l.map bd.row))(hl:l.length<100000)(r:Int × Int)(hr:scan (dh l) l.length 0=r):
 ai Tryz.prog (ah (ag Tryz.f80) 0) 1 37 (Ge l.length cp 0) [(0,bt [])] 1 z zn (Al.R (Qr z zn l.length cp r.1 r.2).l):=by
 refine ak hD hg (α:=Nat) 1 37 1 (fun i=>i<=l.length/\scan (dh l) (l.length - i) i=r) (fun i=>Ge l.length cp i) (fun i=>[(0,bt (((l.take i).map bd.id).map .string))]) (fun _=>z) (fun _=>zn) (fun i=>l.length - i) _ (fun i hI=>?_) 0 ⟨Nat.zero_le _,hr⟩
 obtain⟨h1,h2⟩:=hI
 by_cases hi:i<l.length
 ·obtain⟨e,he⟩:=ht.ax (i:=i) (by simpa using hi)
  obtain⟨x,hx⟩: ∃x,l[i]? =some x:=⟨l[i],List.getElem?_eq_getElem hi⟩
  have hid:=Sf (ht.sz (i:=i) (r:=x.row) (s:=x.id) (by rw[List.getElem?_map,hx];rfl) (by simp))
  have hrow:aB Tryz.prog (br e (l.map bd.row).flatten) 86 (0+i*3)=some (.agg ⟨x.row⟩):=bJ (P:=Tryz.prog) (e:=e) (t:=86) (k:=i) (r:=x.row) (sz:=3) Tryz.underlying86 rfl rfl (aO (row:=bd.row) l fun _=>rfl) (by rw[List.getElem?_map,hx];rfl)
  have hk:=Bo x.id ((l.take i).map bd.id)
  have hps:=nU ((l.take i).map bd.id)
  have hany:Value.string x.id∈((l.take i).map bd.id).map Value.string↔(l.take i).any (fun y=>y.id.data==x.id.data)=true:=by
   rw[s8,List.any_eq_true,List.mem_map]
   exact⟨fun⟨y,q1,q2⟩=>⟨y,q1,by rw[q2];exact(jn _ _).2 rfl⟩,fun⟨y,q1,q2⟩=>⟨y,q1,(jn _ _).1 q2⟩⟩
  have hc:decide ((i:Int)<(l.length:Int))=true:=by simp;omega
  have ret: ∀e:Int,dh l i=some e->Al.R (Qr z zn l.length cp r.1 r.2).l ⟨.ret,[(2,iv i),(3,zv e)],[],1,z,zn⟩:=fun e h=>by
   have:r=((i:Int),e):=by rw[←h2,de hi h]
   rw[this];exact bE trivial
  refine t100 (Wd z zn i l.length cp (br e (l.map bd.row).flatten) x (((l.take i).map bd.id).map .string) (aj _ _ _ _ _ _ _ _ _) ⟨fun _=>?_,fun h=>by rw[hc] at h;cases h⟩)
  (repeat' first|(with_reducible first|exact rfl|exact True.intro|assumption|apply And.intro|exact hz|exact hi|exact he|exact hrow|exact hk.no|exact hk.ex|exact df _ hps rfl|exact aK (by omega))|exact(rfl:Int.ofNat _=_)|exact(rfl:gP _ _=_)|exact hz|exact hi|exact he|exact hrow|exact hk.no|exact hk.ex|exact df _ hps rfl|exact aK (by omega)|intro hq)
  all_goals try (have hm:=hk.CP (by with_reducible assumption);rw[hany] at hm)
  all_goals try (have hm:=hk.IB (by with_reducible assumption);rw[hany] at hm)
  all_goals clear hk hps hrow hany he ht hz hr
  all_goals first
   |(refine ret _ ?_;clear ret h2;simp only[dh,hx];simp_all;done)
   |(refine ret _ ?_;clear ret h2;simp only[dh,hx];simp_all;omega)
   |with_reducible assumption
   |rfl
   |skip
  have hb:dh l i=none:=by
   clear ret h2
   simp only[dh,hx]
   rw[if_neg (by simp_all),if_neg hm,if_neg (by simp only[Bool.not_eq_true',Bool.not_eq_false',Bool.and_eq_true,Bool.and_eq_false_iff,decide_eq_true_eq,decide_eq_false_iff_not] at*;omega)]
  refine⟨i+1,rfl,?_,rfl,rfl,rfl,⟨hi,by rw[←cP hi hb];exact h2⟩,by show l.length - (i+1)<l.length - i;omega⟩
  rw[fj]
  show _=[(0,bt (((l.take (i+1)).map bd.id).map .string))]
  rw[List.take_add_one,hx]
  simp
 ·have hc:decide ((i:Int)<(l.length:Int))=false:=by simp;omega
  refine t100 (Wd z zn i l.length cp ⟨[],0,0,0,true,true,0,true⟩ ⟨⟨#[]⟩,0,true⟩ (((l.take i).map bd.id).map .string) (aj _ _ _ _ _ _ _ _ _) ⟨fun h=>(by rw[hc] at h;cases h),fun _=>?_⟩)
  (repeat' first|(with_reducible first|exact rfl|exact True.intro|assumption|apply And.intro|exact hz)|exact(rfl:Int.ofNat _=_)|exact(rfl:gP _ _=_)|exact hz|intro hq)
  refine dp (bE ?_)
  rw[dy (by omega)] at h2
  rw[←h2]
  exact⟨rfl,rfl⟩
theorem KI(hz:aq z zn)(hg:eR Tryz.prog z gP)(l:List bd)(cp:Nat)(ht:cu z 3 (l.map bd.row)):
 A1 z zn 80 [tb 3 l.length cp] [] 0 0 (.tuple ⟨[zv (cC l).1,zv (cC l).2]⟩) []:=by
 refine aY hg (fn:=Tryz.f80) (by kernel_rfl) (by kernel_rfl) hz ⟨by decide,by decide⟩ rfl (U4 z zn l.length cp (cC l).1 (cC l).2 _ ?_)
 by_cases h:64<l.length
 ·have hr:cC l=(0,5):=if_pos h
  have hc:decide ((l.length:Int)>64)=true:=by simp;omega
  rw[hr]
  refine⟨fun _=>?_,fun h=>(by rw[hc] at h;cases h)⟩
  (repeat' first|(with_reducible first|exact rfl|exact True.intro|assumption|apply And.intro|exact hz)|exact(rfl:Int.ofNat _=_)|exact(rfl:gP _ _=_)|exact hz|intro hq)
  exact q1
 ·have hr:cC l=scan (dh l) l.length 0:=if_neg h
  have hc:decide ((l.length:Int)>64)=false:=by simp;omega
  have hL:=JN hz hg l cp ht (by omega) (cC l) hr.symm
  refine⟨fun h=>(by rw[hc] at h;cases h),fun _=>?_⟩
  (repeat' first|(with_reducible first|exact rfl|exact True.intro|assumption|apply And.intro|exact hz|exact hL)|exact(rfl:Int.ofNat _=_)|exact(rfl:gP _ _=_)|exact hz|exact hL|intro hq)
  ·exact q1
  ·rw[hq.1,hq.2];exact q1
theorem HA(hz:aq z zn)(hg:eR Tryz.prog z gP):A1 z zn 80 [ay] [] 0 0 (.tuple ⟨[I 0,I 0]⟩) []:=by
 have hL:ai Tryz.prog (ah (ag Tryz.f80) 0) 1 37 vI [(0,bt [])] 1 z zn (Al.R (Qq z zn).l):=by
  refine ak hD hg (α:=Unit) 1 37 1 (fun _=>True) (fun _=>vI) (fun _=>[(0,bt [])]) (fun _=>z) (fun _=>zn) (fun _=>0) _ (fun i hI=>?_) () trivial
  refine t100 (TX z zn (aj _ _ _ _ _ _ _ _ _) ?_)
  (repeat' first|(with_reducible first|exact rfl|exact True.intro|assumption|apply And.intro|exact hz)|exact(rfl:Int.ofNat _=_)|exact(rfl:gP _ _=_)|exact hz|intro hq)
  exact bE trivial
 refine aY hg (fn:=Tryz.f80) (by kernel_rfl) (by kernel_rfl) hz ⟨by decide,by decide⟩ rfl (U3 z zn _ ?_)
 (repeat' first|(with_reducible first|exact rfl|exact True.intro|assumption|apply And.intro|exact hz|exact hL|exact q1)|exact(rfl:Int.ofNat _=_)|exact(rfl:gP _ _=_)|exact hz|exact hL|exact q1|intro hq)
end
section
variable{z:T aa}{zn:Nat}
theorem Gq(hz:aq z zn)(hg:eR Tryz.prog z gP)(l:List bd)(cp:Nat)(e:TypeId)(he:z.get 3=some (.ax (br e (l.map bd.row).flatten)))(hl:l.length<100000)(i:Nat)(x:bd)(hx:l[i]? =some x)(b:Bool)(hb:b=(l.take i).any fun y=>y.id.data==x.id.data):
 ai Tryz.prog (ah (ah (ag Tryz.f88) 0) 0) 0 48 (vK l.length cp i 0) [] 0 z zn (Al.R (Qu z zn l.length cp i b).l):=by
 have hil:i<l.length:=(List.getElem?_eq_some_iff.1 hx).1
 refine ak hD hg (α:=Nat) 0 48 0 (fun k=>k<=i/\((l.take k).any fun y=>y.id.data==x.id.data)=false) (fun k=>vK l.length cp i k) (fun _=>[]) (fun _=>z) (fun _=>zn) (fun k=>i - k) _ (fun k hI=>?_) 0 ⟨Nat.zero_le _,rfl⟩
 obtain⟨h1,h2⟩:=hI
 have hlen:=aO (row:=bd.row) (sz:=3) l fun _=>rfl
 have rx:aB Tryz.prog (br e (l.map bd.row).flatten) 9 (0+i*3+0)=some (.string x.id):=bh (r:=x.row) (j:=0) Tryz.underlying9 rfl hlen (by rw[List.getElem?_map,hx];rfl) rfl
 by_cases hk:k<i
 ·obtain⟨y,hy⟩:=ey (l:=l) (i:=k) (by omega)
  have ry:aB Tryz.prog (br e (l.map bd.row).flatten) 9 (0+k*3+0)=some (.string y.id):=bh (r:=y.row) (j:=0) Tryz.underlying9 rfl hlen (by rw[List.getElem?_map,hy];rfl) rfl
  have hc:decide ((k:Int)<(i:Int))=true:=by simp;omega
  refine t100 (P6 z zn i k l.length cp (br e (l.map bd.row).flatten) x y (aj _ _ _ _ _ _ _ _ _) ⟨fun _=>?_,fun h=>(by rw[hc] at h;cases h)⟩)
  (repeat' first|(with_reducible first|exact rfl|exact True.intro|assumption|apply And.intro|exact hz|exact he|exact rx|exact ry|exact hil|exact(by omega:k<l.length)|exact aK (by omega))|exact(rfl:Int.ofNat _=_)|exact(rfl:gP _ _=_)|exact hz|exact he|exact rx|exact ry|exact hil|exact(by omega:k<l.length)|exact aK (by omega)|intro hq)
  ·rw[oe] at hq
   exact bE (by rw[hb];exact any_true hy hk hq)
  ·rw[oe] at hq
   exact⟨k+1,rfl,rfl,rfl,rfl,rfl,⟨hk,by rw[jo hy,h2,hq];rfl⟩,by show i - (k+1)<i - k;omega⟩
 ·have hc:decide ((k:Int)<(i:Int))=false:=by simp;omega
  refine t100 (P6 z zn i k l.length cp (br e (l.map bd.row).flatten) x x (aj _ _ _ _ _ _ _ _ _) ⟨fun h=>(by rw[hc] at h;cases h),fun _=>?_⟩)
  (repeat' first|(with_reducible first|exact rfl|exact True.intro|assumption|apply And.intro|exact hz)|exact(rfl:Int.ofNat _=_)|exact(rfl:gP _ _=_)|exact hz|intro hq)
  refine dp (bE ?_)
  rw[hb,←h2,show k=i by omega]
theorem JP(hz:aq z zn)(hg:eR Tryz.prog z gP)(l:List bd)(cp:Nat)(ht:cu z 3 (l.map bd.row))(hl:l.length<100000)(r:Int × Int)(hr:scan (dh l) l.length 0=r):
 ai Tryz.prog (ah (ag Tryz.f88) 0) 0 48 (xg l.length cp 0) [] 0 z zn (Al.R (Qv z zn l.length cp r.1 r.2).l):=by
 refine ak hD hg (α:=Nat) 0 48 0 (fun i=>i<=l.length/\scan (dh l) (l.length - i) i=r) (fun i=>xg l.length cp i) (fun i=>[]) (fun _=>z) (fun _=>zn) (fun i=>l.length - i) _ (fun i hI=>?_) 0 ⟨Nat.zero_le _,hr⟩
 obtain⟨h1,h2⟩:=hI
 by_cases hi:i<l.length
 ·obtain⟨e,he⟩:=ht.ax (i:=i) (by simpa using hi)
  obtain⟨x,hx⟩:=ey hi
  have hid:=Se (ht.sz (i:=i) (r:=x.row) (s:=x.id) (by rw[List.getElem?_map,hx];rfl) (by simp))
  have hlen:=aO (row:=bd.row) (sz:=3) l fun _=>rfl
  have hr:(l.map bd.row)[i]? =some x.row:=by rw[List.getElem?_map,hx];rfl
  have r0:aB Tryz.prog (br e (l.map bd.row).flatten) 9 (0+i*3+0)=some (.string x.id):=bh (j:=0) Tryz.underlying9 rfl hlen hr rfl
  have r1:aB Tryz.prog (br e (l.map bd.row).flatten) 3 (0+i*3+1)=some (zv x.mode):=bh (j:=1) Tryz.underlying3 rfl hlen hr rfl
  have hL:=Gq hz hg l cp e he hl i x hx _ rfl
  generalize hb:((l.take i).any fun y=>y.id.data==x.id.data)=b at hL
  have hc:decide ((i:Int)<(l.length:Int))=true:=by simp;omega
  have ret: ∀e:Int,dh l i=some e->Al.R (Qv z zn l.length cp r.1 r.2).l ⟨.ret,[(2,iv i),(3,zv e)],[],0,z,zn⟩:=fun e h=>by
   have:r=((i:Int),e):=by rw[←h2,de hi h]
   rw[this];exact bE trivial
  have hbad:dh l i=if bU x.id=false then some 12 else if b=true then some 6 else if x.mode<0\/8<=x.mode then some 2 else none:=by
   simp only[dh,hx,hb]
  refine t100 (Wf z zn i l.length cp (br e (l.map bd.row).flatten) x b (aj _ _ _ _ _ _ _ _ _) ⟨fun _=>?_,fun h=>(by rw[hc] at h;cases h)⟩)
  (repeat' first|(with_reducible first|exact rfl|exact True.intro|assumption|apply And.intro|exact hz|exact hi|exact he|exact r0|exact r1|exact hL|exact aK (by omega))|exact(rfl:Int.ofNat _=_)|exact(rfl:gP _ _=_)|exact hz|exact hi|exact he|exact r0|exact r1|exact hL|exact aK (by omega)|intro hq)
  all_goals clear hL r0 r1 hr hlen he ht hz
  all_goals first
   |with_reducible assumption
   |rfl
   |(refine ret _ ?_;clear ret h2;rw[hbad];simp_all;done)
   |(refine ret _ ?_;clear ret h2;rw[hbad];simp_all;omega)
   |(have hb0:dh l i=none:=by
      clear ret h2
      rw[hbad,if_neg (by simp_all),if_neg (by simp_all),if_neg (by simp only[Bool.not_eq_true',Bool.not_eq_false',Bool.and_eq_true,Bool.and_eq_false_iff,decide_eq_true_eq,decide_eq_false_iff_not] at*;omega)]
     exact⟨i+1,rfl,rfl,rfl,rfl,rfl,⟨hi,by rw[←cP hi hb0];exact h2⟩,by show l.length - (i+1)<l.length - i;omega⟩)
 ·have hc:decide ((i:Int)<(l.length:Int))=false:=by simp;omega
  refine t100 (Wf z zn i l.length cp ⟨[],0,0,0,true,true,0,true⟩ ⟨⟨#[]⟩,0,true⟩ true (aj _ _ _ _ _ _ _ _ _) ⟨fun h=>(by rw[hc] at h;cases h),fun _=>?_⟩)
  (repeat' first|(with_reducible first|exact rfl|exact True.intro|assumption|apply And.intro|exact hz)|exact(rfl:Int.ofNat _=_)|exact(rfl:gP _ _=_)|exact hz|intro hq)
  refine dp (bE ?_)
  rw[dy (by omega)] at h2
  rw[←h2]
  exact⟨rfl,rfl⟩
theorem Es(hz:aq z zn)(hg:eR Tryz.prog z gP)(l:List bd)(cp:Nat)(ht:cu z 3 (l.map bd.row)):
 A1 z zn 88 [tb 3 l.length cp] [] 0 0 (.tuple ⟨[zv (cC l).1,zv (cC l).2]⟩) []:=by
 refine aY hg (fn:=Tryz.f88) (by kernel_rfl) (by kernel_rfl) hz ⟨by decide,by decide⟩ rfl (Zz z zn l.length cp (cC l).1 (cC l).2 _ ?_)
 by_cases h:64<l.length
 ·have hr:cC l=(0,5):=if_pos h
  have hc:decide ((l.length:Int)>64)=true:=by simp;omega
  rw[hr]
  refine⟨fun _=>?_,fun h=>(by rw[hc] at h;cases h)⟩
  (repeat' first|(with_reducible first|exact rfl|exact True.intro|assumption|apply And.intro|exact hz)|exact(rfl:Int.ofNat _=_)|exact(rfl:gP _ _=_)|exact hz|intro hq)
  exact q1
 ·have hr:cC l=scan (dh l) l.length 0:=if_neg h
  have hc:decide ((l.length:Int)>64)=false:=by simp;omega
  have hL:=JP hz hg l cp ht (by omega) (cC l) hr.symm
  refine⟨fun h=>(by rw[hc] at h;cases h),fun _=>?_⟩
  (repeat' first|(with_reducible first|exact rfl|exact True.intro|assumption|apply And.intro|exact hz|exact hL)|exact(rfl:Int.ofNat _=_)|exact(rfl:gP _ _=_)|exact hz|exact hL|intro hq)
  ·exact q1
  ·rw[hq.1,hq.2];exact q1
end
def ya(n a b:Int):Bool:=decide (a<=n) && decide (n<=b)
theorem fold(n a b:Int):(decide (a<=n) && decide (n<=b))=ya n a b:=rfl
def dX(l:List bM)(i:Nat):Option Int:=match l[i]? with
 |some x=>if bU x.id=false then some 12 else if (l.take i).any (fun y=>y.id.data==x.id.data) then some 6 else if (ya x.cy 0 1000000 && ya x.bc 1 8 && ya x.cx 1 16 && ya x.aH 0 86400 && ya x.bR 1 255)=false then some 2 else none
 |none=>none
def eZ(d w c:Int):Bool:=ya d 0 1000000 && ya w 0 86400 && ya c 0 1000000
def bD(d w c:Int)(l:List bM):Int × Int:=if eZ d w c=false then (-1,2) else if 16<l.length then (0,5) else scan (dX l) l.length 0
section
variable{z:T aa}{zn:Nat}
theorem JW(hz:aq z zn)(hg:eR Tryz.prog z gP)(l:List bM)(cp:Nat)(ht:cu z 5 (l.map bM.row))(hl:l.length<100000)(r:Int × Int)(hr:scan (dX l) l.length 0=r):
 ai Tryz.prog (ah (ag Tryz.f85) 0) 2 79 (DO l.length cp 0) [(1,bt [])] 2 z zn (Al.R (QE z zn l.length cp r.1 r.2).l):=by
 refine ak hD hg (α:=Nat) 2 79 2 (fun i=>i<=l.length/\scan (dX l) (l.length - i) i=r) (fun i=>DO l.length cp i) (fun i=>[(1,bt (((l.take i).map bM.id).map .string))]) (fun _=>z) (fun _=>zn) (fun i=>l.length - i) _ (fun i hI=>?_) 0 ⟨Nat.zero_le _,hr⟩
 obtain⟨h1,h2⟩:=hI
 by_cases hi:i<l.length
 ·obtain⟨e,he⟩:=ht.ax (i:=i) (by simpa using hi)
  obtain⟨x,hx⟩: ∃x,l[i]? =some x:=⟨l[i],List.getElem?_eq_getElem hi⟩
  have hid:=Sf (ht.sz (i:=i) (r:=x.row) (s:=x.id) (by rw[List.getElem?_map,hx];rfl) (by simp))
  have hrow:aB Tryz.prog (br e (l.map bM.row).flatten) 88 (0+i*6)=some (.agg ⟨x.row⟩):=bJ (P:=Tryz.prog) (e:=e) (t:=88) (k:=i) (r:=x.row) (sz:=6) Tryz.underlying88 rfl rfl (aO (row:=bM.row) l fun _=>rfl) (by rw[List.getElem?_map,hx];rfl)
  have hk:=Bo x.id ((l.take i).map bM.id)
  have hps:=nU ((l.take i).map bM.id)
  have hany:Value.string x.id∈((l.take i).map bM.id).map Value.string↔(l.take i).any (fun y=>y.id.data==x.id.data)=true:=by
   rw[s8,List.any_eq_true,List.mem_map]
   exact⟨fun⟨y,q1,q2⟩=>⟨y,q1,by rw[q2];exact(jn _ _).2 rfl⟩,fun⟨y,q1,q2⟩=>⟨y,q1,(jn _ _).1 q2⟩⟩
  have hc:decide ((i:Int)<(l.length:Int))=true:=by simp;omega
  have ret: ∀e:Int,dX l i=some e->Al.R (QE z zn l.length cp r.1 r.2).l ⟨.ret,[(2,iv i),(3,zv e)],[],2,z,zn⟩:=fun e h=>by
   have:r=((i:Int),e):=by rw[←h2,de hi h]
   rw[this];exact bE trivial
  refine t100 (Wj z zn i l.length cp (br e (l.map bM.row).flatten) x (((l.take i).map bM.id).map .string) (aj _ _ _ _ _ _ _ _ _) ⟨fun _=>?_,fun h=>by rw[hc] at h;cases h⟩)
  (repeat' first|(with_reducible first|exact rfl|exact True.intro|assumption|apply And.intro|exact hz|exact hi|exact he|exact hrow|exact hk.no|exact hk.ex|exact df _ hps rfl|exact aK (by omega))|exact(rfl:Int.ofNat _=_)|exact(rfl:gP _ _=_)|exact hz|exact hi|exact he|exact hrow|exact hk.no|exact hk.ex|exact df _ hps rfl|exact aK (by omega)|intro hq)
  all_goals try (have hm:=hk.CP (by with_reducible assumption);rw[hany] at hm)
  all_goals try (have hm:=hk.IB (by with_reducible assumption);rw[hany] at hm)
  all_goals clear hk hps hrow hany he ht hz hr
  all_goals first
   |(refine ret _ ?_;clear ret h2;simp only[dX,hx];(try simp only[fold] at*);simp_all;done)
   |(refine ret _ ?_;clear ret h2;simp only[dX,hx];(try simp only[fold] at*);simp_all;omega)
   |with_reducible assumption
   |rfl
   |skip
  have hb:dX l i=none:=by
   clear ret h2
   simp only[dX,hx]
   rw[if_neg (by simp_all),if_neg hm,if_neg (by(try simp only[fold] at*);simp_all;done)]
  refine⟨i+1,rfl,?_,rfl,rfl,rfl,⟨hi,by rw[←cP hi hb];exact h2⟩,by show l.length - (i+1)<l.length - i;omega⟩
  rw[fj]
  show _=[(1,bt (((l.take (i+1)).map bM.id).map .string))]
  rw[List.take_add_one,hx]
  simp
 ·have hc:decide ((i:Int)<(l.length:Int))=false:=by simp;omega
  refine t100 (Wj z zn i l.length cp ⟨[],0,0,0,true,true,0,true⟩ ⟨⟨#[]⟩,0,0,0,0,0⟩ (((l.take i).map bM.id).map .string) (aj _ _ _ _ _ _ _ _ _) ⟨fun h=>(by rw[hc] at h;cases h),fun _=>?_⟩)
  (repeat' first|(with_reducible first|exact rfl|exact True.intro|assumption|apply And.intro|exact hz)|exact(rfl:Int.ofNat _=_)|exact(rfl:gP _ _=_)|exact hz|intro hq)
  refine dp (bE ?_)
  rw[dy (by omega)] at h2
  rw[←h2]
  exact⟨rfl,rfl⟩
theorem Of(hz:aq z zn)(hg:eR Tryz.prog z gP)(l:List bM)(cp:Nat)(ht:cu z 5 (l.map bM.row))(d w c:Int):
 A1 z zn 85 [.agg ⟨[tb 5 l.length cp,zv d,zv w,zv c]⟩] [] 0 0 (.tuple ⟨[zv (bD d w c l).1,zv (bD d w c l).2]⟩) []:=by
 refine aY hg (fn:=Tryz.f85) (by kernel_rfl) (by kernel_rfl) hz ⟨by decide,by decide⟩ rfl (Vb z zn l.length cp (bD d w c l).1 (bD d w c l).2 d w c _ ?_)
 cases hf:eZ d w c with
 |false=>
  have hr:bD d w c l=(-1,2):=if_pos hf
  rw[hr]
  unfold eZ at hf
  (repeat' first|(with_reducible first|exact rfl|exact True.intro|assumption|apply And.intro|exact hz|exact q1)|exact(rfl:Int.ofNat _=_)|exact(rfl:gP _ _=_)|exact hz|exact q1|intro hq)
  all_goals (exfalso;(try simp only[fold] at*);simp_all;done)
 |true=>
  by_cases h:16<l.length
  ·have hr:bD d w c l=(0,5):=by unfold bD;rw[if_neg (by simp[hf]),if_pos h]
   have hc:decide ((l.length:Int)>16)=true:=by simp;omega
   rw[hr]
   unfold eZ at hf
   (repeat' first|(with_reducible first|exact rfl|exact True.intro|assumption|apply And.intro|exact hz|exact q1)|exact(rfl:Int.ofNat _=_)|exact(rfl:gP _ _=_)|exact hz|exact q1|intro hq)
   all_goals (exfalso;(try simp only[fold] at*);simp_all;done)
  ·have hr:bD d w c l=scan (dX l) l.length 0:=by unfold bD;rw[if_neg (by simp[hf]),if_neg h]
   have hc:decide ((l.length:Int)>16)=false:=by simp;omega
   have hL:=JW hz hg l cp ht (by omega) (bD d w c l) hr.symm
   unfold eZ at hf
   (repeat' first|(with_reducible first|exact rfl|exact True.intro|assumption|apply And.intro|exact hz|exact hL|exact q1)|exact(rfl:Int.ofNat _=_)|exact(rfl:gP _ _=_)|exact hz|exact hL|exact q1|intro hq)
   all_goals first|(rw[hq.1,hq.2];exact q1)|(exfalso;(try simp only[fold] at*);simp_all;done)|trace_state
end
def ib(p:Option bB)(x:bB):Bool:=match p with|some p=>decide (p.stop=x.stop)|none=>false
def early(p:Option bB)(x:bB):Bool:=match p with|some p=>decide (x.arr<p.dep)|none=>false
def bq(p:Option bB)(x:bB)(s lo hi:Int):Int:=
 if x.stop<0\/s<=x.stop then 9 else if ib p x=true then 13 else if x.arr<lo\/x.dep<x.arr\/hi<x.dep\/early p x=true then 10 else 0
def prev(l:List bB)(i:Nat):Option bB:=if i=0 then none else l[i - 1]?
def fR(l:List bB)(s lo hi:Int)(i:Nat):Option Int:=match l[i]? with
 |some x=>if bq (prev l i) x s lo hi=0 then none else some (bq (prev l i) x s lo hi)
 |none=>none
def bK(l:List bB)(s lo hi:Int):Int × Int:=if l.length<2\/32<l.length then (0,5) else scan (fR l s lo hi) l.length 0
theorem Lq{i:Nat}(h0:0<i)(h:i<1000000000):Value.int .i64 (IntKind.i64.wrap ((i:Int) - 1))=Value.int .i64 ((i:Int) - 1):=by
 have:IntKind.i64.wrap ((i:Int) - 1)=(i:Int) - 1:=by
  simp only[IntKind.wrap,IntKind.signed,IntKind.bits]
  simp
  omega
 rw[this]
theorem aT(σ:bA)(k n c:Nat):aX (az σ []) (tb k n c)=some (tb k n c):=by
 have:az σ [] (256*k+510)=some (256*k+510):=by
  rw[iN (by unfold cL;omega)];rfl
 simp only[aX,this]
section
variable{z:T aa}{zn:Nat}
theorem Rm(hz:aq z zn)(hg:eR Tryz.prog z gP)(k:Nat)(l:List bB)(cp:Nat)(ht:cu z k (l.map bB.row))(hl:l.length<100000)(s lo hi:Int)(i:Nat)(x:bB)(hx:l[i]? =some x):
 A1 z zn 186 [tb k l.length cp,iv i,zv s,zv lo,zv hi] [] 0 0 (zv (bq (prev l i) x s lo hi)) []:=by
 have hil:i<l.length:=(List.getElem?_eq_some_iff.1 hx).1
 obtain⟨e,he⟩:=ht.ax (i:=i) (by simpa using hil)
 have hlen:=aO (row:=bB.row) (sz:=5) l fun _=>rfl
 have hrow:aB Tryz.prog (br e (l.map bB.row).flatten) 59 (0+i*5)=some (.agg ⟨x.row⟩):=bJ (r:=x.row) (sz:=5) Tryz.underlying59 rfl rfl hlen (by rw[List.getElem?_map,hx];rfl)
 obtain⟨p,hp0,hp⟩: ∃p:bB,(0<i->prev l i=some p)/\(0<i->l[i - 1]? =some p):=by
  by_cases h:0<i
  ·obtain⟨p,hp⟩:=ey (l:=l) (i:=i - 1) (by omega)
   exact⟨p,fun _=>by unfold prev;rw[if_neg (by omega),hp],fun _=>hp⟩
  ·exact⟨x,fun h'=>(h h').elim,fun h'=>(h h').elim⟩
 refine aY hg (fn:=Tryz.f186) (by kernel_rfl) (by kernel_rfl) hz ⟨by decide,by decide⟩ rfl (Vc z zn k i l.length cp s lo hi (br e (l.map bB.row).flatten) x p _ ?_)
 rcases Nat.eq_zero_or_pos i with h0|h0
 ·have hpr:prev l i=none:=if_pos h0
  have hc:decide ((i:Int)>0)=false:=by simp;omega
  (repeat' first|(with_reducible first|exact rfl|exact True.intro|assumption|apply And.intro|exact hz|exact hil|exact he|exact hrow|exact aT _ _ _ _)|exact(rfl:Int.ofNat _=_)|exact(rfl:gP _ _=_)|exact hz|exact hil|exact he|exact hrow|exact aT _ _ _ _|intro hq)
  all_goals first
   |(exfalso;simp_all;done)
   |omega
   |(rw[hc];done)
   |(have hv:bq (prev l i) x s lo hi=9:=by rw[hpr];simp only[bq,ib,early];simp_all;(try omega)
     rw[hv];exact q1)
   |(have hv:bq (prev l i) x s lo hi=13:=by rw[hpr];simp only[bq,ib,early];simp_all;(try omega)
     rw[hv];exact q1)
   |(have hv:bq (prev l i) x s lo hi=10:=by rw[hpr];simp only[bq,ib,early];simp_all;(try omega)
     rw[hv];exact q1)
   |(have hv:bq (prev l i) x s lo hi=0:=by rw[hpr];simp only[bq,ib,early];simp_all;(try omega)
     rw[hv];exact q1)
 ·have hpr:=hp0 h0
  have r0:aB Tryz.prog (br e (l.map bB.row).flatten) 3 (0+(i - 1)*5+0)=some (zv p.stop):=bh (r:=p.row) (j:=0) Tryz.underlying3 rfl hlen (by rw[List.getElem?_map,hp h0];rfl) rfl
  have r2:aB Tryz.prog (br e (l.map bB.row).flatten) 3 (0+(i - 1)*5+2)=some (zv p.dep):=bh (r:=p.row) (j:=2) Tryz.underlying3 rfl hlen (by rw[List.getElem?_map,hp h0];rfl) rfl
  have hc:decide ((i:Int)>0)=true:=by simp;omega
  (repeat' first|(with_reducible first|exact rfl|exact True.intro|assumption|apply And.intro|exact hz|exact hil|exact he|exact hrow|exact r0|exact r2|exact aT _ _ _ _|exact(by omega:i - 1<l.length))|exact(rfl:Int.ofNat _=_)|exact(rfl:gP _ _=_)|exact hz|exact hil|exact he|exact hrow|exact r0|exact r2|exact aT _ _ _ _|exact(by omega:i - 1<l.length)|intro hq)
  all_goals first
   |(exfalso;simp_all;done)
   |exact Lq h0 (by omega)
   |omega
   |(rw[hc];done)
   |(have hv:bq (prev l i) x s lo hi=9:=by rw[hpr];simp only[bq,ib,early];simp_all;(try omega)
     rw[hv];exact q1)
   |(have hv:bq (prev l i) x s lo hi=13:=by rw[hpr];simp only[bq,ib,early];simp_all;(try omega)
     rw[hv];exact q1)
   |(have hv:bq (prev l i) x s lo hi=10:=by rw[hpr];simp only[bq,ib,early];simp_all;(try omega)
     rw[hv];exact q1)
   |(have hv:bq (prev l i) x s lo hi=0:=by rw[hpr];simp only[bq,ib,early];simp_all;(try omega)
     rw[hv];exact q1)
theorem pB{l:List bB}{s lo hi:Int}{i:Nat}{x:bB}(hx:l[i]? =some x){e:Int}(he:bq (prev l i) x s lo hi=e)(h0:e≠0):fR l s lo hi i=some e:=by
 simp only[fR,hx,he];rw[if_neg h0]
theorem pC{l:List bB}{s lo hi:Int}{i:Nat}{x:bB}(hx:l[i]? =some x)(he:bq (prev l i) x s lo hi=0):fR l s lo hi i=none:=by
 simp only[fR,hx,he];rfl
theorem J5(hz:aq z zn)(hg:eR Tryz.prog z gP)(k:Nat)(l:List bB)(cp:Nat)(ht:cu z k (l.map bB.row))(hl:l.length<100000)(s lo hi:Int)(r:Int × Int)(hr:scan (fR l s lo hi) l.length 0=r):
 ai Tryz.prog (ah (ag Tryz.f130) 0) 0 36 (DW k l.length cp s lo hi 0) [] 0 z zn (Al.R (UB z zn k l.length cp s lo hi r.1 r.2).l):=by
 refine ak hD hg (α:=Nat) 0 36 0 (fun i=>i<=l.length/\scan (fR l s lo hi) (l.length - i) i=r) (fun i=>DW k l.length cp s lo hi i) (fun _=>[]) (fun _=>z) (fun _=>zn) (fun i=>l.length - i) _ (fun i hI=>?_) 0 ⟨Nat.zero_le _,hr⟩
 obtain⟨h1,h2⟩:=hI
 by_cases hi':i<l.length
 ·obtain⟨x,hx⟩:=ey hi'
  have hone:=Rm hz hg k l cp ht hl s lo hi i x hx
  generalize he:bq (prev l i) x s lo hi=e at hone
  have hc:decide ((i:Int)<(l.length:Int))=true:=by simp;omega
  refine t100 (Wr z zn k i l.length cp s lo hi e (aj _ _ _ _ _ _ _ _ _) ⟨fun _=>?_,fun h=>(by rw[hc] at h;cases h)⟩)
  (repeat' first|(with_reducible first|exact rfl|exact True.intro|assumption|apply And.intro|exact hz|exact hone|exact aT _ _ _ _|exact aK (by omega))|exact(rfl:Int.ofNat _=_)|exact(rfl:gP _ _=_)|exact hz|exact hone|exact aT _ _ _ _|exact aK (by omega)|intro hq)
  ·have h0:e≠0:=by simpa using hq
   have:r=((i:Int),e):=by rw[←h2,de hi' (pB hx he h0)]
   rw[this];exact bE trivial
  ·have h0:e=0:=by simpa using hq
   exact⟨i+1,rfl,rfl,rfl,rfl,rfl,⟨hi',by rw[←cP hi' (pC hx (he.trans h0))];exact h2⟩,by show l.length - (i+1)<l.length - i;omega⟩
 ·have hc:decide ((i:Int)<(l.length:Int))=false:=by simp;omega
  refine t100 (Wr z zn k i l.length cp s lo hi 0 (aj _ _ _ _ _ _ _ _ _) ⟨fun h=>(by rw[hc] at h;cases h),fun _=>?_⟩)
  (repeat' first|(with_reducible first|exact rfl|exact True.intro|assumption|apply And.intro|exact hz)|exact(rfl:Int.ofNat _=_)|exact(rfl:gP _ _=_)|exact hz|intro hq)
  refine dp (bE ?_)
  rw[dy (by omega)] at h2
  rw[←h2]
  exact⟨rfl,rfl⟩
theorem KS(hz:aq z zn)(hg:eR Tryz.prog z gP)(k:Nat)(l:List bB)(cp:Nat)(ht:cu z k (l.map bB.row))(s lo hi:Int):
 A1 z zn 130 [tb k l.length cp,zv s,zv lo,zv hi] [] 0 0 (.tuple ⟨[zv (bK l s lo hi).1,zv (bK l s lo hi).2]⟩) []:=by
 refine aY hg (fn:=Tryz.f130) (by kernel_rfl) (by kernel_rfl) hz ⟨by decide,by decide⟩ rfl (ZJ z zn k l.length cp s lo hi (bK l s lo hi).1 (bK l s lo hi).2 _ ?_)
 by_cases h:l.length<2\/32<l.length
 ·have hr:bK l s lo hi=(0,5):=if_pos h
  rw[hr]
  (repeat' first|(with_reducible first|exact rfl|exact True.intro|assumption|apply And.intro|exact hz|exact q1|exact aT _ _ _ _)|exact(rfl:Int.ofNat _=_)|exact(rfl:gP _ _=_)|exact hz|exact q1|exact aT _ _ _ _|intro hq)
  all_goals first|(exfalso;simp_all;done)|(exfalso;simp_all;omega)
 ·have hr:bK l s lo hi=scan (fR l s lo hi) l.length 0:=if_neg h
  have hL:=J5 hz hg k l cp ht (by omega) s lo hi (bK l s lo hi) hr.symm
  (repeat' first|(with_reducible first|exact rfl|exact True.intro|assumption|apply And.intro|exact hz|exact hL|exact q1|exact aT _ _ _ _)|exact(rfl:Int.ofNat _=_)|exact(rfl:gP _ _=_)|exact hz|exact hL|exact q1|exact aT _ _ _ _|intro hq)
  all_goals first
   |(exfalso;simp_all;done)
   |(exfalso;simp_all;omega)
   |(rw[hq.1,hq.2];exact q1)
theorem JT(hz:aq z zn)(hg:eR Tryz.prog z gP)(k:Nat)(l:List bB)(cp:Nat)(ht:cu z k (l.map bB.row))(hl:l.length<100000)(s lo hi:Int)(r:Int × Int)(hr:scan (fR l s lo hi) l.length 0=r):
 ai Tryz.prog (ah (ag Tryz.f137) 0) 0 83 (y9 k l.length cp s lo hi 0) [] 0 z zn (Al.R (Nx z zn k l.length cp s lo hi r.2).l):=by
 refine ak hD hg (α:=Nat) 0 83 0 (fun i=>i<=l.length/\scan (fR l s lo hi) (l.length - i) i=r) (fun i=>y9 k l.length cp s lo hi i) (fun _=>[]) (fun _=>z) (fun _=>zn) (fun i=>l.length - i) _ (fun i hI=>?_) 0 ⟨Nat.zero_le _,hr⟩
 obtain⟨h1,h2⟩:=hI
 by_cases hil:i<l.length
 ·obtain⟨e,he⟩:=ht.ax (i:=i) (by simpa using hil)
  obtain⟨x,hx⟩:=ey hil
  have hlen:=aO (row:=bB.row) (sz:=5) l fun _=>rfl
  have hrow:aB Tryz.prog (br e (l.map bB.row).flatten) 59 (0+i*5)=some (.agg ⟨x.row⟩):=bJ (r:=x.row) (sz:=5) Tryz.underlying59 rfl rfl hlen (by rw[List.getElem?_map,hx];rfl)
  obtain⟨p,hp0,hp⟩: ∃p:bB,(0<i->prev l i=some p)/\(0<i->l[i - 1]? =some p):=by
   by_cases h:0<i
   ·obtain⟨p,hp⟩:=ey (l:=l) (i:=i - 1) (by omega)
    exact⟨p,fun _=>by unfold prev;rw[if_neg (by omega),hp],fun _=>hp⟩
   ·exact⟨x,fun h'=>(h h').elim,fun h'=>(h h').elim⟩
  have hc':decide ((i:Int)<(l.length:Int))=true:=by simp;omega
  have ret: ∀e:Int,bq (prev l i) x s lo hi=e->e≠0->Al.R (Nx z zn k l.length cp s lo hi r.2).l ⟨.ret,[(8,zv e)],[],0,z,zn⟩:=fun e he h0=>by
   have:r=((i:Int),e):=by rw[←h2,de hil (pB hx he h0)]
   rw[this];exact bE trivial
  have jy:bq (prev l i) x s lo hi=0->aj (fun i=>i<=l.length/\scan (fR l s lo hi) (l.length - i) i=r) (fun i=>y9 k l.length cp s lo hi i) (fun _=>[]) 0 (fun _=>z) (fun _=>zn) (fun i=>l.length - i) (Al.R (Nx z zn k l.length cp s lo hi r.2).l) i .normal (y9 k l.length cp s lo hi (i+1)) [] 0 z zn:=fun h0=>
   ⟨i+1,rfl,rfl,rfl,rfl,rfl,⟨hil,by rw[←cP hil (pC hx h0)];exact h2⟩,by show l.length - (i+1)<l.length - i;omega⟩
  refine t100 (Wi z zn k i l.length cp s lo hi (br e (l.map bB.row).flatten) x p (aj _ _ _ _ _ _ _ _ _) ⟨fun _=>?_,fun h=>(by rw[hc'] at h;cases h)⟩)
  clear h2
  rcases Nat.eq_zero_or_pos i with h0|h0
  ·have hpr:prev l i=none:=if_pos h0
   have hc:decide ((i:Int)>0)=false:=by simp;omega
   (repeat' first|(with_reducible first|exact rfl|exact True.intro|assumption|apply And.intro|exact hz|exact hil|exact he|exact hrow|exact aT _ _ _ _|exact aK (by omega))|exact(rfl:Int.ofNat _=_)|exact(rfl:gP _ _=_)|exact hz|exact hil|exact he|exact hrow|exact aT _ _ _ _|exact aK (by omega)|intro hq)
   all_goals first
    |(exfalso;clear ret jy;simp_all;done)
    |omega
    |(rw[hc];done)
    |(have hv:bq (prev l i) x s lo hi=9:=by clear ret jy;rw[hpr];simp only[bq,ib,early];simp_all;(try omega)
      exact ret _ hv (by decide))
    |(have hv:bq (prev l i) x s lo hi=13:=by clear ret jy;rw[hpr];simp only[bq,ib,early];simp_all;(try omega)
      exact ret _ hv (by decide))
    |(have hv:bq (prev l i) x s lo hi=10:=by clear ret jy;rw[hpr];simp only[bq,ib,early];simp_all;(try omega)
      exact ret _ hv (by decide))
    |(have hv:bq (prev l i) x s lo hi=0:=by clear ret jy;rw[hpr];simp only[bq,ib,early];simp_all;(try omega)
      exact jy hv)
  ·have hpr:=hp0 h0
   have r0:aB Tryz.prog (br e (l.map bB.row).flatten) 3 (0+(i - 1)*5+0)=some (zv p.stop):=bh (r:=p.row) (j:=0) Tryz.underlying3 rfl hlen (by rw[List.getElem?_map,hp h0];rfl) rfl
   have r2:aB Tryz.prog (br e (l.map bB.row).flatten) 3 (0+(i - 1)*5+2)=some (zv p.dep):=bh (r:=p.row) (j:=2) Tryz.underlying3 rfl hlen (by rw[List.getElem?_map,hp h0];rfl) rfl
   have hc:decide ((i:Int)>0)=true:=by simp;omega
   (repeat' first|(with_reducible first|exact rfl|exact True.intro|assumption|apply And.intro|exact hz|exact hil|exact he|exact hrow|exact r0|exact r2|exact aT _ _ _ _|exact(by omega:i - 1<l.length)|exact aK (by omega))|exact(rfl:Int.ofNat _=_)|exact(rfl:gP _ _=_)|exact hz|exact hil|exact he|exact hrow|exact r0|exact r2|exact aT _ _ _ _|exact(by omega:i - 1<l.length)|exact aK (by omega)|intro hq)
   all_goals first
    |(exfalso;clear ret jy;simp_all;done)
    |exact Lq h0 (by omega)
    |omega
    |(rw[hc];done)
    |(have hv:bq (prev l i) x s lo hi=9:=by clear ret jy;rw[hpr];simp only[bq,ib,early];simp_all;(try omega)
      exact ret _ hv (by decide))
    |(have hv:bq (prev l i) x s lo hi=13:=by clear ret jy;rw[hpr];simp only[bq,ib,early];simp_all;(try omega)
      exact ret _ hv (by decide))
    |(have hv:bq (prev l i) x s lo hi=10:=by clear ret jy;rw[hpr];simp only[bq,ib,early];simp_all;(try omega)
      exact ret _ hv (by decide))
    |(have hv:bq (prev l i) x s lo hi=0:=by clear ret jy;rw[hpr];simp only[bq,ib,early];simp_all;(try omega)
      exact jy hv)
 ·have hc:decide ((i:Int)<(l.length:Int))=false:=by simp;omega
  refine t100 (Wi z zn k i l.length cp s lo hi ⟨[],0,0,0,true,true,0,true⟩ ⟨0,0,0,true,true⟩ ⟨0,0,0,true,true⟩ (aj _ _ _ _ _ _ _ _ _) ⟨fun h=>(by rw[hc] at h;cases h),fun _=>?_⟩)
  (repeat' first|(with_reducible first|exact rfl|exact True.intro|assumption|apply And.intro|exact hz)|exact(rfl:Int.ofNat _=_)|exact(rfl:gP _ _=_)|exact hz|intro hq)
  refine dp (bE ?_)
  rw[dy (by omega)] at h2
  rw[←h2]
theorem HI(hz:aq z zn)(hg:eR Tryz.prog z gP)(k:Nat)(l:List bB)(cp:Nat)(ht:cu z k (l.map bB.row))(s lo hi:Int):
 A1 z zn 137 [tb k l.length cp,zv s,zv lo,zv hi] [] 0 0 (zv (bK l s lo hi).2) []:=by
 refine aY hg (fn:=Tryz.f137) (by kernel_rfl) (by kernel_rfl) hz ⟨by decide,by decide⟩ rfl (ZC z zn k l.length cp s lo hi (bK l s lo hi).2 _ ?_)
 by_cases h:l.length<2\/32<l.length
 ·have hr:bK l s lo hi=(0,5):=if_pos h
  rw[hr]
  (repeat' first|(with_reducible first|exact rfl|exact True.intro|assumption|apply And.intro|exact hz|exact q1|exact aT _ _ _ _)|exact(rfl:Int.ofNat _=_)|exact(rfl:gP _ _=_)|exact hz|exact q1|exact aT _ _ _ _|intro hq)
  all_goals first|(exfalso;simp_all;done)|(exfalso;simp_all;omega)
 ·have hr:bK l s lo hi=scan (fR l s lo hi) l.length 0:=if_neg h
  have hL:=JT hz hg k l cp ht (by omega) s lo hi (bK l s lo hi) hr.symm
  (repeat' first|(with_reducible first|exact rfl|exact True.intro|assumption|apply And.intro|exact hz|exact hL|exact q1|exact aT _ _ _ _)|exact(rfl:Int.ofNat _=_)|exact(rfl:gP _ _=_)|exact hz|exact hL|exact q1|exact aT _ _ _ _|intro hq)
  all_goals first
   |(exfalso;simp_all;done)
   |(exfalso;simp_all;omega)
   |(rw[hq];exact q1)
end
theorem prun_bind{α β:Type}{P:Program}(f:α->Sem β): ∀s:Sem α,prun P (s>>=f)=(prun P s).bind fun a=>prun P (f a)
 | .pure a=>rfl
 | .program k=>prun_bind f (k P)
 | .mark m k=>prun_bind f k
 | .load _ _ _=>rfl
 | .store _ _ _ _=>rfl
 | .new _ _=>rfl
 | .shape _ _=>rfl
 | .freeze _ _ _=>rfl
 | .frozen _ _=>rfl
 | .getObj _ _=>rfl
 | .setObj _ _ _=>rfl
 | .choose _ _=>rfl
 | .sys _ _=>rfl
 | .halt _=>rfl
theorem prun_pure{α:Type}{P:Program}(a:α):prun P (pure a:Sem α)=some a:=rfl
theorem yI{α:Type}{P:Program}(c:Prop)[Decidable c](s t:Sem α):prun P (if c then s else t)=if c then prun P s else prun P t:=by split<;>rfl
theorem lU{P:Program}(d:Nat)(t:TypeId)(xs ys:Array Value)(fs:Array Field)(ht:prun P (underlying t)=some (.struct fs))(hp:P.stoodInHeld t=false):
 prun P (Op.equalIn (d+1) t (.agg xs) (.agg ys))=prun P (Op.eqFields d xs ys fs.toList):=by
 have hprog:prun P (program:Sem Program)=some P:=rfl
 simp only[Op.equalIn,prun_bind,ht,Option.bind_some,hprog,hp,Bool.false_eq_true,if_false]
 rw[←Array.forIn_toList]
 generalize fs.toList=fs
 clear ht
 induction fs with
 |nil=>simp[Op.eqFields,prun_pure]
 |cons f fs ih=>
  simp only[List.forIn_cons,Op.eqFields,prun_bind,yI]
  split
  ·cases prun P (part f.type xs f.offset) with
   |none=>rfl
   |some a=>
    simp only[Option.bind_some]
    cases prun P (part f.type ys f.offset) with
    |none=>rfl
    |some b=>
     simp only[Option.bind_some]
     cases prun P (Op.equalIn d f.type a b) with
     |none=>rfl
     |some r=>
      cases r
      ·simp only[Option.bind_some,Bool.not_false,if_true,prun_pure]
      ·simp only[Option.bind_some,Bool.not_true,Bool.false_eq_true,if_false,prun_pure]
       exact ih
  ·simp only[prun_pure,Option.bind_some]
   exact ih
theorem yJ{P:Program}{d:Nat}{xs ys:Array Value}{f:Field}{fs:List Field}{a b:Value}{r:Bool}(hn:f.name≠ "_")(ha:prun P (part f.type xs f.offset)=some a)(hb:prun P (part f.type ys f.offset)=some b)(hr:prun P (Op.equalIn d f.type a b)=some r):
 prun P (Op.eqFields d xs ys (f::fs))=if r=true then prun P (Op.eqFields d xs ys fs) else some false:=by
 simp only[Op.eqFields,if_pos hn,prun_bind,ha,hb,hr,Option.bind_some]
 cases r<;>rfl
def fx(f:Field):Bool × TypeId × Nat:=(decide (f.name≠ "_"),f.type,f.offset)
theorem Q8{f:Field}{t o:Nat}(h:fx f=(true,t,o)):f.name≠ "_" /\f.type=t/\f.offset=o:=by
 unfold fx at h
 simp only[Prod.mk.injEq,decide_eq_true_eq] at h
 exact h
theorem step_eq{P:Program}{d:Nat}{xs ys:Array Value}{f:Field}{fs:List Field}{t o:Nat}{a b:Value}{r:Bool}(hf:fx f=(true,t,o))(ha:prun P (part t xs o)=some a)(hb:prun P (part t ys o)=some b)(hr:prun P (Op.equalIn d t a b)=some r):
 prun P (Op.eqFields d xs ys (f::fs))=if r=true then prun P (Op.eqFields d xs ys fs) else some false:=by
 obtain⟨h1,h2,h3⟩:=Q8 hf
 subst h2 h3
 exact yJ h1 ha hb hr
theorem LG{α β:Type}{g:α->β}{l:List α}{a b c:β}(h:l.map g=[a,b,c]): ∃x y z,l=[x,y,z]/\g x=a/\g y=b/\g z=c:=by
 match l,h with
 |[x,y,z],h=>simp at h;exact⟨x,y,z,rfl,h.1,h.2.1,h.2.2⟩
theorem QX{α β:Type}{g:α->β}{l:List α}{a b c d:β}(h:l.map g=[a,b,c,d]): ∃x y z u,l=[x,y,z,u]/\g x=a/\g y=b/\g z=c/\g u=d:=by
 match l,h with
 |[x,y,z,u],h=>simp at h;exact⟨x,y,z,u,rfl,h.1,h.2.1,h.2.2.1,h.2.2.2⟩
theorem Ha(a b:Int):prun Tryz.prog (Op.equalIn 9999 3 (zv a) (zv b))=some (decide (a=b)):=by kernel_rfl
theorem ZK(a b:ByteArray):prun Tryz.prog (Op.equalIn 9999 9 (.string a) (.string b))=some (a.data==b.data):=by kernel_rfl
theorem LJ(a b:Bool):prun Tryz.prog (Op.equalIn 9999 4 (.bool a) (.bool b))=some (a==b):=by kernel_rfl
theorem NW(a b:ByteArray)(x y u w:Int):prun Tryz.prog (Op.equal 225 (.agg ⟨[.string a,zv x,zv y]⟩) (.agg ⟨[.string b,zv u,zv w]⟩))=some ((a.data==b.data) && (decide (x=u) && decide (y=w))):=by
 have hm:(Tryz.prog.fieldsOf 225).toList.map fx=[(true,9,0),(true,3,1),(true,3,2)]:=by kernel_rfl
 obtain⟨f0,f1,f2,hl,h0,h1,h2⟩:=LG hm
 have hs:prun Tryz.prog (underlying 225)=some (.struct (Tryz.prog.fieldsOf 225)):=by kernel_rfl
 show prun _ (Op.equalIn (9999+1) _ _ _)=_
 rw[lU _ _ _ _ _ hs (by kernel_rfl),hl,step_eq h0 (by kernel_rfl) (by kernel_rfl) (ZK a b),step_eq h1 (by kernel_rfl) (by kernel_rfl) (Ha x u),step_eq h2 (by kernel_rfl) (by kernel_rfl) (Ha y w)]
 cases (a.data==b.data)<;>cases decide (x=u)<;>cases decide (y=w)<;>rfl
theorem G6(a b c x y z:Int)(d w:Bool):prun Tryz.prog (Op.equal 141 (.agg ⟨[zv a,zv b,zv c, .bool d]⟩) (.agg ⟨[zv x,zv y,zv z, .bool w]⟩))=some (decide (a=x) && (decide (b=y) && (decide (c=z) && (d==w)))):=by
 have hm:(Tryz.prog.fieldsOf 141).toList.map fx=[(true,3,0),(true,3,1),(true,3,2),(true,4,3)]:=by kernel_rfl
 obtain⟨f0,f1,f2,f3,hl,h0,h1,h2,h3⟩:=QX hm
 have hs:prun Tryz.prog (underlying 141)=some (.struct (Tryz.prog.fieldsOf 141)):=by kernel_rfl
 show prun _ (Op.equalIn (9999+1) _ _ _)=_
 rw[lU _ _ _ _ _ hs (by kernel_rfl),hl,step_eq h0 (by kernel_rfl) (by kernel_rfl) (Ha a x),step_eq h1 (by kernel_rfl) (by kernel_rfl) (Ha b y),step_eq h2 (by kernel_rfl) (by kernel_rfl) (Ha c z),step_eq h3 (by kernel_rfl) (by kernel_rfl) (LJ d w)]
 cases decide (a=x)<;>cases decide (b=y)<;>cases decide (c=z)<;>cases (d==w)<;>rfl
theorem G7(a b x y:Int)(d w:Bool):prun Tryz.prog (Op.equal 302 (.agg ⟨[zv a,zv b, .bool d]⟩) (.agg ⟨[zv x,zv y, .bool w]⟩))=some (decide (a=x) && (decide (b=y) && (d==w))):=by
 have hm:(Tryz.prog.fieldsOf 302).toList.map fx=[(true,3,0),(true,3,1),(true,4,2)]:=by kernel_rfl
 obtain⟨f0,f1,f3,hl,h0,h1,h3⟩:=LG hm
 have hs:prun Tryz.prog (underlying 302)=some (.struct (Tryz.prog.fieldsOf 302)):=by kernel_rfl
 show prun _ (Op.equalIn (9999+1) _ _ _)=_
 rw[lU _ _ _ _ _ hs (by kernel_rfl),hl,step_eq h0 (by kernel_rfl) (by kernel_rfl) (Ha a x),step_eq h1 (by kernel_rfl) (by kernel_rfl) (Ha b y),step_eq h3 (by kernel_rfl) (by kernel_rfl) (LJ d w)]
 cases decide (a=x)<;>cases decide (b=y)<;>cases (d==w)<;>rfl
end Go.Proofs.Nw
namespace Go.Proofs.Nw
open Go Go.AV Go.iT
set_option maxRecDepth 100000
theorem A0{P:Program}(d:Nat)(e sz:Nat)(xs ys:Array Value): ∀is:List Nat,
 prun P (Op.eqItems d e sz xs ys is)=match is with
  |[]=>some true
  |i::l=>(prun P (part e xs (i*sz))).bind fun a=>(prun P (part e ys (i*sz))).bind fun b=>(prun P (Op.equalIn d e a b)).bind fun r=>if r=true then prun P (Op.eqItems d e sz xs ys l) else some false
 |[]=>rfl
 |i::l=>by
  simp only[Op.eqItems,prun_bind]
  congr 1;funext a;congr 1;funext b;congr 1;funext r
  cases r<;>rfl
theorem A2{P:Program}(d:Nat)(t:TypeId)(xs ys:Array Value)(n e sz:Nat)(ht:prun P (underlying t)=some (.array n e))(hs:prun P (sizeOf e)=some sz):
 prun P (Op.equalIn (d+1) t (.agg xs) (.agg ys))=prun P (Op.eqItems d e sz xs ys (List.range n)):=by
 simp only[Op.equalIn,prun_bind,ht,hs,Option.bind_some]
 simp only[Std.Legacy.Range.forIn_eq_forIn_range',Std.Legacy.Range.size,Nat.sub_zero,Nat.add_one_sub_one,Nat.div_one,List.range_eq_range']
 generalize List.range' 0 n 1=is
 induction is with
 |nil=>simp[Op.eqItems,prun_pure]
 |cons i is ih=>
  simp only[List.forIn_cons,Op.eqItems,prun_bind,yI]
  cases prun P (part e xs (i*sz)) with
  |none=>rfl
  |some a=>
   simp only[Option.bind_some]
   cases prun P (part e ys (i*sz)) with
   |none=>rfl
   |some b=>
    simp only[Option.bind_some]
    cases prun P (Op.equalIn d e a b) with
    |none=>rfl
    |some r=>
     cases r
     ·simp only[Option.bind_some,Bool.not_false,if_true,prun_pure]
     ·simp only[Option.bind_some,Bool.not_true,Bool.false_eq_true,if_false,prun_pure]
      exact ih
theorem NZ(a b c d x y u w:Int):prun Tryz.prog (Op.equal 95 (.agg ⟨[zv a,zv b,zv c,zv d]⟩) (.agg ⟨[zv x,zv y,zv u,zv w]⟩))=some (decide (a=x) && (decide (b=y) && (decide (c=u) && decide (d=w)))):=by
 have ht:prun Tryz.prog (underlying 95)=some (.array 4 3):=by kernel_rfl
 have hs:prun Tryz.prog (sizeOf 3)=some 1:=by kernel_rfl
 have p0: ∀a b c d:Int,prun Tryz.prog (part 3 ⟨[zv a,zv b,zv c,zv d]⟩ (0*1))=some (zv a):=fun a b c d=>by kernel_rfl
 have p1: ∀a b c d:Int,prun Tryz.prog (part 3 ⟨[zv a,zv b,zv c,zv d]⟩ (1*1))=some (zv b):=fun a b c d=>by kernel_rfl
 have p2: ∀a b c d:Int,prun Tryz.prog (part 3 ⟨[zv a,zv b,zv c,zv d]⟩ (2*1))=some (zv c):=fun a b c d=>by kernel_rfl
 have p3: ∀a b c d:Int,prun Tryz.prog (part 3 ⟨[zv a,zv b,zv c,zv d]⟩ (3*1))=some (zv d):=fun a b c d=>by kernel_rfl
 show prun _ (Op.equalIn (9999+1) _ _ _)=_
 rw[A2 _ _ _ _ _ _ _ ht hs,show List.range 4=[0,1,2,3] from rfl]
 simp only[A0,p0,p1,p2,p3,Ha,Option.bind_some,decide_eq_true_eq]
 by_cases h1:a=x<;>by_cases h2:b=y<;>by_cases h3:c=u<;>by_cases h4:d=w<;>simp[h1,h2,h3,h4]
abbrev jH(x:aF):Value:= .agg ⟨[zv x.from_,zv x.fc,zv x.an,zv x.tc]⟩
def lE(x y:aF):Bool:=decide (y.from_=x.from_) && (decide (y.fc=x.fc) && (decide (y.an=x.an) && decide (y.tc=x.tc)))
theorem QY(x:aF)(l:List aF):kA 95 (jH x) (l.map jH):=⟨fun k' hk'=>by
 obtain⟨y,_,rfl⟩:=List.mem_map.1 hk'
 refine⟨rfl,_,NZ _ _ _ _ _ _ _ _,?_⟩
 simp only[Bool.and_eq_true,decide_eq_true_eq,jH,Value.agg.injEq,Array.mk.injEq,List.cons.injEq,Value.int.injEq,true_and,and_true]⟩
theorem Ga(x:aF)(l:List aF):jH x∈l.map jH↔l.any (lE x)=true:=by
 rw[List.mem_map,List.any_eq_true]
 simp only[lE,Bool.and_eq_true,decide_eq_true_eq,jH,Value.agg.injEq,Array.mk.injEq,List.cons.injEq,Value.int.injEq,true_and,and_true]
theorem FU(l:List aF): ∀k,k∈l.map jH->au k=true:=fun k hk=>by
 obtain⟨t,_,rfl⟩:=List.mem_map.1 hk
 rfl
theorem NJ(a:Int)(l:List Int):kA 3 (zv a) (l.map fun x=>zv x):=⟨fun k' hk'=>by
 obtain⟨y,_,rfl⟩:=List.mem_map.1 hk'
 exact⟨rfl,_,G9 _ _,by simp⟩⟩
theorem CF(a:Int)(l:List Int):zv a∈(l.map fun x=>zv x)↔a∈l:=by
 rw[List.mem_map]
 constructor
 ·rintro⟨y,h1,h2⟩;injection h2 with _ h2;rw[←h2];exact h1
 ·intro h;exact⟨a,h,rfl⟩
theorem DG(l:List Int): ∀k,k∈(l.map fun x=>zv x)->au k=true:=fun k hk=>by
 obtain⟨t,_,rfl⟩:=List.mem_map.1 hk
 rfl
theorem zP: ∀(l m:List (Int × Int)) (i:Nat),iF i (l++m)=iF i l++iF (i+l.length) m
 |[],m,i=>rfl
 |(a,b)::l,m,i=>by
  simp only[List.cons_append,iF,zP l m (i+1),List.length_cons]
  rw[show i+1+l.length=i+(l.length+1) by omega]
theorem vD(l:List (Int × Int))(a b:Int):aa.map (iF 0 l++[{key:=zv a,val:=zv b,born:=l.length}]) (l.length+1)=te (l++[(a,b)]):=by
 unfold te
 rw[zP,List.length_append]
 simp[iF]
theorem tM(σ:Nat->Option Nat): ∀(l:List (Int × Int)) (i:Nat),gq σ (iF i l)=some (iF i l)
 |[],_=>rfl
 |(a,b)::l,i=>by simp only[iF,gq,aX,tM σ l (i+1)]
theorem td(σ:Nat->Option Nat)(l:List (Int × Int)):aG σ (te l)=some (te l):=by simp only[aG,tM]
def ni:List (Int × Int)->Int->Option Int
 |[],_=>none
 |(a,b)::l,x=>if x=a then some b else ni l x
theorem LI: ∀(l:List (Int × Int)) (i j:Nat) (a:Int),∃r:Option (Nat × Int),aA Tryz.prog 3 (zv a) (iF j l) i=some (r.map fun p=>(p.1,zv p.2))/\r.map (·.2)=ni l a
 |[],i,j,a=>⟨none,rfl,rfl⟩
 |(x,b)::l,i,j,a=>by
  simp only[iF,aA,G9,ni]
  by_cases h:a=x
  ·simp only[h,decide_true,if_pos]
   exact⟨some (i,b),rfl,rfl⟩
  ·simp only[h,decide_false,if_neg,if_false]
   exact LI l (i+1) (j+1) a
theorem D9(l:List (Int × Int))(F T:Int)(h:ni l F=none):ni (l++[(F,T)])=ins (ni l) F T:=by
 funext x
 induction l with
 |nil=>rfl
 |cons p l ih=>
  obtain⟨a,b⟩:=p
  simp only[ni] at h
  split at h
  ·cases h
  ·rename_i hne
   simp only[List.cons_append,ni,ih h,ins]
   by_cases hx:x=a
   ·subst hx;simp[Ne.symm hne]
   ·simp[hx]
theorem Uo(l:List (Int × Int)):uy (iF 0 l) (ni l):=⟨fun a=>LI l 0 0 a,fun σ c=>by simp only[aG,tM]⟩
end Go.Proofs.Nw
namespace Go.Proofs.Nw
open Go Go.AV
set_option maxHeartbeats 4000000
set_option maxRecDepth 100000
def Ar(k:Nat)(a:Option Addr)(n c len:Nat):Prop:=(a=none/\n=0/\c=0/\len=0)\/(a=some ⟨256*k+510,0,none⟩/\n=len)
def PO(k:Nat)(a:Option Addr)(n c len:Nat):Prop:=Ar k a n c len\/((∃b o s,a=some ⟨b,o,some s⟩)/\n=0/\c=0/\len=0)
structure RunT where
 v:iS
 calls:List bB
def sameKey(y x:RunT):Bool:=(y.v.id.data==x.v.id.data) && (decide (y.v.day=x.v.day) && decide (y.v.inst=x.v.inst))
def AU(ns:Nat)(x:RunT):Int:=(bK x.calls ns 0 3155932800).2
def du(ns nr:Nat)(l:List RunT)(i:Nat):Option Int:=match l[i]? with
 |some x=>if bU x.v.id=false then some 12 else if x.v.uK< -1\/x.v.inst<0 then some 2 else if x.v.day<0\/36524<x.v.day then some 11
  else if x.v.jf<0\/(nr:Int)<=x.v.jf then some 9 else if AU ns x≠0 then some (AU ns x) else if (l.take i).any (fun y=>sameKey y x)=true then some 6 else none
 |none=>none
structure pM(z:T aa)(l:List RunT):Prop where
 I1:cu z 1 (l.map fun r=>r.v.row)
 sl: ∀(j:Nat)(r:RunT),l[j]? =some r->PO (6+j) r.v.ca r.v.cn r.v.cc r.calls.length
 calls: ∀(j:Nat)(r:RunT),l[j]? =some r->cu z (6+j) (r.calls.map bB.row)
section
variable{z:T aa}{zn:Nat}
theorem HY(hz:aq z zn)(hg:eR Tryz.prog z gP)(k:Nat)(l:List bB){a:Option Addr}{n c:Nat}(hs:PO k a n c l.length)(ht:cu z k (l.map bB.row))(s lo hi:Int):
 A1 z zn 130 [.slice a n c,zv s,zv lo,zv hi] [] 0 0 (.tuple ⟨[zv (bK l s lo hi).1,zv (bK l s lo hi).2]⟩) []:=by
 rcases hs with (⟨rfl,rfl,rfl,h⟩|⟨rfl,rfl⟩)|⟨⟨b,o,sp,rfl⟩,rfl,rfl,h⟩
 rotate_left 2
 ·have hr:bK l s lo hi=(0,5):=if_pos (by omega)
  rw[hr]
  refine aY hg (fn:=Tryz.f130) (by kernel_rfl) (by kernel_rfl) hz ⟨by decide,by decide⟩ rfl (Vh z zn b o sp s lo hi _ ?_)
  (repeat' first|(with_reducible first|exact rfl|exact True.intro|assumption|apply And.intro|exact hz|exact q1)|exact(rfl:Int.ofNat _=_)|exact(rfl:gP _ _=_)|exact hz|exact q1|intro hq)
 ·have hr:bK l s lo hi=(0,5):=if_pos (by omega)
  rw[hr]
  refine aY hg (fn:=Tryz.f130) (by kernel_rfl) (by kernel_rfl) hz ⟨by decide,by decide⟩ rfl (Vg z zn s lo hi _ ?_)
  (repeat' first|(with_reducible first|exact rfl|exact True.intro|assumption|apply And.intro|exact hz|exact q1)|exact(rfl:Int.ofNat _=_)|exact(rfl:gP _ _=_)|exact hz|exact q1|intro hq)
 ·exact KS hz hg k l c ht s lo hi
theorem Ey(hz:aq z zn)(hg:eR Tryz.prog z gP)(k:Nat)(l:List bB){a:Option Addr}{n c:Nat}(hs:PO k a n c l.length)(ht:cu z k (l.map bB.row))(s lo hi:Int):
 A1 z zn 137 [.slice a n c,zv s,zv lo,zv hi] [] 0 0 (zv (bK l s lo hi).2) []:=by
 rcases hs with (⟨rfl,rfl,rfl,h⟩|⟨rfl,rfl⟩)|⟨⟨b,o,sp,rfl⟩,rfl,rfl,h⟩
 rotate_left 2
 ·have hr:bK l s lo hi=(0,5):=if_pos (by omega)
  rw[hr]
  refine aY hg (fn:=Tryz.f137) (by kernel_rfl) (by kernel_rfl) hz ⟨by decide,by decide⟩ rfl (U9 z zn b o sp s lo hi _ ?_)
  (repeat' first|(with_reducible first|exact rfl|exact True.intro|assumption|apply And.intro|exact hz|exact q1)|exact(rfl:Int.ofNat _=_)|exact(rfl:gP _ _=_)|exact hz|exact q1|intro hq)
 ·have hr:bK l s lo hi=(0,5):=if_pos (by omega)
  rw[hr]
  refine aY hg (fn:=Tryz.f137) (by kernel_rfl) (by kernel_rfl) hz ⟨by decide,by decide⟩ rfl (U8 z zn s lo hi _ ?_)
  (repeat' first|(with_reducible first|exact rfl|exact True.intro|assumption|apply And.intro|exact hz|exact q1)|exact(rfl:Int.ofNat _=_)|exact(rfl:gP _ _=_)|exact hz|exact q1|intro hq)
 ·exact HI hz hg k l c ht s lo hi
theorem Ar.xZ{k:Nat}{a:Option Addr}{n c len:Nat}(h:Ar k a n c len)(σ:bA):aX (az σ []) (.slice a n c)=some (.slice a n c):=by
 rcases h with ⟨rfl,rfl,rfl,_⟩|⟨rfl,_⟩
 ·rfl
 ·exact aT σ k n c
theorem PO.xZ{k:Nat}{a:Option Addr}{n c len:Nat}(h:PO k a n c len)(σ:bA):aX (az σ []) (.slice a n c)=some (.slice a n c):=by
 rcases h with h|⟨⟨b,o,s,rfl⟩,rfl,rfl,_⟩
 ·exact h.xZ σ
 ·rfl
theorem jg{σ:Nat->Option Nat}{v:Value}{l:List Value}(h:aX σ v=some v)(k:bz σ l=some l):bz σ (v::l)=some (v::l):=by simp only[bz,h,k]
theorem NI(x:RunT)(l:List RunT):kA 225 x.v.key (l.map fun y=>y.v.key):=⟨fun k' hk'=>by
 obtain⟨y,_,rfl⟩:=List.mem_map.1 hk'
 refine⟨rfl,_,NW _ _ _ _ _ _,?_⟩
 simp only[Bool.and_eq_true,decide_eq_true_eq,jn]
 constructor
 ·rintro⟨h1,h2,h3⟩
  show Value.agg _=Value.agg _
  rw[h1,h2,h3]
 ·intro h
  have h:iS.key x.v=iS.key y.v:=h
  simp only[iS.key,Value.agg.injEq,Array.mk.injEq,List.cons.injEq,Value.string.injEq,Value.int.injEq,true_and,and_true] at h
  exact h⟩
theorem mem_keys(x:RunT)(l:List RunT):x.v.key∈(l.map fun y=>y.v.key)↔l.any (fun y=>sameKey y x)=true:=by
 rw[List.mem_map,List.any_eq_true]
 constructor
 ·rintro⟨y,h1,h2⟩
  refine⟨y,h1,?_⟩
  have h:iS.key y.v=iS.key x.v:=h2
  simp only[iS.key,Value.agg.injEq,Array.mk.injEq,List.cons.injEq,Value.string.injEq,Value.int.injEq,true_and,and_true] at h
  simp only[sameKey,Bool.and_eq_true,decide_eq_true_eq,jn]
  exact h
 ·rintro⟨y,h1,h2⟩
  refine⟨y,h1,?_⟩
  simp only[sameKey,Bool.and_eq_true,decide_eq_true_eq,jn] at h2
  show Value.agg _=Value.agg _
  rw[h2.1,h2.2.1,h2.2.2]
theorem A4(l:List RunT): ∀k,k∈(l.map fun y=>y.v.key)->au k=true:=fun k hk=>by
 obtain⟨t,_,rfl⟩:=List.mem_map.1 hk
 rfl
theorem NF(hz:aq z zn)(hg:eR Tryz.prog z gP)(N:aC)(l:List RunT)(hl:l.length<100000)(hN:N.nu=l.length)(hZ:pM z l)(hnet: ∀σ:bA,aG (az σ []) N.iR=some N.iR)(r:Int × Int)(hr:scan (du N.ns N.nr l) l.length 0=r):
 ai Tryz.prog (ah (ag Tryz.f83) 0) 3 96 (O1 N.nu N.uc 0) [(0,N.iR),(1,cZ 0 0 0),(2,bt [])] 3 z zn (Al.R (Wz z zn N (if r.2=0 then 0 else 2) r.1 r.2).l):=by
 refine ak hD hg (α:=Nat) 3 96 3 (fun i=>i<=l.length/\scan (du N.ns N.nr l) (l.length - i) i=r) (fun i=>O1 N.nu N.uc i) (fun i=>[(0,N.iR),(1,cZ 0 0 0),(2,bt ((l.take i).map fun y=>y.v.key))]) (fun _=>z) (fun _=>zn) (fun i=>l.length - i) _ (fun i hI=>?_) 0 ⟨Nat.zero_le _,hr⟩
 obtain⟨h1,h2⟩:=hI
 by_cases hi:i<l.length
 ·obtain⟨e,he⟩:=hZ.I1.ax (i:=i) (by simpa using hi)
  obtain⟨x,hx⟩:=ey hi
  have hid:=Sf (hZ.I1.sz (i:=i) (r:=x.v.row) (s:=x.v.id) (by rw[List.getElem?_map,hx];rfl) (by simp))
  have hlen:=aO (row:=fun r:RunT=>r.v.row) (sz:=8) l fun _=>rfl
  have hrow:aB Tryz.prog (br e (l.map fun r=>r.v.row).flatten) 53 (0+i*8)=some (.agg ⟨x.v.row⟩):=bJ (r:=x.v.row) (sz:=8) Tryz.underlying53 rfl rfl hlen (by rw[List.getElem?_map,hx];rfl)
  have hk:=NI x (l.take i)
  have hps:=A4 (l.take i)
  have hany:=mem_keys x (l.take i)
  have hsl:=(hZ.sl i x hx).xZ
  have hcalls:=HY hz hg (6+i) x.calls (hZ.sl i x hx) (hZ.calls i x hx) N.ns 0 3155932800
  have hargs:bz (sig []) [.slice x.v.ca x.v.cn x.v.cc,iv N.ns,I 0,I 3155932800]=some [.slice x.v.ca x.v.cn x.v.cc,iv N.ns,I 0,I 3155932800]:=by
   have:=hsl []
   rw[yr] at this
   exact jg this rfl
  have hbad:du N.ns N.nr l i=if bU x.v.id=false then some 12 else if x.v.uK< -1\/x.v.inst<0 then some 2 else if x.v.day<0\/36524<x.v.day then some 11
   else if x.v.jf<0\/(N.nr:Int)<=x.v.jf then some 9 else if (bK x.calls N.ns 0 3155932800).2≠0 then some (bK x.calls N.ns 0 3155932800).2 else if (l.take i).any (fun y=>sameKey y x)=true then some 6 else none:=by
   unfold du;rw[hx];rfl
  have hc:decide ((i:Int)<(N.nu:Int))=true:=by simp;omega
  have ret: ∀e:Int,du N.ns N.nr l i=some e->e≠0->Al.R (Wz z zn N (if r.2=0 then 0 else 2) r.1 r.2).l ⟨.ret,[(2,ip 1)],[(1,cZ 2 i e)],3,z,zn⟩:=fun e h h0=>by
   have:r=((i:Int),e):=by rw[←h2,de hi h]
   rw[this]
   simp only[if_neg h0]
   exact bE trivial
  refine t100 (ru z zn i N (br e (l.map fun r=>r.v.row).flatten) x.v ((l.take i).map fun y=>y.v.key) (bK x.calls N.ns 0 3155932800).1 (bK x.calls N.ns 0 3155932800).2 (aj _ _ _ _ _ _ _ _ _) ⟨fun _=>?_,fun h=>(by rw[hc] at h;cases h)⟩)
  (repeat' first|(with_reducible first|exact rfl|exact True.intro|assumption|apply And.intro|exact hz|exact(by omega:i<N.nu)|exact he|exact hrow|exact hk.no|exact hk.ex|exact hcalls|exact hargs|exact hsl _|exact hnet _|exact df _ hps rfl|exact aT _ _ _ _|exact aK (by omega))|exact(rfl:Int.ofNat _=_)|exact(rfl:gP _ _=_)|exact hz|exact(by omega:i<N.nu)|exact he|exact hrow|exact hk.no|exact hk.ex|exact hcalls|exact hargs|exact hsl _|exact hnet _|exact df _ hps rfl|exact aT _ _ _ _|exact aK (by omega)|intro hq)
  all_goals try (have hm:=hk.CP (by with_reducible assumption);rw[hany] at hm)
  all_goals try (have hm:=hk.IB (by with_reducible assumption);rw[hany] at hm)
  all_goals clear hk hps hrow hany he hz hr hnet hZ hargs hsl hlen
  all_goals first
   |(refine ret _ ?_ (by decide);clear ret h2 hcalls;rw[hbad];clear hbad;(repeat' split)<;>first|rfl|(exfalso;simp only[decide_eq_true_eq,decide_eq_false_iff_not,Bool.not_eq_true',Bool.not_eq_false',bne_iff_ne,bne_eq_false_iff_eq,ne_eq] at*;omega)|(exfalso;simp_all;done))
   |(refine ret _ ?_ (by simpa using hq);clear ret h2 hcalls;rw[hbad];clear hbad;(repeat' split)<;>first|rfl|(exfalso;simp only[decide_eq_true_eq,decide_eq_false_iff_not,Bool.not_eq_true',Bool.not_eq_false',bne_iff_ne,bne_eq_false_iff_eq,ne_eq] at*;omega)|(exfalso;simp_all;done))
   |(have hb:du N.ns N.nr l i=none:=by
      clear ret h2 hcalls
      rw[hbad,if_neg (by simp_all),if_neg (by simp only[decide_eq_false_iff_not] at*;omega),if_neg (by simp only[decide_eq_false_iff_not] at*;omega),if_neg (by simp only[decide_eq_false_iff_not] at*;omega),if_neg (by simp_all),if_neg hm]
     refine⟨i+1,rfl,?_,rfl,rfl,rfl,⟨hi,by rw[←cP hi hb];exact h2⟩,by show l.length - (i+1)<l.length - i;omega⟩
     rw[fj]
     show _=[(0,N.iR),(1,cZ 0 0 0),(2,bt ((l.take (i+1)).map fun y=>y.v.key))]
     rw[List.take_add_one,hx]
     simp)
 ·have hc:decide ((i:Int)<(N.nu:Int))=false:=by simp;omega
  refine t100 (ru z zn i N ⟨[],0,0,0,true,true,0,true⟩ ⟨0,0,0,⟨#[]⟩,0,true,true,none,0,0⟩ ((l.take i).map fun y=>y.v.key) 0 0 (aj _ _ _ _ _ _ _ _ _) ⟨fun h=>(by rw[hc] at h;cases h),fun _=>?_⟩)
  (repeat' first|(with_reducible first|exact rfl|exact True.intro|assumption|apply And.intro|exact hz|exact hnet _)|exact(rfl:Int.ofNat _=_)|exact(rfl:gP _ _=_)|exact hz|exact hnet _|intro hq)
  rw[dy (by omega)] at h2
  refine dp (bE ?_)
  rw[←h2]
  exact⟨rfl,rfl,rfl⟩
def c7(ns nr:Nat)(l:List RunT):Int × Int:=if 1024<l.length then (0,5) else scan (du ns nr l) l.length 0
theorem Oc(hz:aq z zn)(hg:eR Tryz.prog z gP)(N:aC)(l:List RunT)(hN:N.nu=l.length)(hZ:pM z l)(hnet: ∀σ:bA,aG (az σ []) N.iR=some N.iR):
 A1 z zn 83 [.agg ⟨N.tU⟩] [] 0 0 (.agg ⟨[zv (if (c7 N.ns N.nr l).2=0 then 0 else 2),zv (c7 N.ns N.nr l).1,zv (c7 N.ns N.nr l).2]⟩) []:=by
 refine aY hg (fn:=Tryz.f83) (by kernel_rfl) (by kernel_rfl) hz ⟨by decide,by decide⟩ rfl (fu z zn N (if (c7 N.ns N.nr l).2=0 then 0 else 2) (c7 N.ns N.nr l).1 (c7 N.ns N.nr l).2 _ ?_)
 by_cases h:1024<l.length
 ·have hr:c7 N.ns N.nr l=(0,5):=if_pos h
  have hc:decide ((N.nu:Int)>1024)=true:=by simp;omega
  rw[hr]
  refine⟨fun _=>?_,fun h=>(by rw[hc] at h;cases h)⟩
  (repeat' first|(with_reducible first|exact rfl|exact True.intro|assumption|apply And.intro|exact hz|exact q1)|exact(rfl:Int.ofNat _=_)|exact(rfl:gP _ _=_)|exact hz|exact q1|intro hq)
 ·have hr:c7 N.ns N.nr l=scan (du N.ns N.nr l) l.length 0:=if_neg h
  have hc:decide ((N.nu:Int)>1024)=false:=by simp;omega
  have hL:=NF hz hg N l (by omega) hN hZ hnet (c7 N.ns N.nr l) hr.symm
  refine⟨fun h=>(by rw[hc] at h;cases h),fun _=>?_⟩
  (repeat' first|(with_reducible first|exact rfl|exact True.intro|assumption|apply And.intro|exact hz|exact hL|exact hnet _|exact aT _ _ _ _|exact q1)|exact(rfl:Int.ofNat _=_)|exact(rfl:gP _ _=_)|exact hz|exact hL|exact hnet _|exact aT _ _ _ _|exact q1|intro hq)
  all_goals first|(rw[hq.1,hq.2.1,hq.2.2];exact q1)|trace_state
end
theorem yz{σ:Nat->Option Nat}(x:iS)(h:aX σ (.slice x.ca x.cn x.cc)=some (.slice x.ca x.cn x.cc)):aG σ (oJ x)=some (oJ x):=by
 have hr:bz σ x.row=some x.row:=by
  unfold iS.row
  repeat (first|exact jg h rfl|refine jg rfl ?_)
 simp only[aG,hr]
section
variable{z:T aa}{zn:Nat}
theorem JR(hz:aq z zn)(hg:eR Tryz.prog z gP)(N:aC)(l:List RunT)(hl:l.length<100000)(hN:N.nu=l.length)(hZ:pM z l)(hnet: ∀σ:bA,aG (az σ []) N.iR=some N.iR)(i:Nat)(x:RunT)(hx:l[i]? =some x)(b:Bool)(hb:b=(l.take i).any fun y=>sameKey y x):
 ai Tryz.prog (ah (ag Tryz.f89) 0) 2 79 (y8 i 0) [(0,N.iR),(1,oJ x.v)] 2 z zn (Al.R (Qw z zn i N x.v b).l):=by
 have hil:i<l.length:=(List.getElem?_eq_some_iff.1 hx).1
 have hsl:=(hZ.sl i x hx).xZ
 have hrun: ∀σ:bA,aG (az σ []) (oJ x.v)=some (oJ x.v):=fun σ=>yz x.v (hsl σ)
 refine ak hD hg (α:=Nat) 2 79 2 (fun k=>k<=i/\((l.take k).any fun y=>sameKey y x)=false) (fun k=>y8 i k) (fun _=>[(0,N.iR),(1,oJ x.v)]) (fun _=>z) (fun _=>zn) (fun k=>i - k) _ (fun k hI=>?_) 0 ⟨Nat.zero_le _,rfl⟩
 obtain⟨h1,h2⟩:=hI
 by_cases hk:k<i
 ·obtain⟨e,he⟩:=hZ.I1.ax (i:=k) (by simp;omega)
  obtain⟨y,hy⟩:=ey (l:=l) (i:=k) (by omega)
  have hlen:=aO (row:=fun r:RunT=>r.v.row) (sz:=8) l fun _=>rfl
  have hrow:aB Tryz.prog (br e (l.map fun r=>r.v.row).flatten) 53 (0+k*8)=some (.agg ⟨y.v.row⟩):=bJ (r:=y.v.row) (sz:=8) Tryz.underlying53 rfl rfl hlen (by rw[List.getElem?_map,hy];rfl)
  have hc:decide ((k:Int)<(i:Int))=true:=by simp;omega
  have hsame:sameKey y x=((y.v.id.toList==x.v.id.toList) && ((y.v.day==x.v.day) && (y.v.inst==x.v.inst))):=by
   rw[oe];rfl
  have jy:sameKey y x=false->aj (fun k=>k<=i/\((l.take k).any fun y=>sameKey y x)=false) (fun k=>y8 i k) (fun _=>[(0,N.iR),(1,oJ x.v)]) 2 (fun _=>z) (fun _=>zn) (fun k=>i - k) (Al.R (Qw z zn i N x.v b).l) k .normal (y8 i (k+1)) [(0,N.iR),(1,oJ x.v)] 2 z zn:=fun h=>
   ⟨k+1,rfl,rfl,rfl,rfl,rfl,⟨hk,by rw[jo hy,h2,h];rfl⟩,by show i - (k+1)<i - k;omega⟩
  refine t100 (Wg z zn i k N (br e (l.map fun r=>r.v.row).flatten) x.v y.v (aj _ _ _ _ _ _ _ _ _) ⟨fun _=>?_,fun h=>(by rw[hc] at h;cases h)⟩)
  (repeat' first|(with_reducible first|exact rfl|exact True.intro|assumption|apply And.intro|exact hz|exact he|exact hrow|exact(by omega:k<N.nu)|exact hnet _|exact hrun _|exact aK (by omega))|exact(rfl:Int.ofNat _=_)|exact(rfl:gP _ _=_)|exact hz|exact he|exact hrow|exact(by omega:k<N.nu)|exact hnet _|exact hrun _|exact aK (by omega)|intro hq)
  all_goals first
   |(refine jy ?_;rw[hsame];simp_all;done)
   |(refine bE ?_;rw[hb];refine any_true hy hk ?_;rw[hsame];simp_all;done)
 ·have hc:decide ((k:Int)<(i:Int))=false:=by simp;omega
  refine t100 (Wg z zn i k N ⟨[],0,0,0,true,true,0,true⟩ x.v x.v (aj _ _ _ _ _ _ _ _ _) ⟨fun h=>(by rw[hc] at h;cases h),fun _=>?_⟩)
  (repeat' first|(with_reducible first|exact rfl|exact True.intro|assumption|apply And.intro|exact hz)|exact(rfl:Int.ofNat _=_)|exact(rfl:gP _ _=_)|exact hz|intro hq)
  refine dp (bE ?_)
  rw[hb,←h2,show k=i by omega]
theorem Od(hz:aq z zn)(hg:eR Tryz.prog z gP)(N:aC)(l:List RunT)(hl:l.length<100000)(hN:N.nu=l.length)(hZ:pM z l)(hnet: ∀σ:bA,aG (az σ []) N.iR=some N.iR)(i:Nat)(hi:i<l.length):
 A1 z zn 89 [.agg ⟨N.tU⟩,iv i] [] 0 0 (zv ((du N.ns N.nr l i).getD 0)) []:=by
 obtain⟨e,he⟩:=hZ.I1.ax (i:=i) (by simpa using hi)
 obtain⟨x,hx⟩:=ey hi
 have hid:=Se (hZ.I1.sz (i:=i) (r:=x.v.row) (s:=x.v.id) (by rw[List.getElem?_map,hx];rfl) (by simp))
 have hlen:=aO (row:=fun r:RunT=>r.v.row) (sz:=8) l fun _=>rfl
 have hrow:aB Tryz.prog (br e (l.map fun r=>r.v.row).flatten) 53 (0+i*8)=some (.agg ⟨x.v.row⟩):=bJ (r:=x.v.row) (sz:=8) Tryz.underlying53 rfl rfl hlen (by rw[List.getElem?_map,hx];rfl)
 have hsl:=(hZ.sl i x hx).xZ
 have hrun: ∀σ:bA,aG (az σ []) (oJ x.v)=some (oJ x.v):=fun σ=>yz x.v (hsl σ)
 have hcalls:=Ey hz hg (6+i) x.calls (hZ.sl i x hx) (hZ.calls i x hx) N.ns 0 3155932800
 have hargs:bz (sig []) [.slice x.v.ca x.v.cn x.v.cc,iv N.ns,I 0,I 3155932800]=some [.slice x.v.ca x.v.cn x.v.cc,iv N.ns,I 0,I 3155932800]:=by
  have:=hsl []
  rw[yr] at this
  exact jg this rfl
 have hL:=JR hz hg N l hl hN hZ hnet i x hx _ rfl
 have hbad:du N.ns N.nr l i=if bU x.v.id=false then some 12 else if x.v.uK< -1\/x.v.inst<0 then some 2 else if x.v.day<0\/36524<x.v.day then some 11
  else if x.v.jf<0\/(N.nr:Int)<=x.v.jf then some 9 else if (bK x.calls N.ns 0 3155932800).2≠0 then some (bK x.calls N.ns 0 3155932800).2 else if (l.take i).any (fun y=>sameKey y x)=true then some 6 else none:=by
  unfold du;rw[hx];rfl
 generalize ((l.take i).any fun y=>sameKey y x)=b at hL hbad
 generalize (bK x.calls N.ns 0 3155932800).2=ce at hcalls hbad
 refine aY hg (fn:=Tryz.f89) (by kernel_rfl) (by kernel_rfl) hz ⟨by decide,by decide⟩ rfl (U2 z zn i N (br e (l.map fun r=>r.v.row).flatten) x.v ce b _ ?_)
 (repeat' first|(with_reducible first|exact rfl|exact True.intro|assumption|apply And.intro|exact hz|exact he|exact hrow|exact(by omega:i<N.nu)|exact hcalls|exact hargs|exact hL|exact hsl _|exact hnet _|exact hrun _)|exact(rfl:Int.ofNat _=_)|exact(rfl:gP _ _=_)|exact hz|exact he|exact hrow|exact(by omega:i<N.nu)|exact hcalls|exact hargs|exact hL|exact hsl _|exact hnet _|exact hrun _|intro hq)
 all_goals clear hL hcalls hrow he hz hnet hZ hargs hsl hlen hrun
 all_goals first
  |(have hv:(du N.ns N.nr l i).getD 0=12:=by(rw[hbad];clear hbad;(repeat' split)<;>first|rfl|(exfalso;simp only[decide_eq_true_eq,decide_eq_false_iff_not,Bool.not_eq_true',Bool.not_eq_false',Bool.and_eq_true,Bool.and_eq_false_iff,bne_iff_ne,bne_eq_false_iff_eq,ne_eq] at*;omega)|(exfalso;simp_all;done))
    rw[hv];exact q1)
  |(have hv:(du N.ns N.nr l i).getD 0=2:=by(rw[hbad];clear hbad;(repeat' split)<;>first|rfl|(exfalso;simp only[decide_eq_true_eq,decide_eq_false_iff_not,Bool.not_eq_true',Bool.not_eq_false',Bool.and_eq_true,Bool.and_eq_false_iff,bne_iff_ne,bne_eq_false_iff_eq,ne_eq] at*;omega)|(exfalso;simp_all;done))
    rw[hv];exact q1)
  |(have hv:(du N.ns N.nr l i).getD 0=11:=by(rw[hbad];clear hbad;(repeat' split)<;>first|rfl|(exfalso;simp only[decide_eq_true_eq,decide_eq_false_iff_not,Bool.not_eq_true',Bool.not_eq_false',Bool.and_eq_true,Bool.and_eq_false_iff,bne_iff_ne,bne_eq_false_iff_eq,ne_eq] at*;omega)|(exfalso;simp_all;done))
    rw[hv];exact q1)
  |(have hv:(du N.ns N.nr l i).getD 0=9:=by(rw[hbad];clear hbad;(repeat' split)<;>first|rfl|(exfalso;simp only[decide_eq_true_eq,decide_eq_false_iff_not,Bool.not_eq_true',Bool.not_eq_false',Bool.and_eq_true,Bool.and_eq_false_iff,bne_iff_ne,bne_eq_false_iff_eq,ne_eq] at*;omega)|(exfalso;simp_all;done))
    rw[hv];exact q1)
  |(have hv:(du N.ns N.nr l i).getD 0=6:=by(rw[hbad];clear hbad;(repeat' split)<;>first|rfl|(exfalso;simp only[decide_eq_true_eq,decide_eq_false_iff_not,Bool.not_eq_true',Bool.not_eq_false',Bool.and_eq_true,Bool.and_eq_false_iff,bne_iff_ne,bne_eq_false_iff_eq,ne_eq] at*;omega)|(exfalso;simp_all;done))
    rw[hv];exact q1)
  |(have hv:(du N.ns N.nr l i).getD 0=0:=by(rw[hbad];clear hbad;(repeat' split)<;>first|rfl|(exfalso;simp only[decide_eq_true_eq,decide_eq_false_iff_not,Bool.not_eq_true',Bool.not_eq_false',Bool.and_eq_true,Bool.and_eq_false_iff,bne_iff_ne,bne_eq_false_iff_eq,ne_eq] at*;omega)|(exfalso;simp_all;done))
    rw[hv];exact q1)
  |(have hv:(du N.ns N.nr l i).getD 0=ce:=by(rw[hbad];clear hbad;(repeat' split)<;>first|rfl|(exfalso;simp only[decide_eq_true_eq,decide_eq_false_iff_not,Bool.not_eq_true',Bool.not_eq_false',Bool.and_eq_true,Bool.and_eq_false_iff,bne_iff_ne,bne_eq_false_iff_eq,ne_eq] at*;omega)|(exfalso;simp_all;done))
    rw[hv];exact q1)
end
end Go.Proofs.Nw
namespace Go.Proofs.Nw
open Go Go.AV Go.iT
set_option maxRecDepth 100000
def stays(l:List aF):List (Int × Int):=(l.filter (·.stay)).map fun x=>(x.from_,x.an)
def BE(x y:aF):Bool:=y.stay && ((y.from_==x.from_)||(y.an==x.an))
def jb(U:List RunT)(f:Int):Nat:=match U[f.toNat]? with|some r=>r.calls.length|none=>0
def j6(U:List RunT)(f c:Int):Int:=match U[f.toNat]? with|some r=>(match r.calls[c.toNat]? with|some x=>x.stop|none=>0)|none=>0
def ig(U:List RunT)(L:List aF)(i:Nat)(x:aF):Int:=
 if x.from_<0\/(U.length:Int)<=x.from_\/x.an<0\/(U.length:Int)<=x.an\/x.from_=x.an then 9
 else if x.fc<0\/(jb U x.from_:Int)<=x.fc\/x.tc<0\/(jb U x.an:Int)<=x.tc then 9
 else if j6 U x.from_ x.fc≠j6 U x.an x.tc then 13
 else if x.stay=true/\(x.fc+1≠jb U x.from_\/x.tc≠0) then 19
 else if x.stay=true/\(L.take i).any (BE x)=true then 19
 else if x.stay=true/\dz (gh (stays (L.take i))) x.from_ (i+1) x.an=true then 19
 else if (L.take i).any (lE x)=true then 6 else 0
def eN(U:List RunT)(L:List aF)(i:Nat):Option Int:=match L[i]? with
 |some x=>if ig U L i x=0 then none else some (ig U L i x)
 |none=>none
def bO(U:List RunT)(L:List aF):Int × Int:=if 1024<L.length then (0,5) else scan (eN U L) L.length 0
theorem kG(l:List aF)(x:aF):stays (l++[x])=if x.stay=true then stays l++[(x.from_,x.an)] else stays l:=by
 unfold stays
 rw[List.filter_append]
 cases h:x.stay<;>simp[h]
theorem Ea{l:List (Int × Int)}{a:Int}:ni l a=none↔ ∀p∈l,p.1≠a:=by
 induction l with
 |nil=>simp[ni]
 |cons p l ih=>
  obtain⟨x,b⟩:=p
  simp only[ni]
  by_cases h:a=x
  ·simp[h]
  ·simp only[if_neg h,ih,List.mem_cons,forall_eq_or_imp]
   exact⟨fun k=>⟨fun e=>h e.symm,k⟩,fun k=>k.2⟩
theorem C9(l:List aF)(x:aF):l.any (BE x)=false↔ni (stays l) x.from_=none/\x.an ∉ (stays l).map (·.2):=by
 rw[Ea]
 unfold stays
 simp only[List.any_eq_false,BE,Bool.and_eq_true,Bool.or_eq_true,beq_iff_eq,List.mem_map,List.mem_filter,not_and,not_or,not_exists,forall_exists_index,and_imp]
 constructor
 ·intro h
  exact⟨fun p y h1 h2 h3 e=>(h y h1 h2).1 (by subst h3;exact e),fun p y h1 h2 h3 e=>(h y h1 h2).2 (by subst h3;exact e)⟩
 ·rintro⟨h1,h2⟩ y hy hs
  exact⟨fun e=>h1 _ y hy hs rfl e,fun e=>h2 _ y hy hs rfl e⟩
structure xU(l:List aF):Prop where
 eq:ni (stays l)=gh (stays l)
 dep: ∀f,∃d,u6 (gh (stays l)) f d
 pos: ∀p∈stays l,0<=p.1
theorem F3:xU []:=⟨rfl,fun f=>⟨0, .nil rfl⟩,fun p hp=>by cases hp⟩
theorem xU.neg{l:List aF}(h:xU l):gh (stays l) (-1)=none:=by
 cases hc:gh (stays l) (-1) with
 |none=>rfl
 |some a=>have:=h.pos _ (vp hc);simp at this
theorem Dv(l:List aF):(stays l).length<=l.length:=by
 unfold stays;rw[List.length_map];exact List.length_filter_le _ _
theorem xU.leads{l:List aF}(h:xU l){a b:Int}(hb:0<=b){n:Nat}(hn:l.length<=n):dz (gh (stays l)) b (n+1) a=true↔ju (gh (stays l)) b a:=by
 obtain⟨d,hd⟩:=h.dep a
 refine Bm hb h.neg hd _ ?_
 have:=hd.Kb ((stays l).map (·.1)) fun x hx=>Js hx
 rw[List.length_map] at this
 have:=Dv l
 omega
theorem xU.snoc{l:List aF}(h:xU l){U:List RunT}{L:List aF}{i:Nat}{x:aF}(hl:l=L.take i)(hi:i<=L.length)(he:ig U L i x=0):xU (l++[x]):=by
 cases hs:x.stay with
 |false=>
  have e:stays (l++[x])=stays l:=by rw[kG,hs];rfl
  exact⟨by rw[e];exact h.eq,by rw[e];exact h.dep,by rw[e];exact h.pos⟩
 |true=>
  have e:stays (l++[x])=stays l++[(x.from_,x.an)]:=by rw[kG,hs];rfl
  unfold ig at he
  split at he
  ·cases he
  rename_i c1
  split at he
  ·cases he
  rename_i c2
  split at he
  ·cases he
  split at he
  ·cases he
  split at he
  ·cases he
  rename_i c5
  split at he
  ·cases he
  rename_i c6
  rw[hs] at c5 c6
  have c5:(L.take i).any (BE x)=false:=by simpa using c5
  rw[←hl] at c5 c6
  obtain⟨h1,h2⟩:=(C9 l x).1 c5
  have hn:gh (stays l) x.from_=none:=by rw[←h.eq];exact h1
  have hlen:l.length<=i:=by rw[hl,List.length_take];omega
  have hnl: ¬ju (gh (stays l)) x.from_ x.an:=fun k=>c6 ⟨rfl,(h.leads (by omega) hlen).2 k⟩
  refine⟨?_,?_,?_⟩
  ·rw[e,D9 _ _ _ h1,mR,h.eq]
  ·rw[e,mR]
   exact Ku h.dep hn (by omega) hnl
  ·rw[e]
   intro p hp
   rcases List.mem_append.1 hp with q|q
   ·exact h.pos p q
   ·simp at q;subst q;simp;omega
theorem vo(U:List RunT)(L:List aF): ∀k,k<=L.length->(∀j,j<k->eN U L j=none)->xU (L.take k)
 |0,_,_=>F3
 |k+1,hk,h=>by
  obtain⟨x,hx⟩:=ey (l:=L) (i:=k) (by omega)
  rw[List.take_add_one,hx]
  refine(vo U L k (by omega) fun j hj=>h j (by omega)).snoc (U:=U) rfl (by omega) ?_
  have:=h k (by omega)
  unfold eN at this
  rw[hx] at this
  simpa using this
end Go.Proofs.Nw
namespace Go.Proofs.Nw
open Go Go.AV Go.iT
set_option maxHeartbeats 4000000
set_option maxRecDepth 100000
def Az(L:List aF)(k:Nat)(f:Int):Int:=(gh (stays (L.take k)) f).getD (-1)
theorem F7{L:List aF}{k:Nat}{y:aF}(hy:L[k]? =some y)(f:Int):Az L (k+1) f=if y.stay=true/\y.from_=f then y.an else Az L k f:=by
 unfold Az
 rw[List.take_add_one,hy]
 show(gh (stays (L.take k++[y])) f).getD (-1)=_
 rw[kG]
 cases hs:y.stay with
 |false=>simp
 |true=>
  simp only[if_true,mR,ins]
  by_cases h:f=y.from_
  ·simp[h]
  ·simp[h,Ne.symm h]
section
variable{z:T aa}{zn:Nat}
theorem Gr(hz:aq z zn)(hg:eR Tryz.prog z gP)(N:aC)(L:List aF)(hl:L.length<100000)(hN:N.nl=L.length)(hL:cu z 0 (L.map aF.row))(hnet: ∀σ:bA,aG (az σ []) (N.cB N.u0 N.l1)=some (N.cB N.u0 N.l1))(i j:Nat)(hi:i<=L.length)(f tt:Int):
 ai Tryz.prog (ah (ah (ag Tryz.f138) 0) 0) 1 48 (qE i f tt j (-1) 0) [(0,N.cB N.u0 N.l1)] 1 z zn (Al.R (LF z zn N i f tt j (Az L i f) (-1)).l):=by
 refine ak hD hg (α:=Nat) 1 48 1 (fun k=>k<=i) (fun k=>qE i f tt j (Az L k f) k) (fun _=>[(0,N.cB N.u0 N.l1)]) (fun _=>z) (fun _=>zn) (fun k=>i - k) _ (fun k hk=>?_) 0 (Nat.zero_le _)
 by_cases h:k<i
 ·obtain⟨e,he⟩:=hL.ax (i:=k) (by simp;omega)
  obtain⟨y,hy⟩:=ey (l:=L) (i:=k) (by omega)
  have hlen:=aO (row:=aF.row) (sz:=5) L fun _=>rfl
  have hrow:(L.map aF.row)[k]? =some y.row:=by rw[List.getElem?_map,hy];rfl
  have r4:aB Tryz.prog (br e (L.map aF.row).flatten) 4 (0+k*5+4)=some (.bool y.stay):=bh Tryz.underlying4 rfl hlen hrow rfl
  have r0:aB Tryz.prog (br e (L.map aF.row).flatten) 3 (0+k*5+0)=some (zv y.from_):=bh Tryz.underlying3 rfl hlen hrow rfl
  have r2:aB Tryz.prog (br e (L.map aF.row).flatten) 3 (0+k*5+2)=some (zv y.an):=bh Tryz.underlying3 rfl hlen hrow rfl
  have hn:=F7 hy f
  have hc:decide ((k:Int)<(i:Int))=true:=by simp;omega
  have jy: ∀m:Int,Az L (k+1) f=m->aj (fun k=>k<=i) (fun k=>qE i f tt j (Az L k f) k) (fun _=>[(0,N.cB N.u0 N.l1)]) 1 (fun _=>z) (fun _=>zn) (fun k=>i - k) (Al.R (LF z zn N i f tt j (Az L i f) (-1)).l) k .normal (qE i f tt j m (k+1)) [(0,N.cB N.u0 N.l1)] 1 z zn:=fun m hm=>
   ⟨k+1,by rw[←hm],rfl,rfl,rfl,rfl,(by omega:k+1<=i),by show i - (k+1)<i - k;omega⟩
  refine t100 (Wl z zn i k j N (br e (L.map aF.row).flatten) y f tt (Az L k f) (aj _ _ _ _ _ _ _ _ _) ⟨fun _=>?_,fun h=>(by rw[hc] at h;cases h)⟩)
  (repeat' first|(with_reducible first|exact rfl|exact True.intro|assumption|apply And.intro|exact hz|exact he|exact r4|exact r0|exact r2|exact(by omega:k<N.nl)|exact hnet _|exact aK (by omega))|exact(rfl:Int.ofNat _=_)|exact(rfl:gP _ _=_)|exact hz|exact he|exact r4|exact r0|exact r2|exact(by omega:k<N.nl)|exact hnet _|exact aK (by omega)|intro hq)
  all_goals (refine jy _ ?_;rw[hn];simp_all;done)
 ·have hc:decide ((k:Int)<(i:Int))=false:=by simp;omega
  refine t100 (Wl z zn i k j N ⟨[],0,0,0,true,true,0,true⟩ ⟨0,0,0,0,true⟩ f tt (Az L k f) (aj _ _ _ _ _ _ _ _ _) ⟨fun h=>(by rw[hc] at h;cases h),fun _=>?_⟩)
  (repeat' first|(with_reducible first|exact rfl|exact True.intro|assumption|apply And.intro|exact hz|exact hnet _)|exact(rfl:Int.ofNat _=_)|exact(rfl:gP _ _=_)|exact hz|exact hnet _|intro hq)
  rw[show k=i by omega]
  exact bE trivial
theorem GI(nx:Int->Option Int)(t:Int): ∀(n:Nat)(f:Int),dz nx t (n+1) f=if (nx f).getD (-1)=t then true else dz nx t n ((nx f).getD (-1)):=fun _ _=>rfl
theorem JQ(hz:aq z zn)(hg:eR Tryz.prog z gP)(N:aC)(L:List aF)(hl:L.length<100000)(hN:N.nl=L.length)(hL:cu z 0 (L.map aF.row))(hnet: ∀σ:bA,aG (az σ []) (N.cB N.u0 N.l1)=some (N.cB N.u0 N.l1))(i:Nat)(hi:i<=L.length)(f tt:Int)(b:Bool)(hb:b=dz (gh (stays (L.take i))) tt (i+1) f):
 ai Tryz.prog (ah (ag Tryz.f138) 0) 1 48 (DN i f tt 0) [(0,N.cB N.u0 N.l1)] 1 z zn (Al.R (Us z zn N i f tt b).l):=by
 refine ak hD hg (α:=Nat × Int) 1 48 1 (fun x=>x.1<=i+1/\b=dz (gh (stays (L.take i))) tt (i+1 - x.1) x.2) (fun x=>DN i x.2 tt x.1) (fun _=>[(0,N.cB N.u0 N.l1)]) (fun _=>z) (fun _=>zn) (fun x=>i+1 - x.1) _ (fun x hx=>?_) (0,f) ⟨Nat.zero_le _,hb⟩
 obtain⟨j,f⟩:=x
 obtain⟨h1,h2⟩:=hx
 simp only at h1 h2
 by_cases h:j<=i
 ·have hc:decide ((j:Int)<=(i:Int))=true:=by simp;omega
  have hin:=Gr hz hg N L hl hN hL hnet i j hi f tt
  rw[show i+1 - j=(i - j)+1 by omega,GI] at h2
  refine t100 (Wm z zn i j N (Az L i f) f tt (aj _ _ _ _ _ _ _ _ _) ⟨fun _=>?_,fun h=>(by rw[hc] at h;cases h)⟩)
  (repeat' first|(with_reducible first|exact rfl|exact True.intro|assumption|apply And.intro|exact hz|exact hin|exact hnet _|exact aK (by omega))|exact(rfl:Int.ofNat _=_)|exact(rfl:gP _ _=_)|exact hz|exact hin|exact hnet _|exact aK (by omega)|intro hq)
  all_goals first
   |(refine bE ?_
     have e:Az L i f=tt:=by simp_all
     unfold Az at e
     rw[h2,if_pos e];done)
   |(have e:Az L i f≠tt:=by simp_all
     unfold Az at e
     rw[if_neg e] at h2
     exact⟨(j+1,Az L i f),rfl,rfl,rfl,rfl,rfl,⟨by show j+1<=i+1;omega,by show b=dz _ _ (i+1 - (j+1)) _;rw[h2,show i+1 - (j+1)=i - j by omega];rfl⟩,by show i+1 - (j+1)<i+1 - j;omega⟩)
 ·have hc:decide ((j:Int)<=(i:Int))=false:=by simp;omega
  refine t100 (Wm z zn i j N 0 f tt (aj _ _ _ _ _ _ _ _ _) ⟨fun h=>(by rw[hc] at h;cases h),fun _=>?_⟩)
  (repeat' first|(with_reducible first|exact rfl|exact True.intro|assumption|apply And.intro|exact hz|exact hnet _)|exact(rfl:Int.ofNat _=_)|exact(rfl:gP _ _=_)|exact hz|exact hnet _|intro hq)
  refine dp (bE ?_)
  rw[h2,show i+1 - j=0 by omega];rfl
theorem HE(hz:aq z zn)(hg:eR Tryz.prog z gP)(N:aC)(L:List aF)(hl:L.length<100000)(hN:N.nl=L.length)(hL:cu z 0 (L.map aF.row))(hnet: ∀σ:bA,aG (az σ []) (N.cB N.u0 N.l1)=some (N.cB N.u0 N.l1))(i:Nat)(hi:i<=L.length)(f tt:Int):
 A1 z zn 138 [.agg ⟨N.dS N.u0 N.l1⟩,iv i,zv f,zv tt] [] 0 0 (.bool (dz (gh (stays (L.take i))) tt (i+1) f)) []:=by
 have h:=JQ hz hg N L hl hN hL hnet i hi f tt _ rfl
 refine aY hg (fn:=Tryz.f138) (by kernel_rfl) (by kernel_rfl) hz ⟨by decide,by decide⟩ rfl (ZA z zn i N f tt (dz (gh (stays (L.take i))) tt (i+1) f) _ ?_)
 (repeat' first|(with_reducible first|exact rfl|exact True.intro|assumption|apply And.intro|exact hz|exact h|exact hnet _)|exact(rfl:Int.ofNat _=_)|exact(rfl:gP _ _=_)|exact hz|exact h|exact hnet _|intro hq)
 all_goals first
  |(have e:dz (gh (stays (L.take i))) tt (i+1) f=true:=by assumption
    rw[e];exact q1)
  |(have e:dz (gh (stays (L.take i))) tt (i+1) f=false:=by assumption
    rw[e];exact q1)
end
theorem u9{n:Nat}(h:n<1000000000):Value.int .i64 (IntKind.i64.wrap ((n:Int) - 1))=Value.int .i64 ((n:Int) - 1):=by
 have:IntKind.i64.wrap ((n:Int) - 1)=(n:Int) - 1:=by
  simp only[IntKind.wrap,IntKind.signed,IntKind.bits]
  simp
  omega
 rw[this]
theorem uC{z:T aa}{zn eS:Nat}{v v':Value}{zo:bY}(h:v'=v):Q1 z zn eS v zo v' zo eS z zn:=by subst h;exact q1
structure mD(U:List RunT):Prop where
 len:U.length<=1024
 calls: ∀r,r∈U->2<=r.calls.length/\r.calls.length<=32
section
variable{z:T aa}{zn:Nat}
theorem wW{U:List RunT}(hZ:pM z U)(hU:mD U)(e0:TypeId)(y:Int): ∃(ca:Nat)(kb:bg),0<=y->y<U.length->aB Tryz.prog (br e0 (U.map fun r=>r.v.row).flatten) 51 (0+y.toNat*8+7)=some (tb (6+y.toNat) (jb U y) ca)/\z.get (6+y.toNat)=some (.ax kb)
 /\ ∀c:Int,0<=c->c<jb U y->aB Tryz.prog kb 3 (0+c.toNat*5+0)=some (zv (j6 U y c)):=by
 by_cases h:0<=y/\y<U.length
 ·obtain⟨r,hr⟩:=ey (l:=U) (i:=y.toNat) (by omega)
  have hc:=hU.calls r (List.mem_of_getElem? hr)
  have hu:jb U y=r.calls.length:=by unfold jb;rw[hr]
  obtain⟨e,he⟩:=(hZ.calls _ r hr).ax (i:=0) (by simp;omega)
  have hs:r.v.ca=some ⟨256*(6+y.toNat)+510,0,none⟩/\r.v.cn=r.calls.length:=by
   rcases hZ.sl _ r hr with (⟨_,_,_,h4⟩|h)|⟨_,_,_,h4⟩
   ·omega
   ·exact h
   ·omega
  refine⟨r.v.cc,_,fun _ _=>⟨?_,he,fun c h0 h1=>?_⟩⟩
  ·have hlen:=aO (row:=fun r:RunT=>r.v.row) (sz:=8) U fun _=>rfl
   have:=bh (P:=Tryz.prog) (e:=e0) (t:=51) (k:=y.toNat) (j:=7) (r:=r.v.row) (v:= .slice r.v.ca r.v.cn r.v.cc) Tryz.underlying51 rfl hlen (by rw[List.getElem?_map,hr];rfl) rfl
   rw[this,hs.1,hs.2,hu]
  ·obtain⟨x,hx⟩:=ey (l:=r.calls) (i:=c.toNat) (by omega)
   have hst:j6 U y c=x.stop:=by unfold j6;rw[hr];simp only;rw[hx]
   rw[hst]
   exact bh Tryz.underlying3 rfl (aO (row:=bB.row) (sz:=5) r.calls fun _=>rfl) (by rw[List.getElem?_map,hx];rfl) rfl
 ·exact⟨0,⟨[],0,0,0,true,true,0,true⟩,fun h1 h2=>(h ⟨h1,h2⟩).elim⟩
theorem g9{σ:Nat->Option Nat}(x:aF):aG σ (CH x)=some (CH x):=rfl
theorem Gx(hz:aq z zn)(hg:eR Tryz.prog z gP)(N:aC)(L:List aF)(hl:L.length<100000)(hN:N.nl=L.length)(hL:cu z 0 (L.map aF.row))(hnet: ∀σ:bA,aG (az σ []) (N.cB N.u1 N.l1)=some (N.cB N.u1 N.l1))(i:Nat)(hi:i<=L.length)(x:aF)(b:Bool)(hb:b=(x.stay && (L.take i).any (BE x))):
 ai Tryz.prog (ah (ag Tryz.f90) 0) 2 177 (xj i 0) [(0,N.cB N.u1 N.l1),(1,CH x)] 2 z zn (Al.R (QJ z zn N i x b).l):=by
 refine ak hD hg (α:=Nat) 2 177 2 (fun k=>k<=i/\(x.stay && (L.take k).any (BE x))=false) (fun k=>xj i k) (fun _=>[(0,N.cB N.u1 N.l1),(1,CH x)]) (fun _=>z) (fun _=>zn) (fun k=>i - k) _ (fun k hI=>?_) 0 ⟨Nat.zero_le _,by simp⟩
 obtain⟨h1,h2⟩:=hI
 by_cases hk:k<i
 ·obtain⟨e,he⟩:=hL.ax (i:=k) (by simp;omega)
  obtain⟨y,hy⟩:=ey (l:=L) (i:=k) (by omega)
  have hlen:=aO (row:=aF.row) (sz:=5) L fun _=>rfl
  have hrow:aB Tryz.prog (br e (L.map aF.row).flatten) 81 (0+k*5)=some (.agg ⟨y.row⟩):=bJ (r:=y.row) (sz:=5) Tryz.underlying81 rfl rfl hlen (by rw[List.getElem?_map,hy];rfl)
  have hc:decide ((k:Int)<(i:Int))=true:=by simp;omega
  have jy:(x.stay && BE x y)=false->aj (fun k=>k<=i/\(x.stay && (L.take k).any (BE x))=false) (fun k=>xj i k) (fun _=>[(0,N.cB N.u1 N.l1),(1,CH x)]) 2 (fun _=>z) (fun _=>zn) (fun k=>i - k) (Al.R (QJ z zn N i x b).l) k .normal (xj i (k+1)) [(0,N.cB N.u1 N.l1),(1,CH x)] 2 z zn:=fun h=>
   ⟨k+1,rfl,rfl,rfl,rfl,rfl,⟨hk,by rw[jo hy];cases hs:x.stay<;>simp_all⟩,by show i - (k+1)<i - k;omega⟩
  refine t100 (P9 z zn i k N (br e (L.map aF.row).flatten) x y (aj _ _ _ _ _ _ _ _ _) ⟨fun _=>?_,fun h=>(by rw[hc] at h;cases h)⟩)
  (repeat' first|(with_reducible first|exact rfl|exact True.intro|assumption|apply And.intro|exact hz|exact he|exact hrow|exact(by omega:k<N.nl)|exact hnet _|exact g9 x|exact aK (by omega))|exact(rfl:Int.ofNat _=_)|exact(rfl:gP _ _=_)|exact hz|exact he|exact hrow|exact(by omega:k<N.nl)|exact hnet _|exact g9 x|exact aK (by omega)|intro hq)
  all_goals clear hnet hL hrow he hz hlen
  all_goals first
   |(refine jy ?_;unfold BE;simp_all;done)
   |(refine bE ?_;rw[hb]
     have:(L.take i).any (BE x)=true:=any_true hy hk (by unfold BE;simp_all)
     rw[this];simp_all;done)
 ·have hc:decide ((k:Int)<(i:Int))=false:=by simp;omega
  refine t100 (P9 z zn i k N ⟨[],0,0,0,true,true,0,true⟩ x x (aj _ _ _ _ _ _ _ _ _) ⟨fun h=>(by rw[hc] at h;cases h),fun _=>?_⟩)
  (repeat' first|(with_reducible first|exact rfl|exact True.intro|assumption|apply And.intro|exact hz|exact hnet _|exact g9 x)|exact(rfl:Int.ofNat _=_)|exact(rfl:gP _ _=_)|exact hz|exact hnet _|exact g9 x|intro hq)
  refine dp (bE ?_)
  rw[hb,←h2,show k=i by omega]
theorem Gw(hz:aq z zn)(hg:eR Tryz.prog z gP)(N:aC)(L:List aF)(hl:L.length<100000)(hN:N.nl=L.length)(hL:cu z 0 (L.map aF.row))(hnet: ∀σ:bA,aG (az σ []) (N.cB N.u1 N.l1)=some (N.cB N.u1 N.l1))(i:Nat)(hi:i<=L.length)(x:aF)(b:Bool)(hb:b=(L.take i).any (lE x)):
 ai Tryz.prog (ah (ag Tryz.f90) 1) 2 177 (zb i 0) [(0,N.cB N.u1 N.l1),(1,CH x)] 2 z zn (Al.R (QI z zn N i x b).l):=by
 refine ak hD hg (α:=Nat) 2 177 2 (fun k=>k<=i/\(L.take k).any (lE x)=false) (fun k=>zb i k) (fun _=>[(0,N.cB N.u1 N.l1),(1,CH x)]) (fun _=>z) (fun _=>zn) (fun k=>i - k) _ (fun k hI=>?_) 0 ⟨Nat.zero_le _,by simp⟩
 obtain⟨h1,h2⟩:=hI
 by_cases hk:k<i
 ·obtain⟨e,he⟩:=hL.ax (i:=k) (by simp;omega)
  obtain⟨y,hy⟩:=ey (l:=L) (i:=k) (by omega)
  have hlen:=aO (row:=aF.row) (sz:=5) L fun _=>rfl
  have hrow:aB Tryz.prog (br e (L.map aF.row).flatten) 81 (0+k*5)=some (.agg ⟨y.row⟩):=bJ (r:=y.row) (sz:=5) Tryz.underlying81 rfl rfl hlen (by rw[List.getElem?_map,hy];rfl)
  have hc:decide ((k:Int)<(i:Int))=true:=by simp;omega
  have jy:lE x y=false->aj (fun k=>k<=i/\(L.take k).any (lE x)=false) (fun k=>zb i k) (fun _=>[(0,N.cB N.u1 N.l1),(1,CH x)]) 2 (fun _=>z) (fun _=>zn) (fun k=>i - k) (Al.R (QI z zn N i x b).l) k .normal (zb i (k+1)) [(0,N.cB N.u1 N.l1),(1,CH x)] 2 z zn:=fun h=>
   ⟨k+1,rfl,rfl,rfl,rfl,rfl,⟨hk,by rw[jo hy,h2,h];rfl⟩,by show i - (k+1)<i - k;omega⟩
  refine t100 (P8 z zn i k N (br e (L.map aF.row).flatten) x y (aj _ _ _ _ _ _ _ _ _) ⟨fun _=>?_,fun h=>(by rw[hc] at h;cases h)⟩)
  (repeat' first|(with_reducible first|exact rfl|exact True.intro|assumption|apply And.intro|exact hz|exact he|exact hrow|exact(by omega:k<N.nl)|exact hnet _|exact g9 x|exact aK (by omega))|exact(rfl:Int.ofNat _=_)|exact(rfl:gP _ _=_)|exact hz|exact he|exact hrow|exact(by omega:k<N.nl)|exact hnet _|exact g9 x|exact aK (by omega)|intro hq)
  all_goals clear hnet hL hrow he hz hlen
  all_goals first
   |(refine jy ?_;unfold lE;simp_all;done)
   |(refine bE ?_;rw[hb]
     exact any_true hy hk (by unfold lE;simp_all))
 ·have hc:decide ((k:Int)<(i:Int))=false:=by simp;omega
  refine t100 (P8 z zn i k N ⟨[],0,0,0,true,true,0,true⟩ x x (aj _ _ _ _ _ _ _ _ _) ⟨fun h=>(by rw[hc] at h;cases h),fun _=>?_⟩)
  (repeat' first|(with_reducible first|exact rfl|exact True.intro|assumption|apply And.intro|exact hz|exact hnet _|exact g9 x)|exact(rfl:Int.ofNat _=_)|exact(rfl:gP _ _=_)|exact hz|exact hnet _|exact g9 x|intro hq)
  refine dp (bE ?_)
  rw[hb,←h2,show k=i by omega]
theorem KJ(hz:aq z zn)(hg:eR Tryz.prog z gP)(N:aC)(U:List RunT)(L:List aF)(hl:L.length<100000)(hNu:N.nu=U.length)(hN:N.nl=L.length)(hL:cu z 0 (L.map aF.row))(hZ:pM z U)(hU:mD U)(hnet: ∀σ:bA,aG (az σ []) (N.cB N.u1 N.l1)=some (N.cB N.u1 N.l1))(hv:bz (sig []) [.agg ⟨N.dS N.u1 N.l1⟩]=some [.agg ⟨N.dS N.u1 N.l1⟩])(i:Nat)(x:aF)(hx:L[i]? =some x):
 A1 z zn 90 [.agg ⟨N.dS N.u1 N.l1⟩,iv i] [] 0 0 (zv (ig U L i x)) []:=by
 have hi:i<L.length:=(List.getElem?_eq_some_iff.1 hx).1
 obtain⟨el,hel⟩:=hL.ax (i:=i) (by simp;omega)
 have hlen:=aO (row:=aF.row) (sz:=5) L fun _=>rfl
 have hrow:aB Tryz.prog (br el (L.map aF.row).flatten) 81 (0+i*5)=some (.agg ⟨x.row⟩):=bJ (r:=x.row) (sz:=5) Tryz.underlying81 rfl rfl hlen (by rw[List.getElem?_map,hx];rfl)
 have hu0: ∃eu:TypeId,0<U.length->z.get 1=some (.ax (br eu (U.map fun r=>r.v.row).flatten)):=by
  by_cases h:0<U.length
  ·obtain⟨e,he⟩:=hZ.I1.ax (i:=0) (by simpa using h)
   exact⟨e,fun _=>he⟩
  ·exact⟨0,fun k=>(h k).elim⟩
 obtain⟨eu,heu⟩:=hu0
 obtain⟨ca,ka,hA⟩:=wW hZ hU eu x.from_
 obtain⟨cb,kb,hB⟩:=wW hZ hU eu x.an
 have hla:jb U x.from_<1000000000:=by
  unfold jb
  split
  ·rename_i r hr;have:=(hU.calls r (List.mem_of_getElem? hr)).2;omega
  ·omega
 have hlb:jb U x.an<1000000000:=by
  unfold jb
  split
  ·rename_i r hr;have:=(hU.calls r (List.mem_of_getElem? hr)).2;omega
  ·omega
 have hl3:=HE hz hg {N with ua:=some ⟨766,0,none⟩} L hl hN hL hnet i (by omega) x.an x.from_
 have hla3:bz (sig []) [.agg ⟨N.dS N.u1 N.l1⟩,iv i,zv x.an,zv x.from_]=some [.agg ⟨N.dS N.u1 N.l1⟩,iv i,zv x.an,zv x.from_]:=by
  have hv2:aX (sig []) (.agg ⟨N.dS N.u1 N.l1⟩)=some (.agg ⟨N.dS N.u1 N.l1⟩):=by
   simp only[bz] at hv
   split at hv
   ·rename_i u hu;simp only[Option.some.injEq,List.cons.injEq,and_true] at hv;rw[hu,hv]
   ·cases hv
  exact jg hv2 rfl
 have ha:=Gx hz hg N L hl hN hL hnet i (by omega) x _ rfl
 have hb:=Gw hz hg N L hl hN hL hnet i (by omega) x _ rfl
 have hlk:ig U L i x=if x.from_<0\/(U.length:Int)<=x.from_\/x.an<0\/(U.length:Int)<=x.an\/x.from_=x.an then 9
  else if x.fc<0\/(jb U x.from_:Int)<=x.fc\/x.tc<0\/(jb U x.an:Int)<=x.tc then 9
  else if j6 U x.from_ x.fc≠j6 U x.an x.tc then 13
  else if x.stay=true/\(x.fc+1≠jb U x.from_\/x.tc≠0) then 19
  else if (x.stay && (L.take i).any (BE x))=true then 19
  else if x.stay=true/\dz (gh (stays (L.take i))) x.from_ (i+1) x.an=true then 19
  else if (L.take i).any (lE x)=true then 6 else 0:=by
  unfold ig;simp only[Bool.and_eq_true]
 generalize (x.stay && (L.take i).any (BE x))=va at ha hlk
 generalize ((L.take i).any (lE x))=vb at hb hlk
 generalize dz (gh (stays (L.take i))) x.from_ (i+1) x.an=lb at hl3 hlk
 have heu':0<N.nu->z.get 1=some (.ax (br eu (U.map fun r=>r.v.row).flatten)):=fun h=>heu (by omega)
 have hA1: ∀h0:0<=x.from_,x.from_<N.nu->_:=fun h0 h1=>hA h0 (by omega)
 have hB1: ∀h0:0<=x.an,x.an<N.nu->_:=fun h0 h1=>hB h0 (by omega)
 rw[←hNu] at hlk
 refine aY hg (fn:=Tryz.f90) (by kernel_rfl) (by kernel_rfl) hz ⟨by decide,by decide⟩ rfl (ZE z zn i N (br el (L.map aF.row).flatten) (br eu (U.map fun r=>r.v.row).flatten) ka kb x x.from_.toNat x.an.toNat x.fc.toNat x.tc.toNat (jb U x.from_) ca (jb U x.an) cb (j6 U x.from_ x.fc) (j6 U x.an x.tc) lb va vb _ ?_)
 have hnu:N.nu<1000000000:=by have:=hU.len;omega
 (repeat' first|(with_reducible first|exact rfl|exact True.intro|assumption|apply And.intro|exact hz|exact(by omega:i<N.nl)|exact hel|exact hrow|exact u9 hnu|exact u9 hla|exact u9 hlb|exact hl3|exact hla3|exact ha|exact hb|exact hnet _|exact g9 x)|exact(rfl:Int.ofNat _=_)|exact(rfl:gP _ _=_)|exact hz|exact(by omega:i<N.nl)|exact hel|exact hrow|exact u9 hnu|exact u9 hla|exact u9 hlb|exact hl3|exact hla3|exact ha|exact hb|exact hnet _|exact g9 x|intro hq)
 all_goals clear hla3 hl3 ha hb hel hrow hnet hv hz hL hZ hU hA hB heu
 all_goals first
  |(refine uC (congrArg (Value.int .i64) ?_)
    clear hA1 hB1 heu'
    rw[hlk]
    clear hlk
    (repeat' split)<;>first|rfl|(exfalso;simp only[Bool.not_eq_false',Bool.not_eq_true',Bool.and_eq_true,Bool.and_eq_false_iff,decide_eq_true_eq,decide_eq_false_iff_not,bne_iff_ne,bne_eq_false_iff_eq,beq_iff_eq,beq_eq_false_iff_ne,ne_eq] at*;omega)|(exfalso;simp_all;done)|(exfalso;simp_all;omega)|trace_state)
  |exact congrArg Value.bool (by assumption)
  |exact heu' (by simp only[Bool.not_eq_false',Bool.not_eq_true',Bool.and_eq_true,Bool.and_eq_false_iff,decide_eq_true_eq,decide_eq_false_iff_not,bne_iff_ne,bne_eq_false_iff_eq,beq_iff_eq,beq_eq_false_iff_ne,ne_eq] at*;omega)
  |exact(hA1 (by simp only[Bool.not_eq_false',Bool.not_eq_true',Bool.and_eq_true,Bool.and_eq_false_iff,decide_eq_true_eq,decide_eq_false_iff_not,bne_iff_ne,bne_eq_false_iff_eq,beq_iff_eq,beq_eq_false_iff_ne,ne_eq] at*;omega) (by simp only[Bool.not_eq_false',Bool.not_eq_true',Bool.and_eq_true,Bool.and_eq_false_iff,decide_eq_true_eq,decide_eq_false_iff_not,bne_iff_ne,bne_eq_false_iff_eq,beq_iff_eq,beq_eq_false_iff_ne,ne_eq] at*;omega)).1
  |exact(hA1 (by simp only[Bool.not_eq_false',Bool.not_eq_true',Bool.and_eq_true,Bool.and_eq_false_iff,decide_eq_true_eq,decide_eq_false_iff_not,bne_iff_ne,bne_eq_false_iff_eq,beq_iff_eq,beq_eq_false_iff_ne,ne_eq] at*;omega) (by simp only[Bool.not_eq_false',Bool.not_eq_true',Bool.and_eq_true,Bool.and_eq_false_iff,decide_eq_true_eq,decide_eq_false_iff_not,bne_iff_ne,bne_eq_false_iff_eq,beq_iff_eq,beq_eq_false_iff_ne,ne_eq] at*;omega)).2.1
  |exact(hA1 (by simp only[Bool.not_eq_false',Bool.not_eq_true',Bool.and_eq_true,Bool.and_eq_false_iff,decide_eq_true_eq,decide_eq_false_iff_not,bne_iff_ne,bne_eq_false_iff_eq,beq_iff_eq,beq_eq_false_iff_ne,ne_eq] at*;omega) (by simp only[Bool.not_eq_false',Bool.not_eq_true',Bool.and_eq_true,Bool.and_eq_false_iff,decide_eq_true_eq,decide_eq_false_iff_not,bne_iff_ne,bne_eq_false_iff_eq,beq_iff_eq,beq_eq_false_iff_ne,ne_eq] at*;omega)).2.2 _ (by simp only[Bool.not_eq_false',Bool.not_eq_true',Bool.and_eq_true,Bool.and_eq_false_iff,decide_eq_true_eq,decide_eq_false_iff_not,bne_iff_ne,bne_eq_false_iff_eq,beq_iff_eq,beq_eq_false_iff_ne,ne_eq] at*;omega) (by simp only[Bool.not_eq_false',Bool.not_eq_true',Bool.and_eq_true,Bool.and_eq_false_iff,decide_eq_true_eq,decide_eq_false_iff_not,bne_iff_ne,bne_eq_false_iff_eq,beq_iff_eq,beq_eq_false_iff_ne,ne_eq] at*;omega)
  |exact(hB1 (by simp only[Bool.not_eq_false',Bool.not_eq_true',Bool.and_eq_true,Bool.and_eq_false_iff,decide_eq_true_eq,decide_eq_false_iff_not,bne_iff_ne,bne_eq_false_iff_eq,beq_iff_eq,beq_eq_false_iff_ne,ne_eq] at*;omega) (by simp only[Bool.not_eq_false',Bool.not_eq_true',Bool.and_eq_true,Bool.and_eq_false_iff,decide_eq_true_eq,decide_eq_false_iff_not,bne_iff_ne,bne_eq_false_iff_eq,beq_iff_eq,beq_eq_false_iff_ne,ne_eq] at*;omega)).1
  |exact(hB1 (by simp only[Bool.not_eq_false',Bool.not_eq_true',Bool.and_eq_true,Bool.and_eq_false_iff,decide_eq_true_eq,decide_eq_false_iff_not,bne_iff_ne,bne_eq_false_iff_eq,beq_iff_eq,beq_eq_false_iff_ne,ne_eq] at*;omega) (by simp only[Bool.not_eq_false',Bool.not_eq_true',Bool.and_eq_true,Bool.and_eq_false_iff,decide_eq_true_eq,decide_eq_false_iff_not,bne_iff_ne,bne_eq_false_iff_eq,beq_iff_eq,beq_eq_false_iff_ne,ne_eq] at*;omega)).2.1
  |exact(hB1 (by simp only[Bool.not_eq_false',Bool.not_eq_true',Bool.and_eq_true,Bool.and_eq_false_iff,decide_eq_true_eq,decide_eq_false_iff_not,bne_iff_ne,bne_eq_false_iff_eq,beq_iff_eq,beq_eq_false_iff_ne,ne_eq] at*;omega) (by simp only[Bool.not_eq_false',Bool.not_eq_true',Bool.and_eq_true,Bool.and_eq_false_iff,decide_eq_true_eq,decide_eq_false_iff_not,bne_iff_ne,bne_eq_false_iff_eq,beq_iff_eq,beq_eq_false_iff_ne,ne_eq] at*;omega)).2.2 _ (by simp only[Bool.not_eq_false',Bool.not_eq_true',Bool.and_eq_true,Bool.and_eq_false_iff,decide_eq_true_eq,decide_eq_false_iff_not,bne_iff_ne,bne_eq_false_iff_eq,beq_iff_eq,beq_eq_false_iff_ne,ne_eq] at*;omega) (by simp only[Bool.not_eq_false',Bool.not_eq_true',Bool.and_eq_true,Bool.and_eq_false_iff,decide_eq_true_eq,decide_eq_false_iff_not,bne_iff_ne,bne_eq_false_iff_eq,beq_iff_eq,beq_eq_false_iff_ne,ne_eq] at*;omega)
  |(clear hA1 hB1 heu' hlk;simp only[Bool.not_eq_false',Bool.not_eq_true',Bool.and_eq_true,Bool.and_eq_false_iff,decide_eq_true_eq,decide_eq_false_iff_not,bne_iff_ne,bne_eq_false_iff_eq,beq_iff_eq,beq_eq_false_iff_ne,ne_eq] at*;omega)
end
end Go.Proofs.Nw
namespace Go.Proofs.Nw
open Go Go.AV Go.iT
set_option maxHeartbeats 8000000
set_option maxRecDepth 100000
abbrev NK(ps:List (Int × Int)):List Value:=(ps.map (·.2)).map fun x=>zv x
theorem vE(σ:Nat->Option Nat)(l:List (Int × Int))(a b:Int):aG σ (aa.map (iF 0 l++[{key:=zv a,val:=zv b,born:=l.length}]) (l.length+1))=some (aa.map (iF 0 l++[{key:=zv a,val:=zv b,born:=l.length}]) (l.length+1)):=by
 rw[vD];exact td _ _
theorem PY{a:Int}(h0:0<=a)(h:a<1000000000):Value.int .i64 (IntKind.i64.wrap (a+1))=Value.int .i64 (a+1):=by
 have:IntKind.i64.wrap (a+1)=a+1:=by
  simp only[IntKind.wrap,IntKind.signed,IntKind.bits]
  simp
  omega
 rw[this]
theorem I0{U:List RunT}(hU:mD U)(y:Int):(jb U y:Int)<=32:=by
 unfold jb
 split
 ·rename_i r hr;have:=(hU.calls r (List.mem_of_getElem? hr)).2;omega
 ·omega
section
variable{z:T aa}{zn:Nat}
theorem NG(hz:aq z zn)(hg:eR Tryz.prog z gP)(N:aC)(U:List RunT)(L:List aF)(hl:L.length<100000)(hNu:N.nu=U.length)(hN:N.nl=L.length)(hL:cu z 0 (L.map aF.row))(hZ:pM z U)(hU:mD U)(hnet: ∀σ:bA,aG (az σ []) (N.cB N.u1 N.l1)=some (N.cB N.u1 N.l1))(r:Int × Int)(hr:scan (eN U L) L.length 0=r):
 ai Tryz.prog (ah (ag Tryz.f84) 0) 5 171 (DU N.nl N.lc 0) [(0,N.cB N.u1 N.l1),(1,cZ 0 0 0),(2, .map [] 0),(3,bt []),(4,bt [])] 5 z zn (Al.R (Sa z zn N N.u1 (if r.2=0 then 0 else 3) r.1 r.2).l):=by
 refine ak hD hg (α:=Nat) 5 171 5 (fun i=>i<=L.length/\scan (eN U L) (L.length - i) i=r/\ ∀j,j<i->eN U L j=none) (fun i=>DU N.nl N.lc i) (fun i=>[(0,N.cB N.u1 N.l1),(1,cZ 0 0 0),(2,te (stays (L.take i))),(3,bt (NK (stays (L.take i)))),(4,bt ((L.take i).map jH))]) (fun _=>z) (fun _=>zn) (fun i=>L.length - i) _ (fun i hI=>?_) 0 ⟨Nat.zero_le _,hr,fun j hj=>by omega⟩
 obtain⟨h1,h2,h3⟩:=hI
 by_cases hi:i<L.length
 ·obtain⟨x,hx⟩:=ey hi
  obtain⟨el,hel⟩:=hL.ax (i:=i) (by simp;omega)
  have hlen:=aO (row:=aF.row) (sz:=5) L fun _=>rfl
  have hrow:aB Tryz.prog (br el (L.map aF.row).flatten) 81 (0+i*5)=some (.agg ⟨x.row⟩):=bJ (r:=x.row) (sz:=5) Tryz.underlying81 rfl rfl hlen (by rw[List.getElem?_map,hx];rfl)
  have hu0: ∃eu:TypeId,0<U.length->z.get 1=some (.ax (br eu (U.map fun r=>r.v.row).flatten)):=by
   by_cases h:0<U.length
   ·obtain⟨e,he⟩:=hZ.I1.ax (i:=0) (by simpa using h)
    exact⟨e,fun _=>he⟩
   ·exact⟨0,fun k=>(h k).elim⟩
  obtain⟨eu,heu⟩:=hu0
  obtain⟨ca,ka,hA⟩:=wW hZ hU eu x.from_
  obtain⟨cb,kb,hB⟩:=wW hZ hU eu x.an
  have heu':0<N.nu->z.get 1=some (.ax (br eu (U.map fun r=>r.v.row).flatten)):=fun h=>heu (by omega)
  have hA1: ∀h0:0<=x.from_,x.from_<N.nu->_:=fun h0 h1=>hA h0 (by omega)
  have hB1: ∀h0:0<=x.an,x.an<N.nu->_:=fun h0 h1=>hB h0 (by omega)
  have hla:=I0 hU x.from_
  have ok:=vo U L i h1 h3
  have hm:=Uo (stays (L.take i))
  have hk:=QY x (L.take i)
  have hps:=FU (L.take i)
  have hi2:=NJ x.an ((stays (L.take i)).map (·.2))
  have hpi:=DG ((stays (L.take i)).map (·.2))
  have hcf:=C9 (L.take i) x
  have hlds:0<=x.from_->A1 z zn 132 [mp 0,zv x.an,zv x.from_] [(0,te (stays (L.take i)))] 1 1 (.bool (dz (gh (stays (L.take i))) x.from_ (i+1) x.an)) [(0,te (stays (L.take i)))]:=fun h0=>
   KQ hz hm (by rw[ok.eq];exact ok.dep) x.an x.from_ _ (by rw[ok.eq];exact ok.leads h0 (by rw[List.length_take];omega))
  have hlk:ig U L i x=if x.from_<0\/(U.length:Int)<=x.from_\/x.an<0\/(U.length:Int)<=x.an\/x.from_=x.an then 9
   else if x.fc<0\/(jb U x.from_:Int)<=x.fc\/x.tc<0\/(jb U x.an:Int)<=x.tc then 9
   else if j6 U x.from_ x.fc≠j6 U x.an x.tc then 13
   else if x.stay=true/\(x.fc+1≠jb U x.from_\/x.tc≠0) then 19
   else if x.stay=true/\(L.take i).any (BE x)=true then 19
   else if x.stay=true/\dz (gh (stays (L.take i))) x.from_ (i+1) x.an=true then 19
   else if (L.take i).any (lE x)=true then 6 else 0:=rfl
  have ret: ∀e:Int,e=ig U L i x->e≠0->Al.R (Sa z zn N N.u1 (if r.2=0 then 0 else 3) r.1 r.2).l ⟨.ret,[(2,ip 1)],[(1,cZ 3 i e)],5,z,zn⟩:=fun e h h0=>by
   have hb:eN U L i=some e:=by unfold eN;rw[hx];simp only;rw[←h,if_neg h0]
   have:r=((i:Int),e):=by rw[←h2,de hi hb]
   rw[this]
   simp only[if_neg h0]
   exact bE trivial
  have htk:L.take (i+1)=L.take i++[x]:=by rw[List.take_add_one,hx];rfl
  have jy:ig U L i x=0->aj (fun i=>i<=L.length/\scan (eN U L) (L.length - i) i=r/\ ∀j,j<i->eN U L j=none) (fun i=>DU N.nl N.lc i) (fun i=>[(0,N.cB N.u1 N.l1),(1,cZ 0 0 0),(2,te (stays (L.take i))),(3,bt (NK (stays (L.take i)))),(4,bt ((L.take i).map jH))]) 5 (fun _=>z) (fun _=>zn) (fun i=>L.length - i) (Al.R (Sa z zn N N.u1 (if r.2=0 then 0 else 3) r.1 r.2).l) i .normal (DU N.nl N.lc (i+1))
   [(0,N.cB N.u1 N.l1),(1,cZ 0 0 0),(2,te (if x.stay=true then stays (L.take i)++[(x.from_,x.an)] else stays (L.take i))),(3,bt (NK (if x.stay=true then stays (L.take i)++[(x.from_,x.an)] else stays (L.take i)))),(4,bt ((L.take i).map jH++[jH x]))] 5 z zn:=fun h0=>by
   have hb:eN U L i=none:=by unfold eN;rw[hx];simp only;rw[if_pos h0]
   refine⟨i+1,rfl,?_,rfl,rfl,rfl,⟨hi,by rw[←cP hi hb];exact h2,fun j hj=>?_⟩,by show L.length - (i+1)<L.length - i;omega⟩
   ·show _=[(0,N.cB N.u1 N.l1),(1,cZ 0 0 0),(2,te (stays (L.take (i+1)))),(3,bt (NK (stays (L.take (i+1))))),(4,bt ((L.take (i+1)).map jH))]
    rw[htk,kG,List.map_append];rfl
   ·by_cases e:j=i
    ·subst e;exact hb
    ·exact h3 j (by omega)
  have hc:decide ((i:Int)<(N.nl:Int))=true:=by simp;omega
  rw[←hNu] at hlk
  generalize (L.take i).any (BE x)=va at hlk hcf
  generalize dz (gh (stays (L.take i))) x.from_ (i+1) x.an=lb at hlk hlds
  have hv0:ni (stays (L.take i)) x.from_=none->x.an ∉ (stays (L.take i)).map (·.2)->va=false:=fun h k=>hcf.2 ⟨h,k⟩
  have hv1: ∀b,ni (stays (L.take i)) x.from_=some b->va=true:=fun b h=>by
   cases hva:va with
   |true=>rfl
   |false=>(have:=(hcf.1 hva).1;rw[h] at this;cases this)
  have hv2:x.an∈(stays (L.take i)).map (·.2)->va=true:=fun h=>by
   cases hva:va with
   |true=>rfl
   |false=>exact((hcf.1 hva).2 h).elim
  refine t100 (rk z zn i N (br el (L.map aF.row).flatten) (br eu (U.map fun r=>r.v.row).flatten) ka kb x x.from_.toNat x.an.toNat x.fc.toNat x.tc.toNat (jb U x.from_) ca (jb U x.an) cb (j6 U x.from_ x.fc) (j6 U x.an x.tc) lb (stays (L.take i)) (NK (stays (L.take i))) ((L.take i).map jH) (aj _ _ _ _ _ _ _ _ _) ⟨fun _=>?_,fun h=>(by rw[hc] at h;cases h)⟩)
  (repeat' first|(with_reducible first|exact rfl|exact True.intro|assumption|apply And.intro|exact hz|exact(by omega:i<N.nl)|exact hel|exact hrow|exact hm.no _|exact hm.ex _|exact hk.no|exact hk.ex|exact hi2.no|exact hi2.ex|exact hnet _|exact df _ hps rfl|exact df _ hpi rfl|exact gp hps|exact gp hpi|exact td _ _|exact vE _ _ _ _|exact aK (by omega))|exact(rfl:Int.ofNat _=_)|exact(rfl:gP _ _=_)|exact hz|exact(by omega:i<N.nl)|exact hel|exact hrow|exact hm.no _|exact hm.ex _|exact hk.no|exact hk.ex|exact hi2.no|exact hi2.ex|exact hnet _|exact df _ hps rfl|exact df _ hpi rfl|exact gp hps|exact gp hpi|exact td _ _|exact vE _ _ _ _|exact aK (by omega)|intro hq)
  all_goals clear hnet hrow hel hz hL hZ hU hA hB heu hlen hps hpi
  all_goals try (have hm1:=hk.CP (by with_reducible assumption);rw[Ga] at hm1)
  all_goals try (have hm1:=hk.IB (by with_reducible assumption);rw[Ga] at hm1)
  all_goals try (have hm2:=hi2.CP (by with_reducible assumption);rw[CF] at hm2)
  all_goals try (have hm2:=hi2.IB (by with_reducible assumption);rw[CF] at hm2)
  all_goals try (have hm3:=hm.CP (by with_reducible assumption))
  all_goals try (have hm3:=hm.none (by with_reducible assumption))
  all_goals clear hm hk hi2
  all_goals try (have hv:=hv0 hm3 hm2)
  all_goals try (have hv:=hv1 _ hm3)
  all_goals try (have hv:=hv2 hm2)
  all_goals clear hv0 hv1 hv2
  all_goals clear hcf
  all_goals first
   |(refine ret _ ?_ (by decide)
     clear ret jy hlds hA1 hB1 heu' h2 h3 hr
     rw[hlk]
     clear hlk
     (repeat' split)<;>first|rfl|(exfalso;simp only[Bool.not_eq_false',Bool.not_eq_true',Bool.and_eq_true,Bool.and_eq_false_iff,decide_eq_true_eq,decide_eq_false_iff_not,bne_iff_ne,bne_eq_false_iff_eq,beq_iff_eq,beq_eq_false_iff_ne,ne_eq] at*;omega)|(exfalso;simp_all;done)|(exfalso;simp_all;omega))
   |(have h0:ig U L i x=0:=by
      clear ret jy hlds hA1 hB1 heu' h2 h3 hr
      rw[hlk]
      clear hlk
      (repeat' split)<;>first|rfl|(exfalso;simp only[Bool.not_eq_false',Bool.not_eq_true',Bool.and_eq_true,Bool.and_eq_false_iff,decide_eq_true_eq,decide_eq_false_iff_not,bne_iff_ne,bne_eq_false_iff_eq,beq_iff_eq,beq_eq_false_iff_ne,ne_eq] at*;omega)|(exfalso;simp_all;done)|(exfalso;simp_all;omega)
     have q:=jy h0
     rw[fj]
     first
      |(have hs:x.stay=true:=by assumption
        simp only[hs,if_true] at q
        rw[vD,fj]
        simp only[NK,List.map_append,List.map_cons,List.map_nil] at q ⊢
        exact q)
      |(have hs:x.stay=false:=by assumption
        simp only[hs,Bool.false_eq_true,if_false] at q
        exact q))
   |exact congrArg Value.bool (by assumption)
   |exact heu' (by simp only[Bool.not_eq_false',Bool.not_eq_true',Bool.and_eq_true,Bool.and_eq_false_iff,decide_eq_true_eq,decide_eq_false_iff_not,bne_iff_ne,bne_eq_false_iff_eq,beq_iff_eq,beq_eq_false_iff_ne,ne_eq] at*;omega)
   |exact(hA1 (by simp only[Bool.not_eq_false',Bool.not_eq_true',Bool.and_eq_true,Bool.and_eq_false_iff,decide_eq_true_eq,decide_eq_false_iff_not,bne_iff_ne,bne_eq_false_iff_eq,beq_iff_eq,beq_eq_false_iff_ne,ne_eq] at*;omega) (by simp only[Bool.not_eq_false',Bool.not_eq_true',Bool.and_eq_true,Bool.and_eq_false_iff,decide_eq_true_eq,decide_eq_false_iff_not,bne_iff_ne,bne_eq_false_iff_eq,beq_iff_eq,beq_eq_false_iff_ne,ne_eq] at*;omega)).1
   |exact(hA1 (by simp only[Bool.not_eq_false',Bool.not_eq_true',Bool.and_eq_true,Bool.and_eq_false_iff,decide_eq_true_eq,decide_eq_false_iff_not,bne_iff_ne,bne_eq_false_iff_eq,beq_iff_eq,beq_eq_false_iff_ne,ne_eq] at*;omega) (by simp only[Bool.not_eq_false',Bool.not_eq_true',Bool.and_eq_true,Bool.and_eq_false_iff,decide_eq_true_eq,decide_eq_false_iff_not,bne_iff_ne,bne_eq_false_iff_eq,beq_iff_eq,beq_eq_false_iff_ne,ne_eq] at*;omega)).2.1
   |exact(hA1 (by simp only[Bool.not_eq_false',Bool.not_eq_true',Bool.and_eq_true,Bool.and_eq_false_iff,decide_eq_true_eq,decide_eq_false_iff_not,bne_iff_ne,bne_eq_false_iff_eq,beq_iff_eq,beq_eq_false_iff_ne,ne_eq] at*;omega) (by simp only[Bool.not_eq_false',Bool.not_eq_true',Bool.and_eq_true,Bool.and_eq_false_iff,decide_eq_true_eq,decide_eq_false_iff_not,bne_iff_ne,bne_eq_false_iff_eq,beq_iff_eq,beq_eq_false_iff_ne,ne_eq] at*;omega)).2.2 _ (by simp only[Bool.not_eq_false',Bool.not_eq_true',Bool.and_eq_true,Bool.and_eq_false_iff,decide_eq_true_eq,decide_eq_false_iff_not,bne_iff_ne,bne_eq_false_iff_eq,beq_iff_eq,beq_eq_false_iff_ne,ne_eq] at*;omega) (by simp only[Bool.not_eq_false',Bool.not_eq_true',Bool.and_eq_true,Bool.and_eq_false_iff,decide_eq_true_eq,decide_eq_false_iff_not,bne_iff_ne,bne_eq_false_iff_eq,beq_iff_eq,beq_eq_false_iff_ne,ne_eq] at*;omega)
   |exact(hB1 (by simp only[Bool.not_eq_false',Bool.not_eq_true',Bool.and_eq_true,Bool.and_eq_false_iff,decide_eq_true_eq,decide_eq_false_iff_not,bne_iff_ne,bne_eq_false_iff_eq,beq_iff_eq,beq_eq_false_iff_ne,ne_eq] at*;omega) (by simp only[Bool.not_eq_false',Bool.not_eq_true',Bool.and_eq_true,Bool.and_eq_false_iff,decide_eq_true_eq,decide_eq_false_iff_not,bne_iff_ne,bne_eq_false_iff_eq,beq_iff_eq,beq_eq_false_iff_ne,ne_eq] at*;omega)).1
   |exact(hB1 (by simp only[Bool.not_eq_false',Bool.not_eq_true',Bool.and_eq_true,Bool.and_eq_false_iff,decide_eq_true_eq,decide_eq_false_iff_not,bne_iff_ne,bne_eq_false_iff_eq,beq_iff_eq,beq_eq_false_iff_ne,ne_eq] at*;omega) (by simp only[Bool.not_eq_false',Bool.not_eq_true',Bool.and_eq_true,Bool.and_eq_false_iff,decide_eq_true_eq,decide_eq_false_iff_not,bne_iff_ne,bne_eq_false_iff_eq,beq_iff_eq,beq_eq_false_iff_ne,ne_eq] at*;omega)).2.1
   |exact(hB1 (by simp only[Bool.not_eq_false',Bool.not_eq_true',Bool.and_eq_true,Bool.and_eq_false_iff,decide_eq_true_eq,decide_eq_false_iff_not,bne_iff_ne,bne_eq_false_iff_eq,beq_iff_eq,beq_eq_false_iff_ne,ne_eq] at*;omega) (by simp only[Bool.not_eq_false',Bool.not_eq_true',Bool.and_eq_true,Bool.and_eq_false_iff,decide_eq_true_eq,decide_eq_false_iff_not,bne_iff_ne,bne_eq_false_iff_eq,beq_iff_eq,beq_eq_false_iff_ne,ne_eq] at*;omega)).2.2 _ (by simp only[Bool.not_eq_false',Bool.not_eq_true',Bool.and_eq_true,Bool.and_eq_false_iff,decide_eq_true_eq,decide_eq_false_iff_not,bne_iff_ne,bne_eq_false_iff_eq,beq_iff_eq,beq_eq_false_iff_ne,ne_eq] at*;omega) (by simp only[Bool.not_eq_false',Bool.not_eq_true',Bool.and_eq_true,Bool.and_eq_false_iff,decide_eq_true_eq,decide_eq_false_iff_not,bne_iff_ne,bne_eq_false_iff_eq,beq_iff_eq,beq_eq_false_iff_ne,ne_eq] at*;omega)
   |exact hlds (by simp only[Bool.not_eq_false',Bool.not_eq_true',Bool.and_eq_true,Bool.and_eq_false_iff,decide_eq_true_eq,decide_eq_false_iff_not,bne_iff_ne,bne_eq_false_iff_eq,beq_iff_eq,beq_eq_false_iff_ne,ne_eq] at*;omega)
   |exact PY (by simp only[Bool.not_eq_false',Bool.not_eq_true',Bool.and_eq_true,Bool.and_eq_false_iff,decide_eq_true_eq,decide_eq_false_iff_not,bne_iff_ne,bne_eq_false_iff_eq,beq_iff_eq,beq_eq_false_iff_ne,ne_eq] at*;omega) (by simp only[Bool.not_eq_false',Bool.not_eq_true',Bool.and_eq_true,Bool.and_eq_false_iff,decide_eq_true_eq,decide_eq_false_iff_not,bne_iff_ne,bne_eq_false_iff_eq,beq_iff_eq,beq_eq_false_iff_ne,ne_eq] at*;omega)
   |(clear hA1 hB1 heu' hlk hlds jy ret;simp only[Bool.not_eq_false',Bool.not_eq_true',Bool.and_eq_true,Bool.and_eq_false_iff,decide_eq_true_eq,decide_eq_false_iff_not,bne_iff_ne,bne_eq_false_iff_eq,beq_iff_eq,beq_eq_false_iff_ne,ne_eq] at*;omega)
 ·have hc:decide ((i:Int)<(N.nl:Int))=false:=by simp;omega
  refine t100 (rk z zn i N ⟨[],0,0,0,true,true,0,true⟩ ⟨[],0,0,0,true,true,0,true⟩ ⟨[],0,0,0,true,true,0,true⟩ ⟨[],0,0,0,true,true,0,true⟩ ⟨0,0,0,0,true⟩ 0 0 0 0 0 0 0 0 0 0 true (stays (L.take i)) (NK (stays (L.take i))) ((L.take i).map jH) (aj _ _ _ _ _ _ _ _ _) ⟨fun h=>(by rw[hc] at h;cases h),fun _=>?_⟩)
  (repeat' first|(with_reducible first|exact rfl|exact True.intro|assumption|apply And.intro|exact hz|exact hnet _)|exact(rfl:Int.ofNat _=_)|exact(rfl:gP _ _=_)|exact hz|exact hnet _|intro hq)
  rw[dy (by omega)] at h2
  refine dp (bE ?_)
  rw[←h2]
  exact⟨rfl,rfl,rfl⟩
theorem KP(hz:aq z zn)(hg:eR Tryz.prog z gP)(N:aC)(U:List RunT)(L:List aF)(hNu:N.nu=U.length)(hN:N.nl=L.length)(hL:cu z 0 (L.map aF.row))(hZ:pM z U)(hU:mD U)(hnet: ∀σ:bA,aG (az σ []) (N.cB N.u1 N.l1)=some (N.cB N.u1 N.l1)):
 A1 z zn 84 [.agg ⟨N.dS N.u1 N.l1⟩] [] 0 0 (.agg ⟨[zv (if (bO U L).2=0 then 0 else 3),zv (bO U L).1,zv (bO U L).2]⟩) []:=by
 refine aY hg (fn:=Tryz.f84) (by kernel_rfl) (by kernel_rfl) hz ⟨by decide,by decide⟩ rfl (fk z zn N N.u1 (if (bO U L).2=0 then 0 else 3) (bO U L).1 (bO U L).2 _ ?_)
 by_cases h:1024<L.length
 ·have hr:bO U L=(0,5):=if_pos h
  have hc:decide ((N.nl:Int)>1024)=true:=by simp;omega
  rw[hr]
  refine⟨fun _=>?_,fun h=>(by rw[hc] at h;cases h)⟩
  (repeat' first|(with_reducible first|exact rfl|exact True.intro|assumption|apply And.intro|exact hz|exact q1)|exact(rfl:Int.ofNat _=_)|exact(rfl:gP _ _=_)|exact hz|exact q1|intro hq)
 ·have hr:bO U L=scan (eN U L) L.length 0:=if_neg h
  have hc:decide ((N.nl:Int)>1024)=false:=by simp;omega
  have hK:=NG hz hg N U L (by omega) hNu hN hL hZ hU hnet (bO U L) hr.symm
  refine⟨fun h=>(by rw[hc] at h;cases h),fun _=>?_⟩
  (repeat' first|(with_reducible first|exact rfl|exact True.intro|assumption|apply And.intro|exact hz|exact hK|exact hnet _|exact aT _ _ _ _|exact q1)|exact(rfl:Int.ofNat _=_)|exact(rfl:gP _ _=_)|exact hz|exact hK|exact hnet _|exact aT _ _ _ _|exact q1|intro hq)
  all_goals first|(rw[hq.1,hq.2.1,hq.2.2];exact q1)|trace_state
theorem J0(hz:aq z zn)(hg:eR Tryz.prog z gP)(N:aC)(L:List aF)(hl:L.length<100000)(hN:N.nl=L.length)(hL:cu z 0 (L.map aF.row))(hnet: ∀σ:bA,aG (az σ []) (N.cB ay N.l1)=some (N.cB ay N.l1))(r:Int × Int)(hr:scan (eN [] L) L.length 0=r):
 ai Tryz.prog (ah (ag Tryz.f84) 0) 5 171 (DU N.nl N.lc 0) [(0,N.cB ay N.l1),(1,cZ 0 0 0),(2, .map [] 0),(3,bt []),(4,bt [])] 5 z zn (Al.R (Sa z zn N ay (if r.2=0 then 0 else 3) r.1 r.2).l):=by
 refine ak hD hg (α:=Nat) 5 171 5 (fun i=>i=0) (fun i=>DU N.nl N.lc i) (fun i=>[(0,N.cB ay N.l1),(1,cZ 0 0 0),(2, .map [] 0),(3,bt []),(4,bt [])]) (fun _=>z) (fun _=>zn) (fun i=>1) _ (fun i hI=>?_) 0 rfl
 subst hI
 by_cases hi:0<L.length
 ·obtain⟨x,hx⟩:=ey hi
  obtain⟨el,hel⟩:=hL.ax (i:=0) (by simp;omega)
  have hlen:=aO (row:=aF.row) (sz:=5) L fun _=>rfl
  have hrow:aB Tryz.prog (br el (L.map aF.row).flatten) 81 (0+0*5)=some (.agg ⟨x.row⟩):=bJ (r:=x.row) (sz:=5) Tryz.underlying81 rfl rfl hlen (by rw[List.getElem?_map,hx];rfl)
  have hb:eN [] L 0=some 9:=by
   unfold eN;rw[hx];simp only
   have:ig [] L 0 x=9:=by unfold ig;rw[if_pos (by simp;omega)]
   rw[this];rfl
  have hrr:r=(0,9):=by rw[←hr];exact de hi hb
  have hwf:gP 131 [zv x.from_,I 0]=some (.bool false):=by
   show some (Value.bool (decide (0<=x.from_) && decide (x.from_<0)))=_
   have:(decide (0<=x.from_) && decide (x.from_<0))=false:=by simp
   rw[this]
  have hc:decide (((0:Nat):Int)<(N.nl:Int))=true:=by simp;omega
  refine t100 (Wn z zn 0 N (br el (L.map aF.row).flatten) x (aj _ _ _ _ _ _ _ _ _) ⟨fun _=>?_,fun h=>(by rw[hc] at h;cases h)⟩)
  (repeat' first|(with_reducible first|exact rfl|exact True.intro|assumption|apply And.intro|exact hz|exact(by omega:0<N.nl)|exact hel|exact hrow|exact hwf|exact hnet _)|exact(rfl:Int.ofNat _=_)|exact(rfl:gP _ _=_)|exact hz|exact(by omega:0<N.nl)|exact hel|exact hrow|exact hwf|exact hnet _|intro hq)
  all_goals first
   |(rw[hrr];exact bE trivial)
 ·have hc:decide (((0:Nat):Int)<(N.nl:Int))=false:=by simp;omega
  refine t100 (Wn z zn 0 N ⟨[],0,0,0,true,true,0,true⟩ ⟨0,0,0,0,true⟩ (aj _ _ _ _ _ _ _ _ _) ⟨fun h=>(by rw[hc] at h;cases h),fun _=>?_⟩)
  (repeat' first|(with_reducible first|exact rfl|exact True.intro|assumption|apply And.intro|exact hz|exact hnet _)|exact(rfl:Int.ofNat _=_)|exact(rfl:gP _ _=_)|exact hz|exact hnet _|intro hq)
  have e:L.length=0:=by omega
  rw[e] at hr
  refine dp (bE ?_)
  rw[←hr]
  exact⟨rfl,rfl,rfl⟩
theorem HO(hz:aq z zn)(hg:eR Tryz.prog z gP)(N:aC)(L:List aF)(hN:N.nl=L.length)(hL:cu z 0 (L.map aF.row))(hnet: ∀σ:bA,aG (az σ []) (N.cB ay N.l1)=some (N.cB ay N.l1)):
 A1 z zn 84 [.agg ⟨N.dS ay N.l1⟩] [] 0 0 (.agg ⟨[zv (if (bO [] L).2=0 then 0 else 3),zv (bO [] L).1,zv (bO [] L).2]⟩) []:=by
 refine aY hg (fn:=Tryz.f84) (by kernel_rfl) (by kernel_rfl) hz ⟨by decide,by decide⟩ rfl (ZG z zn N ay (if (bO [] L).2=0 then 0 else 3) (bO [] L).1 (bO [] L).2 _ ?_)
 by_cases h:1024<L.length
 ·have hr:bO [] L=(0,5):=if_pos h
  have hc:decide ((N.nl:Int)>1024)=true:=by simp;omega
  rw[hr]
  refine⟨fun _=>?_,fun h=>(by rw[hc] at h;cases h)⟩
  (repeat' first|(with_reducible first|exact rfl|exact True.intro|assumption|apply And.intro|exact hz|exact q1)|exact(rfl:Int.ofNat _=_)|exact(rfl:gP _ _=_)|exact hz|exact q1|intro hq)
 ·have hr:bO [] L=scan (eN [] L) L.length 0:=if_neg h
  have hc:decide ((N.nl:Int)>1024)=false:=by simp;omega
  have hK:=J0 hz hg N L (by omega) hN hL hnet (bO [] L) hr.symm
  refine⟨fun h=>(by rw[hc] at h;cases h),fun _=>?_⟩
  (repeat' first|(with_reducible first|exact rfl|exact True.intro|assumption|apply And.intro|exact hz|exact hK|exact hnet _|exact aT _ _ _ _|exact q1)|exact(rfl:Int.ofNat _=_)|exact(rfl:gP _ _=_)|exact hz|exact hK|exact hnet _|exact aT _ _ _ _|exact q1|intro hq)
  all_goals first|(rw[hq.1,hq.2.1,hq.2.2];exact q1)|trace_state
theorem HN(hz:aq z zn)(hg:eR Tryz.prog z gP)(N:aC)(hnet: ∀σ:bA,aG (az σ []) (N.cB N.u0 ay)=some (N.cB N.u0 ay)):
 A1 z zn 84 [.agg ⟨N.dS N.u0 ay⟩] [] 0 0 (.agg ⟨[I 0,I 0,I 0]⟩) []:=by
 have hL:ai Tryz.prog (ah (ag Tryz.f84) 0) 5 171 DT [(0,N.cB N.u0 ay),(1,cZ 0 0 0),(2, .map [] 0),(3,bt []),(4,bt [])] 5 z zn (Al.R (Ux z zn N).l):=by
  refine ak hD hg (α:=Nat) 5 171 5 (fun i=>i=0) (fun i=>DT) (fun i=>[(0,N.cB N.u0 ay),(1,cZ 0 0 0),(2, .map [] 0),(3,bt []),(4,bt [])]) (fun _=>z) (fun _=>zn) (fun i=>1) _ (fun i hI=>?_) 0 rfl
  refine t100 (XR z zn N (aj _ _ _ _ _ _ _ _ _) ?_)
  (repeat' first|(with_reducible first|exact rfl|exact True.intro|assumption|apply And.intro|exact hz|exact hnet _)|exact(rfl:Int.ofNat _=_)|exact(rfl:gP _ _=_)|exact hz|exact hnet _|intro hq)
  all_goals first|exact bE trivial|trace_state
 refine aY hg (fn:=Tryz.f84) (by kernel_rfl) (by kernel_rfl) hz ⟨by decide,by decide⟩ rfl (ZF z zn N _ ?_)
 (repeat' first|(with_reducible first|exact rfl|exact True.intro|assumption|apply And.intro|exact hz|exact hL|exact hnet _|exact q1)|exact(rfl:Int.ofNat _=_)|exact(rfl:gP _ _=_)|exact hz|exact hL|exact hnet _|exact q1|intro hq)
end
end Go.Proofs.Nw
namespace Go.Proofs.Nw
open Go Go.AV Go.iT
set_option maxRecDepth 100000
def bZ(x y:ae):Bool:=decide (y.from_=x.from_) && (decide (y.an=x.an) && (y.sf==x.sf))
def fq(n:Int)(l:List ae)(i:Nat)(x:ae):Int:=
 if x.from_<0\/n<=x.from_\/x.an<0\/n<=x.an\/x.from_=x.an then 9 else if x.aH<1\/14400<x.aH then 2 else if (l.take i).any (bZ x)=true then 6 else 0
def cN(n:Int)(l:List ae)(i:Nat):Option Int:=match l[i]? with
 |some x=>if fq n l i x=0 then none else some (fq n l i x)
 |none=>none
def aS(n:Int)(l:List ae):Int × Int:=scan (cN n l) l.length 0
theorem oW: ∀(M:Nat)(l:List Nat),l.Nodup->(∀x∈l,x<M)->l.length<=M
 |0,l,_,h=>by
  cases l with
  |nil=>simp
  |cons a l=>have:=h a (by simp);omega
 |M+1,l,hn,h=>by
  have h1:=oW M (l.erase M) (hn.erase M) fun x hx=>by
   have:=h x (List.mem_of_mem_erase hx)
   have hne:x≠M:=fun e=>by subst e;exact hn.not_mem_erase hx
   omega
  by_cases hm:M∈l
  ·rw[List.length_erase_of_mem hm] at h1;omega
  ·rw[List.erase_of_not_mem hm] at h1;omega
def xw(x:ae):Nat:=x.from_.toNat*128+x.an.toNat*2+(if x.sf=true then 1 else 0)
theorem zR(n:Int)(hn:n<=64)(l:List ae): ∀k,k<=l.length->(∀j,j<k->cN n l j=none)->((l.take k).map xw).Nodup/\ ∀y∈l.take k,0<=y.from_/\y.from_<64/\0<=y.an/\y.an<64
 |0,_,_=>by simp
 |k+1,hk,h=>by
  obtain⟨h1,h2⟩:=zR n hn l k (by omega) fun j hj=>h j (by omega)
  obtain⟨x,hx⟩:=ey (l:=l) (i:=k) (by omega)
  have hb:=h k (by omega)
  unfold cN at hb
  rw[hx] at hb
  have he:fq n l k x=0:=by simpa using hb
  unfold fq at he
  split at he
  ·cases he
  rename_i c1
  split at he
  ·cases he
  split at he
  ·cases he
  rename_i c3
  have c3: ∀y∈l.take k,bZ x y=false:=by simpa using c3
  have ht:l.take (k+1)=l.take k++[x]:=by rw[List.take_add_one,hx];rfl
  rw[ht]
  constructor
  ·rw[List.map_append,List.nodup_append]
   refine⟨h1,by simp,fun a ha b hb=>?_⟩
   obtain⟨y,hy,rfl⟩:=List.mem_map.1 ha
   have hb:b=xw x:=by simpa using hb
   subst hb
   intro e
   have hs:=c3 y hy
   obtain⟨g1,g2,g3,g4⟩:=h2 y hy
   unfold xw at e
   simp only[bZ,Bool.and_eq_false_iff,decide_eq_false_iff_not,beq_eq_false_iff_ne] at hs
   have e1:y.from_=x.from_:=by(repeat' split at e)<;>omega
   have e2:y.an=x.an:=by(repeat' split at e)<;>omega
   have e3:y.sf=x.sf:=by
    cases hy1:y.sf<;>cases hx1:x.sf<;>rw[hy1,hx1] at e<;>first|rfl|(exfalso;simp only[if_true,if_false,Bool.false_eq_true] at e;omega)
   rcases hs with q|q|q
   ·exact q e1
   ·exact q e2
   ·exact q e3
  ·intro y hy
   rcases List.mem_append.1 hy with q|q
   ·exact h2 y q
   ·have:y=x:=by simpa using q
    subst this;omega
theorem Cp{n:Int}(hn:n<=64){l:List ae}{k:Nat}(hk:k<=l.length)(h: ∀j,j<k->cN n l j=none):k<=8192:=by
 obtain⟨h1,h2⟩:=zR n hn l k hk h
 have:=oW 8192 _ h1 fun c hc=>by
  obtain⟨y,hy,rfl⟩:=List.mem_map.1 hc
  obtain⟨g1,g2,g3,g4⟩:=h2 y hy
  unfold xw
  split<;>omega
 simpa[List.length_take,Nat.min_eq_left hk] using this
abbrev fH(x:ae):Value:= .agg ⟨[zv x.from_,zv x.an, .bool x.sf]⟩
abbrev fG(x:ae):Value:= .agg ⟨[zv x.from_,zv x.an,zv 0, .bool x.sf]⟩
theorem UH(x:ae)(l:List ae):kA 302 (fH x) (l.map fH):=⟨fun k' hk'=>by
 obtain⟨y,_,rfl⟩:=List.mem_map.1 hk'
 refine⟨rfl,_,G7 _ _ _ _ _ _,?_⟩
 simp only[Bool.and_eq_true,decide_eq_true_eq,beq_iff_eq,Value.agg.injEq,Array.mk.injEq,List.cons.injEq,Value.int.injEq,Value.bool.injEq,true_and,and_true]⟩
theorem UG(x:ae)(l:List ae):kA 141 (fG x) (l.map fG):=⟨fun k' hk'=>by
 obtain⟨y,_,rfl⟩:=List.mem_map.1 hk'
 refine⟨rfl,_,G6 _ _ _ _ _ _ _ _,?_⟩
 simp only[Bool.and_eq_true,decide_eq_true_eq,beq_iff_eq,Value.agg.injEq,Array.mk.injEq,List.cons.injEq,Value.int.injEq,Value.bool.injEq,true_and,and_true]⟩
theorem yW(x:ae)(l:List ae):fH x∈l.map fH↔l.any (bZ x)=true:=by
 rw[List.mem_map,List.any_eq_true]
 simp only[bZ,Bool.and_eq_true,decide_eq_true_eq,beq_iff_eq,Value.agg.injEq,Array.mk.injEq,List.cons.injEq,Value.int.injEq,Value.bool.injEq,true_and,and_true]
theorem yV(x:ae)(l:List ae):fG x∈l.map fG↔l.any (bZ x)=true:=by
 rw[List.mem_map,List.any_eq_true]
 simp only[bZ,Bool.and_eq_true,decide_eq_true_eq,beq_iff_eq,Value.agg.injEq,Array.mk.injEq,List.cons.injEq,Value.int.injEq,Value.bool.injEq,true_and,and_true]
theorem Jr(l:List ae): ∀k,k∈l.map fH->au k=true:=fun k hk=>by
 obtain⟨t,_,rfl⟩:=List.mem_map.1 hk
 rfl
theorem Jq(l:List ae): ∀k,k∈l.map fG->au k=true:=fun k hk=>by
 obtain⟨t,_,rfl⟩:=List.mem_map.1 hk
 rfl
end Go.Proofs.Nw
namespace Go.Proofs.Nw
open Go Go.AV Go.iT
set_option maxHeartbeats 8000000
set_option maxRecDepth 100000
section
variable{z:T aa}{zn:Nat}
theorem JL(hz:aq z zn)(hg:eR Tryz.prog z gP)(n:Int)(hn:n<=64)(l:List ae)(cp:Nat)(hL:cu z 4 (l.map ae.row))(r:Int × Int)(hr:scan (cN n l) l.length 0=r):
 ai Tryz.prog (ah (ag Tryz.f187) 0) 1 62 (yZ n l.length cp 0) [(0,bt [])] 1 z zn (Al.R (Nr z zn l.length cp n r.1 r.2).l):=by
 refine ak hD hg (α:=Nat) 1 62 1 (fun i=>i<=l.length/\scan (cN n l) (l.length - i) i=r/\ ∀j,j<i->cN n l j=none) (fun i=>yZ n l.length cp i) (fun i=>[(0,bt ((l.take i).map fH))]) (fun _=>z) (fun _=>zn) (fun i=>l.length - i) _ (fun i hI=>?_) 0 ⟨Nat.zero_le _,hr,fun j hj=>by omega⟩
 obtain⟨h1,h2,h3⟩:=hI
 have hle:=Cp hn h1 h3
 by_cases hi:i<l.length
 ·obtain⟨x,hx⟩:=ey hi
  obtain⟨el,hel⟩:=hL.ax (i:=i) (by simp;omega)
  have hlen:=aO (row:=ae.row) (sz:=4) l fun _=>rfl
  have hrow:aB Tryz.prog (br el (l.map ae.row).flatten) 141 (0+i*4)=some (.agg ⟨x.row⟩):=bJ (r:=x.row) (sz:=4) Tryz.underlying141 rfl rfl hlen (by rw[List.getElem?_map,hx];rfl)
  have hk:=UH x (l.take i)
  have hkT:x.sf=true->kA 302 (.agg ⟨[zv x.from_,zv x.an,T1]⟩) ((l.take i).map fH):=fun h=>by unfold fH at hk;rw[h] at hk;exact hk
  have hkF:x.sf=false->kA 302 (.agg ⟨[zv x.from_,zv x.an,F0]⟩) ((l.take i).map fH):=fun h=>by unfold fH at hk;rw[h] at hk;exact hk
  have hmT:x.sf=true->((.agg ⟨[zv x.from_,zv x.an,T1]⟩:Value)∈((l.take i).map fH)↔(l.take i).any (bZ x)=true):=fun h=>by have:=yW x (l.take i);unfold fH at this;rw[h] at this;exact this
  have hmF:x.sf=false->((.agg ⟨[zv x.from_,zv x.an,F0]⟩:Value)∈((l.take i).map fH)↔(l.take i).any (bZ x)=true):=fun h=>by have:=yW x (l.take i);unfold fH at this;rw[h] at this;exact this
  have hps:=Jr (l.take i)
  have hlk:fq n l i x=if x.from_<0\/n<=x.from_\/x.an<0\/n<=x.an\/x.from_=x.an then 9 else if x.aH<1\/14400<x.aH then 2 else if (l.take i).any (bZ x)=true then 6 else 0:=rfl
  have ret: ∀e:Int,e=fq n l i x->e≠0->Al.R (Nr z zn l.length cp n r.1 r.2).l ⟨.ret,[(4,iv i),(5,zv e)],[],1,z,zn⟩:=fun e h h0=>by
   have hb:cN n l i=some e:=by unfold cN;rw[hx];simp only;rw[←h,if_neg h0]
   have:r=((i:Int),e):=by rw[←h2,de hi hb]
   rw[this]
   exact bE trivial
  have htk:l.take (i+1)=l.take i++[x]:=by rw[List.take_add_one,hx];rfl
  have jy:fq n l i x=0->aj (fun i=>i<=l.length/\scan (cN n l) (l.length - i) i=r/\ ∀j,j<i->cN n l j=none) (fun i=>yZ n l.length cp i) (fun i=>[(0,bt ((l.take i).map fH))]) 1 (fun _=>z) (fun _=>zn) (fun i=>l.length - i) (Al.R (Nr z zn l.length cp n r.1 r.2).l) i .normal (yZ n l.length cp (i+1)) [(0,bt ((l.take i).map fH++[fH x]))] 1 z zn:=fun h0=>by
   have hb:cN n l i=none:=by unfold cN;rw[hx];simp only;rw[if_pos h0]
   refine⟨i+1,rfl,?_,rfl,rfl,rfl,⟨hi,by rw[←cP hi hb];exact h2,fun j hj=>?_⟩,by show l.length - (i+1)<l.length - i;omega⟩
   ·show _=[(0,bt ((l.take (i+1)).map fH))]
    rw[htk,List.map_append];rfl
   ·by_cases e:j=i
    ·subst e;exact hb
    ·exact h3 j (by omega)
  have hc:decide ((i:Int)<(l.length:Int))=true:=by simp;omega
  refine t100 (V6 z zn i l.length cp n (br el (l.map ae.row).flatten) x ((l.take i).map fH) (aj _ _ _ _ _ _ _ _ _) ⟨fun _=>?_,fun h=>(by rw[hc] at h;cases h)⟩)
  (repeat' first|(with_reducible first|exact rfl|exact True.intro|assumption|apply And.intro|exact hz|exact hi|exact hel|exact hrow|exact(hkT (by assumption)).no|exact(hkF (by assumption)).no|exact(hkT (by assumption)).ex|exact(hkF (by assumption)).ex|exact df _ hps rfl|exact gp hps|exact aK (by omega))|exact(rfl:Int.ofNat _=_)|exact(rfl:gP _ _=_)|exact hz|exact hi|exact hel|exact hrow|exact(hkT (by assumption)).no|exact(hkF (by assumption)).no|exact(hkT (by assumption)).ex|exact(hkF (by assumption)).ex|exact df _ hps rfl|exact gp hps|exact aK (by omega)|intro hq)
  all_goals clear hrow hel hz hL hlen hps
  all_goals try (have hm1:=(hmT (by assumption)).1 ((hkT (by assumption)).CP (by with_reducible assumption)))
  all_goals try (have hm1:=(hmF (by assumption)).1 ((hkF (by assumption)).CP (by with_reducible assumption)))
  all_goals try (have hm1:=fun h=>(hkT (by assumption)).IB (by with_reducible assumption) ((hmT (by assumption)).2 h))
  all_goals try (have hm1:=fun h=>(hkF (by assumption)).IB (by with_reducible assumption) ((hmF (by assumption)).2 h))
  all_goals clear hk hkT hkF hmT hmF
  all_goals first
   |(refine ret _ ?_ (by decide)
     clear ret jy h2 h3 hr
     rw[hlk]
     clear hlk
     (repeat' split)<;>first|rfl|(exfalso;simp only[Bool.not_eq_false',Bool.not_eq_true',Bool.and_eq_true,Bool.and_eq_false_iff,decide_eq_true_eq,decide_eq_false_iff_not,bne_iff_ne,bne_eq_false_iff_eq,beq_iff_eq,beq_eq_false_iff_ne,ne_eq] at*;omega)|(exfalso;simp_all;done))
   |(have h0:fq n l i x=0:=by
      clear ret jy h2 h3 hr
      rw[hlk]
      clear hlk
      (repeat' split)<;>first|rfl|(exfalso;simp only[Bool.not_eq_false',Bool.not_eq_true',Bool.and_eq_true,Bool.and_eq_false_iff,decide_eq_true_eq,decide_eq_false_iff_not,bne_iff_ne,bne_eq_false_iff_eq,beq_iff_eq,beq_eq_false_iff_ne,ne_eq] at*;omega)|(exfalso;simp_all;done)
     have q:=jy h0
     unfold fH at q
     rw[show x.sf=_ by assumption] at q
     rw[fj]
     exact q)
 ·have hc:decide ((i:Int)<(l.length:Int))=false:=by simp;omega
  refine t100 (V6 z zn i l.length cp n ⟨[],0,0,0,true,true,0,true⟩ ⟨0,0,0,true⟩ ((l.take i).map fH) (aj _ _ _ _ _ _ _ _ _) ⟨fun h=>(by rw[hc] at h;cases h),fun _=>?_⟩)
  (repeat' first|(with_reducible first|exact rfl|exact True.intro|assumption|apply And.intro|exact hz)|exact(rfl:Int.ofNat _=_)|exact(rfl:gP _ _=_)|exact hz|intro hq)
  rw[dy (by omega)] at h2
  refine dp (bE ?_)
  rw[←h2]
  exact⟨rfl,rfl⟩
theorem KF(hz:aq z zn)(hg:eR Tryz.prog z gP)(n:Int)(hn:n<=64)(l:List ae)(cp:Nat)(hL:cu z 4 (l.map ae.row)):
 A1 z zn 187 [tb 4 l.length cp,zv n] [] 0 0 (.tuple ⟨[zv (aS n l).1,zv (aS n l).2]⟩) []:=by
 have hK:=JL hz hg n hn l cp hL (aS n l) rfl
 refine aY hg (fn:=Tryz.f187) (by kernel_rfl) (by kernel_rfl) hz ⟨by decide,by decide⟩ rfl (Zy z zn l.length cp n (aS n l).1 (aS n l).2 _ ?_)
 (repeat' first|(with_reducible first|exact rfl|exact True.intro|assumption|apply And.intro|exact hz|exact hK|exact aT _ _ _ _|exact q1)|exact(rfl:Int.ofNat _=_)|exact(rfl:gP _ _=_)|exact hz|exact hK|exact aT _ _ _ _|exact q1|intro hq)
 all_goals first|(rw[hq.1,hq.2];exact q1)|trace_state
theorem Hx(hz:aq z zn)(hg:eR Tryz.prog z gP)(n:Int):
 A1 z zn 187 [ay,zv n] [] 0 0 (.tuple ⟨[zv 0,zv 0]⟩) []:=by
 have hL:ai Tryz.prog (ah (ag Tryz.f187) 0) 1 62 (vG n) [(0,bt [])] 1 z zn (Al.R (Qn z zn n).l):=by
  refine ak hD hg (α:=Nat) 1 62 1 (fun i=>i=0) (fun i=>vG n) (fun i=>[(0,bt [])]) (fun _=>z) (fun _=>zn) (fun i=>1) _ (fun i hI=>?_) 0 rfl
  refine t100 (TU z zn n (aj _ _ _ _ _ _ _ _ _) ?_)
  (repeat' first|(with_reducible first|exact rfl|exact True.intro|assumption|apply And.intro|exact hz)|exact(rfl:Int.ofNat _=_)|exact(rfl:gP _ _=_)|exact hz|intro hq)
  all_goals first|exact bE trivial|trace_state
 refine aY hg (fn:=Tryz.f187) (by kernel_rfl) (by kernel_rfl) hz ⟨by decide,by decide⟩ rfl (U1 z zn n _ ?_)
 (repeat' first|(with_reducible first|exact rfl|exact True.intro|assumption|apply And.intro|exact hz|exact hL|exact q1)|exact(rfl:Int.ofNat _=_)|exact(rfl:gP _ _=_)|exact hz|exact hL|exact q1|intro hq)
end
section
variable{z:T aa}{zn:Nat}
theorem J4(hz:aq z zn)(hg:eR Tryz.prog z gP)(N:aC)(hn:N.ns<=64)(l:List ae)(hN:N.np=l.length)(hnet: ∀σ:bA,aG (az σ []) (N.cd N.p1)=some (N.cd N.p1))(hL:cu z 4 (l.map ae.row))(r:Int × Int)(hr:scan (cN N.ns l) l.length 0=r):
 ai Tryz.prog (ah (ag Tryz.f86) 0) 3 78 (ze N.np N.pc 0) [(0,N.cd N.p1),(1,cZ 0 0 0),(2,bt [])] 3 z zn (Al.R (NC z zn N (if r.2=0 then 0 else 4) r.1 r.2).l):=by
 refine ak hD hg (α:=Nat) 3 78 3 (fun i=>i<=l.length/\scan (cN N.ns l) (l.length - i) i=r/\ ∀j,j<i->cN N.ns l j=none) (fun i=>ze N.np N.pc i) (fun i=>[(0,N.cd N.p1),(1,cZ 0 0 0),(2,bt ((l.take i).map fG))]) (fun _=>z) (fun _=>zn) (fun i=>l.length - i) _ (fun i hI=>?_) 0 ⟨Nat.zero_le _,hr,fun j hj=>by omega⟩
 obtain⟨h1,h2,h3⟩:=hI
 have hle:=Cp (by omega:(N.ns:Int)<=64) h1 h3
 by_cases hi:i<l.length
 ·obtain⟨x,hx⟩:=ey hi
  obtain⟨el,hel⟩:=hL.ax (i:=i) (by simp;omega)
  have hlen:=aO (row:=ae.row) (sz:=4) l fun _=>rfl
  have hrow:aB Tryz.prog (br el (l.map ae.row).flatten) 141 (0+i*4)=some (.agg ⟨x.row⟩):=bJ (r:=x.row) (sz:=4) Tryz.underlying141 rfl rfl hlen (by rw[List.getElem?_map,hx];rfl)
  have hk:=UG x (l.take i)
  have hkT:x.sf=true->kA 141 (.agg ⟨[zv x.from_,zv x.an,I 0,T1]⟩) ((l.take i).map fG):=fun h=>by unfold fG at hk;rw[h] at hk;exact hk
  have hkF:x.sf=false->kA 141 (.agg ⟨[zv x.from_,zv x.an,I 0,F0]⟩) ((l.take i).map fG):=fun h=>by unfold fG at hk;rw[h] at hk;exact hk
  have hmT:x.sf=true->((.agg ⟨[zv x.from_,zv x.an,I 0,T1]⟩:Value)∈((l.take i).map fG)↔(l.take i).any (bZ x)=true):=fun h=>by have:=yV x (l.take i);unfold fG at this;rw[h] at this;exact this
  have hmF:x.sf=false->((.agg ⟨[zv x.from_,zv x.an,I 0,F0]⟩:Value)∈((l.take i).map fG)↔(l.take i).any (bZ x)=true):=fun h=>by have:=yV x (l.take i);unfold fG at this;rw[h] at this;exact this
  have hps:=Jq (l.take i)
  have hlk:fq N.ns l i x=if x.from_<0\/(N.ns:Int)<=x.from_\/x.an<0\/(N.ns:Int)<=x.an\/x.from_=x.an then 9 else if x.aH<1\/14400<x.aH then 2 else if (l.take i).any (bZ x)=true then 6 else 0:=rfl
  have ret: ∀e:Int,e=fq N.ns l i x->e≠0->Al.R (NC z zn N (if r.2=0 then 0 else 4) r.1 r.2).l ⟨.ret,[(2,ip 1)],[(1,cZ 4 i e)],3,z,zn⟩:=fun e h h0=>by
   have hb:cN N.ns l i=some e:=by unfold cN;rw[hx];simp only;rw[←h,if_neg h0]
   have:r=((i:Int),e):=by rw[←h2,de hi hb]
   rw[this]
   simp only[if_neg h0]
   exact bE (by decide)
  have htk:l.take (i+1)=l.take i++[x]:=by rw[List.take_add_one,hx];rfl
  have jy:fq N.ns l i x=0->aj (fun i=>i<=l.length/\scan (cN N.ns l) (l.length - i) i=r/\ ∀j,j<i->cN N.ns l j=none) (fun i=>ze N.np N.pc i) (fun i=>[(0,N.cd N.p1),(1,cZ 0 0 0),(2,bt ((l.take i).map fG))]) 3 (fun _=>z) (fun _=>zn) (fun i=>l.length - i) (Al.R (NC z zn N (if r.2=0 then 0 else 4) r.1 r.2).l) i .normal (ze N.np N.pc (i+1)) [(0,N.cd N.p1),(1,cZ 0 0 0),(2,bt ((l.take i).map fG++[fG x]))] 3 z zn:=fun h0=>by
   have hb:cN N.ns l i=none:=by unfold cN;rw[hx];simp only;rw[if_pos h0]
   refine⟨i+1,rfl,?_,rfl,rfl,rfl,⟨hi,by rw[←cP hi hb];exact h2,fun j hj=>?_⟩,by show l.length - (i+1)<l.length - i;omega⟩
   ·show _=[(0,N.cd N.p1),(1,cZ 0 0 0),(2,bt ((l.take (i+1)).map fG))]
    rw[htk,List.map_append];rfl
   ·by_cases e:j=i
    ·subst e;exact hb
    ·exact h3 j (by omega)
  have hc:decide ((i:Int)<(N.np:Int))=true:=by simp;omega
  refine t100 (Wq z zn i N (br el (l.map ae.row).flatten) x ((l.take i).map fG) (aj _ _ _ _ _ _ _ _ _) ⟨fun _=>?_,fun h=>(by rw[hc] at h;cases h)⟩)
  (repeat' first|(with_reducible first|exact rfl|exact True.intro|assumption|apply And.intro|exact hz|exact(by omega:i<N.np)|exact hnet _|exact hel|exact hrow|exact(hkT (by assumption)).no|exact(hkF (by assumption)).no|exact(hkT (by assumption)).ex|exact(hkF (by assumption)).ex|exact df _ hps rfl|exact gp hps|exact aK (by omega))|exact(rfl:Int.ofNat _=_)|exact(rfl:gP _ _=_)|exact hz|exact(by omega:i<N.np)|exact hnet _|exact hel|exact hrow|exact(hkT (by assumption)).no|exact(hkF (by assumption)).no|exact(hkT (by assumption)).ex|exact(hkF (by assumption)).ex|exact df _ hps rfl|exact gp hps|exact aK (by omega)|intro hq)
  all_goals clear hrow hel hz hL hlen hps
  all_goals try (have hm1:=(hmT (by assumption)).1 ((hkT (by assumption)).CP (by with_reducible assumption)))
  all_goals try (have hm1:=(hmF (by assumption)).1 ((hkF (by assumption)).CP (by with_reducible assumption)))
  all_goals try (have hm1:=fun h=>(hkT (by assumption)).IB (by with_reducible assumption) ((hmT (by assumption)).2 h))
  all_goals try (have hm1:=fun h=>(hkF (by assumption)).IB (by with_reducible assumption) ((hmF (by assumption)).2 h))
  all_goals clear hk hkT hkF hmT hmF
  all_goals first
   |(refine ret _ ?_ (by decide)
     clear ret jy h2 h3 hr
     rw[hlk]
     clear hlk
     (repeat' split)<;>first|rfl|(exfalso;simp only[Bool.not_eq_false',Bool.not_eq_true',Bool.and_eq_true,Bool.and_eq_false_iff,decide_eq_true_eq,decide_eq_false_iff_not,bne_iff_ne,bne_eq_false_iff_eq,beq_iff_eq,beq_eq_false_iff_ne,ne_eq] at*;omega)|(exfalso;simp_all;done))
   |(have h0:fq N.ns l i x=0:=by
      clear ret jy h2 h3 hr
      rw[hlk]
      clear hlk
      (repeat' split)<;>first|rfl|(exfalso;simp only[Bool.not_eq_false',Bool.not_eq_true',Bool.and_eq_true,Bool.and_eq_false_iff,decide_eq_true_eq,decide_eq_false_iff_not,bne_iff_ne,bne_eq_false_iff_eq,beq_iff_eq,beq_eq_false_iff_ne,ne_eq] at*;omega)|(exfalso;simp_all;done)
     have q:=jy h0
     unfold fG at q
     rw[show x.sf=_ by assumption] at q
     rw[fj]
     exact q)
 ·have hc:decide ((i:Int)<(N.np:Int))=false:=by simp;omega
  refine t100 (Wq z zn i N ⟨[],0,0,0,true,true,0,true⟩ ⟨0,0,0,true⟩ ((l.take i).map fG) (aj _ _ _ _ _ _ _ _ _) ⟨fun h=>(by rw[hc] at h;cases h),fun _=>?_⟩)
  (repeat' first|(with_reducible first|exact rfl|exact True.intro|assumption|apply And.intro|exact hz|exact hnet _)|exact(rfl:Int.ofNat _=_)|exact(rfl:gP _ _=_)|exact hz|exact hnet _|intro hq)
  rw[dy (by omega)] at h2
  refine dp (bE ?_)
  rw[←h2]
  rfl
theorem KN(hz:aq z zn)(hg:eR Tryz.prog z gP)(N:aC)(hn:N.ns<=64)(l:List ae)(hN:N.np=l.length)(hnet: ∀σ:bA,aG (az σ []) (N.cd N.p1)=some (N.cd N.p1))(hL:cu z 4 (l.map ae.row))(cl:Bool)(hcl:(aS N.ns l).2=0->A1 z zn 134 [N.p1,iv N.ns] [] 0 0 (.bool cl) [])(r:Int × Int × Int)
 (hr:r=if (aS N.ns l).2≠0 then (4,aS N.ns l) else if cl=true then (0,0,0) else (4,0,18)):
 A1 z zn 86 [.agg ⟨N.gV N.p1⟩] [] 0 0 (.agg ⟨[zv r.1,zv r.2.1,zv r.2.2]⟩) []:=by
 have hcl':(if (aS N.ns l).2=0 then (0:Int) else 4)=0->A1 z zn 134 [N.p1,iv N.ns] [] 0 0 (.bool cl) []:=fun h=>hcl (by
  split at h
  ·assumption
  ·cases h)
 have hK:=J4 hz hg N hn l hN hnet hL (aS N.ns l) rfl
 refine aY hg (fn:=Tryz.f86) (by kernel_rfl) (by kernel_rfl) hz ⟨by decide,by decide⟩ rfl (ZI z zn N (if (aS N.ns l).2=0 then 0 else 4) (aS N.ns l).1 (aS N.ns l).2 cl _ ?_)
 (repeat' first|(with_reducible first|exact rfl|exact True.intro|assumption|apply And.intro|exact hz|exact hK|exact hcl' (by with_reducible assumption)|exact hnet _|exact aT _ _ _ _)|exact(rfl:Int.ofNat _=_)|exact(rfl:gP _ _=_)|exact hz|exact hK|exact hcl' (by with_reducible assumption)|exact hnet _|exact aT _ _ _ _|intro hq)
 all_goals first
  |(refine uC ?_
    rw[hr]
    by_cases h:(aS N.ns l).2=0<;>simp_all;done)
theorem HK(hz:aq z zn)(hg:eR Tryz.prog z gP)(N:aC)(hnet: ∀σ:bA,aG (az σ []) (N.cd ay)=some (N.cd ay))(cl:Bool)(hcl:A1 z zn 134 [ay,iv N.ns] [] 0 0 (.bool cl) [])(r:Int × Int × Int)
 (hr:r=if cl=true then (0,0,0) else (4,0,18)):
 A1 z zn 86 [.agg ⟨N.gV ay⟩] [] 0 0 (.agg ⟨[zv r.1,zv r.2.1,zv r.2.2]⟩) []:=by
 have hL:ai Tryz.prog (ah (ag Tryz.f86) 0) 3 78 vO [(0,N.cd ay),(1,cZ 0 0 0),(2,bt [])] 3 z zn (Al.R (QQ z zn N).l):=by
  refine ak hD hg (α:=Nat) 3 78 3 (fun i=>i=0) (fun i=>vO) (fun i=>[(0,N.cd ay),(1,cZ 0 0 0),(2,bt [])]) (fun _=>z) (fun _=>zn) (fun i=>1) _ (fun i hI=>?_) 0 rfl
  refine t100 (Ua z zn N (aj _ _ _ _ _ _ _ _ _) ?_)
  (repeat' first|(with_reducible first|exact rfl|exact True.intro|assumption|apply And.intro|exact hz|exact hnet _)|exact(rfl:Int.ofNat _=_)|exact(rfl:gP _ _=_)|exact hz|exact hnet _|intro hq)
  all_goals first|exact bE trivial|trace_state
 refine aY hg (fn:=Tryz.f86) (by kernel_rfl) (by kernel_rfl) hz ⟨by decide,by decide⟩ rfl (Vf z zn N cl _ ?_)
 (repeat' first|(with_reducible first|exact rfl|exact True.intro|assumption|apply And.intro|exact hz|exact hL|exact hcl|exact hnet _)|exact(rfl:Int.ofNat _=_)|exact(rfl:gP _ _=_)|exact hz|exact hL|exact hcl|exact hnet _|intro hq)
 all_goals first
  |(refine uC ?_
    rw[hr]
    simp_all;done)
end
end Go.Proofs.Nw
namespace Go.Proofs.Nw
open Go Go.AV
set_option maxRecDepth 100000
section
variable{z:T aa}{zn:Nat}
theorem Gs(d w c:Int)(hz:aq z zn)(hg:eR Tryz.prog z gP)(l:List bM)(cp:Nat)(e:TypeId)(he:z.get 5=some (.ax (br e (l.map bM.row).flatten)))(hl:l.length<100000)(i:Nat)(x:bM)(hx:l[i]? =some x)(b:Bool)(hb:b=(l.take i).any fun y=>y.id.data==x.id.data):
 ai Tryz.prog (ah (ah (ag Tryz.f92) 0) 0) 2 88 (vL i 0) [(0,uR (tb 5 l.length cp) d w c),(1,Jp x)] 2 z zn (Al.R (Qx z zn i (uR (tb 5 l.length cp) d w c) x b).l):=by
 have hil:i<l.length:=(List.getElem?_eq_some_iff.1 hx).1
 refine ak hD hg (α:=Nat) 2 88 2 (fun k=>k<=i/\((l.take k).any fun y=>y.id.data==x.id.data)=false) (fun k=>vL i k) (fun _=>[(0,uR (tb 5 l.length cp) d w c),(1,Jp x)]) (fun _=>z) (fun _=>zn) (fun k=>i - k) _ (fun k hI=>?_) 0 ⟨Nat.zero_le _,rfl⟩
 obtain⟨h1,h2⟩:=hI
 have hlen:=aO (row:=bM.row) (sz:=6) l fun _=>rfl
 have rx:aB Tryz.prog (br e (l.map bM.row).flatten) 9 (0+i*6+0)=some (.string x.id):=bh (r:=x.row) (j:=0) Tryz.underlying9 rfl hlen (by rw[List.getElem?_map,hx];rfl) rfl
 by_cases hk:k<i
 ·obtain⟨y,hy⟩:=ey (l:=l) (i:=k) (by omega)
  have ry:aB Tryz.prog (br e (l.map bM.row).flatten) 9 (0+k*6+0)=some (.string y.id):=bh (r:=y.row) (j:=0) Tryz.underlying9 rfl hlen (by rw[List.getElem?_map,hy];rfl) rfl
  have hc:decide ((k:Int)<(i:Int))=true:=by simp;omega
  refine t100 (P7 z zn i k l.length cp (br e (l.map bM.row).flatten) x y d w c (aj _ _ _ _ _ _ _ _ _) ⟨fun _=>?_,fun h=>(by rw[hc] at h;cases h)⟩)
  (repeat' first|(with_reducible first|exact rfl|exact True.intro|assumption|apply And.intro|exact hz|exact he|exact rx|exact ry|exact hil|exact(by omega:k<l.length)|exact aK (by omega))|exact(rfl:Int.ofNat _=_)|exact(rfl:gP _ _=_)|exact hz|exact he|exact rx|exact ry|exact hil|exact(by omega:k<l.length)|exact aK (by omega)|intro hq)
  ·rw[oe] at hq
   exact bE (by rw[hb];exact any_true hy hk hq)
  ·rw[oe] at hq
   exact⟨k+1,rfl,rfl,rfl,rfl,rfl,⟨hk,by rw[jo hy,h2,hq];rfl⟩,by show i - (k+1)<i - k;omega⟩
 ·have hc:decide ((k:Int)<(i:Int))=false:=by simp;omega
  refine t100 (P7 z zn i k l.length cp (br e (l.map bM.row).flatten) x x d w c (aj _ _ _ _ _ _ _ _ _) ⟨fun h=>(by rw[hc] at h;cases h),fun _=>?_⟩)
  (repeat' first|(with_reducible first|exact rfl|exact True.intro|assumption|apply And.intro|exact hz)|exact(rfl:Int.ofNat _=_)|exact(rfl:gP _ _=_)|exact hz|intro hq)
  refine dp (bE ?_)
  rw[hb,←h2,show k=i by omega]
theorem JS(d w c:Int)(hz:aq z zn)(hg:eR Tryz.prog z gP)(l:List bM)(cp:Nat)(ht:cu z 5 (l.map bM.row))(hl:l.length<100000)(r:Int × Int)(hr:scan (dX l) l.length 0=r):
 ai Tryz.prog (ah (ag Tryz.f92) 0) 1 88 (qW 0) [(0,uR (tb 5 l.length cp) d w c)] 1 z zn (Al.R (Qy z zn (uR (tb 5 l.length cp) d w c) r.1 r.2).l):=by
 refine ak hD hg (α:=Nat) 1 88 1 (fun i=>i<=l.length/\scan (dX l) (l.length - i) i=r) (fun i=>qW i) (fun i=>[(0,uR (tb 5 l.length cp) d w c)]) (fun _=>z) (fun _=>zn) (fun i=>l.length - i) _ (fun i hI=>?_) 0 ⟨Nat.zero_le _,hr⟩
 obtain⟨h1,h2⟩:=hI
 by_cases hi:i<l.length
 ·obtain⟨e,he⟩:=ht.ax (i:=i) (by simpa using hi)
  obtain⟨x,hx⟩:=ey hi
  have hid:=Se (ht.sz (i:=i) (r:=x.row) (s:=x.id) (by rw[List.getElem?_map,hx];rfl) (by simp))
  have hlen:=aO (row:=bM.row) (sz:=6) l fun _=>rfl
  have hr:(l.map bM.row)[i]? =some x.row:=by rw[List.getElem?_map,hx];rfl
  have r0:aB Tryz.prog (br e (l.map bM.row).flatten) 88 (0+i*6)=some (.agg ⟨x.row⟩):=bJ (r:=x.row) (sz:=6) Tryz.underlying88 rfl rfl hlen hr
  have hL:=Gs d w c hz hg l cp e he hl i x hx _ rfl
  generalize hb:((l.take i).any fun y=>y.id.data==x.id.data)=b at hL
  have hc:decide ((i:Int)<(l.length:Int))=true:=by simp;omega
  have ret: ∀e:Int,dX l i=some e->Al.R (Qy z zn (uR (tb 5 l.length cp) d w c) r.1 r.2).l ⟨.ret,[(2,iv i),(3,zv e)],[],1,z,zn⟩:=fun e h=>by
   have:r=((i:Int),e):=by rw[←h2,de hi h]
   rw[this];exact bE trivial
  have hbad:dX l i=if bU x.id=false then some 12 else if b=true then some 6 else if (ya x.cy 0 1000000 && ya x.bc 1 8 && ya x.cx 1 16 && ya x.aH 0 86400 && ya x.bR 1 255)=false then some 2 else none:=by
   simp only[dX,hx,hb]
  refine t100 (Wh z zn i l.length cp (br e (l.map bM.row).flatten) x b d w c (aj _ _ _ _ _ _ _ _ _) ⟨fun _=>?_,fun h=>(by rw[hc] at h;cases h)⟩)
  (repeat' first|(with_reducible first|exact rfl|exact True.intro|assumption|apply And.intro|exact hz|exact hi|exact he|exact r0|exact hL|exact aK (by omega))|exact(rfl:Int.ofNat _=_)|exact(rfl:gP _ _=_)|exact hz|exact hi|exact he|exact r0|exact hL|exact aK (by omega)|intro hq)
  all_goals clear hL r0 hr hlen he ht hz
  all_goals first
   |with_reducible assumption
   |rfl
   |(refine ret _ ?_;clear ret h2;rw[hbad];(try simp only[fold] at*);simp_all;done)
   |(refine ret _ ?_;clear ret h2;rw[hbad];(try simp only[fold] at*);simp_all;omega)
   |(have hb0:dX l i=none:=by
      clear ret h2
      rw[hbad,if_neg (by simp_all),if_neg (by simp_all),if_neg (by(try simp only[fold] at*);simp_all;done)]
     exact⟨i+1,rfl,rfl,rfl,rfl,rfl,⟨hi,by rw[←cP hi hb0];exact h2⟩,by show l.length - (i+1)<l.length - i;omega⟩)
 ·have hc:decide ((i:Int)<(l.length:Int))=false:=by simp;omega
  refine t100 (Wh z zn i l.length cp ⟨[],0,0,0,true,true,0,true⟩ ⟨⟨#[]⟩,0,0,0,0,0⟩ true d w c (aj _ _ _ _ _ _ _ _ _) ⟨fun h=>(by rw[hc] at h;cases h),fun _=>?_⟩)
  (repeat' first|(with_reducible first|exact rfl|exact True.intro|assumption|apply And.intro|exact hz)|exact(rfl:Int.ofNat _=_)|exact(rfl:gP _ _=_)|exact hz|intro hq)
  refine dp (bE ?_)
  rw[dy (by omega)] at h2
  rw[←h2]
  exact⟨rfl,rfl⟩
theorem HG(hz:aq z zn)(hg:eR Tryz.prog z gP)(l:List bM)(cp:Nat)(ht:cu z 5 (l.map bM.row))(d w c:Int):
 A1 z zn 92 [.agg ⟨[tb 5 l.length cp,zv d,zv w,zv c]⟩] [] 0 0 (.tuple ⟨[zv (bD d w c l).1,zv (bD d w c l).2]⟩) []:=by
 refine aY hg (fn:=Tryz.f92) (by kernel_rfl) (by kernel_rfl) hz ⟨by decide,by decide⟩ rfl (ZB z zn l.length cp (bD d w c l).1 (bD d w c l).2 d w c _ ?_)
 cases hf:eZ d w c with
 |false=>
  have hr:bD d w c l=(-1,2):=if_pos hf
  rw[hr]
  unfold eZ at hf
  (repeat' first|(with_reducible first|exact rfl|exact True.intro|assumption|apply And.intro|exact hz|exact q1)|exact(rfl:Int.ofNat _=_)|exact(rfl:gP _ _=_)|exact hz|exact q1|intro hq)
  all_goals (exfalso;(try simp only[fold] at*);simp_all;done)
 |true=>
  by_cases h:16<l.length
  ·have hr:bD d w c l=(0,5):=by unfold bD;rw[if_neg (by simp[hf]),if_pos h]
   have hc:decide ((l.length:Int)>16)=true:=by simp;omega
   rw[hr]
   unfold eZ at hf
   (repeat' first|(with_reducible first|exact rfl|exact True.intro|assumption|apply And.intro|exact hz|exact q1)|exact(rfl:Int.ofNat _=_)|exact(rfl:gP _ _=_)|exact hz|exact q1|intro hq)
   all_goals (exfalso;(try simp only[fold] at*);simp_all;done)
  ·have hr:bD d w c l=scan (dX l) l.length 0:=by unfold bD;rw[if_neg (by simp[hf]),if_neg h]
   have hc:decide ((l.length:Int)>16)=false:=by simp;omega
   have hL:=JS d w c hz hg l cp ht (by omega) (bD d w c l) hr.symm
   unfold eZ at hf
   (repeat' first|(with_reducible first|exact rfl|exact True.intro|assumption|apply And.intro|exact hz|exact hL|exact q1)|exact(rfl:Int.ofNat _=_)|exact(rfl:gP _ _=_)|exact hz|exact hL|exact q1|intro hq)
   all_goals first|(rw[hq.1,hq.2];exact q1)|(exfalso;(try simp only[fold] at*);simp_all;done)|trace_state
end
end Go.Proofs.Nw
namespace Go.Proofs.Nw
open Go Go.AV
set_option maxHeartbeats 4000000
set_option maxRecDepth 100000
section
variable{z:T aa}{zn:Nat}
theorem Er(hz:aq z zn)(hg:eR Tryz.prog z gP):A1 z zn 87 [ay] [] 0 0 (.tuple ⟨[I 0,I 0]⟩) []:=by
 have hL:ai Tryz.prog (ah (ag Tryz.f87) 0) 0 57 th [] 0 z zn (Al.R (QH z zn 57).l):=by
  refine ak hD hg (α:=Unit) 0 57 0 (fun _=>True) (fun _=>th) (fun _=>[]) (fun _=>z) (fun _=>zn) (fun _=>0) _ (fun i hI=>?_) () trivial
  refine t100 (TY z zn (aj _ _ _ _ _ _ _ _ _) ?_)
  (repeat' first|(with_reducible first|exact rfl|exact True.intro|assumption|apply And.intro|exact hz)|exact(rfl:Int.ofNat _=_)|exact(rfl:gP _ _=_)|exact hz|intro hq)
  exact bE trivial
 refine aY hg (fn:=Tryz.f87) (by kernel_rfl) (by kernel_rfl) hz ⟨by decide,by decide⟩ rfl (U5 z zn _ ?_)
 (repeat' first|(with_reducible first|exact rfl|exact True.intro|assumption|apply And.intro|exact hz|exact hL|exact q1)|exact(rfl:Int.ofNat _=_)|exact(rfl:gP _ _=_)|exact hz|exact hL|exact q1|intro hq)
theorem BI(hz:aq z zn)(hg:eR Tryz.prog z gP):A1 z zn 88 [ay] [] 0 0 (.tuple ⟨[I 0,I 0]⟩) []:=by
 have hL:ai Tryz.prog (ah (ag Tryz.f88) 0) 0 48 th [] 0 z zn (Al.R (QH z zn 48).l):=by
  refine ak hD hg (α:=Unit) 0 48 0 (fun _=>True) (fun _=>th) (fun _=>[]) (fun _=>z) (fun _=>zn) (fun _=>0) _ (fun i hI=>?_) () trivial
  refine t100 (TZ z zn (aj _ _ _ _ _ _ _ _ _) ?_)
  (repeat' first|(with_reducible first|exact rfl|exact True.intro|assumption|apply And.intro|exact hz)|exact(rfl:Int.ofNat _=_)|exact(rfl:gP _ _=_)|exact hz|intro hq)
  exact bE trivial
 refine aY hg (fn:=Tryz.f88) (by kernel_rfl) (by kernel_rfl) hz ⟨by decide,by decide⟩ rfl (U6 z zn _ ?_)
 (repeat' first|(with_reducible first|exact rfl|exact True.intro|assumption|apply And.intro|exact hz|exact hL|exact q1)|exact(rfl:Int.ofNat _=_)|exact(rfl:gP _ _=_)|exact hz|exact hL|exact q1|intro hq)
theorem KM(hz:aq z zn)(hg:eR Tryz.prog z gP)(d w c:Int):A1 z zn 85 [.agg ⟨[ay,zv d,zv w,zv c]⟩] [] 0 0 (.tuple ⟨[zv (bD d w c []).1,zv (bD d w c []).2]⟩) []:=by
 have hL:ai Tryz.prog (ah (ag Tryz.f85) 0) 2 79 vM [(1,bt [])] 2 z zn (Al.R (QD z zn).l):=by
  refine ak hD hg (α:=Unit) 2 79 2 (fun _=>True) (fun _=>vM) (fun _=>[(1,bt [])]) (fun _=>z) (fun _=>zn) (fun _=>0) _ (fun i hI=>?_) () trivial
  refine t100 (T2 z zn (aj _ _ _ _ _ _ _ _ _) ?_)
  (repeat' first|(with_reducible first|exact rfl|exact True.intro|assumption|apply And.intro|exact hz)|exact(rfl:Int.ofNat _=_)|exact(rfl:gP _ _=_)|exact hz|intro hq)
  exact bE trivial
 refine aY hg (fn:=Tryz.f85) (by kernel_rfl) (by kernel_rfl) hz ⟨by decide,by decide⟩ rfl (Va z zn d w c _ ?_)
 (repeat' first|(with_reducible first|exact rfl|exact True.intro|assumption|apply And.intro|exact hz|exact hL)|exact(rfl:Int.ofNat _=_)|exact(rfl:gP _ _=_)|exact hz|exact hL|intro hq)
 all_goals first
  |(have hf:eZ d w c=false:=by(simp only[Bool.not_eq_true',Bool.not_eq_false'] at*;simp only[eZ,ya, *,Bool.false_and,Bool.and_false,Bool.true_and,Bool.and_true])
    have hr:bD d w c []=(-1,2):=if_pos hf
    rw[hr];exact q1)
  |(have hf:eZ d w c=true:=by(simp only[Bool.not_eq_true',Bool.not_eq_false'] at*;simp only[eZ,ya, *,Bool.false_and,Bool.and_false,Bool.true_and,Bool.and_true])
    have hr:bD d w c []=(0,0):=by unfold bD;rw[if_neg (by simp[hf]),if_neg (by simp)];rfl
    rw[hr];exact q1)
theorem Eu(hz:aq z zn)(hg:eR Tryz.prog z gP)(d w c:Int):A1 z zn 92 [.agg ⟨[ay,zv d,zv w,zv c]⟩] [] 0 0 (.tuple ⟨[zv (bD d w c []).1,zv (bD d w c []).2]⟩) []:=by
 have hL:ai Tryz.prog (ah (ag Tryz.f92) 0) 1 88 (qW 0) [(0,uR ay d w c)] 1 z zn (Al.R (Uz z zn d w c).l):=by
  refine ak hD hg (α:=Unit) 1 88 1 (fun _=>True) (fun _=>qW 0) (fun _=>[(0,uR ay d w c)]) (fun _=>z) (fun _=>zn) (fun _=>0) _ (fun i hI=>?_) () trivial
  refine t100 (T0 z zn d w c (aj _ _ _ _ _ _ _ _ _) ?_)
  (repeat' first|(with_reducible first|exact rfl|exact True.intro|assumption|apply And.intro|exact hz)|exact(rfl:Int.ofNat _=_)|exact(rfl:gP _ _=_)|exact hz|intro hq)
  exact bE trivial
 refine aY hg (fn:=Tryz.f92) (by kernel_rfl) (by kernel_rfl) hz ⟨by decide,by decide⟩ rfl (U7 z zn d w c _ ?_)
 (repeat' first|(with_reducible first|exact rfl|exact True.intro|assumption|apply And.intro|exact hz|exact hL)|exact(rfl:Int.ofNat _=_)|exact(rfl:gP _ _=_)|exact hz|exact hL|intro hq)
 all_goals first
  |(have hf:eZ d w c=false:=by(simp only[Bool.not_eq_true',Bool.not_eq_false'] at*;simp only[eZ,ya, *,Bool.false_and,Bool.and_false,Bool.true_and,Bool.and_true])
    have hr:bD d w c []=(-1,2):=if_pos hf
    rw[hr];exact q1)
  |(have hf:eZ d w c=true:=by(simp only[Bool.not_eq_true',Bool.not_eq_false'] at*;simp only[eZ,ya, *,Bool.false_and,Bool.and_false,Bool.true_and,Bool.and_true])
    have hr:bD d w c []=(0,0):=by unfold bD;rw[if_neg (by simp[hf]),if_neg (by simp)];rfl
    rw[hr];exact q1)
end
section
variable{z:T aa}{zn:Nat}
theorem C0(hz:aq z zn)(hg:eR Tryz.prog z gP)(a b c d e f:Int):
 A1 z zn 81 [.slice (some ⟨0,0,none⟩) 2 2] [(0,Iz a b c d e f)] 1 1 (.agg ⟨[zv (pk c f a d),zv (pk c f b e),zv (pk c f c f)]⟩) []:=by
 have hL:ai Tryz.prog (ah (ag Tryz.f81) 0) 2 17 (zc 0) [(0,Iz a b c d e f),(1,cZ 0 0 0)] 2 z zn (Al.R (UA z zn a b c d e f (pk c f a d) (pk c f b e) (pk c f c f)).l):=by
  refine ak hD hg (α:=Nat) 2 17 2 (fun i=>i<=2/\(0<i->c=0)/\(1<i->f=0)) (fun i=>zc i) (fun _=>[(0,Iz a b c d e f),(1,cZ 0 0 0)]) (fun _=>z) (fun _=>zn) (fun i=>2 - i) _ (fun i hI=>?_) 0 ⟨by omega,fun h=>by omega,fun h=>by omega⟩
  obtain⟨h1,h2,h3⟩:=hI
  match i,h1 with
  |0,_=>
   refine t100 (T8 z zn 0 a b c d e f 0 0 0 (aj _ _ _ _ _ _ _ _ _) ?_)
   (repeat' first|(with_reducible first|exact rfl|exact True.intro|assumption|apply And.intro|exact hz)|exact(rfl:Int.ofNat _=_)|exact(rfl:gP _ _=_)|exact hz|intro hq)
   all_goals first
    |(have h:c≠0:=by simpa using hq
      have ea:pk c f a d=a:=if_pos h
      have eb:pk c f b e=b:=if_pos h
      have ec:pk c f c f=c:=if_pos h
      rw[ea,eb,ec]
      exact bE ⟨ea.symm,eb.symm,ec.symm⟩)
    |(have h:c=0:=by simpa using hq
      exact⟨1,rfl,rfl,rfl,rfl,rfl,⟨by omega,fun _=>h,fun h=>by omega⟩,by decide⟩)
  |1,_=>
   have h0:=h2 (by omega)
   refine t100 (T7 z zn 0 a b c d e f 0 0 0 (aj _ _ _ _ _ _ _ _ _) ?_)
   (repeat' first|(with_reducible first|exact rfl|exact True.intro|assumption|apply And.intro|exact hz)|exact(rfl:Int.ofNat _=_)|exact(rfl:gP _ _=_)|exact hz|intro hq)
   all_goals first
    |(have h:f≠0:=by simpa using hq
      have ea:pk c f a d=d:=by unfold pk;rw[if_neg (by simp[h0]),if_pos h]
      have eb:pk c f b e=e:=by unfold pk;rw[if_neg (by simp[h0]),if_pos h]
      have ec:pk c f c f=f:=by unfold pk;rw[if_neg (by simp[h0]),if_pos h]
      rw[ea,eb,ec]
      exact bE ⟨ea.symm,eb.symm,ec.symm⟩)
    |(have h:f=0:=by simpa using hq
      exact⟨2,rfl,rfl,rfl,rfl,rfl,⟨by omega,fun _=>h0,fun _=>h⟩,by decide⟩)
  |2,_=>
   refine t100 (T6 z zn 0 a b c d e f 0 0 0 (aj _ _ _ _ _ _ _ _ _) ?_)
   (repeat' first|(with_reducible first|exact rfl|exact True.intro|assumption|apply And.intro|exact hz)|exact(rfl:Int.ofNat _=_)|exact(rfl:gP _ _=_)|exact hz|intro hq)
   all_goals first|exact dp (bE ⟨h2 (by omega),h3 (by omega)⟩)|trace_state
 refine aY hg (fn:=Tryz.f81) (by kernel_rfl) (by kernel_rfl) hz ⟨by decide,by decide⟩ rfl (ZH z zn 0 a b c d e f (pk c f a d) (pk c f b e) (pk c f c f) _ ?_)
 (repeat' first|(with_reducible first|exact rfl|exact True.intro|assumption|apply And.intro|exact hz|exact hL)|exact(rfl:Int.ofNat _=_)|exact(rfl:gP _ _=_)|exact hz|exact hL|intro hq)
 all_goals first
  |(obtain⟨e1,e2,e3⟩:=hq
    exact q1)
  |(obtain⟨e1,e2⟩:=hq
    refine uC ?_
    simp[pk,e1,e2];done)
def gU(s r:Int × Int)(u k p:Int × Int × Int)(f:Int × Int):Int × Int × Int:=
 if s.2≠0 then (0,s.1,s.2) else if r.2≠0 then (1,r.1,r.2) else if u.2.2≠0 then u else if k.2.2≠0 then k else if p.2.2≠0 then p else if f.2≠0 then (5,f.1,f.2) else (0,0,0)
theorem KR(hz:aq z zn)(hg:eR Tryz.prog z gP)(N:aC)(s r:Int × Int)(u k p:Int × Int × Int)(f:Int × Int)(hnet:bz (sig []) [.agg ⟨N.cells⟩]=some [.agg ⟨N.cells⟩])
 (hs1:bz (sig []) [.slice N.sa N.ns N.sc]=some [.slice N.sa N.ns N.sc]) (hr1:bz (sig []) [.slice N.ra N.nr N.rc]=some [.slice N.ra N.nr N.rc]) (hf1:bz (sig []) [.agg ⟨[.slice N.fa N.nf N.fc,zv N.d,zv N.w,zv N.c]⟩]=some [.agg ⟨[.slice N.fa N.nf N.fc,zv N.d,zv N.w,zv N.c]⟩])
 (hs:A1 z zn 79 [.slice N.sa N.ns N.sc] [] 0 0 (.tuple ⟨[zv s.1,zv s.2]⟩) [])
 (hr:A1 z zn 80 [.slice N.ra N.nr N.rc] [] 0 0 (.tuple ⟨[zv r.1,zv r.2]⟩) [])
 (hu:s.2=0->r.2=0->A1 z zn 83 [.agg ⟨N.cells⟩] [] 0 0 (.agg ⟨[zv u.1,zv u.2.1,zv u.2.2]⟩) [])
 (hk:s.2=0->r.2=0->u.2.2=0->A1 z zn 84 [.agg ⟨N.cells⟩] [] 0 0 (.agg ⟨[zv k.1,zv k.2.1,zv k.2.2]⟩) [])
 (hp:s.2=0->r.2=0->u.2.2=0->k.2.2=0->A1 z zn 86 [.agg ⟨N.cells⟩] [] 0 0 (.agg ⟨[zv p.1,zv p.2.1,zv p.2.2]⟩) [])
 (hf:A1 z zn 85 [.agg ⟨[.slice N.fa N.nf N.fc,zv N.d,zv N.w,zv N.c]⟩] [] 0 0 (.tuple ⟨[zv f.1,zv f.2]⟩) []):
 A1 z zn 39 [.agg ⟨N.cells⟩] [] 0 0 (.tuple ⟨[zv (gU s r u k p f).1,zv (gU s r u k p f).2.1,zv (gU s r u k p f).2.2]⟩) []:=by
 have pk0: ∀{c f:Int},(pk c f c f==0)=true->c=0/\f=0:=fun {c f} h=>by
  unfold pk at h
  split at h
  ·rename_i h1;exact(h1 (by simpa using h)).elim
  ·rename_i h1
   split at h
   ·rename_i h2;exact(h2 (by simpa using h)).elim
   ·rename_i h2;exact⟨by simpa using h1,by simpa using h2⟩
 have pk1: ∀{c f:Int},(pk c f c f==0)=false-> ¬(c=0/\f=0):=fun {c f} h ⟨h1,h2⟩=>by
  subst h1 h2;simp[pk] at h
 refine aY hg (fn:=Tryz.f39) (by kernel_rfl) (by kernel_rfl) hz ⟨by decide,by decide⟩ rfl (Vi z zn N s.1 s.2 r.1 r.2 f.1 f.2 u.1 u.2.1 u.2.2 k.1 k.2.1 k.2.2 p.1 p.2.1 p.2.2 _ ?_)
 (repeat' first|(with_reducible first|exact rfl|exact True.intro|assumption|apply And.intro|exact hz|exact hs|exact hr|exact hf|exact hnet|exact hs1|exact hr1|exact hf1|exact C0 hz hg _ _ _ _ _ _)|exact(rfl:Int.ofNat _=_)|exact(rfl:gP _ _=_)|exact hz|exact hs|exact hr|exact hf|exact hnet|exact hs1|exact hr1|exact hf1|exact C0 hz hg _ _ _ _ _ _|intro hq)
 all_goals try (have e1:=pk0 (by with_reducible assumption);obtain⟨e1,e2⟩:=e1)
 all_goals try (have e1:=pk1 (by with_reducible assumption))
 all_goals clear pk1
 all_goals try (have e3:u.2.2=0:=by simpa using (by assumption:(u.2.2==0)=true))
 all_goals try (have e4:k.2.2=0:=by simpa using (by assumption:(k.2.2==0)=true))
 all_goals first
  |exact congrArg Value.bool (by assumption)
  |exact hu e1 e2
  |exact hk e1 e2 e3
  |exact hp e1 e2 e3 e4
  |(refine uC ?_
    clear hs hr hu hk hp hf hs1 hr1 hf1 hnet pk0
    simp only[pk,gU]
    (repeat' split)<;>first|rfl|(exfalso;simp_all;done))
end
def pF(er:Nat->Int)(i:Nat):Option Int:=if er i=0 then none else some (er i)
theorem fy{x:Int}(h:(x !=0)=false):x=0:=by simpa using h
section
variable{z:T aa}{zn:Nat}
theorem J7(hz:aq z zn)(hg:eR Tryz.prog z gP)(N:aC)(hl:N.nu<100000)(er:Nat->Int)(hnet: ∀σ:bA,aG (az σ []) N.box=some N.box)(hv:aX (sig []) (.agg ⟨N.cells⟩)=some (.agg ⟨N.cells⟩))
 (hc: ∀i,i<N.nu->(∀j,j<i->er j=0)->A1 z zn 89 [.agg ⟨N.cells⟩,iv i] [] 0 0 (zv (er i)) []) (r:Int × Int) (hr:scan (pF er) N.nu 0=r):
 ai Tryz.prog (ah (ag Tryz.f42) 0) 1 84 (Be 0) [(0,N.box)] 1 z zn (Al.R (QA z zn N r.1 r.2).l):=by
 refine ak hD hg (α:=Nat) 1 84 1 (fun i=>i<=N.nu/\scan (pF er) (N.nu - i) i=r/\ ∀j,j<i->er j=0) (fun i=>Be i) (fun i=>[(0,N.box)]) (fun _=>z) (fun _=>zn) (fun i=>N.nu - i) _ (fun i hI=>?_) 0 ⟨Nat.zero_le _,hr,fun j hj=>by omega⟩
 obtain⟨h1,h2,h3⟩:=hI
 by_cases hi:i<N.nu
 ·have hdc:decide ((i:Int)<(N.nu:Int))=true:=by simp;omega
  have hcc:=hc i hi h3
  have ha:bz (sig []) [.agg ⟨N.cells⟩,iv i]=some [.agg ⟨N.cells⟩,iv i]:=jg hv rfl
  refine t100 (Wt z zn i N (er i) (aj _ _ _ _ _ _ _ _ _) ⟨fun _=>?_,fun h=>(by rw[hdc] at h;cases h)⟩)
  (repeat' first|(with_reducible first|exact rfl|exact True.intro|assumption|apply And.intro|exact hz|exact hnet _|exact hcc|exact ha|exact aK (by omega))|exact(rfl:Int.ofNat _=_)|exact(rfl:gP _ _=_)|exact hz|exact hnet _|exact hcc|exact ha|exact aK (by omega)|intro hq)
  all_goals first
   |(have h:er i≠0:=by simpa using (by assumption:(er i !=0)=true)
     have hb:pF er i=some (er i):=if_neg h
     have e:r=((i:Int),er i):=by rw[←h2,de hi hb]
     rw[e]
     exact bE h)
   |(have h:er i=0:=by simpa using (by assumption:(er i !=0)=false)
     have hb:pF er i=none:=if_pos h
     refine⟨i+1,rfl,rfl,rfl,rfl,rfl,⟨hi,by rw[←cP hi hb];exact h2,fun j hj=>?_⟩,by show N.nu - (i+1)<N.nu - i;omega⟩
     by_cases e:j=i
     ·subst e;exact h
     ·exact h3 j (by omega))
 ·have hdc:decide ((i:Int)<(N.nu:Int))=false:=by simp;omega
  refine t100 (Wt z zn i N 0 (aj _ _ _ _ _ _ _ _ _) ⟨fun h=>(by rw[hdc] at h;cases h),fun _=>?_⟩)
  (repeat' first|(with_reducible first|exact rfl|exact True.intro|assumption|apply And.intro|exact hz|exact hnet _)|exact(rfl:Int.ofNat _=_)|exact(rfl:gP _ _=_)|exact hz|exact hnet _|intro hq)
  rw[dy (by omega)] at h2
  refine dp (bE ?_)
  rw[←h2]
theorem J6(hz:aq z zn)(hg:eR Tryz.prog z gP)(N:aC)(hl:N.nl<100000)(er:Nat->Int)(hnet: ∀σ:bA,aG (az σ []) N.box=some N.box)(hv:aX (sig []) (.agg ⟨N.cells⟩)=some (.agg ⟨N.cells⟩))
 (hc: ∀i,i<N.nl->(∀j,j<i->er j=0)->A1 z zn 90 [.agg ⟨N.cells⟩,iv i] [] 0 0 (zv (er i)) []) (r:Int × Int) (hr:scan (pF er) N.nl 0=r):
 ai Tryz.prog (ah (ag Tryz.f42) 1) 1 84 (Bd 0) [(0,N.box)] 1 z zn (Al.R (Qz z zn N r.1 r.2).l):=by
 refine ak hD hg (α:=Nat) 1 84 1 (fun i=>i<=N.nl/\scan (pF er) (N.nl - i) i=r/\ ∀j,j<i->er j=0) (fun i=>Bd i) (fun i=>[(0,N.box)]) (fun _=>z) (fun _=>zn) (fun i=>N.nl - i) _ (fun i hI=>?_) 0 ⟨Nat.zero_le _,hr,fun j hj=>by omega⟩
 obtain⟨h1,h2,h3⟩:=hI
 by_cases hi:i<N.nl
 ·have hdc:decide ((i:Int)<(N.nl:Int))=true:=by simp;omega
  have hcc:=hc i hi h3
  have ha:bz (sig []) [.agg ⟨N.cells⟩,iv i]=some [.agg ⟨N.cells⟩,iv i]:=jg hv rfl
  refine t100 (Ws z zn i N (er i) (aj _ _ _ _ _ _ _ _ _) ⟨fun _=>?_,fun h=>(by rw[hdc] at h;cases h)⟩)
  (repeat' first|(with_reducible first|exact rfl|exact True.intro|assumption|apply And.intro|exact hz|exact hnet _|exact hcc|exact ha|exact aK (by omega))|exact(rfl:Int.ofNat _=_)|exact(rfl:gP _ _=_)|exact hz|exact hnet _|exact hcc|exact ha|exact aK (by omega)|intro hq)
  all_goals first
   |(have h:er i≠0:=by simpa using (by assumption:(er i !=0)=true)
     have hb:pF er i=some (er i):=if_neg h
     have e:r=((i:Int),er i):=by rw[←h2,de hi hb]
     rw[e]
     exact bE h)
   |(have h:er i=0:=by simpa using (by assumption:(er i !=0)=false)
     have hb:pF er i=none:=if_pos h
     refine⟨i+1,rfl,rfl,rfl,rfl,rfl,⟨hi,by rw[←cP hi hb];exact h2,fun j hj=>?_⟩,by show N.nl - (i+1)<N.nl - i;omega⟩
     by_cases e:j=i
     ·subst e;exact h
     ·exact h3 j (by omega))
 ·have hdc:decide ((i:Int)<(N.nl:Int))=false:=by simp;omega
  refine t100 (Ws z zn i N 0 (aj _ _ _ _ _ _ _ _ _) ⟨fun h=>(by rw[hdc] at h;cases h),fun _=>?_⟩)
  (repeat' first|(with_reducible first|exact rfl|exact True.intro|assumption|apply And.intro|exact hz|exact hnet _)|exact(rfl:Int.ofNat _=_)|exact(rfl:gP _ _=_)|exact hz|exact hnet _|intro hq)
  rw[dy (by omega)] at h2
  refine dp (bE ?_)
  rw[←h2]
theorem HH(hz:aq z zn)(hg:eR Tryz.prog z gP)(N:aC)(s r p f u k:Int × Int)(eu el:Nat->Int)(hnet: ∀σ:bA,aG (az σ []) N.box=some N.box)(hv:aX (sig []) (.agg ⟨N.cells⟩)=some (.agg ⟨N.cells⟩))
 (hs1:bz (sig []) [.slice N.sa N.ns N.sc]=some [.slice N.sa N.ns N.sc]) (hr1:bz (sig []) [.slice N.ra N.nr N.rc]=some [.slice N.ra N.nr N.rc]) (hf1:bz (sig []) [.agg ⟨[.slice N.fa N.nf N.fc,zv N.d,zv N.w,zv N.c]⟩]=some [.agg ⟨[.slice N.fa N.nf N.fc,zv N.d,zv N.w,zv N.c]⟩])
 (hs:A1 z zn 87 [.slice N.sa N.ns N.sc] [] 0 0 (.tuple ⟨[zv s.1,zv s.2]⟩) [])
 (hr:A1 z zn 88 [.slice N.ra N.nr N.rc] [] 0 0 (.tuple ⟨[zv r.1,zv r.2]⟩) [])
 (hu:s.2=0->r.2=0->N.nu<=1024-> ∀i,i<N.nu->(∀j,j<i->eu j=0)->A1 z zn 89 [.agg ⟨N.cells⟩,iv i] [] 0 0 (zv (eu i)) [])
 (hur:u=if 1024<N.nu then (0,5) else scan (pF eu) N.nu 0)
 (hk:s.2=0->r.2=0->u.2=0->N.nl<=1024-> ∀i,i<N.nl->(∀j,j<i->el j=0)->A1 z zn 90 [.agg ⟨N.cells⟩,iv i] [] 0 0 (zv (el i)) [])
 (hkr:k=if 1024<N.nl then (0,5) else scan (pF el) N.nl 0)
 (hp:s.2=0->r.2=0->u.2=0->k.2=0->A1 z zn 91 [.agg ⟨N.cells⟩] [] 0 0 (.tuple ⟨[zv p.1,zv p.2]⟩) [])
 (hf:A1 z zn 92 [.agg ⟨[.slice N.fa N.nf N.fc,zv N.d,zv N.w,zv N.c]⟩] [] 0 0 (.tuple ⟨[zv f.1,zv f.2]⟩) []):
 A1 z zn 42 [.agg ⟨N.cells⟩] [] 0 0 (.tuple ⟨[zv (gU s r (2,u) (3,k) (4,p) f).1,zv (gU s r (2,u) (3,k) (4,p) f).2.1,zv (gU s r (2,u) (3,k) (4,p) f).2.2]⟩) []:=by
 have hv1:bz (sig []) [.agg ⟨N.cells⟩]=some [.agg ⟨N.cells⟩]:=jg hv rfl
 have hL7:s.2=0->r.2=0->decide ((N.nu:Int)>1024)=false->ai Tryz.prog (ah (ag Tryz.f42) 0) 1 84 (Be 0) [(0,N.box)] 1 z zn (Al.R (QA z zn N u.1 u.2).l):=fun h1 h2 h3=>by
  have h3: ¬1024<N.nu:=by simp at h3;omega
  rw[if_neg h3] at hur
  exact J7 hz hg N (by omega) eu hnet hv (hu h1 h2 (by omega)) u hur.symm
 have hL8:s.2=0->r.2=0->u.2=0->decide ((N.nl:Int)>1024)=false->ai Tryz.prog (ah (ag Tryz.f42) 1) 1 84 (Bd 0) [(0,N.box)] 1 z zn (Al.R (Qz z zn N k.1 k.2).l):=fun h1 h2 h3 h4=>by
  have h4: ¬1024<N.nl:=by simp at h4;omega
  rw[if_neg h4] at hkr
  exact J6 hz hg N (by omega) el hnet hv (hk h1 h2 h3 (by omega)) k hkr.symm
 refine aY hg (fn:=Tryz.f42) (by kernel_rfl) (by kernel_rfl) hz ⟨by decide,by decide⟩ rfl (Q9 z zn N s.1 s.2 r.1 r.2 u.1 u.2 k.1 k.2 p.1 p.2 f.1 f.2 _ ?_)
 have hu5:decide ((N.nu:Int)>1024)=true->u=(0,5):=fun h=>by rw[hur,if_pos (by simp at h;omega)]
 have hk5:decide ((N.nl:Int)>1024)=true->k=(0,5):=fun h=>by rw[hkr,if_pos (by simp at h;omega)]
 (repeat' first|(with_reducible first|exact rfl|exact True.intro|assumption|apply And.intro|exact hz|exact hs|exact hr|exact hf|exact hnet _|exact hs1|exact hr1|exact hf1|exact hv1|exact hL7 (fy (by assumption)) (fy (by assumption)) (by assumption)|exact hL8 (fy (by assumption)) (fy (by assumption)) (by assumption) (by assumption)|exact hp (fy (by assumption)) (fy (by assumption)) (by assumption) (by assumption))|exact(rfl:Int.ofNat _=_)|exact(rfl:gP _ _=_)|exact hz|exact hs|exact hr|exact hf|exact hnet _|exact hs1|exact hr1|exact hf1|exact hv1|exact hL7 (fy (by assumption)) (fy (by assumption)) (by assumption)|exact hL8 (fy (by assumption)) (fy (by assumption)) (by assumption) (by assumption)|exact hp (fy (by assumption)) (fy (by assumption)) (by assumption) (by assumption)|intro hq)
 all_goals try (have e1:s.2=0:=fy (by assumption))
 all_goals try (have e2:r.2=0:=fy (by assumption))
 all_goals try (have e3:p.2=0:=fy (by assumption))
 all_goals try (have e3:f.2=0:=fy (by assumption))
 all_goals try (have e4:=hu5 (by assumption))
 all_goals try (have e4:=hk5 (by assumption))
 all_goals clear hs hr hu hk hp hf hs1 hr1 hf1 hnet hv hv1 hL7 hL8 hu5 hk5 hur hkr
 all_goals first
  |(refine uC ?_
    simp only[gU]
    (repeat' split)<;>first|rfl|(exfalso;simp_all;done)|(simp_all;done))
end
end Go.Proofs.Nw
namespace Go.Proofs.Nw
open Go Go.AV
set_option maxRecDepth 100000
theorem fJ:aq (T.leaf:T aa) 0:=fun k o h=>by cases h
theorem gK{zg:T aa}:eR Tryz.prog zg (fun _ _=>none):=fun _ _ _ h=>by cases h
theorem cz{z:T aa}{f:Nat}{args:List Value}{u:Value}(h:A1 .leaf 0 f args [] 0 0 u [])(hp:au u=true)(ha:bG args=true):mJ Tryz.prog z f args u:=by
 obtain⟨h1,h2⟩:=wy h (fun _ _=>rfl) hp (fun k o hk=>by cases hk) (fun σ _=>eU ha)
 exact⟨h1,fun ρ W args' hz hv=>h2 ρ W args' (fun k o hk=>by cases hk) hv⟩
theorem Fk{z:T aa}(a b:Int):mJ Tryz.prog z 131 [zv a,zv b] (.bool (decide (0<=a) && decide (a<b))):=by
 refine cz ?_ rfl rfl
 refine aY (gK (zg:= .leaf)) (fn:=Tryz.f131) (by kernel_rfl) (by kernel_rfl) fJ ⟨by decide,by decide⟩ rfl (Zs .leaf 0 a b _ ?_)
 (repeat' first|(with_reducible first|exact rfl|exact True.intro|assumption|apply And.intro|exact fJ)|exact(rfl:Int.ofNat _=_)|exact(rfl:gP _ _=_)|exact fJ|intro hq)
 all_goals (refine uC ?_;simp_all;try (intros;omega))
theorem TJ{z:T aa}(n a b:Int):mJ Tryz.prog z 136 [zv n,zv a,zv b] (.bool (decide (a<=n) && decide (n<=b))):=by
 refine cz ?_ rfl rfl
 refine aY (gK (zg:= .leaf)) (fn:=Tryz.f136) (by kernel_rfl) (by kernel_rfl) fJ ⟨by decide,by decide⟩ rfl (Zw .leaf 0 n a b _ ?_)
 (repeat' first|(with_reducible first|exact rfl|exact True.intro|assumption|apply And.intro|exact fJ)|exact(rfl:Int.ofNat _=_)|exact(rfl:gP _ _=_)|exact fJ|intro hq)
 all_goals (refine uC ?_;simp_all;try (intros;omega))
theorem TG{z:T aa}(n a b:Int):mJ Tryz.prog z 133 [zv n,zv a,zv b] (.bool (decide (a<=n) && decide (n<=b))):=by
 refine cz ?_ rfl rfl
 refine aY (gK (zg:= .leaf)) (fn:=Tryz.f133) (by kernel_rfl) (by kernel_rfl) fJ ⟨by decide,by decide⟩ rfl (Zt .leaf 0 n a b _ ?_)
 (repeat' first|(with_reducible first|exact rfl|exact True.intro|assumption|apply And.intro|exact fJ)|exact(rfl:Int.ofNat _=_)|exact(rfl:gP _ _=_)|exact fJ|intro hq)
 all_goals (refine uC ?_;simp_all;try (intros;omega))
theorem IY{z:T aa}(n:Int):mJ Tryz.prog z 129 [zv n] (.bool (decide (0<=n) && decide (n<8))):=by
 refine cz ?_ rfl rfl
 refine aY (gK (zg:= .leaf)) (fn:=Tryz.f129) (by kernel_rfl) (by kernel_rfl) fJ ⟨by decide,by decide⟩ rfl (Zv .leaf 0 n _ ?_)
 (repeat' first|(with_reducible first|exact rfl|exact True.intro|assumption|apply And.intro|exact fJ)|exact(rfl:Int.ofNat _=_)|exact(rfl:gP _ _=_)|exact fJ|intro hq)
 all_goals (refine uC ?_;simp_all;try (intros;omega))
theorem TI{z:T aa}(a b c:Int):mJ Tryz.prog z 82 [zv a,zv b,zv c] (.agg ⟨[zv a,zv b,zv c]⟩):=by
 refine cz ?_ rfl rfl
 refine aY (gK (zg:= .leaf)) (fn:=Tryz.f82) (by kernel_rfl) (by kernel_rfl) fJ ⟨by decide,by decide⟩ rfl (Zu .leaf 0 a b c _ ?_)
 (repeat' first|(with_reducible first|exact rfl|exact True.intro|assumption|apply And.intro|exact fJ)|exact(rfl:Int.ofNat _=_)|exact(rfl:gP _ _=_)|exact fJ|intro hq)
 all_goals (exact q1)
theorem yk{s:ByteArray}{ρ:aU}{args':List Value}(h:cU ρ [.string s] args'):args'=[.string s]:=by
 cases h with
 |cons _ _ _ _ h1 h2=>
  cases h2
  cases h1 with
  |sc _ _=>rfl
theorem fB(z:T aa):eR Tryz.prog z gP:=by
 intro f args v h
 unfold gP at h
 split at h
 ·split at h
  ·rename_i s hs
   cases h
   refine⟨rfl,fun ρ W args' _ ha=>?_⟩
   rw[yk ha]
   exact(MR _ W (Nat.le_of_ble_eq_true hs)).mono fun e w' ⟨h1,h2⟩=>⟨h1,by subst h2;exact Go.RowKit.Below.refl _ _⟩
  ·cases h
 ·split at h
  ·rename_i s hs
   cases h
   refine⟨rfl,fun ρ W args' _ ha=>?_⟩
   rw[yk ha]
   exact(MQ _ W (Nat.le_of_ble_eq_true hs)).mono fun e w' ⟨h1,h2⟩=>⟨h1,by subst h2;exact Go.RowKit.Below.refl _ _⟩
  ·cases h
 ·cases h;exact IY _
 ·cases h;exact TG _ _ _
 ·cases h;exact TI _ _ _
 ·cases h;exact Fk _ _
 ·cases h;exact TJ _ _ _
 ·cases h
end Go.Proofs.Nw
namespace Go.AV
open Go.RowKit
def As(P:Program)(f:Nat)(args:List Value)(v:Value):Prop:= ∀w,Calls P f ⟨args⟩ w fun e w'=>e= .returned v/\Below w.heap.size w w'
section
variable{P:Program}
theorem yH{c:cI}(hc:dv P c){f:Nat}{args:List Value}{v:Value}{nx:Nat}(hp:bG args=true)(hv:au v=true)
 (hr:(c f args {heap:= .leaf,next:=nx,log:=[]}).map (·.1)=some v):As P f args v:=by
 cases he:c f args {heap:= .leaf,next:=nx,log:=[]} with
 |none=>rw[he] at hr;cases hr
 |some x=>
  obtain⟨v0,h'⟩:=x
  rw[he] at hr
  simp only[Option.map_some,Option.some.injEq] at hr
  subst hr
  intro w
  have hh:aI yO (T.leaf:T aa).get w:=⟨fun b o hb=>absurd hb (by rw[T.dA];simp),fun i j oi oj Li Lj hi=>absurd hi (by rw[T.dA];simp)⟩
  have hk:=(hc _ _ _ _ _ he).2 yO w args 0 (cU.ba hp) hh (fun _ _ _=>rfl)
  refine Calls.mono (hk.calls fun _=>room_wide _) fun e w' hg=>?_
  obtain⟨ρ',v',rfl,h1,h2,h3⟩:=hg
  have e1:=h1.plain hv
  subst e1
  exact⟨rfl,h3.os,h3.tape,h3.output,h3.size,fun r hr=>h3.same r hr fun b o L hb=>absurd hb (by rw[T.dA];simp)⟩
end
end Go.AV
namespace Go.Proofs.Nw
open Go Go.AV
set_option maxHeartbeats 1000000
set_option maxRecDepth 100000
section
variable{z:T aa}{zn:Nat}
theorem LM(hz:aq z zn)(a:Int):A1 z zn 217 [zv a] [] 0 0 F0 []:=by
 refine aY (gK (zg:=z)) (fn:=Tryz.f217) (by kernel_rfl) (by kernel_rfl) hz ⟨by decide,by decide⟩ rfl (N:=100) ?_
 refine UK z zn a _ ?_
 (repeat' first|(with_reducible first|exact rfl|exact True.intro|assumption|apply And.intro|exact hz)|exact(rfl:Int.ofNat _=_)|exact(rfl:gS _ _=_)|exact hz|intro hq)
 all_goals first|exact q1|(simp at hq;done)
theorem Rv(hz:aq z zn)(a b:Int):A1 z zn 224 [zv a,zv b] [] 0 0 (zv (zU a b)) []:=by
 refine aY (gK (zg:=z)) (fn:=Tryz.f224) (by kernel_rfl) (by kernel_rfl) hz ⟨by decide,by decide⟩ rfl (N:=100) ?_
 refine UM z zn a b _ ?_
 (repeat' first|(with_reducible first|exact rfl|exact True.intro|assumption|apply And.intro|exact hz|exact LM hz _)|exact(rfl:Int.ofNat _=_)|exact(rfl:gS _ _=_)|exact hz|exact LM hz _|intro hq)
 all_goals (refine uC ?_;simp only[decide_eq_true_eq,decide_eq_false_iff_not] at*;unfold zU;(repeat' split)<;>first|rfl|(exfalso;omega))
theorem JX(hz:aq z zn)(kb:bg)(hkb:z.get 0=some (.ax kb))(c:Nat->Int)(hc: ∀i,i<3->aB Tryz.prog kb 3 (0+i*1)=some (zv (c i))):
 ai Tryz.prog (ah (ag Tryz.f223) 0) 0 18 (DP 0) [] 0 z zn (Al.R (Ut z zn (IA (c 0) (c 1) (c 2))).l):=by
 refine ak hD (gK (zg:=z)) (α:=Nat) 0 18 0 (fun i=>i<=3/\ ∀j,j<i->c j=0) (fun i=>DP i) (fun _=>[]) (fun _=>z) (fun _=>zn) (fun i=>3 - i) _ (fun i hI=>?_) 0 ⟨by omega,fun j h=>by omega⟩
 obtain⟨h1,h2⟩:=hI
 have orE: ∀i,i<3->(∀j,j<i->c j=0)->c i≠0->IA (c 0) (c 1) (c 2)=c i:=fun i hi h hn=>by
  unfold IA
  match i,hi with
  |0,_=>rw[if_pos hn]
  |1,_=>rw[if_neg (by simpa using h 0 (by omega)),if_pos hn]
  |2,_=>rw[if_neg (by simpa using h 0 (by omega)),if_neg (by simpa using h 1 (by omega))]
 refine t100 (UJ z zn i kb (c i) 0 (aj _ _ _ _ _ _ _ _ _) ?_)
 by_cases hi:i<3
 ·have d1:decide ((i:Int)<3)=true:=by simp;omega
  have hr:=hc i hi
  refine⟨fun _=>?_,fun h=>(by rw[d1] at h;cases h)⟩
  (repeat' first|(with_reducible first|exact rfl|exact True.intro|assumption|apply And.intro|exact hz|exact hi|exact hkb|exact hr|exact aK (by omega))|exact(rfl:Int.ofNat _=_)|exact(rfl:gS _ _=_)|exact hz|exact hi|exact hkb|exact hr|exact aK (by omega)|intro hq)
  all_goals first
   |(have h:c i≠0:=by simpa using (by assumption:(c i !=0)=true)
     have e:=orE i hi h2 h
     rw[e]
     exact bE h)
   |(have h:c i=0:=by simpa using (by assumption:(c i !=0)=false)
     exact⟨i+1,rfl,rfl,rfl,rfl,rfl,⟨hi,fun j hj=>by
      by_cases e:j=i
      ·subst e;exact h
      ·exact h2 j (by omega)⟩,by show 3 - (i+1)<3 - i;omega⟩)
 ·have d1:decide ((i:Int)<3)=false:=by simp;omega
  refine⟨fun h=>(by rw[d1] at h;cases h),fun _=>?_⟩
  (repeat' first|(with_reducible first|exact rfl|exact True.intro|assumption|apply And.intro|exact hz)|exact(rfl:Int.ofNat _=_)|exact(rfl:gS _ _=_)|exact hz|intro hq)
  refine dp (bE ?_)
  unfold IA
  rw[if_neg (by simpa using h2 0 (by omega)),if_neg (by simpa using h2 1 (by omega))]
  exact h2 2 (by omega)
theorem Vo(hz:aq z zn)(kb:bg)(hkb:z.get 0=some (.ax kb))(c:Nat->Int)(hc: ∀i,i<3->aB Tryz.prog kb 3 (0+i*1)=some (zv (c i))):
 A1 z zn 223 [tb 0 3 3] [] 0 0 (zv (IA (c 0) (c 1) (c 2))) []:=by
 have hL:=JX hz kb hkb c hc
 refine aY (gK (zg:=z)) (fn:=Tryz.f223) (by kernel_rfl) (by kernel_rfl) hz ⟨by decide,by decide⟩ rfl (N:=100) ?_
 refine Zf z zn (IA (c 0) (c 1) (c 2)) _ ?_
 (repeat' first|(with_reducible first|exact rfl|exact True.intro|assumption|apply And.intro|exact hz|exact hL)|exact(rfl:Int.ofNat _=_)|exact(rfl:gS _ _=_)|exact hz|exact hL|intro hq)
 all_goals first
  |exact q1
  |(refine uC ?_;simp_all;done)
end
def zT(e:TypeId)(x y w:Int):T aa:=(T.leaf:T aa).set 0 (.ax (br e [zv x,zv y,zv w]))
theorem wR(e:TypeId)(x y w:Int)(k:Nat):(zT e x y w).get k=if k=0 then some (.ax (br e [zv x,zv y,zv w])) else none:=by
 unfold zT;rw[T.aL];split<;>simp[T.dA]
theorem MN(e:TypeId)(x y w:Int):aq (zT e x y w) 1:=fun k o h=>by
 rw[wR] at h
 split at h
 ·rename_i hk;subst hk;cases h
  exact⟨by decide,fun σ _=>rfl⟩
 ·cases h
theorem TH(e:TypeId)(x y w:Int):mJ Tryz.prog (zT e x y w) 223 [tb 0 3 3] (zv (IA x y w)):=by
 have h:=Vo (z:=zT e x y w) (zn:=1) (MN e x y w) (br e [zv x,zv y,zv w]) (by rw[wR,if_pos rfl]) (fun i=>match i with|0=>x|1=>y|_=>w) (fun i hi=>by
  match i,hi with
  |0,_=>rfl
  |1,_=>rfl
  |2,_=>rfl)
 exact wy h (fun _ _=>rfl) rfl (fun k o hk=>by
  rw[wR] at hk
  split at hk
  ·cases hk;rfl
  ·cases hk) (fun σ hσ=>by
  have:=hσ 0 (by decide)
  simp only[bz,aX,this])
theorem PX(a b:Int):mJ Tryz.prog (T.leaf:T aa) 224 [zv a,zv b] (zv (zU a b)):=cz (Rv fJ a b) rfl rfl
def Hv:cI:=fun f args h=>match f,args with
 |224,[.int .i64 a, .int .i64 b]=>some (zv (zU a b),h)
 |223,[.slice (some ⟨b,0,none⟩) 3 3]=>match h.heap.get b with
  |some (.ax ⟨[.int .i64 x, .int .i64 y, .int .i64 w],_,_,_,true,_,_,_⟩)=>some (zv (IA x y w),h)
  |_=>none
 |_,_=>none
theorem tH{ρ:aU}{h:Hs}{w w':World}{v:Value}(hv:au v=true)(hh:aI ρ h.heap.get w)(hb:Go.RowKit.Below w.heap.size w w'):Ll ρ h w v h (.returned v) w':=by
 refine⟨ρ,v,rfl,VR.ba hv,⟨fun b o ho=>?_,hh.inj⟩,⟨hb.os,hb.tape,hb.output,hb.size,fun r hr _=>hb.block r hr,fun b o L h1 h2 h3=> .inl ⟨b,o,L,h1,h2,h3,rfl⟩,fun b o L h1 h3=> .inl ⟨b,o,L,h1,h3,rfl⟩,aU.le.refl _,fun _ _=>rfl⟩⟩
 obtain⟨L,x,a1,a2,a3⟩:=hh.obj b o ho
 exact⟨L,x,a1,by rw[hb.block _ (Array.getElem?_eq_some_iff.1 a2).1];exact a2,a3⟩
theorem Hu:dv Tryz.prog Hv:=by
 intro f args h v h' he
 unfold Hv at he
 split at he
 ·rename_i a b
  cases he
  refine⟨Mod.refl _,fun ρ w args' n hargs hh hf=>callsIn_wide.2 ?_⟩
  have e:=hargs.plain rfl
  subst e
  exact((PX a b).2 yO w _ (fun k o hk=>by cases hk) (cU.ba rfl)).mono fun e w' ⟨h1,hb⟩=>by rw[h1];exact tH rfl hh hb
 ·rename_i b
  split at he
  ·rename_i x y u cap kv el wh fz ow hb0
   cases he
   refine⟨Mod.refl _,fun ρ w args' n hargs hh hf=>callsIn_wide.2 ?_⟩
   obtain⟨L,o,k1,k2,k3⟩:=hh.obj b _ hb0
   cases o<;>simp only[OR] at k3
   rename_i c el' fr
   have hψ:=k3.exact rfl
   have ha:args'=[.slice (some ⟨L.φ,L.δ+0,none⟩) 3 (3+L.ψ)]:=by
    cases hargs with
    |cons _ _ _ _ h1 h2=>
     cases h2
     cases h1 with
     |sc _ h=>simp[simple] at h
     |sl _ _ _ _ L' h=>rw[k1] at h;cases h;rfl
   let ρ2:aU:=fun i=>if i=510 then some L else none
   have hv:cU ρ2 [tb 0 3 3] args':=by
    rw[ha]
    exact .cons _ _ _ _ (.sl (256*0+510) 0 3 3 L (if_pos rfl)) .nil
   have hfz:Ln (zT el x y u) ρ2 w:=fun k o hk=>by
    rw[wR] at hk
    split at hk
    ·rename_i hk0
     subst hk0;cases hk
     refine⟨L,_,if_pos rfl,k2,?_⟩
     refine⟨k3.elem,Nat.le_refl _,fun hh=>(by cases hh),fun i v hv=>?_,fun _=>hψ,fun hh=>(by cases hh),fun hh=>(by cases hh),fun hh=>(by cases hh)⟩
     obtain⟨v',q1,q2⟩:=k3.cell i v hv
     have hp:au v=true:=by
      match i,hv with
      |0,hv=>cases hv;rfl
      |1,hv=>cases hv;rfl
      |2,hv=>cases hv;rfl
     have:=q2.plain hp
     subst this
     exact⟨v',q1,VR.ba hp⟩
    ·cases hk
   exact((TH el x y u).2 ρ2 w args' hfz hv).mono fun e w' ⟨h1,hb⟩=>by rw[h1];exact tH rfl hh hb
  ·cases he
 ·cases he
theorem Ue(a b c d e f:Int)(s t:Bool):As Tryz.prog 222 [.agg ⟨[.int .i64 a, .int .i64 b, .int .i64 c, .bool s]⟩, .agg ⟨[.int .i64 d, .int .i64 e, .int .i64 f, .bool t]⟩] (zv (ql a b c d e f)):=
 yH (c:=wz Tryz.prog (pn Tryz.prog Hv 300) (fun _ _ _=>none)) (tV (tK hD Hu 300)) (by kernel_rfl) (by kernel_rfl) (nx:=6) (by kernel_rfl)
theorem lK(z:T aa):eR Tryz.prog z gS:=by
 intro f args v h
 unfold gS at h
 split at h
 ·cases h
  refine⟨rfl,fun ρ W args' _ ha=>?_⟩
  have e:=ha.plain rfl
  subst e
  exact Ue _ _ _ _ _ _ _ _ W
 ·cases h
end Go.Proofs.Nw
namespace Go.Proofs.Nw
open Go Go.AV
set_option maxHeartbeats 4000000
set_option maxRecDepth 100000
theorem nN{b c:Nat->Option Int}: ∀(m i:Nat),(∀j,i<=j->j<i+m->b j=c j)->scan b m i=scan c m i
 |0,_,_=>rfl
 |m+1,i,h=>by
  simp only[scan]
  rw[h i (Nat.le_refl _) (by omega),nN m (i+1) fun j h1 h2=>h j (by omega) (by omega)]
theorem C8{b:Nat->Option Int}(h: ∀i,b i≠some 0)(i:Nat):pF (fun i=>(b i).getD 0) i=b i:=by
 unfold pF
 cases hb:b i with
 |none=>simp[hb]
 |some e=>
  have:e≠0:=fun h0=>h i (by rw[hb,h0])
  simp[hb,this]
theorem wE(ns nr:Nat)(l:List RunT)(i:Nat):du ns nr l i≠some 0:=by
 unfold du
 cases l[i]? with
 |none=>simp
 |some x=>
  simp only
  (repeat' split)<;>first|(simp;done)|(intro h;simp_all;done)
theorem H9(U:List RunT)(L:List aF)(i:Nat):eN U L i≠some 0:=by
 unfold eN
 cases L[i]? with
 |none=>simp
 |some x=>
  simp only
  split
  ·simp
  ·rename_i h;intro e;exact h (by simpa using e)
theorem M8(ns nr:Nat)(l:List RunT):c7 ns nr l=if 1024<l.length then (0,5) else scan (pF fun i=>(du ns nr l i).getD 0) l.length 0:=by
 unfold c7
 split
 ·rfl
 ·exact nN _ _ fun j _ _=>(C8 (wE ns nr l) j).symm
theorem Ka(U:List RunT)(L:List aF):bO U L=if 1024<L.length then (0,5) else scan (pF fun i=>(eN U L i).getD 0) L.length 0:=by
 unfold bO
 split
 ·rfl
 ·exact nN _ _ fun j _ _=>(C8 (H9 U L) j).symm
theorem j9{b:Nat->Option Int}(hb: ∀i,b i≠some 0): ∀(m i:Nat),(scan b m i).2=0-> ∀j,i<=j->j<i+m->b j=none
 |0,i,_,j,h1,h2=>by omega
 |m+1,i,h,j,h1,h2=>by
  simp only[scan] at h
  cases hc:b i with
  |some e=>
   rw[hc] at h
   exact(hb i (by rw[hc];exact congrArg some h)).elim
  |none=>
   rw[hc] at h
   by_cases e:j=i
   ·subst e;exact hc
   ·exact j9 hb m (i+1) h j (by omega) (by omega)
theorem vg{ns nr:Nat}{l:List RunT}(h:(c7 ns nr l).2=0):mD l:=by
 unfold c7 at h
 split at h
 ·cases h
 rename_i hl
 refine⟨by omega,fun r hr=>?_⟩
 obtain⟨i,hi⟩:=List.mem_iff_getElem?.1 hr
 have hlt:=(List.getElem?_eq_some_iff.1 hi).1
 have:=j9 (wE ns nr l) _ _ h i (Nat.zero_le _) (by omega)
 unfold du at this
 rw[hi] at this
 simp only at this
 by_cases hc:r.calls.length<2\/32<r.calls.length
 ·have he:(bK r.calls ns 0 3155932800).2=5:=by unfold bK;rw[if_pos hc]
  have hr5:AU ns r=5:=he
  rw[hr5] at this
  (repeat' split at this)<;>simp_all
 ·omega
section
variable{z:T aa}{zn:Nat}
theorem HC(hz:aq z zn)(hg:eR Tryz.prog z gP)(N:aC)(L:List aF)(hN:N.nl=L.length)(hL:cu z 0 (L.map aF.row))(i:Nat)(x:aF)(hx:L[i]? =some x):
 A1 z zn 90 [.agg ⟨N.dS ay N.l1⟩,iv i] [] 0 0 (zv (ig [] L i x)) []:=by
 have hi:i<L.length:=(List.getElem?_eq_some_iff.1 hx).1
 obtain⟨el,hel⟩:=hL.ax (i:=i) (by simp;omega)
 have hlen:=aO (row:=aF.row) (sz:=5) L fun _=>rfl
 have hrow:aB Tryz.prog (br el (L.map aF.row).flatten) 81 (0+i*5)=some (.agg ⟨x.row⟩):=bJ (r:=x.row) (sz:=5) Tryz.underlying81 rfl rfl hlen (by rw[List.getElem?_map,hx];rfl)
 have he:ig [] L i x=9:=by unfold ig;rw[if_pos (by simp;omega)]
 have hin:gP 136 [zv x.from_, .int .i64 0, .int .i64 (-1)]=some (.bool false):=by
  show some (Value.bool (decide (0<=x.from_) && decide (x.from_<= -1)))=_
  have:(decide (0<=x.from_) && decide (x.from_<= -1))=false:=by simp;omega
  rw[this]
 rw[he]
 refine aY hg (fn:=Tryz.f90) (by kernel_rfl) (by kernel_rfl) hz ⟨by decide,by decide⟩ rfl (Ve z zn i N (br el (L.map aF.row).flatten) x _ ?_)
 (repeat' first|(with_reducible first|exact rfl|exact True.intro|assumption|apply And.intro|exact hz|exact(by omega:i<N.nl)|exact hel|exact hrow|exact hin|exact q1)|exact(rfl:Int.ofNat _=_)|exact(rfl:gP _ _=_)|exact hz|exact(by omega:i<N.nl)|exact hel|exact hrow|exact hin|exact q1|intro hq)
end
end Go.Proofs.Nw
namespace Go.Proofs.Nw
open Go Go.AV Go.iT
theorem qB{P:Program}{k k':bg}(h:k.cells=k'.cells)(t:TypeId)(off:Nat):aB P k t off=aB P k' t off:=by
 unfold aB;rw[h]
theorem gN{P:Program}{k:bg}{rows:List (List Value)}(hk:k.cells=rows.flatten){t:TypeId}{d:TypeDesc}{sz:Nat}(hd:P.underlying t=some d)(ha:kW d=true)(hi:(P.info? t).map (·.size)=some sz)(hl: ∀r∈rows,r.length=sz)
 {i:Nat} {r:List Value} (h:rows[i]? =some r):aB P k t (0+i*sz)=some (.agg ⟨r⟩):=by
 rw[qB (k':=br 0 rows.flatten) hk];exact bJ hd ha hi hl h
theorem AY{P:Program}{k:bg}{rows:List (List Value)}(hk:k.cells=rows.flatten){t:TypeId}{d:TypeDesc}{sz:Nat}(hd:P.underlying t=some d)(ha:kW d=false)(hl: ∀r∈rows,r.length=sz)
 {i j:Nat} {r:List Value} {v:Value} (h:rows[i]? =some r) (hj:r[j]? =some v):aB P k t (0+i*sz+j)=some v:=by
 rw[qB (k':=br 0 rows.flatten) hk];exact bh hd ha hl h hj
theorem iV{P:Program}{k:bg}{t:TypeId}{d:TypeDesc}(hd:P.underlying t=some d)(ha:kW d=false){i:Nat}{v:Value}(h:k.cells[i]? =some v):aB P k t (0+i*1)=some v:=by
 unfold aB
 simp only[hd,ha]
 rw[qe,Nat.zero_add,Nat.mul_one,h]
theorem ko{sz:Nat}: ∀{rows:List (List Value)},(∀r∈rows,r.length=sz)->rows.flatten.length=rows.length*sz
 |[],_=>by simp
 |r::l,h=>by
  rw[List.flatten_cons,List.length_append,ko (rows:=l) fun x hx=>h x (List.mem_cons_of_mem _ hx),h r (List.mem_cons_self ..),List.length_cons,Nat.succ_mul];omega
theorem sQ: ∀(a:List Value) {b c vs:List Value} {n:Nat},overwrite b n vs=some c->overwrite (a++b) (a.length+n) vs=some (a++c)
 |[],b,c,vs,n,h=>by simpa using h
 |x::a,b,c,vs,n,h=>by
  have:=sQ a h
  have e:(x::a).length+n=(a.length+n)+1:=by simp;omega
  rw[e,List.cons_append]
  cases vs with
  |nil=>simp only[overwrite,this];rfl
  |cons v vs=>simp only[overwrite,this];rfl
theorem qc: ∀(r r' b:List Value),r.length=r'.length->overwrite (r++b) 0 r'=some (r'++b)
 |[],[],b,_=>by cases b<;>rfl
 |x::r,y::r',b,h=>by
  simp only[List.cons_append,overwrite]
  rw[qc r r' b (by simpa using h)]
theorem sP{sz:Nat}{rows:List (List Value)}(hl: ∀r∈rows,r.length=sz){i:Nat}(hi:i<rows.length){r':List Value}(hr:r'.length=sz):overwrite rows.flatten (0+i*sz) r'=some (rows.set i r').flatten:=by
 have e1:rows=rows.take i++rows[i]::rows.drop (i+1):=by
  rw[List.getElem_cons_drop,List.take_append_drop]
 have e2:rows.set i r'=rows.take i++r'::rows.drop (i+1):=List.set_eq_take_append_cons_drop.trans (by rw[if_pos hi])
 have hlen:(rows.take i).flatten.length=i*sz:=by
  rw[ko (fun r hr=>hl r (List.mem_of_mem_take hr)),List.length_take,Nat.min_eq_left (by omega)]
 rw[e2]
 conv=>lhs;rw[e1]
 rw[List.flatten_append,List.flatten_append,List.flatten_cons,List.flatten_cons,Nat.zero_add,←hlen]
 exact sQ _ (qc _ _ _ (by rw[hl _ (List.getElem_mem hi),hr]))
theorem oT{cs:List Value}{i:Nat}(hi:i<cs.length)(v:Value):overwrite cs (0+i*1) [v]=some (cs.set i v):=by
 have e1:cs=cs.take i++cs[i]::cs.drop (i+1):=by
  rw[List.getElem_cons_drop,List.take_append_drop]
 have e2:cs.set i v=cs.take i++v::cs.drop (i+1):=List.set_eq_take_append_cons_drop.trans (by rw[if_pos hi])
 rw[e2]
 conv=>lhs;rw[e1]
 have hlen:(cs.take i).length=i:=by rw[List.length_take,Nat.min_eq_left (by omega)]
 have:=sQ (cs.take i) (qc [cs[i]] [v] (cs.drop (i+1)) rfl)
 rw[hlen] at this
 rw[Nat.zero_add,Nat.mul_one]
 exact this
theorem kT{α:Type}(row:α->List Value)(l:List α)(i:Nat)(x:α):(l.map row).set i (row x)=(l.set i x).map row:=by
 rw[List.map_set]
theorem cV: ∀{l:List Value},bG l=true↔ ∀v∈l,au v=true
 |[]=>by simp[bG]
 |v::l=>by
  simp only[bG]
  cases hv:au v with
  |false=>simp[hv]
  |true=>simp[hv,cV (l:=l)]
theorem kR{α:Type}{row:α->List Value}(h: ∀x,bG (row x)=true)(l:List α):bG (l.map row).flatten=true:=by
 rw[cV]
 intro v hv
 obtain⟨r,hr,hv⟩:=List.mem_flatten.1 hv
 obtain⟨x,_,rfl⟩:=List.mem_map.1 hr
 exact cV.1 (h x) v hv
theorem cF{σ:Nat->Option Nat}{k:bg}(h:bG k.cells=true):aG σ (.ax k)=some (.ax k):=by
 simp only[aG,eU h]
theorem ia{x:Int}(h1: -4611686018427387904<=x)(h2:x<=4611686018427387904):Value.int .i64 (IntKind.i64.wrap x)=Value.int .i64 x:=by
 have:IntKind.i64.wrap x=x:=by
  simp only[IntKind.wrap,IntKind.signed,IntKind.bits]
  simp
  omega
 rw[this]
def Q2{α:Type}(eS:Nat)(φ:α->Prop)(v:α->Value)(zo:α->bY)(zz:α->T aa)(zn':α->Nat):Value->bY->Nat->T aa->Nat->Prop:=Iw eS φ v zo zz zn'
theorem fN{z zg:T aa}{zn:Nat}{g:Nat->List Value->Option Value}(hg:eR Tryz.prog zg g){f:Nat}{fn:Func}(hfn:Tryz.prog.funcs[f]? =some fn)(hb:fn.body=some (ag fn)){args:List Value}{aQ:bY}(hz:aq z zn){nx eS:Nat}(hnx:nx<=eS/\eS<=cL){α:Type}{φ:α->Prop}{v:α->Value}{zo:α->bY}{zz:α->T aa}{zn':α->Nat}
 (hlow: ∀x,φ x->DY (zo x)=true/\zn<=zn' x/\aq (zz x) (zn' x)) {N:Nat}
 (h: ∃t,fM Tryz.prog g zg N (ag fn) (xp fn args) (fA z aQ nx) zn (FM Tryz.prog nx fn (Q2 eS φ v zo zz zn')) t):bI Tryz.prog z zn f args aQ nx eS φ v zo zz zn':=by
 obtain⟨t,ht⟩:=h
 exact zZ hD hg hfn hb hz nx eS hnx _ _ _ _ _ (fun x hx=>⟨rH (hlow x hx).1,(hlow x hx).2.1,(hlow x hx).2.2⟩) ht
theorem q2{α:Type}{eS:Nat}{φ:α->Prop}{v:α->Value}{zo:α->bY}{zz:α->T aa}{zn':α->Nat}(x:α)(h:φ x){u:Value}{aQ:bY}{n:Nat}{z':T aa}{m:Nat}(h1:n=eS)(h2:u=v x)(h3:aQ=zo x)(h4:z'=zz x)(h5:m=zn' x):Q2 eS φ v zo zz zn' u aQ n z' m:=⟨h1,x,h,h2,h3,h4,h5⟩
theorem BT{α:Type}{φ:α->Prop}{F:α->aw}{k:α->Tr}{l:Al}(x:α)(h:φ x){o:aw}(ho:o=F x):Al.R (.cons α φ F k l) o:= .inl ⟨x,h,ho⟩
end Go.Proofs.Nw
namespace Go.iT
variable{α:Type}
def gk(f:Nat->α)(n:Nat)(x:α):Prop:= ∃i,i<n/\f i=x
def oC(f:Nat->α)(i j:Nat):Nat->α:=fun k=>if k=i then f j else if k=j then f i else f k
theorem rZ{f:Nat->α}{n i j:Nat}(hi:i<n)(hj:j<n)(x:α):gk (oC f i j) n x↔gk f n x:=by
 constructor
 ·rintro⟨k,hk,rfl⟩
  unfold oC
  split
  ·exact⟨j,hj,rfl⟩
  ·split
   ·exact⟨i,hi,rfl⟩
   ·exact⟨k,hk,rfl⟩
 ·rintro⟨k,hk,rfl⟩
  by_cases h1:k=i
  ·subst h1
   by_cases h2:j=k
   ·subst h2;exact⟨j,hj,by simp[oC]⟩
   ·exact⟨j,hj,by simp[oC,h2]⟩
  ·by_cases h2:k=j
   ·subst h2;exact⟨i,hi,by simp[oC]⟩
   ·exact⟨k,hk,by simp[oC,h1,h2]⟩
structure Ord(lt:α->α->Bool):Prop where
 asymm: ∀a b,lt a b=true->lt b a=false
 trans: ∀a b c,lt b a=false->lt c b=false->lt c a=false
def mI(lt:α->α->Bool)(f:Nat->α)(n:Nat):Prop:= ∀k,0<k->k<n->lt (f k) (f ((k - 1) / 2))=false
theorem GR{lt:α->α->Bool}(o:Ord lt){f:Nat->α}{n:Nat}(h:mI lt f n): ∀k,k<n->lt (f k) (f 0)=false:=by
 intro k
 induction k using Nat.strongRecOn with
 |ind k ih=>
  intro hk
  by_cases h0:k=0
  ·subst h0
   cases hc:lt (f 0) (f 0) with
   |false=>rfl
   |true=>have:=o.asymm _ _ hc;rw[hc] at this;cases this
  ·exact o.trans _ _ _ (ih ((k - 1) / 2) (by omega) (by omega)) (h k (by omega) hk)
def IX(lt:α->α->Bool)(f:Nat->α)(n i:Nat):Prop:=
 (∀k,0<k->k<n->k≠i->lt (f k) (f ((k - 1) / 2))=false)/\
 (∀k,0<k->k<n->(k - 1) / 2=i->0<i->lt (f k) (f ((i - 1) / 2))=false)
theorem B5{lt:α->α->Bool}{f:Nat->α}{n i:Nat}(h:IX lt f n i)(hi:i=0\/lt (f i) (f ((i - 1) / 2))=false):mI lt f n:=by
 intro k h0 hk
 by_cases hki:k=i
 ·subst hki
  rcases hi with rfl|hi
  ·omega
  ·exact hi
 ·exact h.1 k h0 hk hki
theorem B4{lt:α->α->Bool}(o:Ord lt){f:Nat->α}{n i:Nat}(h:IX lt f n i)(h0:0<i)(hi:i<n)(hl:lt (f i) (f ((i - 1) / 2))=true):
 IX lt (oC f i ((i - 1) / 2)) n ((i - 1) / 2):=by
 have hp:(i - 1) / 2<i:=by omega
 have hpi:(i - 1) / 2≠i:=by omega
 have e1:oC f i ((i - 1) / 2) i=f ((i - 1) / 2):=by simp[oC]
 have e2:oC f i ((i - 1) / 2) ((i - 1) / 2)=f i:=by simp[oC,hpi]
 have e3: ∀k,k≠i->k≠(i - 1) / 2->oC f i ((i - 1) / 2) k=f k:=fun k a b=>by simp[oC,a,b]
 refine⟨fun k k0 kn kne=>?_,fun k k0 kn kp p0=>?_⟩
 ·by_cases hki:k=i
  ·subst hki
   rw[e1,e2];exact o.asymm _ _ hl
  ·rw[e3 k hki kne]
   by_cases hpar:(k - 1) / 2=i
   ·rw[hpar,e1];exact h.2 k k0 kn hpar h0
   ·by_cases hpp:(k - 1) / 2=(i - 1) / 2
    ·rw[hpp,e2]
     have:=h.1 k k0 kn hki
     rw[hpp] at this
     exact o.trans _ _ _ (o.asymm _ _ hl) this
    ·rw[e3 _ hpar hpp];exact h.1 k k0 kn hki
 ·have hg:((i - 1) / 2 - 1) / 2≠i:=by omega
  have hg2:((i - 1) / 2 - 1) / 2≠(i - 1) / 2:=by omega
  rw[e3 _ hg hg2]
  have hpg:=h.1 ((i - 1) / 2) p0 (by omega) hpi
  by_cases hki:k=i
  ·subst hki;rw[e1];exact hpg
  ·have hkp:k≠(i - 1) / 2:=by omega
   rw[e3 k hki hkp]
   have:=h.1 k k0 kn hki
   rw[kp] at this
   exact o.trans _ _ _ hpg this
def pO(lt:α->α->Bool)(f:Nat->α)(n i:Nat):Prop:=
 (∀k,0<k->k<n->(k - 1) / 2≠i->lt (f k) (f ((k - 1) / 2))=false)/\
 (∀k,0<k->k<n->(k - 1) / 2=i->0<i->lt (f k) (f ((i - 1) / 2))=false)
theorem Ek{lt:α->α->Bool}{f:Nat->α}{n i:Nat}(h:pO lt f n i)(hc: ∀k,k<n->0<k->(k - 1) / 2=i->lt (f k) (f i)=false):mI lt f n:=by
 intro k h0 hk
 by_cases hp:(k - 1) / 2=i
 ·rw[hp];exact hc k hk h0 hp
 ·exact h.1 k h0 hk hp
theorem Ej{lt:α->α->Bool}(o:Ord lt){f:Nat->α}{n i c:Nat}(h:pO lt f n i)(h0:0<c)(hc:c<n)(hp:(c - 1) / 2=i)(hl:lt (f c) (f i)=true)
 (hmin: ∀k,k<n->0<k->(k - 1) / 2=i->lt (f k) (f c)=false):
 pO lt (oC f i c) n c:=by
 have hci:c≠i:=by omega
 have e1:oC f i c i=f c:=by simp[oC]
 have e2:oC f i c c=f i:=by simp[oC,hci]
 have e3: ∀k,k≠i->k≠c->oC f i c k=f k:=fun k a b=>by simp[oC,a,b]
 refine⟨fun k k0 kn kne=>?_,fun k k0 kn kp p0=>?_⟩
 ·by_cases hkc:k=c
  ·subst hkc
   rw[e2,hp,e1];exact o.asymm _ _ hl
  ·by_cases hki:k=i
   ·subst hki
    have hne:(k - 1) / 2≠k:=by omega
    rw[e1,e3 _ hne kne]
    exact h.2 c h0 hc hp k0
   ·rw[e3 k hki hkc]
    by_cases hpar:(k - 1) / 2=i
    ·rw[hpar,e1];exact hmin k kn k0 hpar
    ·rw[e3 _ hpar kne];exact h.1 k k0 kn hpar
 ·have hki:k≠i:=by omega
  have hkc:k≠c:=by omega
  rw[e3 k hki hkc,hp,e1]
  have:=h.1 k k0 kn (by omega)
  rw[kp] at this
  exact this
theorem Bz{lt:α->α->Bool}{f:Nat->α}{n:Nat}(h:mI lt f (n+1)):pO lt (oC f 0 n) n 0:=by
 refine⟨fun k k0 kn kne=>?_,fun k k0 kn kp p0=>by omega⟩
 have e3: ∀k,k≠0->k≠n->oC f 0 n k=f k:=fun k a b=>by simp[oC,a,b]
 rw[e3 k (by omega) (by omega),e3 _ kne (by omega)]
 exact h k k0 (by omega)
theorem Fm{f:Nat->α}{n:Nat}(x:α):gk (oC f 0 n) n x↔ ∃i,0<i/\i<n+1/\f i=x:=by
 constructor
 ·rintro⟨k,hk,rfl⟩
  unfold oC
  split
  ·exact⟨n,by omega,by omega,rfl⟩
  ·split
   ·omega
   ·exact⟨k,by omega,by omega,rfl⟩
 ·rintro⟨k,k0,hk,rfl⟩
  by_cases h:k=n
  ·subst h;exact⟨0,k0,by simp[oC]⟩
  ·exact⟨k,by omega,by simp[oC,h,Nat.ne_of_gt k0]⟩
theorem yi{lt:α->α->Bool}{f:Nat->α}{n:Nat}(h:mI lt f n)(x:α):IX lt (fun k=>if k=n then x else f k) (n+1) n:=by
 refine⟨fun k k0 kn kne=>?_,fun k k0 kn kp p0=>by omega⟩
 simp only
 rw[if_neg kne,if_neg (by omega)]
 exact h k k0 (by omega)
end Go.iT
namespace Go.Proofs.Nw
open Go Go.AV Go.iT
set_option maxHeartbeats 4000000
set_option maxRecDepth 100000
def X1:cg:=⟨⟨0,0,0⟩,0⟩
def hf(ms:List cg)(k:Nat):cg:=ms[k]?.getD X1
def xY(ms:List cg)(i k:Nat):List cg:=(ms.set i (hf ms k)).set k (hf ms i)
theorem NM{ms:List cg}{k:Nat}(h:k<ms.length):ms[k]? =some (hf ms k):=by
 unfold hf;rw[List.getElem?_eq_getElem h];rfl
theorem kF(ms:List cg)(i k:Nat):(xY ms i k).length=ms.length:=by simp[xY]
theorem mf{ms:List cg}{i k:Nat}(hi:i<ms.length)(hk:k<ms.length):hf (xY ms i k)=oC (hf ms) i k:=by
 funext j
 unfold oC hf xY
 rw[List.getElem?_set,List.getElem?_set,List.length_set]
 by_cases h1:k=j
 ·subst h1
  by_cases h2:k=i
  ·subst h2;simp[hk,hf]
  ·simp[h2,hk,hf]
 ·have h1': ¬j=k:=fun e=>h1 e.symm
  by_cases h2:i=j
  ·subst h2;simp[h1,hi];rfl
  ·have h2': ¬j=i:=fun e=>h2 e.symm
   simp[h1,h1',h2,h2']
theorem vW(a b:cO):nD a b=true↔a.len<b.len\/(a.len=b.len/\a.fK<b.fK):=by
 unfold nD;simp
theorem my(a b:cg):dC a b=true↔a.x.len<b.x.len\/(a.x.len=b.x.len/\(a.x.fK<b.x.fK\/(a.x.fK=b.x.fK/\a.num<b.num))):=by
 unfold dC
 rw[Bool.or_eq_true,Bool.and_eq_true,vW,Bool.not_eq_true',decide_eq_true_eq]
 have h:nD b.x a.x=false↔ ¬(b.x.len<a.x.len\/(b.x.len=a.x.len/\b.x.fK<a.x.fK)):=by
  rw[←vW];simp
 rw[h]
 omega
theorem iy:Ord dC:=by
 refine⟨fun a b h=>?_,fun a b c h1 h2=>?_⟩
 ·rw[my] at h
  cases hc:dC b a with
  |false=>rfl
  |true=>rw[my] at hc;omega
 ·cases hc:dC c a with
  |false=>rfl
  |true=>
   have n1: ¬dC b a=true:=by rw[h1];simp
   have n2: ¬dC c b=true:=by rw[h2];simp
   rw[my] at n1 n2 hc
   omega
theorem sy(ms:List cg): ∀r∈ms.map cg.row,r.length=4:=aO ms fun _=>rfl
theorem mM(ms:List cg):(aD ms).length=ms.length*4:=by rw[ko (sy ms),List.length_map]
theorem qA(ms:List cg):bG (aD ms)=true:=kR (fun _=>rfl) ms
theorem Na{σ:Nat->Option Nat}(ms:List cg)(c:Nat):aG σ (dK (aD ms) c)=some (dK (aD ms) c):=cF (qA ms)
theorem aR{σ:Nat->Option Nat}(ms:List cg)(c:Nat):aG σ (aa.ax (bg.mk (aD ms) c 4 358 false false 0 true))=some (aa.ax (bg.mk (aD ms) c 4 358 false false 0 true)):=cF (qA ms)
theorem Ci{ms:List cg}{i:Nat}(h:i<ms.length)(c:Nat):aB Tryz.prog (bg.mk (aD ms) c 4 358 false false 0 true) 358 (0+i*4)=some (.agg ⟨(hf ms i).row⟩):=
 gN (rows:=ms.map cg.row) rfl Tryz.underlying358 rfl rfl (sy ms) (by rw[List.getElem?_map,NM h];rfl)
theorem FZ{ms:List cg}{i:Nat}(h:i<ms.length)(a:cg):overwrite (aD ms) (0+i*4) a.row=some (aD (ms.set i a)):=by
 have:=sP (sy ms) (i:=i) (by simpa using h) (r':=a.row) rfl
 rw[kT] at this
 exact this
theorem cT(z:T aa):eR Tryz.prog z gH:=by
 intro f args v h
 unfold gH at h
 split at h
 ·rename_i a b c d e f
  cases h
  refine cz ?_ rfl rfl
  refine aY (gK (zg:= .leaf)) (fn:=Tryz.f274) (by kernel_rfl) (by kernel_rfl) fJ ⟨by decide,by decide⟩ rfl (Q5 .leaf 0 ⟨a,b,c⟩ ⟨d,e,f⟩ _ ?_)
  (repeat' first|(with_reducible first|exact rfl|exact True.intro|assumption|apply And.intro|exact fJ)|exact(rfl:Int.ofNat _=_)|exact(rfl:gH _ _=_)|exact fJ|intro hq)
  all_goals (refine uC ?_;unfold nD;simp_all)
 ·cases h
section
variable{z:T aa}{zn:Nat}
theorem Ro(hz:aq z zn):A1 z zn 273 [GF] [] 0 1 (ip 0) [(0,eg ay 0)]:=by
 refine aY (NO (z:=z)) (fn:=Tryz.f273) (by kernel_rfl) (by kernel_rfl) hz ⟨by decide,by decide⟩ rfl (me z zn _ ?_)
 (repeat' first|(with_reducible first|exact rfl|exact True.intro|assumption|apply And.intro|exact hz|exact q1)|exact(rfl:Int.ofNat _=_)|exact(rfl:gH _ _=_)|exact hz|exact q1|intro hq)
theorem tW(hz:aq z zn)(ms:List cg)(i k n c cc:Nat)(p:Int)(hi:i<n)(hk:k<n)(hn:n<=ms.length):
 A1 z zn 280 [ip 0,iv i,iv k] [(0,eg (aZ 1 n c) p),(1,dK (aD ms) cc)] 2 2 (.bool (dC (hf ms i) (hf ms k))) [(0,eg (aZ 1 n c) p),(1,dK (aD ms) cc)]:=by
 refine aY (cT z) (fn:=Tryz.f280) (by kernel_rfl) (by kernel_rfl) hz ⟨by decide,by decide⟩ rfl (UT z zn i k n c cc p (hf ms i) (hf ms k) (aD ms) _ ?_)
 (repeat' first|(with_reducible first|exact rfl|exact True.intro|assumption|apply And.intro|exact hz|exact hi|exact hk|exact Ci (by omega) _|exact aR _ _)|exact(rfl:Int.ofNat _=_)|exact(rfl:gH _ _=_)|exact hz|exact hi|exact hk|exact Ci (by omega) _|exact aR _ _|intro hq)
 all_goals first
  |(refine uC ?_
    unfold dC
    simp_all;done)
theorem xz(hz:aq z zn)(ms:List cg)(i k n c cc:Nat)(p:Int)(hi:i<n)(hk:k<n)(hn:n<=ms.length)(hc:ms.length*4<=cc):
 A1 z zn 281 [ip 0,iv i,iv k] [(0,eg (aZ 1 n c) p),(1,dK (aD ms) cc)] 2 2 (.tuple ⟨[]⟩) [(0,eg (aZ 1 n c) p),(1,dK (aD (xY ms i k)) cc)]:=by
 have h1:=FZ (ms:=ms) (i:=i) (by omega) (hf ms k)
 have h2:=FZ (ms:=ms.set i (hf ms k)) (i:=k) (by simp;omega) (hf ms i)
 have l1:(aD (ms.set i (hf ms k))).length<=cc:=by rw[mM];simp;exact hc
 have l2:(aD (xY ms i k)).length<=cc:=by rw[mM,kF];exact hc
 refine aY (cT z) (fn:=Tryz.f281) (by kernel_rfl) (by kernel_rfl) hz ⟨by decide,by decide⟩ rfl (UP z zn i k n c cc p (hf ms i) (hf ms k) (aD ms) (aD (ms.set i (hf ms k))) (aD (xY ms i k)) _ ?_)
 (repeat' first|(with_reducible first|exact rfl|exact True.intro|assumption|apply And.intro|exact hz|exact hi|exact hk|exact Ci (by omega) _|exact aR _ _|exact h1|exact h2|exact l1|exact l2|exact q1)|exact(rfl:Int.ofNat _=_)|exact(rfl:gH _ _=_)|exact hz|exact hi|exact hk|exact Ci (by omega) _|exact aR _ _|exact h1|exact h2|exact l1|exact l2|exact q1|intro hq)
end
def upφ(ms:List cg)(m:Nat)(ms':List cg):Prop:=ms'.length=ms.length/\mI dC (hf ms') m/\ ∀v,gk (hf ms') m v↔gk (hf ms) m v
theorem Ls{i:Nat}(h:0<i):((i:Int) - 1).tdiv 2=(((i - 1) / 2:Nat):Int):=by
 rw[show(i:Int) - 1=((i - 1:Nat):Int) by omega]
 rw[Int.tdiv_eq_ediv_of_nonneg (by omega)]
 omega
section
variable{z:T aa}{zn:Nat}
theorem zj(hz:aq z zn)(ms:List cg)(m i c cc:Nat)(p:Int)(hi:i<m)(hm:m<=ms.length)(hc:ms.length*4<=cc)(hs:m<100000000)(hU:IX dC (hf ms) m i):
 ai Tryz.prog (ah (ag Tryz.f275) 0) 4 54 (qh i) [(0,eg (aZ 4 m c) p),(4,dK (aD ms) cc)] (4+1) z zn (Al.R (JH z zn 4 i m c cc p (aD ms) (upφ ms m)).l):=by
 refine ak hD (cT z) (α:=Nat × List cg) 4 54 (4+1) (fun x=>x.1<m/\x.2.length=ms.length/\IX dC (hf x.2) m x.1/\ ∀v,gk (hf x.2) m v↔gk (hf ms) m v) (fun x=>qh x.1) (fun x=>[(0,eg (aZ 4 m c) p),(4,dK (aD x.2) cc)]) (fun _=>z) (fun _=>zn) (fun x=>x.1) _ (fun x hI=>?_) (i,ms) ⟨hi,rfl,hU,fun _=>Iff.rfl⟩
 obtain⟨i,ms'⟩:=x
 obtain⟨h1,h2,h3,h4⟩:=hI
 simp only at h1 h2 h3 h4 ⊢
 have out:(i=0\/dC (hf ms' i) (hf ms' ((i - 1) / 2))=false)->Al.R (JH z zn 4 i m c cc p (aD ms) (upφ ms m)).l ⟨.exit 0,[(0,ip 0)],[(0,eg (aZ 4 m c) p),(4,dK (aD ms') cc)],4+1,z,zn⟩:=fun h=>BT ms' ⟨h2,B5 h3 h,h4⟩ rfl
 by_cases h0:0<i
 ·have hlt:(i - 1) / 2<i:=by omega
  have b1:=tW hz ms' i ((i - 1) / 2) m c cc p h1 (by omega) (by omega)
  have s1:=xz hz ms' i ((i - 1) / 2) m c cc p h1 (by omega) (by omega) (by omega)
  have e1:=aR (σ:=sig [(0,0),(1,4)]) ms' cc
  have w1:Value.int .i64 (IntKind.i64.wrap ((i:Int) - 1))=Value.int .i64 ((i:Int) - 1):=ia (by omega) (by omega)
  have w2:Value.int .i64 (IntKind.i64.wrap (((i - 1) / 2:Nat):Int))=Value.int .i64 (((i - 1) / 2:Nat):Int):=ia (by omega) (by omega)
  refine t100 (Q0 z zn i m c cc p (fun x y=>dC (hf ms' x.toNat) (hf ms' y.toNat)) (fun x y=>aD (xY ms' x.toNat y.toNat)) (aD ms') (aj _ _ _ _ _ _ _ _ _) ?_)
  rw[Ls h0]
  have hc0:decide ((i:Int)>0)=true:=by simp;omega
  refine⟨fun _=>?_,fun h=>(by rw[hc0] at h;cases h)⟩
  simp only[Int.toNat_natCast]
  (repeat' first|(with_reducible first|exact rfl|exact True.intro|assumption|apply And.intro|exact hz|exact w1|exact w2|exact b1|exact s1|exact e1|exact aR _ _)|exact(rfl:Int.ofNat _=_)|exact(rfl:gH _ _=_)|exact hz|exact w1|exact w2|exact b1|exact s1|exact e1|exact aR _ _|intro hq)
  ·refine⟨((i - 1) / 2,xY ms' i ((i - 1) / 2)),rfl,rfl,rfl,rfl,rfl,⟨by simp only;omega,by simp only[kF];exact h2,?_,fun v=>?_⟩,hlt⟩
   ·simp only
    rw[mf (by omega) (by omega)]
    exact B4 iy h3 h0 h1 (by assumption)
   ·simp only
    rw[mf (by omega) (by omega),rZ h1 (by omega)]
    exact h4 v
  ·exact out (.inr (by with_reducible assumption))
 ·have hi0:i=0:=by omega
  subst hi0
  refine t100 (Q0 z zn 0 m c cc p (fun x y=>false) (fun x y=>[]) (aD ms') (aj _ _ _ _ _ _ _ _ _) ⟨fun h=>(by simp at h),fun _=>?_⟩)
  (repeat' first|(with_reducible first|exact rfl|exact True.intro|assumption|apply And.intro|exact hz|exact aR _ _)|exact(rfl:Int.ofNat _=_)|exact(rfl:gH _ _=_)|exact hz|exact aR _ _|intro hq)
  ·exact out (.inl rfl)
theorem Gj(hz:aq z zn)(ms:List cg)(m i c cc:Nat)(p:Int)(hi:i<m)(hm:m<=ms.length)(hc:ms.length*4<=cc)(hs:m<100000000)(hU:IX dC (hf ms) m i):
 ai Tryz.prog (ah (ag Tryz.f275) 0) 5 54 (qh i) [(0,eg (aZ 5 m c) p),(5,dK (aD ms) cc)] (5+1) z zn (Al.R (JH z zn 5 i m c cc p (aD ms) (upφ ms m)).l):=by
 refine ak hD (cT z) (α:=Nat × List cg) 5 54 (5+1) (fun x=>x.1<m/\x.2.length=ms.length/\IX dC (hf x.2) m x.1/\ ∀v,gk (hf x.2) m v↔gk (hf ms) m v) (fun x=>qh x.1) (fun x=>[(0,eg (aZ 5 m c) p),(5,dK (aD x.2) cc)]) (fun _=>z) (fun _=>zn) (fun x=>x.1) _ (fun x hI=>?_) (i,ms) ⟨hi,rfl,hU,fun _=>Iff.rfl⟩
 obtain⟨i,ms'⟩:=x
 obtain⟨h1,h2,h3,h4⟩:=hI
 simp only at h1 h2 h3 h4 ⊢
 have out:(i=0\/dC (hf ms' i) (hf ms' ((i - 1) / 2))=false)->Al.R (JH z zn 5 i m c cc p (aD ms) (upφ ms m)).l ⟨.exit 0,[(0,ip 0)],[(0,eg (aZ 5 m c) p),(5,dK (aD ms') cc)],5+1,z,zn⟩:=fun h=>BT ms' ⟨h2,B5 h3 h,h4⟩ rfl
 by_cases h0:0<i
 ·have hlt:(i - 1) / 2<i:=by omega
  have b1:=tW hz ms' i ((i - 1) / 2) m c cc p h1 (by omega) (by omega)
  have s1:=xz hz ms' i ((i - 1) / 2) m c cc p h1 (by omega) (by omega) (by omega)
  have e1:=aR (σ:=sig [(0,0),(1,5)]) ms' cc
  have w1:Value.int .i64 (IntKind.i64.wrap ((i:Int) - 1))=Value.int .i64 ((i:Int) - 1):=ia (by omega) (by omega)
  have w2:Value.int .i64 (IntKind.i64.wrap (((i - 1) / 2:Nat):Int))=Value.int .i64 (((i - 1) / 2:Nat):Int):=ia (by omega) (by omega)
  refine t100 (QZ z zn i m c cc p (fun x y=>dC (hf ms' x.toNat) (hf ms' y.toNat)) (fun x y=>aD (xY ms' x.toNat y.toNat)) (aD ms') (aj _ _ _ _ _ _ _ _ _) ?_)
  rw[Ls h0]
  have hc0:decide ((i:Int)>0)=true:=by simp;omega
  refine⟨fun _=>?_,fun h=>(by rw[hc0] at h;cases h)⟩
  simp only[Int.toNat_natCast]
  (repeat' first|(with_reducible first|exact rfl|exact True.intro|assumption|apply And.intro|exact hz|exact w1|exact w2|exact b1|exact s1|exact e1|exact aR _ _)|exact(rfl:Int.ofNat _=_)|exact(rfl:gH _ _=_)|exact hz|exact w1|exact w2|exact b1|exact s1|exact e1|exact aR _ _|intro hq)
  ·refine⟨((i - 1) / 2,xY ms' i ((i - 1) / 2)),rfl,rfl,rfl,rfl,rfl,⟨by simp only;omega,by simp only[kF];exact h2,?_,fun v=>?_⟩,hlt⟩
   ·simp only
    rw[mf (by omega) (by omega)]
    exact B4 iy h3 h0 h1 (by assumption)
   ·simp only
    rw[mf (by omega) (by omega),rZ h1 (by omega)]
    exact h4 v
  ·exact out (.inr (by with_reducible assumption))
 ·have hi0:i=0:=by omega
  subst hi0
  refine t100 (QZ z zn 0 m c cc p (fun x y=>false) (fun x y=>[]) (aD ms') (aj _ _ _ _ _ _ _ _ _) ⟨fun h=>(by simp at h),fun _=>?_⟩)
  (repeat' first|(with_reducible first|exact rfl|exact True.intro|assumption|apply And.intro|exact hz|exact aR _ _)|exact(rfl:Int.ofNat _=_)|exact(rfl:gH _ _=_)|exact hz|exact aR _ _|intro hq)
  ·exact out (.inl rfl)
def pushφ(s:pR)(x:cO)(ms':List cg):Prop:=s.n+1<=ms'.length/\ms'.length<=s.ms.length+1/\mI dC (hf ms') (s.n+1)/\ ∀v,gk (hf ms') (s.n+1) v↔v=⟨x,s.p⟩\/gk (hf s.ms) s.n v
structure uz(s:pR):Prop where
 len:s.n<=s.ms.length
 heap:mI dC (hf s.ms) s.n
 p0:0<=s.p
 pb:s.p<=1000000
 lp:(s.ms.length:Int)<=s.p
theorem B3{f g:Nat->cg}{n:Nat}{x:cg}(h: ∀k,k<n->g k=f k)(hn:g n=x)(v:cg):gk g (n+1) v↔v=x\/gk f n v:=by
 constructor
 ·rintro⟨k,hk,rfl⟩
  by_cases e:k=n
  ·subst e;exact .inl hn
  ·exact .inr ⟨k,by omega,(h k (by omega)).symm⟩
 ·rintro (rfl|⟨k,hk,rfl⟩)
  ·exact⟨n,by omega,hn⟩
  ·exact⟨k,by omega,h k hk⟩
theorem KK(hz:aq z zn)(x:cO):A1 z zn 275 [ip 0, .agg ⟨x.row⟩] [(0,eg ay 0)] 1 2 (.tuple ⟨[]⟩) [(0,eg (aZ 1 1 1) 1),(1,dK (cg.row ⟨x,0⟩) 4)]:=by
 have hK:=zj hz [⟨x,0⟩] 1 0 1 4 1 (by omega) (by simp) (by simp) (by omega) ⟨fun k h0 hk=>by omega,fun k h0 hk=>by omega⟩
 have w1:Value.int .i64 (IntKind.i64.wrap ((0:Int)+1))=Value.int .i64 ((0:Int)+1):=ia (by omega) (by omega)
 refine aY (cT z) (fn:=Tryz.f275) (by kernel_rfl) (by kernel_rfl) hz ⟨by decide,by decide⟩ rfl (US z zn x 0 (upφ [⟨x,0⟩] 1) _ ?_)
 (repeat' first|(with_reducible first|exact rfl|exact True.intro|assumption|apply And.intro|exact hz|exact w1|exact hK|exact aR _ _)|exact(rfl:Int.ofNat _=_)|exact(rfl:gH _ _=_)|exact hz|exact w1|exact hK|exact aR _ _|intro hq)
 all_goals
  rename_i ms
  obtain⟨k1,k2,k3⟩:=hq
  obtain⟨j,hj,hv⟩:=(k3 ⟨x,0⟩).2 ⟨0,by omega,rfl⟩
  have hj0:j=0:=by omega
  subst hj0
  have:ms=[⟨x,0⟩]:=by
   match ms,k1 with
   |[a],_=>exact congrArg (fun y=>[y]) hv
  subst this
  exact q1
theorem KL(hz:aq z zn)(n:Nat)(ms:List cg)(p:Int)(hs:uz ⟨n,ms,p⟩)(h1:1<=ms.length)(hp:p+1<=1000000)(x:cO):
 aM Tryz.prog z zn 275 [ip 0, .agg ⟨x.row⟩] [(0,eg (aZ 1 n ms.length) p),(1,dK (aD ms) (ms.length*4))] 2 3 (pushφ ⟨n,ms,p⟩ x) (fun _=> .tuple ⟨[]⟩) (fun ms=>[(0,eg (aZ 2 (n+1) ms.length) (p+1)),(2,dK (aD ms) (ms.length*4))]):=by
 obtain⟨q1,q2',q3,q4,q5⟩:=hs
 simp only at q1 q2' q3 q4 q5
 have w1:Value.int .i64 (IntKind.i64.wrap (p+1))=Value.int .i64 (p+1):=ia (by omega) (by omega)
 have w2:Value.int .i64 (IntKind.i64.wrap ((↑(n+1):Int) - 1))=Value.int .i64 ((↑(n+1):Int) - 1):=ia (by omega) (by omega)
 have w3:(some (Value.int IntKind.i64 (↑n:Int)):Option Value)=some (Value.int IntKind.i64 ((↑(n+1):Int) - 1)):=by congr 2;omega
 have low: ∀ms':List cg,pushφ ⟨n,ms,p⟩ x ms'->DY [(0,eg (aZ 2 (n+1) ms'.length) (p+1)),(2,dK (aD ms') (ms'.length*4))]=true/\zn<=zn/\aq z zn:=fun _ _=>⟨rfl,Nat.le_refl _,hz⟩
 by_cases hlt:n<ms.length
 ·
  have hset: ∀k,hf (ms.set n ⟨x,p⟩) k=if k=n then ⟨x,p⟩ else hf ms k:=fun k=>by
   unfold hf
   rw[List.getElem?_set]
   by_cases e:n=k
   ·subst e;simp[hlt]
   ·have e': ¬k=n:=fun h=>e h.symm
    simp[e,e']
  have hU:IX dC (hf (ms.set n ⟨x,p⟩)) (n+1) n:=by
   rw[show hf (ms.set n ⟨x,p⟩)=fun k=>if k=n then ⟨x,p⟩ else hf ms k from funext hset]
   exact yi q2' _
  have hK:=zj hz (ms.set n ⟨x,p⟩) (n+1) n ms.length (ms.length*4) (p+1) (by omega) (by simp;omega) (by simp) (by omega) (by exact hU)
  have o1:=FZ (i:=n) hlt ⟨x,p⟩
  have l1:(aD (ms.set n ⟨x,p⟩)).length<=ms.length*4:=by rw[mM];simp
  refine fN (cT z) (fn:=Tryz.f275) (by kernel_rfl) (by kernel_rfl) hz ⟨by decide,by decide⟩ low (N:=100) ?_
  refine UR z zn n ms.length (ms.length*4) x p (aD ms) (aD (ms.set n ⟨x,p⟩)) (upφ (ms.set n ⟨x,p⟩) (n+1)) _ ?_
  (repeat' first|(with_reducible first|exact rfl|exact True.intro|assumption|apply And.intro|exact hz|exact w1|exact w2|exact w3|exact hK|exact o1|exact l1|exact aR _ _|exact(by omega:n+1<=ms.length))|exact(rfl:Int.ofNat _=_)|exact(rfl:gH _ _=_)|exact hz|exact w1|exact w2|exact w3|exact hK|exact o1|exact l1|exact aR _ _|exact(by omega:n+1<=ms.length)|intro hq)
  all_goals
   rename_i ms'
   obtain⟨k1,k2,k3⟩:=hq
   rw[List.length_set] at k1
   have hv: ∀v,gk (hf ms') (n+1) v↔v=⟨x,p⟩\/gk (hf ms) n v:=fun v=>(k3 v).trans (B3 (fun k hk=>by rw[hset,if_neg (by omega)]) (by rw[hset,if_pos rfl]) v)
   exact q2 ms' ⟨by show n+1<=ms'.length;omega,by show ms'.length<=ms.length+1;omega,k2,hv⟩ rfl rfl (by rw[←k1];rfl) rfl rfl
 ·have hn:n=ms.length:=by omega
  have hset: ∀k,hf (ms++[⟨x,p⟩]) k=if k=n then ⟨x,p⟩ else hf ms k:=fun k=>by
   unfold hf
   rw[List.getElem?_append]
   by_cases e:k=n
   ·subst e;rw[if_neg (by omega),if_pos rfl,hn];simp
   ·rw[if_neg e]
    by_cases e2:k<ms.length
    ·rw[if_pos e2]
    ·rw[if_neg e2,List.getElem?_eq_none (by omega:ms.length<=k),List.getElem?_eq_none (by simp;omega)]
  have hU:IX dC (hf (ms++[⟨x,p⟩])) (n+1) n:=by
   rw[show hf (ms++[⟨x,p⟩])=fun k=>if k=n then ⟨x,p⟩ else hf ms k from funext hset]
   exact yi q2' _
  have hK:=Gj hz (ms++[⟨x,p⟩]) (n+1) n (n+1) ((n+1)*4) (p+1) (by omega) (by simp;omega) (by simp;omega) (by omega) (by exact hU)
  have o1:aD ms++cg.row ⟨x,p⟩=aD (ms++[⟨x,p⟩]):=by
   show _=((ms++[(⟨x,p⟩:cg)]).map cg.row).flatten
   rw[List.map_append,List.flatten_append];rfl
  rw[←o1] at hK
  have l1:(aD ms).length=n*4:=by rw[mM,hn]
  have l2:ms.length*4=n*4:=by rw[hn]
  have r1:=aR (σ:=az [(0,0),(5,4)] []) (ms++[⟨x,p⟩]) ((n+1)*4)
  rw[←o1] at r1
  rw[show eg (aZ 1 n ms.length) p=eg (aZ 1 n n) p by rw[←hn]]
  refine fN (cT z) (fn:=Tryz.f275) (by kernel_rfl) (by kernel_rfl) hz ⟨by decide,by decide⟩ low (N:=100) ?_
  refine UQ z zn n (ms.length*4) x p (aD ms) (upφ (ms++[⟨x,p⟩]) (n+1)) _ ?_
  (repeat' first|(with_reducible first|exact rfl|exact True.intro|assumption|apply And.intro|exact hz|exact w1|exact w2|exact w3|exact hK|exact o1|exact l1|exact l2|exact r1|exact aR _ _|exact(by omega:n+1<=1048576))|exact(rfl:Int.ofNat _=_)|exact(rfl:gH _ _=_)|exact hz|exact w1|exact w2|exact w3|exact hK|exact o1|exact l1|exact l2|exact r1|exact aR _ _|exact(by omega:n+1<=1048576)|intro hq)
  all_goals
   rename_i ms'
   obtain⟨k1,k2,k3⟩:=hq
   rw[List.length_append,List.length_singleton,←hn] at k1
   have hv: ∀v,gk (hf ms') (n+1) v↔v=⟨x,p⟩\/gk (hf ms) n v:=fun v=>(k3 v).trans (B3 (fun k hk=>by rw[hset,if_neg (by omega)]) (by rw[hset,if_pos rfl]) v)
   exact q2 ms' ⟨by show n+1<=ms'.length;omega,by show ms'.length<=ms.length+1;omega,k2,hv⟩ rfl rfl (by rw[←k1];rfl) rfl rfl
theorem Oe(hz:aq z zn)(s:pR)(hs:uz s)(h1:1<=s.ms.length)(hp:s.p+1<=1000000)(x:cO):
 aM Tryz.prog z zn 275 [ip 0, .agg ⟨x.row⟩] [(0,tG 1 s),(1,vu s)] 2 3 (pushφ s x) (fun _=> .tuple ⟨[]⟩) (fun ms=>[(0,eg (aZ 2 (s.n+1) ms.length) (s.p+1)),(2,dK (aD ms) (ms.length*4))]):=KL hz s.n s.ms s.p hs h1 hp x
end
end Go.Proofs.Nw
