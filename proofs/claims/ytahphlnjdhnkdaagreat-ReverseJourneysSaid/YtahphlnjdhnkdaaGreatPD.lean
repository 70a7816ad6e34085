/-
  A part of the proof: lemmas of my own.
-/
import Derived.Test.YtahphlnjdhnkdaaGreatPC
import Derived.KernelRfl
import Derived.WalkKit
import Derived.Below
import Derived.Lib.Hide
import Derived.LoopTactic
import Derived.Laws.IdiomStrings
import Derived.Laws.StructEq
set_option linter.unusedVariables false
set_option linter.unusedSimpArgs false
namespace Go.Proofs.Nw
open Go Go.AV Tryz
set_option maxRecDepth 1000000
noncomputable section
abbrev VO(kk n i:Nat):List (Nat × Value):=[(0,dw kk n),(1,YM),(2,IV n),(3,ia),(8,IV i)]
noncomputable abbrev Sq:Code:=ah (ag f162) 0
theorem ji1(z:T aa)(zn kk n i j:Nat)(kb:aR)(x y:ab)(Q:QL)(hyp:Br (decide ((↑(j+1):Int)>0)) (Rf (↑(j+1):Int)/\j+1<n/\dC kk/\dJ z kk kb/\aq prog kb 141 (0+(j+1)*4)=some (Og y)/\WQ1 ((↑(j+1):Int) - 1)/\(↑(j+1):Int) - 1=(↑j:Int)/\j<n/\dC kk/\dJ z kk kb/\FD kb j x/\Rf z/\Z3 y x/\Value.bool (decide (sm y.fz1 y.aB y.aI x.fz1 x.aB x.aI<0))=F0/\E6 53 z zn (R5 (dw kk n) YM (IV n) ia (IV i) (Q Y8 (VO kk n i) [] 0 z zn))) (E6 53 z zn (R5 (dw kk n) YM (IV n) ia (IV i) (Q Y8 (VO kk n i) [] 0 z zn)))):RdT prog gS z (ah Sq 0) 53 (Gh (tb kk n n) n i (j+1)) z [] 0 zn 0 Q:=K1t hyp ((tA 4 (tO (An.idx (j+1)) (tA 1 (tO (An.ld kk kb (AG y.row)) (tA 3 (tO (An.val (ZV ((↑(j+1):Int) - 1))) (tA 1 (tO (Yj j) (tA 1 (tO (An.ld kk kb (AG x.row)) (tA 1 (tO (Z2 y x) (tA 1 (tO lj (tA 2 (tE [] [] (VO kk n i) [] 0 z zn)))))))))))))))).fork (tA 14 (tE [] [] (VO kk n i) [] 0 z zn)))
theorem ji0(z:T aa)(zn kk n i:Nat)(Q:QL)(hyp:Br (decide ((↑i:Int)<(↑n:Int))) (td/\ai prog (ah Sq 0) 0 53 (Gh (tb kk n n) n i i) [] 0 z zn (alt True (aA.mk Y8 (qx (tb kk n n) n i) [] 0 z zn) Al.nil).R/\E6 53 z zn (R6 (dw kk n) YM (IV n) ia (IV i) (IV i) (∀(x:Unit),True->ZV (IntKind.i64.wrap ((↑i:Int)+1))=IV (i+1)/\E6 53 z zn (R5 (dw kk n) YM (IV n) ia (IV (i+1)) (Q aN [(0,dw kk n),(1,YM),(2,IV n),(3,ia),CD i] [] 0 z zn))))) (E6 53 z zn (Q YO [] [] 0 z zn))):RdT prog gS z Sq 53 (qx (tb kk n n) n i) z [] 0 zn 0 Q:=K1t hyp ((tA 1 (Tr.lp 0 53 [] [] (Gh (tb kk n n) n i i) [] 0 z zn (Al.cons Unit Yy (fun(x:Unit)=>aA.mk Y8 (qx (tb kk n n) n i) [] 0 z zn) (fun(x:Unit)=>tO (Ym i) (tE [] [] [(0,dw kk n),(1,YM),(2,IV n),(3,ia),CD i] [] 0 z zn)) Al.nil))).fork (Sa z zn))
theorem X5(z:T aa)(zn:Nat)(Q:QL)(hyp:E6 53 z zn (Q YO [] [] 0 z zn)):RdT prog gS z Sq 53 (qx ak 0 1) z [] 0 zn 0 Q:=K1t hyp (tA 2 (tE [] [] [] [] 0 z zn))
noncomputable abbrev U7(z:T aa)(zn:Nat):Unit->Tr:=fun(x:Unit)=>tR [] [] oK [] 0 z zn
theorem ji(z:T aa)(zn kk n:Nat)(Q:QF)(hyp:td/\ai prog Sq 0 53 (qx (tb kk n n) n 1) [] 0 z zn (WC z zn)/\E6 53 z zn (R5 (dw kk n) YM (IV n) ia ig (∀(x:Unit),True->E6 53 z zn (mU/\Q oK [] 0 z zn)))):FnT prog gS z f162 [tb kk n n,YM,iv n,iU] z [] 0 zn Q:=K1t hyp (tA 1 (Tr.lp 0 53 [] [] (qx (tb kk n n) n 1) [] 0 z zn (Al.cons Unit Yy (R9 z zn) (U7 z zn) Al.nil)))
theorem jiz(z:T aa)(zn:Nat)(Q:QF)(hyp:td/\ai prog Sq 0 53 (qx ak 0 1) [] 0 z zn (WC z zn)/\E6 53 z zn (R5 Y5 YM YM ia ig (∀(x:Unit),True->E6 53 z zn (mU/\Q oK [] 0 z zn)))):FnT prog gS z f162 [ak,YM,iv 0,iU] z [] 0 zn Q:=K1t hyp (tA 1 (Tr.lp 0 53 [] [] (qx ak 0 1) [] 0 z zn (Al.cons Unit Yy (R9 z zn) (U7 z zn) Al.nil)))
noncomputable abbrev VN:Code:=ah (ag f269) 0
theorem jq1(z:T aa)(zn kk n i:Nat)(kb:aR)(x y:ab)(Q:QL)(hyp:Br (decide ((↑(i+1):Int)<(↑n:Int))) (Rf (↑(i+1):Int)/\i+1<n/\dC kk/\dJ z kk kb/\aq prog kb 141 (0+(i+1)*4)=some (Og y)/\WQ1 ((↑(i+1):Int) - 1)/\(↑(i+1):Int) - 1=(↑i:Int)/\i<n/\dC kk/\dJ z kk kb/\FD kb i x/\Rf z/\Z3 y x/\Value.bool (decide (sm y.fz1 y.aB y.aI x.fz1 x.aB x.aI<0))=F0/\ZV (IntKind.i64.wrap ((↑(i+1):Int)+1))=IV (i+1+1)/\E6 141 z zn (R6 (dw kk n) YM (IV n) ia (IV (i+1+1)) YM (Q aN [(0,dw kk n),(1,YM),(2,IV n),(3,ia),(9,IV (i+1+1)),(10,YM)] [] 0 z zn))) (E6 141 z zn (R6 (dw kk n) YM (IV n) ia (IV (i+1)) YM (Q Y8 [(0,dw kk n),(1,YM),(2,IV n),(3,ia),Hi i,(10,YM)] [] 0 z zn)))):RdT prog gS z (ah VN 0) 141 (jS kk n (i+1) 0) z [] 0 zn 0 Q:=K1t hyp ((tA 4 (tO (An.idx (i+1)) (tA 1 (tO (An.ld kk kb (AG y.row)) (tA 3 (tO (An.val (ZV ((↑(i+1):Int) - 1))) (tA 1 (tO (Yj i) (tA 1 (tO (An.ld kk kb (AG x.row)) (tA 1 (tO (Z2 y x) (tA 1 (tO lj (tA 3 (tO (An.val (IV (i+1+1))) (tE [] [] [(0,dw kk n),(1,YM),(2,IV n),(3,ia),(9,IV (i+1+1)),(10,YM)] [] 0 z zn))))))))))))))))).fork (tA 15 (tE [] [] [(0,dw kk n),(1,YM),(2,IV n),(3,ia),Hi i,(10,YM)] [] 0 z zn)))
theorem jq0(z:T aa)(zn kk n:Nat)(Q:QL)(hyp:td/\ai prog (ah VN 0) 0 141 (jS kk n 1 0) [] 0 z zn (alt True (aA.mk Y8 (jS kk n n 0) [] 0 z zn) Al.nil).R/\E6 141 z zn (R6 (dw kk n) YM (IV n) ia ig YM (∀(x:Unit),True->Value.bool ((↑n:Int)==(↑n:Int))=T1/\E6 141 z zn (YA/\Q af.ret [(8,T1)] [] 0 z zn)))):RdT prog gS z VN 141 (jS kk n 1 0) z [] 0 zn 0 Q:=K1t hyp (tA 2 (Tr.lp 0 141 [] [] (jS kk n 1 0) [] 0 z zn (Al.cons Unit Yy (fun(x:Unit)=>aA.mk Y8 (jS kk n n 0) [] 0 z zn) (fun(x:Unit)=>tO mC (tA 1 (tE [] [] [(8,T1)] [] 0 z zn))) Al.nil)))
theorem jq(z:T aa)(zn kk n:Nat)(Q:QF)(hyp:td/\ai prog VN 0 141 (jS kk n 1 0) [] 0 z zn (alt True (aA.mk af.ret [(8,T1)] [] 0 z zn) Al.nil).R/\E6 141 z zn (R6 (dw kk n) YM (IV n) ia ig YM (∀(x:Unit),True->E6 141 z zn (YA/\Q T1 [] 0 z zn)))):FnT prog gS z f269 [tb kk n n,YM,iv n,iU] z [] 0 zn Q:=K1t hyp (tA 1 (Tr.lp 0 141 [] [] (jS kk n 1 0) [] 0 z zn (Al.cons Unit Yy (fun(x:Unit)=>aA.mk af.ret [(8,T1)] [] 0 z zn) (S1 z zn) Al.nil)))
abbrev Oa(kk n:Nat):List Value:=[dw kk n,YM,IV n,ia]
abbrev pM:Unit->Value:=fun(x:Unit)=>T1
noncomputable abbrev VM:Code:=ah (ag f254) 0
theorem jp0(z:T aa)(zn kk n l p:Nat)(Q:QL)(hyp:WQ1 ((↑n:Int) - 0)/\Br (decide ((↑n:Int) - 0<=12)) (aP prog z zn 162 (Oa kk n) [] 0 0 Yy mT bQ/\Rs (Oa kk n)/\ ∀(x:Unit),True->mU/\E6 148 z zn (Q af.ret [] [] 0 z zn)) (Value.bool ((↑l:Int)==0)=F0/\aP prog z zn 267 (Oa kk n) [] 0 1 Yy (fun(x:Unit)=>TP [iv p,ig]) bQ/\Rs (Oa kk n)/\ ∀(x:Unit),True->Rs (TP [IV p,ig])/\aP prog z zn 269 (Oa kk n) [] 0 0 Yy pM bQ/\Rs (Oa kk n)/\ ∀(x:Unit),True->YA/\E6 148 z zn (Q af.ret [] [] 0 z zn))):RdT prog gS z VM 148 (vg (tb kk n n) n l) z [] 0 zn 0 Q:=K1t hyp (tO (An.val (ZV ((↑n:Int) - 0))) ((tA 1 (Tr.cm (Cm.mk (Oa kk n) [] 0 0 [] [] 0) Unit Yy mT bQ mT bQ (eG z) (eF zn) fun(x:Unit)=>tE [] [] [] [] 0 z zn)).fork (tA 1 (tO lj (tA 2 (Tr.cm (Cm.mk (Oa kk n) [] 0 1 [] YC 1) Unit Yy (fun(x:Unit)=>TP [iv p,ig]) bQ (fun(x:Unit)=>TP [IV p,ig]) bQ (eG z) (eF zn) fun(x:Unit)=>tA 9 (Tr.cm (Cm.mk (Oa kk n) [] 0 0 [] [] 1) Unit Yy pM bQ pM bQ (eG z) (eF zn) fun(x:Unit)=>Sa z zn)))))))
theorem X2(z:T aa)(zn l:Nat)(Q:QL)(hyp:aP prog z zn 162 [Y5,YM,YM,ia] [] 0 0 Yy mT bQ/\Rs [Y5,YM,YM,ia]/\ ∀(x:Unit),True->mU/\E6 148 z zn (Q af.ret [] [] 0 z zn)):RdT prog gS z VM 148 (vg ak 0 l) z [] 0 zn 0 Q:=K1t hyp (tA 3 (Tr.cm (Cm.mk [Y5,YM,YM,ia] [] 0 0 [] [] 0) Unit Yy mT bQ mT bQ (eG z) (eF zn) fun(x:Unit)=>tE [] [] [] [] 0 z zn))
noncomputable abbrev YIl(z:T aa)(zn:Nat):Al:=Al.cons Unit Yy (fun(x:Unit)=>aA.mk af.ret [] [] 0 z zn) (U7 z zn) Al.nil
theorem jp(z:T aa)(zn n l kk:Nat)(Q:QF)(hyp:td/\ai prog VM 0 148 (vg (tb kk n n) n l) [] 0 z zn (alt True (aA.mk af.ret [] [] 0 z zn) Al.nil).R/\E6 148 z zn (R7 (dw kk n) YM (IV n) (IV l) ia T1 T1 (∀(x:Unit),True->E6 148 z zn (mU/\Q oK [] 0 z zn)))):FnT prog gS z f254 [tb kk n n,YM,iv n,iv l,iU] z [] 0 zn Q:=K1t hyp (Tr.lp 0 148 [] [] (vg (tb kk n n) n l) [] 0 z zn (YIl z zn))
theorem jpz(z:T aa)(zn l:Nat)(Q:QF)(hyp:td/\ai prog VM 0 148 (vg ak 0 l) [] 0 z zn (alt True (aA.mk af.ret [] [] 0 z zn) Al.nil).R/\E6 148 z zn (R7 Y5 YM YM (IV l) ia T1 T1 (∀(x:Unit),True->E6 148 z zn (mU/\Q oK [] 0 z zn)))):FnT prog gS z f254 [ak,YM,iv 0,iv l,iU] z [] 0 zn Q:=K1t hyp (Tr.lp 0 148 [] [] (vg ak 0 l) [] 0 z zn (YIl z zn))
abbrev ZZ(n:Nat):List Value:=[Value.int IntKind.u64 (IntKind.u64.wrap (↑n:Int))]
theorem js(z:T aa)(zn kk n l:Nat)(Q:QF)(hyp:aP prog z zn 78 (ZZ n) [] 0 0 Yy (SK l) bQ/\Rs (ZZ n)/\ ∀(x:Unit),True->Rs (IV l)/\aP prog z zn 254 [dw kk n,YM,IV n,IV l,ia] [] 0 0 Yy mT bQ/\Rs [dw kk n,YM,IV n,IV l,ia]/\ ∀(x:Unit),True->mU/\E6 14 z zn (mU/\Q oK [] 0 z zn)):FnT prog gS z f221 [tb kk n n,iU] z [] 0 zn Q:=K1t hyp (Tr.cm (Cm.mk (ZZ n) [] 0 0 [] [] 0) Unit Yy (SK l) bQ (fun(x:Unit)=>IV l) bQ (eG z) (eF zn) fun(x:Unit)=>Tr.cm (Cm.mk [dw kk n,YM,IV n,IV l,ia] [] 0 0 [] [] 0) Unit Yy mT bQ mT bQ (eG z) (eF zn) (U7 z zn))
abbrev ZY:List Value:=[Value.int IntKind.u64 0]
theorem jsz(z:T aa)(zn l:Nat)(Q:QF)(hyp:aP prog z zn 78 ZY [] 0 0 Yy (SK l) bQ/\Rs ZY/\ ∀(x:Unit),True->Rs (IV l)/\aP prog z zn 254 [Y5,YM,YM,IV l,ia] [] 0 0 Yy mT bQ/\Rs [Y5,YM,YM,IV l,ia]/\ ∀(x:Unit),True->mU/\E6 14 z zn (mU/\Q oK [] 0 z zn)):FnT prog gS z f221 [ak,iU] z [] 0 zn Q:=K1t hyp (Tr.cm (Cm.mk ZY [] 0 0 [] [] 0) Unit Yy (SK l) bQ (fun(x:Unit)=>IV l) bQ (eG z) (eF zn) fun(x:Unit)=>Tr.cm (Cm.mk [Y5,YM,YM,IV l,ia] [] 0 0 [] [] 0) Unit Yy mT bQ mT bQ (eG z) (eF zn) (U7 z zn))
end
noncomputable section
abbrev ZX(N:aw):List (Nat × aa):=[(0,N.cC ak N.l0),oY,(2,bs [])]
theorem ruz(z:T aa)(zn:Nat)(N:aw)(Q:QL)(hyp:E6 96 z zn (jZ/\ud/\Q YO fD [re] 3 z zn)):RdT prog gP z WS 96 F9 z (ZX N) 3 zn 3 Q:=K1t hyp (tA 2 (tE g9 [] fD [re] 3 z zn))
theorem fuz(z:T aa)(zn:Nat)(N:aw)(Q:QF)(hyp:zU/\ai prog WS 3 96 F9 (ZX N) 3 z zn (alt True (aA.mk YO [(2,ip 1)] [oY] 3 z zn) Al.nil).R/\E6 96 z zn (R6 bh dr (MP 2) Y5 YM YM (KO rf (BQ [Cj N,Ci N,Y5,Vj N,R0 N,Lt N,ZV N.d,ZV N.w,ZV N.c] 9 1 31)/\ud/\Ys/\ ∀(x:Unit),True->E6 96 z zn (Rs ym/\Q ym [] 0 z zn)))):FnT prog gP z f83 [AG (N.dX ak N.l0)] z [] 0 zn Q:=K1t hyp (tA 4 (Tr.lp 3 96 ib [] F9 (ZX N) 3 z zn (Al.cons Unit Yy (fun(x:Unit)=>aA.mk YO [(2,ip 1)] [oY] 3 z zn) (WR z zn) Al.nil)))
end
noncomputable section
noncomputable abbrev YIp(N:aw)(a b c:Int)(z:T aa)(zn:Nat):Tr:=tA 1 (Tr.cm (Cm.mk (CB N) [] 0 0 [] [] 1) Unit Yy (fun(x:Unit)=>TP [zv a,zv b,zv c]) bQ (fun(x:Unit)=>TP [ZV a,ZV b,ZV c]) bQ (eG z) (eF zn) fun(x:Unit)=>(tR [] [] T1 [] 0 z zn).fork (ue z zn))
theorem qvl(z:T aa)(zn:Nat)(N:aw)(a b c:Int)(Q:QF)(hyp:aP prog z zn 42 (CB N) [] 0 0 Yy (fun(x:Unit)=>TP [zv a,zv b,zv c]) bQ/\HI N/\ ∀(x:Unit),True->Rs (TP [ZV a,ZV b,ZV c])/\Br (c==0) (E6 14 z zn (YA/\Q T1 [] 0 z zn)) (E6 14 z zn (YQ/\Q F0 [] 0 z zn))):FnT prog jo z f23 [AG N.cells] z [] 0 zn Q:=K1t hyp (YIp N a b c z zn)
end
end Go.Proofs.Nw
namespace Go.Proofs.Nw
open Go.RowKit Tryz
set_option maxRecDepth 1000000
theorem EX(s:ByteArray)(k:Nat)(h:k<s.size):(s.data.toList.drop k).all mJ=(mJ (s[k]'h) && (s.data.toList.drop (k+1)).all mJ):=by
 have e:s.data.toList.drop k=(s[k]'h)::s.data.toList.drop (k+1):=by rw[List.drop_eq_getElem_cons (by simpa using h)];rfl
 rw[e];rfl
theorem Jp(s:ByteArray)(k:Nat)(h:s.size<=k):(s.data.toList.drop k).all mJ=true:=by
 rw[List.drop_of_length_le (by simpa using h)];rfl
theorem fP(c:UInt8):mJ c=true↔((97<=c.toNat/\c.toNat<=122)\/(65<=c.toNat/\c.toNat<=90)\/(48<=c.toNat/\c.toNat<=57)\/c.toNat=45\/c.toNat=95\/c.toNat=46):=by
 simp[mJ,or_assoc]
theorem dx(c:UInt8):mJ c=false↔ ¬((97<=c.toNat/\c.toNat<=122)\/(65<=c.toNat/\c.toNat<=90)\/(48<=c.toNat/\c.toNat<=57)\/c.toNat=45\/c.toNat=95\/c.toNat=46):=by
 rw[←fP];simp
set_option maxHeartbeats 8000000 in
theorem PD(s:ByteArray)(w:World)(hs:s.size<=9223372036854775807):Calls prog 128 #[.string s] w fun e w'=>e= .returned (.bool (bS s))/\w=w':=by
 go_enter func128,ntmps128
 go_wp2
 go_loop [3] (fun i=> ∃k:Nat,k<=s.size/\i= .int .i64 k/\(s.data.toList.drop k).all mJ=s.data.toList.all mJ) (fun i=>s.size - (intOf i).toNat)
 case atStart=>exact⟨0,Nat.zero_le _,rfl,rfl⟩
 case round=>
  obtain⟨k,hk,rfl,hv⟩:=hrel
  have HV:=Lib.hid hv
  clear hv
  by_cases hlt:k<s.size
  ·have HD:=Lib.hid (EX s k hlt)
   have hb:(s[k]'hlt).toNat<256:=(s[k]'hlt).toNat_lt
   have hcat:(0<=(s[k]'hlt).toNat/\(s[k]'hlt).toNat<=44)\/(45<=(s[k]'hlt).toNat/\(s[k]'hlt).toNat<=45)\/(46<=(s[k]'hlt).toNat/\(s[k]'hlt).toNat<=46)\/(47<=(s[k]'hlt).toNat/\(s[k]'hlt).toNat<=47)\/(48<=(s[k]'hlt).toNat/\(s[k]'hlt).toNat<=57)\/(58<=(s[k]'hlt).toNat/\(s[k]'hlt).toNat<=64)\/(65<=(s[k]'hlt).toNat/\(s[k]'hlt).toNat<=90)\/(91<=(s[k]'hlt).toNat/\(s[k]'hlt).toNat<=94)\/(95<=(s[k]'hlt).toNat/\(s[k]'hlt).toNat<=95)\/(96<=(s[k]'hlt).toNat/\(s[k]'hlt).toNat<=96)\/(97<=(s[k]'hlt).toNat/\(s[k]'hlt).toNat<=122)\/(123<=(s[k]'hlt).toNat/\(s[k]'hlt).toNat<=255):=by omega
   rcases hcat with hcat|hcat|hcat|hcat|hcat|hcat|hcat|hcat|hcat|hcat|hcat|hcat
   ·have x0: ¬97<=(s[k]'hlt).toNat:=by omega
    have y0: ¬(97:Int)<=(((s[k]'hlt).toNat:Nat):Int):=by omega
    have x1: ¬65<=(s[k]'hlt).toNat:=by omega
    have y1: ¬(65:Int)<=(((s[k]'hlt).toNat:Nat):Int):=by omega
    have x2: ¬48<=(s[k]'hlt).toNat:=by omega
    have y2: ¬(48:Int)<=(((s[k]'hlt).toNat:Nat):Int):=by omega
    have e45: ¬(s[k]'hlt).toNat=45:=by omega
    have f45: ¬(((s[k]'hlt).toNat:Nat):Int)=45:=by omega
    have e95: ¬(s[k]'hlt).toNat=95:=by omega
    have f95: ¬(((s[k]'hlt).toNat:Nat):Int)=95:=by omega
    have e46: ¬(s[k]'hlt).toNat=46:=by omega
    have f46: ¬(((s[k]'hlt).toNat:Nat):Int)=46:=by omega
    have OK:=Lib.hid (show mJ (s[k]'hlt)=false by rw[dx];omega)
    have HR:=Lib.hid (show bS s=false by unfold bS;rw[←HV.out,HD.out,OK.out];simp)
    go_wp2
    go_ret
    exact⟨by rw[HR.out];rfl,rfl⟩
   ·have x0: ¬97<=(s[k]'hlt).toNat:=by omega
    have y0: ¬(97:Int)<=(((s[k]'hlt).toNat:Nat):Int):=by omega
    have x1: ¬65<=(s[k]'hlt).toNat:=by omega
    have y1: ¬(65:Int)<=(((s[k]'hlt).toNat:Nat):Int):=by omega
    have x2: ¬48<=(s[k]'hlt).toNat:=by omega
    have y2: ¬(48:Int)<=(((s[k]'hlt).toNat:Nat):Int):=by omega
    have e45:(s[k]'hlt).toNat=45:=by omega
    have f45:(((s[k]'hlt).toNat:Nat):Int)=45:=by omega
    have e95: ¬(s[k]'hlt).toNat=95:=by omega
    have f95: ¬(((s[k]'hlt).toNat:Nat):Int)=95:=by omega
    have e46: ¬(s[k]'hlt).toNat=46:=by omega
    have f46: ¬(((s[k]'hlt).toNat:Nat):Int)=46:=by omega
    have OK:=Lib.hid (show mJ (s[k]'hlt)=true by rw[fP];omega)
    go_wp2
    exact⟨⟨k+1,by omega,by simp,by rw[←HV.out,HD.out,OK.out,Bool.true_and]⟩,by simp[intOf];omega⟩
   ·have x0: ¬97<=(s[k]'hlt).toNat:=by omega
    have y0: ¬(97:Int)<=(((s[k]'hlt).toNat:Nat):Int):=by omega
    have x1: ¬65<=(s[k]'hlt).toNat:=by omega
    have y1: ¬(65:Int)<=(((s[k]'hlt).toNat:Nat):Int):=by omega
    have x2: ¬48<=(s[k]'hlt).toNat:=by omega
    have y2: ¬(48:Int)<=(((s[k]'hlt).toNat:Nat):Int):=by omega
    have e45: ¬(s[k]'hlt).toNat=45:=by omega
    have f45: ¬(((s[k]'hlt).toNat:Nat):Int)=45:=by omega
    have e95: ¬(s[k]'hlt).toNat=95:=by omega
    have f95: ¬(((s[k]'hlt).toNat:Nat):Int)=95:=by omega
    have e46:(s[k]'hlt).toNat=46:=by omega
    have f46:(((s[k]'hlt).toNat:Nat):Int)=46:=by omega
    have OK:=Lib.hid (show mJ (s[k]'hlt)=true by rw[fP];omega)
    go_wp2
    exact⟨⟨k+1,by omega,by simp,by rw[←HV.out,HD.out,OK.out,Bool.true_and]⟩,by simp[intOf];omega⟩
   ·have x0: ¬97<=(s[k]'hlt).toNat:=by omega
    have y0: ¬(97:Int)<=(((s[k]'hlt).toNat:Nat):Int):=by omega
    have x1: ¬65<=(s[k]'hlt).toNat:=by omega
    have y1: ¬(65:Int)<=(((s[k]'hlt).toNat:Nat):Int):=by omega
    have x2: ¬48<=(s[k]'hlt).toNat:=by omega
    have y2: ¬(48:Int)<=(((s[k]'hlt).toNat:Nat):Int):=by omega
    have e45: ¬(s[k]'hlt).toNat=45:=by omega
    have f45: ¬(((s[k]'hlt).toNat:Nat):Int)=45:=by omega
    have e95: ¬(s[k]'hlt).toNat=95:=by omega
    have f95: ¬(((s[k]'hlt).toNat:Nat):Int)=95:=by omega
    have e46: ¬(s[k]'hlt).toNat=46:=by omega
    have f46: ¬(((s[k]'hlt).toNat:Nat):Int)=46:=by omega
    have OK:=Lib.hid (show mJ (s[k]'hlt)=false by rw[dx];omega)
    have HR:=Lib.hid (show bS s=false by unfold bS;rw[←HV.out,HD.out,OK.out];simp)
    go_wp2
    go_ret
    exact⟨by rw[HR.out];rfl,rfl⟩
   ·have x0: ¬97<=(s[k]'hlt).toNat:=by omega
    have y0: ¬(97:Int)<=(((s[k]'hlt).toNat:Nat):Int):=by omega
    have x1: ¬65<=(s[k]'hlt).toNat:=by omega
    have y1: ¬(65:Int)<=(((s[k]'hlt).toNat:Nat):Int):=by omega
    have x2:48<=(s[k]'hlt).toNat:=by omega
    have y2:(48:Int)<=(((s[k]'hlt).toNat:Nat):Int):=by omega
    have x3:(s[k]'hlt).toNat<=57:=by omega
    have y3:(((s[k]'hlt).toNat:Nat):Int)<=(57:Int):=by omega
    have OK:=Lib.hid (show mJ (s[k]'hlt)=true by rw[fP];omega)
    go_wp2
    exact⟨⟨k+1,by omega,by simp,by rw[←HV.out,HD.out,OK.out,Bool.true_and]⟩,by simp[intOf];omega⟩
   ·have x0: ¬97<=(s[k]'hlt).toNat:=by omega
    have y0: ¬(97:Int)<=(((s[k]'hlt).toNat:Nat):Int):=by omega
    have x1: ¬65<=(s[k]'hlt).toNat:=by omega
    have y1: ¬(65:Int)<=(((s[k]'hlt).toNat:Nat):Int):=by omega
    have x2:48<=(s[k]'hlt).toNat:=by omega
    have y2:(48:Int)<=(((s[k]'hlt).toNat:Nat):Int):=by omega
    have x3: ¬(s[k]'hlt).toNat<=57:=by omega
    have y3: ¬(((s[k]'hlt).toNat:Nat):Int)<=(57:Int):=by omega
    have e45: ¬(s[k]'hlt).toNat=45:=by omega
    have f45: ¬(((s[k]'hlt).toNat:Nat):Int)=45:=by omega
    have e95: ¬(s[k]'hlt).toNat=95:=by omega
    have f95: ¬(((s[k]'hlt).toNat:Nat):Int)=95:=by omega
    have e46: ¬(s[k]'hlt).toNat=46:=by omega
    have f46: ¬(((s[k]'hlt).toNat:Nat):Int)=46:=by omega
    have OK:=Lib.hid (show mJ (s[k]'hlt)=false by rw[dx];omega)
    have HR:=Lib.hid (show bS s=false by unfold bS;rw[←HV.out,HD.out,OK.out];simp)
    go_wp2
    go_ret
    exact⟨by rw[HR.out];rfl,rfl⟩
   ·have x0: ¬97<=(s[k]'hlt).toNat:=by omega
    have y0: ¬(97:Int)<=(((s[k]'hlt).toNat:Nat):Int):=by omega
    have x1:65<=(s[k]'hlt).toNat:=by omega
    have y1:(65:Int)<=(((s[k]'hlt).toNat:Nat):Int):=by omega
    have x2:(s[k]'hlt).toNat<=90:=by omega
    have y2:(((s[k]'hlt).toNat:Nat):Int)<=(90:Int):=by omega
    have OK:=Lib.hid (show mJ (s[k]'hlt)=true by rw[fP];omega)
    go_wp2
    exact⟨⟨k+1,by omega,by simp,by rw[←HV.out,HD.out,OK.out,Bool.true_and]⟩,by simp[intOf];omega⟩
   ·have x0: ¬97<=(s[k]'hlt).toNat:=by omega
    have y0: ¬(97:Int)<=(((s[k]'hlt).toNat:Nat):Int):=by omega
    have x1:65<=(s[k]'hlt).toNat:=by omega
    have y1:(65:Int)<=(((s[k]'hlt).toNat:Nat):Int):=by omega
    have x2: ¬(s[k]'hlt).toNat<=90:=by omega
    have y2: ¬(((s[k]'hlt).toNat:Nat):Int)<=(90:Int):=by omega
    have x3:48<=(s[k]'hlt).toNat:=by omega
    have y3:(48:Int)<=(((s[k]'hlt).toNat:Nat):Int):=by omega
    have x4: ¬(s[k]'hlt).toNat<=57:=by omega
    have y4: ¬(((s[k]'hlt).toNat:Nat):Int)<=(57:Int):=by omega
    have e45: ¬(s[k]'hlt).toNat=45:=by omega
    have f45: ¬(((s[k]'hlt).toNat:Nat):Int)=45:=by omega
    have e95: ¬(s[k]'hlt).toNat=95:=by omega
    have f95: ¬(((s[k]'hlt).toNat:Nat):Int)=95:=by omega
    have e46: ¬(s[k]'hlt).toNat=46:=by omega
    have f46: ¬(((s[k]'hlt).toNat:Nat):Int)=46:=by omega
    have OK:=Lib.hid (show mJ (s[k]'hlt)=false by rw[dx];omega)
    have HR:=Lib.hid (show bS s=false by unfold bS;rw[←HV.out,HD.out,OK.out];simp)
    go_wp2
    go_ret
    exact⟨by rw[HR.out];rfl,rfl⟩
   ·have x0: ¬97<=(s[k]'hlt).toNat:=by omega
    have y0: ¬(97:Int)<=(((s[k]'hlt).toNat:Nat):Int):=by omega
    have x1:65<=(s[k]'hlt).toNat:=by omega
    have y1:(65:Int)<=(((s[k]'hlt).toNat:Nat):Int):=by omega
    have x2: ¬(s[k]'hlt).toNat<=90:=by omega
    have y2: ¬(((s[k]'hlt).toNat:Nat):Int)<=(90:Int):=by omega
    have x3:48<=(s[k]'hlt).toNat:=by omega
    have y3:(48:Int)<=(((s[k]'hlt).toNat:Nat):Int):=by omega
    have x4: ¬(s[k]'hlt).toNat<=57:=by omega
    have y4: ¬(((s[k]'hlt).toNat:Nat):Int)<=(57:Int):=by omega
    have e45: ¬(s[k]'hlt).toNat=45:=by omega
    have f45: ¬(((s[k]'hlt).toNat:Nat):Int)=45:=by omega
    have e95:(s[k]'hlt).toNat=95:=by omega
    have f95:(((s[k]'hlt).toNat:Nat):Int)=95:=by omega
    have e46: ¬(s[k]'hlt).toNat=46:=by omega
    have f46: ¬(((s[k]'hlt).toNat:Nat):Int)=46:=by omega
    have OK:=Lib.hid (show mJ (s[k]'hlt)=true by rw[fP];omega)
    go_wp2
    exact⟨⟨k+1,by omega,by simp,by rw[←HV.out,HD.out,OK.out,Bool.true_and]⟩,by simp[intOf];omega⟩
   ·have x0: ¬97<=(s[k]'hlt).toNat:=by omega
    have y0: ¬(97:Int)<=(((s[k]'hlt).toNat:Nat):Int):=by omega
    have x1:65<=(s[k]'hlt).toNat:=by omega
    have y1:(65:Int)<=(((s[k]'hlt).toNat:Nat):Int):=by omega
    have x2: ¬(s[k]'hlt).toNat<=90:=by omega
    have y2: ¬(((s[k]'hlt).toNat:Nat):Int)<=(90:Int):=by omega
    have x3:48<=(s[k]'hlt).toNat:=by omega
    have y3:(48:Int)<=(((s[k]'hlt).toNat:Nat):Int):=by omega
    have x4: ¬(s[k]'hlt).toNat<=57:=by omega
    have y4: ¬(((s[k]'hlt).toNat:Nat):Int)<=(57:Int):=by omega
    have e45: ¬(s[k]'hlt).toNat=45:=by omega
    have f45: ¬(((s[k]'hlt).toNat:Nat):Int)=45:=by omega
    have e95: ¬(s[k]'hlt).toNat=95:=by omega
    have f95: ¬(((s[k]'hlt).toNat:Nat):Int)=95:=by omega
    have e46: ¬(s[k]'hlt).toNat=46:=by omega
    have f46: ¬(((s[k]'hlt).toNat:Nat):Int)=46:=by omega
    have OK:=Lib.hid (show mJ (s[k]'hlt)=false by rw[dx];omega)
    have HR:=Lib.hid (show bS s=false by unfold bS;rw[←HV.out,HD.out,OK.out];simp)
    go_wp2
    go_ret
    exact⟨by rw[HR.out];rfl,rfl⟩
   ·have x0:97<=(s[k]'hlt).toNat:=by omega
    have y0:(97:Int)<=(((s[k]'hlt).toNat:Nat):Int):=by omega
    have x1:(s[k]'hlt).toNat<=122:=by omega
    have y1:(((s[k]'hlt).toNat:Nat):Int)<=(122:Int):=by omega
    have OK:=Lib.hid (show mJ (s[k]'hlt)=true by rw[fP];omega)
    go_wp2
    exact⟨⟨k+1,by omega,by simp,by rw[←HV.out,HD.out,OK.out,Bool.true_and]⟩,by simp[intOf];omega⟩
   ·have x0:97<=(s[k]'hlt).toNat:=by omega
    have y0:(97:Int)<=(((s[k]'hlt).toNat:Nat):Int):=by omega
    have x1: ¬(s[k]'hlt).toNat<=122:=by omega
    have y1: ¬(((s[k]'hlt).toNat:Nat):Int)<=(122:Int):=by omega
    have x2:65<=(s[k]'hlt).toNat:=by omega
    have y2:(65:Int)<=(((s[k]'hlt).toNat:Nat):Int):=by omega
    have x3: ¬(s[k]'hlt).toNat<=90:=by omega
    have y3: ¬(((s[k]'hlt).toNat:Nat):Int)<=(90:Int):=by omega
    have x4:48<=(s[k]'hlt).toNat:=by omega
    have y4:(48:Int)<=(((s[k]'hlt).toNat:Nat):Int):=by omega
    have x5: ¬(s[k]'hlt).toNat<=57:=by omega
    have y5: ¬(((s[k]'hlt).toNat:Nat):Int)<=(57:Int):=by omega
    have e45: ¬(s[k]'hlt).toNat=45:=by omega
    have f45: ¬(((s[k]'hlt).toNat:Nat):Int)=45:=by omega
    have e95: ¬(s[k]'hlt).toNat=95:=by omega
    have f95: ¬(((s[k]'hlt).toNat:Nat):Int)=95:=by omega
    have e46: ¬(s[k]'hlt).toNat=46:=by omega
    have f46: ¬(((s[k]'hlt).toNat:Nat):Int)=46:=by omega
    have OK:=Lib.hid (show mJ (s[k]'hlt)=false by rw[dx];omega)
    have HR:=Lib.hid (show bS s=false by unfold bS;rw[←HV.out,HD.out,OK.out];simp)
    go_wp2
    go_ret
    exact⟨by rw[HR.out];rfl,rfl⟩
  ·have he:s.data.toList.all mJ=true:=by rw[←HV.out];exact Jp s k (by omega)
   by_cases h0:0<s.size
   ·by_cases h1:s.size<=32
    ·have HR:=Lib.hid (show bS s=true by unfold bS;rw[he];simp[h0,h1])
     clear he
     have h0':(0:Int)<(s.size:Int):=by omega
     have h1':(s.size:Int)<=32:=by omega
     go_wp2
     go_ret
     exact⟨by rw[HR.out];rfl,rfl⟩
    ·have HR:=Lib.hid (show bS s=false by unfold bS;rw[he];simp[h0,h1])
     clear he
     have h0':(0:Int)<(s.size:Int):=by omega
     have h1': ¬(s.size:Int)<=32:=by omega
     go_wp2
     go_ret
     exact⟨by rw[HR.out];rfl,rfl⟩
   ·have HR:=Lib.hid (show bS s=false by unfold bS;rw[he];simp[h0])
    clear he
    have h0': ¬(0:Int)<(s.size:Int):=by omega
    go_wp2
    go_ret
    exact⟨by rw[HR.out];rfl,rfl⟩
set_option maxHeartbeats 8000000 in
theorem PC(s:ByteArray)(w:World)(hs:s.size<=9223372036854775807):Calls prog 135 #[.string s] w fun e w'=>e= .returned (.bool (bS s))/\w=w':=by
 by_cases h0:0<s.size
 case neg=>
  have HR:=Lib.hid (show bS s=false by unfold bS;simp[h0])
  have h0':(s.size:Int)<1:=by omega
  go_enter func135,ntmps135
  go_wp2
  go_ret
  exact⟨by rw[HR.out];rfl,rfl⟩
 by_cases h1:s.size<=32
 case neg=>
  have HR:=Lib.hid (show bS s=false by unfold bS;simp[h1])
  have h0': ¬(s.size:Int)<1:=by omega
  have h1':(32:Int)<(s.size:Int):=by omega
  go_enter func135,ntmps135
  go_wp2
  go_ret
  exact⟨by rw[HR.out];rfl,rfl⟩
 have h0': ¬(s.size:Int)<1:=by omega
 have h1': ¬(32:Int)<(s.size:Int):=by omega
 go_enter func135,ntmps135
 go_wp2
 go_loop [3] (fun i=> ∃k:Nat,k<=s.size/\i= .int .i64 k/\(s.data.toList.drop k).all mJ=s.data.toList.all mJ) (fun i=>s.size - (intOf i).toNat)
 case atStart=>exact⟨0,Nat.zero_le _,rfl,rfl⟩
 case round=>
  obtain⟨k,hk,rfl,hv⟩:=hrel
  have HV:=Lib.hid hv
  clear hv
  by_cases hlt:k<s.size
  ·have HD:=Lib.hid (EX s k hlt)
   have hb:(s[k]'hlt).toNat<256:=(s[k]'hlt).toNat_lt
   have hcat:(0<=(s[k]'hlt).toNat/\(s[k]'hlt).toNat<=44)\/(45<=(s[k]'hlt).toNat/\(s[k]'hlt).toNat<=45)\/(46<=(s[k]'hlt).toNat/\(s[k]'hlt).toNat<=46)\/(47<=(s[k]'hlt).toNat/\(s[k]'hlt).toNat<=47)\/(48<=(s[k]'hlt).toNat/\(s[k]'hlt).toNat<=57)\/(58<=(s[k]'hlt).toNat/\(s[k]'hlt).toNat<=64)\/(65<=(s[k]'hlt).toNat/\(s[k]'hlt).toNat<=90)\/(91<=(s[k]'hlt).toNat/\(s[k]'hlt).toNat<=94)\/(95<=(s[k]'hlt).toNat/\(s[k]'hlt).toNat<=95)\/(96<=(s[k]'hlt).toNat/\(s[k]'hlt).toNat<=96)\/(97<=(s[k]'hlt).toNat/\(s[k]'hlt).toNat<=122)\/(123<=(s[k]'hlt).toNat/\(s[k]'hlt).toNat<=255):=by omega
   rcases hcat with hcat|hcat|hcat|hcat|hcat|hcat|hcat|hcat|hcat|hcat|hcat|hcat
   ·have x0: ¬97<=(s[k]'hlt).toNat:=by omega
    have y0: ¬(97:Int)<=(((s[k]'hlt).toNat:Nat):Int):=by omega
    have x1: ¬65<=(s[k]'hlt).toNat:=by omega
    have y1: ¬(65:Int)<=(((s[k]'hlt).toNat:Nat):Int):=by omega
    have x2: ¬48<=(s[k]'hlt).toNat:=by omega
    have y2: ¬(48:Int)<=(((s[k]'hlt).toNat:Nat):Int):=by omega
    have e45: ¬(s[k]'hlt).toNat=45:=by omega
    have f45: ¬(((s[k]'hlt).toNat:Nat):Int)=45:=by omega
    have g45:((((s[k]'hlt).toNat:Nat):Int) !=45)=true:=by rw[bne_iff_ne];exact f45
    have e95: ¬(s[k]'hlt).toNat=95:=by omega
    have f95: ¬(((s[k]'hlt).toNat:Nat):Int)=95:=by omega
    have g95:((((s[k]'hlt).toNat:Nat):Int) !=95)=true:=by rw[bne_iff_ne];exact f95
    have e46: ¬(s[k]'hlt).toNat=46:=by omega
    have f46: ¬(((s[k]'hlt).toNat:Nat):Int)=46:=by omega
    have g46:((((s[k]'hlt).toNat:Nat):Int) !=46)=true:=by rw[bne_iff_ne];exact f46
    have OK:=Lib.hid (show mJ (s[k]'hlt)=false by rw[dx];omega)
    have HR:=Lib.hid (show bS s=false by unfold bS;rw[←HV.out,HD.out,OK.out];simp)
    go_wp2
    go_ret
    exact⟨by rw[HR.out];rfl,rfl⟩
   ·have x0: ¬97<=(s[k]'hlt).toNat:=by omega
    have y0: ¬(97:Int)<=(((s[k]'hlt).toNat:Nat):Int):=by omega
    have x1: ¬65<=(s[k]'hlt).toNat:=by omega
    have y1: ¬(65:Int)<=(((s[k]'hlt).toNat:Nat):Int):=by omega
    have x2: ¬48<=(s[k]'hlt).toNat:=by omega
    have y2: ¬(48:Int)<=(((s[k]'hlt).toNat:Nat):Int):=by omega
    have e45:(s[k]'hlt).toNat=45:=by omega
    have f45:(((s[k]'hlt).toNat:Nat):Int)=45:=by omega
    have g45:((((s[k]'hlt).toNat:Nat):Int) !=45)=false:=by rw[f45];rfl
    have e95: ¬(s[k]'hlt).toNat=95:=by omega
    have f95: ¬(((s[k]'hlt).toNat:Nat):Int)=95:=by omega
    have g95:((((s[k]'hlt).toNat:Nat):Int) !=95)=true:=by rw[bne_iff_ne];exact f95
    have e46: ¬(s[k]'hlt).toNat=46:=by omega
    have f46: ¬(((s[k]'hlt).toNat:Nat):Int)=46:=by omega
    have g46:((((s[k]'hlt).toNat:Nat):Int) !=46)=true:=by rw[bne_iff_ne];exact f46
    have OK:=Lib.hid (show mJ (s[k]'hlt)=true by rw[fP];omega)
    go_wp2
    exact⟨⟨k+1,by omega,by simp,by rw[←HV.out,HD.out,OK.out,Bool.true_and]⟩,by simp[intOf];omega⟩
   ·have x0: ¬97<=(s[k]'hlt).toNat:=by omega
    have y0: ¬(97:Int)<=(((s[k]'hlt).toNat:Nat):Int):=by omega
    have x1: ¬65<=(s[k]'hlt).toNat:=by omega
    have y1: ¬(65:Int)<=(((s[k]'hlt).toNat:Nat):Int):=by omega
    have x2: ¬48<=(s[k]'hlt).toNat:=by omega
    have y2: ¬(48:Int)<=(((s[k]'hlt).toNat:Nat):Int):=by omega
    have e45: ¬(s[k]'hlt).toNat=45:=by omega
    have f45: ¬(((s[k]'hlt).toNat:Nat):Int)=45:=by omega
    have g45:((((s[k]'hlt).toNat:Nat):Int) !=45)=true:=by rw[bne_iff_ne];exact f45
    have e95: ¬(s[k]'hlt).toNat=95:=by omega
    have f95: ¬(((s[k]'hlt).toNat:Nat):Int)=95:=by omega
    have g95:((((s[k]'hlt).toNat:Nat):Int) !=95)=true:=by rw[bne_iff_ne];exact f95
    have e46:(s[k]'hlt).toNat=46:=by omega
    have f46:(((s[k]'hlt).toNat:Nat):Int)=46:=by omega
    have g46:((((s[k]'hlt).toNat:Nat):Int) !=46)=false:=by rw[f46];rfl
    have OK:=Lib.hid (show mJ (s[k]'hlt)=true by rw[fP];omega)
    go_wp2
    exact⟨⟨k+1,by omega,by simp,by rw[←HV.out,HD.out,OK.out,Bool.true_and]⟩,by simp[intOf];omega⟩
   ·have x0: ¬97<=(s[k]'hlt).toNat:=by omega
    have y0: ¬(97:Int)<=(((s[k]'hlt).toNat:Nat):Int):=by omega
    have x1: ¬65<=(s[k]'hlt).toNat:=by omega
    have y1: ¬(65:Int)<=(((s[k]'hlt).toNat:Nat):Int):=by omega
    have x2: ¬48<=(s[k]'hlt).toNat:=by omega
    have y2: ¬(48:Int)<=(((s[k]'hlt).toNat:Nat):Int):=by omega
    have e45: ¬(s[k]'hlt).toNat=45:=by omega
    have f45: ¬(((s[k]'hlt).toNat:Nat):Int)=45:=by omega
    have g45:((((s[k]'hlt).toNat:Nat):Int) !=45)=true:=by rw[bne_iff_ne];exact f45
    have e95: ¬(s[k]'hlt).toNat=95:=by omega
    have f95: ¬(((s[k]'hlt).toNat:Nat):Int)=95:=by omega
    have g95:((((s[k]'hlt).toNat:Nat):Int) !=95)=true:=by rw[bne_iff_ne];exact f95
    have e46: ¬(s[k]'hlt).toNat=46:=by omega
    have f46: ¬(((s[k]'hlt).toNat:Nat):Int)=46:=by omega
    have g46:((((s[k]'hlt).toNat:Nat):Int) !=46)=true:=by rw[bne_iff_ne];exact f46
    have OK:=Lib.hid (show mJ (s[k]'hlt)=false by rw[dx];omega)
    have HR:=Lib.hid (show bS s=false by unfold bS;rw[←HV.out,HD.out,OK.out];simp)
    go_wp2
    go_ret
    exact⟨by rw[HR.out];rfl,rfl⟩
   ·have x0: ¬97<=(s[k]'hlt).toNat:=by omega
    have y0: ¬(97:Int)<=(((s[k]'hlt).toNat:Nat):Int):=by omega
    have x1: ¬65<=(s[k]'hlt).toNat:=by omega
    have y1: ¬(65:Int)<=(((s[k]'hlt).toNat:Nat):Int):=by omega
    have x2:48<=(s[k]'hlt).toNat:=by omega
    have y2:(48:Int)<=(((s[k]'hlt).toNat:Nat):Int):=by omega
    have x3:(s[k]'hlt).toNat<=57:=by omega
    have y3:(((s[k]'hlt).toNat:Nat):Int)<=(57:Int):=by omega
    have OK:=Lib.hid (show mJ (s[k]'hlt)=true by rw[fP];omega)
    go_wp2
    exact⟨⟨k+1,by omega,by simp,by rw[←HV.out,HD.out,OK.out,Bool.true_and]⟩,by simp[intOf];omega⟩
   ·have x0: ¬97<=(s[k]'hlt).toNat:=by omega
    have y0: ¬(97:Int)<=(((s[k]'hlt).toNat:Nat):Int):=by omega
    have x1: ¬65<=(s[k]'hlt).toNat:=by omega
    have y1: ¬(65:Int)<=(((s[k]'hlt).toNat:Nat):Int):=by omega
    have x2:48<=(s[k]'hlt).toNat:=by omega
    have y2:(48:Int)<=(((s[k]'hlt).toNat:Nat):Int):=by omega
    have x3: ¬(s[k]'hlt).toNat<=57:=by omega
    have y3: ¬(((s[k]'hlt).toNat:Nat):Int)<=(57:Int):=by omega
    have e45: ¬(s[k]'hlt).toNat=45:=by omega
    have f45: ¬(((s[k]'hlt).toNat:Nat):Int)=45:=by omega
    have g45:((((s[k]'hlt).toNat:Nat):Int) !=45)=true:=by rw[bne_iff_ne];exact f45
    have e95: ¬(s[k]'hlt).toNat=95:=by omega
    have f95: ¬(((s[k]'hlt).toNat:Nat):Int)=95:=by omega
    have g95:((((s[k]'hlt).toNat:Nat):Int) !=95)=true:=by rw[bne_iff_ne];exact f95
    have e46: ¬(s[k]'hlt).toNat=46:=by omega
    have f46: ¬(((s[k]'hlt).toNat:Nat):Int)=46:=by omega
    have g46:((((s[k]'hlt).toNat:Nat):Int) !=46)=true:=by rw[bne_iff_ne];exact f46
    have OK:=Lib.hid (show mJ (s[k]'hlt)=false by rw[dx];omega)
    have HR:=Lib.hid (show bS s=false by unfold bS;rw[←HV.out,HD.out,OK.out];simp)
    go_wp2
    go_ret
    exact⟨by rw[HR.out];rfl,rfl⟩
   ·have x0: ¬97<=(s[k]'hlt).toNat:=by omega
    have y0: ¬(97:Int)<=(((s[k]'hlt).toNat:Nat):Int):=by omega
    have x1:65<=(s[k]'hlt).toNat:=by omega
    have y1:(65:Int)<=(((s[k]'hlt).toNat:Nat):Int):=by omega
    have x2:(s[k]'hlt).toNat<=90:=by omega
    have y2:(((s[k]'hlt).toNat:Nat):Int)<=(90:Int):=by omega
    have OK:=Lib.hid (show mJ (s[k]'hlt)=true by rw[fP];omega)
    go_wp2
    exact⟨⟨k+1,by omega,by simp,by rw[←HV.out,HD.out,OK.out,Bool.true_and]⟩,by simp[intOf];omega⟩
   ·have x0: ¬97<=(s[k]'hlt).toNat:=by omega
    have y0: ¬(97:Int)<=(((s[k]'hlt).toNat:Nat):Int):=by omega
    have x1:65<=(s[k]'hlt).toNat:=by omega
    have y1:(65:Int)<=(((s[k]'hlt).toNat:Nat):Int):=by omega
    have x2: ¬(s[k]'hlt).toNat<=90:=by omega
    have y2: ¬(((s[k]'hlt).toNat:Nat):Int)<=(90:Int):=by omega
    have x3:48<=(s[k]'hlt).toNat:=by omega
    have y3:(48:Int)<=(((s[k]'hlt).toNat:Nat):Int):=by omega
    have x4: ¬(s[k]'hlt).toNat<=57:=by omega
    have y4: ¬(((s[k]'hlt).toNat:Nat):Int)<=(57:Int):=by omega
    have e45: ¬(s[k]'hlt).toNat=45:=by omega
    have f45: ¬(((s[k]'hlt).toNat:Nat):Int)=45:=by omega
    have g45:((((s[k]'hlt).toNat:Nat):Int) !=45)=true:=by rw[bne_iff_ne];exact f45
    have e95: ¬(s[k]'hlt).toNat=95:=by omega
    have f95: ¬(((s[k]'hlt).toNat:Nat):Int)=95:=by omega
    have g95:((((s[k]'hlt).toNat:Nat):Int) !=95)=true:=by rw[bne_iff_ne];exact f95
    have e46: ¬(s[k]'hlt).toNat=46:=by omega
    have f46: ¬(((s[k]'hlt).toNat:Nat):Int)=46:=by omega
    have g46:((((s[k]'hlt).toNat:Nat):Int) !=46)=true:=by rw[bne_iff_ne];exact f46
    have OK:=Lib.hid (show mJ (s[k]'hlt)=false by rw[dx];omega)
    have HR:=Lib.hid (show bS s=false by unfold bS;rw[←HV.out,HD.out,OK.out];simp)
    go_wp2
    go_ret
    exact⟨by rw[HR.out];rfl,rfl⟩
   ·have x0: ¬97<=(s[k]'hlt).toNat:=by omega
    have y0: ¬(97:Int)<=(((s[k]'hlt).toNat:Nat):Int):=by omega
    have x1:65<=(s[k]'hlt).toNat:=by omega
    have y1:(65:Int)<=(((s[k]'hlt).toNat:Nat):Int):=by omega
    have x2: ¬(s[k]'hlt).toNat<=90:=by omega
    have y2: ¬(((s[k]'hlt).toNat:Nat):Int)<=(90:Int):=by omega
    have x3:48<=(s[k]'hlt).toNat:=by omega
    have y3:(48:Int)<=(((s[k]'hlt).toNat:Nat):Int):=by omega
    have x4: ¬(s[k]'hlt).toNat<=57:=by omega
    have y4: ¬(((s[k]'hlt).toNat:Nat):Int)<=(57:Int):=by omega
    have e45: ¬(s[k]'hlt).toNat=45:=by omega
    have f45: ¬(((s[k]'hlt).toNat:Nat):Int)=45:=by omega
    have g45:((((s[k]'hlt).toNat:Nat):Int) !=45)=true:=by rw[bne_iff_ne];exact f45
    have e95:(s[k]'hlt).toNat=95:=by omega
    have f95:(((s[k]'hlt).toNat:Nat):Int)=95:=by omega
    have g95:((((s[k]'hlt).toNat:Nat):Int) !=95)=false:=by rw[f95];rfl
    have e46: ¬(s[k]'hlt).toNat=46:=by omega
    have f46: ¬(((s[k]'hlt).toNat:Nat):Int)=46:=by omega
    have g46:((((s[k]'hlt).toNat:Nat):Int) !=46)=true:=by rw[bne_iff_ne];exact f46
    have OK:=Lib.hid (show mJ (s[k]'hlt)=true by rw[fP];omega)
    go_wp2
    exact⟨⟨k+1,by omega,by simp,by rw[←HV.out,HD.out,OK.out,Bool.true_and]⟩,by simp[intOf];omega⟩
   ·have x0: ¬97<=(s[k]'hlt).toNat:=by omega
    have y0: ¬(97:Int)<=(((s[k]'hlt).toNat:Nat):Int):=by omega
    have x1:65<=(s[k]'hlt).toNat:=by omega
    have y1:(65:Int)<=(((s[k]'hlt).toNat:Nat):Int):=by omega
    have x2: ¬(s[k]'hlt).toNat<=90:=by omega
    have y2: ¬(((s[k]'hlt).toNat:Nat):Int)<=(90:Int):=by omega
    have x3:48<=(s[k]'hlt).toNat:=by omega
    have y3:(48:Int)<=(((s[k]'hlt).toNat:Nat):Int):=by omega
    have x4: ¬(s[k]'hlt).toNat<=57:=by omega
    have y4: ¬(((s[k]'hlt).toNat:Nat):Int)<=(57:Int):=by omega
    have e45: ¬(s[k]'hlt).toNat=45:=by omega
    have f45: ¬(((s[k]'hlt).toNat:Nat):Int)=45:=by omega
    have g45:((((s[k]'hlt).toNat:Nat):Int) !=45)=true:=by rw[bne_iff_ne];exact f45
    have e95: ¬(s[k]'hlt).toNat=95:=by omega
    have f95: ¬(((s[k]'hlt).toNat:Nat):Int)=95:=by omega
    have g95:((((s[k]'hlt).toNat:Nat):Int) !=95)=true:=by rw[bne_iff_ne];exact f95
    have e46: ¬(s[k]'hlt).toNat=46:=by omega
    have f46: ¬(((s[k]'hlt).toNat:Nat):Int)=46:=by omega
    have g46:((((s[k]'hlt).toNat:Nat):Int) !=46)=true:=by rw[bne_iff_ne];exact f46
    have OK:=Lib.hid (show mJ (s[k]'hlt)=false by rw[dx];omega)
    have HR:=Lib.hid (show bS s=false by unfold bS;rw[←HV.out,HD.out,OK.out];simp)
    go_wp2
    go_ret
    exact⟨by rw[HR.out];rfl,rfl⟩
   ·have x0:97<=(s[k]'hlt).toNat:=by omega
    have y0:(97:Int)<=(((s[k]'hlt).toNat:Nat):Int):=by omega
    have x1:(s[k]'hlt).toNat<=122:=by omega
    have y1:(((s[k]'hlt).toNat:Nat):Int)<=(122:Int):=by omega
    have OK:=Lib.hid (show mJ (s[k]'hlt)=true by rw[fP];omega)
    go_wp2
    exact⟨⟨k+1,by omega,by simp,by rw[←HV.out,HD.out,OK.out,Bool.true_and]⟩,by simp[intOf];omega⟩
   ·have x0:97<=(s[k]'hlt).toNat:=by omega
    have y0:(97:Int)<=(((s[k]'hlt).toNat:Nat):Int):=by omega
    have x1: ¬(s[k]'hlt).toNat<=122:=by omega
    have y1: ¬(((s[k]'hlt).toNat:Nat):Int)<=(122:Int):=by omega
    have x2:65<=(s[k]'hlt).toNat:=by omega
    have y2:(65:Int)<=(((s[k]'hlt).toNat:Nat):Int):=by omega
    have x3: ¬(s[k]'hlt).toNat<=90:=by omega
    have y3: ¬(((s[k]'hlt).toNat:Nat):Int)<=(90:Int):=by omega
    have x4:48<=(s[k]'hlt).toNat:=by omega
    have y4:(48:Int)<=(((s[k]'hlt).toNat:Nat):Int):=by omega
    have x5: ¬(s[k]'hlt).toNat<=57:=by omega
    have y5: ¬(((s[k]'hlt).toNat:Nat):Int)<=(57:Int):=by omega
    have e45: ¬(s[k]'hlt).toNat=45:=by omega
    have f45: ¬(((s[k]'hlt).toNat:Nat):Int)=45:=by omega
    have g45:((((s[k]'hlt).toNat:Nat):Int) !=45)=true:=by rw[bne_iff_ne];exact f45
    have e95: ¬(s[k]'hlt).toNat=95:=by omega
    have f95: ¬(((s[k]'hlt).toNat:Nat):Int)=95:=by omega
    have g95:((((s[k]'hlt).toNat:Nat):Int) !=95)=true:=by rw[bne_iff_ne];exact f95
    have e46: ¬(s[k]'hlt).toNat=46:=by omega
    have f46: ¬(((s[k]'hlt).toNat:Nat):Int)=46:=by omega
    have g46:((((s[k]'hlt).toNat:Nat):Int) !=46)=true:=by rw[bne_iff_ne];exact f46
    have OK:=Lib.hid (show mJ (s[k]'hlt)=false by rw[dx];omega)
    have HR:=Lib.hid (show bS s=false by unfold bS;rw[←HV.out,HD.out,OK.out];simp)
    go_wp2
    go_ret
    exact⟨by rw[HR.out];rfl,rfl⟩
  ·have he:s.data.toList.all mJ=true:=by rw[←HV.out];exact Jp s k (by omega)
   have HR:=Lib.hid (show bS s=true by unfold bS;rw[he];simp[h0,h1])
   clear he
   go_wp2
   go_ret
   exact⟨by rw[HR.out];rfl,rfl⟩
end Go.Proofs.Nw
namespace Go.Proofs.Nw
open Go Go.AV Tryz
set_option maxRecDepth 100000
def dF(l:List bG)(i:Nat):Option Int:=match l[i]? with
 |some x=>if bS x.id=false then some 12 else if (l.take i).any (fun y=>y.id.data==x.id.data) then some 6 else if x.aQ<0\/16<=x.aQ\/x.change<0\/3600<x.change then some 2 else none
 |none=>none
def cf(l:List bG):Int × Int:=if 64<l.length then (0,5) else scan (dF l) l.length 0
structure bM(z:T aa)(k:Nat)(rows:List (List Value)):Prop where
 here:rows≠[]-> ∃e,z.get k=some (.ay (bg e rows.flatten))
 size: ∀r∈rows,∀s:ByteArray,Value.string s∈r->s.size<=9223372036854775807
theorem bM.sz{z:T aa}{k:Nat}{rows:List (List Value)}(h:bM z k rows){i:Nat}{r:List Value}{s:ByteArray}(hr:rows[i]? =some r)(hs:Value.string s∈r):s.size<=9223372036854775807:=h.size r (List.mem_of_getElem? hr) s hs
theorem bM.ay{z:T aa}{k i:Nat}{rows:List (List Value)}(h:bM z k rows)(hi:i<rows.length): ∃e,z.get k=some (.ay (bg e rows.flatten)):=
 h.here (fun e=>by rw[e] at hi;simp at hi)
theorem aM{α:Type}{row:α->List Value}{sz:Nat}(l:List α)(h: ∀x,(row x).length=sz): ∀r∈l.map row,r.length=sz:=by
 intro r hr
 obtain⟨y,_,rfl⟩:=List.mem_map.1 hr
 exact h y
theorem bF{n:Nat}(h:n<1000000000):Value.int .i64 (IntKind.i64.wrap ((n:Int)+1))=Value.int .i64 ((n+1:Nat):Int):=by
 have:IntKind.i64.wrap ((n:Int)+1)=(n:Int)+1:=by
  simp only[IntKind.wrap,IntKind.signed,IntKind.bits]
  simp
  omega
 rw[this];rfl
theorem u7{s:ByteArray}{l:List ByteArray}:Value.string s∈l.map Value.string↔s∈l:=by
 rw[List.mem_map]
 exact⟨fun⟨x,h1,h2⟩=>by cases h2;exact h1,fun h=>⟨s,h,rfl⟩⟩
section
variable{z:T aa}{zn:Nat}
theorem MJ(hz:au z zn)(hg:eN prog z gP)(l:List bG)(cp:Nat)(ht:bM z 2 (l.map bG.row))(hl:l.length<100000)(r:Int × Int)(hr:scan (dF l) l.length 0=r):
 ai prog (ah (ag f79) 0) 1 54 (IK l.length cp 0) [(0,bs [])] 1 z zn (Al.R (TE z zn l.length cp r.1 r.2).l):=by
 refine ax hD hg (α:=Nat) 1 54 1 (fun i=>i<=l.length/\scan (dF l) (l.length - i) i=r) (fun i=>IK l.length cp i) (fun i=>[(0,bs (((l.take i).map bG.id).map .string))]) (fun _=>z) (fun _=>zn) (fun i=>l.length - i) _ (fun i hI=>?_) 0 ⟨Nat.zero_le _,hr⟩
 obtain⟨h1,h2⟩:=hI
 by_cases hi:i<l.length
 ·obtain⟨e,he⟩:=ht.ay (i:=i) (by simpa using hi)
  obtain⟨x,hx⟩: ∃x,l[i]? =some x:=⟨l[i],List.getElem?_eq_getElem hi⟩
  have hid:=Vz (ht.sz (i:=i) (r:=x.row) (s:=x.id) (by rw[List.getElem?_map,hx];rfl) (by simp))
  have hrow:aq prog (bg e (l.map bG.row).flatten) 84 (0+i*4)=some (.agg ⟨x.row⟩):=bD (P:=prog) (e:=e) (t:=84) (k:=i) (r:=x.row) (sz:=4) underlying84 rfl rfl (aM (row:=bG.row) l fun _=>rfl) (by rw[List.getElem?_map,hx];rfl)
  have hk:=Di x.id ((l.take i).map bG.id)
  have hps:=pw ((l.take i).map bG.id)
  have hany:Value.string x.id∈((l.take i).map bG.id).map Value.string↔(l.take i).any (fun y=>y.id.data==x.id.data)=true:=by
   rw[u7,List.any_eq_true,List.mem_map]
   exact⟨fun⟨y,q1,q2⟩=>⟨y,q1,by rw[q2];exact(jW _ _).2 rfl⟩,fun⟨y,q1,q2⟩=>⟨y,q1,(jW _ _).1 q2⟩⟩
  have hc:decide ((i:Int)<(l.length:Int))=true:=by simp;omega
  have ret: ∀e:Int,dF l i=some e->Al.R (TE z zn l.length cp r.1 r.2).l ⟨.ret,[(2,iv i),(3,zv e)],[],1,z,zn⟩:=fun e h=>by
   have:r=((i:Int),e):=by rw[←h2,cY hi h]
   rw[this];exact bu trivial
  refine t100 (rst z zn i l.length cp (bg e (l.map bG.row).flatten) x (((l.take i).map bG.id).map .string) (an _ _ _ _ _ _ _ _ _) ⟨fun _=>?_,fun h=>by rw[hc] at h;cases h⟩)
  (repeat' first|(with_reducible first|exact rfl|assumption|apply And.intro|exact hk.no|exact hk.ex|exact iK _ hps rfl|exact bF (by omega))|intro hq)
  all_goals try (have hm:=hk.EY (by with_reducible assumption);rw[hany] at hm)
  all_goals try (have hm:=hk.K6 (by with_reducible assumption);rw[hany] at hm)
  all_goals clear hk hps hrow hany he ht hz hr
  all_goals first
   |(refine ret _ ?_;clear ret h2;simp only[dF,hx];simp_all;done)
   |(refine ret _ ?_;clear ret h2;simp only[dF,hx];simp_all;omega)
   |with_reducible assumption
   |skip
  have hb:dF l i=none:=by
   clear ret h2
   simp only[dF,hx]
   rw[if_neg (by simp_all),if_neg hm,if_neg (by simp only[decide_eq_false_iff_not] at*;omega)]
  refine⟨i+1,rfl,?_,rfl,rfl,rfl,⟨hi,by rw[←cD hi hb];exact h2⟩,by show l.length - (i+1)<l.length - i;omega⟩
  rw[fN]
  show _=[(0,bs (((l.take (i+1)).map bG.id).map .string))]
  rw[List.take_add_one,hx]
  simp
 ·have hc:decide ((i:Int)<(l.length:Int))=false:=by simp;omega
  refine t100 (rst z zn i l.length cp ⟨[],0,0,0,true,true,0,true⟩ ⟨⟨#[]⟩,0,true,0⟩ (((l.take i).map bG.id).map .string) (an _ _ _ _ _ _ _ _ _) ⟨nC1 hc,fun _=>?_⟩)
  (repeat' first|(with_reducible first|exact rfl|assumption|apply And.intro))
  refine dv (bu ?_)
  rw[dL (by omega)] at h2
  rw[←h2]
  exact⟨rfl,rfl⟩
theorem Q8(hz:au z zn)(hg:eN prog z gP)(l:List bG)(cp:Nat)(ht:bM z 2 (l.map bG.row)):
 A1 z zn 79 [tb 2 l.length cp] [] 0 0 (.tuple ⟨[zv (cf l).1,zv (cf l).2]⟩) []:=by
 refine da hg (fn:=f79) (by kernel_rfl) (by kernel_rfl) hz ⟨by decide,by decide⟩ rfl (Zh z zn l.length cp (cf l).1 (cf l).2 _ ?_)
 by_cases h:64<l.length
 ·have hr:cf l=(0,5):=if_pos h
  have hc:decide ((l.length:Int)>64)=true:=by simp;omega
  rw[hr]
  refine⟨fun _=>?_,nC1 hc⟩
  (repeat' first|(with_reducible first|exact rfl|assumption|apply And.intro))
  exact q1
 ·have hr:cf l=scan (dF l) l.length 0:=if_neg h
  have hc:decide ((l.length:Int)>64)=false:=by simp;omega
  have hL:=MJ hz hg l cp ht (by omega) (cf l) hr.symm
  refine⟨nC1 hc,fun _=>?_⟩
  (repeat' first|(with_reducible first|exact rfl|assumption|apply And.intro)|exact hL|intro hq)
  ·exact q1
  ·rw[hq.1,hq.2];exact q1
theorem NN(hz:au z zn)(hg:eN prog z gP):A1 z zn 79 [ak] [] 0 0 (.tuple ⟨[I 0,I 0]⟩) []:=by
 have hL:ai prog (ah (ag f79) 0) 1 54 xh [(0,bs [])] 1 z zn (Al.R (TD z zn).l):=by
  refine ax hD hg (α:=Unit) 1 54 1 (fun _=>True) (fun _=>xh) (fun _=>[(0,bs [])]) (fun _=>z) (fun _=>zn) (fun _=>0) _ (fun i hI=>?_) () trivial
  refine t100 (Xk z zn (an _ _ _ _ _ _ _ _ _) ?_)
  (repeat' first|(with_reducible first|exact rfl|assumption|apply And.intro))
  exact bu trivial
 refine da hg (fn:=f79) (by kernel_rfl) (by kernel_rfl) hz ⟨by decide,by decide⟩ rfl (Zg z zn _ ?_)
 (repeat' first|(with_reducible first|exact rfl|assumption|apply And.intro|exact q1)|exact hL|intro hq)
end
theorem jX{α:Type}{p:α->Bool}{l:List α}{k:Nat}{y:α}(h:l[k]? =some y):(l.take (k+1)).any p=((l.take k).any p||p y):=by
 rw[List.take_add_one,h,List.any_append];simp
theorem any_true{α:Type}{p:α->Bool}{l:List α}{i k:Nat}{y:α}(h:l[k]? =some y)(hk:k<i)(hp:p y=true):(l.take i).any p=true:=by
 rw[List.any_eq_true]
 exact⟨y,List.mem_of_getElem? (by rw[List.getElem?_take,if_pos hk,h]),hp⟩
theorem dh{α:Type}{l:List α}{i:Nat}(h:i<l.length): ∃x,l[i]? =some x:=⟨l[i],List.getElem?_eq_getElem h⟩
theorem pJ(a b:ByteArray):(a.toList==b.toList)=(a.data==b.data):=by
 rw[ByteArray.toList_eq,ByteArray.toList_eq]
 cases h:(a.data==b.data) with
 |true=>have:=(jW a b).1 h;subst this;simp
 |false=>
  cases h2:(a.data.toList==b.data.toList) with
  |false=>rfl
  |true=>
   have h3:a.data.toList=b.data.toList:=by simpa using h2
   have:a.data=b.data:=by cases ha:a.data;cases hb:b.data;rw[ha,hb] at h3;simp at h3;rw[h3]
   rw[this] at h;simp at h
section
variable{z:T aa}{zn:Nat}
theorem IT(hz:au z zn)(hg:eN prog z gP)(l:List bG)(cp:Nat)(e:TypeId)(he:z.get 2=some (.ay (bg e (l.map bG.row).flatten)))(hl:l.length<100000)(i:Nat)(x:bG)(hx:l[i]? =some x)(b:Bool)(hb:b=(l.take i).any fun y=>y.id.data==x.id.data):
 ai prog (ah (ah (ag f87) 0) 0) 0 57 (xm l.length cp i 0) [] 0 z zn (Al.R (TK z zn l.length cp i b).l):=by
 have hil:i<l.length:=(List.getElem?_eq_some_iff.1 hx).1
 refine ax hD hg (α:=Nat) 0 57 0 (fun k=>k<=i/\((l.take k).any fun y=>y.id.data==x.id.data)=false) (fun k=>xm l.length cp i k) (fun _=>[]) (fun _=>z) (fun _=>zn) (fun k=>i - k) _ (fun k hI=>?_) 0 ⟨Nat.zero_le _,rfl⟩
 obtain⟨h1,h2⟩:=hI
 have hlen:=aM (row:=bG.row) (sz:=4) l fun _=>rfl
 have rx:aq prog (bg e (l.map bG.row).flatten) 9 (0+i*4+0)=some (.string x.id):=aS (r:=x.row) (j:=0) underlying9 rfl hlen (by rw[List.getElem?_map,hx];rfl) rfl
 by_cases hk:k<i
 ·obtain⟨y,hy⟩:=dh (l:=l) (i:=k) (by omega)
  have ry:aq prog (bg e (l.map bG.row).flatten) 9 (0+k*4+0)=some (.string y.id):=aS (r:=y.row) (j:=0) underlying9 rfl hlen (by rw[List.getElem?_map,hy];rfl) rfl
  have hc:decide ((k:Int)<(i:Int))=true:=by simp;omega
  refine t100 (Tk z zn i k l.length cp (bg e (l.map bG.row).flatten) x y (an _ _ _ _ _ _ _ _ _) ⟨fun _=>?_,nC1 hc⟩)
  (repeat' first|(with_reducible first|exact rfl|assumption|apply And.intro|exact(by omega:k<l.length)|exact bF (by omega))|intro hq)
  ·rw[pJ] at hq
   exact bu (by rw[hb];exact any_true hy hk hq)
  ·rw[pJ] at hq
   exact⟨k+1,rfl,rfl,rfl,rfl,rfl,⟨hk,by rw[jX hy,h2,hq];rfl⟩,by show i - (k+1)<i - k;omega⟩
 ·have hc:decide ((k:Int)<(i:Int))=false:=by simp;omega
  refine t100 (Tk z zn i k l.length cp (bg e (l.map bG.row).flatten) x x (an _ _ _ _ _ _ _ _ _) ⟨nC1 hc,fun _=>?_⟩)
  (repeat' first|(with_reducible first|exact rfl|assumption|apply And.intro))
  refine dv (bu ?_)
  rw[hb,←h2,show k=i by omega]
theorem MN(hz:au z zn)(hg:eN prog z gP)(l:List bG)(cp:Nat)(ht:bM z 2 (l.map bG.row))(hl:l.length<100000)(r:Int × Int)(hr:scan (dF l) l.length 0=r):
 ai prog (ah (ag f87) 0) 0 57 (y6 l.length cp 0) [] 0 z zn (Al.R (TL z zn l.length cp r.1 r.2).l):=by
 refine ax hD hg (α:=Nat) 0 57 0 (fun i=>i<=l.length/\scan (dF l) (l.length - i) i=r) (fun i=>y6 l.length cp i) (fun i=>[]) (fun _=>z) (fun _=>zn) (fun i=>l.length - i) _ (fun i hI=>?_) 0 ⟨Nat.zero_le _,hr⟩
 obtain⟨h1,h2⟩:=hI
 by_cases hi:i<l.length
 ·obtain⟨e,he⟩:=ht.ay (i:=i) (by simpa using hi)
  obtain⟨x,hx⟩:=dh hi
  have hid:=Vy (ht.sz (i:=i) (r:=x.row) (s:=x.id) (by rw[List.getElem?_map,hx];rfl) (by simp))
  have hlen:=aM (row:=bG.row) (sz:=4) l fun _=>rfl
  have hr:(l.map bG.row)[i]? =some x.row:=by rw[List.getElem?_map,hx];rfl
  have r0:aq prog (bg e (l.map bG.row).flatten) 9 (0+i*4+0)=some (.string x.id):=aS (j:=0) underlying9 rfl hlen hr rfl
  have r1:aq prog (bg e (l.map bG.row).flatten) 3 (0+i*4+1)=some (zv x.aQ):=aS (j:=1) underlying3 rfl hlen hr rfl
  have r3:aq prog (bg e (l.map bG.row).flatten) 3 (0+i*4+3)=some (zv x.change):=aS (j:=3) underlying3 rfl hlen hr rfl
  have hL:=IT hz hg l cp e he hl i x hx _ rfl
  generalize hb:((l.take i).any fun y=>y.id.data==x.id.data)=b at hL
  have hc:decide ((i:Int)<(l.length:Int))=true:=by simp;omega
  have ret: ∀e:Int,dF l i=some e->Al.R (TL z zn l.length cp r.1 r.2).l ⟨.ret,[(2,iv i),(3,zv e)],[],0,z,zn⟩:=fun e h=>by
   have:r=((i:Int),e):=by rw[←h2,cY hi h]
   rw[this];exact bu trivial
  have hbad:dF l i=if bS x.id=false then some 12 else if b=true then some 6 else if x.aQ<0\/16<=x.aQ\/x.change<0\/3600<x.change then some 2 else none:=by
   simp only[dF,hx,hb]
  refine t100 (rrs z zn i l.length cp (bg e (l.map bG.row).flatten) x b (an _ _ _ _ _ _ _ _ _) ⟨fun _=>?_,nC1 hc⟩)
  (repeat' first|(with_reducible first|exact rfl|assumption|apply And.intro|exact bF (by omega))|exact(rfl:gP _ _=_)|exact hL|intro hq)
  all_goals clear hL r0 r1 r3 hr hlen he ht hz
  all_goals first
   |with_reducible assumption
   |rfl
   |(refine ret _ ?_;clear ret h2;rw[hbad];simp_all;done)
   |(refine ret _ ?_;clear ret h2;rw[hbad];simp_all;omega)
   |(have hb0:dF l i=none:=by
      clear ret h2
      rw[hbad,if_neg (by simp_all),if_neg (by simp_all),if_neg (by simp only[bS1] at*;omega)]
     exact⟨i+1,rfl,rfl,rfl,rfl,rfl,⟨hi,by rw[←cD hi hb0];exact h2⟩,by show l.length - (i+1)<l.length - i;omega⟩)
 ·have hc:decide ((i:Int)<(l.length:Int))=false:=by simp;omega
  refine t100 (rrs z zn i l.length cp ⟨[],0,0,0,true,true,0,true⟩ ⟨⟨#[]⟩,0,true,0⟩ true (an _ _ _ _ _ _ _ _ _) ⟨nC1 hc,fun _=>?_⟩)
  (repeat' first|(with_reducible first|exact rfl|assumption|apply And.intro))
  refine dv (bu ?_)
  rw[dL (by omega)] at h2
  rw[←h2]
  exact⟨rfl,rfl⟩
theorem J5(hz:au z zn)(hg:eN prog z gP)(l:List bG)(cp:Nat)(ht:bM z 2 (l.map bG.row)):
 A1 z zn 87 [tb 2 l.length cp] [] 0 0 (.tuple ⟨[zv (cf l).1,zv (cf l).2]⟩) []:=by
 refine da hg (fn:=f87) (by kernel_rfl) (by kernel_rfl) hz ⟨by decide,by decide⟩ rfl (Si z zn l.length cp (cf l).1 (cf l).2 _ ?_)
 by_cases h:64<l.length
 ·have hr:cf l=(0,5):=if_pos h
  have hc:decide ((l.length:Int)>64)=true:=by simp;omega
  rw[hr]
  refine⟨fun _=>?_,nC1 hc⟩
  (repeat' first|(with_reducible first|exact rfl|assumption|apply And.intro))
  exact q1
 ·have hr:cf l=scan (dF l) l.length 0:=if_neg h
  have hc:decide ((l.length:Int)>64)=false:=by simp;omega
  have hL:=MN hz hg l cp ht (by omega) (cf l) hr.symm
  refine⟨nC1 hc,fun _=>?_⟩
  (repeat' first|(with_reducible first|exact rfl|assumption|apply And.intro)|exact hL|intro hq)
  ·exact q1
  ·rw[hq.1,hq.2];exact q1
end
def cN(l:List ba)(i:Nat):Option Int:=match l[i]? with
 |some x=>if bS x.id=false then some 12 else if (l.take i).any (fun y=>y.id.data==x.id.data) then some 6 else if x.mode<0\/8<=x.mode then some 2 else none
 |none=>none
def bR(l:List ba):Int × Int:=if 64<l.length then (0,5) else scan (cN l) l.length 0
section
variable{z:T aa}{zn:Nat}
theorem MM(hz:au z zn)(hg:eN prog z gP)(l:List ba)(cp:Nat)(ht:bM z 3 (l.map ba.row))(hl:l.length<100000)(r:Int × Int)(hr:scan (cN l) l.length 0=r):
 ai prog (ah (ag f80) 0) 1 37 (IL l.length cp 0) [(0,bs [])] 1 z zn (Al.R (TJ z zn l.length cp r.1 r.2).l):=by
 refine ax hD hg (α:=Nat) 1 37 1 (fun i=>i<=l.length/\scan (cN l) (l.length - i) i=r) (fun i=>IL l.length cp i) (fun i=>[(0,bs (((l.take i).map ba.id).map .string))]) (fun _=>z) (fun _=>zn) (fun i=>l.length - i) _ (fun i hI=>?_) 0 ⟨Nat.zero_le _,hr⟩
 obtain⟨h1,h2⟩:=hI
 by_cases hi:i<l.length
 ·obtain⟨e,he⟩:=ht.ay (i:=i) (by simpa using hi)
  obtain⟨x,hx⟩: ∃x,l[i]? =some x:=⟨l[i],List.getElem?_eq_getElem hi⟩
  have hid:=Vz (ht.sz (i:=i) (r:=x.row) (s:=x.id) (by rw[List.getElem?_map,hx];rfl) (by simp))
  have hrow:aq prog (bg e (l.map ba.row).flatten) 86 (0+i*3)=some (.agg ⟨x.row⟩):=bD (P:=prog) (e:=e) (t:=86) (k:=i) (r:=x.row) (sz:=3) underlying86 rfl rfl (aM (row:=ba.row) l fun _=>rfl) (by rw[List.getElem?_map,hx];rfl)
  have hk:=Di x.id ((l.take i).map ba.id)
  have hps:=pw ((l.take i).map ba.id)
  have hany:Value.string x.id∈((l.take i).map ba.id).map Value.string↔(l.take i).any (fun y=>y.id.data==x.id.data)=true:=by
   rw[u7,List.any_eq_true,List.mem_map]
   exact⟨fun⟨y,q1,q2⟩=>⟨y,q1,by rw[q2];exact(jW _ _).2 rfl⟩,fun⟨y,q1,q2⟩=>⟨y,q1,(jW _ _).1 q2⟩⟩
  have hc:decide ((i:Int)<(l.length:Int))=true:=by simp;omega
  have ret: ∀e:Int,cN l i=some e->Al.R (TJ z zn l.length cp r.1 r.2).l ⟨.ret,[(2,iv i),(3,zv e)],[],1,z,zn⟩:=fun e h=>by
   have:r=((i:Int),e):=by rw[←h2,cY hi h]
   rw[this];exact bu trivial
  refine t100 (rrt z zn i l.length cp (bg e (l.map ba.row).flatten) x (((l.take i).map ba.id).map .string) (an _ _ _ _ _ _ _ _ _) ⟨fun _=>?_,fun h=>by rw[hc] at h;cases h⟩)
  (repeat' first|(with_reducible first|exact rfl|assumption|apply And.intro|exact hk.no|exact hk.ex|exact iK _ hps rfl|exact bF (by omega))|exact(rfl:gP _ _=_)|intro hq)
  all_goals try (have hm:=hk.EY (by with_reducible assumption);rw[hany] at hm)
  all_goals try (have hm:=hk.K6 (by with_reducible assumption);rw[hany] at hm)
  all_goals clear hk hps hrow hany he ht hz hr
  all_goals first
   |(refine ret _ ?_;clear ret h2;simp only[cN,hx];simp_all;done)
   |(refine ret _ ?_;clear ret h2;simp only[cN,hx];simp_all;omega)
   |with_reducible assumption
   |rfl
   |skip
  have hb:cN l i=none:=by
   clear ret h2
   simp only[cN,hx]
   rw[if_neg (by simp_all),if_neg hm,if_neg (by simp only[bS1] at*;omega)]
  refine⟨i+1,rfl,?_,rfl,rfl,rfl,⟨hi,by rw[←cD hi hb];exact h2⟩,by show l.length - (i+1)<l.length - i;omega⟩
  rw[fN]
  show _=[(0,bs (((l.take (i+1)).map ba.id).map .string))]
  rw[List.take_add_one,hx]
  simp
 ·have hc:decide ((i:Int)<(l.length:Int))=false:=by simp;omega
  refine t100 (rrt z zn i l.length cp ⟨[],0,0,0,true,true,0,true⟩ ⟨⟨#[]⟩,0,true⟩ (((l.take i).map ba.id).map .string) (an _ _ _ _ _ _ _ _ _) ⟨nC1 hc,fun _=>?_⟩)
  (repeat' first|(with_reducible first|exact rfl|assumption|apply And.intro))
  refine dv (bu ?_)
  rw[dL (by omega)] at h2
  rw[←h2]
  exact⟨rfl,rfl⟩
theorem NR(hz:au z zn)(hg:eN prog z gP)(l:List ba)(cp:Nat)(ht:bM z 3 (l.map ba.row)):
 A1 z zn 80 [tb 3 l.length cp] [] 0 0 (.tuple ⟨[zv (bR l).1,zv (bR l).2]⟩) []:=by
 refine da hg (fn:=f80) (by kernel_rfl) (by kernel_rfl) hz ⟨by decide,by decide⟩ rfl (Zl z zn l.length cp (bR l).1 (bR l).2 _ ?_)
 by_cases h:64<l.length
 ·have hr:bR l=(0,5):=if_pos h
  have hc:decide ((l.length:Int)>64)=true:=by simp;omega
  rw[hr]
  refine⟨fun _=>?_,nC1 hc⟩
  (repeat' first|(with_reducible first|exact rfl|assumption|apply And.intro))
  exact q1
 ·have hr:bR l=scan (cN l) l.length 0:=if_neg h
  have hc:decide ((l.length:Int)>64)=false:=by simp;omega
  have hL:=MM hz hg l cp ht (by omega) (bR l) hr.symm
  refine⟨nC1 hc,fun _=>?_⟩
  (repeat' first|(with_reducible first|exact rfl|assumption|apply And.intro)|exact hL|intro hq)
  ·exact q1
  ·rw[hq.1,hq.2];exact q1
theorem J7(hz:au z zn)(hg:eN prog z gP):A1 z zn 80 [ak] [] 0 0 (.tuple ⟨[I 0,I 0]⟩) []:=by
 have hL:ai prog (ah (ag f80) 0) 1 37 xl [(0,bs [])] 1 z zn (Al.R (TI z zn).l):=by
  refine ax hD hg (α:=Unit) 1 37 1 (fun _=>True) (fun _=>xl) (fun _=>[(0,bs [])]) (fun _=>z) (fun _=>zn) (fun _=>0) _ (fun i hI=>?_) () trivial
  refine t100 (Xo z zn (an _ _ _ _ _ _ _ _ _) ?_)
  (repeat' first|(with_reducible first|exact rfl|assumption|apply And.intro))
  exact bu trivial
 refine da hg (fn:=f80) (by kernel_rfl) (by kernel_rfl) hz ⟨by decide,by decide⟩ rfl (Zk z zn _ ?_)
 (repeat' first|(with_reducible first|exact rfl|assumption|apply And.intro|exact q1)|exact hL|intro hq)
end
section
variable{z:T aa}{zn:Nat}
theorem IZ(hz:au z zn)(hg:eN prog z gP)(l:List ba)(cp:Nat)(e:TypeId)(he:z.get 3=some (.ay (bg e (l.map ba.row).flatten)))(hl:l.length<100000)(i:Nat)(x:ba)(hx:l[i]? =some x)(b:Bool)(hb:b=(l.take i).any fun y=>y.id.data==x.id.data):
 ai prog (ah (ah (ag f88) 0) 0) 0 48 (xn l.length cp i 0) [] 0 z zn (Al.R (TM z zn l.length cp i b).l):=by
 have hil:i<l.length:=(List.getElem?_eq_some_iff.1 hx).1
 refine ax hD hg (α:=Nat) 0 48 0 (fun k=>k<=i/\((l.take k).any fun y=>y.id.data==x.id.data)=false) (fun k=>xn l.length cp i k) (fun _=>[]) (fun _=>z) (fun _=>zn) (fun k=>i - k) _ (fun k hI=>?_) 0 ⟨Nat.zero_le _,rfl⟩
 obtain⟨h1,h2⟩:=hI
 have hlen:=aM (row:=ba.row) (sz:=3) l fun _=>rfl
 have rx:aq prog (bg e (l.map ba.row).flatten) 9 (0+i*3+0)=some (.string x.id):=aS (r:=x.row) (j:=0) underlying9 rfl hlen (by rw[List.getElem?_map,hx];rfl) rfl
 by_cases hk:k<i
 ·obtain⟨y,hy⟩:=dh (l:=l) (i:=k) (by omega)
  have ry:aq prog (bg e (l.map ba.row).flatten) 9 (0+k*3+0)=some (.string y.id):=aS (r:=y.row) (j:=0) underlying9 rfl hlen (by rw[List.getElem?_map,hy];rfl) rfl
  have hc:decide ((k:Int)<(i:Int))=true:=by simp;omega
  refine t100 (Tl z zn i k l.length cp (bg e (l.map ba.row).flatten) x y (an _ _ _ _ _ _ _ _ _) ⟨fun _=>?_,nC1 hc⟩)
  (repeat' first|(with_reducible first|exact rfl|assumption|apply And.intro|exact(by omega:k<l.length)|exact bF (by omega))|intro hq)
  ·rw[pJ] at hq
   exact bu (by rw[hb];exact any_true hy hk hq)
  ·rw[pJ] at hq
   exact⟨k+1,rfl,rfl,rfl,rfl,rfl,⟨hk,by rw[jX hy,h2,hq];rfl⟩,by show i - (k+1)<i - k;omega⟩
 ·have hc:decide ((k:Int)<(i:Int))=false:=by simp;omega
  refine t100 (Tl z zn i k l.length cp (bg e (l.map ba.row).flatten) x x (an _ _ _ _ _ _ _ _ _) ⟨nC1 hc,fun _=>?_⟩)
  (repeat' first|(with_reducible first|exact rfl|assumption|apply And.intro))
  refine dv (bu ?_)
  rw[hb,←h2,show k=i by omega]
theorem MO(hz:au z zn)(hg:eN prog z gP)(l:List ba)(cp:Nat)(ht:bM z 3 (l.map ba.row))(hl:l.length<100000)(r:Int × Int)(hr:scan (cN l) l.length 0=r):
 ai prog (ah (ag f88) 0) 0 48 (y7 l.length cp 0) [] 0 z zn (Al.R (TN z zn l.length cp r.1 r.2).l):=by
 refine ax hD hg (α:=Nat) 0 48 0 (fun i=>i<=l.length/\scan (cN l) (l.length - i) i=r) (fun i=>y7 l.length cp i) (fun i=>[]) (fun _=>z) (fun _=>zn) (fun i=>l.length - i) _ (fun i hI=>?_) 0 ⟨Nat.zero_le _,hr⟩
 obtain⟨h1,h2⟩:=hI
 by_cases hi:i<l.length
 ·obtain⟨e,he⟩:=ht.ay (i:=i) (by simpa using hi)
  obtain⟨x,hx⟩:=dh hi
  have hid:=Vy (ht.sz (i:=i) (r:=x.row) (s:=x.id) (by rw[List.getElem?_map,hx];rfl) (by simp))
  have hlen:=aM (row:=ba.row) (sz:=3) l fun _=>rfl
  have hr:(l.map ba.row)[i]? =some x.row:=by rw[List.getElem?_map,hx];rfl
  have r0:aq prog (bg e (l.map ba.row).flatten) 9 (0+i*3+0)=some (.string x.id):=aS (j:=0) underlying9 rfl hlen hr rfl
  have r1:aq prog (bg e (l.map ba.row).flatten) 3 (0+i*3+1)=some (zv x.mode):=aS (j:=1) underlying3 rfl hlen hr rfl
  have hL:=IZ hz hg l cp e he hl i x hx _ rfl
  generalize hb:((l.take i).any fun y=>y.id.data==x.id.data)=b at hL
  have hc:decide ((i:Int)<(l.length:Int))=true:=by simp;omega
  have ret: ∀e:Int,cN l i=some e->Al.R (TN z zn l.length cp r.1 r.2).l ⟨.ret,[(2,iv i),(3,zv e)],[],0,z,zn⟩:=fun e h=>by
   have:r=((i:Int),e):=by rw[←h2,cY hi h]
   rw[this];exact bu trivial
  have hbad:cN l i=if bS x.id=false then some 12 else if b=true then some 6 else if x.mode<0\/8<=x.mode then some 2 else none:=by
   simp only[cN,hx,hb]
  refine t100 (rrr z zn i l.length cp (bg e (l.map ba.row).flatten) x b (an _ _ _ _ _ _ _ _ _) ⟨fun _=>?_,nC1 hc⟩)
  (repeat' first|(with_reducible first|exact rfl|assumption|apply And.intro|exact bF (by omega))|exact(rfl:gP _ _=_)|exact hL|intro hq)
  all_goals clear hL r0 r1 hr hlen he ht hz
  all_goals first
   |with_reducible assumption
   |rfl
   |(refine ret _ ?_;clear ret h2;rw[hbad];simp_all;done)
   |(refine ret _ ?_;clear ret h2;rw[hbad];simp_all;omega)
   |(have hb0:cN l i=none:=by
      clear ret h2
      rw[hbad,if_neg (by simp_all),if_neg (by simp_all),if_neg (by simp only[bS1] at*;omega)]
     exact⟨i+1,rfl,rfl,rfl,rfl,rfl,⟨hi,by rw[←cD hi hb0];exact h2⟩,by show l.length - (i+1)<l.length - i;omega⟩)
 ·have hc:decide ((i:Int)<(l.length:Int))=false:=by simp;omega
  refine t100 (rrr z zn i l.length cp ⟨[],0,0,0,true,true,0,true⟩ ⟨⟨#[]⟩,0,true⟩ true (an _ _ _ _ _ _ _ _ _) ⟨nC1 hc,fun _=>?_⟩)
  (repeat' first|(with_reducible first|exact rfl|assumption|apply And.intro))
  refine dv (bu ?_)
  rw[dL (by omega)] at h2
  rw[←h2]
  exact⟨rfl,rfl⟩
theorem GR(hz:au z zn)(hg:eN prog z gP)(l:List ba)(cp:Nat)(ht:bM z 3 (l.map ba.row)):
 A1 z zn 88 [tb 3 l.length cp] [] 0 0 (.tuple ⟨[zv (bR l).1,zv (bR l).2]⟩) []:=by
 refine da hg (fn:=f88) (by kernel_rfl) (by kernel_rfl) hz ⟨by decide,by decide⟩ rfl (frr z zn l.length cp (bR l).1 (bR l).2 _ ?_)
 by_cases h:64<l.length
 ·have hr:bR l=(0,5):=if_pos h
  have hc:decide ((l.length:Int)>64)=true:=by simp;omega
  rw[hr]
  refine⟨fun _=>?_,nC1 hc⟩
  (repeat' first|(with_reducible first|exact rfl|assumption|apply And.intro))
  exact q1
 ·have hr:bR l=scan (cN l) l.length 0:=if_neg h
  have hc:decide ((l.length:Int)>64)=false:=by simp;omega
  have hL:=MO hz hg l cp ht (by omega) (bR l) hr.symm
  refine⟨nC1 hc,fun _=>?_⟩
  (repeat' first|(with_reducible first|exact rfl|assumption|apply And.intro)|exact hL|intro hq)
  ·exact q1
  ·rw[hq.1,hq.2];exact q1
end
def zZ(n a b:Int):Bool:=decide (a<=n) && decide (n<=b)
theorem fold(n a b:Int):(decide (a<=n) && decide (n<=b))=zZ n a b:=rfl
def eA(l:List bJ)(i:Nat):Option Int:=match l[i]? with
 |some x=>if bS x.id=false then some 12 else if (l.take i).any (fun y=>y.id.data==x.id.data) then some 6 else if (zZ x.cB 0 1000000 && zZ x.b9 1 8 && zZ x.cy 1 16 && zZ x.aI 0 86400 && zZ x.kG 1 255)=false then some 2 else none
 |none=>none
def fJ(d w c:Int):Bool:=zZ d 0 1000000 && zZ w 0 86400 && zZ c 0 1000000
def bB(d w c:Int)(l:List bJ):Int × Int:=if fJ d w c=false then (-1,2) else if 16<l.length then (0,5) else scan (eA l) l.length 0
section
variable{z:T aa}{zn:Nat}
theorem MW(hz:au z zn)(hg:eN prog z gP)(l:List bJ)(cp:Nat)(ht:bM z 5 (l.map bJ.row))(hl:l.length<100000)(r:Int × Int)(hr:scan (eA l) l.length 0=r):
 ai prog (ah (ag f85) 0) 2 79 (Gc l.length cp 0) [(1,bs [])] 2 z zn (Al.R (TY z zn l.length cp r.1 r.2).l):=by
 refine ax hD hg (α:=Nat) 2 79 2 (fun i=>i<=l.length/\scan (eA l) (l.length - i) i=r) (fun i=>Gc l.length cp i) (fun i=>[(1,bs (((l.take i).map bJ.id).map .string))]) (fun _=>z) (fun _=>zn) (fun i=>l.length - i) _ (fun i hI=>?_) 0 ⟨Nat.zero_le _,hr⟩
 obtain⟨h1,h2⟩:=hI
 by_cases hi:i<l.length
 ·obtain⟨e,he⟩:=ht.ay (i:=i) (by simpa using hi)
  obtain⟨x,hx⟩: ∃x,l[i]? =some x:=⟨l[i],List.getElem?_eq_getElem hi⟩
  have hid:=Vz (ht.sz (i:=i) (r:=x.row) (s:=x.id) (by rw[List.getElem?_map,hx];rfl) (by simp))
  have hrow:aq prog (bg e (l.map bJ.row).flatten) 88 (0+i*6)=some (.agg ⟨x.row⟩):=bD (P:=prog) (e:=e) (t:=88) (k:=i) (r:=x.row) (sz:=6) underlying88 rfl rfl (aM (row:=bJ.row) l fun _=>rfl) (by rw[List.getElem?_map,hx];rfl)
  have hk:=Di x.id ((l.take i).map bJ.id)
  have hps:=pw ((l.take i).map bJ.id)
  have hany:Value.string x.id∈((l.take i).map bJ.id).map Value.string↔(l.take i).any (fun y=>y.id.data==x.id.data)=true:=by
   rw[u7,List.any_eq_true,List.mem_map]
   exact⟨fun⟨y,q1,q2⟩=>⟨y,q1,by rw[q2];exact(jW _ _).2 rfl⟩,fun⟨y,q1,q2⟩=>⟨y,q1,(jW _ _).1 q2⟩⟩
  have hc:decide ((i:Int)<(l.length:Int))=true:=by simp;omega
  have ret: ∀e:Int,eA l i=some e->Al.R (TY z zn l.length cp r.1 r.2).l ⟨.ret,[(2,iv i),(3,zv e)],[],2,z,zn⟩:=fun e h=>by
   have:r=((i:Int),e):=by rw[←h2,cY hi h]
   rw[this];exact bu trivial
  refine t100 (rpr z zn i l.length cp (bg e (l.map bJ.row).flatten) x (((l.take i).map bJ.id).map .string) (an _ _ _ _ _ _ _ _ _) ⟨fun _=>?_,fun h=>by rw[hc] at h;cases h⟩)
  (repeat' first|(with_reducible first|exact rfl|assumption|apply And.intro|exact hk.no|exact hk.ex|exact iK _ hps rfl|exact bF (by omega))|exact(rfl:gP _ _=_)|intro hq)
  all_goals try (have hm:=hk.EY (by with_reducible assumption);rw[hany] at hm)
  all_goals try (have hm:=hk.K6 (by with_reducible assumption);rw[hany] at hm)
  all_goals clear hk hps hrow hany he ht hz hr
  all_goals first
   |(refine ret _ ?_;clear ret h2;simp only[eA,hx];(try simp only[fold] at*);simp_all;done)
   |(refine ret _ ?_;clear ret h2;simp only[eA,hx];(try simp only[fold] at*);simp_all;omega)
   |with_reducible assumption
   |rfl
   |skip
  have hb:eA l i=none:=by
   clear ret h2
   simp only[eA,hx]
   rw[if_neg (by simp_all),if_neg hm,if_neg (by(try simp only[fold] at*);simp_all;done)]
  refine⟨i+1,rfl,?_,rfl,rfl,rfl,⟨hi,by rw[←cD hi hb];exact h2⟩,by show l.length - (i+1)<l.length - i;omega⟩
  rw[fN]
  show _=[(1,bs (((l.take (i+1)).map bJ.id).map .string))]
  rw[List.take_add_one,hx]
  simp
 ·have hc:decide ((i:Int)<(l.length:Int))=false:=by simp;omega
  refine t100 (rpr z zn i l.length cp ⟨[],0,0,0,true,true,0,true⟩ ⟨⟨#[]⟩,0,0,0,0,0⟩ (((l.take i).map bJ.id).map .string) (an _ _ _ _ _ _ _ _ _) ⟨nC1 hc,fun _=>?_⟩)
  (repeat' first|(with_reducible first|exact rfl|assumption|apply And.intro))
  refine dv (bu ?_)
  rw[dL (by omega)] at h2
  rw[←h2]
  exact⟨rfl,rfl⟩
theorem Rh(hz:au z zn)(hg:eN prog z gP)(l:List bJ)(cp:Nat)(ht:bM z 5 (l.map bJ.row))(d w c:Int):
 A1 z zn 85 [.agg ⟨[tb 5 l.length cp,zv d,zv w,zv c]⟩] [] 0 0 (.tuple ⟨[zv (bB d w c l).1,zv (bB d w c l).2]⟩) []:=by
 refine da hg (fn:=f85) (by kernel_rfl) (by kernel_rfl) hz ⟨by decide,by decide⟩ rfl (Zs z zn l.length cp (bB d w c l).1 (bB d w c l).2 d w c _ ?_)
 cases hf:fJ d w c with
 |false=>
  have hr:bB d w c l=(-1,2):=if_pos hf
  rw[hr]
  unfold fJ at hf
  (repeat' first|(with_reducible first|exact rfl|assumption|apply And.intro|exact q1)|exact(rfl:gP _ _=_)|exact q1|intro hq)
  all_goals (exfalso;(try simp only[fold] at*);simp_all;done)
 |true=>
  by_cases h:16<l.length
  ·have hr:bB d w c l=(0,5):=by unfold bB;rw[if_neg (by simp[hf]),if_pos h]
   have hc:decide ((l.length:Int)>16)=true:=by simp;omega
   rw[hr]
   unfold fJ at hf
   (repeat' first|(with_reducible first|exact rfl|assumption|apply And.intro|exact q1)|exact(rfl:gP _ _=_)|exact q1|intro hq)
   all_goals (exfalso;(try simp only[fold] at*);simp_all;done)
  ·have hr:bB d w c l=scan (eA l) l.length 0:=by unfold bB;rw[if_neg (by simp[hf]),if_neg h]
   have hc:decide ((l.length:Int)>16)=false:=by simp;omega
   have hL:=MW hz hg l cp ht (by omega) (bB d w c l) hr.symm
   unfold fJ at hf
   (repeat' first|(with_reducible first|exact rfl|assumption|apply And.intro|exact q1)|exact(rfl:gP _ _=_)|exact hL|intro hq)
   all_goals first|(rw[hq.1,hq.2];exact q1)|(exfalso;(try simp only[fold] at*);simp_all;done)|trace_state
end
def iI(p:Option bd)(x:bd):Bool:=match p with|some p=>decide (p.stop=x.stop)|none=>false
def early(p:Option bd)(x:bd):Bool:=match p with|some p=>decide (x.arr<p.dep)|none=>false
def bk(p:Option bd)(x:bd)(s lo hi:Int):Int:=
 if x.stop<0\/s<=x.stop then 9 else if iI p x=true then 13 else if x.arr<lo\/x.dep<x.arr\/hi<x.dep\/early p x=true then 10 else 0
def prev(l:List bd)(i:Nat):Option bd:=if i=0 then none else l[i - 1]?
def eS(l:List bd)(s lo hi:Int)(i:Nat):Option Int:=match l[i]? with
 |some x=>if bk (prev l i) x s lo hi=0 then none else some (bk (prev l i) x s lo hi)
 |none=>none
def bA(l:List bd)(s lo hi:Int):Int × Int:=if l.length<2\/32<l.length then (0,5) else scan (eS l s lo hi) l.length 0
theorem Ap{i:Nat}(h0:0<i)(h:i<1000000000):Value.int .i64 (IntKind.i64.wrap ((i:Int) - 1))=Value.int .i64 ((i:Int) - 1):=by
 have:IntKind.i64.wrap ((i:Int) - 1)=(i:Int) - 1:=by
  simp only[IntKind.wrap,IntKind.signed,IntKind.bits]
  simp
  omega
 rw[this]
theorem jL(σ:bb)(k n c:Nat):aJ (aj σ []) (tb k n c)=some (tb k n c):=by
 have:aj σ [] (256*k+510)=some (256*k+510):=by
  rw[jt (by unfold cM;omega)];rfl
 simp only[aJ,this]
section
variable{z:T aa}{zn:Nat}
theorem UI(hz:au z zn)(hg:eN prog z gP)(k:Nat)(l:List bd)(cp:Nat)(ht:bM z k (l.map bd.row))(hl:l.length<100000)(s lo hi:Int)(i:Nat)(x:bd)(hx:l[i]? =some x):
 A1 z zn 186 [tb k l.length cp,iv i,zv s,zv lo,zv hi] [] 0 0 (zv (bk (prev l i) x s lo hi)) []:=by
 have hil:i<l.length:=(List.getElem?_eq_some_iff.1 hx).1
 obtain⟨e,he⟩:=ht.ay (i:=i) (by simpa using hil)
 have hlen:=aM (row:=bd.row) (sz:=5) l fun _=>rfl
 have hrow:aq prog (bg e (l.map bd.row).flatten) 59 (0+i*5)=some (.agg ⟨x.row⟩):=bD (r:=x.row) (sz:=5) underlying59 rfl rfl hlen (by rw[List.getElem?_map,hx];rfl)
 obtain⟨p,hp0,hp⟩: ∃p:bd,(0<i->prev l i=some p)/\(0<i->l[i - 1]? =some p):=by
  by_cases h:0<i
  ·obtain⟨p,hp⟩:=dh (l:=l) (i:=i - 1) (by omega)
   exact⟨p,fun _=>by unfold prev;rw[if_neg (by omega),hp],fun _=>hp⟩
  ·exact⟨x,fun h'=>(h h').elim,fun h'=>(h h').elim⟩
 refine da hg (fn:=f186) (by kernel_rfl) (by kernel_rfl) hz ⟨by decide,by decide⟩ rfl (Zt z zn k i l.length cp s lo hi (bg e (l.map bd.row).flatten) x p _ ?_)
 rcases Nat.eq_zero_or_pos i with h0|h0
 ·have hpr:prev l i=none:=if_pos h0
  have hc:decide ((i:Int)>0)=false:=by simp;omega
  (repeat' first|(with_reducible first|exact rfl|assumption|apply And.intro)|intro hq)
  all_goals first
   |(exfalso;simp_all;done)
   |omega
   |(rw[hc];done)
   |(have hv:bk (prev l i) x s lo hi=9:=by rw[hpr];simp only[bk,iI,early];simp_all;(try omega)
     rw[hv];exact q1)
   |(have hv:bk (prev l i) x s lo hi=13:=by rw[hpr];simp only[bk,iI,early];simp_all;(try omega)
     rw[hv];exact q1)
   |(have hv:bk (prev l i) x s lo hi=10:=by rw[hpr];simp only[bk,iI,early];simp_all;(try omega)
     rw[hv];exact q1)
   |(have hv:bk (prev l i) x s lo hi=0:=by rw[hpr];simp only[bk,iI,early];simp_all;(try omega)
     rw[hv];exact q1)
 ·have hpr:=hp0 h0
  have r0:aq prog (bg e (l.map bd.row).flatten) 3 (0+(i - 1)*5+0)=some (zv p.stop):=aS (r:=p.row) (j:=0) underlying3 rfl hlen (by rw[List.getElem?_map,hp h0];rfl) rfl
  have r2:aq prog (bg e (l.map bd.row).flatten) 3 (0+(i - 1)*5+2)=some (zv p.dep):=aS (r:=p.row) (j:=2) underlying3 rfl hlen (by rw[List.getElem?_map,hp h0];rfl) rfl
  have hc:decide ((i:Int)>0)=true:=by simp;omega
  (repeat' first|(with_reducible first|exact rfl|assumption|apply And.intro|exact(by omega:i - 1<l.length))|intro hq)
  all_goals first
   |(exfalso;simp_all;done)
   |exact Ap h0 (by omega)
   |omega
   |(rw[hc];done)
   |(have hv:bk (prev l i) x s lo hi=9:=by rw[hpr];simp only[bk,iI,early];simp_all;(try omega)
     rw[hv];exact q1)
   |(have hv:bk (prev l i) x s lo hi=13:=by rw[hpr];simp only[bk,iI,early];simp_all;(try omega)
     rw[hv];exact q1)
   |(have hv:bk (prev l i) x s lo hi=10:=by rw[hpr];simp only[bk,iI,early];simp_all;(try omega)
     rw[hv];exact q1)
   |(have hv:bk (prev l i) x s lo hi=0:=by rw[hpr];simp only[bk,iI,early];simp_all;(try omega)
     rw[hv];exact q1)
theorem qO{l:List bd}{s lo hi:Int}{i:Nat}{x:bd}(hx:l[i]? =some x){e:Int}(he:bk (prev l i) x s lo hi=e)(h0:e≠0):eS l s lo hi i=some e:=by
 simp only[eS,hx,he];rw[if_neg h0]
theorem qP{l:List bd}{s lo hi:Int}{i:Nat}{x:bd}(hx:l[i]? =some x)(he:bk (prev l i) x s lo hi=0):eS l s lo hi i=none:=by
 simp only[eS,hx,he];rfl
theorem M8(hz:au z zn)(hg:eN prog z gP)(k:Nat)(l:List bd)(cp:Nat)(ht:bM z k (l.map bd.row))(hl:l.length<100000)(s lo hi:Int)(r:Int × Int)(hr:scan (eS l s lo hi) l.length 0=r):
 ai prog (ah (ag f130) 0) 0 36 (Gi k l.length cp s lo hi 0) [] 0 z zn (Al.R (XV z zn k l.length cp s lo hi r.1 r.2).l):=by
 refine ax hD hg (α:=Nat) 0 36 0 (fun i=>i<=l.length/\scan (eS l s lo hi) (l.length - i) i=r) (fun i=>Gi k l.length cp s lo hi i) (fun _=>[]) (fun _=>z) (fun _=>zn) (fun i=>l.length - i) _ (fun i hI=>?_) 0 ⟨Nat.zero_le _,hr⟩
 obtain⟨h1,h2⟩:=hI
 by_cases hi':i<l.length
 ·obtain⟨x,hx⟩:=dh hi'
  have hone:=UI hz hg k l cp ht hl s lo hi i x hx
  generalize he:bk (prev l i) x s lo hi=e at hone
  have hc:decide ((i:Int)<(l.length:Int))=true:=by simp;omega
  refine t100 (rck z zn k i l.length cp s lo hi e (an _ _ _ _ _ _ _ _ _) ⟨fun _=>?_,nC1 hc⟩)
  (repeat' first|(with_reducible first|exact rfl|assumption|apply And.intro|exact bF (by omega))|intro hq)
  ·have h0:e≠0:=by simpa using hq
   have:r=((i:Int),e):=by rw[←h2,cY hi' (qO hx he h0)]
   rw[this];exact bu trivial
  ·have h0:e=0:=by simpa using hq
   exact⟨i+1,rfl,rfl,rfl,rfl,rfl,⟨hi',by rw[←cD hi' (qP hx (he.trans h0))];exact h2⟩,by show l.length - (i+1)<l.length - i;omega⟩
 ·have hc:decide ((i:Int)<(l.length:Int))=false:=by simp;omega
  refine t100 (rck z zn k i l.length cp s lo hi 0 (an _ _ _ _ _ _ _ _ _) ⟨nC1 hc,fun _=>?_⟩)
  (repeat' first|(with_reducible first|exact rfl|assumption|apply And.intro))
  refine dv (bu ?_)
  rw[dL (by omega)] at h2
  rw[←h2]
  exact⟨rfl,rfl⟩
theorem N1(hz:au z zn)(hg:eN prog z gP)(k:Nat)(l:List bd)(cp:Nat)(ht:bM z k (l.map bd.row))(s lo hi:Int):
 A1 z zn 130 [tb k l.length cp,zv s,zv lo,zv hi] [] 0 0 (.tuple ⟨[zv (bA l s lo hi).1,zv (bA l s lo hi).2]⟩) []:=by
 refine da hg (fn:=f130) (by kernel_rfl) (by kernel_rfl) hz ⟨by decide,by decide⟩ rfl (fck z zn k l.length cp s lo hi (bA l s lo hi).1 (bA l s lo hi).2 _ ?_)
 by_cases h:l.length<2\/32<l.length
 ·have hr:bA l s lo hi=(0,5):=if_pos h
  rw[hr]
  (repeat' first|(with_reducible first|exact rfl|assumption|apply And.intro|exact q1)|exact q1|intro hq)
  all_goals first|(exfalso;simp_all;done)|(exfalso;simp_all;omega)
 ·have hr:bA l s lo hi=scan (eS l s lo hi) l.length 0:=if_neg h
  have hL:=M8 hz hg k l cp ht (by omega) s lo hi (bA l s lo hi) hr.symm
  (repeat' first|(with_reducible first|exact rfl|assumption|apply And.intro|exact q1)|exact hL|intro hq)
  all_goals first
   |(exfalso;simp_all;done)
   |(exfalso;simp_all;omega)
   |(rw[hq.1,hq.2];exact q1)
theorem MT(hz:au z zn)(hg:eN prog z gP)(k:Nat)(l:List bd)(cp:Nat)(ht:bM z k (l.map bd.row))(hl:l.length<100000)(s lo hi:Int)(r:Int × Int)(hr:scan (eS l s lo hi) l.length 0=r):
 ai prog (ah (ag f137) 0) 0 83 (Bf k l.length cp s lo hi 0) [] 0 z zn (Al.R (Qv z zn k l.length cp s lo hi r.2).l):=by
 refine ax hD hg (α:=Nat) 0 83 0 (fun i=>i<=l.length/\scan (eS l s lo hi) (l.length - i) i=r) (fun i=>Bf k l.length cp s lo hi i) (fun _=>[]) (fun _=>z) (fun _=>zn) (fun i=>l.length - i) _ (fun i hI=>?_) 0 ⟨Nat.zero_le _,hr⟩
 obtain⟨h1,h2⟩:=hI
 by_cases hil:i<l.length
 ·obtain⟨e,he⟩:=ht.ay (i:=i) (by simpa using hil)
  obtain⟨x,hx⟩:=dh hil
  have hlen:=aM (row:=bd.row) (sz:=5) l fun _=>rfl
  have hrow:aq prog (bg e (l.map bd.row).flatten) 59 (0+i*5)=some (.agg ⟨x.row⟩):=bD (r:=x.row) (sz:=5) underlying59 rfl rfl hlen (by rw[List.getElem?_map,hx];rfl)
  obtain⟨p,hp0,hp⟩: ∃p:bd,(0<i->prev l i=some p)/\(0<i->l[i - 1]? =some p):=by
   by_cases h:0<i
   ·obtain⟨p,hp⟩:=dh (l:=l) (i:=i - 1) (by omega)
    exact⟨p,fun _=>by unfold prev;rw[if_neg (by omega),hp],fun _=>hp⟩
   ·exact⟨x,fun h'=>(h h').elim,fun h'=>(h h').elim⟩
  have hc':decide ((i:Int)<(l.length:Int))=true:=by simp;omega
  have ret: ∀e:Int,bk (prev l i) x s lo hi=e->e≠0->Al.R (Qv z zn k l.length cp s lo hi r.2).l ⟨.ret,[(8,zv e)],[],0,z,zn⟩:=fun e he h0=>by
   have:r=((i:Int),e):=by rw[←h2,cY hil (qO hx he h0)]
   rw[this];exact bu trivial
  have kh:bk (prev l i) x s lo hi=0->an (fun i=>i<=l.length/\scan (eS l s lo hi) (l.length - i) i=r) (fun i=>Bf k l.length cp s lo hi i) (fun _=>[]) 0 (fun _=>z) (fun _=>zn) (fun i=>l.length - i) (Al.R (Qv z zn k l.length cp s lo hi r.2).l) i .normal (Bf k l.length cp s lo hi (i+1)) [] 0 z zn:=fun h0=>
   ⟨i+1,rfl,rfl,rfl,rfl,rfl,⟨hil,by rw[←cD hil (qP hx h0)];exact h2⟩,by show l.length - (i+1)<l.length - i;omega⟩
  refine t100 (rrc z zn k i l.length cp s lo hi (bg e (l.map bd.row).flatten) x p (an _ _ _ _ _ _ _ _ _) ⟨fun _=>?_,fun h=>(by rw[hc'] at h;cases h)⟩)
  clear h2
  rcases Nat.eq_zero_or_pos i with h0|h0
  ·have hpr:prev l i=none:=if_pos h0
   have hc:decide ((i:Int)>0)=false:=by simp;omega
   (repeat' first|(with_reducible first|exact rfl|assumption|apply And.intro|exact bF (by omega))|intro hq)
   all_goals first
    |(exfalso;clear ret kh;simp_all;done)
    |omega
    |(rw[hc];done)
    |(have hv:bk (prev l i) x s lo hi=9:=by clear ret kh;rw[hpr];simp only[bk,iI,early];simp_all;(try omega)
      exact ret _ hv (by decide))
    |(have hv:bk (prev l i) x s lo hi=13:=by clear ret kh;rw[hpr];simp only[bk,iI,early];simp_all;(try omega)
      exact ret _ hv (by decide))
    |(have hv:bk (prev l i) x s lo hi=10:=by clear ret kh;rw[hpr];simp only[bk,iI,early];simp_all;(try omega)
      exact ret _ hv (by decide))
    |(have hv:bk (prev l i) x s lo hi=0:=by clear ret kh;rw[hpr];simp only[bk,iI,early];simp_all;(try omega)
      exact kh hv)
  ·have hpr:=hp0 h0
   have r0:aq prog (bg e (l.map bd.row).flatten) 3 (0+(i - 1)*5+0)=some (zv p.stop):=aS (r:=p.row) (j:=0) underlying3 rfl hlen (by rw[List.getElem?_map,hp h0];rfl) rfl
   have r2:aq prog (bg e (l.map bd.row).flatten) 3 (0+(i - 1)*5+2)=some (zv p.dep):=aS (r:=p.row) (j:=2) underlying3 rfl hlen (by rw[List.getElem?_map,hp h0];rfl) rfl
   have hc:decide ((i:Int)>0)=true:=by simp;omega
   (repeat' first|(with_reducible first|exact rfl|assumption|apply And.intro|exact(by omega:i - 1<l.length)|exact bF (by omega))|intro hq)
   all_goals first
    |(exfalso;clear ret kh;simp_all;done)
    |exact Ap h0 (by omega)
    |omega
    |(rw[hc];done)
    |(have hv:bk (prev l i) x s lo hi=9:=by clear ret kh;rw[hpr];simp only[bk,iI,early];simp_all;(try omega)
      exact ret _ hv (by decide))
    |(have hv:bk (prev l i) x s lo hi=13:=by clear ret kh;rw[hpr];simp only[bk,iI,early];simp_all;(try omega)
      exact ret _ hv (by decide))
    |(have hv:bk (prev l i) x s lo hi=10:=by clear ret kh;rw[hpr];simp only[bk,iI,early];simp_all;(try omega)
      exact ret _ hv (by decide))
    |(have hv:bk (prev l i) x s lo hi=0:=by clear ret kh;rw[hpr];simp only[bk,iI,early];simp_all;(try omega)
      exact kh hv)
 ·have hc:decide ((i:Int)<(l.length:Int))=false:=by simp;omega
  refine t100 (rrc z zn k i l.length cp s lo hi ⟨[],0,0,0,true,true,0,true⟩ ⟨0,0,0,true,true⟩ ⟨0,0,0,true,true⟩ (an _ _ _ _ _ _ _ _ _) ⟨nC1 hc,fun _=>?_⟩)
  (repeat' first|(with_reducible first|exact rfl|assumption|apply And.intro))
  refine dv (bu ?_)
  rw[dL (by omega)] at h2
  rw[←h2]
theorem Kc(hz:au z zn)(hg:eN prog z gP)(k:Nat)(l:List bd)(cp:Nat)(ht:bM z k (l.map bd.row))(s lo hi:Int):
 A1 z zn 137 [tb k l.length cp,zv s,zv lo,zv hi] [] 0 0 (zv (bA l s lo hi).2) []:=by
 refine da hg (fn:=f137) (by kernel_rfl) (by kernel_rfl) hz ⟨by decide,by decide⟩ rfl (frc z zn k l.length cp s lo hi (bA l s lo hi).2 _ ?_)
 by_cases h:l.length<2\/32<l.length
 ·have hr:bA l s lo hi=(0,5):=if_pos h
  rw[hr]
  (repeat' first|(with_reducible first|exact rfl|assumption|apply And.intro|exact q1)|exact q1|intro hq)
  all_goals first|(exfalso;simp_all;done)|(exfalso;simp_all;omega)
 ·have hr:bA l s lo hi=scan (eS l s lo hi) l.length 0:=if_neg h
  have hL:=MT hz hg k l cp ht (by omega) s lo hi (bA l s lo hi) hr.symm
  (repeat' first|(with_reducible first|exact rfl|assumption|apply And.intro|exact q1)|exact hL|intro hq)
  all_goals first
   |(exfalso;simp_all;done)
   |(exfalso;simp_all;omega)
   |(rw[hq];exact q1)
end
theorem prun_bind{α β:Type}{P:Program}(f:α->Sem β): ∀s:Sem α,prun P (s>>=f)=(prun P s).bind fun a=>prun P (f a)
 | .pure a=>rfl
 | .program k=>prun_bind f (k P)
 | .mark m k=>prun_bind f k
 | .load _ _ _=>rfl
 | .store _ _ _ _=>rfl
 | .new _ _=>rfl
 | .shape _ _=>rfl
 | .freeze _ _ _=>rfl
 | .frozen _ _=>rfl
 | .getObj _ _=>rfl
 | .setObj _ _ _=>rfl
 | .choose _ _=>rfl
 | .sys _ _=>rfl
 | .halt _=>rfl
theorem prun_pure{α:Type}{P:Program}(a:α):prun P (pure a:Sem α)=some a:=rfl
theorem AP{α:Type}{P:Program}(c:Prop)[Decidable c](s t:Sem α):prun P (if c then s else t)=if c then prun P s else prun P t:=by split<;>rfl
theorem kD{P:Program}(d:Nat)(t:TypeId)(xs ys:Array Value)(fs:Array Field)(ht:prun P (underlying t)=some (.struct fs))(hp:P.stoodInHeld t=false):
 prun P (Op.equalIn (d+1) t (.agg xs) (.agg ys))=prun P (Op.eqFields d xs ys fs.toList):=by
 have hprog:prun P (program:Sem Program)=some P:=rfl
 simp only[Op.equalIn,prun_bind,ht,Option.bind_some,hprog,hp,Bool.false_eq_true,if_false]
 rw[←Array.forIn_toList]
 generalize fs.toList=fs
 clear ht
 induction fs with
 |nil=>simp[Op.eqFields,prun_pure]
 |cons f fs ih=>
  simp only[List.forIn_cons,Op.eqFields,prun_bind,AP]
  split
  ·cases prun P (part f.type xs f.offset) with
   |none=>rfl
   |some a=>
    simp only[Option.bind_some]
    cases prun P (part f.type ys f.offset) with
    |none=>rfl
    |some b=>
     simp only[Option.bind_some]
     cases prun P (Op.equalIn d f.type a b) with
     |none=>rfl
     |some r=>
      cases r
      ·simp only[Option.bind_some,Bool.not_false,if_true,prun_pure]
      ·simp only[Option.bind_some,Bool.not_true,Bool.false_eq_true,if_false,prun_pure]
       exact ih
  ·simp only[prun_pure,Option.bind_some]
   exact ih
theorem AQ{P:Program}{d:Nat}{xs ys:Array Value}{f:Field}{fs:List Field}{a b:Value}{r:Bool}(hn:f.name≠ "_")(ha:prun P (part f.type xs f.offset)=some a)(hb:prun P (part f.type ys f.offset)=some b)(hr:prun P (Op.equalIn d f.type a b)=some r):
 prun P (Op.eqFields d xs ys (f::fs))=if r=true then prun P (Op.eqFields d xs ys fs) else some false:=by
 simp only[Op.eqFields,if_pos hn,prun_bind,ha,hb,hr,Option.bind_some]
 cases r<;>rfl
def fx(f:Field):Bool × TypeId × Nat:=(decide (f.name≠ "_"),f.type,f.offset)
theorem Ur{f:Field}{t o:Nat}(h:fx f=(true,t,o)):f.name≠ "_" /\f.type=t/\f.offset=o:=by
 unfold fx at h
 simp only[Prod.mk.injEq,decide_eq_true_eq] at h
 exact h
theorem step_eq{P:Program}{d:Nat}{xs ys:Array Value}{f:Field}{fs:List Field}{t o:Nat}{a b:Value}{r:Bool}(hf:fx f=(true,t,o))(ha:prun P (part t xs o)=some a)(hb:prun P (part t ys o)=some b)(hr:prun P (Op.equalIn d t a b)=some r):
 prun P (Op.eqFields d xs ys (f::fs))=if r=true then prun P (Op.eqFields d xs ys fs) else some false:=by
 obtain⟨h1,h2,h3⟩:=Ur hf
 subst h2 h3
 exact AQ h1 ha hb hr
theorem OC{α β:Type}{g:α->β}{l:List α}{a b c:β}(h:l.map g=[a,b,c]): ∃x y z,l=[x,y,z]/\g x=a/\g y=b/\g z=c:=by
 match l,h with
 |[x,y,z],h=>simp at h;exact⟨x,y,z,rfl,h.1,h.2.1,h.2.2⟩
theorem Ui{α β:Type}{g:α->β}{l:List α}{a b c d:β}(h:l.map g=[a,b,c,d]): ∃x y z u,l=[x,y,z,u]/\g x=a/\g y=b/\g z=c/\g u=d:=by
 match l,h with
 |[x,y,z,u],h=>simp at h;exact⟨x,y,z,u,rfl,h.1,h.2.1,h.2.2.1,h.2.2.2⟩
theorem Hv(a b:Int):prun prog (Op.equalIn 9999 3 (zv a) (zv b))=some (decide (a=b)):=by kernel_rfl
theorem eqS(a b:ByteArray):prun prog (Op.equalIn 9999 9 (.string a) (.string b))=some (a.data==b.data):=by kernel_rfl
theorem NA(a b:Bool):prun prog (Op.equalIn 9999 4 (.bool a) (.bool b))=some (a==b):=by kernel_rfl
theorem QV(a b:ByteArray)(x y u w:Int):prun prog (Op.equal 225 (.agg ⟨[.string a,zv x,zv y]⟩) (.agg ⟨[.string b,zv u,zv w]⟩))=some ((a.data==b.data) && (decide (x=u) && decide (y=w))):=by
 have hm:(prog.fieldsOf 225).toList.map fx=[(true,9,0),(true,3,1),(true,3,2)]:=by kernel_rfl
 obtain⟨f0,f1,f2,hl,h0,h1,h2⟩:=OC hm
 have hs:prun prog (underlying 225)=some (.struct (prog.fieldsOf 225)):=by kernel_rfl
 show prun _ (Op.equalIn (9999+1) _ _ _)=_
 rw[kD _ _ _ _ _ hs (by kernel_rfl),hl,step_eq h0 (by kernel_rfl) (by kernel_rfl) (eqS a b),step_eq h1 (by kernel_rfl) (by kernel_rfl) (Hv x u),step_eq h2 (by kernel_rfl) (by kernel_rfl) (Hv y w)]
 cases (a.data==b.data)<;>cases decide (x=u)<;>cases decide (y=w)<;>rfl
theorem JF(a b c x y z:Int)(d w:Bool):prun prog (Op.equal 141 (.agg ⟨[zv a,zv b,zv c, .bool d]⟩) (.agg ⟨[zv x,zv y,zv z, .bool w]⟩))=some (decide (a=x) && (decide (b=y) && (decide (c=z) && (d==w)))):=by
 have hm:(prog.fieldsOf 141).toList.map fx=[(true,3,0),(true,3,1),(true,3,2),(true,4,3)]:=by kernel_rfl
 obtain⟨f0,f1,f2,f3,hl,h0,h1,h2,h3⟩:=Ui hm
 have hs:prun prog (underlying 141)=some (.struct (prog.fieldsOf 141)):=by kernel_rfl
 show prun _ (Op.equalIn (9999+1) _ _ _)=_
 rw[kD _ _ _ _ _ hs (by kernel_rfl),hl,step_eq h0 (by kernel_rfl) (by kernel_rfl) (Hv a x),step_eq h1 (by kernel_rfl) (by kernel_rfl) (Hv b y),step_eq h2 (by kernel_rfl) (by kernel_rfl) (Hv c z),step_eq h3 (by kernel_rfl) (by kernel_rfl) (NA d w)]
 cases decide (a=x)<;>cases decide (b=y)<;>cases decide (c=z)<;>cases (d==w)<;>rfl
theorem JG(a b x y:Int)(d w:Bool):prun prog (Op.equal 302 (.agg ⟨[zv a,zv b, .bool d]⟩) (.agg ⟨[zv x,zv y, .bool w]⟩))=some (decide (a=x) && (decide (b=y) && (d==w))):=by
 have hm:(prog.fieldsOf 302).toList.map fx=[(true,3,0),(true,3,1),(true,4,2)]:=by kernel_rfl
 obtain⟨f0,f1,f3,hl,h0,h1,h3⟩:=OC hm
 have hs:prun prog (underlying 302)=some (.struct (prog.fieldsOf 302)):=by kernel_rfl
 show prun _ (Op.equalIn (9999+1) _ _ _)=_
 rw[kD _ _ _ _ _ hs (by kernel_rfl),hl,step_eq h0 (by kernel_rfl) (by kernel_rfl) (Hv a x),step_eq h1 (by kernel_rfl) (by kernel_rfl) (Hv b y),step_eq h3 (by kernel_rfl) (by kernel_rfl) (NA d w)]
 cases decide (a=x)<;>cases decide (b=y)<;>cases (d==w)<;>rfl
end Go.Proofs.Nw
namespace Go.Proofs.Nw
open Go Go.AV Tryz Go.jA
set_option maxRecDepth 100000
theorem CT{P:Program}(d:Nat)(e sz:Nat)(xs ys:Array Value): ∀is:List Nat,
 prun P (Op.eqItems d e sz xs ys is)=match is with
  |[]=>some true
  |i::l=>(prun P (part e xs (i*sz))).bind fun a=>(prun P (part e ys (i*sz))).bind fun b=>(prun P (Op.equalIn d e a b)).bind fun r=>if r=true then prun P (Op.eqItems d e sz xs ys l) else some false
 |[]=>rfl
 |i::l=>by
  simp only[Op.eqItems,prun_bind]
  congr 1;funext a;congr 1;funext b;congr 1;funext r
  cases r<;>rfl
theorem CU{P:Program}(d:Nat)(t:TypeId)(xs ys:Array Value)(n e sz:Nat)(ht:prun P (underlying t)=some (.array n e))(hs:prun P (sizeOf e)=some sz):
 prun P (Op.equalIn (d+1) t (.agg xs) (.agg ys))=prun P (Op.eqItems d e sz xs ys (List.range n)):=by
 simp only[Op.equalIn,prun_bind,ht,hs,Option.bind_some]
 simp only[Std.Legacy.Range.forIn_eq_forIn_range',Std.Legacy.Range.size,Nat.sub_zero,Nat.add_one_sub_one,Nat.div_one,List.range_eq_range']
 generalize List.range' 0 n 1=is
 induction is with
 |nil=>simp[Op.eqItems,prun_pure]
 |cons i is ih=>
  simp only[List.forIn_cons,Op.eqItems,prun_bind,AP]
  cases prun P (part e xs (i*sz)) with
  |none=>rfl
  |some a=>
   simp only[Option.bind_some]
   cases prun P (part e ys (i*sz)) with
   |none=>rfl
   |some b=>
    simp only[Option.bind_some]
    cases prun P (Op.equalIn d e a b) with
    |none=>rfl
    |some r=>
     cases r
     ·simp only[Option.bind_some,Bool.not_false,if_true,prun_pure]
     ·simp only[Option.bind_some,Bool.not_true,Bool.false_eq_true,if_false,prun_pure]
      exact ih
theorem QY(a b c d x y u w:Int):prun prog (Op.equal 95 (.agg ⟨[zv a,zv b,zv c,zv d]⟩) (.agg ⟨[zv x,zv y,zv u,zv w]⟩))=some (decide (a=x) && (decide (b=y) && (decide (c=u) && decide (d=w)))):=by
 have ht:prun prog (underlying 95)=some (.array 4 3):=by kernel_rfl
 have hs:prun prog (sizeOf 3)=some 1:=by kernel_rfl
 have p0: ∀a b c d:Int,prun prog (part 3 ⟨[zv a,zv b,zv c,zv d]⟩ (0*1))=some (zv a):=fun a b c d=>by kernel_rfl
 have p1: ∀a b c d:Int,prun prog (part 3 ⟨[zv a,zv b,zv c,zv d]⟩ (1*1))=some (zv b):=fun a b c d=>by kernel_rfl
 have p2: ∀a b c d:Int,prun prog (part 3 ⟨[zv a,zv b,zv c,zv d]⟩ (2*1))=some (zv c):=fun a b c d=>by kernel_rfl
 have p3: ∀a b c d:Int,prun prog (part 3 ⟨[zv a,zv b,zv c,zv d]⟩ (3*1))=some (zv d):=fun a b c d=>by kernel_rfl
 show prun _ (Op.equalIn (9999+1) _ _ _)=_
 rw[CU _ _ _ _ _ _ _ ht hs,show List.range 4=[0,1,2,3] from rfl]
 simp only[CT,p0,p1,p2,p3,Hv,Option.bind_some,decide_eq_true_eq]
 by_cases h1:a=x<;>by_cases h2:b=y<;>by_cases h3:c=u<;>by_cases h4:d=w<;>simp[h1,h2,h3,h4]
abbrev kH(x:aH):Value:= .agg ⟨[zv x.fz1,zv x.fc,zv x.aB,zv x.tc]⟩
def mI(x y:aH):Bool:=decide (y.fz1=x.fz1) && (decide (y.fc=x.fc) && (decide (y.aB=x.aB) && decide (y.tc=x.tc)))
theorem Uk(x:aH)(l:List aH):lL 95 (kH x) (l.map kH):=⟨fun k' hk'=>by
 obtain⟨y,_,rfl⟩:=List.mem_map.1 hk'
 refine⟨rfl,_,QY _ _ _ _ _ _ _ _,?_⟩
 simp only[Bool.and_eq_true,decide_eq_true_eq,kH,Value.agg.injEq,Array.mk.injEq,List.cons.injEq,Value.int.injEq,true_and,and_true]⟩
theorem IH(x:aH)(l:List aH):kH x∈l.map kH↔l.any (mI x)=true:=by
 rw[List.mem_map,List.any_eq_true]
 simp only[mI,Bool.and_eq_true,decide_eq_true_eq,kH,Value.agg.injEq,Array.mk.injEq,List.cons.injEq,Value.int.injEq,true_and,and_true]
theorem Is(l:List aH): ∀k,k∈l.map kH->aD k=true:=fun k hk=>by
 obtain⟨t,_,rfl⟩:=List.mem_map.1 hk
 rfl
theorem QH(a:Int)(l:List Int):lL 3 (zv a) (l.map fun x=>zv x):=⟨fun k' hk'=>by
 obtain⟨y,_,rfl⟩:=List.mem_map.1 hk'
 exact⟨rfl,_,JI _ _,by simp⟩⟩
theorem EI(a:Int)(l:List Int):zv a∈(l.map fun x=>zv x)↔a∈l:=by
 rw[List.mem_map]
 constructor
 ·rintro⟨y,h1,h2⟩;injection h2 with _ h2;rw[←h2];exact h1
 ·intro h;exact⟨a,h,rfl⟩
theorem F4(l:List Int): ∀k,k∈(l.map fun x=>zv x)->aD k=true:=fun k hk=>by
 obtain⟨t,_,rfl⟩:=List.mem_map.1 hk
 rfl
theorem BU: ∀(l m:List (Int × Int)) (i:Nat),jg i (l++m)=jg i l++jg (i+l.length) m
 |[],m,i=>rfl
 |(a,b)::l,m,i=>by
  simp only[List.cons_append,jg,BU l m (i+1),List.length_cons]
  rw[show i+1+l.length=i+(l.length+1) by omega]
theorem xg(l:List (Int × Int))(a b:Int):aa.map (jg 0 l++[{key:=zv a,val:=zv b,born:=l.length}]) (l.length+1)=ve (l++[(a,b)]):=by
 unfold ve
 rw[BU,List.length_append]
 simp[jg]
theorem vG(σ:Nat->Option Nat): ∀(l:List (Int × Int)) (i:Nat),gU σ (jg i l)=some (jg i l)
 |[],_=>rfl
 |(a,b)::l,i=>by simp only[jg,gU,aJ,vG σ l (i+1)]
theorem A8(σ:Nat->Option Nat)(l:List (Int × Int)):aC σ (ve l)=some (ve l):=by simp only[aC,vG]
def oG:List (Int × Int)->Int->Option Int
 |[],_=>none
 |(a,b)::l,x=>if x=a then some b else oG l x
theorem OG: ∀(l:List (Int × Int)) (i j:Nat) (a:Int),∃r:Option (Nat × Int),aE prog 3 (zv a) (jg j l) i=some (r.map fun p=>(p.1,zv p.2))/\r.map (·.2)=oG l a
 |[],i,j,a=>⟨none,rfl,rfl⟩
 |(x,b)::l,i,j,a=>by
  simp only[jg,aE,JI,oG]
  by_cases h:a=x
  ·simp only[h,decide_true,if_pos]
   exact⟨some (i,b),rfl,rfl⟩
  ·simp only[h,decide_false,if_neg,if_false]
   exact OG l (i+1) (j+1) a
theorem Gv(l:List (Int × Int))(F T:Int)(h:oG l F=none):oG (l++[(F,T)])=ins (oG l) F T:=by
 funext x
 induction l with
 |nil=>rfl
 |cons p l ih=>
  obtain⟨a,b⟩:=p
  simp only[oG] at h
  split at h
  ·cases h
  ·rename_i hne
   simp only[List.cons_append,oG,ih h,ins]
   by_cases hx:x=a
   ·subst hx;simp[Ne.symm hne]
   ·simp[hx]
theorem XH(l:List (Int × Int)):we (jg 0 l) (oG l):=⟨fun a=>OG l 0 0 a,fun σ c=>by simp only[aC,vG]⟩
end Go.Proofs.Nw
namespace Go.Proofs.Nw
open Go Go.AV Tryz
set_option maxHeartbeats 4000000
set_option maxRecDepth 100000
def pP(k:Nat)(a:Option Addr)(n c len:Nat):Prop:=(a=none/\n=0/\c=0/\len=0)\/(a=some ⟨256*k+510,0,none⟩/\n=len)
def S8(k:Nat)(a:Option Addr)(n c len:Nat):Prop:=pP k a n c len\/((∃b o s,a=some ⟨b,o,some s⟩)/\n=0/\c=0/\len=0)
structure RunT where
 v:iZ
 calls:List bd
def sameKey(y x:RunT):Bool:=(y.v.id.data==x.v.id.data) && (decide (y.v.day=x.v.day) && decide (y.v.inst=x.v.inst))
def yI(ns:Nat)(x:RunT):Int:=(bA x.calls ns 0 3155932800).2
def dz(ns nr:Nat)(l:List RunT)(i:Nat):Option Int:=match l[i]? with
 |some x=>if bS x.v.id=false then some 12 else if x.v.wz< -1\/x.v.inst<0 then some 2 else if x.v.day<0\/36524<x.v.day then some 11
  else if x.v.eJ<0\/(nr:Int)<=x.v.eJ then some 9 else if yI ns x≠0 then some (yI ns x) else if (l.take i).any (fun y=>sameKey y x)=true then some 6 else none
 |none=>none
structure rh(z:T aa)(l:List RunT):Prop where
 HT:bM z 1 (l.map fun r=>r.v.row)
 sl: ∀(j:Nat)(r:RunT),l[j]? =some r->S8 (6+j) r.v.ca r.v.cn r.v.cc r.calls.length
 calls: ∀(j:Nat)(r:RunT),l[j]? =some r->bM z (6+j) (r.calls.map bd.row)
section
variable{z:T aa}{zn:Nat}
theorem Kq(hz:au z zn)(hg:eN prog z gP)(k:Nat)(l:List bd){a:Option Addr}{n c:Nat}(hs:S8 k a n c l.length)(ht:bM z k (l.map bd.row))(s lo hi:Int):
 A1 z zn 130 [.slice a n c,zv s,zv lo,zv hi] [] 0 0 (.tuple ⟨[zv (bA l s lo hi).1,zv (bA l s lo hi).2]⟩) []:=by
 rcases hs with (⟨rfl,rfl,rfl,h⟩|⟨rfl,rfl⟩)|⟨⟨b,o,sp,rfl⟩,rfl,rfl,h⟩
 rotate_left 2
 ·have hr:bA l s lo hi=(0,5):=if_pos (by omega)
  rw[hr]
  refine da hg (fn:=f130) (by kernel_rfl) (by kernel_rfl) hz ⟨by decide,by decide⟩ rfl (Zy z zn b o sp s lo hi _ ?_)
  (repeat' first|(with_reducible first|exact rfl|assumption|apply And.intro)|exact q1)
 ·have hr:bA l s lo hi=(0,5):=if_pos (by omega)
  rw[hr]
  refine da hg (fn:=f130) (by kernel_rfl) (by kernel_rfl) hz ⟨by decide,by decide⟩ rfl (Zx z zn s lo hi _ ?_)
  (repeat' first|(with_reducible first|exact rfl|assumption|apply And.intro)|exact q1)
 ·exact N1 hz hg k l c ht s lo hi
theorem GX(hz:au z zn)(hg:eN prog z gP)(k:Nat)(l:List bd){a:Option Addr}{n c:Nat}(hs:S8 k a n c l.length)(ht:bM z k (l.map bd.row))(s lo hi:Int):
 A1 z zn 137 [.slice a n c,zv s,zv lo,zv hi] [] 0 0 (zv (bA l s lo hi).2) []:=by
 rcases hs with (⟨rfl,rfl,rfl,h⟩|⟨rfl,rfl⟩)|⟨⟨b,o,sp,rfl⟩,rfl,rfl,h⟩
 rotate_left 2
 ·have hr:bA l s lo hi=(0,5):=if_pos (by omega)
  rw[hr]
  refine da hg (fn:=f137) (by kernel_rfl) (by kernel_rfl) hz ⟨by decide,by decide⟩ rfl (Zq z zn b o sp s lo hi _ ?_)
  (repeat' first|(with_reducible first|exact rfl|assumption|apply And.intro)|exact q1)
 ·have hr:bA l s lo hi=(0,5):=if_pos (by omega)
  rw[hr]
  refine da hg (fn:=f137) (by kernel_rfl) (by kernel_rfl) hz ⟨by decide,by decide⟩ rfl (Zp z zn s lo hi _ ?_)
  (repeat' first|(with_reducible first|exact rfl|assumption|apply And.intro)|exact q1)
 ·exact Kc hz hg k l c ht s lo hi
theorem pP.tv{k:Nat}{a:Option Addr}{n c len:Nat}(h:pP k a n c len)(σ:bb):aJ (aj σ []) (.slice a n c)=some (.slice a n c):=by
 rcases h with ⟨rfl,rfl,rfl,_⟩|⟨rfl,_⟩
 ·rfl
 ·exact jL σ k n c
theorem S8.tv{k:Nat}{a:Option Addr}{n c len:Nat}(h:S8 k a n c len)(σ:bb):aJ (aj σ []) (.slice a n c)=some (.slice a n c):=by
 rcases h with h|⟨⟨b,o,s,rfl⟩,rfl,rfl,_⟩
 ·exact h.tv σ
 ·rfl
theorem eP{σ:Nat->Option Nat}{v:Value}{l:List Value}(h:aJ σ v=some v)(k:aT σ l=some l):aT σ (v::l)=some (v::l):=by simp only[aT,h,k]
theorem QG(x:RunT)(l:List RunT):lL 225 x.v.key (l.map fun y=>y.v.key):=⟨fun k' hk'=>by
 obtain⟨y,_,rfl⟩:=List.mem_map.1 hk'
 refine⟨rfl,_,QV _ _ _ _ _ _,?_⟩
 simp only[Bool.and_eq_true,decide_eq_true_eq,jW]
 constructor
 ·rintro⟨h1,h2,h3⟩
  show Value.agg _=Value.agg _
  rw[h1,h2,h3]
 ·intro h
  have h:iZ.key x.v=iZ.key y.v:=h
  simp only[iZ.key,Value.agg.injEq,Array.mk.injEq,List.cons.injEq,Value.string.injEq,Value.int.injEq,true_and,and_true] at h
  exact h⟩
theorem mem_keys(x:RunT)(l:List RunT):x.v.key∈(l.map fun y=>y.v.key)↔l.any (fun y=>sameKey y x)=true:=by
 rw[List.mem_map,List.any_eq_true]
 constructor
 ·rintro⟨y,h1,h2⟩
  refine⟨y,h1,?_⟩
  have h:iZ.key y.v=iZ.key x.v:=h2
  simp only[iZ.key,Value.agg.injEq,Array.mk.injEq,List.cons.injEq,Value.string.injEq,Value.int.injEq,true_and,and_true] at h
  simp only[sameKey,Bool.and_eq_true,decide_eq_true_eq,jW]
  exact h
 ·rintro⟨y,h1,h2⟩
  refine⟨y,h1,?_⟩
  simp only[sameKey,Bool.and_eq_true,decide_eq_true_eq,jW] at h2
  show Value.agg _=Value.agg _
  rw[h2.1,h2.2.1,h2.2.2]
theorem CV(l:List RunT): ∀k,k∈(l.map fun y=>y.v.key)->aD k=true:=fun k hk=>by
 obtain⟨t,_,rfl⟩:=List.mem_map.1 hk
 rfl
theorem QC(hz:au z zn)(hg:eN prog z gP)(N:aw)(l:List RunT)(hl:l.length<100000)(hN:N.nu=l.length)(hZ:rh z l)(hnet: ∀σ:bb,aC (aj σ []) N.jy=some N.jy)(r:Int × Int)(hr:scan (dz N.ns N.nr l) l.length 0=r):
 ai prog (ah (ag f83) 0) 3 96 (Sh N.nu N.uc 0) [(0,N.jy),(1,dg 0 0 0),(2,bs [])] 3 z zn (Al.R (lpu z zn N (if r.2=0 then 0 else 2) r.1 r.2).l):=by
 refine ax hD hg (α:=Nat) 3 96 3 (fun i=>i<=l.length/\scan (dz N.ns N.nr l) (l.length - i) i=r) (fun i=>Sh N.nu N.uc i) (fun i=>[(0,N.jy),(1,dg 0 0 0),(2,bs ((l.take i).map fun y=>y.v.key))]) (fun _=>z) (fun _=>zn) (fun i=>l.length - i) _ (fun i hI=>?_) 0 ⟨Nat.zero_le _,hr⟩
 obtain⟨h1,h2⟩:=hI
 by_cases hi:i<l.length
 ·obtain⟨e,he⟩:=hZ.HT.ay (i:=i) (by simpa using hi)
  obtain⟨x,hx⟩:=dh hi
  have hid:=Vz (hZ.HT.sz (i:=i) (r:=x.v.row) (s:=x.v.id) (by rw[List.getElem?_map,hx];rfl) (by simp))
  have hlen:=aM (row:=fun r:RunT=>r.v.row) (sz:=8) l fun _=>rfl
  have hrow:aq prog (bg e (l.map fun r=>r.v.row).flatten) 53 (0+i*8)=some (.agg ⟨x.v.row⟩):=bD (r:=x.v.row) (sz:=8) underlying53 rfl rfl hlen (by rw[List.getElem?_map,hx];rfl)
  have hk:=QG x (l.take i)
  have hps:=CV (l.take i)
  have hany:=mem_keys x (l.take i)
  have hsl:=(hZ.sl i x hx).tv
  have hcalls:=Kq hz hg (6+i) x.calls (hZ.sl i x hx) (hZ.calls i x hx) N.ns 0 3155932800
  have hargs:aT (sig []) [.slice x.v.ca x.v.cn x.v.cc,iv N.ns,I 0,I 3155932800]=some [.slice x.v.ca x.v.cn x.v.cc,iv N.ns,I 0,I 3155932800]:=by
   have:=hsl []
   rw[pZ] at this
   exact eP this rfl
  have hbad:dz N.ns N.nr l i=if bS x.v.id=false then some 12 else if x.v.wz< -1\/x.v.inst<0 then some 2 else if x.v.day<0\/36524<x.v.day then some 11
   else if x.v.eJ<0\/(N.nr:Int)<=x.v.eJ then some 9 else if (bA x.calls N.ns 0 3155932800).2≠0 then some (bA x.calls N.ns 0 3155932800).2 else if (l.take i).any (fun y=>sameKey y x)=true then some 6 else none:=by
   unfold dz;rw[hx];rfl
  have hc:decide ((i:Int)<(N.nu:Int))=true:=by simp;omega
  have ret: ∀e:Int,dz N.ns N.nr l i=some e->e≠0->Al.R (lpu z zn N (if r.2=0 then 0 else 2) r.1 r.2).l ⟨.ret,[(2,ip 1)],[(1,dg 2 i e)],3,z,zn⟩:=fun e h h0=>by
   have:r=((i:Int),e):=by rw[←h2,cY hi h]
   rw[this]
   simp only[if_neg h0]
   exact bu trivial
  refine t100 (ru z zn i N (bg e (l.map fun r=>r.v.row).flatten) x.v ((l.take i).map fun y=>y.v.key) (bA x.calls N.ns 0 3155932800).1 (bA x.calls N.ns 0 3155932800).2 (an _ _ _ _ _ _ _ _ _) ⟨fun _=>?_,nC1 hc⟩)
  (repeat' first|(with_reducible first|exact rfl|assumption|apply And.intro|exact(by omega:i<N.nu)|exact hk.no|exact hk.ex|exact iK _ hps rfl|exact bF (by omega))|exact(rfl:gP _ _=_)|exact hcalls|exact hnet _|intro hq)
  all_goals try (have hm:=hk.EY (by with_reducible assumption);rw[hany] at hm)
  all_goals try (have hm:=hk.K6 (by with_reducible assumption);rw[hany] at hm)
  all_goals clear hk hps hrow hany he hz hr hnet hZ hargs hsl hlen
  all_goals first
   |(refine ret _ ?_ (by decide);clear ret h2 hcalls;rw[hbad];clear hbad;(repeat' split)<;>first|rfl|(exfalso;simp only[decide_eq_true_eq,decide_eq_false_iff_not,Bool.not_eq_true',Bool.not_eq_false',bS2] at*;omega)|(exfalso;simp_all;done))
   |(refine ret _ ?_ (by simpa using hq);clear ret h2 hcalls;rw[hbad];clear hbad;(repeat' split)<;>first|rfl|(exfalso;simp only[decide_eq_true_eq,decide_eq_false_iff_not,Bool.not_eq_true',Bool.not_eq_false',bS2] at*;omega)|(exfalso;simp_all;done))
   |(have hb:dz N.ns N.nr l i=none:=by
      clear ret h2 hcalls
      rw[hbad,if_neg (by simp_all),if_neg (by simp only[decide_eq_false_iff_not] at*;omega),if_neg (by simp only[decide_eq_false_iff_not] at*;omega),if_neg (by simp only[decide_eq_false_iff_not] at*;omega),if_neg (by simp_all),if_neg hm]
     refine⟨i+1,rfl,?_,rfl,rfl,rfl,⟨hi,by rw[←cD hi hb];exact h2⟩,by show l.length - (i+1)<l.length - i;omega⟩
     rw[fN]
     show _=[(0,N.jy),(1,dg 0 0 0),(2,bs ((l.take (i+1)).map fun y=>y.v.key))]
     rw[List.take_add_one,hx]
     simp)
 ·have hc:decide ((i:Int)<(N.nu:Int))=false:=by simp;omega
  refine t100 (ru z zn i N ⟨[],0,0,0,true,true,0,true⟩ ⟨0,0,0,⟨#[]⟩,0,true,true,none,0,0⟩ ((l.take i).map fun y=>y.v.key) 0 0 (an _ _ _ _ _ _ _ _ _) ⟨nC1 hc,fun _=>?_⟩)
  (repeat' first|(with_reducible first|exact rfl|assumption|apply And.intro))
  rw[dL (by omega)] at h2
  refine dv (bu ?_)
  rw[←h2]
  exact⟨rfl,rfl,rfl⟩
def cL(ns nr:Nat)(l:List RunT):Int × Int:=if 1024<l.length then (0,5) else scan (dz ns nr l) l.length 0
theorem Rb(hz:au z zn)(hg:eN prog z gP)(N:aw)(l:List RunT)(hN:N.nu=l.length)(hZ:rh z l)(hnet: ∀σ:bb,aC (aj σ []) N.jy=some N.jy):
 A1 z zn 83 [.agg ⟨N.mq⟩] [] 0 0 (.agg ⟨[zv (if (cL N.ns N.nr l).2=0 then 0 else 2),zv (cL N.ns N.nr l).1,zv (cL N.ns N.nr l).2]⟩) []:=by
 refine da hg (fn:=f83) (by kernel_rfl) (by kernel_rfl) hz ⟨by decide,by decide⟩ rfl (fu z zn N (if (cL N.ns N.nr l).2=0 then 0 else 2) (cL N.ns N.nr l).1 (cL N.ns N.nr l).2 _ ?_)
 by_cases h:1024<l.length
 ·have hr:cL N.ns N.nr l=(0,5):=if_pos h
  have hc:decide ((N.nu:Int)>1024)=true:=by simp;omega
  rw[hr]
  refine⟨fun _=>?_,nC1 hc⟩
  (repeat' first|(with_reducible first|exact rfl|assumption|apply And.intro)|exact(rfl:gP _ _=_)|exact q1)
 ·have hr:cL N.ns N.nr l=scan (dz N.ns N.nr l) l.length 0:=if_neg h
  have hc:decide ((N.nu:Int)>1024)=false:=by simp;omega
  have hL:=QC hz hg N l (by omega) hN hZ hnet (cL N.ns N.nr l) hr.symm
  refine⟨nC1 hc,fun _=>?_⟩
  (repeat' first|(with_reducible first|exact rfl|assumption|apply And.intro|exact q1)|exact hL|exact hnet _|intro hq)
  all_goals first|(rw[hq.1,hq.2.1,hq.2.2];exact q1)|trace_state
end
theorem AE{σ:Nat->Option Nat}(x:iZ)(h:aJ σ (.slice x.ca x.cn x.cc)=some (.slice x.ca x.cn x.cc)):aC σ (qc x)=some (qc x):=by
 have hr:aT σ x.row=some x.row:=by
  unfold iZ.row
  repeat (first|exact eP h rfl|refine eP rfl ?_)
 simp only[aC,hr]
section
variable{z:T aa}{zn:Nat}
theorem MR(hz:au z zn)(hg:eN prog z gP)(N:aw)(l:List RunT)(hl:l.length<100000)(hN:N.nu=l.length)(hZ:rh z l)(hnet: ∀σ:bb,aC (aj σ []) N.jy=some N.jy)(i:Nat)(x:RunT)(hx:l[i]? =some x)(b:Bool)(hb:b=(l.take i).any fun y=>sameKey y x):
 ai prog (ah (ag f89) 0) 2 79 (Be i 0) [(0,N.jy),(1,qc x.v)] 2 z zn (Al.R (TO z zn i N x.v b).l):=by
 have hil:i<l.length:=(List.getElem?_eq_some_iff.1 hx).1
 have hsl:=(hZ.sl i x hx).tv
 have hrun: ∀σ:bb,aC (aj σ []) (qc x.v)=some (qc x.v):=fun σ=>AE x.v (hsl σ)
 refine ax hD hg (α:=Nat) 2 79 2 (fun k=>k<=i/\((l.take k).any fun y=>sameKey y x)=false) (fun k=>Be i k) (fun _=>[(0,N.jy),(1,qc x.v)]) (fun _=>z) (fun _=>zn) (fun k=>i - k) _ (fun k hI=>?_) 0 ⟨Nat.zero_le _,rfl⟩
 obtain⟨h1,h2⟩:=hI
 by_cases hk:k<i
 ·obtain⟨e,he⟩:=hZ.HT.ay (i:=k) (by simp;omega)
  obtain⟨y,hy⟩:=dh (l:=l) (i:=k) (by omega)
  have hlen:=aM (row:=fun r:RunT=>r.v.row) (sz:=8) l fun _=>rfl
  have hrow:aq prog (bg e (l.map fun r=>r.v.row).flatten) 53 (0+k*8)=some (.agg ⟨y.v.row⟩):=bD (r:=y.v.row) (sz:=8) underlying53 rfl rfl hlen (by rw[List.getElem?_map,hy];rfl)
  have hc:decide ((k:Int)<(i:Int))=true:=by simp;omega
  have hsame:sameKey y x=((y.v.id.toList==x.v.id.toList) && ((y.v.day==x.v.day) && (y.v.inst==x.v.inst))):=by
   rw[pJ];rfl
  have kh:sameKey y x=false->an (fun k=>k<=i/\((l.take k).any fun y=>sameKey y x)=false) (fun k=>Be i k) (fun _=>[(0,N.jy),(1,qc x.v)]) 2 (fun _=>z) (fun _=>zn) (fun k=>i - k) (Al.R (TO z zn i N x.v b).l) k .normal (Be i (k+1)) [(0,N.jy),(1,qc x.v)] 2 z zn:=fun h=>
   ⟨k+1,rfl,rfl,rfl,rfl,rfl,⟨hk,by rw[jX hy,h2,h];rfl⟩,by show i - (k+1)<i - k;omega⟩
  refine t100 (rrk z zn i k N (bg e (l.map fun r=>r.v.row).flatten) x.v y.v (an _ _ _ _ _ _ _ _ _) ⟨fun _=>?_,nC1 hc⟩)
  (repeat' first|(with_reducible first|exact rfl|assumption|apply And.intro|exact(by omega:k<N.nu)|exact bF (by omega))|exact hnet _|exact hrun _|intro hq)
  all_goals first
   |(refine kh ?_;rw[hsame];simp_all;done)
   |(refine bu ?_;rw[hb];refine any_true hy hk ?_;rw[hsame];simp_all;done)
 ·have hc:decide ((k:Int)<(i:Int))=false:=by simp;omega
  refine t100 (rrk z zn i k N ⟨[],0,0,0,true,true,0,true⟩ x.v x.v (an _ _ _ _ _ _ _ _ _) ⟨nC1 hc,fun _=>?_⟩)
  (repeat' first|(with_reducible first|exact rfl|assumption|apply And.intro))
  refine dv (bu ?_)
  rw[hb,←h2,show k=i by omega]
theorem Rd(hz:au z zn)(hg:eN prog z gP)(N:aw)(l:List RunT)(hl:l.length<100000)(hN:N.nu=l.length)(hZ:rh z l)(hnet: ∀σ:bb,aC (aj σ []) N.jy=some N.jy)(i:Nat)(hi:i<l.length):
 A1 z zn 89 [.agg ⟨N.mq⟩,iv i] [] 0 0 (zv ((dz N.ns N.nr l i).getD 0)) []:=by
 obtain⟨e,he⟩:=hZ.HT.ay (i:=i) (by simpa using hi)
 obtain⟨x,hx⟩:=dh hi
 have hid:=Vy (hZ.HT.sz (i:=i) (r:=x.v.row) (s:=x.v.id) (by rw[List.getElem?_map,hx];rfl) (by simp))
 have hlen:=aM (row:=fun r:RunT=>r.v.row) (sz:=8) l fun _=>rfl
 have hrow:aq prog (bg e (l.map fun r=>r.v.row).flatten) 53 (0+i*8)=some (.agg ⟨x.v.row⟩):=bD (r:=x.v.row) (sz:=8) underlying53 rfl rfl hlen (by rw[List.getElem?_map,hx];rfl)
 have hsl:=(hZ.sl i x hx).tv
 have hrun: ∀σ:bb,aC (aj σ []) (qc x.v)=some (qc x.v):=fun σ=>AE x.v (hsl σ)
 have hcalls:=GX hz hg (6+i) x.calls (hZ.sl i x hx) (hZ.calls i x hx) N.ns 0 3155932800
 have hargs:aT (sig []) [.slice x.v.ca x.v.cn x.v.cc,iv N.ns,I 0,I 3155932800]=some [.slice x.v.ca x.v.cn x.v.cc,iv N.ns,I 0,I 3155932800]:=by
  have:=hsl []
  rw[pZ] at this
  exact eP this rfl
 have hL:=MR hz hg N l hl hN hZ hnet i x hx _ rfl
 have hbad:dz N.ns N.nr l i=if bS x.v.id=false then some 12 else if x.v.wz< -1\/x.v.inst<0 then some 2 else if x.v.day<0\/36524<x.v.day then some 11
  else if x.v.eJ<0\/(N.nr:Int)<=x.v.eJ then some 9 else if (bA x.calls N.ns 0 3155932800).2≠0 then some (bA x.calls N.ns 0 3155932800).2 else if (l.take i).any (fun y=>sameKey y x)=true then some 6 else none:=by
  unfold dz;rw[hx];rfl
 generalize ((l.take i).any fun y=>sameKey y x)=b at hL hbad
 generalize (bA x.calls N.ns 0 3155932800).2=ce at hcalls hbad
 refine da hg (fn:=f89) (by kernel_rfl) (by kernel_rfl) hz ⟨by decide,by decide⟩ rfl (Zj z zn i N (bg e (l.map fun r=>r.v.row).flatten) x.v ce b _ ?_)
 (repeat' first|(with_reducible first|exact rfl|assumption|apply And.intro|exact(by omega:i<N.nu))|exact(rfl:gP _ _=_)|exact hcalls|exact hL|exact hnet _|exact hrun _|intro hq)
 all_goals clear hL hcalls hrow he hz hnet hZ hargs hsl hlen hrun
 all_goals first
  |(have hv:(dz N.ns N.nr l i).getD 0=12:=by(rw[hbad];clear hbad;(repeat' split)<;>first|rfl|(exfalso;simp only[bS1,bS2] at*;omega)|(exfalso;simp_all;done))
    rw[hv];exact q1)
  |(have hv:(dz N.ns N.nr l i).getD 0=2:=by(rw[hbad];clear hbad;(repeat' split)<;>first|rfl|(exfalso;simp only[bS1,bS2] at*;omega)|(exfalso;simp_all;done))
    rw[hv];exact q1)
  |(have hv:(dz N.ns N.nr l i).getD 0=11:=by(rw[hbad];clear hbad;(repeat' split)<;>first|rfl|(exfalso;simp only[bS1,bS2] at*;omega)|(exfalso;simp_all;done))
    rw[hv];exact q1)
  |(have hv:(dz N.ns N.nr l i).getD 0=9:=by(rw[hbad];clear hbad;(repeat' split)<;>first|rfl|(exfalso;simp only[bS1,bS2] at*;omega)|(exfalso;simp_all;done))
    rw[hv];exact q1)
  |(have hv:(dz N.ns N.nr l i).getD 0=6:=by(rw[hbad];clear hbad;(repeat' split)<;>first|rfl|(exfalso;simp only[bS1,bS2] at*;omega)|(exfalso;simp_all;done))
    rw[hv];exact q1)
  |(have hv:(dz N.ns N.nr l i).getD 0=0:=by(rw[hbad];clear hbad;(repeat' split)<;>first|rfl|(exfalso;simp only[bS1,bS2] at*;omega)|(exfalso;simp_all;done))
    rw[hv];exact q1)
  |(have hv:(dz N.ns N.nr l i).getD 0=ce:=by(rw[hbad];clear hbad;(repeat' split)<;>first|rfl|(exfalso;simp only[bS1,bS2] at*;omega)|(exfalso;simp_all;done))
    rw[hv];exact q1)
end
end Go.Proofs.Nw
namespace Go.Proofs.Nw
open Go Go.AV Tryz Go.jA
set_option maxRecDepth 100000
def stays(l:List aH):List (Int × Int):=(l.filter (·.stay)).map fun x=>(x.fz1,x.aB)
def DA(x y:aH):Bool:=y.stay && ((y.fz1==x.fz1)||(y.aB==x.aB))
def dA(U:List RunT)(f:Int):Nat:=match U[f.toNat]? with|some r=>r.calls.length|none=>0
def ly(U:List RunT)(f c:Int):Int:=match U[f.toNat]? with|some r=>(match r.calls[c.toNat]? with|some x=>x.stop|none=>0)|none=>0
def iM(U:List RunT)(L:List aH)(i:Nat)(x:aH):Int:=
 if x.fz1<0\/(U.length:Int)<=x.fz1\/x.aB<0\/(U.length:Int)<=x.aB\/x.fz1=x.aB then 9
 else if x.fc<0\/(dA U x.fz1:Int)<=x.fc\/x.tc<0\/(dA U x.aB:Int)<=x.tc then 9
 else if ly U x.fz1 x.fc≠ly U x.aB x.tc then 13
 else if x.stay=true/\(x.fc+1≠dA U x.fz1\/x.tc≠0) then 19
 else if x.stay=true/\(L.take i).any (DA x)=true then 19
 else if x.stay=true/\dM (gG (stays (L.take i))) x.fz1 (i+1) x.aB=true then 19
 else if (L.take i).any (mI x)=true then 6 else 0
def ft(U:List RunT)(L:List aH)(i:Nat):Option Int:=match L[i]? with
 |some x=>if iM U L i x=0 then none else some (iM U L i x)
 |none=>none
def bK(U:List RunT)(L:List aH):Int × Int:=if 1024<L.length then (0,5) else scan (ft U L) L.length 0
theorem lP(l:List aH)(x:aH):stays (l++[x])=if x.stay=true then stays l++[(x.fz1,x.aB)] else stays l:=by
 unfold stays
 rw[List.filter_append]
 cases h:x.stay<;>simp[h]
theorem Gw{l:List (Int × Int)}{a:Int}:oG l a=none↔ ∀p∈l,p.1≠a:=by
 induction l with
 |nil=>simp[oG]
 |cons p l ih=>
  obtain⟨x,b⟩:=p
  simp only[oG]
  by_cases h:a=x
  ·simp[h]
  ·simp only[if_neg h,ih,List.mem_cons,forall_eq_or_imp]
   exact⟨fun k=>⟨fun e=>h e.symm,k⟩,fun k=>k.2⟩
theorem Fp(l:List aH)(x:aH):l.any (DA x)=false↔oG (stays l) x.fz1=none/\x.aB ∉ (stays l).map (·.2):=by
 rw[Gw]
 unfold stays
 simp only[List.any_eq_false,DA,Bool.and_eq_true,Bool.or_eq_true,beq_iff_eq,List.mem_map,List.mem_filter,not_and,not_or,not_exists,forall_exists_index,and_imp]
 constructor
 ·intro h
  exact⟨fun p y h1 h2 h3 e=>(h y h1 h2).1 (by subst h3;exact e),fun p y h1 h2 h3 e=>(h y h1 h2).2 (by subst h3;exact e)⟩
 ·rintro⟨h1,h2⟩ y hy hs
  exact⟨fun e=>h1 _ y hy hs rfl e,fun e=>h2 _ y hy hs rfl e⟩
structure zV(l:List aH):Prop where
 eq:oG (stays l)=gG (stays l)
 dep: ∀f,∃d,wR (gG (stays l)) f d
 pos: ∀p∈stays l,0<=p.1
theorem Iz:zV []:=⟨rfl,fun f=>⟨0, .nil rfl⟩,fun p hp=>by cases hp⟩
theorem zV.neg{l:List aH}(h:zV l):gG (stays l) (-1)=none:=by
 cases hc:gG (stays l) (-1) with
 |none=>rfl
 |some a=>have:=h.pos _ (w8 hc);simp at this
theorem FQ(l:List aH):(stays l).length<=l.length:=by
 unfold stays;rw[List.length_map];exact List.length_filter_le _ _
theorem zV.leads{l:List aH}(h:zV l){a b:Int}(hb:0<=b){n:Nat}(hn:l.length<=n):dM (gG (stays l)) b (n+1) a=true↔j6 (gG (stays l)) b a:=by
 obtain⟨d,hd⟩:=h.dep a
 refine Dg hb h.neg hd _ ?_
 have:=hd.Nf ((stays l).map (·.1)) fun x hx=>Mm hx
 rw[List.length_map] at this
 have:=FQ l
 omega
theorem zV.snoc{l:List aH}(h:zV l){U:List RunT}{L:List aH}{i:Nat}{x:aH}(hl:l=L.take i)(hi:i<=L.length)(he:iM U L i x=0):zV (l++[x]):=by
 cases hs:x.stay with
 |false=>
  have e:stays (l++[x])=stays l:=by rw[lP,hs];rfl
  exact⟨by rw[e];exact h.eq,by rw[e];exact h.dep,by rw[e];exact h.pos⟩
 |true=>
  have e:stays (l++[x])=stays l++[(x.fz1,x.aB)]:=by rw[lP,hs];rfl
  unfold iM at he
  split at he
  ·cases he
  rename_i c1
  split at he
  ·cases he
  rename_i c2
  split at he
  ·cases he
  split at he
  ·cases he
  split at he
  ·cases he
  rename_i c5
  split at he
  ·cases he
  rename_i c6
  rw[hs] at c5 c6
  have c5:(L.take i).any (DA x)=false:=by simpa using c5
  rw[←hl] at c5 c6
  obtain⟨h1,h2⟩:=(Fp l x).1 c5
  have hn:gG (stays l) x.fz1=none:=by rw[←h.eq];exact h1
  have hlen:l.length<=i:=by rw[hl,List.length_take];omega
  have hnl: ¬j6 (gG (stays l)) x.fz1 x.aB:=fun k=>c6 ⟨rfl,(h.leads (by omega) hlen).2 k⟩
  refine⟨?_,?_,?_⟩
  ·rw[e,Gv _ _ _ h1,n9,h.eq]
  ·rw[e,n9]
   exact ND h.dep hn (by omega) hnl
  ·rw[e]
   intro p hp
   rcases List.mem_append.1 hp with q|q
   ·exact h.pos p q
   ·simp at q;subst q;simp;omega
theorem w7(U:List RunT)(L:List aH): ∀k,k<=L.length->(∀j,j<k->ft U L j=none)->zV (L.take k)
 |0,_,_=>Iz
 |k+1,hk,h=>by
  obtain⟨x,hx⟩:=dh (l:=L) (i:=k) (by omega)
  rw[List.take_add_one,hx]
  refine(w7 U L k (by omega) fun j hj=>h j (by omega)).snoc (U:=U) rfl (by omega) ?_
  have:=h k (by omega)
  unfold ft at this
  rw[hx] at this
  simpa using this
end Go.Proofs.Nw
namespace Go.Proofs.Nw
open Go Go.AV Tryz Go.jA
set_option maxHeartbeats 4000000
set_option maxRecDepth 100000
def Cx(L:List aH)(k:Nat)(f:Int):Int:=(gG (stays (L.take k)) f).getD (-1)
theorem IE{L:List aH}{k:Nat}{y:aH}(hy:L[k]? =some y)(f:Int):Cx L (k+1) f=if y.stay=true/\y.fz1=f then y.aB else Cx L k f:=by
 unfold Cx
 rw[List.take_add_one,hy]
 show(gG (stays (L.take k++[y])) f).getD (-1)=_
 rw[lP]
 cases hs:y.stay with
 |false=>simp
 |true=>
  simp only[if_true,n9,ins]
  by_cases h:f=y.fz1
  ·simp[h]
  ·simp[h,Ne.symm h]
section
variable{z:T aa}{zn:Nat}
theorem I0(hz:au z zn)(hg:eN prog z gP)(N:aw)(L:List aH)(hl:L.length<100000)(hN:N.nl=L.length)(hL:bM z 0 (L.map aH.row))(hnet: ∀σ:bb,aC (aj σ []) (N.cC N.u0 N.l1)=some (N.cC N.u0 N.l1))(i j:Nat)(hi:i<=L.length)(f tt:Int):
 ai prog (ah (ah (ag f138) 0) 0) 1 48 (sR i f tt j (-1) 0) [(0,N.cC N.u0 N.l1)] 1 z zn (Al.R (OB z zn N i f tt j (Cx L i f) (-1)).l):=by
 refine ax hD hg (α:=Nat) 1 48 1 (fun k=>k<=i) (fun k=>sR i f tt j (Cx L k f) k) (fun _=>[(0,N.cC N.u0 N.l1)]) (fun _=>z) (fun _=>zn) (fun k=>i - k) _ (fun k hk=>?_) 0 (Nat.zero_le _)
 by_cases h:k<i
 ·obtain⟨e,he⟩:=hL.ay (i:=k) (by simp;omega)
  obtain⟨y,hy⟩:=dh (l:=L) (i:=k) (by omega)
  have hlen:=aM (row:=aH.row) (sz:=5) L fun _=>rfl
  have hrow:(L.map aH.row)[k]? =some y.row:=by rw[List.getElem?_map,hy];rfl
  have r4:aq prog (bg e (L.map aH.row).flatten) 4 (0+k*5+4)=some (.bool y.stay):=aS underlying4 rfl hlen hrow rfl
  have r0:aq prog (bg e (L.map aH.row).flatten) 3 (0+k*5+0)=some (zv y.fz1):=aS underlying3 rfl hlen hrow rfl
  have r2:aq prog (bg e (L.map aH.row).flatten) 3 (0+k*5+2)=some (zv y.aB):=aS underlying3 rfl hlen hrow rfl
  have hn:=IE hy f
  have hc:decide ((k:Int)<(i:Int))=true:=by simp;omega
  have kh: ∀m:Int,Cx L (k+1) f=m->an (fun k=>k<=i) (fun k=>sR i f tt j (Cx L k f) k) (fun _=>[(0,N.cC N.u0 N.l1)]) 1 (fun _=>z) (fun _=>zn) (fun k=>i - k) (Al.R (OB z zn N i f tt j (Cx L i f) (-1)).l) k .normal (sR i f tt j m (k+1)) [(0,N.cC N.u0 N.l1)] 1 z zn:=fun m hm=>
   ⟨k+1,by rw[←hm],rfl,rfl,rfl,rfl,(by omega:k+1<=i),by show i - (k+1)<i - k;omega⟩
  refine t100 (rlk z zn i k j N (bg e (L.map aH.row).flatten) y f tt (Cx L k f) (an _ _ _ _ _ _ _ _ _) ⟨fun _=>?_,nC1 hc⟩)
  (repeat' first|(with_reducible first|exact rfl|assumption|apply And.intro|exact(by omega:k<N.nl)|exact bF (by omega))|exact hnet _|intro hq)
  all_goals (refine kh _ ?_;rw[hn];simp_all;done)
 ·have hc:decide ((k:Int)<(i:Int))=false:=by simp;omega
  refine t100 (rlk z zn i k j N ⟨[],0,0,0,true,true,0,true⟩ ⟨0,0,0,0,true⟩ f tt (Cx L k f) (an _ _ _ _ _ _ _ _ _) ⟨nC1 hc,fun _=>?_⟩)
  (repeat' first|(with_reducible first|exact rfl|assumption|apply And.intro)|exact hnet _)
  rw[show k=i by omega]
  exact bu trivial
theorem Jg(nx:Int->Option Int)(t:Int): ∀(n:Nat)(f:Int),dM nx t (n+1) f=if (nx f).getD (-1)=t then true else dM nx t n ((nx f).getD (-1)):=fun _ _=>rfl
theorem MQ(hz:au z zn)(hg:eN prog z gP)(N:aw)(L:List aH)(hl:L.length<100000)(hN:N.nl=L.length)(hL:bM z 0 (L.map aH.row))(hnet: ∀σ:bb,aC (aj σ []) (N.cC N.u0 N.l1)=some (N.cC N.u0 N.l1))(i:Nat)(hi:i<=L.length)(f tt:Int)(b:Bool)(hb:b=dM (gG (stays (L.take i))) tt (i+1) f):
 ai prog (ah (ag f138) 0) 1 48 (Gb i f tt 0) [(0,N.cC N.u0 N.l1)] 1 z zn (Al.R (XN z zn N i f tt b).l):=by
 refine ax hD hg (α:=Nat × Int) 1 48 1 (fun x=>x.1<=i+1/\b=dM (gG (stays (L.take i))) tt (i+1 - x.1) x.2) (fun x=>Gb i x.2 tt x.1) (fun _=>[(0,N.cC N.u0 N.l1)]) (fun _=>z) (fun _=>zn) (fun x=>i+1 - x.1) _ (fun x hx=>?_) (0,f) ⟨Nat.zero_le _,hb⟩
 obtain⟨j,f⟩:=x
 obtain⟨h1,h2⟩:=hx
 simp only at h1 h2
 by_cases h:j<=i
 ·have hc:decide ((j:Int)<=(i:Int))=true:=by simp;omega
  have hin:=I0 hz hg N L hl hN hL hnet i j hi f tt
  rw[show i+1 - j=(i - j)+1 by omega,Jg] at h2
  refine t100 (rlj z zn i j N (Cx L i f) f tt (an _ _ _ _ _ _ _ _ _) ⟨fun _=>?_,nC1 hc⟩)
  (repeat' first|(with_reducible first|exact rfl|assumption|apply And.intro|exact bF (by omega))|exact hin|exact hnet _|intro hq)
  all_goals first
   |(refine bu ?_
     have e:Cx L i f=tt:=by simp_all
     unfold Cx at e
     rw[h2,if_pos e];done)
   |(have e:Cx L i f≠tt:=by simp_all
     unfold Cx at e
     rw[if_neg e] at h2
     exact⟨(j+1,Cx L i f),rfl,rfl,rfl,rfl,rfl,⟨by show j+1<=i+1;omega,by show b=dM _ _ (i+1 - (j+1)) _;rw[h2,show i+1 - (j+1)=i - j by omega];rfl⟩,by show i+1 - (j+1)<i+1 - j;omega⟩)
 ·have hc:decide ((j:Int)<=(i:Int))=false:=by simp;omega
  refine t100 (rlj z zn i j N 0 f tt (an _ _ _ _ _ _ _ _ _) ⟨nC1 hc,fun _=>?_⟩)
  (repeat' first|(with_reducible first|exact rfl|assumption|apply And.intro))
  refine dv (bu ?_)
  rw[h2,show i+1 - j=0 by omega];rfl
theorem J9(hz:au z zn)(hg:eN prog z gP)(N:aw)(L:List aH)(hl:L.length<100000)(hN:N.nl=L.length)(hL:bM z 0 (L.map aH.row))(hnet: ∀σ:bb,aC (aj σ []) (N.cC N.u0 N.l1)=some (N.cC N.u0 N.l1))(i:Nat)(hi:i<=L.length)(f tt:Int):
 A1 z zn 138 [.agg ⟨N.dX N.u0 N.l1⟩,iv i,zv f,zv tt] [] 0 0 (.bool (dM (gG (stays (L.take i))) tt (i+1) f)) []:=by
 have h:=MQ hz hg N L hl hN hL hnet i hi f tt _ rfl
 refine da hg (fn:=f138) (by kernel_rfl) (by kernel_rfl) hz ⟨by decide,by decide⟩ rfl (frl z zn i N f tt (dM (gG (stays (L.take i))) tt (i+1) f) _ ?_)
 (repeat' first|(with_reducible first|exact rfl|assumption|apply And.intro)|exact h|exact hnet _|intro hq)
 all_goals first
  |(have e:dM (gG (stays (L.take i))) tt (i+1) f=true:=by assumption
    rw[e];exact q1)
  |(have e:dM (gG (stays (L.take i))) tt (i+1) f=false:=by assumption
    rw[e];exact q1)
end
theorem HN{n:Nat}(h:n<1000000000):Value.int .i64 (IntKind.i64.wrap ((n:Int) - 1))=Value.int .i64 ((n:Int) - 1):=by
 have:IntKind.i64.wrap ((n:Int) - 1)=(n:Int) - 1:=by
  simp only[IntKind.wrap,IntKind.signed,IntKind.bits]
  simp
  omega
 rw[this]
theorem uL{z:T aa}{zn eI:Nat}{v v':Value}{zo:bN}(h:v'=v):Q1 z zn eI v zo v' zo eI z zn:=by subst h;exact q1
structure gu(U:List RunT):Prop where
 len:U.length<=1024
 calls: ∀r,r∈U->2<=r.calls.length/\r.calls.length<=32
section
variable{z:T aa}{zn:Nat}
theorem yH{U:List RunT}(hZ:rh z U)(hU:gu U)(e0:TypeId)(y:Int): ∃(ca:Nat)(kb:aR),0<=y->y<U.length->aq prog (bg e0 (U.map fun r=>r.v.row).flatten) 51 (0+y.toNat*8+7)=some (tb (6+y.toNat) (dA U y) ca)/\z.get (6+y.toNat)=some (.ay kb)
 /\ ∀c:Int,0<=c->c<dA U y->aq prog kb 3 (0+c.toNat*5+0)=some (zv (ly U y c)):=by
 by_cases h:0<=y/\y<U.length
 ·obtain⟨r,hr⟩:=dh (l:=U) (i:=y.toNat) (by omega)
  have hc:=hU.calls r (List.mem_of_getElem? hr)
  have hu:dA U y=r.calls.length:=by unfold dA;rw[hr]
  obtain⟨e,he⟩:=(hZ.calls _ r hr).ay (i:=0) (by simp;omega)
  have hs:r.v.ca=some ⟨256*(6+y.toNat)+510,0,none⟩/\r.v.cn=r.calls.length:=by
   rcases hZ.sl _ r hr with (⟨_,_,_,h4⟩|h)|⟨_,_,_,h4⟩
   ·omega
   ·exact h
   ·omega
  refine⟨r.v.cc,_,fun _ _=>⟨?_,he,fun c h0 h1=>?_⟩⟩
  ·have hlen:=aM (row:=fun r:RunT=>r.v.row) (sz:=8) U fun _=>rfl
   have:=aS (P:=prog) (e:=e0) (t:=51) (k:=y.toNat) (j:=7) (r:=r.v.row) (v:= .slice r.v.ca r.v.cn r.v.cc) underlying51 rfl hlen (by rw[List.getElem?_map,hr];rfl) rfl
   rw[this,hs.1,hs.2,hu]
  ·obtain⟨x,hx⟩:=dh (l:=r.calls) (i:=c.toNat) (by omega)
   have hst:ly U y c=x.stop:=by unfold ly;rw[hr];simp only;rw[hx]
   rw[hst]
   exact aS underlying3 rfl (aM (row:=bd.row) (sz:=5) r.calls fun _=>rfl) (by rw[List.getElem?_map,hx];rfl) rfl
 ·exact⟨0,⟨[],0,0,0,true,true,0,true⟩,fun h1 h2=>(h ⟨h1,h2⟩).elim⟩
theorem I6(hz:au z zn)(hg:eN prog z gP)(N:aw)(L:List aH)(hl:L.length<100000)(hN:N.nl=L.length)(hL:bM z 0 (L.map aH.row))(hnet: ∀σ:bb,aC (aj σ []) (N.cC N.u1 N.l1)=some (N.cC N.u1 N.l1))(i:Nat)(hi:i<=L.length)(x:aH)(b:Bool)(hb:b=(x.stay && (L.take i).any (DA x))):
 ai prog (ah (ag f90) 0) 2 177 (y9 i 0) [(0,N.cC N.u1 N.l1),(1,Hr x)] 2 z zn (Al.R (T3 z zn N i x b).l):=by
 refine ax hD hg (α:=Nat) 2 177 2 (fun k=>k<=i/\(x.stay && (L.take k).any (DA x))=false) (fun k=>y9 i k) (fun _=>[(0,N.cC N.u1 N.l1),(1,Hr x)]) (fun _=>z) (fun _=>zn) (fun k=>i - k) _ (fun k hI=>?_) 0 ⟨Nat.zero_le _,by simp⟩
 obtain⟨h1,h2⟩:=hI
 by_cases hk:k<i
 ·obtain⟨e,he⟩:=hL.ay (i:=k) (by simp;omega)
  obtain⟨y,hy⟩:=dh (l:=L) (i:=k) (by omega)
  have hlen:=aM (row:=aH.row) (sz:=5) L fun _=>rfl
  have hrow:aq prog (bg e (L.map aH.row).flatten) 81 (0+k*5)=some (.agg ⟨y.row⟩):=bD (r:=y.row) (sz:=5) underlying81 rfl rfl hlen (by rw[List.getElem?_map,hy];rfl)
  have hc:decide ((k:Int)<(i:Int))=true:=by simp;omega
  have kh:(x.stay && DA x y)=false->an (fun k=>k<=i/\(x.stay && (L.take k).any (DA x))=false) (fun k=>y9 i k) (fun _=>[(0,N.cC N.u1 N.l1),(1,Hr x)]) 2 (fun _=>z) (fun _=>zn) (fun k=>i - k) (Al.R (T3 z zn N i x b).l) k .normal (y9 i (k+1)) [(0,N.cC N.u1 N.l1),(1,Hr x)] 2 z zn:=fun h=>
   ⟨k+1,rfl,rfl,rfl,rfl,rfl,⟨hk,by rw[jX hy];cases hs:x.stay<;>simp_all⟩,by show i - (k+1)<i - k;omega⟩
  refine t100 (Tp z zn i k N (bg e (L.map aH.row).flatten) x y (an _ _ _ _ _ _ _ _ _) ⟨fun _=>?_,nC1 hc⟩)
  (repeat' first|(with_reducible first|exact rfl|assumption|apply And.intro|exact(by omega:k<N.nl)|exact bF (by omega))|exact hnet _|intro hq)
  all_goals clear hnet hL hrow he hz hlen
  all_goals first
   |(refine kh ?_;unfold DA;simp_all;done)
   |(refine bu ?_;rw[hb]
     have:(L.take i).any (DA x)=true:=any_true hy hk (by unfold DA;simp_all)
     rw[this];simp_all;done)
 ·have hc:decide ((k:Int)<(i:Int))=false:=by simp;omega
  refine t100 (Tp z zn i k N ⟨[],0,0,0,true,true,0,true⟩ x x (an _ _ _ _ _ _ _ _ _) ⟨nC1 hc,fun _=>?_⟩)
  (repeat' first|(with_reducible first|exact rfl|assumption|apply And.intro)|exact hnet _)
  refine dv (bu ?_)
  rw[hb,←h2,show k=i by omega]
theorem I5(hz:au z zn)(hg:eN prog z gP)(N:aw)(L:List aH)(hl:L.length<100000)(hN:N.nl=L.length)(hL:bM z 0 (L.map aH.row))(hnet: ∀σ:bb,aC (aj σ []) (N.cC N.u1 N.l1)=some (N.cC N.u1 N.l1))(i:Nat)(hi:i<=L.length)(x:aH)(b:Bool)(hb:b=(L.take i).any (mI x)):
 ai prog (ah (ag f90) 1) 2 177 (Bh i 0) [(0,N.cC N.u1 N.l1),(1,Hr x)] 2 z zn (Al.R (T2 z zn N i x b).l):=by
 refine ax hD hg (α:=Nat) 2 177 2 (fun k=>k<=i/\(L.take k).any (mI x)=false) (fun k=>Bh i k) (fun _=>[(0,N.cC N.u1 N.l1),(1,Hr x)]) (fun _=>z) (fun _=>zn) (fun k=>i - k) _ (fun k hI=>?_) 0 ⟨Nat.zero_le _,by simp⟩
 obtain⟨h1,h2⟩:=hI
 by_cases hk:k<i
 ·obtain⟨e,he⟩:=hL.ay (i:=k) (by simp;omega)
  obtain⟨y,hy⟩:=dh (l:=L) (i:=k) (by omega)
  have hlen:=aM (row:=aH.row) (sz:=5) L fun _=>rfl
  have hrow:aq prog (bg e (L.map aH.row).flatten) 81 (0+k*5)=some (.agg ⟨y.row⟩):=bD (r:=y.row) (sz:=5) underlying81 rfl rfl hlen (by rw[List.getElem?_map,hy];rfl)
  have hc:decide ((k:Int)<(i:Int))=true:=by simp;omega
  have kh:mI x y=false->an (fun k=>k<=i/\(L.take k).any (mI x)=false) (fun k=>Bh i k) (fun _=>[(0,N.cC N.u1 N.l1),(1,Hr x)]) 2 (fun _=>z) (fun _=>zn) (fun k=>i - k) (Al.R (T2 z zn N i x b).l) k .normal (Bh i (k+1)) [(0,N.cC N.u1 N.l1),(1,Hr x)] 2 z zn:=fun h=>
   ⟨k+1,rfl,rfl,rfl,rfl,rfl,⟨hk,by rw[jX hy,h2,h];rfl⟩,by show i - (k+1)<i - k;omega⟩
  refine t100 (To z zn i k N (bg e (L.map aH.row).flatten) x y (an _ _ _ _ _ _ _ _ _) ⟨fun _=>?_,nC1 hc⟩)
  (repeat' first|(with_reducible first|exact rfl|assumption|apply And.intro|exact(by omega:k<N.nl)|exact bF (by omega))|exact hnet _|intro hq)
  all_goals clear hnet hL hrow he hz hlen
  all_goals first
   |(refine kh ?_;unfold mI;simp_all;done)
   |(refine bu ?_;rw[hb]
     exact any_true hy hk (by unfold mI;simp_all))
 ·have hc:decide ((k:Int)<(i:Int))=false:=by simp;omega
  refine t100 (To z zn i k N ⟨[],0,0,0,true,true,0,true⟩ x x (an _ _ _ _ _ _ _ _ _) ⟨nC1 hc,fun _=>?_⟩)
  (repeat' first|(with_reducible first|exact rfl|assumption|apply And.intro))
  refine dv (bu ?_)
  rw[hb,←h2,show k=i by omega]
theorem NS(hz:au z zn)(hg:eN prog z gP)(N:aw)(U:List RunT)(L:List aH)(hl:L.length<100000)(hNu:N.nu=U.length)(hN:N.nl=L.length)(hL:bM z 0 (L.map aH.row))(hZ:rh z U)(hU:gu U)(hnet: ∀σ:bb,aC (aj σ []) (N.cC N.u1 N.l1)=some (N.cC N.u1 N.l1))(hv:aT (sig []) [.agg ⟨N.dX N.u1 N.l1⟩]=some [.agg ⟨N.dX N.u1 N.l1⟩])(i:Nat)(x:aH)(hx:L[i]? =some x):
 A1 z zn 90 [.agg ⟨N.dX N.u1 N.l1⟩,iv i] [] 0 0 (zv (iM U L i x)) []:=by
 have hi:i<L.length:=(List.getElem?_eq_some_iff.1 hx).1
 obtain⟨el,hel⟩:=hL.ay (i:=i) (by simp;omega)
 have hlen:=aM (row:=aH.row) (sz:=5) L fun _=>rfl
 have hrow:aq prog (bg el (L.map aH.row).flatten) 81 (0+i*5)=some (.agg ⟨x.row⟩):=bD (r:=x.row) (sz:=5) underlying81 rfl rfl hlen (by rw[List.getElem?_map,hx];rfl)
 have hu0: ∃eu:TypeId,0<U.length->z.get 1=some (.ay (bg eu (U.map fun r=>r.v.row).flatten)):=by
  by_cases h:0<U.length
  ·obtain⟨e,he⟩:=hZ.HT.ay (i:=0) (by simpa using h)
   exact⟨e,fun _=>he⟩
  ·exact⟨0,fun k=>(h k).elim⟩
 obtain⟨eu,heu⟩:=hu0
 obtain⟨ca,ka,hA⟩:=yH hZ hU eu x.fz1
 obtain⟨cb,kb,hB⟩:=yH hZ hU eu x.aB
 have hla:dA U x.fz1<1000000000:=by
  unfold dA
  split
  ·rename_i r hr;have:=(hU.calls r (List.mem_of_getElem? hr)).2;omega
  ·omega
 have hlb:dA U x.aB<1000000000:=by
  unfold dA
  split
  ·rename_i r hr;have:=(hU.calls r (List.mem_of_getElem? hr)).2;omega
  ·omega
 have hl3:=J9 hz hg {N with ua:=some ⟨766,0,none⟩} L hl hN hL hnet i (by omega) x.aB x.fz1
 have hla3:aT (sig []) [.agg ⟨N.dX N.u1 N.l1⟩,iv i,zv x.aB,zv x.fz1]=some [.agg ⟨N.dX N.u1 N.l1⟩,iv i,zv x.aB,zv x.fz1]:=by
  have hv2:aJ (sig []) (.agg ⟨N.dX N.u1 N.l1⟩)=some (.agg ⟨N.dX N.u1 N.l1⟩):=by
   simp only[aT] at hv
   split at hv
   ·rename_i u hu;simp only[Option.some.injEq,List.cons.injEq,and_true] at hv;rw[hu,hv]
   ·cases hv
  exact eP hv2 rfl
 have ha:=I6 hz hg N L hl hN hL hnet i (by omega) x _ rfl
 have hb:=I5 hz hg N L hl hN hL hnet i (by omega) x _ rfl
 have hlk:iM U L i x=if x.fz1<0\/(U.length:Int)<=x.fz1\/x.aB<0\/(U.length:Int)<=x.aB\/x.fz1=x.aB then 9
  else if x.fc<0\/(dA U x.fz1:Int)<=x.fc\/x.tc<0\/(dA U x.aB:Int)<=x.tc then 9
  else if ly U x.fz1 x.fc≠ly U x.aB x.tc then 13
  else if x.stay=true/\(x.fc+1≠dA U x.fz1\/x.tc≠0) then 19
  else if (x.stay && (L.take i).any (DA x))=true then 19
  else if x.stay=true/\dM (gG (stays (L.take i))) x.fz1 (i+1) x.aB=true then 19
  else if (L.take i).any (mI x)=true then 6 else 0:=by
  unfold iM;simp only[Bool.and_eq_true]
 generalize (x.stay && (L.take i).any (DA x))=va at ha hlk
 generalize ((L.take i).any (mI x))=vb at hb hlk
 generalize dM (gG (stays (L.take i))) x.fz1 (i+1) x.aB=lb at hl3 hlk
 have heu':0<N.nu->z.get 1=some (.ay (bg eu (U.map fun r=>r.v.row).flatten)):=fun h=>heu (by omega)
 have hA1: ∀h0:0<=x.fz1,x.fz1<N.nu->_:=fun h0 h1=>hA h0 (by omega)
 have hB1: ∀h0:0<=x.aB,x.aB<N.nu->_:=fun h0 h1=>hB h0 (by omega)
 rw[←hNu] at hlk
 refine da hg (fn:=f90) (by kernel_rfl) (by kernel_rfl) hz ⟨by decide,by decide⟩ rfl (flk z zn i N (bg el (L.map aH.row).flatten) (bg eu (U.map fun r=>r.v.row).flatten) ka kb x x.fz1.toNat x.aB.toNat x.fc.toNat x.tc.toNat (dA U x.fz1) ca (dA U x.aB) cb (ly U x.fz1 x.fc) (ly U x.aB x.tc) lb va vb _ ?_)
 have hnu:N.nu<1000000000:=by have:=hU.len;omega
 (repeat' first|(with_reducible first|exact rfl|assumption|apply And.intro|exact(by omega:i<N.nl)|exact HN hnu|exact HN hla|exact HN hlb)|exact(rfl:gP _ _=_)|exact ha|exact hb|exact hnet _|intro hq)
 all_goals clear hla3 hl3 ha hb hel hrow hnet hv hz hL hZ hU hA hB heu
 all_goals first
  |(refine uL (congrArg (Value.int .i64) ?_)
    clear hA1 hB1 heu'
    rw[hlk]
    clear hlk
    (repeat' split)<;>first|rfl|(exfalso;simp only[bS1,bS2,bS3] at*;omega)|(exfalso;simp_all;done)|(exfalso;simp_all;omega)|trace_state)
  |exact congrArg Value.bool (by assumption)
  |exact heu' (by simp only[bS1,bS2,bS3] at*;omega)
  |exact(hA1 (by simp only[bS1,bS2,bS3] at*;omega) (by simp only[bS1,bS2,bS3] at*;omega)).1
  |exact(hA1 (by simp only[bS1,bS2,bS3] at*;omega) (by simp only[bS1,bS2,bS3] at*;omega)).2.1
  |exact(hA1 (by simp only[bS1,bS2,bS3] at*;omega) (by simp only[bS1,bS2,bS3] at*;omega)).2.2 _ (by simp only[bS1,bS2,bS3] at*;omega) (by simp only[bS1,bS2,bS3] at*;omega)
  |exact(hB1 (by simp only[bS1,bS2,bS3] at*;omega) (by simp only[bS1,bS2,bS3] at*;omega)).1
  |exact(hB1 (by simp only[bS1,bS2,bS3] at*;omega) (by simp only[bS1,bS2,bS3] at*;omega)).2.1
  |exact(hB1 (by simp only[bS1,bS2,bS3] at*;omega) (by simp only[bS1,bS2,bS3] at*;omega)).2.2 _ (by simp only[bS1,bS2,bS3] at*;omega) (by simp only[bS1,bS2,bS3] at*;omega)
  |(clear hA1 hB1 heu' hlk;simp only[bS1,bS2,bS3] at*;omega)
end
end Go.Proofs.Nw
namespace Go.Proofs.Nw
open Go Go.AV Tryz Go.jA
set_option maxHeartbeats 8000000
set_option maxRecDepth 100000
abbrev QI(ps:List (Int × Int)):List Value:=(ps.map (·.2)).map fun x=>zv x
theorem F8(σ:Nat->Option Nat)(l:List (Int × Int))(a b:Int):aC σ (aa.map (jg 0 l++[{key:=zv a,val:=zv b,born:=l.length}]) (l.length+1))=some (aa.map (jg 0 l++[{key:=zv a,val:=zv b,born:=l.length}]) (l.length+1)):=by
 rw[xg];exact A8 _ _
theorem Td{a:Int}(h0:0<=a)(h:a<1000000000):Value.int .i64 (IntKind.i64.wrap (a+1))=Value.int .i64 (a+1):=by
 have:IntKind.i64.wrap (a+1)=a+1:=by
  simp only[IntKind.wrap,IntKind.signed,IntKind.bits]
  simp
  omega
 rw[this]
theorem pT{U:List RunT}(hU:gu U)(y:Int):(dA U y:Int)<=32:=by
 unfold dA
 split
 ·rename_i r hr;have:=(hU.calls r (List.mem_of_getElem? hr)).2;omega
 ·omega
section
variable{z:T aa}{zn:Nat}
theorem QD(hz:au z zn)(hg:eN prog z gP)(N:aw)(U:List RunT)(L:List aH)(hl:L.length<100000)(hNu:N.nu=U.length)(hN:N.nl=L.length)(hL:bM z 0 (L.map aH.row))(hZ:rh z U)(hU:gu U)(hnet: ∀σ:bb,aC (aj σ []) (N.cC N.u1 N.l1)=some (N.cC N.u1 N.l1))(r:Int × Int)(hr:scan (ft U L) L.length 0=r):
 ai prog (ah (ag f84) 0) 5 171 (Gg N.nl N.lc 0) [(0,N.cC N.u1 N.l1),(1,dg 0 0 0),(2, .map [] 0),(3,bs []),(4,bs [])] 5 z zn (Al.R (Vv z zn N N.u1 (if r.2=0 then 0 else 3) r.1 r.2).l):=by
 refine ax hD hg (α:=Nat) 5 171 5 (fun i=>i<=L.length/\scan (ft U L) (L.length - i) i=r/\ ∀j,j<i->ft U L j=none) (fun i=>Gg N.nl N.lc i) (fun i=>[(0,N.cC N.u1 N.l1),(1,dg 0 0 0),(2,ve (stays (L.take i))),(3,bs (QI (stays (L.take i)))),(4,bs ((L.take i).map kH))]) (fun _=>z) (fun _=>zn) (fun i=>L.length - i) _ (fun i hI=>?_) 0 ⟨Nat.zero_le _,hr,fun j hj=>by omega⟩
 obtain⟨h1,h2,h3⟩:=hI
 by_cases hi:i<L.length
 ·obtain⟨x,hx⟩:=dh hi
  obtain⟨el,hel⟩:=hL.ay (i:=i) (by simp;omega)
  have hlen:=aM (row:=aH.row) (sz:=5) L fun _=>rfl
  have hrow:aq prog (bg el (L.map aH.row).flatten) 81 (0+i*5)=some (.agg ⟨x.row⟩):=bD (r:=x.row) (sz:=5) underlying81 rfl rfl hlen (by rw[List.getElem?_map,hx];rfl)
  have hu0: ∃eu:TypeId,0<U.length->z.get 1=some (.ay (bg eu (U.map fun r=>r.v.row).flatten)):=by
   by_cases h:0<U.length
   ·obtain⟨e,he⟩:=hZ.HT.ay (i:=0) (by simpa using h)
    exact⟨e,fun _=>he⟩
   ·exact⟨0,fun k=>(h k).elim⟩
  obtain⟨eu,heu⟩:=hu0
  obtain⟨ca,ka,hA⟩:=yH hZ hU eu x.fz1
  obtain⟨cb,kb,hB⟩:=yH hZ hU eu x.aB
  have heu':0<N.nu->z.get 1=some (.ay (bg eu (U.map fun r=>r.v.row).flatten)):=fun h=>heu (by omega)
  have hA1: ∀h0:0<=x.fz1,x.fz1<N.nu->_:=fun h0 h1=>hA h0 (by omega)
  have hB1: ∀h0:0<=x.aB,x.aB<N.nu->_:=fun h0 h1=>hB h0 (by omega)
  have hla:=pT hU x.fz1
  have ok:=w7 U L i h1 h3
  have hm:=XH (stays (L.take i))
  have hk:=Uk x (L.take i)
  have hps:=Is (L.take i)
  have hi2:=QH x.aB ((stays (L.take i)).map (·.2))
  have hpi:=F4 ((stays (L.take i)).map (·.2))
  have hcf:=Fp (L.take i) x
  have hlds:0<=x.fz1->A1 z zn 132 [mp 0,zv x.aB,zv x.fz1] [(0,ve (stays (L.take i)))] 1 1 (.bool (dM (gG (stays (L.take i))) x.fz1 (i+1) x.aB)) [(0,ve (stays (L.take i)))]:=fun h0=>
   NY hz hm (by rw[ok.eq];exact ok.dep) x.aB x.fz1 _ (by rw[ok.eq];exact ok.leads h0 (by rw[List.length_take];omega))
  have hlk:iM U L i x=if x.fz1<0\/(U.length:Int)<=x.fz1\/x.aB<0\/(U.length:Int)<=x.aB\/x.fz1=x.aB then 9
   else if x.fc<0\/(dA U x.fz1:Int)<=x.fc\/x.tc<0\/(dA U x.aB:Int)<=x.tc then 9
   else if ly U x.fz1 x.fc≠ly U x.aB x.tc then 13
   else if x.stay=true/\(x.fc+1≠dA U x.fz1\/x.tc≠0) then 19
   else if x.stay=true/\(L.take i).any (DA x)=true then 19
   else if x.stay=true/\dM (gG (stays (L.take i))) x.fz1 (i+1) x.aB=true then 19
   else if (L.take i).any (mI x)=true then 6 else 0:=rfl
  have ret: ∀e:Int,e=iM U L i x->e≠0->Al.R (Vv z zn N N.u1 (if r.2=0 then 0 else 3) r.1 r.2).l ⟨.ret,[(2,ip 1)],[(1,dg 3 i e)],5,z,zn⟩:=fun e h h0=>by
   have hb:ft U L i=some e:=by unfold ft;rw[hx];simp only;rw[←h,if_neg h0]
   have:r=((i:Int),e):=by rw[←h2,cY hi hb]
   rw[this]
   simp only[if_neg h0]
   exact bu trivial
  have htk:L.take (i+1)=L.take i++[x]:=by rw[List.take_add_one,hx];rfl
  have kh:iM U L i x=0->an (fun i=>i<=L.length/\scan (ft U L) (L.length - i) i=r/\ ∀j,j<i->ft U L j=none) (fun i=>Gg N.nl N.lc i) (fun i=>[(0,N.cC N.u1 N.l1),(1,dg 0 0 0),(2,ve (stays (L.take i))),(3,bs (QI (stays (L.take i)))),(4,bs ((L.take i).map kH))]) 5 (fun _=>z) (fun _=>zn) (fun i=>L.length - i) (Al.R (Vv z zn N N.u1 (if r.2=0 then 0 else 3) r.1 r.2).l) i .normal (Gg N.nl N.lc (i+1))
   [(0,N.cC N.u1 N.l1),(1,dg 0 0 0),(2,ve (if x.stay=true then stays (L.take i)++[(x.fz1,x.aB)] else stays (L.take i))),(3,bs (QI (if x.stay=true then stays (L.take i)++[(x.fz1,x.aB)] else stays (L.take i)))),(4,bs ((L.take i).map kH++[kH x]))] 5 z zn:=fun h0=>by
   have hb:ft U L i=none:=by unfold ft;rw[hx];simp only;rw[if_pos h0]
   refine⟨i+1,rfl,?_,rfl,rfl,rfl,⟨hi,by rw[←cD hi hb];exact h2,fun j hj=>?_⟩,by show L.length - (i+1)<L.length - i;omega⟩
   ·show _=[(0,N.cC N.u1 N.l1),(1,dg 0 0 0),(2,ve (stays (L.take (i+1)))),(3,bs (QI (stays (L.take (i+1))))),(4,bs ((L.take (i+1)).map kH))]
    rw[htk,lP,List.map_append];rfl
   ·by_cases e:j=i
    ·subst e;exact hb
    ·exact h3 j (by omega)
  have hc:decide ((i:Int)<(N.nl:Int))=true:=by simp;omega
  rw[←hNu] at hlk
  generalize (L.take i).any (DA x)=va at hlk hcf
  generalize dM (gG (stays (L.take i))) x.fz1 (i+1) x.aB=lb at hlk hlds
  have hv0:oG (stays (L.take i)) x.fz1=none->x.aB ∉ (stays (L.take i)).map (·.2)->va=false:=fun h k=>hcf.2 ⟨h,k⟩
  have hv1: ∀b,oG (stays (L.take i)) x.fz1=some b->va=true:=fun b h=>by
   cases hva:va with
   |true=>rfl
   |false=>(have:=(hcf.1 hva).1;rw[h] at this;cases this)
  have hv2:x.aB∈(stays (L.take i)).map (·.2)->va=true:=fun h=>by
   cases hva:va with
   |true=>rfl
   |false=>exact((hcf.1 hva).2 h).elim
  refine t100 (rk z zn i N (bg el (L.map aH.row).flatten) (bg eu (U.map fun r=>r.v.row).flatten) ka kb x x.fz1.toNat x.aB.toNat x.fc.toNat x.tc.toNat (dA U x.fz1) ca (dA U x.aB) cb (ly U x.fz1 x.fc) (ly U x.aB x.tc) lb (stays (L.take i)) (QI (stays (L.take i))) ((L.take i).map kH) (an _ _ _ _ _ _ _ _ _) ⟨fun _=>?_,nC1 hc⟩)
  (repeat' first|(with_reducible first|exact rfl|assumption|apply And.intro|exact(by omega:i<N.nl)|exact hm.no _|exact hm.ex _|exact hk.no|exact hk.ex|exact hi2.no|exact hi2.ex|exact iK _ hps rfl|exact iK _ hpi rfl|exact AJ hpi|exact A8 _ _|exact F8 _ _ _ _|exact bF (by omega))|exact(rfl:gP _ _=_)|exact hnet _|intro hq)
  all_goals clear hnet hrow hel hz hL hZ hU hA hB heu hlen hps hpi
  all_goals try (have hm1:=hk.EY (by with_reducible assumption);rw[IH] at hm1)
  all_goals try (have hm1:=hk.K6 (by with_reducible assumption);rw[IH] at hm1)
  all_goals try (have hm2:=hi2.EY (by with_reducible assumption);rw[EI] at hm2)
  all_goals try (have hm2:=hi2.K6 (by with_reducible assumption);rw[EI] at hm2)
  all_goals try (have hm3:=hm.EY (by with_reducible assumption))
  all_goals try (have hm3:=hm.none (by with_reducible assumption))
  all_goals clear hm hk hi2
  all_goals try (have hv:=hv0 hm3 hm2)
  all_goals try (have hv:=hv1 _ hm3)
  all_goals try (have hv:=hv2 hm2)
  all_goals clear hv0 hv1 hv2
  all_goals clear hcf
  all_goals first
   |(refine ret _ ?_ (by decide)
     clear ret kh hlds hA1 hB1 heu' h2 h3 hr
     rw[hlk]
     clear hlk
     (repeat' split)<;>first|rfl|(exfalso;simp only[bS1,bS2,bS3] at*;omega)|(exfalso;simp_all;done)|(exfalso;simp_all;omega))
   |(have h0:iM U L i x=0:=by
      clear ret kh hlds hA1 hB1 heu' h2 h3 hr
      rw[hlk]
      clear hlk
      (repeat' split)<;>first|rfl|(exfalso;simp only[bS1,bS2,bS3] at*;omega)|(exfalso;simp_all;done)|(exfalso;simp_all;omega)
     have q:=kh h0
     rw[fN]
     first
      |(have hs:x.stay=true:=by assumption
        simp only[hs,if_true] at q
        rw[xg,fN]
        simp only[QI,List.map_append,List.map_cons,List.map_nil] at q ⊢
        exact q)
      |(have hs:x.stay=false:=by assumption
        simp only[hs,Bool.false_eq_true,if_false] at q
        exact q))
   |exact congrArg Value.bool (by assumption)
   |exact heu' (by simp only[bS1,bS2,bS3] at*;omega)
   |exact(hA1 (by simp only[bS1,bS2,bS3] at*;omega) (by simp only[bS1,bS2,bS3] at*;omega)).1
   |exact(hA1 (by simp only[bS1,bS2,bS3] at*;omega) (by simp only[bS1,bS2,bS3] at*;omega)).2.1
   |exact(hA1 (by simp only[bS1,bS2,bS3] at*;omega) (by simp only[bS1,bS2,bS3] at*;omega)).2.2 _ (by simp only[bS1,bS2,bS3] at*;omega) (by simp only[bS1,bS2,bS3] at*;omega)
   |exact(hB1 (by simp only[bS1,bS2,bS3] at*;omega) (by simp only[bS1,bS2,bS3] at*;omega)).1
   |exact(hB1 (by simp only[bS1,bS2,bS3] at*;omega) (by simp only[bS1,bS2,bS3] at*;omega)).2.1
   |exact(hB1 (by simp only[bS1,bS2,bS3] at*;omega) (by simp only[bS1,bS2,bS3] at*;omega)).2.2 _ (by simp only[bS1,bS2,bS3] at*;omega) (by simp only[bS1,bS2,bS3] at*;omega)
   |exact hlds (by simp only[bS1,bS2,bS3] at*;omega)
   |exact Td (by simp only[bS1,bS2,bS3] at*;omega) (by simp only[bS1,bS2,bS3] at*;omega)
   |(clear hA1 hB1 heu' hlk hlds kh ret;simp only[bS1,bS2,bS3] at*;omega)
 ·have hc:decide ((i:Int)<(N.nl:Int))=false:=by simp;omega
  refine t100 (rk z zn i N ⟨[],0,0,0,true,true,0,true⟩ ⟨[],0,0,0,true,true,0,true⟩ ⟨[],0,0,0,true,true,0,true⟩ ⟨[],0,0,0,true,true,0,true⟩ ⟨0,0,0,0,true⟩ 0 0 0 0 0 0 0 0 0 0 true (stays (L.take i)) (QI (stays (L.take i))) ((L.take i).map kH) (an _ _ _ _ _ _ _ _ _) ⟨nC1 hc,fun _=>?_⟩)
  (repeat' first|(with_reducible first|exact rfl|assumption|apply And.intro))
  rw[dL (by omega)] at h2
  refine dv (bu ?_)
  rw[←h2]
  exact⟨rfl,rfl,rfl⟩
theorem NX(hz:au z zn)(hg:eN prog z gP)(N:aw)(U:List RunT)(L:List aH)(hNu:N.nu=U.length)(hN:N.nl=L.length)(hL:bM z 0 (L.map aH.row))(hZ:rh z U)(hU:gu U)(hnet: ∀σ:bb,aC (aj σ []) (N.cC N.u1 N.l1)=some (N.cC N.u1 N.l1)):
 A1 z zn 84 [.agg ⟨N.dX N.u1 N.l1⟩] [] 0 0 (.agg ⟨[zv (if (bK U L).2=0 then 0 else 3),zv (bK U L).1,zv (bK U L).2]⟩) []:=by
 refine da hg (fn:=f84) (by kernel_rfl) (by kernel_rfl) hz ⟨by decide,by decide⟩ rfl (fk z zn N N.u1 (if (bK U L).2=0 then 0 else 3) (bK U L).1 (bK U L).2 _ ?_)
 by_cases h:1024<L.length
 ·have hr:bK U L=(0,5):=if_pos h
  have hc:decide ((N.nl:Int)>1024)=true:=by simp;omega
  rw[hr]
  refine⟨fun _=>?_,nC1 hc⟩
  (repeat' first|(with_reducible first|exact rfl|assumption|apply And.intro)|exact(rfl:gP _ _=_)|exact q1)
 ·have hr:bK U L=scan (ft U L) L.length 0:=if_neg h
  have hc:decide ((N.nl:Int)>1024)=false:=by simp;omega
  have hK:=QD hz hg N U L (by omega) hNu hN hL hZ hU hnet (bK U L) hr.symm
  refine⟨nC1 hc,fun _=>?_⟩
  (repeat' first|(with_reducible first|exact rfl|assumption|apply And.intro|exact q1)|exact hK|exact hnet _|intro hq)
  all_goals first|(rw[hq.1,hq.2.1,hq.2.2];exact q1)|trace_state
theorem M0(hz:au z zn)(hg:eN prog z gP)(N:aw)(L:List aH)(hl:L.length<100000)(hN:N.nl=L.length)(hL:bM z 0 (L.map aH.row))(hnet: ∀σ:bb,aC (aj σ []) (N.cC ak N.l1)=some (N.cC ak N.l1))(r:Int × Int)(hr:scan (ft [] L) L.length 0=r):
 ai prog (ah (ag f84) 0) 5 171 (Gg N.nl N.lc 0) [(0,N.cC ak N.l1),(1,dg 0 0 0),(2, .map [] 0),(3,bs []),(4,bs [])] 5 z zn (Al.R (Vv z zn N ak (if r.2=0 then 0 else 3) r.1 r.2).l):=by
 refine ax hD hg (α:=Nat) 5 171 5 (fun i=>i=0) (fun i=>Gg N.nl N.lc i) (fun i=>[(0,N.cC ak N.l1),(1,dg 0 0 0),(2, .map [] 0),(3,bs []),(4,bs [])]) (fun _=>z) (fun _=>zn) (fun i=>1) _ (fun i hI=>?_) 0 rfl
 subst hI
 by_cases hi:0<L.length
 ·obtain⟨x,hx⟩:=dh hi
  obtain⟨el,hel⟩:=hL.ay (i:=0) (by simp;omega)
  have hlen:=aM (row:=aH.row) (sz:=5) L fun _=>rfl
  have hrow:aq prog (bg el (L.map aH.row).flatten) 81 (0+0*5)=some (.agg ⟨x.row⟩):=bD (r:=x.row) (sz:=5) underlying81 rfl rfl hlen (by rw[List.getElem?_map,hx];rfl)
  have hb:ft [] L 0=some 9:=by
   unfold ft;rw[hx];simp only
   have:iM [] L 0 x=9:=by unfold iM;rw[if_pos (by simp;omega)]
   rw[this];rfl
  have hrr:r=(0,9):=by rw[←hr];exact cY hi hb
  have hwf:gP 131 [zv x.fz1,I 0]=some (.bool false):=by
   show some (Value.bool (decide (0<=x.fz1) && decide (x.fz1<0)))=_
   have:(decide (0<=x.fz1) && decide (x.fz1<0))=false:=by simp
   rw[this]
  have hc:decide (((0:Nat):Int)<(N.nl:Int))=true:=by simp;omega
  refine t100 (rkn z zn 0 N (bg el (L.map aH.row).flatten) x (an _ _ _ _ _ _ _ _ _) ⟨fun _=>?_,nC1 hc⟩)
  (repeat' first|(with_reducible first|exact rfl|assumption|apply And.intro|exact(by omega:0<N.nl))|exact(rfl:gP _ _=_))
  all_goals first
   |(rw[hrr];exact bu trivial)
 ·have hc:decide (((0:Nat):Int)<(N.nl:Int))=false:=by simp;omega
  refine t100 (rkn z zn 0 N ⟨[],0,0,0,true,true,0,true⟩ ⟨0,0,0,0,true⟩ (an _ _ _ _ _ _ _ _ _) ⟨nC1 hc,fun _=>?_⟩)
  (repeat' first|(with_reducible first|exact rfl|assumption|apply And.intro))
  have e:L.length=0:=by omega
  rw[e] at hr
  refine dv (bu ?_)
  rw[←hr]
  exact⟨rfl,rfl,rfl⟩
theorem Kj(hz:au z zn)(hg:eN prog z gP)(N:aw)(L:List aH)(hN:N.nl=L.length)(hL:bM z 0 (L.map aH.row))(hnet: ∀σ:bb,aC (aj σ []) (N.cC ak N.l1)=some (N.cC ak N.l1)):
 A1 z zn 84 [.agg ⟨N.dX ak N.l1⟩] [] 0 0 (.agg ⟨[zv (if (bK [] L).2=0 then 0 else 3),zv (bK [] L).1,zv (bK [] L).2]⟩) []:=by
 refine da hg (fn:=f84) (by kernel_rfl) (by kernel_rfl) hz ⟨by decide,by decide⟩ rfl (fkn z zn N ak (if (bK [] L).2=0 then 0 else 3) (bK [] L).1 (bK [] L).2 _ ?_)
 by_cases h:1024<L.length
 ·have hr:bK [] L=(0,5):=if_pos h
  have hc:decide ((N.nl:Int)>1024)=true:=by simp;omega
  rw[hr]
  refine⟨fun _=>?_,nC1 hc⟩
  (repeat' first|(with_reducible first|exact rfl|assumption|apply And.intro)|exact(rfl:gP _ _=_)|exact q1)
 ·have hr:bK [] L=scan (ft [] L) L.length 0:=if_neg h
  have hc:decide ((N.nl:Int)>1024)=false:=by simp;omega
  have hK:=M0 hz hg N L (by omega) hN hL hnet (bK [] L) hr.symm
  refine⟨nC1 hc,fun _=>?_⟩
  (repeat' first|(with_reducible first|exact rfl|assumption|apply And.intro|exact q1)|exact hK|exact hnet _|intro hq)
  all_goals first|(rw[hq.1,hq.2.1,hq.2.2];exact q1)|trace_state
theorem Ki(hz:au z zn)(hg:eN prog z gP)(N:aw)(hnet: ∀σ:bb,aC (aj σ []) (N.cC N.u0 ak)=some (N.cC N.u0 ak)):
 A1 z zn 84 [.agg ⟨N.dX N.u0 ak⟩] [] 0 0 (.agg ⟨[I 0,I 0,I 0]⟩) []:=by
 have hL:ai prog (ah (ag f84) 0) 5 171 Gf [(0,N.cC N.u0 ak),(1,dg 0 0 0),(2, .map [] 0),(3,bs []),(4,bs [])] 5 z zn (Al.R (XR z zn N).l):=by
  refine ax hD hg (α:=Nat) 5 171 5 (fun i=>i=0) (fun i=>Gf) (fun i=>[(0,N.cC N.u0 ak),(1,dg 0 0 0),(2, .map [] 0),(3,bs []),(4,bs [])]) (fun _=>z) (fun _=>zn) (fun i=>1) _ (fun i hI=>?_) 0 rfl
  refine t100 (rkz z zn N (an _ _ _ _ _ _ _ _ _) ?_)
  (repeat' first|(with_reducible first|exact rfl|assumption|apply And.intro))
  all_goals first|exact bu trivial|trace_state
 refine da hg (fn:=f84) (by kernel_rfl) (by kernel_rfl) hz ⟨by decide,by decide⟩ rfl (fkz z zn N _ ?_)
 (repeat' first|(with_reducible first|exact rfl|assumption|apply And.intro|exact q1)|exact hL|exact hnet _|intro hq)
end
end Go.Proofs.Nw
namespace Go.Proofs.Nw
open Go Go.AV Tryz Go.jA
set_option maxRecDepth 100000
def bW(x y:ab):Bool:=decide (y.fz1=x.fz1) && (decide (y.aB=x.aB) && (y.sf==x.sf))
def fT(n:Int)(l:List ab)(i:Nat)(x:ab):Int:=
 if x.fz1<0\/n<=x.fz1\/x.aB<0\/n<=x.aB\/x.fz1=x.aB then 9 else if x.aI<1\/14400<x.aI then 2 else if (l.take i).any (bW x)=true then 6 else 0
def cO(n:Int)(l:List ab)(i:Nat):Option Int:=match l[i]? with
 |some x=>if fT n l i x=0 then none else some (fT n l i x)
 |none=>none
def aV(n:Int)(l:List ab):Int × Int:=scan (cO n l) l.length 0
theorem qp: ∀(M:Nat)(l:List Nat),l.Nodup->(∀x∈l,x<M)->l.length<=M
 |0,l,_,h=>by
  cases l with
  |nil=>simp
  |cons a l=>have:=h a (by simp);omega
 |M+1,l,hn,h=>by
  have h1:=qp M (l.erase M) (hn.erase M) fun x hx=>by
   have:=h x (List.mem_of_mem_erase hx)
   have hne:x≠M:=fun e=>by subst e;exact hn.not_mem_erase hx
   omega
  by_cases hm:M∈l
  ·rw[List.length_erase_of_mem hm] at h1;omega
  ·rw[List.erase_of_not_mem hm] at h1;omega
def zt(x:ab):Nat:=x.fz1.toNat*128+x.aB.toNat*2+(if x.sf=true then 1 else 0)
theorem BW(n:Int)(hn:n<=64)(l:List ab): ∀k,k<=l.length->(∀j,j<k->cO n l j=none)->((l.take k).map zt).Nodup/\ ∀y∈l.take k,0<=y.fz1/\y.fz1<64/\0<=y.aB/\y.aB<64
 |0,_,_=>by simp
 |k+1,hk,h=>by
  obtain⟨h1,h2⟩:=BW n hn l k (by omega) fun j hj=>h j (by omega)
  obtain⟨x,hx⟩:=dh (l:=l) (i:=k) (by omega)
  have hb:=h k (by omega)
  unfold cO at hb
  rw[hx] at hb
  have he:fT n l k x=0:=by simpa using hb
  unfold fT at he
  split at he
  ·cases he
  rename_i c1
  split at he
  ·cases he
  split at he
  ·cases he
  rename_i c3
  have c3: ∀y∈l.take k,bW x y=false:=by simpa using c3
  have ht:l.take (k+1)=l.take k++[x]:=by rw[List.take_add_one,hx];rfl
  rw[ht]
  constructor
  ·rw[List.map_append,List.nodup_append]
   refine⟨h1,by simp,fun a ha b hb=>?_⟩
   obtain⟨y,hy,rfl⟩:=List.mem_map.1 ha
   have hb:b=zt x:=by simpa using hb
   subst hb
   intro e
   have hs:=c3 y hy
   obtain⟨g1,g2,g3,g4⟩:=h2 y hy
   unfold zt at e
   simp only[bW,Bool.and_eq_false_iff,decide_eq_false_iff_not,beq_eq_false_iff_ne] at hs
   have e1:y.fz1=x.fz1:=by(repeat' split at e)<;>omega
   have e2:y.aB=x.aB:=by(repeat' split at e)<;>omega
   have e3:y.sf=x.sf:=by
    cases hy1:y.sf<;>cases hx1:x.sf<;>rw[hy1,hx1] at e<;>first|rfl|(exfalso;simp only[if_true,if_false,Bool.false_eq_true] at e;omega)
   rcases hs with q|q|q
   ·exact q e1
   ·exact q e2
   ·exact q e3
  ·intro y hy
   rcases List.mem_append.1 hy with q|q
   ·exact h2 y q
   ·have:y=x:=by simpa using q
    subst this;omega
theorem Ep{n:Int}(hn:n<=64){l:List ab}{k:Nat}(hk:k<=l.length)(h: ∀j,j<k->cO n l j=none):k<=8192:=by
 obtain⟨h1,h2⟩:=BW n hn l k hk h
 have:=qp 8192 _ h1 fun c hc=>by
  obtain⟨y,hy,rfl⟩:=List.mem_map.1 hc
  obtain⟨g1,g2,g3,g4⟩:=h2 y hy
  unfold zt
  split<;>omega
 simpa[List.length_take,Nat.min_eq_left hk] using this
abbrev ga(x:ab):Value:= .agg ⟨[zv x.fz1,zv x.aB, .bool x.sf]⟩
abbrev fZ(x:ab):Value:= .agg ⟨[zv x.fz1,zv x.aB,zv 0, .bool x.sf]⟩
theorem X1(x:ab)(l:List ab):lL 302 (ga x) (l.map ga):=⟨fun k' hk'=>by
 obtain⟨y,_,rfl⟩:=List.mem_map.1 hk'
 refine⟨rfl,_,JG _ _ _ _ _ _,?_⟩
 simp only[Bool.and_eq_true,decide_eq_true_eq,beq_iff_eq,Value.agg.injEq,Array.mk.injEq,List.cons.injEq,Value.int.injEq,Value.bool.injEq,true_and,and_true]⟩
theorem X0(x:ab)(l:List ab):lL 141 (fZ x) (l.map fZ):=⟨fun k' hk'=>by
 obtain⟨y,_,rfl⟩:=List.mem_map.1 hk'
 refine⟨rfl,_,JF _ _ _ _ _ _ _ _,?_⟩
 simp only[Bool.and_eq_true,decide_eq_true_eq,beq_iff_eq,Value.agg.injEq,Array.mk.injEq,List.cons.injEq,Value.int.injEq,Value.bool.injEq,true_and,and_true]⟩
theorem A6(x:ab)(l:List ab):ga x∈l.map ga↔l.any (bW x)=true:=by
 rw[List.mem_map,List.any_eq_true]
 simp only[bW,Bool.and_eq_true,decide_eq_true_eq,beq_iff_eq,Value.agg.injEq,Array.mk.injEq,List.cons.injEq,Value.int.injEq,Value.bool.injEq,true_and,and_true]
theorem A5(x:ab)(l:List ab):fZ x∈l.map fZ↔l.any (bW x)=true:=by
 rw[List.mem_map,List.any_eq_true]
 simp only[bW,Bool.and_eq_true,decide_eq_true_eq,beq_iff_eq,Value.agg.injEq,Array.mk.injEq,List.cons.injEq,Value.int.injEq,Value.bool.injEq,true_and,and_true]
theorem Mk(l:List ab): ∀k,k∈l.map ga->aD k=true:=fun k hk=>by
 obtain⟨t,_,rfl⟩:=List.mem_map.1 hk
 rfl
theorem Mh(l:List ab): ∀k,k∈l.map fZ->aD k=true:=fun k hk=>by
 obtain⟨t,_,rfl⟩:=List.mem_map.1 hk
 rfl
end Go.Proofs.Nw
namespace Go.Proofs.Nw
open Go Go.AV Tryz Go.jA
set_option maxHeartbeats 8000000
set_option maxRecDepth 100000
section
variable{z:T aa}{zn:Nat}
theorem MK(hz:au z zn)(hg:eN prog z gP)(n:Int)(hn:n<=64)(l:List ab)(cp:Nat)(hL:bM z 4 (l.map ab.row))(r:Int × Int)(hr:scan (cO n l) l.length 0=r):
 ai prog (ah (ag f187) 0) 1 62 (Bb n l.length cp 0) [(0,bs [])] 1 z zn (Al.R (Qq z zn l.length cp n r.1 r.2).l):=by
 refine ax hD hg (α:=Nat) 1 62 1 (fun i=>i<=l.length/\scan (cO n l) (l.length - i) i=r/\ ∀j,j<i->cO n l j=none) (fun i=>Bb n l.length cp i) (fun i=>[(0,bs ((l.take i).map ga))]) (fun _=>z) (fun _=>zn) (fun i=>l.length - i) _ (fun i hI=>?_) 0 ⟨Nat.zero_le _,hr,fun j hj=>by omega⟩
 obtain⟨h1,h2,h3⟩:=hI
 have hle:=Ep hn h1 h3
 by_cases hi:i<l.length
 ·obtain⟨x,hx⟩:=dh hi
  obtain⟨el,hel⟩:=hL.ay (i:=i) (by simp;omega)
  have hlen:=aM (row:=ab.row) (sz:=4) l fun _=>rfl
  have hrow:aq prog (bg el (l.map ab.row).flatten) 141 (0+i*4)=some (.agg ⟨x.row⟩):=bD (r:=x.row) (sz:=4) underlying141 rfl rfl hlen (by rw[List.getElem?_map,hx];rfl)
  have hk:=X1 x (l.take i)
  have hkT:x.sf=true->lL 302 (.agg ⟨[zv x.fz1,zv x.aB,T1]⟩) ((l.take i).map ga):=fun h=>by unfold ga at hk;rw[h] at hk;exact hk
  have hkF:x.sf=false->lL 302 (.agg ⟨[zv x.fz1,zv x.aB,F0]⟩) ((l.take i).map ga):=fun h=>by unfold ga at hk;rw[h] at hk;exact hk
  have hmT:x.sf=true->((.agg ⟨[zv x.fz1,zv x.aB,T1]⟩:Value)∈((l.take i).map ga)↔(l.take i).any (bW x)=true):=fun h=>by have:=A6 x (l.take i);unfold ga at this;rw[h] at this;exact this
  have hmF:x.sf=false->((.agg ⟨[zv x.fz1,zv x.aB,F0]⟩:Value)∈((l.take i).map ga)↔(l.take i).any (bW x)=true):=fun h=>by have:=A6 x (l.take i);unfold ga at this;rw[h] at this;exact this
  have hps:=Mk (l.take i)
  have hlk:fT n l i x=if x.fz1<0\/n<=x.fz1\/x.aB<0\/n<=x.aB\/x.fz1=x.aB then 9 else if x.aI<1\/14400<x.aI then 2 else if (l.take i).any (bW x)=true then 6 else 0:=rfl
  have ret: ∀e:Int,e=fT n l i x->e≠0->Al.R (Qq z zn l.length cp n r.1 r.2).l ⟨.ret,[(4,iv i),(5,zv e)],[],1,z,zn⟩:=fun e h h0=>by
   have hb:cO n l i=some e:=by unfold cO;rw[hx];simp only;rw[←h,if_neg h0]
   have:r=((i:Int),e):=by rw[←h2,cY hi hb]
   rw[this]
   exact bu trivial
  have htk:l.take (i+1)=l.take i++[x]:=by rw[List.take_add_one,hx];rfl
  have kh:fT n l i x=0->an (fun i=>i<=l.length/\scan (cO n l) (l.length - i) i=r/\ ∀j,j<i->cO n l j=none) (fun i=>Bb n l.length cp i) (fun i=>[(0,bs ((l.take i).map ga))]) 1 (fun _=>z) (fun _=>zn) (fun i=>l.length - i) (Al.R (Qq z zn l.length cp n r.1 r.2).l) i .normal (Bb n l.length cp (i+1)) [(0,bs ((l.take i).map ga++[ga x]))] 1 z zn:=fun h0=>by
   have hb:cO n l i=none:=by unfold cO;rw[hx];simp only;rw[if_pos h0]
   refine⟨i+1,rfl,?_,rfl,rfl,rfl,⟨hi,by rw[←cD hi hb];exact h2,fun j hj=>?_⟩,by show l.length - (i+1)<l.length - i;omega⟩
   ·show _=[(0,bs ((l.take (i+1)).map ga))]
    rw[htk,List.map_append];rfl
   ·by_cases e:j=i
    ·subst e;exact hb
    ·exact h3 j (by omega)
  have hc:decide ((i:Int)<(l.length:Int))=true:=by simp;omega
  refine t100 (rso z zn i l.length cp n (bg el (l.map ab.row).flatten) x ((l.take i).map ga) (an _ _ _ _ _ _ _ _ _) ⟨fun _=>?_,nC1 hc⟩)
  (repeat' first|(with_reducible first|exact rfl|assumption|apply And.intro|exact(hkT (by assumption)).no|exact(hkF (by assumption)).no|exact(hkT (by assumption)).ex|exact(hkF (by assumption)).ex|exact iK _ hps rfl|exact bF (by omega))|intro hq)
  all_goals clear hrow hel hz hL hlen hps
  all_goals try (have hm1:=(hmT (by assumption)).1 ((hkT (by assumption)).EY (by with_reducible assumption)))
  all_goals try (have hm1:=(hmF (by assumption)).1 ((hkF (by assumption)).EY (by with_reducible assumption)))
  all_goals try (have hm1:=fun h=>(hkT (by assumption)).K6 (by with_reducible assumption) ((hmT (by assumption)).2 h))
  all_goals try (have hm1:=fun h=>(hkF (by assumption)).K6 (by with_reducible assumption) ((hmF (by assumption)).2 h))
  all_goals clear hk hkT hkF hmT hmF
  all_goals first
   |(refine ret _ ?_ (by decide)
     clear ret kh h2 h3 hr
     rw[hlk]
     clear hlk
     (repeat' split)<;>first|rfl|(exfalso;simp only[bS1,bS2,bS3] at*;omega)|(exfalso;simp_all;done))
   |(have h0:fT n l i x=0:=by
      clear ret kh h2 h3 hr
      rw[hlk]
      clear hlk
      (repeat' split)<;>first|rfl|(exfalso;simp only[bS1,bS2,bS3] at*;omega)|(exfalso;simp_all;done)
     have q:=kh h0
     unfold ga at q
     rw[show x.sf=_ by assumption] at q
     rw[fN]
     exact q)
 ·have hc:decide ((i:Int)<(l.length:Int))=false:=by simp;omega
  refine t100 (rso z zn i l.length cp n ⟨[],0,0,0,true,true,0,true⟩ ⟨0,0,0,true⟩ ((l.take i).map ga) (an _ _ _ _ _ _ _ _ _) ⟨nC1 hc,fun _=>?_⟩)
  (repeat' first|(with_reducible first|exact rfl|assumption|apply And.intro))
  rw[dL (by omega)] at h2
  refine dv (bu ?_)
  rw[←h2]
  exact⟨rfl,rfl⟩
theorem NO(hz:au z zn)(hg:eN prog z gP)(n:Int)(hn:n<=64)(l:List ab)(cp:Nat)(hL:bM z 4 (l.map ab.row)):
 A1 z zn 187 [tb 4 l.length cp,zv n] [] 0 0 (.tuple ⟨[zv (aV n l).1,zv (aV n l).2]⟩) []:=by
 have hK:=MK hz hg n hn l cp hL (aV n l) rfl
 refine da hg (fn:=f187) (by kernel_rfl) (by kernel_rfl) hz ⟨by decide,by decide⟩ rfl (fso z zn l.length cp n (aV n l).1 (aV n l).2 _ ?_)
 (repeat' first|(with_reducible first|exact rfl|assumption|apply And.intro|exact q1)|exact hK|intro hq)
 all_goals first|(rw[hq.1,hq.2];exact q1)|trace_state
theorem J3(hz:au z zn)(hg:eN prog z gP)(n:Int):
 A1 z zn 187 [ak,zv n] [] 0 0 (.tuple ⟨[zv 0,zv 0]⟩) []:=by
 have hL:ai prog (ah (ag f187) 0) 1 62 (xj n) [(0,bs [])] 1 z zn (Al.R (TF z zn n).l):=by
  refine ax hD hg (α:=Nat) 1 62 1 (fun i=>i=0) (fun i=>xj n) (fun i=>[(0,bs [])]) (fun _=>z) (fun _=>zn) (fun i=>1) _ (fun i hI=>?_) 0 rfl
  refine t100 (Xl z zn n (an _ _ _ _ _ _ _ _ _) ?_)
  (repeat' first|(with_reducible first|exact rfl|assumption|apply And.intro))
  all_goals first|exact bu trivial|trace_state
 refine da hg (fn:=f187) (by kernel_rfl) (by kernel_rfl) hz ⟨by decide,by decide⟩ rfl (Zi z zn n _ ?_)
 (repeat' first|(with_reducible first|exact rfl|assumption|apply And.intro)|exact hL|exact q1|intro hq)
end
section
variable{z:T aa}{zn:Nat}
theorem M7(hz:au z zn)(hg:eN prog z gP)(N:aw)(hn:N.ns<=64)(l:List ab)(hN:N.np=l.length)(hnet: ∀σ:bb,aC (aj σ []) (N.bZ N.p1)=some (N.bZ N.p1))(hL:bM z 4 (l.map ab.row))(r:Int × Int)(hr:scan (cO N.ns l) l.length 0=r):
 ai prog (ah (ag f86) 0) 3 78 (Bk N.np N.pc 0) [(0,N.bZ N.p1),(1,dg 0 0 0),(2,bs [])] 3 z zn (Al.R (QA z zn N (if r.2=0 then 0 else 4) r.1 r.2).l):=by
 refine ax hD hg (α:=Nat) 3 78 3 (fun i=>i<=l.length/\scan (cO N.ns l) (l.length - i) i=r/\ ∀j,j<i->cO N.ns l j=none) (fun i=>Bk N.np N.pc i) (fun i=>[(0,N.bZ N.p1),(1,dg 0 0 0),(2,bs ((l.take i).map fZ))]) (fun _=>z) (fun _=>zn) (fun i=>l.length - i) _ (fun i hI=>?_) 0 ⟨Nat.zero_le _,hr,fun j hj=>by omega⟩
 obtain⟨h1,h2,h3⟩:=hI
 have hle:=Ep (by omega:(N.ns:Int)<=64) h1 h3
 by_cases hi:i<l.length
 ·obtain⟨x,hx⟩:=dh hi
  obtain⟨el,hel⟩:=hL.ay (i:=i) (by simp;omega)
  have hlen:=aM (row:=ab.row) (sz:=4) l fun _=>rfl
  have hrow:aq prog (bg el (l.map ab.row).flatten) 141 (0+i*4)=some (.agg ⟨x.row⟩):=bD (r:=x.row) (sz:=4) underlying141 rfl rfl hlen (by rw[List.getElem?_map,hx];rfl)
  have hk:=X0 x (l.take i)
  have hkT:x.sf=true->lL 141 (.agg ⟨[zv x.fz1,zv x.aB,I 0,T1]⟩) ((l.take i).map fZ):=fun h=>by unfold fZ at hk;rw[h] at hk;exact hk
  have hkF:x.sf=false->lL 141 (.agg ⟨[zv x.fz1,zv x.aB,I 0,F0]⟩) ((l.take i).map fZ):=fun h=>by unfold fZ at hk;rw[h] at hk;exact hk
  have hmT:x.sf=true->((.agg ⟨[zv x.fz1,zv x.aB,I 0,T1]⟩:Value)∈((l.take i).map fZ)↔(l.take i).any (bW x)=true):=fun h=>by have:=A5 x (l.take i);unfold fZ at this;rw[h] at this;exact this
  have hmF:x.sf=false->((.agg ⟨[zv x.fz1,zv x.aB,I 0,F0]⟩:Value)∈((l.take i).map fZ)↔(l.take i).any (bW x)=true):=fun h=>by have:=A5 x (l.take i);unfold fZ at this;rw[h] at this;exact this
  have hps:=Mh (l.take i)
  have hlk:fT N.ns l i x=if x.fz1<0\/(N.ns:Int)<=x.fz1\/x.aB<0\/(N.ns:Int)<=x.aB\/x.fz1=x.aB then 9 else if x.aI<1\/14400<x.aI then 2 else if (l.take i).any (bW x)=true then 6 else 0:=rfl
  have ret: ∀e:Int,e=fT N.ns l i x->e≠0->Al.R (QA z zn N (if r.2=0 then 0 else 4) r.1 r.2).l ⟨.ret,[(2,ip 1)],[(1,dg 4 i e)],3,z,zn⟩:=fun e h h0=>by
   have hb:cO N.ns l i=some e:=by unfold cO;rw[hx];simp only;rw[←h,if_neg h0]
   have:r=((i:Int),e):=by rw[←h2,cY hi hb]
   rw[this]
   simp only[if_neg h0]
   exact bu (by decide)
  have htk:l.take (i+1)=l.take i++[x]:=by rw[List.take_add_one,hx];rfl
  have kh:fT N.ns l i x=0->an (fun i=>i<=l.length/\scan (cO N.ns l) (l.length - i) i=r/\ ∀j,j<i->cO N.ns l j=none) (fun i=>Bk N.np N.pc i) (fun i=>[(0,N.bZ N.p1),(1,dg 0 0 0),(2,bs ((l.take i).map fZ))]) 3 (fun _=>z) (fun _=>zn) (fun i=>l.length - i) (Al.R (QA z zn N (if r.2=0 then 0 else 4) r.1 r.2).l) i .normal (Bk N.np N.pc (i+1)) [(0,N.bZ N.p1),(1,dg 0 0 0),(2,bs ((l.take i).map fZ++[fZ x]))] 3 z zn:=fun h0=>by
   have hb:cO N.ns l i=none:=by unfold cO;rw[hx];simp only;rw[if_pos h0]
   refine⟨i+1,rfl,?_,rfl,rfl,rfl,⟨hi,by rw[←cD hi hb];exact h2,fun j hj=>?_⟩,by show l.length - (i+1)<l.length - i;omega⟩
   ·show _=[(0,N.bZ N.p1),(1,dg 0 0 0),(2,bs ((l.take (i+1)).map fZ))]
    rw[htk,List.map_append];rfl
   ·by_cases e:j=i
    ·subst e;exact hb
    ·exact h3 j (by omega)
  have hc:decide ((i:Int)<(N.np:Int))=true:=by simp;omega
  refine t100 (rcp z zn i N (bg el (l.map ab.row).flatten) x ((l.take i).map fZ) (an _ _ _ _ _ _ _ _ _) ⟨fun _=>?_,nC1 hc⟩)
  (repeat' first|(with_reducible first|exact rfl|assumption|apply And.intro|exact(by omega:i<N.np)|exact(hkT (by assumption)).no|exact(hkF (by assumption)).no|exact(hkT (by assumption)).ex|exact(hkF (by assumption)).ex|exact iK _ hps rfl|exact bF (by omega))|exact(rfl:gP _ _=_)|exact hnet _|intro hq)
  all_goals clear hrow hel hz hL hlen hps
  all_goals try (have hm1:=(hmT (by assumption)).1 ((hkT (by assumption)).EY (by with_reducible assumption)))
  all_goals try (have hm1:=(hmF (by assumption)).1 ((hkF (by assumption)).EY (by with_reducible assumption)))
  all_goals try (have hm1:=fun h=>(hkT (by assumption)).K6 (by with_reducible assumption) ((hmT (by assumption)).2 h))
  all_goals try (have hm1:=fun h=>(hkF (by assumption)).K6 (by with_reducible assumption) ((hmF (by assumption)).2 h))
  all_goals clear hk hkT hkF hmT hmF
  all_goals first
   |(refine ret _ ?_ (by decide)
     clear ret kh h2 h3 hr
     rw[hlk]
     clear hlk
     (repeat' split)<;>first|rfl|(exfalso;simp only[bS1,bS2,bS3] at*;omega)|(exfalso;simp_all;done))
   |(have h0:fT N.ns l i x=0:=by
      clear ret kh h2 h3 hr
      rw[hlk]
      clear hlk
      (repeat' split)<;>first|rfl|(exfalso;simp only[bS1,bS2,bS3] at*;omega)|(exfalso;simp_all;done)
     have q:=kh h0
     unfold fZ at q
     rw[show x.sf=_ by assumption] at q
     rw[fN]
     exact q)
 ·have hc:decide ((i:Int)<(N.np:Int))=false:=by simp;omega
  refine t100 (rcp z zn i N ⟨[],0,0,0,true,true,0,true⟩ ⟨0,0,0,true⟩ ((l.take i).map fZ) (an _ _ _ _ _ _ _ _ _) ⟨nC1 hc,fun _=>?_⟩)
  (repeat' first|(with_reducible first|exact rfl|assumption|apply And.intro)|exact hnet _)
  rw[dL (by omega)] at h2
  refine dv (bu ?_)
  rw[←h2]
  rfl
theorem NW(hz:au z zn)(hg:eN prog z gP)(N:aw)(hn:N.ns<=64)(l:List ab)(hN:N.np=l.length)(hnet: ∀σ:bb,aC (aj σ []) (N.bZ N.p1)=some (N.bZ N.p1))(hL:bM z 4 (l.map ab.row))(cl:Bool)(hcl:(aV N.ns l).2=0->A1 z zn 134 [N.p1,iv N.ns] [] 0 0 (.bool cl) [])(r:Int × Int × Int)
 (hr:r=if (aV N.ns l).2≠0 then (4,aV N.ns l) else if cl=true then (0,0,0) else (4,0,18)):
 A1 z zn 86 [.agg ⟨N.iz N.p1⟩] [] 0 0 (.agg ⟨[zv r.1,zv r.2.1,zv r.2.2]⟩) []:=by
 have hcl':(if (aV N.ns l).2=0 then (0:Int) else 4)=0->A1 z zn 134 [N.p1,iv N.ns] [] 0 0 (.bool cl) []:=fun h=>hcl (by
  split at h
  ·assumption
  ·cases h)
 have hK:=M7 hz hg N hn l hN hnet hL (aV N.ns l) rfl
 refine da hg (fn:=f86) (by kernel_rfl) (by kernel_rfl) hz ⟨by decide,by decide⟩ rfl (fcp z zn N (if (aV N.ns l).2=0 then 0 else 4) (aV N.ns l).1 (aV N.ns l).2 cl _ ?_)
 (repeat' first|(with_reducible first|exact rfl|assumption|apply And.intro|exact hcl' ‹_›)|exact(rfl:gP _ _=_)|exact hK|exact hnet _|intro hq)
 all_goals first
  |(refine uL ?_
    rw[hr]
    by_cases h:(aV N.ns l).2=0<;>simp_all;done)
theorem Kf(hz:au z zn)(hg:eN prog z gP)(N:aw)(hnet: ∀σ:bb,aC (aj σ []) (N.bZ ak)=some (N.bZ ak))(cl:Bool)(hcl:A1 z zn 134 [ak,iv N.ns] [] 0 0 (.bool cl) [])(r:Int × Int × Int)
 (hr:r=if cl=true then (0,0,0) else (4,0,18)):
 A1 z zn 86 [.agg ⟨N.iz ak⟩] [] 0 0 (.agg ⟨[zv r.1,zv r.2.1,zv r.2.2]⟩) []:=by
 have hL:ai prog (ah (ag f86) 0) 3 78 xr [(0,N.bZ ak),(1,dg 0 0 0),(2,bs [])] 3 z zn (Al.R (Ua z zn N).l):=by
  refine ax hD hg (α:=Nat) 3 78 3 (fun i=>i=0) (fun i=>xr) (fun i=>[(0,N.bZ ak),(1,dg 0 0 0),(2,bs [])]) (fun _=>z) (fun _=>zn) (fun i=>1) _ (fun i hI=>?_) 0 rfl
  refine t100 (Xw z zn N (an _ _ _ _ _ _ _ _ _) ?_)
  (repeat' first|(with_reducible first|exact rfl|assumption|apply And.intro)|exact hnet _)
  all_goals first|exact bu trivial|trace_state
 refine da hg (fn:=f86) (by kernel_rfl) (by kernel_rfl) hz ⟨by decide,by decide⟩ rfl (Zw z zn N cl _ ?_)
 (repeat' first|(with_reducible first|exact rfl|assumption|apply And.intro)|exact(rfl:gP _ _=_)|exact hL|exact hnet _|intro hq)
 all_goals first
  |(refine uL ?_
    rw[hr]
    simp_all;done)
end
end Go.Proofs.Nw
namespace Go.Proofs.Nw
open Go Go.AV Tryz
set_option maxRecDepth 100000
section
variable{z:T aa}{zn:Nat}
theorem I1(d w c:Int)(hz:au z zn)(hg:eN prog z gP)(l:List bJ)(cp:Nat)(e:TypeId)(he:z.get 5=some (.ay (bg e (l.map bJ.row).flatten)))(hl:l.length<100000)(i:Nat)(x:bJ)(hx:l[i]? =some x)(b:Bool)(hb:b=(l.take i).any fun y=>y.id.data==x.id.data):
 ai prog (ah (ah (ag f92) 0) 0) 2 88 (xo i 0) [(0,wH (tb 5 l.length cp) d w c),(1,Mg x)] 2 z zn (Al.R (TQ z zn i (wH (tb 5 l.length cp) d w c) x b).l):=by
 have hil:i<l.length:=(List.getElem?_eq_some_iff.1 hx).1
 refine ax hD hg (α:=Nat) 2 88 2 (fun k=>k<=i/\((l.take k).any fun y=>y.id.data==x.id.data)=false) (fun k=>xo i k) (fun _=>[(0,wH (tb 5 l.length cp) d w c),(1,Mg x)]) (fun _=>z) (fun _=>zn) (fun k=>i - k) _ (fun k hI=>?_) 0 ⟨Nat.zero_le _,rfl⟩
 obtain⟨h1,h2⟩:=hI
 have hlen:=aM (row:=bJ.row) (sz:=6) l fun _=>rfl
 have rx:aq prog (bg e (l.map bJ.row).flatten) 9 (0+i*6+0)=some (.string x.id):=aS (r:=x.row) (j:=0) underlying9 rfl hlen (by rw[List.getElem?_map,hx];rfl) rfl
 by_cases hk:k<i
 ·obtain⟨y,hy⟩:=dh (l:=l) (i:=k) (by omega)
  have ry:aq prog (bg e (l.map bJ.row).flatten) 9 (0+k*6+0)=some (.string y.id):=aS (r:=y.row) (j:=0) underlying9 rfl hlen (by rw[List.getElem?_map,hy];rfl) rfl
  have hc:decide ((k:Int)<(i:Int))=true:=by simp;omega
  refine t100 (Tn z zn i k l.length cp (bg e (l.map bJ.row).flatten) x y d w c (an _ _ _ _ _ _ _ _ _) ⟨fun _=>?_,nC1 hc⟩)
  (repeat' first|(with_reducible first|exact rfl|assumption|apply And.intro|exact(by omega:k<l.length)|exact bF (by omega))|intro hq)
  ·rw[pJ] at hq
   exact bu (by rw[hb];exact any_true hy hk hq)
  ·rw[pJ] at hq
   exact⟨k+1,rfl,rfl,rfl,rfl,rfl,⟨hk,by rw[jX hy,h2,hq];rfl⟩,by show i - (k+1)<i - k;omega⟩
 ·have hc:decide ((k:Int)<(i:Int))=false:=by simp;omega
  refine t100 (Tn z zn i k l.length cp (bg e (l.map bJ.row).flatten) x x d w c (an _ _ _ _ _ _ _ _ _) ⟨nC1 hc,fun _=>?_⟩)
  (repeat' first|(with_reducible first|exact rfl|assumption|apply And.intro))
  refine dv (bu ?_)
  rw[hb,←h2,show k=i by omega]
theorem MS(d w c:Int)(hz:au z zn)(hg:eN prog z gP)(l:List bJ)(cp:Nat)(ht:bM z 5 (l.map bJ.row))(hl:l.length<100000)(r:Int × Int)(hr:scan (eA l) l.length 0=r):
 ai prog (ah (ag f92) 0) 1 88 (tw 0) [(0,wH (tb 5 l.length cp) d w c)] 1 z zn (Al.R (TS z zn (wH (tb 5 l.length cp) d w c) r.1 r.2).l):=by
 refine ax hD hg (α:=Nat) 1 88 1 (fun i=>i<=l.length/\scan (eA l) (l.length - i) i=r) (fun i=>tw i) (fun i=>[(0,wH (tb 5 l.length cp) d w c)]) (fun _=>z) (fun _=>zn) (fun i=>l.length - i) _ (fun i hI=>?_) 0 ⟨Nat.zero_le _,hr⟩
 obtain⟨h1,h2⟩:=hI
 by_cases hi:i<l.length
 ·obtain⟨e,he⟩:=ht.ay (i:=i) (by simpa using hi)
  obtain⟨x,hx⟩:=dh hi
  have hid:=Vy (ht.sz (i:=i) (r:=x.row) (s:=x.id) (by rw[List.getElem?_map,hx];rfl) (by simp))
  have hlen:=aM (row:=bJ.row) (sz:=6) l fun _=>rfl
  have hr:(l.map bJ.row)[i]? =some x.row:=by rw[List.getElem?_map,hx];rfl
  have r0:aq prog (bg e (l.map bJ.row).flatten) 88 (0+i*6)=some (.agg ⟨x.row⟩):=bD (r:=x.row) (sz:=6) underlying88 rfl rfl hlen hr
  have hL:=I1 d w c hz hg l cp e he hl i x hx _ rfl
  generalize hb:((l.take i).any fun y=>y.id.data==x.id.data)=b at hL
  have hc:decide ((i:Int)<(l.length:Int))=true:=by simp;omega
  have ret: ∀e:Int,eA l i=some e->Al.R (TS z zn (wH (tb 5 l.length cp) d w c) r.1 r.2).l ⟨.ret,[(2,iv i),(3,zv e)],[],1,z,zn⟩:=fun e h=>by
   have:r=((i:Int),e):=by rw[←h2,cY hi h]
   rw[this];exact bu trivial
  have hbad:eA l i=if bS x.id=false then some 12 else if b=true then some 6 else if (zZ x.cB 0 1000000 && zZ x.b9 1 8 && zZ x.cy 1 16 && zZ x.aI 0 86400 && zZ x.kG 1 255)=false then some 2 else none:=by
   simp only[eA,hx,hb]
  refine t100 (rrf z zn i l.length cp (bg e (l.map bJ.row).flatten) x b d w c (an _ _ _ _ _ _ _ _ _) ⟨fun _=>?_,nC1 hc⟩)
  (repeat' first|(with_reducible first|exact rfl|assumption|apply And.intro|exact bF (by omega))|exact(rfl:gP _ _=_)|exact hL|intro hq)
  all_goals clear hL r0 hr hlen he ht hz
  all_goals first
   |with_reducible assumption
   |rfl
   |(refine ret _ ?_;clear ret h2;rw[hbad];(try simp only[fold] at*);simp_all;done)
   |(refine ret _ ?_;clear ret h2;rw[hbad];(try simp only[fold] at*);simp_all;omega)
   |(have hb0:eA l i=none:=by
      clear ret h2
      rw[hbad,if_neg (by simp_all),if_neg (by simp_all),if_neg (by(try simp only[fold] at*);simp_all;done)]
     exact⟨i+1,rfl,rfl,rfl,rfl,rfl,⟨hi,by rw[←cD hi hb0];exact h2⟩,by show l.length - (i+1)<l.length - i;omega⟩)
 ·have hc:decide ((i:Int)<(l.length:Int))=false:=by simp;omega
  refine t100 (rrf z zn i l.length cp ⟨[],0,0,0,true,true,0,true⟩ ⟨⟨#[]⟩,0,0,0,0,0⟩ true d w c (an _ _ _ _ _ _ _ _ _) ⟨nC1 hc,fun _=>?_⟩)
  (repeat' first|(with_reducible first|exact rfl|assumption|apply And.intro))
  refine dv (bu ?_)
  rw[dL (by omega)] at h2
  rw[←h2]
  exact⟨rfl,rfl⟩
theorem Ka(hz:au z zn)(hg:eN prog z gP)(l:List bJ)(cp:Nat)(ht:bM z 5 (l.map bJ.row))(d w c:Int):
 A1 z zn 92 [.agg ⟨[tb 5 l.length cp,zv d,zv w,zv c]⟩] [] 0 0 (.tuple ⟨[zv (bB d w c l).1,zv (bB d w c l).2]⟩) []:=by
 refine da hg (fn:=f92) (by kernel_rfl) (by kernel_rfl) hz ⟨by decide,by decide⟩ rfl (frf z zn l.length cp (bB d w c l).1 (bB d w c l).2 d w c _ ?_)
 cases hf:fJ d w c with
 |false=>
  have hr:bB d w c l=(-1,2):=if_pos hf
  rw[hr]
  unfold fJ at hf
  (repeat' first|(with_reducible first|exact rfl|assumption|apply And.intro|exact q1)|exact(rfl:gP _ _=_)|exact q1|intro hq)
  all_goals (exfalso;(try simp only[fold] at*);simp_all;done)
 |true=>
  by_cases h:16<l.length
  ·have hr:bB d w c l=(0,5):=by unfold bB;rw[if_neg (by simp[hf]),if_pos h]
   have hc:decide ((l.length:Int)>16)=true:=by simp;omega
   rw[hr]
   unfold fJ at hf
   (repeat' first|(with_reducible first|exact rfl|assumption|apply And.intro|exact q1)|exact(rfl:gP _ _=_)|exact q1|intro hq)
   all_goals (exfalso;(try simp only[fold] at*);simp_all;done)
  ·have hr:bB d w c l=scan (eA l) l.length 0:=by unfold bB;rw[if_neg (by simp[hf]),if_neg h]
   have hc:decide ((l.length:Int)>16)=false:=by simp;omega
   have hL:=MS d w c hz hg l cp ht (by omega) (bB d w c l) hr.symm
   unfold fJ at hf
   (repeat' first|(with_reducible first|exact rfl|assumption|apply And.intro|exact q1)|exact(rfl:gP _ _=_)|exact hL|intro hq)
   all_goals first|(rw[hq.1,hq.2];exact q1)|(exfalso;(try simp only[fold] at*);simp_all;done)|trace_state
end
end Go.Proofs.Nw
namespace Go.Proofs.Nw
open Go Go.AV Tryz
set_option maxHeartbeats 4000000
set_option maxRecDepth 100000
section
variable{z:T aa}{zn:Nat}
theorem GQ(hz:au z zn)(hg:eN prog z gP):A1 z zn 87 [ak] [] 0 0 (.tuple ⟨[I 0,I 0]⟩) []:=by
 have hL:ai prog (ah (ag f87) 0) 0 57 vh [] 0 z zn (Al.R (T0 z zn 57).l):=by
  refine ax hD hg (α:=Unit) 0 57 0 (fun _=>True) (fun _=>vh) (fun _=>[]) (fun _=>z) (fun _=>zn) (fun _=>0) _ (fun i hI=>?_) () trivial
  refine t100 (Xp z zn (an _ _ _ _ _ _ _ _ _) ?_)
  (repeat' first|(with_reducible first|exact rfl|assumption|apply And.intro))
  exact bu trivial
 refine da hg (fn:=f87) (by kernel_rfl) (by kernel_rfl) hz ⟨by decide,by decide⟩ rfl (Zm z zn _ ?_)
 (repeat' first|(with_reducible first|exact rfl|assumption|apply And.intro|exact q1)|exact hL|intro hq)
theorem DE(hz:au z zn)(hg:eN prog z gP):A1 z zn 88 [ak] [] 0 0 (.tuple ⟨[I 0,I 0]⟩) []:=by
 have hL:ai prog (ah (ag f88) 0) 0 48 vh [] 0 z zn (Al.R (T0 z zn 48).l):=by
  refine ax hD hg (α:=Unit) 0 48 0 (fun _=>True) (fun _=>vh) (fun _=>[]) (fun _=>z) (fun _=>zn) (fun _=>0) _ (fun i hI=>?_) () trivial
  refine t100 (Xq z zn (an _ _ _ _ _ _ _ _ _) ?_)
  (repeat' first|(with_reducible first|exact rfl|assumption|apply And.intro))
  exact bu trivial
 refine da hg (fn:=f88) (by kernel_rfl) (by kernel_rfl) hz ⟨by decide,by decide⟩ rfl (Zn z zn _ ?_)
 (repeat' first|(with_reducible first|exact rfl|assumption|apply And.intro|exact q1)|exact hL|intro hq)
theorem NV(hz:au z zn)(hg:eN prog z gP)(d w c:Int):A1 z zn 85 [.agg ⟨[ak,zv d,zv w,zv c]⟩] [] 0 0 (.tuple ⟨[zv (bB d w c []).1,zv (bB d w c []).2]⟩) []:=by
 have hL:ai prog (ah (ag f85) 0) 2 79 xp [(1,bs [])] 2 z zn (Al.R (TX z zn).l):=by
  refine ax hD hg (α:=Unit) 2 79 2 (fun _=>True) (fun _=>xp) (fun _=>[(1,bs [])]) (fun _=>z) (fun _=>zn) (fun _=>0) _ (fun i hI=>?_) () trivial
  refine t100 (Xs z zn (an _ _ _ _ _ _ _ _ _) ?_)
  (repeat' first|(with_reducible first|exact rfl|assumption|apply And.intro))
  exact bu trivial
 refine da hg (fn:=f85) (by kernel_rfl) (by kernel_rfl) hz ⟨by decide,by decide⟩ rfl (Zr z zn d w c _ ?_)
 (repeat' first|(with_reducible first|exact rfl|assumption|apply And.intro)|exact(rfl:gP _ _=_)|exact hL|intro hq)
 all_goals first
  |(have hf:fJ d w c=false:=by(simp only[Bool.not_eq_true',Bool.not_eq_false'] at*;simp only[fJ,zZ, *,Bool.false_and,Bool.and_false,Bool.true_and,Bool.and_true])
    have hr:bB d w c []=(-1,2):=if_pos hf
    rw[hr];exact q1)
  |(have hf:fJ d w c=true:=by(simp only[Bool.not_eq_true',Bool.not_eq_false'] at*;simp only[fJ,zZ, *,Bool.false_and,Bool.and_false,Bool.true_and,Bool.and_true])
    have hr:bB d w c []=(0,0):=by unfold bB;rw[if_neg (by simp[hf]),if_neg (by simp)];rfl
    rw[hr];exact q1)
theorem GU(hz:au z zn)(hg:eN prog z gP)(d w c:Int):A1 z zn 92 [.agg ⟨[ak,zv d,zv w,zv c]⟩] [] 0 0 (.tuple ⟨[zv (bB d w c []).1,zv (bB d w c []).2]⟩) []:=by
 have hL:ai prog (ah (ag f92) 0) 1 88 (tw 0) [(0,wH ak d w c)] 1 z zn (Al.R (XT z zn d w c).l):=by
  refine ax hD hg (α:=Unit) 1 88 1 (fun _=>True) (fun _=>tw 0) (fun _=>[(0,wH ak d w c)]) (fun _=>z) (fun _=>zn) (fun _=>0) _ (fun i hI=>?_) () trivial
  refine t100 (Xr z zn d w c (an _ _ _ _ _ _ _ _ _) ?_)
  (repeat' first|(with_reducible first|exact rfl|assumption|apply And.intro))
  exact bu trivial
 refine da hg (fn:=f92) (by kernel_rfl) (by kernel_rfl) hz ⟨by decide,by decide⟩ rfl (Zo z zn d w c _ ?_)
 (repeat' first|(with_reducible first|exact rfl|assumption|apply And.intro)|exact(rfl:gP _ _=_)|exact hL|intro hq)
 all_goals first
  |(have hf:fJ d w c=false:=by(simp only[Bool.not_eq_true',Bool.not_eq_false'] at*;simp only[fJ,zZ, *,Bool.false_and,Bool.and_false,Bool.true_and,Bool.and_true])
    have hr:bB d w c []=(-1,2):=if_pos hf
    rw[hr];exact q1)
  |(have hf:fJ d w c=true:=by(simp only[Bool.not_eq_true',Bool.not_eq_false'] at*;simp only[fJ,zZ, *,Bool.false_and,Bool.and_false,Bool.true_and,Bool.and_true])
    have hr:bB d w c []=(0,0):=by unfold bB;rw[if_neg (by simp[hf]),if_neg (by simp)];rfl
    rw[hr];exact q1)
end
section
variable{z:T aa}{zn:Nat}
theorem NZ(hz:au z zn)(hg:eN prog z gP)(a b c d e f:Int):
 A1 z zn 81 [.slice (some ⟨0,0,none⟩) 2 2] [(0,K0 a b c d e f)] 1 1 (.agg ⟨[zv (pk c f a d),zv (pk c f b e),zv (pk c f c f)]⟩) []:=by
 have hL:ai prog (ah (ag f81) 0) 2 17 (Bi 0) [(0,K0 a b c d e f),(1,dg 0 0 0)] 2 z zn (Al.R (XU z zn a b c d e f (pk c f a d) (pk c f b e) (pk c f c f)).l):=by
  refine ax hD hg (α:=Nat) 2 17 2 (fun i=>i<=2/\(0<i->c=0)/\(1<i->f=0)) (fun i=>Bi i) (fun _=>[(0,K0 a b c d e f),(1,dg 0 0 0)]) (fun _=>z) (fun _=>zn) (fun i=>2 - i) _ (fun i hI=>?_) 0 ⟨by omega,fun h=>by omega,fun h=>by omega⟩
  obtain⟨h1,h2,h3⟩:=hI
  match i,h1 with
  |0,_=>
   refine t100 (Xv z zn 0 a b c d e f 0 0 0 (an _ _ _ _ _ _ _ _ _) ?_)
   (repeat' first|(with_reducible first|exact rfl|assumption|apply And.intro)|intro hq)
   all_goals first
    |(have h:c≠0:=by simpa using hq
      have ea:pk c f a d=a:=if_pos h
      have eb:pk c f b e=b:=if_pos h
      have ec:pk c f c f=c:=if_pos h
      rw[ea,eb,ec]
      exact bu ⟨ea.symm,eb.symm,ec.symm⟩)
    |(have h:c=0:=by simpa using hq
      exact⟨1,rfl,rfl,rfl,rfl,rfl,⟨by omega,fun _=>h,fun h=>by omega⟩,by decide⟩)
  |1,_=>
   have h0:=h2 (by omega)
   refine t100 (Xu z zn 0 a b c d e f 0 0 0 (an _ _ _ _ _ _ _ _ _) ?_)
   (repeat' first|(with_reducible first|exact rfl|assumption|apply And.intro)|intro hq)
   all_goals first
    |(have h:f≠0:=by simpa using hq
      have ea:pk c f a d=d:=by unfold pk;rw[if_neg (by simp[h0]),if_pos h]
      have eb:pk c f b e=e:=by unfold pk;rw[if_neg (by simp[h0]),if_pos h]
      have ec:pk c f c f=f:=by unfold pk;rw[if_neg (by simp[h0]),if_pos h]
      rw[ea,eb,ec]
      exact bu ⟨ea.symm,eb.symm,ec.symm⟩)
    |(have h:f=0:=by simpa using hq
      exact⟨2,rfl,rfl,rfl,rfl,rfl,⟨by omega,fun _=>h0,fun _=>h⟩,by decide⟩)
  |2,_=>
   refine t100 (Xt z zn 0 a b c d e f 0 0 0 (an _ _ _ _ _ _ _ _ _) ?_)
   (repeat' first|(with_reducible first|exact rfl|assumption|apply And.intro))
   all_goals first|exact dv (bu ⟨h2 (by omega),h3 (by omega)⟩)|trace_state
 refine da hg (fn:=f81) (by kernel_rfl) (by kernel_rfl) hz ⟨by decide,by decide⟩ rfl (ffi z zn 0 a b c d e f (pk c f a d) (pk c f b e) (pk c f c f) _ ?_)
 (repeat' first|(with_reducible first|exact rfl|assumption|apply And.intro)|exact hL|intro hq)
 all_goals first
  |(obtain⟨e1,e2,e3⟩:=hq
    exact q1)
  |(obtain⟨e1,e2⟩:=hq
    refine uL ?_
    simp[pk,e1,e2];done)
def iy(s r:Int × Int)(u k p:Int × Int × Int)(f:Int × Int):Int × Int × Int:=
 if s.2≠0 then (0,s.1,s.2) else if r.2≠0 then (1,r.1,r.2) else if u.2.2≠0 then u else if k.2.2≠0 then k else if p.2.2≠0 then p else if f.2≠0 then (5,f.1,f.2) else (0,0,0)
theorem N0(hz:au z zn)(hg:eN prog z gP)(N:aw)(s r:Int × Int)(u k p:Int × Int × Int)(f:Int × Int)(hnet:aT (sig []) [.agg ⟨N.cells⟩]=some [.agg ⟨N.cells⟩])
 (hs1:aT (sig []) [.slice N.sa N.ns N.sc]=some [.slice N.sa N.ns N.sc]) (hr1:aT (sig []) [.slice N.ra N.nr N.rc]=some [.slice N.ra N.nr N.rc]) (hf1:aT (sig []) [.agg ⟨[.slice N.fa N.nf N.fc,zv N.d,zv N.w,zv N.c]⟩]=some [.agg ⟨[.slice N.fa N.nf N.fc,zv N.d,zv N.w,zv N.c]⟩])
 (hs:A1 z zn 79 [.slice N.sa N.ns N.sc] [] 0 0 (.tuple ⟨[zv s.1,zv s.2]⟩) [])
 (hr:A1 z zn 80 [.slice N.ra N.nr N.rc] [] 0 0 (.tuple ⟨[zv r.1,zv r.2]⟩) [])
 (hu:s.2=0->r.2=0->A1 z zn 83 [.agg ⟨N.cells⟩] [] 0 0 (.agg ⟨[zv u.1,zv u.2.1,zv u.2.2]⟩) [])
 (hk:s.2=0->r.2=0->u.2.2=0->A1 z zn 84 [.agg ⟨N.cells⟩] [] 0 0 (.agg ⟨[zv k.1,zv k.2.1,zv k.2.2]⟩) [])
 (hp:s.2=0->r.2=0->u.2.2=0->k.2.2=0->A1 z zn 86 [.agg ⟨N.cells⟩] [] 0 0 (.agg ⟨[zv p.1,zv p.2.1,zv p.2.2]⟩) [])
 (hf:A1 z zn 85 [.agg ⟨[.slice N.fa N.nf N.fc,zv N.d,zv N.w,zv N.c]⟩] [] 0 0 (.tuple ⟨[zv f.1,zv f.2]⟩) []):
 A1 z zn 39 [.agg ⟨N.cells⟩] [] 0 0 (.tuple ⟨[zv (iy s r u k p f).1,zv (iy s r u k p f).2.1,zv (iy s r u k p f).2.2]⟩) []:=by
 have pk0: ∀{c f:Int},(pk c f c f==0)=true->c=0/\f=0:=fun {c f} h=>by
  unfold pk at h
  split at h
  ·rename_i h1;exact(h1 (by simpa using h)).elim
  ·rename_i h1
   split at h
   ·rename_i h2;exact(h2 (by simpa using h)).elim
   ·rename_i h2;exact⟨by simpa using h1,by simpa using h2⟩
 have pk1: ∀{c f:Int},(pk c f c f==0)=false-> ¬(c=0/\f=0):=fun {c f} h ⟨h1,h2⟩=>by
  subst h1 h2;simp[pk] at h
 refine da hg (fn:=f39) (by kernel_rfl) (by kernel_rfl) hz ⟨by decide,by decide⟩ rfl (Zz z zn N s.1 s.2 r.1 r.2 f.1 f.2 u.1 u.2.1 u.2.2 k.1 k.2.1 k.2.2 p.1 p.2.1 p.2.2 _ ?_)
 (repeat' first|(with_reducible first|exact rfl|assumption|apply And.intro)|exact(rfl:gP _ _=_)|exact NZ hz hg _ _ _ _ _ _|intro hq)
 all_goals try (have e1:=pk0 (by with_reducible assumption);obtain⟨e1,e2⟩:=e1)
 all_goals try (have e1:=pk1 (by with_reducible assumption))
 all_goals clear pk1
 all_goals try (have e3:u.2.2=0:=by simpa using (by assumption:(u.2.2==0)=true))
 all_goals try (have e4:k.2.2=0:=by simpa using (by assumption:(k.2.2==0)=true))
 all_goals first
  |exact congrArg Value.bool (by assumption)
  |exact hu e1 e2
  |exact hk e1 e2 e3
  |exact hp e1 e2 e3 e4
  |(refine uL ?_
    clear hs hr hu hk hp hf hs1 hr1 hf1 hnet pk0
    simp only[pk,iy]
    (repeat' split)<;>first|rfl|(exfalso;simp_all;done))
end
def qR(er:Nat->Int)(i:Nat):Option Int:=if er i=0 then none else some (er i)
theorem kS{x:Int}(h:(x !=0)=false):x=0:=by simpa using h
section
variable{z:T aa}{zn:Nat}
theorem Na(hz:au z zn)(hg:eN prog z gP)(N:aw)(hl:N.nu<100000)(er:Nat->Int)(hnet: ∀σ:bb,aC (aj σ []) N.box=some N.box)(hv:aJ (sig []) (.agg ⟨N.cells⟩)=some (.agg ⟨N.cells⟩))
 (hc: ∀i,i<N.nu->(∀j,j<i->er j=0)->A1 z zn 89 [.agg ⟨N.cells⟩,iv i] [] 0 0 (zv (er i)) []) (r:Int × Int) (hr:scan (qR er) N.nu 0=r):
 ai prog (ah (ag f42) 0) 1 84 (C7 0) [(0,N.box)] 1 z zn (Al.R (TU z zn N r.1 r.2).l):=by
 refine ax hD hg (α:=Nat) 1 84 1 (fun i=>i<=N.nu/\scan (qR er) (N.nu - i) i=r/\ ∀j,j<i->er j=0) (fun i=>C7 i) (fun i=>[(0,N.box)]) (fun _=>z) (fun _=>zn) (fun i=>N.nu - i) _ (fun i hI=>?_) 0 ⟨Nat.zero_le _,hr,fun j hj=>by omega⟩
 obtain⟨h1,h2,h3⟩:=hI
 by_cases hi:i<N.nu
 ·have hdc:decide ((i:Int)<(N.nu:Int))=true:=by simp;omega
  have hcc:=hc i hi h3
  have ha:aT (sig []) [.agg ⟨N.cells⟩,iv i]=some [.agg ⟨N.cells⟩,iv i]:=eP hv rfl
  refine t100 (rc7 z zn i N (er i) (an _ _ _ _ _ _ _ _ _) ⟨fun _=>?_,nC1 hdc⟩)
  (repeat' first|(with_reducible first|exact rfl|assumption|apply And.intro|exact bF (by omega))|exact hnet _|intro hq)
  all_goals first
   |(have h:er i≠0:=by simpa using (by assumption:(er i !=0)=true)
     have hb:qR er i=some (er i):=if_neg h
     have e:r=((i:Int),er i):=by rw[←h2,cY hi hb]
     rw[e]
     exact bu h)
   |(have h:er i=0:=by simpa using (by assumption:(er i !=0)=false)
     have hb:qR er i=none:=if_pos h
     refine⟨i+1,rfl,rfl,rfl,rfl,rfl,⟨hi,by rw[←cD hi hb];exact h2,fun j hj=>?_⟩,by show N.nu - (i+1)<N.nu - i;omega⟩
     by_cases e:j=i
     ·subst e;exact h
     ·exact h3 j (by omega))
 ·have hdc:decide ((i:Int)<(N.nu:Int))=false:=by simp;omega
  refine t100 (rc7 z zn i N 0 (an _ _ _ _ _ _ _ _ _) ⟨nC1 hdc,fun _=>?_⟩)
  (repeat' first|(with_reducible first|exact rfl|assumption|apply And.intro)|exact hnet _)
  rw[dL (by omega)] at h2
  refine dv (bu ?_)
  rw[←h2]
theorem M9(hz:au z zn)(hg:eN prog z gP)(N:aw)(hl:N.nl<100000)(er:Nat->Int)(hnet: ∀σ:bb,aC (aj σ []) N.box=some N.box)(hv:aJ (sig []) (.agg ⟨N.cells⟩)=some (.agg ⟨N.cells⟩))
 (hc: ∀i,i<N.nl->(∀j,j<i->er j=0)->A1 z zn 90 [.agg ⟨N.cells⟩,iv i] [] 0 0 (zv (er i)) []) (r:Int × Int) (hr:scan (qR er) N.nl 0=r):
 ai prog (ah (ag f42) 1) 1 84 (C6 0) [(0,N.box)] 1 z zn (Al.R (TT z zn N r.1 r.2).l):=by
 refine ax hD hg (α:=Nat) 1 84 1 (fun i=>i<=N.nl/\scan (qR er) (N.nl - i) i=r/\ ∀j,j<i->er j=0) (fun i=>C6 i) (fun i=>[(0,N.box)]) (fun _=>z) (fun _=>zn) (fun i=>N.nl - i) _ (fun i hI=>?_) 0 ⟨Nat.zero_le _,hr,fun j hj=>by omega⟩
 obtain⟨h1,h2,h3⟩:=hI
 by_cases hi:i<N.nl
 ·have hdc:decide ((i:Int)<(N.nl:Int))=true:=by simp;omega
  have hcc:=hc i hi h3
  have ha:aT (sig []) [.agg ⟨N.cells⟩,iv i]=some [.agg ⟨N.cells⟩,iv i]:=eP hv rfl
  refine t100 (rc8 z zn i N (er i) (an _ _ _ _ _ _ _ _ _) ⟨fun _=>?_,nC1 hdc⟩)
  (repeat' first|(with_reducible first|exact rfl|assumption|apply And.intro|exact bF (by omega))|exact hnet _|intro hq)
  all_goals first
   |(have h:er i≠0:=by simpa using (by assumption:(er i !=0)=true)
     have hb:qR er i=some (er i):=if_neg h
     have e:r=((i:Int),er i):=by rw[←h2,cY hi hb]
     rw[e]
     exact bu h)
   |(have h:er i=0:=by simpa using (by assumption:(er i !=0)=false)
     have hb:qR er i=none:=if_pos h
     refine⟨i+1,rfl,rfl,rfl,rfl,rfl,⟨hi,by rw[←cD hi hb];exact h2,fun j hj=>?_⟩,by show N.nl - (i+1)<N.nl - i;omega⟩
     by_cases e:j=i
     ·subst e;exact h
     ·exact h3 j (by omega))
 ·have hdc:decide ((i:Int)<(N.nl:Int))=false:=by simp;omega
  refine t100 (rc8 z zn i N 0 (an _ _ _ _ _ _ _ _ _) ⟨nC1 hdc,fun _=>?_⟩)
  (repeat' first|(with_reducible first|exact rfl|assumption|apply And.intro)|exact hnet _)
  rw[dL (by omega)] at h2
  refine dv (bu ?_)
  rw[←h2]
theorem Kb(hz:au z zn)(hg:eN prog z gP)(N:aw)(s r p f u k:Int × Int)(eu el:Nat->Int)(hnet: ∀σ:bb,aC (aj σ []) N.box=some N.box)(hv:aJ (sig []) (.agg ⟨N.cells⟩)=some (.agg ⟨N.cells⟩))
 (hs1:aT (sig []) [.slice N.sa N.ns N.sc]=some [.slice N.sa N.ns N.sc]) (hr1:aT (sig []) [.slice N.ra N.nr N.rc]=some [.slice N.ra N.nr N.rc]) (hf1:aT (sig []) [.agg ⟨[.slice N.fa N.nf N.fc,zv N.d,zv N.w,zv N.c]⟩]=some [.agg ⟨[.slice N.fa N.nf N.fc,zv N.d,zv N.w,zv N.c]⟩])
 (hs:A1 z zn 87 [.slice N.sa N.ns N.sc] [] 0 0 (.tuple ⟨[zv s.1,zv s.2]⟩) [])
 (hr:A1 z zn 88 [.slice N.ra N.nr N.rc] [] 0 0 (.tuple ⟨[zv r.1,zv r.2]⟩) [])
 (hu:s.2=0->r.2=0->N.nu<=1024-> ∀i,i<N.nu->(∀j,j<i->eu j=0)->A1 z zn 89 [.agg ⟨N.cells⟩,iv i] [] 0 0 (zv (eu i)) [])
 (hur:u=if 1024<N.nu then (0,5) else scan (qR eu) N.nu 0)
 (hk:s.2=0->r.2=0->u.2=0->N.nl<=1024-> ∀i,i<N.nl->(∀j,j<i->el j=0)->A1 z zn 90 [.agg ⟨N.cells⟩,iv i] [] 0 0 (zv (el i)) [])
 (hkr:k=if 1024<N.nl then (0,5) else scan (qR el) N.nl 0)
 (hp:s.2=0->r.2=0->u.2=0->k.2=0->A1 z zn 91 [.agg ⟨N.cells⟩] [] 0 0 (.tuple ⟨[zv p.1,zv p.2]⟩) [])
 (hf:A1 z zn 92 [.agg ⟨[.slice N.fa N.nf N.fc,zv N.d,zv N.w,zv N.c]⟩] [] 0 0 (.tuple ⟨[zv f.1,zv f.2]⟩) []):
 A1 z zn 42 [.agg ⟨N.cells⟩] [] 0 0 (.tuple ⟨[zv (iy s r (2,u) (3,k) (4,p) f).1,zv (iy s r (2,u) (3,k) (4,p) f).2.1,zv (iy s r (2,u) (3,k) (4,p) f).2.2]⟩) []:=by
 have hv1:aT (sig []) [.agg ⟨N.cells⟩]=some [.agg ⟨N.cells⟩]:=eP hv rfl
 have hL7:s.2=0->r.2=0->decide ((N.nu:Int)>1024)=false->ai prog (ah (ag f42) 0) 1 84 (C7 0) [(0,N.box)] 1 z zn (Al.R (TU z zn N u.1 u.2).l):=fun h1 h2 h3=>by
  have h3: ¬1024<N.nu:=by simp at h3;omega
  rw[if_neg h3] at hur
  exact Na hz hg N (by omega) eu hnet hv (hu h1 h2 (by omega)) u hur.symm
 have hL8:s.2=0->r.2=0->u.2=0->decide ((N.nl:Int)>1024)=false->ai prog (ah (ag f42) 1) 1 84 (C6 0) [(0,N.box)] 1 z zn (Al.R (TT z zn N k.1 k.2).l):=fun h1 h2 h3 h4=>by
  have h4: ¬1024<N.nl:=by simp at h4;omega
  rw[if_neg h4] at hkr
  exact M9 hz hg N (by omega) el hnet hv (hk h1 h2 h3 (by omega)) k hkr.symm
 refine da hg (fn:=f42) (by kernel_rfl) (by kernel_rfl) hz ⟨by decide,by decide⟩ rfl (Us z zn N s.1 s.2 r.1 r.2 u.1 u.2 k.1 k.2 p.1 p.2 f.1 f.2 _ ?_)
 have hu5:decide ((N.nu:Int)>1024)=true->u=(0,5):=fun h=>by rw[hur,if_pos (by simp at h;omega)]
 have hk5:decide ((N.nl:Int)>1024)=true->k=(0,5):=fun h=>by rw[hkr,if_pos (by simp at h;omega)]
 (repeat' first|(with_reducible first|exact rfl|assumption|apply And.intro|exact hp (kS (by assumption)) (kS (by assumption)) (by assumption) (by assumption))|exact hnet _|exact hL7 (kS (by assumption)) (kS (by assumption)) (by assumption)|exact hL8 (kS (by assumption)) (kS (by assumption)) (by assumption) (by assumption)|intro hq)
 all_goals try (have e1:s.2=0:=kS (by assumption))
 all_goals try (have e2:r.2=0:=kS (by assumption))
 all_goals try (have e3:p.2=0:=kS (by assumption))
 all_goals try (have e3:f.2=0:=kS (by assumption))
 all_goals try (have e4:=hu5 (by assumption))
 all_goals try (have e4:=hk5 (by assumption))
 all_goals clear hs hr hu hk hp hf hs1 hr1 hf1 hnet hv hv1 hL7 hL8 hu5 hk5 hur hkr
 all_goals first
  |(refine uL ?_
    simp only[iy]
    (repeat' split)<;>first|rfl|(exfalso;simp_all;done)|(simp_all;done))
end
end Go.Proofs.Nw
namespace Go.Proofs.Nw
open Go Go.AV Tryz
set_option maxRecDepth 100000
theorem lE:au (T.leaf:T aa) 0:=fun k o h=>by cases h
theorem cg{zg:T aa}:eN prog zg (fun _ _=>none):=fun _ _ _ h=>by cases h
theorem cz{z:T aa}{f:Nat}{args:List Value}{u:Value}(h:A1 .leaf 0 f args [] 0 0 u [])(hp:aD u=true)(ha:bE args=true):mN prog z f args u:=by
 obtain⟨h1,h2⟩:=oz h (fun _ _=>rfl) hp (fun k o hk=>by cases hk) (fun σ _=>eo ha)
 exact⟨h1,fun ρ W args' hz hv=>h2 ρ W args' (fun k o hk=>by cases hk) hv⟩
theorem HM{z:T aa}(a b:Int):mN prog z 131 [zv a,zv b] (.bool (decide (0<=a) && decide (a<b))):=by
 refine cz ?_ rfl rfl
 refine aK1 (cg (zg:= .leaf)) (fn:=f131) lE (gwi .leaf 0 a b _ ?_)
 (repeat' first|(with_reducible first|exact rfl|apply And.intro|exact lE)|intro hq)
 all_goals (refine uL ?_;simp_all;try (intros;omega))
theorem Xf{z:T aa}(n a b:Int):mN prog z 136 [zv n,zv a,zv b] (.bool (decide (a<=n) && decide (n<=b))):=by
 refine cz ?_ rfl rfl
 refine aK1 (cg (zg:= .leaf)) (fn:=f136) lE (gin .leaf 0 n a b _ ?_)
 (repeat' first|(with_reducible first|exact rfl|apply And.intro|exact lE)|intro hq)
 all_goals (refine uL ?_;simp_all;try (intros;omega))
theorem Xc{z:T aa}(n a b:Int):mN prog z 133 [zv n,zv a,zv b] (.bool (decide (a<=n) && decide (n<=b))):=by
 refine cz ?_ rfl rfl
 refine aK1 (cg (zg:= .leaf)) (fn:=f133) lE (gpw .leaf 0 n a b _ ?_)
 (repeat' first|(with_reducible first|exact rfl|apply And.intro|exact lE)|intro hq)
 all_goals (refine uL ?_;simp_all;try (intros;omega))
theorem LC{z:T aa}(n:Int):mN prog z 129 [zv n] (.bool (decide (0<=n) && decide (n<8))):=by
 refine cz ?_ rfl rfl
 refine aK1 (cg (zg:= .leaf)) (fn:=f129) lE (gkn .leaf 0 n _ ?_)
 (repeat' first|(with_reducible first|exact rfl|apply And.intro|exact lE)|intro hq)
 all_goals (refine uL ?_;simp_all;try (intros;omega))
theorem Xe{z:T aa}(a b c:Int):mN prog z 82 [zv a,zv b,zv c] (.agg ⟨[zv a,zv b,zv c]⟩):=by
 refine cz ?_ rfl rfl
 refine aK1 (cg (zg:= .leaf)) (fn:=f82) lE (gof .leaf 0 a b c _ ?_)
 (repeat' first|(with_reducible first|exact rfl|apply And.intro|exact lE))
 all_goals (exact q1)
theorem Au{s:ByteArray}{ρ:aX}{args':List Value}(h:c7 ρ [.string s] args'):args'=[.string s]:=by
 cases h with
 |cons _ _ _ _ h1 h2=>
  cases h2
  cases h1 with
  |sc _ _=>rfl
theorem fW(z:T aa):eN prog z gP:=by
 intro f args v h
 unfold gP at h
 split at h
 ·split at h
  ·rename_i s hs
   cases h
   refine⟨rfl,fun ρ W args' _ ha=>?_⟩
   rw[Au ha]
   exact(PD _ W (Nat.le_of_ble_eq_true hs)).mono fun e w' ⟨h1,h2⟩=>⟨h1,by subst h2;exact Go.RowKit.Below.refl _ _⟩
  ·cases h
 ·split at h
  ·rename_i s hs
   cases h
   refine⟨rfl,fun ρ W args' _ ha=>?_⟩
   rw[Au ha]
   exact(PC _ W (Nat.le_of_ble_eq_true hs)).mono fun e w' ⟨h1,h2⟩=>⟨h1,by subst h2;exact Go.RowKit.Below.refl _ _⟩
  ·cases h
 ·cases h;exact LC _
 ·cases h;exact Xc _ _ _
 ·cases h;exact Xe _ _ _
 ·cases h;exact HM _ _
 ·cases h;exact Xf _ _ _
 ·cases h
end Go.Proofs.Nw
namespace Go.AV
open Go.RowKit
def Cp(P:Program)(f:Nat)(args:List Value)(v:Value):Prop:= ∀w,Calls P f ⟨args⟩ w fun e w'=>e= .returned v/\Below w.heap.size w w'
section
variable{P:Program}
theorem AO{c:cJ}(hc:dG P c){f:Nat}{args:List Value}{v:Value}{nx:Nat}(hp:bE args=true)(hv:aD v=true)
 (hr:(c f args {heap:= .leaf,next:=nx,log:=[]}).map (·.1)=some v):Cp P f args v:=by
 cases he:c f args {heap:= .leaf,next:=nx,log:=[]} with
 |none=>rw[he] at hr;cases hr
 |some x=>
  obtain⟨v0,h'⟩:=x
  rw[he] at hr
  simp only[Option.map_some,Option.some.injEq] at hr
  subst hr
  intro w
  have hh:aL AW (T.leaf:T aa).get w:=⟨fun b o hb=>absurd hb (by rw[T.dN];simp),fun i j oi oj Li Lj hi=>absurd hi (by rw[T.dN];simp)⟩
  have hk:=(hc _ _ _ _ _ he).2 AW w args 0 (c7.bw hp) hh (fun _ _ _=>rfl)
  refine Calls.mono (hk.calls fun _=>room_wide _) fun e w' hg=>?_
  obtain⟨ρ',v',rfl,h1,h2,h3⟩:=hg
  have e1:=h1.plain hv
  subst e1
  exact⟨rfl,h3.os,h3.tape,h3.output,h3.size,fun r hr=>h3.same r hr fun b o L hb=>absurd hb (by rw[T.dN];simp)⟩
end
end Go.AV
namespace Go.Proofs.Nw
open Go Go.AV Tryz
set_option maxHeartbeats 1000000
set_option maxRecDepth 100000
section
variable{z:T aa}{zn:Nat}
theorem UL(hz:au z zn)(a:Int):A1 z zn 217 [zv a] [] 0 0 F0 []:=by
 refine aK1 (cg (zg:=z)) (fn:=f217) hz (N:=100) ?_
 refine X4 z zn a _ ?_
 (repeat' first|(with_reducible first|exact rfl|assumption|apply And.intro)|intro hq)
 all_goals first|exact q1|(simp at hq;done)
theorem UT(hz:au z zn)(a b:Int):A1 z zn 224 [zv a,zv b] [] 0 0 (zv (BY a b)) []:=by
 refine aK1 (cg (zg:=z)) (fn:=f224) hz (N:=100) ?_
 refine X6 z zn a b _ ?_
 (repeat' first|(with_reducible first|exact rfl|assumption|apply And.intro|exact UL hz _)|intro hq)
 all_goals (refine uL ?_;simp only[decide_eq_true_eq,decide_eq_false_iff_not] at*;unfold BY;(repeat' split)<;>first|rfl|(exfalso;omega))
theorem MX(hz:au z zn)(kb:aR)(hkb:z.get 0=some (.ay kb))(c:Nat->Int)(hc: ∀i,i<3->aq prog kb 3 (0+i*1)=some (zv (c i))):
 ai prog (ah (ag f223) 0) 0 18 (Gd 0) [] 0 z zn (Al.R (XO z zn (K1 (c 0) (c 1) (c 2))).l):=by
 refine ax hD (cg (zg:=z)) (α:=Nat) 0 18 0 (fun i=>i<=3/\ ∀j,j<i->c j=0) (fun i=>Gd i) (fun _=>[]) (fun _=>z) (fun _=>zn) (fun i=>3 - i) _ (fun i hI=>?_) 0 ⟨by omega,fun j h=>by omega⟩
 obtain⟨h1,h2⟩:=hI
 have orE: ∀i,i<3->(∀j,j<i->c j=0)->c i≠0->K1 (c 0) (c 1) (c 2)=c i:=fun i hi h hn=>by
  unfold K1
  match i,hi with
  |0,_=>rw[if_pos hn]
  |1,_=>rw[if_neg (by simpa using h 0 (by omega)),if_pos hn]
  |2,_=>rw[if_neg (by simpa using h 0 (by omega)),if_neg (by simpa using h 1 (by omega))]
 refine t100 (X3 z zn i kb (c i) 0 (an _ _ _ _ _ _ _ _ _) ?_)
 by_cases hi:i<3
 ·have d1:decide ((i:Int)<3)=true:=by simp;omega
  have hr:=hc i hi
  refine⟨fun _=>?_,nC1 d1⟩
  (repeat' first|(with_reducible first|exact rfl|assumption|apply And.intro|exact bF (by omega))|intro hq)
  all_goals first
   |(have h:c i≠0:=by simpa using (by assumption:(c i !=0)=true)
     have e:=orE i hi h2 h
     rw[e]
     exact bu h)
   |(have h:c i=0:=by simpa using (by assumption:(c i !=0)=false)
     exact⟨i+1,rfl,rfl,rfl,rfl,rfl,⟨hi,fun j hj=>by
      by_cases e:j=i
      ·subst e;exact h
      ·exact h2 j (by omega)⟩,by show 3 - (i+1)<3 - i;omega⟩)
 ·have d1:decide ((i:Int)<3)=false:=by simp;omega
  refine⟨nC1 d1,fun _=>?_⟩
  (repeat' first|(with_reducible first|exact rfl|assumption|apply And.intro))
  refine dv (bu ?_)
  unfold K1
  rw[if_neg (by simpa using h2 0 (by omega)),if_neg (by simpa using h2 1 (by omega))]
  exact h2 2 (by omega)
theorem ZD(hz:au z zn)(kb:aR)(hkb:z.get 0=some (.ay kb))(c:Nat->Int)(hc: ∀i,i<3->aq prog kb 3 (0+i*1)=some (zv (c i))):
 A1 z zn 223 [tb 0 3 3] [] 0 0 (zv (K1 (c 0) (c 1) (c 2))) []:=by
 have hL:=MX hz kb hkb c hc
 refine aK1 (cg (zg:=z)) (fn:=f223) hz (N:=100) ?_
 refine jor z zn (K1 (c 0) (c 1) (c 2)) _ ?_
 (repeat' first|(with_reducible first|exact rfl|assumption|apply And.intro)|exact hL|intro hq)
 all_goals first
  |exact q1
  |(refine uL ?_;simp_all;done)
end
def zT(e:TypeId)(x y w:Int):T aa:=(T.leaf:T aa).set 0 (.ay (bg e [zv x,zv y,zv w]))
theorem yC(e:TypeId)(x y w:Int)(k:Nat):(zT e x y w).get k=if k=0 then some (.ay (bg e [zv x,zv y,zv w])) else none:=by
 unfold zT;rw[T.aG];split<;>simp[T.dN]
theorem PA(e:TypeId)(x y w:Int):au (zT e x y w) 1:=fun k o h=>by
 rw[yC] at h
 split at h
 ·rename_i hk;subst hk;cases h
  exact⟨by decide,fun σ _=>rfl⟩
 ·cases h
theorem Xd(e:TypeId)(x y w:Int):mN prog (zT e x y w) 223 [tb 0 3 3] (zv (K1 x y w)):=by
 have h:=ZD (z:=zT e x y w) (zn:=1) (PA e x y w) (bg e [zv x,zv y,zv w]) (by rw[yC,if_pos rfl]) (fun i=>match i with|0=>x|1=>y|_=>w) (fun i hi=>by
  match i,hi with
  |0,_=>rfl
  |1,_=>rfl
  |2,_=>rfl)
 exact oz h (fun _ _=>rfl) rfl (fun k o hk=>by
  rw[yC] at hk
  split at hk
  ·cases hk;rfl
  ·cases hk) (fun σ hσ=>by
  have:=hσ 0 (by decide)
  simp only[aT,aJ,this])
theorem Tc(a b:Int):mN prog (T.leaf:T aa) 224 [zv a,zv b] (zv (BY a b)):=cz (UT lE a b) rfl rfl
def J1:cJ:=fun f args h=>match f,args with
 |224,[.int .i64 a, .int .i64 b]=>some (zv (BY a b),h)
 |223,[.slice (some ⟨b,0,none⟩) 3 3]=>match h.heap.get b with
  |some (.ay ⟨[.int .i64 x, .int .i64 y, .int .i64 w],_,_,_,true,_,_,_⟩)=>some (zv (K1 x y w),h)
  |_=>none
 |_,_=>none
theorem vA{ρ:aX}{h:Hs}{w w':World}{v:Value}(hv:aD v=true)(hh:aL ρ h.heap.get w)(hb:Go.RowKit.Below w.heap.size w w'):On ρ h w v h (.returned v) w':=by
 refine⟨ρ,v,rfl,VR.bw hv,⟨fun b o ho=>?_,hh.inj⟩,⟨hb.os,hb.tape,hb.output,hb.size,fun r hr _=>hb.block r hr,fun b o L h1 h2 h3=> .inl ⟨b,o,L,h1,h2,h3,rfl⟩,fun b o L h1 h3=> .inl ⟨b,o,L,h1,h3,rfl⟩,aX.le.refl _,fun _ _=>rfl⟩⟩
 obtain⟨L,x,a1,a2,a3⟩:=hh.obj b o ho
 exact⟨L,x,a1,by rw[hb.block _ (Array.getElem?_eq_some_iff.1 a2).1];exact a2,a3⟩
theorem J0:dG prog J1:=by
 intro f args h v h' he
 unfold J1 at he
 split at he
 ·rename_i a b
  cases he
  refine⟨Mod.refl _,fun ρ w args' n hargs hh hf=>callsIn_wide.2 ?_⟩
  have e:=hargs.plain rfl
  subst e
  exact((Tc a b).2 AW w _ (fun k o hk=>by cases hk) (c7.bw rfl)).mono fun e w' ⟨h1,hb⟩=>by rw[h1];exact vA rfl hh hb
 ·rename_i b
  split at he
  ·rename_i x y u cap jV el wh fz ow hb0
   cases he
   refine⟨Mod.refl _,fun ρ w args' n hargs hh hf=>callsIn_wide.2 ?_⟩
   obtain⟨L,o,k1,k2,k3⟩:=hh.obj b _ hb0
   cases o<;>simp only[OR] at k3
   rename_i c el' fr
   have hψ:=k3.exact rfl
   have ha:args'=[.slice (some ⟨L.φ,L.δ+0,none⟩) 3 (3+L.ψ)]:=by
    cases hargs with
    |cons _ _ _ _ h1 h2=>
     cases h2
     cases h1 with
     |sc _ h=>simp[simple] at h
     |sl _ _ _ _ L' h=>rw[k1] at h;cases h;rfl
   let ρ2:aX:=fun i=>if i=510 then some L else none
   have hv:c7 ρ2 [tb 0 3 3] args':=by
    rw[ha]
    exact .cons _ _ _ _ (.sl (256*0+510) 0 3 3 L (if_pos rfl)) .nil
   have hfz:Oo (zT el x y u) ρ2 w:=fun k o hk=>by
    rw[yC] at hk
    split at hk
    ·rename_i hk0
     subst hk0;cases hk
     refine⟨L,_,if_pos rfl,k2,?_⟩
     refine⟨k3.elem,Nat.le_refl _,fun hh=>(by cases hh),fun i v hv=>?_,fun _=>hψ,fun hh=>(by cases hh),fun hh=>(by cases hh),fun hh=>(by cases hh)⟩
     obtain⟨v',q1,q2⟩:=k3.cell i v hv
     have hp:aD v=true:=by
      match i,hv with
      |0,hv=>cases hv;rfl
      |1,hv=>cases hv;rfl
      |2,hv=>cases hv;rfl
     have:=q2.plain hp
     subst this
     exact⟨v',q1,VR.bw hp⟩
    ·cases hk
   exact((Xd el x y u).2 ρ2 w args' hfz hv).mono fun e w' ⟨h1,hb⟩=>by rw[h1];exact vA rfl hh hb
  ·cases he
 ·cases he
theorem XA(a b c d e f:Int)(s t:Bool):Cp prog 222 [.agg ⟨[.int .i64 a, .int .i64 b, .int .i64 c, .bool s]⟩, .agg ⟨[.int .i64 d, .int .i64 e, .int .i64 f, .bool t]⟩] (zv (sm a b c d e f)):=
 AO (c:=xY prog (qF prog J1 300) (fun _ _ _=>none)) (vN (vE hD J0 300)) (by kernel_rfl) (by kernel_rfl) (nx:=6) (by kernel_rfl)
theorem mQ(z:T aa):eN prog z gS:=by
 intro f args v h
 unfold gS at h
 split at h
 ·cases h
  refine⟨rfl,fun ρ W args' _ ha=>?_⟩
  have e:=ha.plain rfl
  subst e
  exact XA _ _ _ _ _ _ _ _ W
 ·cases h
end Go.Proofs.Nw
namespace Go.Proofs.Nw
open Go Go.AV Tryz
set_option maxHeartbeats 4000000
set_option maxRecDepth 100000
theorem pf{b c:Nat->Option Int}: ∀(m i:Nat),(∀j,i<=j->j<i+m->b j=c j)->scan b m i=scan c m i
 |0,_,_=>rfl
 |m+1,i,h=>by
  simp only[scan]
  rw[h i (Nat.le_refl _) (by omega),pf m (i+1) fun j h1 h2=>h j (by omega) (by omega)]
theorem Fo{b:Nat->Option Int}(h: ∀i,b i≠some 0)(i:Nat):qR (fun i=>(b i).getD 0) i=b i:=by
 unfold qR
 cases hb:b i with
 |none=>simp[hb]
 |some e=>
  have:e≠0:=fun h0=>h i (by rw[hb,h0])
  simp[hb,this]
theorem so(ns nr:Nat)(l:List RunT)(i:Nat):dz ns nr l i≠some 0:=by
 unfold dz
 cases l[i]? with
 |none=>simp
 |some x=>
  simp only
  (repeat' split)<;>first|(simp;done)|(intro h;simp_all;done)
theorem KA(U:List RunT)(L:List aH)(i:Nat):ft U L i≠some 0:=by
 unfold ft
 cases L[i]? with
 |none=>simp
 |some x=>
  simp only
  split
  ·simp
  ·rename_i h;intro e;exact h (by simpa using e)
theorem PW(ns nr:Nat)(l:List RunT):cL ns nr l=if 1024<l.length then (0,5) else scan (qR fun i=>(dz ns nr l i).getD 0) l.length 0:=by
 unfold cL
 split
 ·rfl
 ·exact pf _ _ fun j _ _=>(Fo (so ns nr l) j).symm
theorem Nd(U:List RunT)(L:List aH):bK U L=if 1024<L.length then (0,5) else scan (qR fun i=>(ft U L i).getD 0) L.length 0:=by
 unfold bK
 split
 ·rfl
 ·exact pf _ _ fun j _ _=>(Fo (KA U L) j).symm
theorem eZ{b:Nat->Option Int}(hb: ∀i,b i≠some 0): ∀(m i:Nat),(scan b m i).2=0-> ∀j,i<=j->j<i+m->b j=none
 |0,i,_,j,h1,h2=>by omega
 |m+1,i,h,j,h1,h2=>by
  simp only[scan] at h
  cases hc:b i with
  |some e=>
   rw[hc] at h
   exact(hb i (by rw[hc];exact congrArg some h)).elim
  |none=>
   rw[hc] at h
   by_cases e:j=i
   ·subst e;exact hc
   ·exact eZ hb m (i+1) h j (by omega) (by omega)
theorem gx{ns nr:Nat}{l:List RunT}(h:(cL ns nr l).2=0):gu l:=by
 unfold cL at h
 split at h
 ·cases h
 rename_i hl
 refine⟨by omega,fun r hr=>?_⟩
 obtain⟨i,hi⟩:=List.mem_iff_getElem?.1 hr
 have hlt:=(List.getElem?_eq_some_iff.1 hi).1
 have:=eZ (so ns nr l) _ _ h i (Nat.zero_le _) (by omega)
 unfold dz at this
 rw[hi] at this
 simp only at this
 by_cases hc:r.calls.length<2\/32<r.calls.length
 ·have he:(bA r.calls ns 0 3155932800).2=5:=by unfold bA;rw[if_pos hc]
  have hr5:yI ns r=5:=he
  rw[hr5] at this
  (repeat' split at this)<;>simp_all
 ·omega
section
variable{z:T aa}{zn:Nat}
theorem J8(hz:au z zn)(hg:eN prog z gP)(N:aw)(L:List aH)(hN:N.nl=L.length)(hL:bM z 0 (L.map aH.row))(i:Nat)(x:aH)(hx:L[i]? =some x):
 A1 z zn 90 [.agg ⟨N.dX ak N.l1⟩,iv i] [] 0 0 (zv (iM [] L i x)) []:=by
 have hi:i<L.length:=(List.getElem?_eq_some_iff.1 hx).1
 obtain⟨el,hel⟩:=hL.ay (i:=i) (by simp;omega)
 have hlen:=aM (row:=aH.row) (sz:=5) L fun _=>rfl
 have hrow:aq prog (bg el (L.map aH.row).flatten) 81 (0+i*5)=some (.agg ⟨x.row⟩):=bD (r:=x.row) (sz:=5) underlying81 rfl rfl hlen (by rw[List.getElem?_map,hx];rfl)
 have he:iM [] L i x=9:=by unfold iM;rw[if_pos (by simp;omega)]
 have hin:gP 136 [zv x.fz1, .int .i64 0, .int .i64 (-1)]=some (.bool false):=by
  show some (Value.bool (decide (0<=x.fz1) && decide (x.fz1<= -1)))=_
  have:(decide (0<=x.fz1) && decide (x.fz1<= -1))=false:=by simp;omega
  rw[this]
 rw[he]
 refine da hg (fn:=f90) (by kernel_rfl) (by kernel_rfl) hz ⟨by decide,by decide⟩ rfl (Zv z zn i N (bg el (L.map aH.row).flatten) x _ ?_)
 (repeat' first|(with_reducible first|exact rfl|assumption|apply And.intro|exact(by omega:i<N.nl))|exact hin|exact q1)
end
end Go.Proofs.Nw
namespace Go.Proofs.Nw
open Go Go.AV Tryz Go.jA
theorem sN{P:Program}{k k':aR}(h:k.cells=k'.cells)(t:TypeId)(off:Nat):aq P k t off=aq P k' t off:=by
 unfold aq;rw[h]
theorem gE{P:Program}{k:aR}{rows:List (List Value)}(hk:k.cells=rows.flatten){t:TypeId}{d:TypeDesc}{sz:Nat}(hd:P.underlying t=some d)(ha:me d=true)(hi:(P.info? t).map (·.size)=some sz)(hl: ∀r∈rows,r.length=sz)
 {i:Nat} {r:List Value} (h:rows[i]? =some r):aq P k t (0+i*sz)=some (.agg ⟨r⟩):=by
 rw[sN (k':=bg 0 rows.flatten) hk];exact bD hd ha hi hl h
theorem pq{P:Program}{k:aR}{rows:List (List Value)}(hk:k.cells=rows.flatten){t:TypeId}{d:TypeDesc}{sz:Nat}(hd:P.underlying t=some d)(ha:me d=false)(hl: ∀r∈rows,r.length=sz)
 {i j:Nat} {r:List Value} {v:Value} (h:rows[i]? =some r) (hj:r[j]? =some v):aq P k t (0+i*sz+j)=some v:=by
 rw[sN (k':=bg 0 rows.flatten) hk];exact aS hd ha hl h hj
theorem im{P:Program}{k:aR}{t:TypeId}{d:TypeDesc}(hd:P.underlying t=some d)(ha:me d=false){i:Nat}{v:Value}(h:k.cells[i]? =some v):aq P k t (0+i*1)=some v:=by
 unfold aq
 simp only[hd,ha]
 rw[rS,Nat.zero_add,Nat.mul_one,h]
theorem jU{sz:Nat}: ∀{rows:List (List Value)},(∀r∈rows,r.length=sz)->rows.flatten.length=rows.length*sz
 |[],_=>by simp
 |r::l,h=>by
  rw[List.flatten_cons,List.length_append,jU (rows:=l) fun x hx=>h x (List.mem_cons_of_mem _ hx),h r (List.mem_cons_self ..),List.length_cons,Nat.succ_mul];omega
theorem uV: ∀(a:List Value) {b c vs:List Value} {n:Nat},overwrite b n vs=some c->overwrite (a++b) (a.length+n) vs=some (a++c)
 |[],b,c,vs,n,h=>by simpa using h
 |x::a,b,c,vs,n,h=>by
  have:=uV a h
  have e:(x::a).length+n=(a.length+n)+1:=by simp;omega
  rw[e,List.cons_append]
  cases vs with
  |nil=>simp only[overwrite,this];rfl
  |cons v vs=>simp only[overwrite,this];rfl
theorem rO: ∀(r r' b:List Value),r.length=r'.length->overwrite (r++b) 0 r'=some (r'++b)
 |[],[],b,_=>by cases b<;>rfl
 |x::r,y::r',b,h=>by
  simp only[List.cons_append,overwrite]
  rw[rO r r' b (by simpa using h)]
theorem uU{sz:Nat}{rows:List (List Value)}(hl: ∀r∈rows,r.length=sz){i:Nat}(hi:i<rows.length){r':List Value}(hr:r'.length=sz):overwrite rows.flatten (0+i*sz) r'=some (rows.set i r').flatten:=by
 have e1:rows=rows.take i++rows[i]::rows.drop (i+1):=by
  rw[List.getElem_cons_drop,List.take_append_drop]
 have e2:rows.set i r'=rows.take i++r'::rows.drop (i+1):=List.set_eq_take_append_cons_drop.trans (by rw[if_pos hi])
 have hlen:(rows.take i).flatten.length=i*sz:=by
  rw[jU (fun r hr=>hl r (List.mem_of_mem_take hr)),List.length_take,Nat.min_eq_left (by omega)]
 rw[e2]
 conv=>lhs;rw[e1]
 rw[List.flatten_append,List.flatten_append,List.flatten_cons,List.flatten_cons,Nat.zero_add,←hlen]
 exact uV _ (rO _ _ _ (by rw[hl _ (List.getElem_mem hi),hr]))
theorem nk{cs:List Value}{i:Nat}(hi:i<cs.length)(v:Value):overwrite cs (0+i*1) [v]=some (cs.set i v):=by
 have e1:cs=cs.take i++cs[i]::cs.drop (i+1):=by
  rw[List.getElem_cons_drop,List.take_append_drop]
 have e2:cs.set i v=cs.take i++v::cs.drop (i+1):=List.set_eq_take_append_cons_drop.trans (by rw[if_pos hi])
 rw[e2]
 conv=>lhs;rw[e1]
 have hlen:(cs.take i).length=i:=by rw[List.length_take,Nat.min_eq_left (by omega)]
 have:=uV (cs.take i) (rO [cs[i]] [v] (cs.drop (i+1)) rfl)
 rw[hlen] at this
 rw[Nat.zero_add,Nat.mul_one]
 exact this
theorem lY{α:Type}(row:α->List Value)(l:List α)(i:Nat)(x:α):(l.map row).set i (row x)=(l.set i x).map row:=by
 rw[List.map_set]
theorem c8: ∀{l:List Value},bE l=true↔ ∀v∈l,aD v=true
 |[]=>by simp[bE]
 |v::l=>by
  simp only[bE]
  cases hv:aD v with
  |false=>simp[hv]
  |true=>simp[hv,c8 (l:=l)]
theorem jQ{α:Type}{row:α->List Value}(h: ∀x,bE (row x)=true)(l:List α):bE (l.map row).flatten=true:=by
 rw[c8]
 intro v hv
 obtain⟨r,hr,hv⟩:=List.mem_flatten.1 hv
 obtain⟨x,_,rfl⟩:=List.mem_map.1 hr
 exact c8.1 (h x) v hv
theorem bX{σ:Nat->Option Nat}{k:aR}(h:bE k.cells=true):aC σ (.ay k)=some (.ay k):=by
 simp only[aC,eo h]
theorem cX{x:Int}(h1: -4611686018427387904<=x)(h2:x<=4611686018427387904):Value.int .i64 (IntKind.i64.wrap x)=Value.int .i64 x:=by
 have:IntKind.i64.wrap x=x:=by
  simp only[IntKind.wrap,IntKind.signed,IntKind.bits]
  simp
  omega
 rw[this]
def Q2{α:Type}(eI:Nat)(φ:α->Prop)(v:α->Value)(zo:α->bN)(zz:α->T aa)(zn':α->Nat):Value->bN->Nat->T aa->Nat->Prop:=KX eI φ v zo zz zn'
theorem eM{z zg:T aa}{zn:Nat}{g:Nat->List Value->Option Value}(hg:eN prog zg g){f:Nat}{fn:Func}(hfn:prog.funcs[f]? =some fn)(hb:fn.body=some (ag fn)){args:List Value}{aQ:bN}(hz:au z zn){nx eI:Nat}(hnx:nx<=eI/\eI<=cM){α:Type}{φ:α->Prop}{v:α->Value}{zo:α->bN}{zz:α->T aa}{zn':α->Nat}
 (hlow: ∀x,φ x->Dc (zo x)=true/\zn<=zn' x/\au (zz x) (zn' x)) {N:Nat}
 (h: ∃t,dp prog g zg N (ag fn) (wG fn args) (dI z aQ nx) zn (FX prog nx fn (Q2 eI φ v zo zz zn')) t):bq prog z zn f args aQ nx eI φ v zo zz zn':=by
 obtain⟨t,ht⟩:=h
 exact B2 hD hg hfn hb hz nx eI hnx _ _ _ _ _ (fun x hx=>⟨tS (hlow x hx).1,(hlow x hx).2.1,(hlow x hx).2.2⟩) ht
theorem q2{α:Type}{eI:Nat}{φ:α->Prop}{v:α->Value}{zo:α->bN}{zz:α->T aa}{zn':α->Nat}(x:α)(h:φ x){u:Value}{aQ:bN}{n:Nat}{z':T aa}{m:Nat}(h1:n=eI)(h2:u=v x)(h3:aQ=zo x)(h4:z'=zz x)(h5:m=zn' x):Q2 eI φ v zo zz zn' u aQ n z' m:=⟨h1,x,h,h2,h3,h4,h5⟩
theorem yh{α:Type}{φ:α->Prop}{F:α->aA}{k:α->Tr}{l:Al}(x:α)(h:φ x){o:aA}(ho:o=F x):Al.R (.cons α φ F k l) o:= .inl ⟨x,h,ho⟩
end Go.Proofs.Nw
namespace Go.jA
variable{α:Type}
def gL(f:Nat->α)(n:Nat)(x:α):Prop:= ∃i,i<n/\f i=x
def pW(f:Nat->α)(i j:Nat):Nat->α:=fun k=>if k=i then f j else if k=j then f i else f k
theorem uj{f:Nat->α}{n i j:Nat}(hi:i<n)(hj:j<n)(x:α):gL (pW f i j) n x↔gL f n x:=by
 constructor
 ·rintro⟨k,hk,rfl⟩
  unfold pW
  split
  ·exact⟨j,hj,rfl⟩
  ·split
   ·exact⟨i,hi,rfl⟩
   ·exact⟨k,hk,rfl⟩
 ·rintro⟨k,hk,rfl⟩
  by_cases h1:k=i
  ·subst h1
   by_cases h2:j=k
   ·subst h2;exact⟨j,hj,by simp[pW]⟩
   ·exact⟨j,hj,by simp[pW,h2]⟩
  ·by_cases h2:k=j
   ·subst h2;exact⟨i,hi,by simp[pW]⟩
   ·exact⟨k,hk,by simp[pW,h1,h2]⟩
structure Ord(lt:α->α->Bool):Prop where
 asymm: ∀a b,lt a b=true->lt b a=false
 trans: ∀a b c,lt b a=false->lt c b=false->lt c a=false
def nV(lt:α->α->Bool)(f:Nat->α)(n:Nat):Prop:= ∀k,0<k->k<n->lt (f k) (f ((k - 1) / 2))=false
theorem Jr{lt:α->α->Bool}(o:Ord lt){f:Nat->α}{n:Nat}(h:nV lt f n): ∀k,k<n->lt (f k) (f 0)=false:=by
 intro k
 induction k using Nat.strongRecOn with
 |ind k ih=>
  intro hk
  by_cases h0:k=0
  ·subst h0
   cases hc:lt (f 0) (f 0) with
   |false=>rfl
   |true=>have:=o.asymm _ _ hc;rw[hc] at this;cases this
  ·exact o.trans _ _ _ (ih ((k - 1) / 2) (by omega) (by omega)) (h k (by omega) hk)
def LB(lt:α->α->Bool)(f:Nat->α)(n i:Nat):Prop:=
 (∀k,0<k->k<n->k≠i->lt (f k) (f ((k - 1) / 2))=false)/\
 (∀k,0<k->k<n->(k - 1) / 2=i->0<i->lt (f k) (f ((i - 1) / 2))=false)
theorem D3{lt:α->α->Bool}{f:Nat->α}{n i:Nat}(h:LB lt f n i)(hi:i=0\/lt (f i) (f ((i - 1) / 2))=false):nV lt f n:=by
 intro k h0 hk
 by_cases hki:k=i
 ·subst hki
  rcases hi with rfl|hi
  ·omega
  ·exact hi
 ·exact h.1 k h0 hk hki
theorem D2{lt:α->α->Bool}(o:Ord lt){f:Nat->α}{n i:Nat}(h:LB lt f n i)(h0:0<i)(hi:i<n)(hl:lt (f i) (f ((i - 1) / 2))=true):
 LB lt (pW f i ((i - 1) / 2)) n ((i - 1) / 2):=by
 have hp:(i - 1) / 2<i:=by omega
 have hpi:(i - 1) / 2≠i:=by omega
 have e1:pW f i ((i - 1) / 2) i=f ((i - 1) / 2):=by simp[pW]
 have e2:pW f i ((i - 1) / 2) ((i - 1) / 2)=f i:=by simp[pW,hpi]
 have e3: ∀k,k≠i->k≠(i - 1) / 2->pW f i ((i - 1) / 2) k=f k:=fun k a b=>by simp[pW,a,b]
 refine⟨fun k k0 kn kne=>?_,fun k k0 kn kp p0=>?_⟩
 ·by_cases hki:k=i
  ·subst hki
   rw[e1,e2];exact o.asymm _ _ hl
  ·rw[e3 k hki kne]
   by_cases hpar:(k - 1) / 2=i
   ·rw[hpar,e1];exact h.2 k k0 kn hpar h0
   ·by_cases hpp:(k - 1) / 2=(i - 1) / 2
    ·rw[hpp,e2]
     have:=h.1 k k0 kn hki
     rw[hpp] at this
     exact o.trans _ _ _ (o.asymm _ _ hl) this
    ·rw[e3 _ hpar hpp];exact h.1 k k0 kn hki
 ·have hg:((i - 1) / 2 - 1) / 2≠i:=by omega
  have hg2:((i - 1) / 2 - 1) / 2≠(i - 1) / 2:=by omega
  rw[e3 _ hg hg2]
  have hpg:=h.1 ((i - 1) / 2) p0 (by omega) hpi
  by_cases hki:k=i
  ·subst hki;rw[e1];exact hpg
  ·have hkp:k≠(i - 1) / 2:=by omega
   rw[e3 k hki hkp]
   have:=h.1 k k0 kn hki
   rw[kp] at this
   exact o.trans _ _ _ hpg this
def rj(lt:α->α->Bool)(f:Nat->α)(n i:Nat):Prop:=
 (∀k,0<k->k<n->(k - 1) / 2≠i->lt (f k) (f ((k - 1) / 2))=false)/\
 (∀k,0<k->k<n->(k - 1) / 2=i->0<i->lt (f k) (f ((i - 1) / 2))=false)
theorem GK{lt:α->α->Bool}{f:Nat->α}{n i:Nat}(h:rj lt f n i)(hc: ∀k,k<n->0<k->(k - 1) / 2=i->lt (f k) (f i)=false):nV lt f n:=by
 intro k h0 hk
 by_cases hp:(k - 1) / 2=i
 ·rw[hp];exact hc k hk h0 hp
 ·exact h.1 k h0 hk hp
theorem GJ{lt:α->α->Bool}(o:Ord lt){f:Nat->α}{n i c:Nat}(h:rj lt f n i)(h0:0<c)(hc:c<n)(hp:(c - 1) / 2=i)(hl:lt (f c) (f i)=true)
 (hmin: ∀k,k<n->0<k->(k - 1) / 2=i->lt (f k) (f c)=false):
 rj lt (pW f i c) n c:=by
 have hci:c≠i:=by omega
 have e1:pW f i c i=f c:=by simp[pW]
 have e2:pW f i c c=f i:=by simp[pW,hci]
 have e3: ∀k,k≠i->k≠c->pW f i c k=f k:=fun k a b=>by simp[pW,a,b]
 refine⟨fun k k0 kn kne=>?_,fun k k0 kn kp p0=>?_⟩
 ·by_cases hkc:k=c
  ·subst hkc
   rw[e2,hp,e1];exact o.asymm _ _ hl
  ·by_cases hki:k=i
   ·subst hki
    have hne:(k - 1) / 2≠k:=by omega
    rw[e1,e3 _ hne kne]
    exact h.2 c h0 hc hp k0
   ·rw[e3 k hki hkc]
    by_cases hpar:(k - 1) / 2=i
    ·rw[hpar,e1];exact hmin k kn k0 hpar
    ·rw[e3 _ hpar kne];exact h.1 k k0 kn hpar
 ·have hki:k≠i:=by omega
  have hkc:k≠c:=by omega
  rw[e3 k hki hkc,hp,e1]
  have:=h.1 k k0 kn (by omega)
  rw[kp] at this
  exact this
theorem Dv{lt:α->α->Bool}{f:Nat->α}{n:Nat}(h:nV lt f (n+1)):rj lt (pW f 0 n) n 0:=by
 refine⟨fun k k0 kn kne=>?_,fun k k0 kn kp p0=>by omega⟩
 have e3: ∀k,k≠0->k≠n->pW f 0 n k=f k:=fun k a b=>by simp[pW,a,b]
 rw[e3 k (by omega) (by omega),e3 _ kne (by omega)]
 exact h k k0 (by omega)
theorem HP{f:Nat->α}{n:Nat}(x:α):gL (pW f 0 n) n x↔ ∃i,0<i/\i<n+1/\f i=x:=by
 constructor
 ·rintro⟨k,hk,rfl⟩
  unfold pW
  split
  ·exact⟨n,by omega,by omega,rfl⟩
  ·split
   ·omega
   ·exact⟨k,by omega,by omega,rfl⟩
 ·rintro⟨k,k0,hk,rfl⟩
  by_cases h:k=n
  ·subst h;exact⟨0,k0,by simp[pW]⟩
  ·exact⟨k,by omega,by simp[pW,h,Nat.ne_of_gt k0]⟩
theorem Aq{lt:α->α->Bool}{f:Nat->α}{n:Nat}(h:nV lt f n)(x:α):LB lt (fun k=>if k=n then x else f k) (n+1) n:=by
 refine⟨fun k k0 kn kne=>?_,fun k k0 kn kp p0=>by omega⟩
 simp only
 rw[if_neg kne,if_neg (by omega)]
 exact h k k0 (by omega)
end Go.jA
namespace Go.Proofs.Nw
open Go Go.AV Tryz Go.jA
set_option maxHeartbeats 4000000
set_option maxRecDepth 100000
def nd0:cd:=⟨⟨0,0,0⟩,0⟩
def hf(ms:List cd)(k:Nat):cd:=ms[k]?.getD nd0
def zY(ms:List cd)(i k:Nat):List cd:=(ms.set i (hf ms k)).set k (hf ms i)
theorem QK{ms:List cd}{k:Nat}(h:k<ms.length):ms[k]? =some (hf ms k):=by
 unfold hf;rw[List.getElem?_eq_getElem h];rfl
theorem lO(ms:List cd)(i k:Nat):(zY ms i k).length=ms.length:=by simp[zY]
theorem nA{ms:List cd}{i k:Nat}(hi:i<ms.length)(hk:k<ms.length):hf (zY ms i k)=pW (hf ms) i k:=by
 funext j
 unfold pW hf zY
 rw[List.getElem?_set,List.getElem?_set,List.length_set]
 by_cases h1:k=j
 ·subst h1
  by_cases h2:k=i
  ·subst h2;simp[hk,hf]
  ·simp[h2,hk,hf]
 ·have h1': ¬j=k:=fun e=>h1 e.symm
  by_cases h2:i=j
  ·subst h2;simp[h1,hi];rfl
  ·have h2': ¬j=i:=fun e=>h2 e.symm
   simp[h1,h1',h2,h2']
theorem xD(a b:cQ):oU a b=true↔a.len<b.len\/(a.len=b.len/\a.gi<b.gi):=by
 unfold oU;simp
theorem nL(a b:cd):dQ a b=true↔a.x.len<b.x.len\/(a.x.len=b.x.len/\(a.x.gi<b.x.gi\/(a.x.gi=b.x.gi/\a.num<b.num))):=by
 unfold dQ
 rw[Bool.or_eq_true,Bool.and_eq_true,xD,Bool.not_eq_true',decide_eq_true_eq]
 have h:oU b.x a.x=false↔ ¬(b.x.len<a.x.len\/(b.x.len=a.x.len/\b.x.gi<a.x.gi)):=by
  rw[←xD];simp
 rw[h]
 omega
theorem iW:Ord dQ:=by
 refine⟨fun a b h=>?_,fun a b c h1 h2=>?_⟩
 ·rw[nL] at h
  cases hc:dQ b a with
  |false=>rfl
  |true=>rw[nL] at hc;omega
 ·cases hc:dQ c a with
  |false=>rfl
  |true=>
   have n1: ¬dQ b a=true:=by rw[h1];simp
   have n2: ¬dQ c b=true:=by rw[h2];simp
   rw[nL] at n1 n2 hc
   omega
theorem uB(ms:List cd): ∀r∈ms.map cd.row,r.length=4:=aM ms fun _=>rfl
theorem nY(ms:List cd):(aF ms).length=ms.length*4:=by rw[jU (uB ms),List.length_map]
theorem sM(ms:List cd):bE (aF ms)=true:=jQ (fun _=>rfl) ms
theorem Qa{σ:Nat->Option Nat}(ms:List cd)(c:Nat):aC σ (dW (aF ms) c)=some (dW (aF ms) c):=bX (sM ms)
theorem cA{σ:Nat->Option Nat}(ms:List cd)(c:Nat):aC σ (aa.ay (aR.mk (aF ms) c 4 358 false false 0 true))=some (aa.ay (aR.mk (aF ms) c 4 358 false false 0 true)):=bX (sM ms)
theorem Oy{ms:List cd}{i:Nat}(h:i<ms.length)(c:Nat):aq prog (aR.mk (aF ms) c 4 358 false false 0 true) 358 (0+i*4)=some (.agg ⟨(hf ms i).row⟩):=
 gE (rows:=ms.map cd.row) rfl underlying358 rfl rfl (uB ms) (by rw[List.getElem?_map,QK h];rfl)
theorem Iw{ms:List cd}{i:Nat}(h:i<ms.length)(a:cd):overwrite (aF ms) (0+i*4) a.row=some (aF (ms.set i a)):=by
 have:=uU (uB ms) (i:=i) (by simpa using h) (r':=a.row) rfl
 rw[lY] at this
 exact this
theorem cZ(z:T aa):eN prog z gH:=by
 intro f args v h
 unfold gH at h
 split at h
 ·rename_i a b c d e f
  cases h
  refine cz ?_ rfl rfl
  refine aK1 (cg (zg:= .leaf)) (fn:=f274) lE (Up .leaf 0 ⟨a,b,c⟩ ⟨d,e,f⟩ _ ?_)
  (repeat' first|(with_reducible first|exact rfl|apply And.intro|exact lE)|intro hq)
  all_goals (refine uL ?_;unfold oU;simp_all)
 ·cases h
section
variable{z:T aa}{zn:Nat}
theorem UK(hz:au z zn):A1 z zn 273 [Jd] [] 0 1 (ip 0) [(0,eB ak 0)]:=by
 refine aK1 (QO (z:=z)) (fn:=f273) hz (pB z zn _ ?_)
 (repeat' first|(with_reducible first|exact rfl|assumption|apply And.intro)|exact q1)
theorem vO(hz:au z zn)(ms:List cd)(i k n c cc:Nat)(p:Int)(hi:i<n)(hk:k<n)(hn:n<=ms.length):
 A1 z zn 280 [ip 0,iv i,iv k] [(0,eB (bc 1 n c) p),(1,dW (aF ms) cc)] 2 2 (.bool (dQ (hf ms i) (hf ms k))) [(0,eB (bc 1 n c) p),(1,dW (aF ms) cc)]:=by
 refine aK1 (cZ z) (fn:=f280) hz (Ze z zn i k n c cc p (hf ms i) (hf ms k) (aF ms) _ ?_)
 (repeat' first|(with_reducible first|exact rfl|assumption|apply And.intro|exact Oy (by omega) _|exact cA _ _)|exact(rfl:gH _ _=_)|intro hq)
 all_goals first
  |(refine uL ?_
    unfold dQ
    simp_all;done)
theorem zy(hz:au z zn)(ms:List cd)(i k n c cc:Nat)(p:Int)(hi:i<n)(hk:k<n)(hn:n<=ms.length)(hc:ms.length*4<=cc):
 A1 z zn 281 [ip 0,iv i,iv k] [(0,eB (bc 1 n c) p),(1,dW (aF ms) cc)] 2 2 (.tuple ⟨[]⟩) [(0,eB (bc 1 n c) p),(1,dW (aF (zY ms i k)) cc)]:=by
 have h1:=Iw (ms:=ms) (i:=i) (by omega) (hf ms k)
 have h2:=Iw (ms:=ms.set i (hf ms k)) (i:=k) (by simp;omega) (hf ms i)
 have l1:(aF (ms.set i (hf ms k))).length<=cc:=by rw[nY];simp;exact hc
 have l2:(aF (zY ms i k)).length<=cc:=by rw[nY,lO];exact hc
 refine aK1 (cZ z) (fn:=f281) hz (X9 z zn i k n c cc p (hf ms i) (hf ms k) (aF ms) (aF (ms.set i (hf ms k))) (aF (zY ms i k)) _ ?_)
 (repeat' first|(with_reducible first|exact rfl|assumption|apply And.intro|exact Oy (by omega) _|exact cA _ _)|exact h2|exact q1)
end
def upφ(ms:List cd)(m:Nat)(ms':List cd):Prop:=ms'.length=ms.length/\nV dQ (hf ms') m/\ ∀v,gL (hf ms') m v↔gL (hf ms) m v
theorem Ou{i:Nat}(h:0<i):((i:Int) - 1).tdiv 2=(((i - 1) / 2:Nat):Int):=by
 rw[show(i:Int) - 1=((i - 1:Nat):Int) by omega]
 rw[Int.tdiv_eq_ediv_of_nonneg (by omega)]
 omega
section
variable{z:T aa}{zn:Nat}
theorem Bn(hz:au z zn)(ms:List cd)(m i c cc:Nat)(p:Int)(hi:i<m)(hm:m<=ms.length)(hc:ms.length*4<=cc)(hs:m<100000000)(hU:LB dQ (hf ms) m i):
 ai prog (ah (ag f275) 0) 4 54 (rZ i) [(0,eB (bc 4 m c) p),(4,dW (aF ms) cc)] (4+1) z zn (Al.R (ME z zn 4 i m c cc p (aF ms) (upφ ms m)).l):=by
 refine ax hD (cZ z) (α:=Nat × List cd) 4 54 (4+1) (fun x=>x.1<m/\x.2.length=ms.length/\LB dQ (hf x.2) m x.1/\ ∀v,gL (hf x.2) m v↔gL (hf ms) m v) (fun x=>rZ x.1) (fun x=>[(0,eB (bc 4 m c) p),(4,dW (aF x.2) cc)]) (fun _=>z) (fun _=>zn) (fun x=>x.1) _ (fun x hI=>?_) (i,ms) ⟨hi,rfl,hU,fun _=>Iff.rfl⟩
 obtain⟨i,ms'⟩:=x
 obtain⟨h1,h2,h3,h4⟩:=hI
 simp only at h1 h2 h3 h4 ⊢
 have out:(i=0\/dQ (hf ms' i) (hf ms' ((i - 1) / 2))=false)->Al.R (ME z zn 4 i m c cc p (aF ms) (upφ ms m)).l ⟨.exit 0,[(0,ip 0)],[(0,eB (bc 4 m c) p),(4,dW (aF ms') cc)],4+1,z,zn⟩:=fun h=>yh ms' ⟨h2,D3 h3 h,h4⟩ rfl
 by_cases h0:0<i
 ·have hlt:(i - 1) / 2<i:=by omega
  have b1:=vO hz ms' i ((i - 1) / 2) m c cc p h1 (by omega) (by omega)
  have s1:=zy hz ms' i ((i - 1) / 2) m c cc p h1 (by omega) (by omega) (by omega)
  have e1:=cA (σ:=sig [(0,0),(1,4)]) ms' cc
  have w1:Value.int .i64 (IntKind.i64.wrap ((i:Int) - 1))=Value.int .i64 ((i:Int) - 1):=cX (by omega) (by omega)
  have w2:Value.int .i64 (IntKind.i64.wrap (((i - 1) / 2:Nat):Int))=Value.int .i64 (((i - 1) / 2:Nat):Int):=cX (by omega) (by omega)
  refine t100 (Um z zn i m c cc p (fun x y=>dQ (hf ms' x.toNat) (hf ms' y.toNat)) (fun x y=>aF (zY ms' x.toNat y.toNat)) (aF ms') (an _ _ _ _ _ _ _ _ _) ?_)
  rw[Ou h0]
  have hc0:decide ((i:Int)>0)=true:=by simp;omega
  refine⟨fun _=>?_,nC1 hc0⟩
  simp only[Int.toNat_natCast]
  (repeat' first|(with_reducible first|exact rfl|exact True.intro|assumption|apply And.intro|exact cA _ _)|exact b1|exact s1|intro hq)
  ·refine⟨((i - 1) / 2,zY ms' i ((i - 1) / 2)),rfl,rfl,rfl,rfl,rfl,⟨by simp only;omega,by simp only[lO];exact h2,?_,fun v=>?_⟩,hlt⟩
   ·simp only
    rw[nA (by omega) (by omega)]
    exact D2 iW h3 h0 h1 (by assumption)
   ·simp only
    rw[nA (by omega) (by omega),uj h1 (by omega)]
    exact h4 v
  ·exact out (.inr (by with_reducible assumption))
 ·have hi0:i=0:=by omega
  subst hi0
  refine t100 (Um z zn 0 m c cc p (fun x y=>false) (fun x y=>[]) (aF ms') (an _ _ _ _ _ _ _ _ _) ⟨fun h=>(by simp at h),fun _=>?_⟩)
  (repeat' first|(with_reducible first|exact rfl|assumption|apply And.intro|exact cA _ _))
  ·exact out (.inl rfl)
theorem IS(hz:au z zn)(ms:List cd)(m i c cc:Nat)(p:Int)(hi:i<m)(hm:m<=ms.length)(hc:ms.length*4<=cc)(hs:m<100000000)(hU:LB dQ (hf ms) m i):
 ai prog (ah (ag f275) 0) 5 54 (rZ i) [(0,eB (bc 5 m c) p),(5,dW (aF ms) cc)] (5+1) z zn (Al.R (ME z zn 5 i m c cc p (aF ms) (upφ ms m)).l):=by
 refine ax hD (cZ z) (α:=Nat × List cd) 5 54 (5+1) (fun x=>x.1<m/\x.2.length=ms.length/\LB dQ (hf x.2) m x.1/\ ∀v,gL (hf x.2) m v↔gL (hf ms) m v) (fun x=>rZ x.1) (fun x=>[(0,eB (bc 5 m c) p),(5,dW (aF x.2) cc)]) (fun _=>z) (fun _=>zn) (fun x=>x.1) _ (fun x hI=>?_) (i,ms) ⟨hi,rfl,hU,fun _=>Iff.rfl⟩
 obtain⟨i,ms'⟩:=x
 obtain⟨h1,h2,h3,h4⟩:=hI
 simp only at h1 h2 h3 h4 ⊢
 have out:(i=0\/dQ (hf ms' i) (hf ms' ((i - 1) / 2))=false)->Al.R (ME z zn 5 i m c cc p (aF ms) (upφ ms m)).l ⟨.exit 0,[(0,ip 0)],[(0,eB (bc 5 m c) p),(5,dW (aF ms') cc)],5+1,z,zn⟩:=fun h=>yh ms' ⟨h2,D3 h3 h,h4⟩ rfl
 by_cases h0:0<i
 ·have hlt:(i - 1) / 2<i:=by omega
  have b1:=vO hz ms' i ((i - 1) / 2) m c cc p h1 (by omega) (by omega)
  have s1:=zy hz ms' i ((i - 1) / 2) m c cc p h1 (by omega) (by omega) (by omega)
  have e1:=cA (σ:=sig [(0,0),(1,5)]) ms' cc
  have w1:Value.int .i64 (IntKind.i64.wrap ((i:Int) - 1))=Value.int .i64 ((i:Int) - 1):=cX (by omega) (by omega)
  have w2:Value.int .i64 (IntKind.i64.wrap (((i - 1) / 2:Nat):Int))=Value.int .i64 (((i - 1) / 2:Nat):Int):=cX (by omega) (by omega)
  refine t100 (Ul z zn i m c cc p (fun x y=>dQ (hf ms' x.toNat) (hf ms' y.toNat)) (fun x y=>aF (zY ms' x.toNat y.toNat)) (aF ms') (an _ _ _ _ _ _ _ _ _) ?_)
  rw[Ou h0]
  have hc0:decide ((i:Int)>0)=true:=by simp;omega
  refine⟨fun _=>?_,nC1 hc0⟩
  simp only[Int.toNat_natCast]
  (repeat' first|(with_reducible first|exact rfl|exact True.intro|assumption|apply And.intro|exact cA _ _)|exact b1|exact s1|intro hq)
  ·refine⟨((i - 1) / 2,zY ms' i ((i - 1) / 2)),rfl,rfl,rfl,rfl,rfl,⟨by simp only;omega,by simp only[lO];exact h2,?_,fun v=>?_⟩,hlt⟩
   ·simp only
    rw[nA (by omega) (by omega)]
    exact D2 iW h3 h0 h1 (by assumption)
   ·simp only
    rw[nA (by omega) (by omega),uj h1 (by omega)]
    exact h4 v
  ·exact out (.inr (by with_reducible assumption))
 ·have hi0:i=0:=by omega
  subst hi0
  refine t100 (Ul z zn 0 m c cc p (fun x y=>false) (fun x y=>[]) (aF ms') (an _ _ _ _ _ _ _ _ _) ⟨fun h=>(by simp at h),fun _=>?_⟩)
  (repeat' first|(with_reducible first|exact rfl|assumption|apply And.intro|exact cA _ _))
  ·exact out (.inl rfl)
def pushφ(s:rD)(x:cQ)(ms':List cd):Prop:=s.n+1<=ms'.length/\ms'.length<=s.ms.length+1/\nV dQ (hf ms') (s.n+1)/\ ∀v,gL (hf ms') (s.n+1) v↔v=⟨x,s.p⟩\/gL (hf s.ms) s.n v
structure wg(s:rD):Prop where
 len:s.n<=s.ms.length
 heap:nV dQ (hf s.ms) s.n
 p0:0<=s.p
 pb:s.p<=1000000
 lp:(s.ms.length:Int)<=s.p
theorem D1{f g:Nat->cd}{n:Nat}{x:cd}(h: ∀k,k<n->g k=f k)(hn:g n=x)(v:cd):gL g (n+1) v↔v=x\/gL f n v:=by
 constructor
 ·rintro⟨k,hk,rfl⟩
  by_cases e:k=n
  ·subst e;exact .inl hn
  ·exact .inr ⟨k,by omega,(h k (by omega)).symm⟩
 ·rintro (rfl|⟨k,hk,rfl⟩)
  ·exact⟨n,by omega,hn⟩
  ·exact⟨k,by omega,h k hk⟩
theorem NT(hz:au z zn)(x:cQ):A1 z zn 275 [ip 0, .agg ⟨x.row⟩] [(0,eB ak 0)] 1 2 (.tuple ⟨[]⟩) [(0,eB (bc 1 1 1) 1),(1,dW (cd.row ⟨x,0⟩) 4)]:=by
 have hK:=Bn hz [⟨x,0⟩] 1 0 1 4 1 (by omega) (by simp) (by simp) (by omega) ⟨fun k h0 hk=>by omega,fun k h0 hk=>by omega⟩
 have w1:Value.int .i64 (IntKind.i64.wrap ((0:Int)+1))=Value.int .i64 ((0:Int)+1):=cX (by omega) (by omega)
 refine aK1 (cZ z) (fn:=f275) hz (Zd z zn x 0 (upφ [⟨x,0⟩] 1) _ ?_)
 (repeat' first|(with_reducible first|exact rfl|assumption|apply And.intro|exact cA _ _)|exact hK|intro hq)
 all_goals
  rename_i ms
  obtain⟨k1,k2,k3⟩:=hq
  obtain⟨j,hj,hv⟩:=(k3 ⟨x,0⟩).2 ⟨0,by omega,rfl⟩
  have hj0:j=0:=by omega
  subst hj0
  have:ms=[⟨x,0⟩]:=by
   match ms,k1 with
   |[a],_=>exact congrArg (fun y=>[y]) hv
  subst this
  exact q1
theorem NU(hz:au z zn)(n:Nat)(ms:List cd)(p:Int)(hs:wg ⟨n,ms,p⟩)(h1:1<=ms.length)(hp:p+1<=1000000)(x:cQ):
 aP prog z zn 275 [ip 0, .agg ⟨x.row⟩] [(0,eB (bc 1 n ms.length) p),(1,dW (aF ms) (ms.length*4))] 2 3 (pushφ ⟨n,ms,p⟩ x) (fun _=> .tuple ⟨[]⟩) (fun ms=>[(0,eB (bc 2 (n+1) ms.length) (p+1)),(2,dW (aF ms) (ms.length*4))]):=by
 obtain⟨q1,q2',q3,q4,q5⟩:=hs
 simp only at q1 q2' q3 q4 q5
 have w1:Value.int .i64 (IntKind.i64.wrap (p+1))=Value.int .i64 (p+1):=cX (by omega) (by omega)
 have w2:Value.int .i64 (IntKind.i64.wrap ((↑(n+1):Int) - 1))=Value.int .i64 ((↑(n+1):Int) - 1):=cX (by omega) (by omega)
 have w3:(some (Value.int IntKind.i64 (↑n:Int)):Option Value)=some (Value.int IntKind.i64 ((↑(n+1):Int) - 1)):=by congr 2;omega
 have low: ∀ms':List cd,pushφ ⟨n,ms,p⟩ x ms'->Dc [(0,eB (bc 2 (n+1) ms'.length) (p+1)),(2,dW (aF ms') (ms'.length*4))]=true/\zn<=zn/\au z zn:=fun _ _=>⟨rfl,Nat.le_refl _,hz⟩
 by_cases hlt:n<ms.length
 ·
  have hset: ∀k,hf (ms.set n ⟨x,p⟩) k=if k=n then ⟨x,p⟩ else hf ms k:=fun k=>by
   unfold hf
   rw[List.getElem?_set]
   by_cases e:n=k
   ·subst e;simp[hlt]
   ·have e': ¬k=n:=fun h=>e h.symm
    simp[e,e']
  have hU:LB dQ (hf (ms.set n ⟨x,p⟩)) (n+1) n:=by
   rw[show hf (ms.set n ⟨x,p⟩)=fun k=>if k=n then ⟨x,p⟩ else hf ms k from funext hset]
   exact Aq q2' _
  have hK:=Bn hz (ms.set n ⟨x,p⟩) (n+1) n ms.length (ms.length*4) (p+1) (by omega) (by simp;omega) (by simp) (by omega) (by exact hU)
  have o1:=Iw (i:=n) hlt ⟨x,p⟩
  have l1:(aF (ms.set n ⟨x,p⟩)).length<=ms.length*4:=by rw[nY];simp
  refine eM (cZ z) (fn:=f275) (by kernel_rfl) (by kernel_rfl) hz ⟨by decide,by decide⟩ low (N:=100) ?_
  refine Zc z zn n ms.length (ms.length*4) x p (aF ms) (aF (ms.set n ⟨x,p⟩)) (upφ (ms.set n ⟨x,p⟩) (n+1)) _ ?_
  (repeat' first|(with_reducible first|exact rfl|assumption|apply And.intro|exact cA _ _|exact(by omega:n+1<=ms.length))|exact hK|intro hq)
  all_goals
   rename_i ms'
   obtain⟨k1,k2,k3⟩:=hq
   rw[List.length_set] at k1
   have hv: ∀v,gL (hf ms') (n+1) v↔v=⟨x,p⟩\/gL (hf ms) n v:=fun v=>(k3 v).trans (D1 (fun k hk=>by rw[hset,if_neg (by omega)]) (by rw[hset,if_pos rfl]) v)
   exact q2 ms' ⟨by show n+1<=ms'.length;omega,by show ms'.length<=ms.length+1;omega,k2,hv⟩ rfl rfl (by rw[←k1];rfl) rfl rfl
 ·have hn:n=ms.length:=by omega
  have hset: ∀k,hf (ms++[⟨x,p⟩]) k=if k=n then ⟨x,p⟩ else hf ms k:=fun k=>by
   unfold hf
   rw[List.getElem?_append]
   by_cases e:k=n
   ·subst e;rw[if_neg (by omega),if_pos rfl,hn];simp
   ·rw[if_neg e]
    by_cases e2:k<ms.length
    ·rw[if_pos e2]
    ·rw[if_neg e2,List.getElem?_eq_none (by omega:ms.length<=k),List.getElem?_eq_none (by simp;omega)]
  have hU:LB dQ (hf (ms++[⟨x,p⟩])) (n+1) n:=by
   rw[show hf (ms++[⟨x,p⟩])=fun k=>if k=n then ⟨x,p⟩ else hf ms k from funext hset]
   exact Aq q2' _
  have hK:=IS hz (ms++[⟨x,p⟩]) (n+1) n (n+1) ((n+1)*4) (p+1) (by omega) (by simp;omega) (by simp;omega) (by omega) (by exact hU)
  have o1:aF ms++cd.row ⟨x,p⟩=aF (ms++[⟨x,p⟩]):=by
   show _=((ms++[(⟨x,p⟩:cd)]).map cd.row).flatten
   rw[List.map_append,List.flatten_append];rfl
  rw[←o1] at hK
  have l1:(aF ms).length=n*4:=by rw[nY,hn]
  have l2:ms.length*4=n*4:=by rw[hn]
  have r1:=cA (σ:=aj [(0,0),(5,4)] []) (ms++[⟨x,p⟩]) ((n+1)*4)
  rw[←o1] at r1
  rw[show eB (bc 1 n ms.length) p=eB (bc 1 n n) p by rw[←hn]]
  refine eM (cZ z) (fn:=f275) (by kernel_rfl) (by kernel_rfl) hz ⟨by decide,by decide⟩ low (N:=100) ?_
  refine Zb z zn n (ms.length*4) x p (aF ms) (upφ (ms++[⟨x,p⟩]) (n+1)) _ ?_
  (repeat' first|(with_reducible first|exact rfl|assumption|apply And.intro|exact cA _ _|exact(by omega:n+1<=1048576))|exact hK|intro hq)
  all_goals
   rename_i ms'
   obtain⟨k1,k2,k3⟩:=hq
   rw[List.length_append,List.length_singleton,←hn] at k1
   have hv: ∀v,gL (hf ms') (n+1) v↔v=⟨x,p⟩\/gL (hf ms) n v:=fun v=>(k3 v).trans (D1 (fun k hk=>by rw[hset,if_neg (by omega)]) (by rw[hset,if_pos rfl]) v)
   exact q2 ms' ⟨by show n+1<=ms'.length;omega,by show ms'.length<=ms.length+1;omega,k2,hv⟩ rfl rfl (by rw[←k1];rfl) rfl rfl
theorem Rg(hz:au z zn)(s:rD)(hs:wg s)(h1:1<=s.ms.length)(hp:s.p+1<=1000000)(x:cQ):
 aP prog z zn 275 [ip 0, .agg ⟨x.row⟩] [(0,xJ 1 s),(1,w9 s)] 2 3 (pushφ s x) (fun _=> .tuple ⟨[]⟩) (fun ms=>[(0,eB (bc 2 (s.n+1) ms.length) (s.p+1)),(2,dW (aF ms) (ms.length*4))]):=NU hz s.n s.ms s.p hs h1 hp x
end
end Go.Proofs.Nw
