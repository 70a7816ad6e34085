/-
  A part of the proof: lemmas of my own.
-/
import Derived.Test.YtgjfjkgigigibaaGreatPF
import Derived.KernelRfl
set_option linter.unusedVariables false
set_option linter.unusedSimpArgs false
namespace Go.Proofs.Nw
open Go Go.AV Tryz
set_option maxRecDepth 1000000
noncomputable section
abbrev Xo(zn:Nat):List (Nat × Value):=[sQ,(3,Yp),qd,(6,SL (tF zn) 1 1),(7,iq)]
noncomputable abbrev PE:Code:=ah (ag f12) 0
abbrev Tz:Live:=j9 an 0
noncomputable abbrev WI(e:Int)(z:T aa)(zn:Nat):Tr:=tA 2 (tE [Y6] [] [qd,(5,ZV e)] [nn] 3 z zn)
theorem ura(z:T aa)(zn K n cp:Nat)(N:aq)(x:ak)(kj:aV)(e:Int)(Q:QL)(hyp:Br (decide (0<(↑n:Int))) (Int.ofNat 0=0/\0<n/\fH K/\fR z K kj/\ai prog kj 62 0=some (AG (xq x))/\aF prog z zn 26 (OW N x) [] 0 0 Yc (rV e) Ye/\WK N x/\ ∀(x_1:Unit),True->xw e/\Br (e !=0) (E6 129 z zn (R2 eP (ZV e) (mU/\Q af.ret [qd,(5,ZV e)] [nn] 3 z zn))) (Value.bool x.bg=F0/\E3 129 (Rf (gb z [(zn,5,BR (xq x) 9 9 62)])/\zn.le (zn+1)/\aw z zn/\zn<=zn/\zn<zn+1/\Rs (BR (xq x) 9 9 62)/\R3 Y3 Yp eP (aP (ay Y7 [(zn,5,BR (xq x) 9 9 62)]) (SL (tF zn) 1 1)=some (SL 5 1 1)/\Rs iq/\K2 (ay Y7 [(zn,5,BR (xq x) 9 9 62)]) (pw N) (sN K n cp) (mU/\Q aN (Xo zn) (PQ N K n cp) 3 (gb z [(zn,5,BR (xq x) 9 9 62)]) (zn+1)))))) (E6 129 z zn (R2 eP Y5 (mU/\Q YO [qd,(6,Y5)] [nn] 3 z zn)))):RdT prog Yi cW PE 129 Tz z [(0,N.box),(1,jB (tb K n cp)),qk] 3 zn 3 Q:=K1t hyp (tA 1 ((tA 2 (tO Lz (tO (OY K kj x) (tA 3 (Tr.cm (XI N x) Unit Yc (rV e) Ye (F4 e) Ye (Yl z) (Ym zn) fun(x_1:Unit)=>(WI e z zn).fork (tA 1 (tO kx (tA 6 (tE Y7 [(zn,5,BR (xq x) 9 9 62)] (Xo zn) (PQ N K n cp) 3 (gb z [(zn,5,BR (xq x) 9 9 62)]) (zn+1)))))))))).fork (tA 1 (tE [Y6] [] [qd,(6,Y5)] [nn] 3 z zn))))
abbrev CG(x:ak)(vd va:Int):List Value:=[Value.bool x.bg,ZV x.run,ZV x.pZ,ZV x.off,ZV x.fz1,ZV x.aB,ZV vd,ZV va,Value.bool x.stay]
theorem urb(z:T aa)(zn K n cp q m c b o:Nat)(N:aq)(x:ak)(kj kr kc:aV)(e vd va:Int)(Q:QL)(hyp:Br (decide (0<(↑n:Int))) (Int.ofNat 0=0/\0<n/\fH K/\fR z K kj/\ai prog kj 62 0=some (AG (xq x))/\aF prog z zn 26 [AG (O1 N),AG (xq x)] [] 0 0 Yc (rV e) Ye/\aS Yf [AG (O1 N),AG (xq x)]=some [AG (O1 N),AG (xq x)]/\ ∀(x_1:Unit),True->xw e/\Br (e !=0) (E6 129 z zn (R2 eP (ZV e) (mU/\Q af.ret [qd,(5,ZV e)] [nn] 3 z zn))) (Value.bool x.bg=T1/\x.run=(↑q:Int)/\q<N.nu/\C1/\C0 z kr/\Ib kr q m c/\x.pZ=(↑b:Int)/\b<m/\Hz q/\Hy z q kc/\Xt kc b vd/\x.run=(↑q:Int)/\q<N.nu/\C1/\C0 z kr/\Ib kr q m c/\x.off=(↑o:Int)/\o<m/\Hz q/\Hy z q kc/\YJG kc o va/\E3 129 (Rf (gb z [(zn,5,BR (CG x vd va) 9 9 62)])/\zn.le (zn+1)/\aw z zn/\zn<=zn/\zn<zn+1/\Rs (BR (CG x vd va) 9 9 62)/\R3 Y3 Yp eP (aP (ay Y7 [(zn,5,BR (CG x vd va) 9 9 62)]) (SL (tF zn) 1 1)=some (SL 5 1 1)/\Rs iq/\K2 (ay Y7 [(zn,5,BR (CG x vd va) 9 9 62)]) (uE N) (sN K n cp) (mU/\Q aN (Xo zn) [(0,uE N),(1,sN K n cp),nn] 3 (gb z [(zn,5,BR (CG x vd va) 9 9 62)]) (zn+1)))))) (E6 129 z zn (R2 eP Y5 (mU/\Q YO [qd,(6,Y5)] [nn] 3 z zn)))):RdT prog Yi cW PE 129 Tz z [(0,N.iw),(1,jB (tb K n cp)),qk] 3 zn 3 Q:=K1t hyp (tA 1 ((tA 2 (tO Lz (tO (OY K kj x) (tA 3 (Tr.cm (Cm.mk [AG (O1 N),AG (xq x)] [] 0 0 [] [] 4) Unit Yc (rV e) Ye (F4 e) Ye (Yl z) (Ym zn) fun(x_1:Unit)=>(WI e z zn).fork (tA 1 (tO kI (tA 3 (tO (bS q) (tO (Ic kr q m c) (tA 1 (tO (bS b) (tO (HA q kc vd) (tA 3 (tO (bS q) (tO (Ic kr q m c) (tA 1 (tO (bS o) (tO (HA q kc va) (tA 4 (tE Y7 [(zn,5,BR (CG x vd va) 9 9 62)] (Xo zn) [(0,uE N),(1,sN K n cp),nn] 3 (gb z [(zn,5,BR (CG x vd va) 9 9 62)]) (zn+1)))))))))))))))))))))).fork (tA 1 (tE [Y6] [] [qd,(6,Y5)] [nn] 3 z zn))))
abbrev Ty(z:T aa)(k zn:Nat)(kb:aV)(x:ak)(pa v2:Int)(i:Nat):T aa:=gb (z.del k) [(zn,5,BR (kb.cells++CG x pa v2) ((i+1)*9) 9 62)]
abbrev Tx(zn:Nat)(kb:aV)(x:ak)(pa v2:Int)(i:Nat):Nat->Option Nat:=ay Y7 [(zn,5,BR (kb.cells++CG x pa v2) ((i+1)*9) 9 62)]
abbrev Xn(zn i:Nat):List (Nat × Value):=[sQ,(3,Yp),qd,(6,OZ zn i),(7,IV (i+1))]
theorem urc(z:T aa)(zn K n cp k i:Nat)(N:aq)(x:ak)(kj kb:aV)(e pa v1 v2:Int)(Q:QL)(hyp:Value.bool (decide ((↑i:Int)<(↑n:Int)))=T1/\cG i/\i<n/\fH K/\fR z K kj/\SJ kj i x/\aF prog z zn 26 (OW N x) [] 0 0 Yc (rV e) Ye/\WK N x/\ ∀(x_1:Unit),True->xw e/\Br (e !=0) (E6 129 z zn (R2 eP (ZV e) (mU/\Q af.ret [qd,(5,ZV e)] [nn] 3 z zn))) (Value.bool x.bg=F0/\Value.bool (decide ((↑i:Int)>0))=T1/\WQ1 ((↑i:Int) - 1)/\(↑i:Int) - 1=(↑(i - 1):Int)/\i - 1<i/\fH k/\fR z k kb/\ai prog kb 3 (0+(i - 1)*9+7)=some (ZV pa)/\WP1 (pa+x.arr) v1/\WP1 (v1 - x.dep) v2/\WQ1 ((↑i:Int) - 1)/\(↑i:Int) - 1=(↑(i - 1):Int)/\i - 1<i/\fH k/\fR z k kb/\ai prog kb 3 (0+(i - 1)*9+7)=some (ZV pa)/\fH k/\fR z k kb/\kb.exact=false/\kb.own=true/\kb.bN=0/\kb.ko=9/\kb.elem=62/\Rs (CG x pa v2)/\Rf i/\kb.cells.length=i*9/\kb.cap=i*9/\i+1<=1048576/\ZV (IntKind.i64.wrap ((↑i:Int)+1))=IV (i+1)/\E3 129 (Rf (Ty z k zn kb x pa v2 i)/\zn.le (zn+1)/\aw (z.del k) zn/\zn<=zn/\zn<zn+1/\KO (Tx zn kb x pa v2 i) (BR (kb.cells++CG x pa v2) ((i+1)*9) 9 62)/\R3 Y3 Yp eP (aP (Tx zn kb x pa v2 i) (OZ zn i)=some (SL 5 (i+1) (i+1))/\Rs (IV (i+1))/\K2 (Tx zn kb x pa v2 i) (pw N) (sN K n cp) (mU/\Q aN (Xn zn i) (PQ N K n cp) 3 (Ty z k zn kb x pa v2 i) (zn+1)))))):RdT prog Yi cW PE 129 (j9 (tb k i i) i) z [(0,N.box),(1,jB (tb K n cp)),qk] 3 zn 3 Q:=K1t hyp (tA 1 (tO kI (tA 2 (tO (bS i) (tO (OY K kj x) (tA 3 (Tr.cm (XI N x) Unit Yc (rV e) Ye (F4 e) Ye (Yl z) (Ym zn) fun(x_1:Unit)=>(WI e z zn).fork (tA 1 (tO kx (tA 1 (tO kI (tA 1 (tO (An.val (ZV ((↑i:Int) - 1))) (tO (SV i) (tO (oX k kb pa) (tA 1 (tO (L4 v1) (tA 1 (tO (L4 v2) (tA 1 (tO (An.val (ZV ((↑i:Int) - 1))) (tO (SV i) (tO (oX k kb pa) (tA 2 (tX (jE.RC k kb 1 (CG x pa v2)) (tO (dI i) (tE Y7 [(zn,5,BR (kb.cells++CG x pa v2) ((i+1)*9) 9 62)] (Xn zn i) (PQ N K n cp) 3 (Ty z k zn kb x pa v2 i) (zn+1))))))))))))))))))))))))))))
theorem urd(z:T aa)(zn K n cp k i q m c b o:Nat)(N:aq)(x:ak)(kj kb kr kc:aV)(e vd va:Int)(Q:QL)(hyp:Value.bool (decide ((↑i:Int)<(↑n:Int)))=T1/\cG i/\i<n/\fH K/\fR z K kj/\SJ kj i x/\aF prog z zn 26 [AG (O1 N),AG (xq x)] [] 0 0 Yc (rV e) Ye/\aS Yf [AG (O1 N),AG (xq x)]=some [AG (O1 N),AG (xq x)]/\ ∀(x_1:Unit),True->xw e/\Br (e !=0) (E6 129 z zn (R2 eP (ZV e) (mU/\Q af.ret [qd,(5,ZV e)] [nn] 3 z zn))) (Value.bool x.bg=T1/\x.run=(↑q:Int)/\q<N.nu/\C1/\C0 z kr/\Ib kr q m c/\x.pZ=(↑b:Int)/\b<m/\Hz q/\Hy z q kc/\Xt kc b vd/\x.run=(↑q:Int)/\q<N.nu/\C1/\C0 z kr/\Ib kr q m c/\x.off=(↑o:Int)/\o<m/\Hz q/\Hy z q kc/\YJG kc o va/\fH k/\fR z k kb/\kb.exact=false/\kb.own=true/\kb.bN=0/\kb.ko=9/\kb.elem=62/\Rs (CG x vd va)/\Rf i/\kb.cells.length=i*9/\kb.cap=i*9/\i+1<=1048576/\ZV (IntKind.i64.wrap ((↑i:Int)+1))=IV (i+1)/\E3 129 (Rf (Ty z k zn kb x vd va i)/\zn.le (zn+1)/\aw (z.del k) zn/\zn<=zn/\zn<zn+1/\KO (Tx zn kb x vd va i) (BR (kb.cells++CG x vd va) ((i+1)*9) 9 62)/\R3 Y3 Yp eP (aP (Tx zn kb x vd va i) (OZ zn i)=some (SL 5 (i+1) (i+1))/\Rs (IV (i+1))/\K2 (Tx zn kb x vd va i) (uE N) (sN K n cp) (mU/\Q aN (Xn zn i) [(0,uE N),(1,sN K n cp),nn] 3 (Ty z k zn kb x vd va i) (zn+1)))))):RdT prog Yi cW PE 129 (j9 (tb k i i) i) z [(0,N.iw),(1,jB (tb K n cp)),qk] 3 zn 3 Q:=K1t hyp (tA 1 (tO kI (tA 2 (tO (bS i) (tO (OY K kj x) (tA 3 (Tr.cm (Cm.mk [AG (O1 N),AG (xq x)] [] 0 0 [] [] 4) Unit Yc (rV e) Ye (F4 e) Ye (Yl z) (Ym zn) fun(x_1:Unit)=>(WI e z zn).fork (tA 1 (tO kI (tA 3 (tO (bS q) (tO (Ic kr q m c) (tA 1 (tO (bS b) (tO (HA q kc vd) (tA 3 (tO (bS q) (tO (Ic kr q m c) (tA 1 (tO (bS o) (tO (HA q kc va) (tA 2 (tX (jE.RC k kb 1 (CG x vd va)) (tO (dI i) (tE Y7 [(zn,5,BR (kb.cells++CG x vd va) ((i+1)*9) 9 62)] (Xn zn i) [(0,uE N),(1,sN K n cp),nn] 3 (Ty z k zn kb x vd va i) (zn+1))))))))))))))))))))))))))
theorem urf(z:T aa)(zn i K n cp:Nat)(N:aq)(V:dz)(x:ak)(kj:aV)(e:Int)(Q:QL)(hyp:Value.bool (decide ((↑i:Int)<(↑n:Int)))=T1/\cG i/\i<n/\fH K/\fR z K kj/\SJ kj i x/\aF prog z zn 26 (OW N x) [] 0 0 Yc (rV e) Ye/\WK N x/\ ∀(x:Unit),True->xw e/\Value.bool (e !=0)=T1/\E6 129 z zn (R2 eP (ZV e) (mU/\Q af.ret [qd,(5,ZV e)] [nn] 3 z zn))):RdT prog Yi cW PE 129 (j9 V.v i) z [(0,N.box),(1,jB (tb K n cp)),qk] 3 zn 3 Q:=K1t hyp (tA 1 (tO kI (tA 2 (tO (bS i) (tO (OY K kj x) (tA 3 (Tr.cm (XI N x) Unit Yc (rV e) Ye (F4 e) Ye (Yl z) (Ym zn) fun(x:Unit)=>tO kI (WI e z zn))))))))
theorem ure(z:T aa)(zn i:Nat)(N:aq)(J V:dz)(Q:QL)(hyp:Value.bool (decide ((↑i:Int)<(↑J.n:Int)))=F0/\E6 129 z zn (Rs eP/\aP (ay [Y6] []) (yS V)=some (yS V)/\mU/\Q YO [qd,(6,yS V)] [nn] 3 z zn)):RdT prog Yi cW PE 129 (j9 V.v i) z (PG N J) 3 zn 3 Q:=K1t hyp (tA 1 (tO kx (tA 1 (tE [Y6] [] [qd,(6,yS V)] [nn] 3 z zn))))
theorem urx(z:T aa)(zn:Nat)(N:aq)(J:dz)(b:Bool)(Q:QF)(hyp:aF prog z zn 20 (Yb N) [] 0 0 Yc (sR b) Ye/\Yg N/\ ∀(x:Unit),True->Rs (fY b)/\(!b)=true/\E6 129 z zn (Rs TA/\Q TA [] 0 z zn)):FnT prog Yi cW f12 [Yj N,J.jn] z [] 0 zn Q:=K1t hyp (tA 1 (Tr.cm (C2 N) Unit Yc (sR b) Ye (sR b) Ye (Yl z) (Ym zn) fun(x:Unit)=>tO bI (tA 1 (tR [] [] TA [] 0 z zn))))
abbrev Tw(z:T aa)(zn:Nat)(N:aq):Prop:=aF prog z zn 20 (Yb N) [] 0 0 Yc gf Ye
theorem ury(z z':T aa)(zn zn':Nat)(N:aq)(J V:dz)(e:Int)(Q:QF)(hyp:Tw z zn N/\Yg N/\ ∀(x:Unit),True->YA/\Y1/\aj prog PE 3 129 Tz (PG N J) 3 z zn (alt (e≠0) (Xp e z' zn') (alt (e=0) (aA.mk YO [(4,ip 2),(6,V.v)] [qk] 3 z' zn') Al.nil)).R/\E6 129 z zn (R5 Y3 Yp eP Y5 YM (K2 Y8 (pw N) (Lr J) (mU/\(∀(x:Unit),e≠0->E6 129 z' zn' (HY e/\Q (L3 e) [] 0 z' zn'))/\ ∀(x:Unit),e=0->Value.bool (decide ((↑V.n:Int)>1))=F0/\E6 129 z' zn' (aP (ay [] []) (TP [AG [yS V],YM])=some (TP [AG [yS V],YM])/\Q (TP [AG [yS V],YM]) [] 0 z' zn'))))):FnT prog Yi cW f12 [Yj N,J.jn] z [] 0 zn Q:=K1t hyp (tA 1 (Tr.cm (C2 N) Unit Yc gf Ye gf Ye (Yl z) (Ym zn) fun(x:Unit)=>tA 1 (Tr.lp 3 129 Y7 [] Tz (PG N J) 3 z zn (Al.cons Unit (Ta e) (fun(x:Unit)=>Xp e z' zn') (fun(x:Unit)=>tR [] [] (L3 e) [] 0 z' zn') (Al.cons Unit (Uu e) (fun(x:Unit)=>aA.mk YO [(4,ip 2),(6,V.v)] [qk] 3 z' zn') (fun(x:Unit)=>tO kx (tA 13 (tR [] [] (TP [AG [yS V],YM]) [] 0 z' zn'))) Al.nil)))))
abbrev YJp(z':T aa)(k:Nat)(cs1:List Value)(kb:aV)(cs2:List Value)(kb1:aV):T aa:=(H3 z' k cs1 kb).set k (aa.az (aV.mk cs2 kb1.cap kb1.ko kb1.elem kb1.exact kb1.whole kb1.bN kb1.own))
theorem urz(z z':T aa)(zn zn' k n:Nat)(N:aq)(J:dz)(x y:ak)(kb kb1:aV)(cs1 cs2:List Value)(v0 v1:Int)(Q:QF)(hyp:Tw z zn N/\Yg N/\ ∀(x_1:Unit),True->YA/\Y1/\aj prog PE 3 129 Tz (PG N J) 3 z zn (alt True (aA.mk YO [(4,ip 2),(6,tb k n n)] [qk] 3 z' zn') Al.nil).R/\E6 129 z zn (R5 Y3 Yp eP Y5 YM (K2 Y8 (pw N) (Lr J) (mU/\ ∀(x_2:Unit),True->Value.bool (decide ((↑n:Int)>1))=T1/\Int.ofNat 0=0/\0<n/\fH k/\fR z' k kb/\ai prog kb 4 0=PF x/\Br (!x.bg) ((!x.bg)=true/\Int.ofNat 1=1/\1<n/\(!x.bg)=true/\(!x.bg)=true/\fH k/\fR z' k kb/\ai prog kb 4 9=PF y/\(!x.bg)=true/\Br y.bg (Int.ofNat 1=1/\1<n/\fH k/\fR z' k kb/\ai prog kb 3 15=some (ZV y.dep)/\Int.ofNat 0=0/\0<n/\fH k/\fR z' k kb/\ai prog kb 3 7=some (ZV x.arr)/\Int.ofNat 0=0/\0<n/\fH k/\fR z' k kb/\ai prog kb 3 6=some (ZV x.dep)/\WP1 (x.arr - x.dep) v0/\WP1 (y.dep - v0) v1/\Int.ofNat 0=0/\0<n/\fH k/\fR z' k kb/\kb.own=true/\kb.bN=0/\overwrite kb.cells 6 [ZV v1]=some cs1/\cs1.length<=kb.cap/\Int.ofNat 1=1/\1<n/\fH k/\(H3 z' k cs1 kb).get k=rM kb1/\ai prog kb1 3 15=some (ZV y.dep)/\Int.ofNat 0=0/\0<n/\fH k/\(H3 z' k cs1 kb).get k=rM kb1/\kb1.own=true/\kb1.bN=0/\overwrite kb1.cells 7 [ZV y.dep]=some cs2/\cs2.length<=kb1.cap/\E6 129 (YJp z' k cs1 kb cs2 kb1) zn' (Rs (AM k n)/\Q (AM k n) [] 0 (YJp z' k cs1 kb cs2 kb1) zn')) (E6 129 z' zn' (Rs (AM k n)/\Q (AM k n) [] 0 z' zn'))) ((!x.bg)=false/\(!x.bg)=false/\(!x.bg)=false/\(!x.bg)=false/\E6 129 z' zn' (Rs (AM k n)/\Q (AM k n) [] 0 z' zn')))))):FnT prog Yi cW f12 [Yj N,J.jn] z [] 0 zn Q:=K1t hyp (tA 1 (Tr.cm (C2 N) Unit Yc gf Ye gf Ye (Yl z) (Ym zn) fun(x_1:Unit)=>tA 1 (Tr.lp 3 129 Y7 [] Tz (PG N J) 3 z zn (Al.cons Unit Yc (fun(x:Unit)=>aA.mk YO [(4,ip 2),(6,tb k n n)] [qk] 3 z' zn') (fun(x_2:Unit)=>tO kI (tA 2 (tO Lz (tA 2 (tO (An.ld k kb (Value.bool x.bg)) (tA 2 ((tO bI (tO SH (tO bI (tO bI (tO (An.ld k kb (Value.bool y.bg)) (tO bI ((tO SH (tO (An.ld k kb (zv y.dep)) (tO Lz (tO (An.ld k kb (zv x.arr)) (tO Lz (tO (An.ld k kb (zv x.dep)) (tO (L4 v0) (tO (L4 v1) (tO Lz (tX (jE.Ph k kb cs1) (tO SH (tO (An.ld k kb1 (zv y.dep)) (tO Lz (tX (jE.Ph k kb1 cs2) (tA 1 (tR [] [] (AM k n) [] 0 (YJp z' k cs1 kb cs2 kb1) zn')))))))))))))))).fork (tA 1 (tR [] [] (AM k n) [] 0 z' zn'))))))))).fork (tO bc (tO bc (tO bc (tO bc (tA 2 (tR [] [] (AM k n) [] 0 z' zn'))))))))))))) Al.nil))))
end
end Go.Proofs.Nw
namespace Go.Proofs.Nw
open Go Go.AV Tryz
set_option maxHeartbeats 1000000
set_option maxRecDepth 100000
structure RR(z:T aa)(zn i K n:Nat)(N:aq)(x:ak)(kj:aV)(e:Int):Prop where
 hz:aw z zn
 hi:i<n
 hn:n<1000000
 k1:z.get K=some (.az kj)
 k2:ai prog kj 62 (0+i*9)=some (.agg ⟨x.row⟩)
 DP: ∀σ,aD (ay σ []) (dB N)=some (dB N)
 GL: ∀(σ:bq)(c:Nat)(o:aa),aD (ay σ [(zn,c,o)]) (dB N)=some (dB N)
 hK:K≠zn
 hc:A1 z zn 26 [.agg ⟨N.cells⟩, .agg ⟨x.row⟩] [] 0 0 (zv e) []
 hv:aS (sig []) [.agg ⟨N.cells⟩, .agg ⟨x.row⟩]=some [.agg ⟨N.cells⟩, .agg ⟨x.row⟩]
section
variable{z:T aa}{zn K n cp kk:Nat}{N:aq}{x p:ak}{kj:aV}{L:List ak}{e:Int}{Q:af->Live->bV->Nat->T aa->Nat->Prop}
theorem IK{i:Nat}{V:dz}(H:RR z zn i K n N x kj e)(he:e≠0)
 (nb:Q .ret [(4,ip 2),(5,zv e)] [(2,jB an)] 3 z zn):
 ∃t,dS prog (fun _ _=>none) (T.leaf:T aa) 100 (ah (ag f12) 0) (nJ 129 (j9 V.v i)) (eC z [(0,dB N),(1,jB (tb K n cp)),(2,jB an)] 3) zn (tQ 3 129 Q) t:=by
 obtain⟨hz,hi,hn,k1,k2,DP,GL,hK,hc,hv⟩:=H
 have c0:Value.bool (decide ((i:Int)<(n:Int)))=Value.bool true:=by rw[decide_eq_true (by omega)]
 have e0:Value.bool (e !=0)=Value.bool true:=by rw[show(e !=0)=true by simpa using he]
 refine urf z zn i K n cp N V x kj e Q ?_
 (repeat' first|(with_reducible first|exact rfl|assumption|apply And.intro)|intro hq)
 all_goals exact nb
theorem QU(H:RR z zn 0 K n N x kj e)(hr:x.bg=false)
 (nb:e≠0->Q .ret [(4,ip 2),(5,zv e)] [(2,jB an)] 3 z zn)
 (nx:e=0->Q .normal (j9 (tb zn 1 1) 1) [(0,dB N),(1,jB (tb K n cp)),(2,jB an)] 3 (z.set zn (qQ x.row 1)) (zn+1)):
 ∃t,dS prog (fun _ _=>none) (T.leaf:T aa) 100 (ah (ag f12) 0) (nJ 129 (j9 an 0)) (eC z [(0,dB N),(1,jB (tb K n cp)),(2,jB an)] 3) zn (tQ 3 129 Q) t:=by
 obtain⟨hz,hi,hn,k1,k2,DP,GL,hK,hc,hv⟩:=H
 have c0:decide ((0:Int)<(n:Int))=true:=by rw[decide_eq_true (by omega)]
 have k2':ai prog kj 62 0=some (.agg ⟨x.row⟩):=k2
 have e0:Value.bool x.bg=Value.bool false:=by rw[hr]
 refine ura z zn K n cp N x kj e Q ⟨fun _=>?_,nC1 c0⟩
 (repeat' first|(with_reducible first|exact rfl|assumption|apply And.intro|exact GL _ _ _|exact uk hK|exact iO|exact UW _|exact Nat.le_refl _|exact Nat.lt_succ_self _)|exact(rfl:Int.ofNat _=_)|intro hq)
 ·exact nb (by simpa using hq)
 ·exact nx (by simpa using hq)
theorem QT{kr kc:aV}{q m c b o:Nat}{vd va:Int}(H:RR z zn 0 K n N x kj e)(hr:x.bg=true)(R:e=0->qg z N x kr kc q m c b o vd va)(B7:N.ua=some ⟨766,0,none⟩)
 (nb:e≠0->Q .ret [(4,ip 2),(5,zv e)] [(2,jB an)] 3 z zn)
 (nx:e=0-> ∀M:ak,M={x with dep:=vd,arr:=va}->Q .normal (j9 (tb zn 1 1) 1) [(0,dB N),(1,jB (tb K n cp)),(2,jB an)] 3 (z.set zn (qQ M.row 1)) (zn+1)):
 ∃t,dS prog (fun _ _=>none) (T.leaf:T aa) 100 (ah (ag f12) 0) (nJ 129 (j9 an 0)) (eC z [(0,dB N),(1,jB (tb K n cp)),(2,jB an)] 3) zn (tQ 3 129 Q) t:=by
 obtain⟨hz,hi,hn,k1,k2,DP,GL,hK,hc,hv⟩:=H
 have c0:decide ((0:Int)<(n:Int))=true:=by rw[decide_eq_true (by omega)]
 have k2':ai prog kj 62 0=some (.agg ⟨x.row⟩):=k2
 have e0:Value.bool x.bg=Value.bool true:=by rw[hr]
 obtain⟨sa,ns,sc,ra,nr,rc,ua,nu,uc,la,nl,lc,pa,np,pc,fa,nf,fc,d,w',c'⟩:=N
 simp only at B7
 subst B7
 have R':(e !=0)=false->qg z _ x kr kc q m c b o vd va:=fun h=>R (by simpa using h)
 refine urb z zn K n cp q m c b o ⟨sa,ns,sc,ra,nr,rc,some ⟨766,0,none⟩,nu,uc,la,nl,lc,pa,np,pc,fa,nf,fc,d,w',c'⟩ x kj kr kc e vd va Q ⟨fun _=>?_,nC1 c0⟩
 (repeat' first|(with_reducible first|exact rfl|assumption|apply And.intro|exact GL _ _ _|exact uk hK|exact iO|exact UW _|exact Nat.le_refl _|exact Nat.lt_succ_self _|exact(R' ‹_›).hq|exact(R' ‹_›).Tk|exact(R' ‹_›).g1|exact(R' ‹_›).g2|exact(R' ‹_›).hb|exact(R' ‹_›).Xg|exact(R' ‹_›).ho|exact(R' ‹_›).Ft|exact(R' ‹_›).g3|exact(R' ‹_›).g4|exact(R' ‹_›).g5)|exact(rfl:Int.ofNat _=_)|intro hq)
 all_goals first
  |exact nb (by simpa using hq)
  |exact nx (by simpa using hq) _ rfl
theorem QS(H:RR z zn L.length K n N x kj e)(h0:0<L.length)(hr:x.bg=false)
 (v6:z.get kk=some (qQ (L.map ak.row).flatten L.length)) (hp:L.getLast? =some p)
 (nb:e≠0->Q .ret [(4,ip 2),(5,zv e)] [(2,jB an)] 3 z zn)
 (nx:e=0-> ∀M:ak,M={x with arr:=wr (wr (p.arr+x.arr) - x.dep),dep:=p.arr}->Q .normal (j9 (tb zn (L.length+1) (L.length+1)) (L.length+1)) [(0,dB N),(1,jB (tb K n cp)),(2,jB an)] 3 ((z.del kk).set zn (qQ ((L.map ak.row).flatten++M.row) (L.length+1))) (zn+1)):
 ∃t,dS prog (fun _ _=>none) (T.leaf:T aa) 100 (ah (ag f12) 0) (nJ 129 (j9 (tb kk L.length L.length) L.length)) (eC z [(0,dB N),(1,jB (tb K n cp)),(2,jB an)] 3) zn (tQ 3 129 Q) t:=by
 obtain⟨hz,hi,hn,k1,k2,DP,GL,hK,hc,hv⟩:=H
 have c0:Value.bool (decide ((L.length:Int)<(n:Int)))=Value.bool true:=by rw[decide_eq_true (by omega)]
 have c1:Value.bool (decide ((L.length:Int)>0))=Value.bool true:=by rw[decide_eq_true (by omega)]
 have e0:Value.bool x.bg=Value.bool false:=by rw[hr]
 obtain⟨p1,p2⟩:=NT (r:=L.length - 1) (by omega) hp
 have hr1:((L.length:Nat):Int) - 1=((L.length - 1:Nat):Int):=by omega
 have hw1:Value.int .i64 (IntKind.i64.wrap ((L.length:Int) - 1))=Value.int .i64 ((L.length:Int) - 1):=gV (by omega) (by omega)
 have w:=bH (n:=L.length) (by omega)
 have hln:=nO L
 have hl1:L.length - 1<L.length:=by omega
 have hmx:L.length+1<=1048576:=by omega
 refine urc z zn K n cp kk L.length N x kj ⟨(L.map ak.row).flatten,L.length*9,9,62,false,false,0,true⟩ e p.arr (wr (p.arr+x.arr)) (wr (wr (p.arr+x.arr) - x.dep)) Q ?_
 (repeat' first|(with_reducible first|exact rfl|assumption|apply And.intro|exact GL _ _ _|exact uk hK|exact iO|exact IM L ⟨x.bg,x.run,x.pZ,x.off,x.fz1,x.aB,p.arr,wr (wr (p.arr+x.arr) - x.dep),x.stay⟩ _|exact lV hz _|exact UW _|exact Nat.le_refl _|exact Nat.lt_succ_self _)|intro hq)
 all_goals first
  |exact nb (by simpa using hq)
  |exact nx (by simpa using hq) _ rfl
theorem QR{kr kc:aV}{q m c b o:Nat}{vd va:Int}(H:RR z zn L.length K n N x kj e)(hr:x.bg=true)(R:e=0->qg z N x kr kc q m c b o vd va)(B7:N.ua=some ⟨766,0,none⟩)
 (v6:z.get kk=some (qQ (L.map ak.row).flatten L.length))
 (nb:e≠0->Q .ret [(4,ip 2),(5,zv e)] [(2,jB an)] 3 z zn)
 (nx:e=0-> ∀M:ak,M={x with dep:=vd,arr:=va}->Q .normal (j9 (tb zn (L.length+1) (L.length+1)) (L.length+1)) [(0,dB N),(1,jB (tb K n cp)),(2,jB an)] 3 ((z.del kk).set zn (qQ ((L.map ak.row).flatten++M.row) (L.length+1))) (zn+1)):
 ∃t,dS prog (fun _ _=>none) (T.leaf:T aa) 100 (ah (ag f12) 0) (nJ 129 (j9 (tb kk L.length L.length) L.length)) (eC z [(0,dB N),(1,jB (tb K n cp)),(2,jB an)] 3) zn (tQ 3 129 Q) t:=by
 obtain⟨hz,hi,hn,k1,k2,DP,GL,hK,hc,hv⟩:=H
 have c0:Value.bool (decide ((L.length:Int)<(n:Int)))=Value.bool true:=by rw[decide_eq_true (by omega)]
 have e0:Value.bool x.bg=Value.bool true:=by rw[hr]
 have w:=bH (n:=L.length) (by omega)
 have hln:=nO L
 have hmx:L.length+1<=1048576:=by omega
 obtain⟨sa,ns,sc,ra,nr,rc,ua,nu,uc,la,nl,lc,pa,np,pc,fa,nf,fc,d,w',c'⟩:=N
 simp only at B7
 subst B7
 have R':(e !=0)=false->qg z _ x kr kc q m c b o vd va:=fun h=>R (by simpa using h)
 refine urd z zn K n cp kk L.length q m c b o ⟨sa,ns,sc,ra,nr,rc,some ⟨766,0,none⟩,nu,uc,la,nl,lc,pa,np,pc,fa,nf,fc,d,w',c'⟩ x kj ⟨(L.map ak.row).flatten,L.length*9,9,62,false,false,0,true⟩ kr kc e vd va Q ?_
 (repeat' first|(with_reducible first|exact rfl|assumption|apply And.intro|exact GL _ _ _|exact uk hK|exact iO|exact IM L ⟨x.bg,x.run,x.pZ,x.off,x.fz1,x.aB,vd,va,x.stay⟩ _|exact lV hz _|exact UW _|exact Nat.le_refl _|exact Nat.lt_succ_self _|exact(R' ‹_›).hq|exact(R' ‹_›).Tk|exact(R' ‹_›).g1|exact(R' ‹_›).g2|exact(R' ‹_›).hb|exact(R' ‹_›).Xg|exact(R' ‹_›).ho|exact(R' ‹_›).Ft|exact(R' ‹_›).g3|exact(R' ‹_›).g4|exact(R' ‹_›).g5)|intro hq)
 all_goals first
  |exact nb (by simpa using hq)
  |exact nx (by simpa using hq) _ rfl
end
def zR(z:T aa)(zn:Nat)(f:Nat->List Value):Nat->T aa
 |0=>z
 |1=>z.set zn (qQ (f 1) 1)
 |i+2=>((zR z zn f (i+1)).del (zn+i)).set (zn+i+1) (qQ (f (i+2)) (i+2))
def vJ(zn:Nat):Nat->dz
 |0=>⟨none,0,0⟩
 |j+1=>⟨some ⟨256*(zn+j)+510,0,none⟩,j+1,j+1⟩
abbrev qx(U:List RunT)(G:List ak)(i:Nat):List Value:=((uY U G i).map ak.row).flatten
section
variable{z:T aa}{zn:Nat}
theorem AS(hz:aw z zn){f:Nat->List Value}(hp: ∀i,bJ (f i)=true): ∀i,aw (zR z zn f i) (zn+i)/\(∀k,k<zn->(zR z zn f i).get k=z.get k)/\ ∀j,i=j+1->(zR z zn f i).get (zn+j)=some (qQ (f i) i)
 |0=>⟨hz,fun _ _=>rfl,fun j h=>by cases h⟩
 |1=>⟨dL hz (hp 1),fun k hk=>by
   show(z.set zn _).get k=_
   rw[T.aH,if_neg (by omega)],fun j h=>by
   have:j=0:=by omega
   subst this
   show(z.set zn _).get zn=_
   rw[T.aH,if_pos rfl]⟩
 |i+2=>by
  obtain⟨h1,h2,h3⟩:=AS hz hp (i+1)
  refine⟨dL (lV h1 _) (hp (i+2)),fun k hk=>?_,fun j h=>?_⟩
  ·show(((zR z zn f (i+1)).del (zn+i)).set (zn+i+1) _).get k=_
   rw[T.aH,if_neg (by omega),T.fC,if_neg (by omega)]
   exact h2 k hk
  ·have:j=i+1:=by omega
   subst this
   show(((zR z zn f (i+1)).del (zn+i)).set (zn+i+1) _).get (zn+i+1)=_
   rw[T.aH,if_pos rfl]
theorem Ip(i:Nat)(σ:bq):aP (ay σ []) (vJ zn i).v=some (vJ zn i).v:=by
 cases i with
 |zero=>rfl
 |succ i=>exact lq σ _ _ _
variable{N:aq}{D:fP}
theorem Fj(hz:aw z zn)(hN:c9 z N D)(hU:fy D.runs){K:Nat}(hK:6<=K)(hKn:K<zn){G:List ak}(hG:G.length<=1000){J:dz}(hJ:nk K J.a J.n J.c G.length)(hT:bP z K (G.map ak.row))(r:Int × Int)(hr:scan (fW D.runs G) G.length 0=r)(m:Nat)(hm:(r.2=0->m=G.length)/\(r.2≠0->m=r.1.toNat)):
 aj prog (ah (ag f12) 0) 3 129 (j9 an 0) [(0,N.box),(1,jB J.v),(2,jB an)] 3 z zn (Al.R (Ni z (zR z zn (qx D.runs G) m) zn (zn+m) N J (vJ zn G.length).v r.2).l):=by
 refine ax hD (bC (zg:=T.leaf)) (α:=Nat) 3 129 3 (fun i=>i<=G.length/\scan (fW D.runs G) (G.length - i) i=r) (fun i=>j9 (vJ zn i).v i) (fun _=>[(0,N.box),(1,jB J.v),(2,jB an)]) (fun i=>zR z zn (qx D.runs G) i) (fun i=>zn+i) (fun i=>G.length - i) _ (fun i hI=>?_) 0 ⟨Nat.zero_le _,hr⟩
 obtain⟨h1,h2⟩:=hI
 obtain⟨f1,f2,f3⟩:=AS hz (f:=qx D.runs G) (fun i=>db _) i
 have hNs:=hN.VH hz f2
 have hTs:=dw hT hz f2
 have hb: ∀σ,aD (ay σ []) (dB N)=some (dB N):=hN.box
 have GL: ∀(σ:bq)(c:Nat)(o:aa),aD (ay σ [(zn+i,c,o)]) (dB N)=some (dB N):=fun σ c o=>hN.Wx (by omega) σ
 have hJr:=hJ.nm
 have hjb:=nQ hJr
 have hjn:=dh hJ
 by_cases hi:i<G.length
 ·obtain⟨x,hx⟩:=dm hi
  have ha:=ny hJ (by omega)
  obtain⟨ja,jn,jc⟩:=J
  simp only at ha hjn hJr hjb
  subst ha hjn
  obtain⟨kl,k1,k2,_,_⟩:=JM hTs hx
  have hc:=Wv f1 hNs hU x
  have hv:aS (sig []) [.agg ⟨N.cells⟩, .agg ⟨x.row⟩]=some [.agg ⟨N.cells⟩, .agg ⟨x.row⟩]:=bM (hN.val []) rfl
  have H:RR (zR z zn (qx D.runs G) i) (zn+i) i K G.length N x kl (eI D.runs x):=⟨f1,hi,by omega,k1,k2,hb,GL,by omega,hc,hv⟩
  have nb:eI D.runs x≠0->Al.R (Ni z (zR z zn (qx D.runs G) m) zn (zn+m) N ⟨some ⟨256*K+510,0,none⟩,G.length,jc⟩ (vJ zn G.length).v r.2).l ⟨.ret,[(4,ip 2),(5,zv (eI D.runs x))],[(2,jB an)],3,zR z zn (qx D.runs G) i,zn+i⟩:=fun h=>by
   have he:fW D.runs G i=some (eI D.runs x):=by
    unfold fW;rw[hx];exact if_neg h
   have e:r=((i:Int),eI D.runs x):=by rw[←h2,cZ hi he]
   have hmi:m=i:=by
    have:=hm.2 (by rw[e];exact h)
    rw[e] at this
    simpa using this
   rw[hmi,e]
   exact bh h
  have next:eI D.runs x=0->i+1<=G.length/\scan (fW D.runs G) (G.length - (i+1)) (i+1)=r:=fun h=>by
   have he:fW D.runs G i=none:=by
    unfold fW;rw[hx];exact if_pos h
   exact⟨hi,by rw[←h2,cI hi he]⟩
  have bg:x.bg=true->eI D.runs x=0->jd D.runs x=true:=fun h1 h=>by
   rw[uZ h1] at h
   cases he:jd D.runs x with
   |true=>rfl
   |false=>rw[he] at h;cases h
  cases i with
  |zero=>
   have nx: ∀M:ak,eI D.runs x=0->jr (pX D.runs) (qb D.runs) G 0=M->au (fun i=>i<=G.length/\scan (fW D.runs G) (G.length - i) i=r) (fun i=>j9 (vJ zn i).v i) (fun _=>[(0,N.box),(1,jB (tb K G.length jc)),(2,jB an)]) 3 (fun i=>zR z zn (qx D.runs G) i) (fun i=>zn+i) (fun i=>G.length - i) (Al.R (Ni z (zR z zn (qx D.runs G) m) zn (zn+m) N ⟨some ⟨256*K+510,0,none⟩,G.length,jc⟩ (vJ zn G.length).v r.2).l) 0 .normal (j9 (tb (zn+0) 1 1) 1) [(0,dB N),(1,jB (tb K G.length jc)),(2,jB an)] 3 ((zR z zn (qx D.runs G) 0).set (zn+0) (qQ M.row 1)) (zn+0+1):=fun M h hM=>by
    refine⟨1,rfl,rfl,rfl,?_,rfl,next h,by show G.length - (0+1)<G.length - 0;omega⟩
    have:qx D.runs G 1=M.row:=by
     show((uY D.runs G 1).map ak.row).flatten=_
     rw[uX,hM]
     show([M].map ak.row).flatten=_
     simp
    show _=z.set zn (qQ (qx D.runs G 1) 1)
    rw[this];rfl
   cases hrx:x.bg with
   |true=>
    by_cases h0:eI D.runs x=0
    ·obtain⟨kr,kc,q,m',c,b,o,R⟩:=ui hNs hU (bg hrx h0)
     refine t100 (QT H hrx (fun _=>R) R.B7 nb fun h M hM=>nx M h ?_)
     subst hM
     unfold jr;rw[lU hx,if_pos hrx]
    ·exact(fun⟨t,ht⟩=>⟨100,t,ht⟩) (IK (V:=⟨none,0,0⟩) H h0 (nb h0))
   |false=>
    refine t100 (QU H hrx nb fun h=>nx x h ?_)
    unfold jr;rw[lU hx,if_neg (by rw[hrx];decide)]
  |succ j=>
   have v6:=f3 j rfl
   have hL:=zh D.runs G (j+1)
   have hp:=ID D.runs G j
   have nx: ∀M:ak,eI D.runs x=0->jr (pX D.runs) (qb D.runs) G (j+1)=M->au (fun i=>i<=G.length/\scan (fW D.runs G) (G.length - i) i=r) (fun i=>j9 (vJ zn i).v i) (fun _=>[(0,N.box),(1,jB (tb K G.length jc)),(2,jB an)]) 3 (fun i=>zR z zn (qx D.runs G) i) (fun i=>zn+i) (fun i=>G.length - i) (Al.R (Ni z (zR z zn (qx D.runs G) m) zn (zn+m) N ⟨some ⟨256*K+510,0,none⟩,G.length,jc⟩ (vJ zn G.length).v r.2).l) (j+1) .normal (j9 (tb (zn+(j+1)) (j+1+1) (j+1+1)) (j+1+1)) [(0,dB N),(1,jB (tb K G.length jc)),(2,jB an)] 3 (((zR z zn (qx D.runs G) (j+1)).del (zn+j)).set (zn+(j+1)) (qQ (((uY D.runs G (j+1)).map ak.row).flatten++M.row) (j+1+1))) (zn+(j+1)+1):=fun M h hM=>by
    refine⟨j+1+1,rfl,rfl,rfl,?_,rfl,next h,by show G.length - (j+1+1)<G.length - (j+1);omega⟩
    rw[yl,←hM,←uX];rfl
   have H':RR (zR z zn (qx D.runs G) (j+1)) (zn+(j+1)) (uY D.runs G (j+1)).length K G.length N x kl (eI D.runs x):=by rw[hL];exact H
   have v6':(zR z zn (qx D.runs G) (j+1)).get (zn+j)=some (qQ ((uY D.runs G (j+1)).map ak.row).flatten (uY D.runs G (j+1)).length):=by rw[hL];exact v6
   cases hrx:x.bg with
   |true=>
    by_cases h0:eI D.runs x=0
    ·obtain⟨kr,kc,q,m',c,b,o,R⟩:=ui hNs hU (bg hrx h0)
     have:=QR (cp:=jc) H' hrx (fun _=>R) R.B7 v6' nb fun h M hM=>by
      rw[hL]
      refine nx M h ?_
      subst hM
      unfold jr;rw[lU hx,if_pos hrx]
     rw[hL] at this
     exact(fun⟨t,ht⟩=>⟨100,t,ht⟩) this
    ·exact(fun⟨t,ht⟩=>⟨100,t,ht⟩) (IK (V:=⟨some ⟨256*(zn+j)+510,0,none⟩,j+1,j+1⟩) H h0 (nb h0))
   |false=>
    have:=QS (cp:=jc) H' (by omega) hrx v6' hp nb fun h M hM=>by
     rw[hL]
     refine nx M h ?_
     subst hM
     show(if _ then _ else _)=_
     rw[lU hx,if_neg (by rw[hrx];decide)]
    rw[hL] at this
    exact(fun⟨t,ht⟩=>⟨100,t,ht⟩) this
 ·have hig:i=G.length:=by omega
  subst hig
  have hc:Value.bool (decide ((G.length:Int)<(J.n:Int)))=Value.bool false:=by rw[decide_eq_false (by omega)]
  have hr0:r.2=0:=by rw[←h2,Nat.sub_self];rfl
  have hmG:=hm.1 hr0
  subst hmG
  have hvr: ∀σ,aP (ay σ []) (.slice (vJ zn G.length).a (vJ zn G.length).n (vJ zn G.length).c)=some (.slice (vJ zn G.length).a (vJ zn G.length).n (vJ zn G.length).c):=fun σ=>Ip _ σ
  refine t100 (ure (zR z zn (qx D.runs G) G.length) (zn+G.length) G.length N J (vJ zn G.length) (au _ _ _ _ _ _ _ _ _) ?_)
  (repeat' first|(with_reducible first|exact rfl|assumption|apply And.intro|exact hvr _))
  exact c8 (bh hr0)
theorem KD(hz:aw z zn)(h5:5<=zn)(hN:c9 z N D){K:Nat}(hK:6<=K)(hKn:K<zn){G:List ak}(hG:G.length<=1000){J:dz}(hJ:nk K J.a J.n J.c G.length)(hT:bP z K (G.map ak.row))(he:jY N D G≠0):
 A1 z zn 12 [.agg ⟨N.cells⟩,J.jn] [] 0 0 (.tuple ⟨[.agg ⟨[an]⟩,zv (jY N D G)]⟩) []:=by
 have hc:=uz hz h5 hN
 have hv:=jx (hN.val [])
 have hb: ∀σ,aD (ay σ []) (dB N)=some (dB N):=hN.box
 have hJr:=hJ.nm
 have hjb:=nQ hJr
 rcases qS N D G with ⟨h1,h2⟩|⟨h1,h2⟩
 ·rw[show((bB N D).2.2==0)=false by simpa using h1] at hc
  rw[h2]
  refine aK1 (bC (zg:=T.leaf)) (fn:=f12) hz (N:=100) ?_
  refine urx z zn N J false _ ?_
  (repeat' first|(with_reducible first|exact rfl|assumption|apply And.intro)|exact(rfl:(!false)=true)|intro hq)
  exact q1
 ·have hc:A1 z zn 20 [.agg ⟨N.cells⟩] [] 0 0 T1 []:=by rw[h1] at hc;exact hc
  rw[h2] at he ⊢
  have hl:=Fj hz hN (jS (kK h1).2.2) hK hKn hG hJ hT _ rfl (scan (fW D.runs G) G.length 0).1.toNat ⟨fun h=>(he h).elim,fun _=>rfl⟩
  obtain⟨f1,f2,_⟩:=AS hz (f:=qx D.runs G) (fun i=>db _) (scan (fW D.runs G) G.length 0).1.toNat
  have key:bb prog z zn 12 [.agg ⟨N.cells⟩,J.jn] [] 0 0 (fun _:Unit=>True) (fun _=> .tuple ⟨[.agg ⟨[an]⟩,zv (scan (fW D.runs G) G.length 0).2]⟩) (fun _=>[]) (fun _=>zR z zn (qx D.runs G) (scan (fW D.runs G) G.length 0).1.toNat) (fun _=>zn+(scan (fW D.runs G) G.length 0).1.toNat):=by
   refine dV (bC (zg:=T.leaf)) (fn:=f12) (by kernel_rfl) (by kernel_rfl) hz ⟨by decide,by decide⟩ (fun s hs=>⟨rfl,Nat.le_add_right _ _,f1⟩) (N:=100) ?_
   refine ury z (zR z zn (qx D.runs G) (scan (fW D.runs G) G.length 0).1.toNat) zn (zn+(scan (fW D.runs G) G.length 0).1.toNat) N J (vJ zn G.length) (scan (fW D.runs G) G.length 0).2 _ ?_
   (repeat' first|(with_reducible first|exact rfl|assumption|apply And.intro|exact hjb _|exact hb _)|exact hl|exact(he (by with_reducible assumption)).elim|intro hq)
   all_goals exact q2 () True.intro rfl rfl rfl rfl rfl
  exact eL key rfl fun s hs=>f2
theorem Rv(hz:aw z zn)(U:List RunT)(G:List ak)(n:Nat):w6 z zn (uY U G n) ⟨(vJ zn n).a,(vJ zn n).n,zR z zn (qx U G) n,zn+n⟩:=by
 obtain⟨f1,f2,f3⟩:=AS hz (f:=qx U G) (fun i=>db _) n
 have hl:=zh U G n
 refine⟨f1,Nat.le_add_right _ _,f2,?_⟩
 cases n with
 |zero=>exact .inl ⟨rfl,rfl,rfl⟩
 |succ j=>
  refine .inr ⟨fun h=>by rw[h] at hl;simp at hl,zn+j,Nat.le_add_right _ _,by show zn+j<zn+(j+1);omega,rfl,hl.symm,?_⟩
  rw[hl]
  exact f3 j rfl
theorem Dx{M:List ak}(h:M.length<=1):Nb M=M:=by
 match M,h with
 |[],_=>rfl
 |[a],_=>rfl
 |a::b::r,h=>simp at h
theorem Sn(hz:aw z zn)(h5:5<=zn)(hN:c9 z N D){K:Nat}(hK:6<=K)(hKn:K<zn){G:List ak}(hG:G.length<=1000){J:dz}(hJ:nk K J.a J.n J.c G.length)(hT:bP z K (G.map ak.row))(he:jY N D G=0):
 bb prog z zn 12 [.agg ⟨N.cells⟩,J.jn] [] 0 0 (fun s:da=>w6 z zn (oY D.runs G) s) (fun s=> .tuple ⟨[.agg ⟨[s.v]⟩,I 0]⟩) (fun _=>[]) (fun s=>s.z) (fun s=>s.zn):=by
 have hc:=uz hz h5 hN
 have hv:=jx (hN.val [])
 have hb: ∀σ,aD (ay σ []) (dB N)=some (dB N):=hN.box
 have hJr:=hJ.nm
 have hjb:=nQ hJr
 rcases qS N D G with ⟨h1,h2⟩|⟨h1,h2⟩
 ·rw[he] at h2;cases h2
 rw[h2] at he
 have hc:A1 z zn 20 [.agg ⟨N.cells⟩] [] 0 0 T1 []:=by rw[h1] at hc;exact hc
 have hl:=Fj hz hN (jS (kK h1).2.2) hK hKn hG hJ hT _ rfl G.length ⟨fun _=>rfl,fun h=>(h he).elim⟩
 rw[he] at hl
 have hI:=Rv hz D.runs G G.length
 have f1:=hI.bN
 have hln:=zh D.runs G G.length
 refine dV (bC (zg:=T.leaf)) (fn:=f12) (by kernel_rfl) (by kernel_rfl) hz ⟨by decide,by decide⟩ (fun s hs=>⟨rfl,hs.le,hs.bN⟩) (N:=100) ?_
 by_cases h2l:G.length<=1
 ·have hP:oY D.runs G=uY D.runs G G.length:=by
   show vS _ _ _=_
   rw[BZ,Dx]
   show(uY D.runs G G.length).length<=1
   omega
  have e1:Value.bool (decide (((vJ zn G.length).n:Int)>1))=Value.bool false:=by
   have:(vJ zn G.length).n=G.length:=by cases G.length<;>rfl
   rw[this,decide_eq_false (by omega)]
  have hvr:aP (ay [] []) (.tuple ⟨[.agg ⟨[.slice (vJ zn G.length).a (vJ zn G.length).n (vJ zn G.length).c]⟩,I 0]⟩)=some (.tuple ⟨[.agg ⟨[.slice (vJ zn G.length).a (vJ zn G.length).n (vJ zn G.length).c]⟩,I 0]⟩):=by
   have:=bM (g8 (Ip (zn:=zn) G.length [])) (rfl:aS (ay [] []) [I 0]=some [I 0])
   simp only[aP,this]
  refine ury z (zR z zn (qx D.runs G) G.length) zn (zn+G.length) N J (vJ zn G.length) 0 _ ?_
  (repeat' first|(with_reducible first|exact rfl|assumption|apply And.intro|exact hjb _|exact hb _)|exact hl|exact absurd rfl (by with_reducible assumption:(0:Int)≠0)|intro hq)
  refine q2 _ (hP ▸ hI) rfl ?_ rfl rfl rfl
  show(Value.tuple ⟨[.agg ⟨[(vJ zn G.length).v]⟩,I 0]⟩)= .tuple ⟨[.agg ⟨[.slice (vJ zn G.length).a (vJ zn G.length).n (vJ zn G.length).n]⟩,I 0]⟩
  cases G.length<;>rfl
 ·obtain⟨j,hj⟩: ∃j,G.length=j+1+1:=⟨G.length - 2,by omega⟩
  rw[hj] at hl hI f1 hln
  obtain⟨x,hx⟩:=dm (l:=uY D.runs G (j+1+1)) (i:=0) (by omega)
  obtain⟨y,hy⟩:=dm (l:=uY D.runs G (j+1+1)) (i:=1) (by omega)
  have hM: ∃r,uY D.runs G (j+1+1)=x::y::r:=by
   match hR:uY D.runs G (j+1+1),hln with
   |[],h=>simp at h
   |[a],h=>simp at h
   |a::b::r,h=>
    rw[hR] at hx hy
    simp at hx hy
    subst hx hy
    exact⟨r,rfl⟩
  obtain⟨r,hR⟩:=hM
  have hP:oY D.runs G=Nb (uY D.runs G (j+1+1)):=by
   show vS _ _ _=_
   rw[BZ,hj]
  have hg:(zR z zn (qx D.runs G) (j+1+1)).get (zn+(j+1))=some (.az ⟨((uY D.runs G (j+1+1)).map ak.row).flatten,(j+1+1)*9,9,62,false,false,0,true⟩):=
   (AS hz (f:=qx D.runs G) (fun i=>db _) (j+1+1)).2.2 (j+1) rfl
  have hI':w6 z zn (uY D.runs G (j+1+1)) ⟨some ⟨256*(zn+(j+1))+510,0,none⟩,j+1+1,zR z zn (qx D.runs G) (j+1+1),zn+(j+1+1)⟩:=hI
  have hl':aj prog (ah (ag f12) 0) 3 129 (j9 an 0) [(0,N.box),(1,jB J.v),(2,jB an)] 3 z zn (Al.R (U0 z (zR z zn (qx D.runs G) (j+1+1)) zn (zn+(j+1+1)) N J (tb (zn+(j+1)) (j+1+1) (j+1+1))).l):=iI hl fun o ho=>by
   rcases ho with ⟨_,h,_⟩|⟨_,_,rfl⟩|h
   ·exact(h rfl).elim
   ·exact .inl ⟨(),trivial,rfl⟩
   ·exact h.elim
  have f1':aw (zR z zn (qx D.runs G) (j+1+1)) (zn+(j+1+1)):=f1
  clear hl hI f1
  generalize uY D.runs G (j+1+1)=L at*
  generalize zR z zn (qx D.runs G) (j+1+1)=z' at*
  have kk:zn+(j+1)<zn+(j+1+1):=by omega
  have c1:Value.bool (decide (((j+1+1:Nat):Int)>1))=Value.bool true:=by rw[decide_eq_true (by omega)]
  have l0:0<j+1+1:=by omega
  have l1:1<j+1+1:=by omega
  let kb:aV:=⟨(L.map ak.row).flatten,(j+1+1)*9,9,62,false,false,0,true⟩
  have rx:=kS (B:=kb) hx rfl
  have ry:=kS (B:=kb) hy rfl
  have x0:ai prog kb 4 0=some (.bool x.bg):=rx.bg
  have x6:ai prog kb 3 6=some (zv x.dep):=rx.dep
  have x7:ai prog kb 3 7=some (zv x.arr):=rx.arr
  have y0:ai prog kb 4 9=some (.bool y.bg):=ry.bg
  have y6:ai prog kb 3 15=some (zv y.dep):=ry.dep
  let M1:ak:={x with dep:=wr (y.dep - wr (x.arr - x.dep))}
  let M2:ak:={x with dep:=wr (y.dep - wr (x.arr - x.dep)),arr:=y.dep}
  let kb1:aV:=⟨((L.set 0 M1).map ak.row).flatten,(j+1+1)*9,9,62,false,false,0,true⟩
  let kb2:aV:=⟨((L.set 0 M2).map ak.row).flatten,(j+1+1)*9,9,62,false,false,0,true⟩
  have o1:overwrite kb.cells 6 [zv (wr (y.dep - wr (x.arr - x.dep)))]=some ((L.set 0 M1).map ak.row).flatten:=iU (j:=6) hx _ (by decide) rfl
  have hy1:(L.set 0 M1)[1]? =some y:=by rw[List.getElem?_set_ne (by decide)];exact hy
  have y6':ai prog kb1 3 15=some (zv y.dep):=(kS (B:=kb1) hy1 rfl).dep
  have o2:overwrite kb1.cells 7 [zv y.dep]=some ((L.set 0 M2).map ak.row).flatten:=by
   have:=iU (gL hx M1) (y:=M2) (j:=7) (zv y.dep) (by decide) rfl
   rw[oA] at this
   exact this
  have b1:((L.set 0 M1).map ak.row).flatten.length<=kb.cap:=eo hln M1
  have b2:((L.set 0 M2).map ak.row).flatten.length<=kb1.cap:=eo hln M2
  have g1:(z'.set (zn+(j+1)) (.az kb1)).get (zn+(j+1))=some (.az kb1):=by rw[T.aH,if_pos rfl]
  have f2:aw ((z'.set (zn+(j+1)) (.az kb1)).set (zn+(j+1)) (.az kb2)) (zn+(j+1+1)):=qU (qU f1' kk fun σ _=>cA (db _)) kk fun σ _=>cA (db _)
  have m1:x.bg=false->y.bg=true->oY D.runs G=L.set 0 M2:=fun h1 h2=>by
   rw[hP,hR]
   show(if x.bg=false/\y.bg=true then _ else _)=_
   rw[if_pos ⟨h1,h2⟩];rfl
  have m2: ¬(x.bg=false/\y.bg=true)->oY D.runs G=L:=fun h=>by
   rw[hP,hR]
   show(if x.bg=false/\y.bg=true then _ else _)=_
   rw[if_neg h]
  have i2:w6 z zn (L.set 0 M2) ⟨some ⟨256*(zn+(j+1))+510,0,none⟩,j+1+1,(z'.set (zn+(j+1)) (.az kb1)).set (zn+(j+1)) (.az kb2),zn+(j+1+1)⟩:=by
   refine⟨f2,Nat.le_add_right _ _,fun k hk=>?_, .inr ⟨fun h=>?_,zn+(j+1),Nat.le_add_right _ _,kk,rfl,by show j+1+1=(L.set 0 M2).length;rw[List.length_set,hln],?_⟩⟩
   ·show((z'.set _ _).set _ _).get k=_
    rw[T.aH,if_neg (by omega),T.aH,if_neg (by omega)]
    exact hI'.gK k hk
   ·have:(L.set 0 M2).length=0:=by rw[h];rfl
    rw[List.length_set,hln] at this
    omega
   ·show((z'.set _ _).set _ _).get (zn+(j+1))=_
    rw[T.aH,if_pos rfl,List.length_set,hln]
  have n1:(!x.bg)=true->x.bg=false:=fun h=>by cases hx':x.bg with|false=>rfl|true=>rw[hx'] at h;cases h
  have n2:(!x.bg)=false->x.bg=true:=fun h=>by cases hx':x.bg with|true=>rfl|false=>rw[hx'] at h;cases h
  have nC: ∀{b:Bool},b=true->b=false->False:=fun h1 h2=>by rw[h1] at h2;cases h2
  refine urz z z' zn (zn+(j+1+1)) (zn+(j+1)) (j+1+1) N J x y kb kb1 ((L.set 0 M1).map ak.row).flatten ((L.set 0 M2).map ak.row).flatten (wr (x.arr - x.dep)) (wr (y.dep - wr (x.arr - x.dep))) _ ?_
  (repeat' first|(with_reducible first|exact rfl|assumption|apply And.intro|exact hjb _|exact hb _)|exact(rfl:Int.ofNat _=_)|exact hl'|intro hq)
  all_goals first
   |exact q2 _ (m1 (n1 (by with_reducible assumption)) (by with_reducible assumption) ▸ i2) rfl rfl rfl rfl rfl
   |exact q2 _ (m2 (fun h=>nC (n2 (by with_reducible assumption)) h.1) ▸ hI') rfl rfl rfl rfl rfl
   |exact q2 _ (m2 (fun h=>nC h.2 (by with_reducible assumption)) ▸ hI') rfl rfl rfl rfl rfl
theorem B0(hz:aw z zn):W9 z zn ⟨none,0,z,zn⟩:=⟨hz,Nat.le_refl _,fun _ _=>rfl⟩
theorem zP{s:da}{L:List ak}(h:w6 z zn L s):W9 z zn s:=⟨h.bN,h.le,h.gK⟩
end
end Go.Proofs.Nw
namespace Go.Proofs.Nw
open Go Go.AV Tryz
set_option maxRecDepth 1000000
noncomputable section
noncomputable abbrev Tv:Code:=ah (ag f13) 0
abbrev YJr:List (Nat × aa):=[(0,jB an),(1,jB an)]
noncomputable abbrev YJs(z:T aa)(zn:Nat):Al:=Al.cons Unit Yc (WZ z zn) (S6 z zn) Al.nil
abbrev YJt(J V:dz):List (Nat × aa):=[(0,jB (Value.slice J.a 0 J.c)),(1,jB (Value.slice V.a 0 V.c))]
end
noncomputable section
abbrev AL(N:aq)(J:dz):List Value:=[AG (Ya N),AG [yS J]]
abbrev Xm(z:T aa)(zn:Nat)(N:aq)(J:dz):Prop:=aF prog z zn 9 (AL N J) [] 0 0 Yc uG Ye
abbrev qc(N:aq)(J:dz):Prop:=aS Yf (AL N J)=some (AL N J)
abbrev Lp(z:T aa)(zn:Nat):Prop:=aF prog z zn 10 [] [] 0 0 Yc gf Ye
abbrev Ek:Prop:=Rs aao
noncomputable abbrev CF(N:aq)(J:dz):Cm:=Cm.mk (AL N J) [] 0 0 [] [] 2
noncomputable abbrev Xv(z:T aa)(zn:Nat):Tr:=Tr.cm (Cm.mk [] [] 0 0 [] [] 2) Unit Yc gf Ye gf Ye (Yl z) (Ym zn) (S6 z zn)
abbrev Lu(z:T aa)(zn:Nat)(N:aq)(J:dz):Prop:=aF prog z zn 9 (AL N J) [] 0 0 Yc gf Ye
abbrev Hp(e:Int):Unit->Value:=fun(x:Unit)=>TP [AG [an],zv e]
abbrev Xu(z:T aa)(zn:Nat)(N:aq)(J:dz)(e:Int):Prop:=aF prog z zn 11 (AL N J) [] 0 0 Yc (Hp e) Ye
abbrev PI(e:Int):Unit->Value:=fun(x:Unit)=>L3 e
noncomputable abbrev Lt(N:aq)(J:dz):Cm:=Cm.mk (AL N J) [] 0 0 [] [] 3
noncomputable abbrev WJ:Cm:=Cm.mk [] [] 0 0 [] [] 4
abbrev TI(zn n:Nat):Unit->Value:=fun(x:Unit)=>TP [AG [tb zn n n],YM]
abbrev PH(z:T aa)(zn:Nat)(cs:List Value)(n:Nat):Unit->T aa:=fun(x:Unit)=>wK z zn cs n
abbrev Ls(zn:Nat):Unit->Nat:=fun(x:Unit)=>zn+1
abbrev WH(z:T aa)(zn:Nat)(N:aq)(J:dz)(n:Nat)(cs:List Value):Prop:=bb prog z zn 11 (AL N J) [] 0 0 Yc (TI zn n) Ye (PH z zn cs n) (Ls zn)
abbrev YKB(s:da):Value:=TP [AG [s.v],YM]
abbrev Tu:da->Value:=fun(s:da)=>YKB s
abbrev OV:da->List (Nat × aa):=fun(x:da)=>[]
abbrev WG(x:da):Value:=TP [AG [wM x],YM]
abbrev YKF(x:da):Prop:=aP Yf (WG x)=some (WG x)
abbrev YKG(x:da):Prop:=aF prog (ik x) x.zn 10 [] [] 0 0 Yc gf Ye
abbrev WE(zn n:Nat):Unit->Value:=fun(x:Unit)=>AM zn n
noncomputable abbrev YKI(zn n:Nat)(x:da):Tr:=tA 7 (Tr.cm (Cm.mk [AG [eg zn n],AG [wM x]] [] 0 0 [] [] 4) Unit Yc gf Ye gf Ye (fun(x_1:Unit)=>ik x) (fun(x_1:Unit)=>x.zn) fun(x_1:Unit)=>tA 2 (Tr.cm WJ Unit Yc gf Ye gf Ye (fun(x_2:Unit)=>ik x) (fun(x_2:Unit)=>x.zn) fun(x_2:Unit)=>tA 1 (tR [] [] T1 [] 0 (ik x) x.zn)))
end
noncomputable section
noncomputable abbrev YKJ:Code:=ah (ag f31) 0
theorem uga(z:T aa)(zn i K n cp:Nat)(x:ak)(kj:aV)(now:Int)(Q:QL)(hyp:Value.bool (decide ((↑i:Int)<(↑n:Int)))=T1/\cG i/\i<n/\fH K/\fR z K kj/\SJ kj i x/\Br (decide (x.dep>=now)) (E6 24 z zn (Rs (IV i)/\Q af.ret [(4,IV i)] [] 1 z zn)) (ZV (IntKind.i64.wrap ((↑i:Int)+1))=IV (i+1)/\E6 24 z zn (R5 (ZV now) Y3 (SL (tF K) n cp) (IV n) (IV (i+1)) (Rs (sN K n cp)/\Q aN [(1,ZV now),sQ,(8,SL (tF K) n cp),(9,IV n),(10,IV (i+1))] [(0,sN K n cp)] 1 z zn)))):RdT prog Yi cW YKJ 24 (DA now (tb K n cp) n i) z [(0,jB (tb K n cp))] 1 zn 1 Q:=K1t hyp (tO kI (tA 1 (tO (bS i) (tO (OY K kj x) (tA 2 ((tA 1 (tE [] [] [(4,IV i)] [] 1 z zn)).fork (tA 1 (tO (dI i) (tE YC [] [(1,ZV now),sQ,(8,SL (tF K) n cp),(9,IV n),(10,IV (i+1))] [(0,sN K n cp)] 1 z zn)))))))))
theorem ugb(z:T aa)(zn i n:Nat)(v:Value)(now:Int)(Q:QL)(hyp:Value.bool (decide ((↑i:Int)<(↑n:Int)))=F0/\E6 24 z zn (AQ/\KO YD (BQ [v] 1 1 34)/\Q YO [sQ] [(0,BQ [v] 1 1 34)] 1 z zn)):RdT prog Yi cW YKJ 24 (DA now v n i) z [(0,jB v)] 1 zn 1 Q:=K1t hyp (tO kx (tA 1 (tE YC [] [sQ] [(0,BQ [v] 1 1 34)] 1 z zn)))
noncomputable abbrev YKK(m:Nat)(J:dz)(z:T aa)(zn:Nat):aA->Prop:=(alt (m<J.n) (aA.mk af.ret [(4,iv m)] [] 1 z zn) (alt (m=J.n) (aA.mk YO [(2,ip 0)] [(0,jB J.v)] 1 z zn) Al.nil)).R
noncomputable abbrev YKL(m:Nat)(J:dz)(z:T aa)(zn:Nat):Al:=Al.cons Unit (fun(x:Unit)=>m<J.n) (fun(x:Unit)=>aA.mk af.ret [(4,iv m)] [] 1 z zn) (fun(x:Unit)=>tR [] [] (IV m) [] 0 z zn) (Al.cons Unit (fun(x:Unit)=>m=J.n) (fun(x:Unit)=>aA.mk YO [(2,ip 0)] [(0,jB J.v)] 1 z zn) (fun(x:Unit)=>tA 1 (tR [] [] (IV J.n) [] 0 z zn)) Al.nil)
theorem ug(z:T aa)(zn m:Nat)(J:dz)(now:Int)(Q:QF)(hyp:YP/\aj prog YKJ 1 24 (DA now J.v J.n 0) [(0,jB J.v)] 1 z zn (YKK m J z zn)/\E6 24 z zn (R2 (ZV now) Y3 (aP YD (yS J)=some (yS J)/\R2 (IV J.n) YM (KO YD (Lr J)/\(∀(x:Unit),m<J.n->E6 24 z zn (Rs (IV m)/\Q (IV m) [] 0 z zn))/\ ∀(x:Unit),m=J.n->E6 24 z zn (Rs (IV J.n)/\Q (IV J.n) [] 0 z zn))))):FnT prog Yi cW f31 [J.jn,zv now] z [] 0 zn Q:=K1t hyp (tA 1 (Tr.lp 1 24 YC [] (DA now J.v J.n 0) [(0,jB J.v)] 1 z zn (YKL m J z zn)))
theorem ufe(z:T aa)(zn:Nat)(N:aq)(J:dz)(now e:Int)(Q:QF)(hyp:Xu z zn N J e/\qc N J/\ ∀(x:Unit),True->HY e/\Value.bool (e !=0)=T1/\E6 22 z zn (Rs (TP [YM,ZV e])/\Q (TP [YM,ZV e]) [] 0 z zn)):FnT prog Yi cW f16 [Yj N,J.jn,zv now] z [] 0 zn Q:=K1t hyp (tA 2 (Tr.cm (CF N J) Unit Yc (Hp e) Ye (PI e) Ye (Yl z) (Ym zn) fun(x:Unit)=>tA 1 (tO kI (tA 1 (tR [] [] (TP [YM,ZV e]) [] 0 z zn)))))
theorem uf(z:T aa)(zn n m:Nat)(N:aq)(J:dz)(now:Int)(cs:List Value)(Q:QF)(hyp:WH z zn N J n cs/\qc N J/\ ∀(x:Unit),True->Rs (AM zn n)/\aF prog (wK z zn cs n) (zn+1) 31 [AG [eg zn n],ZV now] [] 0 0 Yc (Mk m) Ye/\Rs [AG [eg zn n],ZV now]/\ ∀(x:Unit),True->Rs (IV m)/\E6 22 (wK z zn cs n) (zn+1) (Rs (TP [IV m,YM])/\Q (TP [IV m,YM]) [] 0 (wK z zn cs n) (zn+1))):FnT prog Yi cW f16 [Yj N,J.jn,zv now] z [] 0 zn Q:=K1t hyp (tA 2 (Tr.cm (CF N J) Unit Yc (TI zn n) Ye (WE zn n) Ye (PH z zn cs n) (Ls zn) fun(x:Unit)=>tA 4 (Tr.cm (Cm.mk [AG [eg zn n],ZV now] [] 0 0 [] [] 3) Unit Yc (Mk m) Ye (W2 m) Ye (PH z zn cs n) (Ls zn) fun(x:Unit)=>tR [] [] (TP [IV m,YM]) [] 0 (wK z zn cs n) (zn+1))))
end
end Go.Proofs.Nw
namespace Go.Proofs.Nw
open Go Go.AV Tryz
set_option maxHeartbeats 1000000
set_option maxRecDepth 100000
structure LJ(z:T aa)(J:dz)(L:List ak):Prop where
 n:J.n=L.length
 nm: ∀σ,aP (ay σ []) J.v=some J.v
 here:L≠[]-> ∃(K:Nat)(B:aV),J.a=some ⟨256*K+510,0,none⟩/\z.get K=some (.az B)/\B.cells=(L.map ak.row).flatten
theorem Fl{z:T aa}{K c:Nat}{B:aV}{L:List ak}(h:z.get K=some (.az B))(hB:B.cells=(L.map ak.row).flatten):LJ z ⟨some ⟨256*K+510,0,none⟩,L.length,c⟩ L:=
 ⟨rfl,fun σ=>lq σ _ _ _,fun _=>⟨K,B,rfl,h,hB⟩⟩
theorem w6.aaK{z0:T aa}{n0:Nat}{L:List ak}{s:da}(h:w6 z0 n0 L s):LJ s.z ⟨s.oa,s.k,s.k⟩ L:=by
 obtain⟨oa,k,sz,szn⟩:=s
 rcases h.val with ⟨e1,e2,e3⟩|⟨e0,kk,_,_,e1,e2,e3⟩<;>simp only at*
 ·subst e1 e2 e3
  exact⟨rfl,fun _=>rfl,fun h=>(h rfl).elim⟩
 ·subst e1 e2
  exact Fl e3 rfl
section
variable{z:T aa}{zn:Nat}
theorem K9{L:List ak}{now:Int}{i:Nat}{x:ak}(hi:i<L.length)(h2: ∀j x,j<i->L[j]? =some x->x.dep<now)(hx:L[i]? =some x)(h:now<=x.dep):jL now L=i:=uB now L i h2 (fun y hy=>by rw[hx] at hy;cases hy;exact h) (by omega)
theorem OJ(hz:aw z zn){J:dz}{L:List ak}(hJ:LJ z J L)(hl:L.length<1000000000)(now:Int):A1 z zn 31 [J.jn,zv now] [] 0 0 (iv (jL now L)) []:=by
 obtain⟨hn,hr,hh⟩:=hJ
 have hjb:=nQ hr
 have hlp:aj prog (ah (ag f31) 0) 1 24 (DA now J.v J.n 0) [(0,jB J.v)] 1 z zn (Al.R (aax z zn now J.v J.n (jL now L)).l):=by
  refine ax hD (bC (zg:=T.leaf)) (α:=Nat) 1 24 1 (fun i=>i<=L.length/\ ∀j x,j<i->L[j]? =some x->x.dep<now) (fun i=>DA now J.v J.n i) (fun _=>[(0,jB J.v)]) (fun _=>z) (fun _=>zn) (fun i=>L.length - i) _ (fun i hI=>?_) 0 ⟨Nat.zero_le _,fun j x h=>absurd h (Nat.not_lt_zero _)⟩
  obtain⟨h1,h2⟩:=hI
  by_cases hi:i<L.length
  ·obtain⟨x,hx⟩:=dm hi
   obtain⟨K,B,a1,b1,b2⟩:=hh (fun h=>by rw[h] at hi;simp at hi)
   obtain⟨ja,jn,jc⟩:=J
   simp only at a1 hn hr hjb
   subst a1 hn
   have hc:Value.bool (decide ((i:Int)<(L.length:Int)))=Value.bool true:=by rw[decide_eq_true (by omega)]
   have k2:ai prog B 62 (0+i*9)=some (.agg ⟨x.row⟩):=Dh hx b2
   have w:=bH (n:=i) (by omega)
   refine t100 (uga z zn i K L.length jc x B now (au _ _ _ _ _ _ _ _ _) ?_)
   (repeat' first|(with_reducible first|exact rfl|assumption|apply And.intro)|intro hq)
   ·have he:=K9 hi h2 hx (of_decide_eq_true (by with_reducible assumption:decide (x.dep>=now)=true))
    rw[he]
    exact bh hi
   ·have hlt: ¬x.dep>=now:=of_decide_eq_false (by with_reducible assumption:decide (x.dep>=now)=false)
    exact⟨i+1,rfl,rfl,rfl,rfl,rfl,⟨hi,fun j y hj hy=>by
     by_cases e:j=i
     ·subst e;rw[hx] at hy;cases hy;omega
     ·exact h2 j y (by omega) hy⟩,by show L.length - (i+1)<L.length - i;omega⟩
  ·have hc:Value.bool (decide ((i:Int)<(J.n:Int)))=Value.bool false:=by rw[decide_eq_false (by omega)]
   refine t100 (ugb z zn i J.n J.v now (au _ _ _ _ _ _ _ _ _) ?_)
   (repeat' first|(with_reducible first|exact rfl|assumption|apply And.intro|exact hjb _))
   have he:jL now L=i:=uB now L i h2 (fun y hy=>by have:=(List.getElem?_eq_some_iff.1 hy).1;omega) h1
   rw[he]
   exact c8 (bh (by omega))
 refine aK1 (bC (zg:=T.leaf)) (fn:=f31) hz (N:=100) ?_
 refine ug z zn (jL now L) J now _ ?_
 (repeat' first|(with_reducible first|exact rfl|assumption|apply And.intro|exact hr _|exact hjb _)|exact hlp|intro hq)
 all_goals first
  |exact q1
  |(refine qh ?_;rw[(by assumption:jL now L=J.n)])
variable{N:aq}{D:fP}
noncomputable def lA(D:fP)(G:List ak)(now:Int):Nat:=jL now (oY D.runs G)
theorem MG{D:fP}{G:List ak}:LJ (z.set zn (ic (iE D G) G.length)) ⟨some ⟨256*zn+510,0,none⟩,G.length,G.length⟩ (oY D.runs G):=by
 have hl:=qw D.runs G
 have:=Fl (z:=z.set zn (ic (iE D G) G.length)) (K:=zn) (c:=G.length) (B:=fL (oY D.runs G) G.length) (L:=oY D.runs G) (by rw[T.aH,if_pos rfl]) rfl
 rw[hl] at this
 exact this
theorem KT(hz:aw z zn)(hN:c9 z N D)(hll:D.paths.length<=10000){K:Nat}{G:List ak}(hG:G.length<=1000){J:dz}(hJ:nk K J.a J.n J.c G.length)(hT:bP z K (G.map ak.row))(he:jY N D G≠0)(now:Int):
 A1 z zn 16 [.agg ⟨N.cells⟩,J.jn,zv now] [] 0 0 (.tuple ⟨[iv 0,zv (jY N D G)]⟩) []:=by
 have hc:=FG hz hN hll hG hJ hT he
 have hv:=tj hN hJ.nm
 have e1:Value.bool (jY N D G !=0)=Value.bool true:=by rw[show(jY N D G !=0)=true by simpa using he]
 refine aK1 (bC (zg:=T.leaf)) (fn:=f16) hz (N:=100) ?_
 refine ufe z zn N J now (jY N D G) _ ?_
 (repeat' first|(with_reducible first|exact rfl|assumption|apply And.intro)|intro hq)
 exact q1
theorem Py(hz:aw z zn)(h6:6<=zn)(hN:c9 z N D)(hll:D.paths.length<=10000){K:Nat}{G:List ak}(hG:G.length<=1000){J:dz}(hJ:nk K J.a J.n J.c G.length)(hT:bP z K (G.map ak.row))(he:jY N D G=0)(now:Int):
 A1 z zn 16 [.agg ⟨N.cells⟩,J.jn,zv now] [] 0 0 (.tuple ⟨[iv (lA D G now),I 0]⟩) []:=by
 have hc:=Ot hz h6 hN hll hG hJ hT he
 have hv:=tj hN hJ.nm
 have hfz:aw (z.set zn (ic (iE D G) G.length)) (zn+1):=dL hz (db _)
 have hb:=OJ hfz (MG (D:=D) (G:=G)) (by rw[qw];omega) now
 have hra:aS (sig []) [.agg ⟨[tb zn G.length G.length]⟩,zv now]=some [.agg ⟨[tb zn G.length G.length]⟩,zv now]:=rfl
 have key:bb prog z zn 16 [.agg ⟨N.cells⟩,J.jn,zv now] [] 0 0 (fun _:Unit=>True) (fun _=> .tuple ⟨[iv (lA D G now),I 0]⟩) (fun _=>[]) (fun _=>z.set zn (ic (iE D G) G.length)) (fun _=>zn+1):=by
  refine dV (bC (zg:=T.leaf)) (fn:=f16) (by kernel_rfl) (by kernel_rfl) hz ⟨by decide,by decide⟩ (fun s hs=>⟨rfl,Nat.le_succ _,hfz⟩) (N:=100) ?_
  refine uf z zn G.length (jL now (oY D.runs G)) N J now (iE D G) _ ?_
  (repeat' first|(with_reducible first|exact rfl|assumption|apply And.intro)|intro hq)
  exact q2 () True.intro rfl rfl rfl rfl rfl
 exact eL key rfl fun s hs k hk=>by rw[T.aH,if_neg (by omega)]
end
end Go.Proofs.Nw
namespace Go.Proofs.Nw
open Go Go.AV Tryz
set_option maxRecDepth 1000000
noncomputable section
noncomputable abbrev YKM:Code:=ah (ag f17) 0
theorem uha(z:T aa)(zn i K n cp:Nat)(x:ak)(kj:aV)(now:Int)(Q:QL)(hyp:Value.bool (decide ((↑i:Int)<(↑n:Int)))=T1/\cG i/\i<n/\fH K/\fR z K kj/\ai prog kj 3 (0+i*9+6)=some (ZV x.dep)/\Br (decide (x.dep>=now)) (E6 25 z zn (Rs (IV i)/\Q af.ret [(4,IV i)] [] 1 z zn)) (ZV (IntKind.i64.wrap ((↑i:Int)+1))=IV (i+1)/\E6 25 z zn (R3 (ZV now) Y3 (IV (i+1)) (Rs (sN K n cp)/\Q aN [(1,ZV now),sQ,(5,IV (i+1))] [(0,sN K n cp)] 1 z zn)))):RdT prog Yi cW YKM 25 (Dz now i) z [(0,jB (tb K n cp))] 1 zn 1 Q:=K1t hyp (tA 1 (tO kI (tA 2 (tO (bS i) (tO (An.ld K kj (zv x.dep)) ((tA 1 (tE [] [] [(4,IV i)] [] 1 z zn)).fork (tA 1 (tO (dI i) (tE YC [] [(1,ZV now),sQ,(5,IV (i+1))] [(0,sN K n cp)] 1 z zn)))))))))
theorem uhb(z:T aa)(zn i:Nat)(J:dz)(now:Int)(Q:QL)(hyp:Value.bool (decide ((↑i:Int)<(↑J.n:Int)))=F0/\E6 25 z zn (AQ/\KO YD (Lr J)/\Q YO [sQ] [(0,Lr J)] 1 z zn)):RdT prog Yi cW YKM 25 (Dz now i) z [(0,jB J.v)] 1 zn 1 Q:=K1t hyp (tA 1 (tO kx (tA 1 (tE YC [] [sQ] [(0,Lr J)] 1 z zn))))
theorem uh(z:T aa)(zn m:Nat)(J:dz)(now:Int)(Q:QF)(hyp:YP/\aj prog YKM 1 25 (Dz now 0) [(0,jB J.v)] 1 z zn (YKK m J z zn)/\E6 25 z zn (R3 (ZV now) Y3 YM (KO YD (Lr J)/\(∀(x:Unit),m<J.n->E6 25 z zn (Rs (IV m)/\Q (IV m) [] 0 z zn))/\ ∀(x:Unit),m=J.n->E6 25 z zn (Rs (IV J.n)/\Q (IV J.n) [] 0 z zn)))):FnT prog Yi cW f17 [J.jn,zv now] z [] 0 zn Q:=K1t hyp (Tr.lp 1 25 YC [] (Dz now 0) [(0,jB J.v)] 1 z zn (YKL m J z zn))
end
end Go.Proofs.Nw
namespace Go.Proofs.Nw
open Go Go.AV Tryz
set_option maxHeartbeats 1000000
set_option maxRecDepth 100000
section
variable{z:T aa}{zn:Nat}
theorem So(hz:aw z zn){J:dz}{L:List ak}(hJ:LJ z J L)(hl:L.length<1000000000)(now:Int):A1 z zn 17 [J.jn,zv now] [] 0 0 (iv (jL now L)) []:=by
 obtain⟨hn,hr,hh⟩:=hJ
 have hjb:=nQ hr
 have hlp:aj prog (ah (ag f17) 0) 1 25 (Dz now 0) [(0,jB J.v)] 1 z zn (Al.R (aaw z zn now J.v J.n (jL now L)).l):=by
  refine ax hD (bC (zg:=T.leaf)) (α:=Nat) 1 25 1 (fun i=>i<=L.length/\ ∀j x,j<i->L[j]? =some x->x.dep<now) (fun i=>Dz now i) (fun _=>[(0,jB J.v)]) (fun _=>z) (fun _=>zn) (fun i=>L.length - i) _ (fun i hI=>?_) 0 ⟨Nat.zero_le _,fun j x h=>absurd h (Nat.not_lt_zero _)⟩
  obtain⟨h1,h2⟩:=hI
  by_cases hi:i<L.length
  ·obtain⟨x,hx⟩:=dm hi
   obtain⟨K,B,a1,b1,b2⟩:=hh (fun h=>by rw[h] at hi;simp at hi)
   obtain⟨ja,jn,jc⟩:=J
   simp only at a1 hn hr hjb
   subst a1 hn
   have hc:Value.bool (decide ((i:Int)<(L.length:Int)))=Value.bool true:=by rw[decide_eq_true (by omega)]
   have k2:=(kS hx b2).dep
   have w:=bH (n:=i) (by omega)
   refine t100 (uha z zn i K L.length jc x B now (au _ _ _ _ _ _ _ _ _) ?_)
   (repeat' first|(with_reducible first|exact rfl|assumption|apply And.intro)|intro hq)
   ·have he:=K9 hi h2 hx (of_decide_eq_true (by with_reducible assumption:decide (x.dep>=now)=true))
    rw[he]
    exact bh hi
   ·have hlt: ¬x.dep>=now:=of_decide_eq_false (by with_reducible assumption:decide (x.dep>=now)=false)
    exact⟨i+1,rfl,rfl,rfl,rfl,rfl,⟨hi,fun j y hj hy=>by
     by_cases e:j=i
     ·subst e;rw[hx] at hy;cases hy;omega
     ·exact h2 j y (by omega) hy⟩,by show L.length - (i+1)<L.length - i;omega⟩
  ·have hc:Value.bool (decide ((i:Int)<(J.n:Int)))=Value.bool false:=by rw[decide_eq_false (by omega)]
   refine t100 (uhb z zn i J now (au _ _ _ _ _ _ _ _ _) ?_)
   (repeat' first|(with_reducible first|exact rfl|assumption|apply And.intro|exact hjb _))
   have he:jL now L=i:=uB now L i h2 (fun y hy=>by have:=(List.getElem?_eq_some_iff.1 hy).1;omega) h1
   rw[he]
   exact c8 (bh (by omega))
 refine aK1 (bC (zg:=T.leaf)) (fn:=f17) hz (N:=100) ?_
 refine uh z zn (jL now L) J now _ ?_
 (repeat' first|(with_reducible first|exact rfl|assumption|apply And.intro|exact hjb _)|exact hlp|intro hq)
 all_goals first
  |exact q1
  |(refine qh ?_;rw[(by assumption:jL now L=J.n)])
end
end Go.Proofs.Nw
namespace Go.Proofs.Nw
open Go Go.AV Tryz
set_option maxRecDepth 1000000
noncomputable section
theorem uma(z:T aa)(zn:Nat)(N:aq)(J:dz)(now:Int)(Q:QF)(hyp:Xm z zn N J/\qc N J/\ ∀(x:Unit),True->YQ/\Lp z zn/\Ek/\ ∀(x:Unit),True->YA/\E6 53 z zn (YA/\Q T1 [] 0 z zn)):FnT prog Yi cW Tryz.f5 [Yj N,J.jn,zv now] z [] 0 zn Q:=K1t hyp (tA 2 (Tr.cm (CF N J) Unit Yc uG Ye uG Ye (Yl z) (Ym zn) fun(x:Unit)=>tA 1 (Xv z zn)))
abbrev FV(N:aq)(J:dz)(now:Int):List Value:=[AG (Ya N),AG [yS J],ZV now]
abbrev Tt(e:Int):Unit->Value:=fun(x:Unit)=>TP [iv 0,zv e]
abbrev PD(N:aq)(J:dz)(now:Int):Prop:=aS Yf (FV N J now)=some (FV N J now)
noncomputable abbrev YKQ:Cm:=Cm.mk [] [] 0 0 [] [] 3
noncomputable abbrev YKR(z:T aa)(zn:Nat):Tr:=tO kI (tA 2 (Tr.cm YKQ Unit Yc gf Ye gf Ye (Yl z) (Ym zn) fun(x:Unit)=>tA 1 (Yn z zn)))
theorem umb(z:T aa)(zn:Nat)(N:aq)(J:dz)(now e:Int)(Q:QF)(hyp:Lu z zn N J/\qc N J/\ ∀(x:Unit),True->YA/\aF prog z zn 16 (FV N J now) [] 0 0 Yc (Tt e) Ye/\PD N J now/\ ∀(x:Unit),True->Rs (TP [YM,ZV e])/\aF prog z zn 12 (AL N J) [] 0 0 Yc (Hp e) Ye/\qc N J/\ ∀(x:Unit),True->HY e/\Value.bool (e !=0)=T1/\Value.bool (e==e)=T1/\Lp z zn/\Ek/\ ∀(x:Unit),True->YA/\E6 53 z zn (YA/\Q T1 [] 0 z zn)):FnT prog Yi cW Tryz.f5 [Yj N,J.jn,zv now] z [] 0 zn Q:=K1t hyp (tA 2 (Tr.cm (CF N J) Unit Yc gf Ye gf Ye (Yl z) (Ym zn) fun(x:Unit)=>tA 3 (Tr.cm (Cm.mk (FV N J now) [] 0 0 [] [] 2) Unit Yc (Tt e) Ye (fun(x:Unit)=>TP [YM,ZV e]) Ye (Yl z) (Ym zn) fun(x:Unit)=>tA 2 (Tr.cm (CF N J) Unit Yc (Hp e) Ye (PI e) Ye (Yl z) (Ym zn) fun(x:Unit)=>tA 1 (tO kI (tA 5 (YKR z zn)))))))
theorem umc(z:T aa)(zn m:Nat)(N:aq)(J:dz)(now:Int)(φ:da->Prop)(Q:QF)(hyp:Lu z zn N J/\qc N J/\ ∀(x:Unit),True->YA/\aF prog z zn 16 (FV N J now) [] 0 0 Yc (fun(x:Unit)=>TP [iv m,zv 0]) Ye/\PD N J now/\ ∀(x:Unit),True->Rs (TP [IV m,YM])/\bb prog z zn 12 (AL N J) [] 0 0 φ Tu OV ik Ht/\qc N J/\ ∀(x:da),φ x->YKF x/\aF prog (ik x) x.zn 17 [AG [wM x],ZV now] [] 0 0 Yc (Mk m) Ye/\aS Yf [AG [wM x],ZV now]=some [AG [wM x],ZV now]/\ ∀(x_1:Unit),True->Rs (IV m)/\Value.bool ((↑m:Int)==(↑m:Int))=T1/\YKG x/\Ek/\ ∀(x_2:Unit),True->YA/\E6 53 (ik x) x.zn (YA/\Q T1 [] 0 (ik x) x.zn)):FnT prog Yi cW Tryz.f5 [Yj N,J.jn,zv now] z [] 0 zn Q:=K1t hyp (tA 2 (Tr.cm (CF N J) Unit Yc gf Ye gf Ye (Yl z) (Ym zn) fun(x:Unit)=>tA 3 (Tr.cm (Cm.mk (FV N J now) [] 0 0 [] [] 2) Unit Yc (fun(x:Unit)=>TP [iv m,zv 0]) Ye (fun(x:Unit)=>TP [IV m,YM]) Ye (Yl z) (Ym zn) fun(x:Unit)=>tA 2 (Tr.cm (CF N J) da φ Tu OV WG OV ik Ht fun(x:da)=>tA 9 (Tr.cm (Cm.mk [AG [wM x],ZV now] [] 0 0 [] [] 3) Unit Yc (Mk m) Ye (W2 m) Ye (fun(x_1:Unit)=>ik x) (fun(x_1:Unit)=>x.zn) fun(x_1:Unit)=>tA 1 (tO kI (tA 2 (Tr.cm YKQ Unit Yc gf Ye gf Ye (fun(x_2:Unit)=>ik x) (fun(x_2:Unit)=>x.zn) fun(x_2:Unit)=>tA 1 (tR [] [] T1 [] 0 (ik x) x.zn)))))))))
end
end Go.Proofs.Nw
namespace Go.Proofs.Nw
open Go Go.AV Tryz Go.RowKit
set_option maxHeartbeats 1000000
set_option maxRecDepth 100000
section
variable{z:T aa}{zn:Nat}
variable{N:aq}{D:fP}
theorem OE(h6:6<=zn)(hz:aw z zn)(hN:c9 z N D){K:Nat}(hK:6<=K)(hKn:K<zn){G:List ak}{J:dz}(hJ:nk K J.a J.n J.c G.length)(hT:bP z K (G.map ak.row))(now:Int):
 A1 z zn 5 [.agg ⟨N.cells⟩,J.jn,zv now] [] 0 0 T1 []:=by
 have hv:=tj hN hJ.nm
 have hv3:aS (sig []) [.agg ⟨N.cells⟩,J.jn,zv now]=some [.agg ⟨N.cells⟩,J.jn,zv now]:=by
  have:=hJ.nm []
  rw[lO] at this
  exact bM (hN.val []) (bM (g8 this) (cQ rfl))
 have hsz:=uA hz hN hJ.nm
 have hex:=wx hz
 have hjn:=dh hJ
 cases hl:HN N D J.n with
 |false=>
  rw[hl] at hsz
  refine aK1 (bC (zg:=T.leaf)) (fn:=Tryz.f5) hz (N:=100) ?_
  refine uma z zn N J now _ ?_
  (repeat' first|(with_reducible first|exact rfl|assumption|apply And.intro)|intro hq)
  exact q1
 |true=>
  rw[hl] at hsz
  obtain⟨hnp,hn20⟩:=za hl
  have hG:G.length<=1000:=by omega
  have hll:D.paths.length<=10000:=by have:=dh hN.p;omega
  by_cases he:jY N D G=0
  ·have hc:A1 z zn 16 [.agg ⟨N.cells⟩,J.jn,zv now] [] 0 0 (.tuple ⟨[iv (lA D G now),zv 0]⟩) []:=Py hz h6 hN hll hG hJ hT he now
   have hr:=Sn hz (by omega) hN hK hKn hG hJ hT he
   have hlp:=qw D.runs G
   have hqe: ∀s,w6 z zn (oY D.runs G) s->A1 s.z s.zn 17 [.agg ⟨[.slice s.oa s.k s.k]⟩,zv now] [] 0 0 (iv (lA D G now)) []:=fun s hs=>So hs.bN hs.aaK (by omega) now
   have hra: ∀s,w6 z zn (oY D.runs G) s->aS (sig []) [.agg ⟨[.slice s.oa s.k s.k]⟩,zv now]=some [.agg ⟨[.slice s.oa s.k s.k]⟩,zv now]:=fun s hs=>bM (g8 (zO hs)) (cQ rfl)
   have hxs: ∀s,w6 z zn (oY D.runs G) s->A1 s.z s.zn 10 [] [] 0 0 T1 []:=fun s hs=>wx hs.bN
   have e2:Value.bool ((lA D G now:Int)==(lA D G now:Int))=Value.bool true:=by simp
   have key:bb prog z zn 5 [.agg ⟨N.cells⟩,J.jn,zv now] [] 0 0 (fun s:da=>W9 z zn s) (fun _=>T1) (fun _=>[]) (fun s=>s.z) (fun s=>s.zn):=by
    refine dV (bC (zg:=T.leaf)) (fn:=Tryz.f5) (by kernel_rfl) (by kernel_rfl) hz ⟨by decide,by decide⟩ (fun s hs=>⟨rfl,hs.le,hs.bN⟩) (N:=100) ?_
    refine umc z zn (lA D G now) N J now (fun s=>w6 z zn (oY D.runs G) s) _ ?_
    (repeat' first|(with_reducible first|exact rfl|assumption|apply And.intro|exact vT ‹_›|exact w6.bN ‹_›|exact hqe _ ‹_›|exact hra _ ‹_›|exact hxs _ ‹_›)|intro hq)
    all_goals first
     |(rename_i s h1 _ _ _;exact q2 s (zP h1) rfl rfl rfl rfl rfl)
   exact eL key rfl fun s hs=>hs.gK
  ·have hc:=KT hz hN hll hG hJ hT he now
   have hr:=KD hz (by omega) hN hK hKn hG hJ hT he
   have e1:Value.bool (jY N D G !=0)=Value.bool true:=by rw[show(jY N D G !=0)=true by simpa using he]
   have e2:Value.bool (jY N D G==jY N D G)=Value.bool true:=by simp
   refine aK1 (bC (zg:=T.leaf)) (fn:=Tryz.f5) hz (N:=100) ?_
   refine umb z zn N J now (jY N D G) _ ?_
   (repeat' first|(with_reducible first|exact rfl|assumption|apply And.intro)|intro hq)
   all_goals exact q1
end
end Go.Proofs.Nw
