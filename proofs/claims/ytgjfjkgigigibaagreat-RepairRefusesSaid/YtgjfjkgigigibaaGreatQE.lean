/-
  A part of the proof: lemmas of my own.
-/
import Derived.Test.YtgjfjkgigigibaaGreatPF
import Derived.KernelRfl
set_option linter.unusedVariables false
set_option linter.unusedSimpArgs false
namespace Go.Proofs.Nw
open Go Go.AV Tryz
set_option maxRecDepth 1000000
noncomputable section
abbrev Xo(zn:Nat):List (Nat × Value):=[sQ,(3,Yp),qd,(6,SL (tF zn) 1 1),(7,iq)]
noncomputable abbrev PE:Code:=ah (ag f12) 0
abbrev Tz:Live:=j9 an 0
noncomputable abbrev WI(e:Int)(z:T aa)(zn:Nat):Tr:=tA 2 (tE [Y6] [] [qd,(5,ZV e)] [nn] 3 z zn)
theorem ura(z:T aa)(zn K n cp:Nat)(N:aq)(x:ak)(kj:aV)(e:Int)(Q:QL)(hyp:Br (decide (0<(↑n:Int))) (Int.ofNat 0=0/\0<n/\fH K/\fR z K kj/\ai prog kj 62 0=some (AG (xq x))/\aF prog z zn 26 (OW N x) [] 0 0 Yc (rV e) Ye/\WK N x/\ ∀(x_1:Unit),True->xw e/\Br (e !=0) (E6 129 z zn (R2 eP (ZV e) (mU/\Q af.ret [qd,(5,ZV e)] [nn] 3 z zn))) (Value.bool x.bg=F0/\E3 129 (Rf (gb z [(zn,5,BR (xq x) 9 9 62)])/\zn.le (zn+1)/\aw z zn/\zn<=zn/\zn<zn+1/\Rs (BR (xq x) 9 9 62)/\R3 Y3 Yp eP (aP (ay Y7 [(zn,5,BR (xq x) 9 9 62)]) (SL (tF zn) 1 1)=some (SL 5 1 1)/\Rs iq/\K2 (ay Y7 [(zn,5,BR (xq x) 9 9 62)]) (pw N) (sN K n cp) (mU/\Q aN (Xo zn) (PQ N K n cp) 3 (gb z [(zn,5,BR (xq x) 9 9 62)]) (zn+1)))))) (E6 129 z zn (R2 eP Y5 (mU/\Q YO [qd,(6,Y5)] [nn] 3 z zn)))):RdT prog Yi cW PE 129 Tz z [(0,N.box),(1,jB (tb K n cp)),qk] 3 zn 3 Q:=K1t hyp (tA 1 ((tA 2 (tO Lz (tO (OY K kj x) (tA 3 (Tr.cm (XI N x) Unit Yc (rV e) Ye (F4 e) Ye (Yl z) (Ym zn) fun(x_1:Unit)=>(WI e z zn).fork (tA 1 (tO kx (tA 6 (tE Y7 [(zn,5,BR (xq x) 9 9 62)] (Xo zn) (PQ N K n cp) 3 (gb z [(zn,5,BR (xq x) 9 9 62)]) (zn+1)))))))))).fork (tA 1 (tE [Y6] [] [qd,(6,Y5)] [nn] 3 z zn))))
abbrev CG(x:ak)(vd va:Int):List Value:=[Value.bool x.bg,ZV x.run,ZV x.pZ,ZV x.off,ZV x.fz1,ZV x.aB,ZV vd,ZV va,Value.bool x.stay]
theorem urb(z:T aa)(zn K n cp q m c b o:Nat)(N:aq)(x:ak)(kj kr kc:aV)(e vd va:Int)(Q:QL)(hyp:Br (decide (0<(↑n:Int))) (Int.ofNat 0=0/\0<n/\fH K/\fR z K kj/\ai prog kj 62 0=some (AG (xq x))/\aF prog z zn 26 [AG (O1 N),AG (xq x)] [] 0 0 Yc (rV e) Ye/\aS Yf [AG (O1 N),AG (xq x)]=some [AG (O1 N),AG (xq x)]/\ ∀(x_1:Unit),True->xw e/\Br (e !=0) (E6 129 z zn (R2 eP (ZV e) (mU/\Q af.ret [qd,(5,ZV e)] [nn] 3 z zn))) (Value.bool x.bg=T1/\x.run=(↑q:Int)/\q<N.nu/\C1/\C0 z kr/\Ib kr q m c/\x.pZ=(↑b:Int)/\b<m/\Hz q/\Hy z q kc/\Xt kc b vd/\x.run=(↑q:Int)/\q<N.nu/\C1/\C0 z kr/\Ib kr q m c/\x.off=(↑o:Int)/\o<m/\Hz q/\Hy z q kc/\YJG kc o va/\E3 129 (Rf (gb z [(zn,5,BR (CG x vd va) 9 9 62)])/\zn.le (zn+1)/\aw z zn/\zn<=zn/\zn<zn+1/\Rs (BR (CG x vd va) 9 9 62)/\R3 Y3 Yp eP (aP (ay Y7 [(zn,5,BR (CG x vd va) 9 9 62)]) (SL (tF zn) 1 1)=some (SL 5 1 1)/\Rs iq/\K2 (ay Y7 [(zn,5,BR (CG x vd va) 9 9 62)]) (uE N) (sN K n cp) (mU/\Q aN (Xo zn) [(0,uE N),(1,sN K n cp),nn] 3 (gb z [(zn,5,BR (CG x vd va) 9 9 62)]) (zn+1)))))) (E6 129 z zn (R2 eP Y5 (mU/\Q YO [qd,(6,Y5)] [nn] 3 z zn)))):RdT prog Yi cW PE 129 Tz z [(0,N.iw),(1,jB (tb K n cp)),qk] 3 zn 3 Q:=K1t hyp (tA 1 ((tA 2 (tO Lz (tO (OY K kj x) (tA 3 (Tr.cm (Cm.mk [AG (O1 N),AG (xq x)] [] 0 0 [] [] 4) Unit Yc (rV e) Ye (F4 e) Ye (Yl z) (Ym zn) fun(x_1:Unit)=>(WI e z zn).fork (tA 1 (tO kI (tA 3 (tO (bS q) (tO (Ic kr q m c) (tA 1 (tO (bS b) (tO (HA q kc vd) (tA 3 (tO (bS q) (tO (Ic kr q m c) (tA 1 (tO (bS o) (tO (HA q kc va) (tA 4 (tE Y7 [(zn,5,BR (CG x vd va) 9 9 62)] (Xo zn) [(0,uE N),(1,sN K n cp),nn] 3 (gb z [(zn,5,BR (CG x vd va) 9 9 62)]) (zn+1)))))))))))))))))))))).fork (tA 1 (tE [Y6] [] [qd,(6,Y5)] [nn] 3 z zn))))
abbrev Ty(z:T aa)(k zn:Nat)(kb:aV)(x:ak)(pa v2:Int)(i:Nat):T aa:=gb (z.del k) [(zn,5,BR (kb.cells++CG x pa v2) ((i+1)*9) 9 62)]
abbrev Tx(zn:Nat)(kb:aV)(x:ak)(pa v2:Int)(i:Nat):Nat->Option Nat:=ay Y7 [(zn,5,BR (kb.cells++CG x pa v2) ((i+1)*9) 9 62)]
abbrev Xn(zn i:Nat):List (Nat × Value):=[sQ,(3,Yp),qd,(6,OZ zn i),(7,IV (i+1))]
theorem urc(z:T aa)(zn K n cp k i:Nat)(N:aq)(x:ak)(kj kb:aV)(e pa v1 v2:Int)(Q:QL)(hyp:Value.bool (decide ((↑i:Int)<(↑n:Int)))=T1/\cG i/\i<n/\fH K/\fR z K kj/\SJ kj i x/\aF prog z zn 26 (OW N x) [] 0 0 Yc (rV e) Ye/\WK N x/\ ∀(x_1:Unit),True->xw e/\Br (e !=0) (E6 129 z zn (R2 eP (ZV e) (mU/\Q af.ret [qd,(5,ZV e)] [nn] 3 z zn))) (Value.bool x.bg=F0/\Value.bool (decide ((↑i:Int)>0))=T1/\WQ1 ((↑i:Int) - 1)/\(↑i:Int) - 1=(↑(i - 1):Int)/\i - 1<i/\fH k/\fR z k kb/\ai prog kb 3 (0+(i - 1)*9+7)=some (ZV pa)/\WP1 (pa+x.arr) v1/\WP1 (v1 - x.dep) v2/\WQ1 ((↑i:Int) - 1)/\(↑i:Int) - 1=(↑(i - 1):Int)/\i - 1<i/\fH k/\fR z k kb/\ai prog kb 3 (0+(i - 1)*9+7)=some (ZV pa)/\fH k/\fR z k kb/\kb.exact=false/\kb.own=true/\kb.bN=0/\kb.ko=9/\kb.elem=62/\Rs (CG x pa v2)/\Rf i/\kb.cells.length=i*9/\kb.cap=i*9/\i+1<=1048576/\ZV (IntKind.i64.wrap ((↑i:Int)+1))=IV (i+1)/\E3 129 (Rf (Ty z k zn kb x pa v2 i)/\zn.le (zn+1)/\aw (z.del k) zn/\zn<=zn/\zn<zn+1/\KO (Tx zn kb x pa v2 i) (BR (kb.cells++CG x pa v2) ((i+1)*9) 9 62)/\R3 Y3 Yp eP (aP (Tx zn kb x pa v2 i) (OZ zn i)=some (SL 5 (i+1) (i+1))/\Rs (IV (i+1))/\K2 (Tx zn kb x pa v2 i) (pw N) (sN K n cp) (mU/\Q aN (Xn zn i) (PQ N K n cp) 3 (Ty z k zn kb x pa v2 i) (zn+1)))))):RdT prog Yi cW PE 129 (j9 (tb k i i) i) z [(0,N.box),(1,jB (tb K n cp)),qk] 3 zn 3 Q:=K1t hyp (tA 1 (tO kI (tA 2 (tO (bS i) (tO (OY K kj x) (tA 3 (Tr.cm (XI N x) Unit Yc (rV e) Ye (F4 e) Ye (Yl z) (Ym zn) fun(x_1:Unit)=>(WI e z zn).fork (tA 1 (tO kx (tA 1 (tO kI (tA 1 (tO (An.val (ZV ((↑i:Int) - 1))) (tO (SV i) (tO (oX k kb pa) (tA 1 (tO (L4 v1) (tA 1 (tO (L4 v2) (tA 1 (tO (An.val (ZV ((↑i:Int) - 1))) (tO (SV i) (tO (oX k kb pa) (tA 2 (tX (jE.RC k kb 1 (CG x pa v2)) (tO (dI i) (tE Y7 [(zn,5,BR (kb.cells++CG x pa v2) ((i+1)*9) 9 62)] (Xn zn i) (PQ N K n cp) 3 (Ty z k zn kb x pa v2 i) (zn+1))))))))))))))))))))))))))))
theorem urd(z:T aa)(zn K n cp k i q m c b o:Nat)(N:aq)(x:ak)(kj kb kr kc:aV)(e vd va:Int)(Q:QL)(hyp:Value.bool (decide ((↑i:Int)<(↑n:Int)))=T1/\cG i/\i<n/\fH K/\fR z K kj/\SJ kj i x/\aF prog z zn 26 [AG (O1 N),AG (xq x)] [] 0 0 Yc (rV e) Ye/\aS Yf [AG (O1 N),AG (xq x)]=some [AG (O1 N),AG (xq x)]/\ ∀(x_1:Unit),True->xw e/\Br (e !=0) (E6 129 z zn (R2 eP (ZV e) (mU/\Q af.ret [qd,(5,ZV e)] [nn] 3 z zn))) (Value.bool x.bg=T1/\x.run=(↑q:Int)/\q<N.nu/\C1/\C0 z kr/\Ib kr q m c/\x.pZ=(↑b:Int)/\b<m/\Hz q/\Hy z q kc/\Xt kc b vd/\x.run=(↑q:Int)/\q<N.nu/\C1/\C0 z kr/\Ib kr q m c/\x.off=(↑o:Int)/\o<m/\Hz q/\Hy z q kc/\YJG kc o va/\fH k/\fR z k kb/\kb.exact=false/\kb.own=true/\kb.bN=0/\kb.ko=9/\kb.elem=62/\Rs (CG x vd va)/\Rf i/\kb.cells.length=i*9/\kb.cap=i*9/\i+1<=1048576/\ZV (IntKind.i64.wrap ((↑i:Int)+1))=IV (i+1)/\E3 129 (Rf (Ty z k zn kb x vd va i)/\zn.le (zn+1)/\aw (z.del k) zn/\zn<=zn/\zn<zn+1/\KO (Tx zn kb x vd va i) (BR (kb.cells++CG x vd va) ((i+1)*9) 9 62)/\R3 Y3 Yp eP (aP (Tx zn kb x vd va i) (OZ zn i)=some (SL 5 (i+1) (i+1))/\Rs (IV (i+1))/\K2 (Tx zn kb x vd va i) (uE N) (sN K n cp) (mU/\Q aN (Xn zn i) [(0,uE N),(1,sN K n cp),nn] 3 (Ty z k zn kb x vd va i) (zn+1)))))):RdT prog Yi cW PE 129 (j9 (tb k i i) i) z [(0,N.iw),(1,jB (tb K n cp)),qk] 3 zn 3 Q:=K1t hyp (tA 1 (tO kI (tA 2 (tO (bS i) (tO (OY K kj x) (tA 3 (Tr.cm (Cm.mk [AG (O1 N),AG (xq x)] [] 0 0 [] [] 4) Unit Yc (rV e) Ye (F4 e) Ye (Yl z) (Ym zn) fun(x_1:Unit)=>(WI e z zn).fork (tA 1 (tO kI (tA 3 (tO (bS q) (tO (Ic kr q m c) (tA 1 (tO (bS b) (tO (HA q kc vd) (tA 3 (tO (bS q) (tO (Ic kr q m c) (tA 1 (tO (bS o) (tO (HA q kc va) (tA 2 (tX (jE.RC k kb 1 (CG x vd va)) (tO (dI i) (tE Y7 [(zn,5,BR (kb.cells++CG x vd va) ((i+1)*9) 9 62)] (Xn zn i) [(0,uE N),(1,sN K n cp),nn] 3 (Ty z k zn kb x vd va i) (zn+1))))))))))))))))))))))))))
theorem urf(z:T aa)(zn i K n cp:Nat)(N:aq)(V:dz)(x:ak)(kj:aV)(e:Int)(Q:QL)(hyp:Value.bool (decide ((↑i:Int)<(↑n:Int)))=T1/\cG i/\i<n/\fH K/\fR z K kj/\SJ kj i x/\aF prog z zn 26 (OW N x) [] 0 0 Yc (rV e) Ye/\WK N x/\ ∀(x:Unit),True->xw e/\Value.bool (e !=0)=T1/\E6 129 z zn (R2 eP (ZV e) (mU/\Q af.ret [qd,(5,ZV e)] [nn] 3 z zn))):RdT prog Yi cW PE 129 (j9 V.v i) z [(0,N.box),(1,jB (tb K n cp)),qk] 3 zn 3 Q:=K1t hyp (tA 1 (tO kI (tA 2 (tO (bS i) (tO (OY K kj x) (tA 3 (Tr.cm (XI N x) Unit Yc (rV e) Ye (F4 e) Ye (Yl z) (Ym zn) fun(x:Unit)=>tO kI (WI e z zn))))))))
theorem ure(z:T aa)(zn i:Nat)(N:aq)(J V:dz)(Q:QL)(hyp:Value.bool (decide ((↑i:Int)<(↑J.n:Int)))=F0/\E6 129 z zn (Rs eP/\aP (ay [Y6] []) (yS V)=some (yS V)/\mU/\Q YO [qd,(6,yS V)] [nn] 3 z zn)):RdT prog Yi cW PE 129 (j9 V.v i) z (PG N J) 3 zn 3 Q:=K1t hyp (tA 1 (tO kx (tA 1 (tE [Y6] [] [qd,(6,yS V)] [nn] 3 z zn))))
theorem urx(z:T aa)(zn:Nat)(N:aq)(J:dz)(b:Bool)(Q:QF)(hyp:aF prog z zn 20 (Yb N) [] 0 0 Yc (sR b) Ye/\Yg N/\ ∀(x:Unit),True->Rs (fY b)/\(!b)=true/\E6 129 z zn (Rs TA/\Q TA [] 0 z zn)):FnT prog Yi cW f12 [Yj N,J.jn] z [] 0 zn Q:=K1t hyp (tA 1 (Tr.cm (C2 N) Unit Yc (sR b) Ye (sR b) Ye (Yl z) (Ym zn) fun(x:Unit)=>tO bI (tA 1 (tR [] [] TA [] 0 z zn))))
abbrev Tw(z:T aa)(zn:Nat)(N:aq):Prop:=aF prog z zn 20 (Yb N) [] 0 0 Yc gf Ye
theorem ury(z z':T aa)(zn zn':Nat)(N:aq)(J V:dz)(e:Int)(Q:QF)(hyp:Tw z zn N/\Yg N/\ ∀(x:Unit),True->YA/\Y1/\aj prog PE 3 129 Tz (PG N J) 3 z zn (alt (e≠0) (Xp e z' zn') (alt (e=0) (aA.mk YO [(4,ip 2),(6,V.v)] [qk] 3 z' zn') Al.nil)).R/\E6 129 z zn (R5 Y3 Yp eP Y5 YM (K2 Y8 (pw N) (Lr J) (mU/\(∀(x:Unit),e≠0->E6 129 z' zn' (HY e/\Q (L3 e) [] 0 z' zn'))/\ ∀(x:Unit),e=0->Value.bool (decide ((↑V.n:Int)>1))=F0/\E6 129 z' zn' (aP (ay [] []) (TP [AG [yS V],YM])=some (TP [AG [yS V],YM])/\Q (TP [AG [yS V],YM]) [] 0 z' zn'))))):FnT prog Yi cW f12 [Yj N,J.jn] z [] 0 zn Q:=K1t hyp (tA 1 (Tr.cm (C2 N) Unit Yc gf Ye gf Ye (Yl z) (Ym zn) fun(x:Unit)=>tA 1 (Tr.lp 3 129 Y7 [] Tz (PG N J) 3 z zn (Al.cons Unit (Ta e) (fun(x:Unit)=>Xp e z' zn') (fun(x:Unit)=>tR [] [] (L3 e) [] 0 z' zn') (Al.cons Unit (Uu e) (fun(x:Unit)=>aA.mk YO [(4,ip 2),(6,V.v)] [qk] 3 z' zn') (fun(x:Unit)=>tO kx (tA 13 (tR [] [] (TP [AG [yS V],YM]) [] 0 z' zn'))) Al.nil)))))
abbrev YJp(z':T aa)(k:Nat)(cs1:List Value)(kb:aV)(cs2:List Value)(kb1:aV):T aa:=(H3 z' k cs1 kb).set k (aa.az (aV.mk cs2 kb1.cap kb1.ko kb1.elem kb1.exact kb1.whole kb1.bN kb1.own))
theorem urz(z z':T aa)(zn zn' k n:Nat)(N:aq)(J:dz)(x y:ak)(kb kb1:aV)(cs1 cs2:List Value)(v0 v1:Int)(Q:QF)(hyp:Tw z zn N/\Yg N/\ ∀(x_1:Unit),True->YA/\Y1/\aj prog PE 3 129 Tz (PG N J) 3 z zn (alt True (aA.mk YO [(4,ip 2),(6,tb k n n)] [qk] 3 z' zn') Al.nil).R/\E6 129 z zn (R5 Y3 Yp eP Y5 YM (K2 Y8 (pw N) (Lr J) (mU/\ ∀(x_2:Unit),True->Value.bool (decide ((↑n:Int)>1))=T1/\Int.ofNat 0=0/\0<n/\fH k/\fR z' k kb/\ai prog kb 4 0=PF x/\Br (!x.bg) ((!x.bg)=true/\Int.ofNat 1=1/\1<n/\(!x.bg)=true/\(!x.bg)=true/\fH k/\fR z' k kb/\ai prog kb 4 9=PF y/\(!x.bg)=true/\Br y.bg (Int.ofNat 1=1/\1<n/\fH k/\fR z' k kb/\ai prog kb 3 15=some (ZV y.dep)/\Int.ofNat 0=0/\0<n/\fH k/\fR z' k kb/\ai prog kb 3 7=some (ZV x.arr)/\Int.ofNat 0=0/\0<n/\fH k/\fR z' k kb/\ai prog kb 3 6=some (ZV x.dep)/\WP1 (x.arr - x.dep) v0/\WP1 (y.dep - v0) v1/\Int.ofNat 0=0/\0<n/\fH k/\fR z' k kb/\kb.own=true/\kb.bN=0/\overwrite kb.cells 6 [ZV v1]=some cs1/\cs1.length<=kb.cap/\Int.ofNat 1=1/\1<n/\fH k/\(H3 z' k cs1 kb).get k=rM kb1/\ai prog kb1 3 15=some (ZV y.dep)/\Int.ofNat 0=0/\0<n/\fH k/\(H3 z' k cs1 kb).get k=rM kb1/\kb1.own=true/\kb1.bN=0/\overwrite kb1.cells 7 [ZV y.dep]=some cs2/\cs2.length<=kb1.cap/\E6 129 (YJp z' k cs1 kb cs2 kb1) zn' (Rs (AM k n)/\Q (AM k n) [] 0 (YJp z' k cs1 kb cs2 kb1) zn')) (E6 129 z' zn' (Rs (AM k n)/\Q (AM k n) [] 0 z' zn'))) ((!x.bg)=false/\(!x.bg)=false/\(!x.bg)=false/\(!x.bg)=false/\E6 129 z' zn' (Rs (AM k n)/\Q (AM k n) [] 0 z' zn')))))):FnT prog Yi cW f12 [Yj N,J.jn] z [] 0 zn Q:=K1t hyp (tA 1 (Tr.cm (C2 N) Unit Yc gf Ye gf Ye (Yl z) (Ym zn) fun(x_1:Unit)=>tA 1 (Tr.lp 3 129 Y7 [] Tz (PG N J) 3 z zn (Al.cons Unit Yc (fun(x:Unit)=>aA.mk YO [(4,ip 2),(6,tb k n n)] [qk] 3 z' zn') (fun(x_2:Unit)=>tO kI (tA 2 (tO Lz (tA 2 (tO (An.ld k kb (Value.bool x.bg)) (tA 2 ((tO bI (tO SH (tO bI (tO bI (tO (An.ld k kb (Value.bool y.bg)) (tO bI ((tO SH (tO (An.ld k kb (zv y.dep)) (tO Lz (tO (An.ld k kb (zv x.arr)) (tO Lz (tO (An.ld k kb (zv x.dep)) (tO (L4 v0) (tO (L4 v1) (tO Lz (tX (jE.Ph k kb cs1) (tO SH (tO (An.ld k kb1 (zv y.dep)) (tO Lz (tX (jE.Ph k kb1 cs2) (tA 1 (tR [] [] (AM k n) [] 0 (YJp z' k cs1 kb cs2 kb1) zn')))))))))))))))).fork (tA 1 (tR [] [] (AM k n) [] 0 z' zn'))))))))).fork (tO bc (tO bc (tO bc (tO bc (tA 2 (tR [] [] (AM k n) [] 0 z' zn'))))))))))))) Al.nil))))
end
end Go.Proofs.Nw
namespace Go.Proofs.Nw
open Go Go.AV Tryz
set_option maxHeartbeats 1000000
set_option maxRecDepth 100000
structure RR(z:T aa)(zn i K n:Nat)(N:aq)(x:ak)(kj:aV)(e:Int):Prop where
 hz:aw z zn
 hi:i<n
 hn:n<1000000
 k1:z.get K=some (.az kj)
 k2:ai prog kj 62 (0+i*9)=some (.agg ⟨x.row⟩)
 DP: ∀σ,aD (ay σ []) (dB N)=some (dB N)
 GL: ∀(σ:bq)(c:Nat)(o:aa),aD (ay σ [(zn,c,o)]) (dB N)=some (dB N)
 hK:K≠zn
 hc:A1 z zn 26 [.agg ⟨N.cells⟩, .agg ⟨x.row⟩] [] 0 0 (zv e) []
 hv:aS (sig []) [.agg ⟨N.cells⟩, .agg ⟨x.row⟩]=some [.agg ⟨N.cells⟩, .agg ⟨x.row⟩]
section
variable{z:T aa}{zn K n cp kk:Nat}{N:aq}{x p:ak}{kj:aV}{L:List ak}{e:Int}{Q:af->Live->bV->Nat->T aa->Nat->Prop}
theorem IK{i:Nat}{V:dz}(H:RR z zn i K n N x kj e)(he:e≠0)
 (nb:Q .ret [(4,ip 2),(5,zv e)] [(2,jB an)] 3 z zn):
 ∃t,dS prog (fun _ _=>none) (T.leaf:T aa) 100 (ah (ag f12) 0) (nJ 129 (j9 V.v i)) (eC z [(0,dB N),(1,jB (tb K n cp)),(2,jB an)] 3) zn (tQ 3 129 Q) t:=by
 obtain⟨hz,hi,hn,k1,k2,DP,GL,hK,hc,hv⟩:=H
 have c0:Value.bool (decide ((i:Int)<(n:Int)))=Value.bool true:=by rw[decide_eq_true (by omega)]
 have e0:Value.bool (e !=0)=Value.bool true:=by rw[show(e !=0)=true by simpa using he]
 refine urf z zn i K n cp N V x kj e Q ?_
 (repeat' first|(with_reducible first|exact rfl|assumption|apply And.intro)|intro hq)
 all_goals exact nb
theorem QU(H:RR z zn 0 K n N x kj e)(hr:x.bg=false)
 (nb:e≠0->Q .ret [(4,ip 2),(5,zv e)] [(2,jB an)] 3 z zn)
 (nx:e=0->Q .normal (j9 (tb zn 1 1) 1) [(0,dB N),(1,jB (tb K n cp)),(2,jB an)] 3 (z.set zn (qQ x.row 1)) (zn+1)):
 ∃t,dS prog (fun _ _=>none) (T.leaf:T aa) 100 (ah (ag f12) 0) (nJ 129 (j9 an 0)) (eC z [(0,dB N),(1,jB (tb K n cp)),(2,jB an)] 3) zn (tQ 3 129 Q) t:=by
 obtain⟨hz,hi,hn,k1,k2,DP,GL,hK,hc,hv⟩:=H
 have c0:decide ((0:Int)<(n:Int))=true:=by rw[decide_eq_true (by omega)]
 have k2':ai prog kj 62 0=some (.agg ⟨x.row⟩):=k2
 have e0:Value.bool x.bg=Value.bool false:=by rw[hr]
 refine ura z zn K n cp N x kj e Q ⟨fun _=>?_,nC1 c0⟩
 (repeat' first|(with_reducible first|exact rfl|assumption|apply And.intro|exact GL _ _ _|exact uk hK|exact iO|exact UW _|exact Nat.le_refl _|exact Nat.lt_succ_self _)|exact(rfl:Int.ofNat _=_)|intro hq)
 ·exact nb (by simpa using hq)
 ·exact nx (by simpa using hq)
theorem QT{kr kc:aV}{q m c b o:Nat}{vd va:Int}(H:RR z zn 0 K n N x kj e)(hr:x.bg=true)(R:e=0->qg z N x kr kc q m c b o vd va)(B7:N.ua=some ⟨766,0,none⟩)
 (nb:e≠0->Q .ret [(4,ip 2),(5,zv e)] [(2,jB an)] 3 z zn)
 (nx:e=0-> ∀M:ak,M={x with dep:=vd,arr:=va}->Q .normal (j9 (tb zn 1 1) 1) [(0,dB N),(1,jB (tb K n cp)),(2,jB an)] 3 (z.set zn (qQ M.row 1)) (zn+1)):
 ∃t,dS prog (fun _ _=>none) (T.leaf:T aa) 100 (ah (ag f12) 0) (nJ 129 (j9 an 0)) (eC z [(0,dB N),(1,jB (tb K n cp)),(2,jB an)] 3) zn (tQ 3 129 Q) t:=by
 obtain⟨hz,hi,hn,k1,k2,DP,GL,hK,hc,hv⟩:=H
 have c0:decide ((0:Int)<(n:Int))=true:=by rw[decide_eq_true (by omega)]
 have k2':ai prog kj 62 0=some (.agg ⟨x.row⟩):=k2
 have e0:Value.bool x.bg=Value.bool true:=by rw[hr]
 obtain⟨sa,ns,sc,ra,nr,rc,ua,nu,uc,la,nl,lc,pa,np,pc,fa,nf,fc,d,w',c'⟩:=N
 simp only at B7
 subst B7
 have R':(e !=0)=false->qg z _ x kr kc q m c b o vd va:=fun h=>R (by simpa using h)
 refine urb z zn K n cp q m c b o ⟨sa,ns,sc,ra,nr,rc,some ⟨766,0,none⟩,nu,uc,la,nl,lc,pa,np,pc,fa,nf,fc,d,w',c'⟩ x kj kr kc e vd va Q ⟨fun _=>?_,nC1 c0⟩
 (repeat' first|(with_reducible first|exact rfl|assumption|apply And.intro|exact GL _ _ _|exact uk hK|exact iO|exact UW _|exact Nat.le_refl _|exact Nat.lt_succ_self _|exact(R' ‹_›).hq|exact(R' ‹_›).Tk|exact(R' ‹_›).g1|exact(R' ‹_›).g2|exact(R' ‹_›).hb|exact(R' ‹_›).Xg|exact(R' ‹_›).ho|exact(R' ‹_›).Ft|exact(R' ‹_›).g3|exact(R' ‹_›).g4|exact(R' ‹_›).g5)|exact(rfl:Int.ofNat _=_)|intro hq)
 all_goals first
  |exact nb (by simpa using hq)
  |exact nx (by simpa using hq) _ rfl
theorem QS(H:RR z zn L.length K n N x kj e)(h0:0<L.length)(hr:x.bg=false)
 (v6:z.get kk=some (qQ (L.map ak.row).flatten L.length)) (hp:L.getLast? =some p)
 (nb:e≠0->Q .ret [(4,ip 2),(5,zv e)] [(2,jB an)] 3 z zn)
 (nx:e=0-> ∀M:ak,M={x with arr:=wr (wr (p.arr+x.arr) - x.dep),dep:=p.arr}->Q .normal (j9 (tb zn (L.length+1) (L.length+1)) (L.length+1)) [(0,dB N),(1,jB (tb K n cp)),(2,jB an)] 3 ((z.del kk).set zn (qQ ((L.map ak.row).flatten++M.row) (L.length+1))) (zn+1)):
 ∃t,dS prog (fun _ _=>none) (T.leaf:T aa) 100 (ah (ag f12) 0) (nJ 129 (j9 (tb kk L.length L.length) L.length)) (eC z [(0,dB N),(1,jB (tb K n cp)),(2,jB an)] 3) zn (tQ 3 129 Q) t:=by
 obtain⟨hz,hi,hn,k1,k2,DP,GL,hK,hc,hv⟩:=H
 have c0:Value.bool (decide ((L.length:Int)<(n:Int)))=Value.bool true:=by rw[decide_eq_true (by omega)]
 have c1:Value.bool (decide ((L.length:Int)>0))=Value.bool true:=by rw[decide_eq_true (by omega)]
 have e0:Value.bool x.bg=Value.bool false:=by rw[hr]
 obtain⟨p1,p2⟩:=NT (r:=L.length - 1) (by omega) hp
 have hr1:((L.length:Nat):Int) - 1=((L.length - 1:Nat):Int):=by omega
 have hw1:Value.int .i64 (IntKind.i64.wrap ((L.length:Int) - 1))=Value.int .i64 ((L.length:Int) - 1):=gV (by omega) (by omega)
 have w:=bH (n:=L.length) (by omega)
 have hln:=nO L
 have hl1:L.length - 1<L.length:=by omega
 have hmx:L.length+1<=1048576:=by omega
 refine urc z zn K n cp kk L.length N x kj ⟨(L.map ak.row).flatten,L.length*9,9,62,false,false,0,true⟩ e p.arr (wr (p.arr+x.arr)) (wr (wr (p.arr+x.arr) - x.dep)) Q ?_
 (repeat' first|(with_reducible first|exact rfl|assumption|apply And.intro|exact GL _ _ _|exact uk hK|exact iO|exact IM L ⟨x.bg,x.run,x.pZ,x.off,x.fz1,x.aB,p.arr,wr (wr (p.arr+x.arr) - x.dep),x.stay⟩ _|exact lV hz _|exact UW _|exact Nat.le_refl _|exact Nat.lt_succ_self _)|intro hq)
 all_goals first
  |exact nb (by simpa using hq)
  |exact nx (by simpa using hq) _ rfl
theorem QR{kr kc:aV}{q m c b o:Nat}{vd va:Int}(H:RR z zn L.length K n N x kj e)(hr:x.bg=true)(R:e=0->qg z N x kr kc q m c b o vd va)(B7:N.ua=some ⟨766,0,none⟩)
 (v6:z.get kk=some (qQ (L.map ak.row).flatten L.length))
 (nb:e≠0->Q .ret [(4,ip 2),(5,zv e)] [(2,jB an)] 3 z zn)
 (nx:e=0-> ∀M:ak,M={x with dep:=vd,arr:=va}->Q .normal (j9 (tb zn (L.length+1) (L.length+1)) (L.length+1)) [(0,dB N),(1,jB (tb K n cp)),(2,jB an)] 3 ((z.del kk).set zn (qQ ((L.map ak.row).flatten++M.row) (L.length+1))) (zn+1)):
 ∃t,dS prog (fun _ _=>none) (T.leaf:T aa) 100 (ah (ag f12) 0) (nJ 129 (j9 (tb kk L.length L.length) L.length)) (eC z [(0,dB N),(1,jB (tb K n cp)),(2,jB an)] 3) zn (tQ 3 129 Q) t:=by
 obtain⟨hz,hi,hn,k1,k2,DP,GL,hK,hc,hv⟩:=H
 have c0:Value.bool (decide ((L.length:Int)<(n:Int)))=Value.bool true:=by rw[decide_eq_true (by omega)]
 have e0:Value.bool x.bg=Value.bool true:=by rw[hr]
 have w:=bH (n:=L.length) (by omega)
 have hln:=nO L
 have hmx:L.length+1<=1048576:=by omega
 obtain⟨sa,ns,sc,ra,nr,rc,ua,nu,uc,la,nl,lc,pa,np,pc,fa,nf,fc,d,w',c'⟩:=N
 simp only at B7
 subst B7
 have R':(e !=0)=false->qg z _ x kr kc q m c b o vd va:=fun h=>R (by simpa using h)
 refine urd z zn K n cp kk L.length q m c b o ⟨sa,ns,sc,ra,nr,rc,some ⟨766,0,none⟩,nu,uc,la,nl,lc,pa,np,pc,fa,nf,fc,d,w',c'⟩ x kj ⟨(L.map ak.row).flatten,L.length*9,9,62,false,false,0,true⟩ kr kc e vd va Q ?_
 (repeat' first|(with_reducible first|exact rfl|assumption|apply And.intro|exact GL _ _ _|exact uk hK|exact iO|exact IM L ⟨x.bg,x.run,x.pZ,x.off,x.fz1,x.aB,vd,va,x.stay⟩ _|exact lV hz _|exact UW _|exact Nat.le_refl _|exact Nat.lt_succ_self _|exact(R' ‹_›).hq|exact(R' ‹_›).Tk|exact(R' ‹_›).g1|exact(R' ‹_›).g2|exact(R' ‹_›).hb|exact(R' ‹_›).Xg|exact(R' ‹_›).ho|exact(R' ‹_›).Ft|exact(R' ‹_›).g3|exact(R' ‹_›).g4|exact(R' ‹_›).g5)|intro hq)
 all_goals first
  |exact nb (by simpa using hq)
  |exact nx (by simpa using hq) _ rfl
end
def zR(z:T aa)(zn:Nat)(f:Nat->List Value):Nat->T aa
 |0=>z
 |1=>z.set zn (qQ (f 1) 1)
 |i+2=>((zR z zn f (i+1)).del (zn+i)).set (zn+i+1) (qQ (f (i+2)) (i+2))
def vJ(zn:Nat):Nat->dz
 |0=>⟨none,0,0⟩
 |j+1=>⟨some ⟨256*(zn+j)+510,0,none⟩,j+1,j+1⟩
abbrev qx(U:List RunT)(G:List ak)(i:Nat):List Value:=((uY U G i).map ak.row).flatten
section
variable{z:T aa}{zn:Nat}
theorem AS(hz:aw z zn){f:Nat->List Value}(hp: ∀i,bJ (f i)=true): ∀i,aw (zR z zn f i) (zn+i)/\(∀k,k<zn->(zR z zn f i).get k=z.get k)/\ ∀j,i=j+1->(zR z zn f i).get (zn+j)=some (qQ (f i) i)
 |0=>⟨hz,fun _ _=>rfl,fun j h=>by cases h⟩
 |1=>⟨dL hz (hp 1),fun k hk=>by
   show(z.set zn _).get k=_
   rw[T.aH,if_neg (by omega)],fun j h=>by
   have:j=0:=by omega
   subst this
   show(z.set zn _).get zn=_
   rw[T.aH,if_pos rfl]⟩
 |i+2=>by
  obtain⟨h1,h2,h3⟩:=AS hz hp (i+1)
  refine⟨dL (lV h1 _) (hp (i+2)),fun k hk=>?_,fun j h=>?_⟩
  ·show(((zR z zn f (i+1)).del (zn+i)).set (zn+i+1) _).get k=_
   rw[T.aH,if_neg (by omega),T.fC,if_neg (by omega)]
   exact h2 k hk
  ·have:j=i+1:=by omega
   subst this
   show(((zR z zn f (i+1)).del (zn+i)).set (zn+i+1) _).get (zn+i+1)=_
   rw[T.aH,if_pos rfl]
theorem Ip(i:Nat)(σ:bq):aP (ay σ []) (vJ zn i).v=some (vJ zn i).v:=by
 cases i with
 |zero=>rfl
 |succ i=>exact lq σ _ _ _
variable{N:aq}{D:fP}
theorem Fj(hz:aw z zn)(hN:c9 z N D)(hU:fy D.runs){K:Nat}(hK:6<=K)(hKn:K<zn){G:List ak}(hG:G.length<=1000){J:dz}(hJ:nk K J.a J.n J.c G.length)(hT:bP z K (G.map ak.row))(r:Int × Int)(hr:scan (fW D.runs G) G.length 0=r)(m:Nat)(hm:(r.2=0->m=G.length)/\(r.2≠0->m=r.1.toNat)):
 aj prog (ah (ag f12) 0) 3 129 (j9 an 0) [(0,N.box),(1,jB J.v),(2,jB an)] 3 z zn (Al.R (Ni z (zR z zn (qx D.runs G) m) zn (zn+m) N J (vJ zn G.length).v r.2).l):=by
 refine ax hD (bC (zg:=T.leaf)) (α:=Nat) 3 129 3 (fun i=>i<=G.length/\scan (fW D.runs G) (G.length - i) i=r) (fun i=>j9 (vJ zn i).v i) (fun _=>[(0,N.box),(1,jB J.v),(2,jB an)]) (fun i=>zR z zn (qx D.runs G) i) (fun i=>zn+i) (fun i=>G.length - i) _ (fun i hI=>?_) 0 ⟨Nat.zero_le _,hr⟩
 obtain⟨h1,h2⟩:=hI
 obtain⟨f1,f2,f3⟩:=AS hz (f:=qx D.runs G) (fun i=>db _) i
 have hNs:=hN.VH hz f2
 have hTs:=dw hT hz f2
 have hb: ∀σ,aD (ay σ []) (dB N)=some (dB N):=hN.box
 have GL: ∀(σ:bq)(c:Nat)(o:aa),aD (ay σ [(zn+i,c,o)]) (dB N)=some (dB N):=fun σ c o=>hN.Wx (by omega) σ
 have hJr:=hJ.nm
 have hjb:=nQ hJr
 have hjn:=dh hJ
 by_cases hi:i<G.length
 ·obtain⟨x,hx⟩:=dm hi
  have ha:=ny hJ (by omega)
  obtain⟨ja,jn,jc⟩:=J
  simp only at ha hjn hJr hjb
  subst ha hjn
  obtain⟨kl,k1,k2,_,_⟩:=JM hTs hx
  have hc:=Wv f1 hNs hU x
  have hv:aS (sig []) [.agg ⟨N.cells⟩, .agg ⟨x.row⟩]=some [.agg ⟨N.cells⟩, .agg ⟨x.row⟩]:=bM (hN.val []) rfl
  have H:RR (zR z zn (qx D.runs G) i) (zn+i) i K G.length N x kl (eI D.runs x):=⟨f1,hi,by omega,k1,k2,hb,GL,by omega,hc,hv⟩
  have nb:eI D.runs x≠0->Al.R (Ni z (zR z zn (qx D.runs G) m) zn (zn+m) N ⟨some ⟨256*K+510,0,none⟩,G.length,jc⟩ (vJ zn G.length).v r.2).l ⟨.ret,[(4,ip 2),(5,zv (eI D.runs x))],[(2,jB an)],3,zR z zn (qx D.runs G) i,zn+i⟩:=fun h=>by
   have he:fW D.runs G i=some (eI D.runs x):=by
    unfold fW;rw[hx];exact if_neg h
   have e:r=((i:Int),eI D.runs x):=by rw[←h2,cZ hi he]
   have hmi:m=i:=by
    have:=hm.2 (by rw[e];exact h)
    rw[e] at this
    simpa using this
   rw[hmi,e]
   exact bh h
  have next:eI D.runs x=0->i+1<=G.length/\scan (fW D.runs G) (G.length - (i+1)) (i+1)=r:=fun h=>by
   have he:fW D.runs G i=none:=by
    unfold fW;rw[hx];exact if_pos h
   exact⟨hi,by rw[←h2,cI hi he]⟩
  have bg:x.bg=true->eI D.runs x=0->jd D.runs x=true:=fun h1 h=>by
   rw[uZ h1] at h
   cases he:jd D.runs x with
   |true=>rfl
   |false=>rw[he] at h;cases h
  cases i with
  |zero=>
   have nx: ∀M:ak,eI D.runs x=0->jr (pX D.runs) (qb D.runs) G 0=M->au (fun i=>i<=G.length/\scan (fW D.runs G) (G.length - i) i=r) (fun i=>j9 (vJ zn i).v i) (fun _=>[(0,N.box),(1,jB (tb K G.length jc)),(2,jB an)]) 3 (fun i=>zR z zn (qx D.runs G) i) (fun i=>zn+i) (fun i=>G.length - i) (Al.R (Ni z (zR z zn (qx D.runs G) m) zn (zn+m) N ⟨some ⟨256*K+510,0,none⟩,G.length,jc⟩ (vJ zn G.length).v r.2).l) 0 .normal (j9 (tb (zn+0) 1 1) 1) [(0,dB N),(1,jB (tb K G.length jc)),(2,jB an)] 3 ((zR z zn (qx D.runs G) 0).set (zn+0) (qQ M.row 1)) (zn+0+1):=fun M h hM=>by
    refine⟨1,rfl,rfl,rfl,?_,rfl,next h,by show G.length - (0+1)<G.length - 0;omega⟩
    have:qx D.runs G 1=M.row:=by
     show((uY D.runs G 1).map ak.row).flatten=_
     rw[uX,hM]
     show([M].map ak.row).flatten=_
     simp
    show _=z.set zn (qQ (qx D.runs G 1) 1)
    rw[this];rfl
   cases hrx:x.bg with
   |true=>
    by_cases h0:eI D.runs x=0
    ·obtain⟨kr,kc,q,m',c,b,o,R⟩:=ui hNs hU (bg hrx h0)
     refine t100 (QT H hrx (fun _=>R) R.B7 nb fun h M hM=>nx M h ?_)
     subst hM
     unfold jr;rw[lU hx,if_pos hrx]
    ·exact(fun⟨t,ht⟩=>⟨100,t,ht⟩) (IK (V:=⟨none,0,0⟩) H h0 (nb h0))
   |false=>
    refine t100 (QU H hrx nb fun h=>nx x h ?_)
    unfold jr;rw[lU hx,if_neg (by rw[hrx];decide)]
  |succ j=>
   have v6:=f3 j rfl
   have hL:=zh D.runs G (j+1)
   have hp:=ID D.runs G j
   have nx: ∀M:ak,eI D.runs x=0->jr (pX D.runs) (qb D.runs) G (j+1)=M->au (fun i=>i<=G.length/\scan (fW D.runs G) (G.length - i) i=r) (fun i=>j9 (vJ zn i).v i) (fun _=>[(0,N.box),(1,jB (tb K G.length jc)),(2,jB an)]) 3 (fun i=>zR z zn (qx D.runs G) i) (fun i=>zn+i) (fun i=>G.length - i) (Al.R (Ni z (zR z zn (qx D.runs G) m) zn (zn+m) N ⟨some ⟨256*K+510,0,none⟩,G.length,jc⟩ (vJ zn G.length).v r.2).l) (j+1) .normal (j9 (tb (zn+(j+1)) (j+1+1) (j+1+1)) (j+1+1)) [(0,dB N),(1,jB (tb K G.length jc)),(2,jB an)] 3 (((zR z zn (qx D.runs G) (j+1)).del (zn+j)).set (zn+(j+1)) (qQ (((uY D.runs G (j+1)).map ak.row).flatten++M.row) (j+1+1))) (zn+(j+1)+1):=fun M h hM=>by
    refine⟨j+1+1,rfl,rfl,rfl,?_,rfl,next h,by show G.length - (j+1+1)<G.length - (j+1);omega⟩
    rw[yl,←hM,←uX];rfl
   have H':RR (zR z zn (qx D.runs G) (j+1)) (zn+(j+1)) (uY D.runs G (j+1)).length K G.length N x kl (eI D.runs x):=by rw[hL];exact H
   have v6':(zR z zn (qx D.runs G) (j+1)).get (zn+j)=some (qQ ((uY D.runs G (j+1)).map ak.row).flatten (uY D.runs G (j+1)).length):=by rw[hL];exact v6
   cases hrx:x.bg with
   |true=>
    by_cases h0:eI D.runs x=0
    ·obtain⟨kr,kc,q,m',c,b,o,R⟩:=ui hNs hU (bg hrx h0)
     have:=QR (cp:=jc) H' hrx (fun _=>R) R.B7 v6' nb fun h M hM=>by
      rw[hL]
      refine nx M h ?_
      subst hM
      unfold jr;rw[lU hx,if_pos hrx]
     rw[hL] at this
     exact(fun⟨t,ht⟩=>⟨100,t,ht⟩) this
    ·exact(fun⟨t,ht⟩=>⟨100,t,ht⟩) (IK (V:=⟨some ⟨256*(zn+j)+510,0,none⟩,j+1,j+1⟩) H h0 (nb h0))
   |false=>
    have:=QS (cp:=jc) H' (by omega) hrx v6' hp nb fun h M hM=>by
     rw[hL]
     refine nx M h ?_
     subst hM
     show(if _ then _ else _)=_
     rw[lU hx,if_neg (by rw[hrx];decide)]
    rw[hL] at this
    exact(fun⟨t,ht⟩=>⟨100,t,ht⟩) this
 ·have hig:i=G.length:=by omega
  subst hig
  have hc:Value.bool (decide ((G.length:Int)<(J.n:Int)))=Value.bool false:=by rw[decide_eq_false (by omega)]
  have hr0:r.2=0:=by rw[←h2,Nat.sub_self];rfl
  have hmG:=hm.1 hr0
  subst hmG
  have hvr: ∀σ,aP (ay σ []) (.slice (vJ zn G.length).a (vJ zn G.length).n (vJ zn G.length).c)=some (.slice (vJ zn G.length).a (vJ zn G.length).n (vJ zn G.length).c):=fun σ=>Ip _ σ
  refine t100 (ure (zR z zn (qx D.runs G) G.length) (zn+G.length) G.length N J (vJ zn G.length) (au _ _ _ _ _ _ _ _ _) ?_)
  (repeat' first|(with_reducible first|exact rfl|assumption|apply And.intro|exact hvr _))
  exact c8 (bh hr0)
theorem KD(hz:aw z zn)(h5:5<=zn)(hN:c9 z N D){K:Nat}(hK:6<=K)(hKn:K<zn){G:List ak}(hG:G.length<=1000){J:dz}(hJ:nk K J.a J.n J.c G.length)(hT:bP z K (G.map ak.row))(he:jY N D G≠0):
 A1 z zn 12 [.agg ⟨N.cells⟩,J.jn] [] 0 0 (.tuple ⟨[.agg ⟨[an]⟩,zv (jY N D G)]⟩) []:=by
 have hc:=uz hz h5 hN
 have hv:=jx (hN.val [])
 have hb: ∀σ,aD (ay σ []) (dB N)=some (dB N):=hN.box
 have hJr:=hJ.nm
 have hjb:=nQ hJr
 rcases qS N D G with ⟨h1,h2⟩|⟨h1,h2⟩
 ·rw[show((bB N D).2.2==0)=false by simpa using h1] at hc
  rw[h2]
  refine aK1 (bC (zg:=T.leaf)) (fn:=f12) hz (N:=100) ?_
  refine urx z zn N J false _ ?_
  (repeat' first|(with_reducible first|exact rfl|assumption|apply And.intro)|exact(rfl:(!false)=true)|intro hq)
  exact q1
 ·have hc:A1 z zn 20 [.agg ⟨N.cells⟩] [] 0 0 T1 []:=by rw[h1] at hc;exact hc
  rw[h2] at he ⊢
  have hl:=Fj hz hN (jS (kK h1).2.2) hK hKn hG hJ hT _ rfl (scan (fW D.runs G) G.length 0).1.toNat ⟨fun h=>(he h).elim,fun _=>rfl⟩
  obtain⟨f1,f2,_⟩:=AS hz (f:=qx D.runs G) (fun i=>db _) (scan (fW D.runs G) G.length 0).1.toNat
  have key:bb prog z zn 12 [.agg ⟨N.cells⟩,J.jn] [] 0 0 (fun _:Unit=>True) (fun _=> .tuple ⟨[.agg ⟨[an]⟩,zv (scan (fW D.runs G) G.length 0).2]⟩) (fun _=>[]) (fun _=>zR z zn (qx D.runs G) (scan (fW D.runs G) G.length 0).1.toNat) (fun _=>zn+(scan (fW D.runs G) G.length 0).1.toNat):=by
   refine dV (bC (zg:=T.leaf)) (fn:=f12) (by kernel_rfl) (by kernel_rfl) hz ⟨by decide,by decide⟩ (fun s hs=>⟨rfl,Nat.le_add_right _ _,f1⟩) (N:=100) ?_
   refine ury z (zR z zn (qx D.runs G) (scan (fW D.runs G) G.length 0).1.toNat) zn (zn+(scan (fW D.runs G) G.length 0).1.toNat) N J (vJ zn G.length) (scan (fW D.runs G) G.length 0).2 _ ?_
   (repeat' first|(with_reducible first|exact rfl|assumption|apply And.intro|exact hjb _|exact hb _)|exact hl|exact(he (by with_reducible assumption)).elim|intro hq)
   all_goals exact q2 () True.intro rfl rfl rfl rfl rfl
  exact eL key rfl fun s hs=>f2
theorem Rv(hz:aw z zn)(U:List RunT)(G:List ak)(n:Nat):w6 z zn (uY U G n) ⟨(vJ zn n).a,(vJ zn n).n,zR z zn (qx U G) n,zn+n⟩:=by
 obtain⟨f1,f2,f3⟩:=AS hz (f:=qx U G) (fun i=>db _) n
 have hl:=zh U G n
 refine⟨f1,Nat.le_add_right _ _,f2,?_⟩
 cases n with
 |zero=>exact .inl ⟨rfl,rfl,rfl⟩
 |succ j=>
  refine .inr ⟨fun h=>by rw[h] at hl;simp at hl,zn+j,Nat.le_add_right _ _,by show zn+j<zn+(j+1);omega,rfl,hl.symm,?_⟩
  rw[hl]
  exact f3 j rfl
theorem Dx{M:List ak}(h:M.length<=1):Nb M=M:=by
 match M,h with
 |[],_=>rfl
 |[a],_=>rfl
 |a::b::r,h=>simp at h
theorem Sn(hz:aw z zn)(h5:5<=zn)(hN:c9 z N D){K:Nat}(hK:6<=K)(hKn:K<zn){G:List ak}(hG:G.length<=1000){J:dz}(hJ:nk K J.a J.n J.c G.length)(hT:bP z K (G.map ak.row))(he:jY N D G=0):
 bb prog z zn 12 [.agg ⟨N.cells⟩,J.jn] [] 0 0 (fun s:da=>w6 z zn (oY D.runs G) s) (fun s=> .tuple ⟨[.agg ⟨[s.v]⟩,I 0]⟩) (fun _=>[]) (fun s=>s.z) (fun s=>s.zn):=by
 have hc:=uz hz h5 hN
 have hv:=jx (hN.val [])
 have hb: ∀σ,aD (ay σ []) (dB N)=some (dB N):=hN.box
 have hJr:=hJ.nm
 have hjb:=nQ hJr
 rcases qS N D G with ⟨h1,h2⟩|⟨h1,h2⟩
 ·rw[he] at h2;cases h2
 rw[h2] at he
 have hc:A1 z zn 20 [.agg ⟨N.cells⟩] [] 0 0 T1 []:=by rw[h1] at hc;exact hc
 have hl:=Fj hz hN (jS (kK h1).2.2) hK hKn hG hJ hT _ rfl G.length ⟨fun _=>rfl,fun h=>(h he).elim⟩
 rw[he] at hl
 have hI:=Rv hz D.runs G G.length
 have f1:=hI.bN
 have hln:=zh D.runs G G.length
 refine dV (bC (zg:=T.leaf)) (fn:=f12) (by kernel_rfl) (by kernel_rfl) hz ⟨by decide,by decide⟩ (fun s hs=>⟨rfl,hs.le,hs.bN⟩) (N:=100) ?_
 by_cases h2l:G.length<=1
 ·have hP:oY D.runs G=uY D.runs G G.length:=by
   show vS _ _ _=_
   rw[BZ,Dx]
   show(uY D.runs G G.length).length<=1
   omega
  have e1:Value.bool (decide (((vJ zn G.length).n:Int)>1))=Value.bool false:=by
   have:(vJ zn G.length).n=G.length:=by cases G.length<;>rfl
   rw[this,decide_eq_false (by omega)]
  have hvr:aP (ay [] []) (.tuple ⟨[.agg ⟨[.slice (vJ zn G.length).a (vJ zn G.length).n (vJ zn G.length).c]⟩,I 0]⟩)=some (.tuple ⟨[.agg ⟨[.slice (vJ zn G.length).a (vJ zn G.length).n (vJ zn G.length).c]⟩,I 0]⟩):=by
   have:=bM (g8 (Ip (zn:=zn) G.length [])) (rfl:aS (ay [] []) [I 0]=some [I 0])
   simp only[aP,this]
  refine ury z (zR z zn (qx D.runs G) G.length) zn (zn+G.length) N J (vJ zn G.length) 0 _ ?_
  (repeat' first|(with_reducible first|exact rfl|assumption|apply And.intro|exact hjb _|exact hb _)|exact hl|exact absurd rfl (by with_reducible assumption:(0:Int)≠0)|intro hq)
  refine q2 _ (hP ▸ hI) rfl ?_ rfl rfl rfl
  show(Value.tuple ⟨[.agg ⟨[(vJ zn G.length).v]⟩,I 0]⟩)= .tuple ⟨[.agg ⟨[.slice (vJ zn G.length).a (vJ zn G.length).n (vJ zn G.length).n]⟩,I 0]⟩
  cases G.length<;>rfl
 ·obtain⟨j,hj⟩: ∃j,G.length=j+1+1:=⟨G.length - 2,by omega⟩
  rw[hj] at hl hI f1 hln
  obtain⟨x,hx⟩:=dm (l:=uY D.runs G (j+1+1)) (i:=0) (by omega)
  obtain⟨y,hy⟩:=dm (l:=uY D.runs G (j+1+1)) (i:=1) (by omega)
  have hM: ∃r,uY D.runs G (j+1+1)=x::y::r:=by
   match hR:uY D.runs G (j+1+1),hln with
   |[],h=>simp at h
   |[a],h=>simp at h
   |a::b::r,h=>
    rw[hR] at hx hy
    simp at hx hy
    subst hx hy
    exact⟨r,rfl⟩
  obtain⟨r,hR⟩:=hM
  have hP:oY D.runs G=Nb (uY D.runs G (j+1+1)):=by
   show vS _ _ _=_
   rw[BZ,hj]
  have hg:(zR z zn (qx D.runs G) (j+1+1)).get (zn+(j+1))=some (.az ⟨((uY D.runs G (j+1+1)).map ak.row).flatten,(j+1+1)*9,9,62,false,false,0,true⟩):=
   (AS hz (f:=qx D.runs G) (fun i=>db _) (j+1+1)).2.2 (j+1) rfl
  have hI':w6 z zn (uY D.runs G (j+1+1)) ⟨some ⟨256*(zn+(j+1))+510,0,none⟩,j+1+1,zR z zn (qx D.runs G) (j+1+1),zn+(j+1+1)⟩:=hI
  have hl':aj prog (ah (ag f12) 0) 3 129 (j9 an 0) [(0,N.box),(1,jB J.v),(2,jB an)] 3 z zn (Al.R (U0 z (zR z zn (qx D.runs G) (j+1+1)) zn (zn+(j+1+1)) N J (tb (zn+(j+1)) (j+1+1) (j+1+1))).l):=iI hl fun o ho=>by
   rcases ho with ⟨_,h,_⟩|⟨_,_,rfl⟩|h
   ·exact(h rfl).elim
   ·exact .inl ⟨(),trivial,rfl⟩
   ·exact h.elim
  have f1':aw (zR z zn (qx D.runs G) (j+1+1)) (zn+(j+1+1)):=f1
  clear hl hI f1
  generalize uY D.runs G (j+1+1)=L at*
  generalize zR z zn (qx D.runs G) (j+1+1)=z' at*
  have kk:zn+(j+1)<zn+(j+1+1):=by omega
  have c1:Value.bool (decide (((j+1+1:Nat):Int)>1))=Value.bool true:=by rw[decide_eq_true (by omega)]
  have l0:0<j+1+1:=by omega
  have l1:1<j+1+1:=by omega
  let kb:aV:=⟨(L.map ak.row).flatten,(j+1+1)*9,9,62,false,false,0,true⟩
  have rx:=kS (B:=kb) hx rfl
  have ry:=kS (B:=kb) hy rfl
  have x0:ai prog kb 4 0=some (.bool x.bg):=rx.bg
  have x6:ai prog kb 3 6=some (zv x.dep):=rx.dep
  have x7:ai prog kb 3 7=some (zv x.arr):=rx.arr
  have y0:ai prog kb 4 9=some (.bool y.bg):=ry.bg
  have y6:ai prog kb 3 15=some (zv y.dep):=ry.dep
  let M1:ak:={x with dep:=wr (y.dep - wr (x.arr - x.dep))}
  let M2:ak:={x with dep:=wr (y.dep - wr (x.arr - x.dep)),arr:=y.dep}
  let kb1:aV:=⟨((L.set 0 M1).map ak.row).flatten,(j+1+1)*9,9,62,false,false,0,true⟩
  let kb2:aV:=⟨((L.set 0 M2).map ak.row).flatten,(j+1+1)*9,9,62,false,false,0,true⟩
  have o1:overwrite kb.cells 6 [zv (wr (y.dep - wr (x.arr - x.dep)))]=some ((L.set 0 M1).map ak.row).flatten:=iU (j:=6) hx _ (by decide) rfl
  have hy1:(L.set 0 M1)[1]? =some y:=by rw[List.getElem?_set_ne (by decide)];exact hy
  have y6':ai prog kb1 3 15=some (zv y.dep):=(kS (B:=kb1) hy1 rfl).dep
  have o2:overwrite kb1.cells 7 [zv y.dep]=some ((L.set 0 M2).map ak.row).flatten:=by
   have:=iU (gL hx M1) (y:=M2) (j:=7) (zv y.dep) (by decide) rfl
   rw[oA] at this
   exact this
  have b1:((L.set 0 M1).map ak.row).flatten.length<=kb.cap:=eo hln M1
  have b2:((L.set 0 M2).map ak.row).flatten.length<=kb1.cap:=eo hln M2
  have g1:(z'.set (zn+(j+1)) (.az kb1)).get (zn+(j+1))=some (.az kb1):=by rw[T.aH,if_pos rfl]
  have f2:aw ((z'.set (zn+(j+1)) (.az kb1)).set (zn+(j+1)) (.az kb2)) (zn+(j+1+1)):=qU (qU f1' kk fun σ _=>cA (db _)) kk fun σ _=>cA (db _)
  have m1:x.bg=false->y.bg=true->oY D.runs G=L.set 0 M2:=fun h1 h2=>by
   rw[hP,hR]
   show(if x.bg=false/\y.bg=true then _ else _)=_
   rw[if_pos ⟨h1,h2⟩];rfl
  have m2: ¬(x.bg=false/\y.bg=true)->oY D.runs G=L:=fun h=>by
   rw[hP,hR]
   show(if x.bg=false/\y.bg=true then _ else _)=_
   rw[if_neg h]
  have i2:w6 z zn (L.set 0 M2) ⟨some ⟨256*(zn+(j+1))+510,0,none⟩,j+1+1,(z'.set (zn+(j+1)) (.az kb1)).set (zn+(j+1)) (.az kb2),zn+(j+1+1)⟩:=by
   refine⟨f2,Nat.le_add_right _ _,fun k hk=>?_, .inr ⟨fun h=>?_,zn+(j+1),Nat.le_add_right _ _,kk,rfl,by show j+1+1=(L.set 0 M2).length;rw[List.length_set,hln],?_⟩⟩
   ·show((z'.set _ _).set _ _).get k=_
    rw[T.aH,if_neg (by omega),T.aH,if_neg (by omega)]
    exact hI'.gK k hk
   ·have:(L.set 0 M2).length=0:=by rw[h];rfl
    rw[List.length_set,hln] at this
    omega
   ·show((z'.set _ _).set _ _).get (zn+(j+1))=_
    rw[T.aH,if_pos rfl,List.length_set,hln]
  have n1:(!x.bg)=true->x.bg=false:=fun h=>by cases hx':x.bg with|false=>rfl|true=>rw[hx'] at h;cases h
  have n2:(!x.bg)=false->x.bg=true:=fun h=>by cases hx':x.bg with|true=>rfl|false=>rw[hx'] at h;cases h
  have nC: ∀{b:Bool},b=true->b=false->False:=fun h1 h2=>by rw[h1] at h2;cases h2
  refine urz z z' zn (zn+(j+1+1)) (zn+(j+1)) (j+1+1) N J x y kb kb1 ((L.set 0 M1).map ak.row).flatten ((L.set 0 M2).map ak.row).flatten (wr (x.arr - x.dep)) (wr (y.dep - wr (x.arr - x.dep))) _ ?_
  (repeat' first|(with_reducible first|exact rfl|assumption|apply And.intro|exact hjb _|exact hb _)|exact(rfl:Int.ofNat _=_)|exact hl'|intro hq)
  all_goals first
   |exact q2 _ (m1 (n1 (by with_reducible assumption)) (by with_reducible assumption) ▸ i2) rfl rfl rfl rfl rfl
   |exact q2 _ (m2 (fun h=>nC (n2 (by with_reducible assumption)) h.1) ▸ hI') rfl rfl rfl rfl rfl
   |exact q2 _ (m2 (fun h=>nC h.2 (by with_reducible assumption)) ▸ hI') rfl rfl rfl rfl rfl
theorem B0(hz:aw z zn):W9 z zn ⟨none,0,z,zn⟩:=⟨hz,Nat.le_refl _,fun _ _=>rfl⟩
theorem zP{s:da}{L:List ak}(h:w6 z zn L s):W9 z zn s:=⟨h.bN,h.le,h.gK⟩
end
end Go.Proofs.Nw
namespace Go.Proofs.Nw
open Go Go.AV Tryz
set_option maxRecDepth 1000000
noncomputable section
noncomputable abbrev Tv:Code:=ah (ag f13) 0
abbrev YJr:List (Nat × aa):=[(0,jB an),(1,jB an)]
noncomputable abbrev YJs(z:T aa)(zn:Nat):Al:=Al.cons Unit Yc (WZ z zn) (S6 z zn) Al.nil
abbrev YJt(J V:dz):List (Nat × aa):=[(0,jB (Value.slice J.a 0 J.c)),(1,jB (Value.slice V.a 0 V.c))]
end
noncomputable section
abbrev AL(N:aq)(J:dz):List Value:=[AG (Ya N),AG [yS J]]
abbrev Xm(z:T aa)(zn:Nat)(N:aq)(J:dz):Prop:=aF prog z zn 9 (AL N J) [] 0 0 Yc uG Ye
abbrev qc(N:aq)(J:dz):Prop:=aS Yf (AL N J)=some (AL N J)
abbrev Lp(z:T aa)(zn:Nat):Prop:=aF prog z zn 10 [] [] 0 0 Yc gf Ye
abbrev Ek:Prop:=Rs aao
noncomputable abbrev CF(N:aq)(J:dz):Cm:=Cm.mk (AL N J) [] 0 0 [] [] 2
noncomputable abbrev Xv(z:T aa)(zn:Nat):Tr:=Tr.cm (Cm.mk [] [] 0 0 [] [] 2) Unit Yc gf Ye gf Ye (Yl z) (Ym zn) (S6 z zn)
abbrev Lu(z:T aa)(zn:Nat)(N:aq)(J:dz):Prop:=aF prog z zn 9 (AL N J) [] 0 0 Yc gf Ye
abbrev Hp(e:Int):Unit->Value:=fun(x:Unit)=>TP [AG [an],zv e]
abbrev Xu(z:T aa)(zn:Nat)(N:aq)(J:dz)(e:Int):Prop:=aF prog z zn 11 (AL N J) [] 0 0 Yc (Hp e) Ye
abbrev PI(e:Int):Unit->Value:=fun(x:Unit)=>L3 e
noncomputable abbrev Lt(N:aq)(J:dz):Cm:=Cm.mk (AL N J) [] 0 0 [] [] 3
noncomputable abbrev WJ:Cm:=Cm.mk [] [] 0 0 [] [] 4
abbrev TI(zn n:Nat):Unit->Value:=fun(x:Unit)=>TP [AG [tb zn n n],YM]
abbrev PH(z:T aa)(zn:Nat)(cs:List Value)(n:Nat):Unit->T aa:=fun(x:Unit)=>wK z zn cs n
abbrev Ls(zn:Nat):Unit->Nat:=fun(x:Unit)=>zn+1
abbrev WH(z:T aa)(zn:Nat)(N:aq)(J:dz)(n:Nat)(cs:List Value):Prop:=bb prog z zn 11 (AL N J) [] 0 0 Yc (TI zn n) Ye (PH z zn cs n) (Ls zn)
abbrev YKB(s:da):Value:=TP [AG [s.v],YM]
abbrev Tu:da->Value:=fun(s:da)=>YKB s
abbrev OV:da->List (Nat × aa):=fun(x:da)=>[]
abbrev WG(x:da):Value:=TP [AG [wM x],YM]
abbrev YKF(x:da):Prop:=aP Yf (WG x)=some (WG x)
abbrev YKG(x:da):Prop:=aF prog (ik x) x.zn 10 [] [] 0 0 Yc gf Ye
abbrev WE(zn n:Nat):Unit->Value:=fun(x:Unit)=>AM zn n
noncomputable abbrev YKI(zn n:Nat)(x:da):Tr:=tA 7 (Tr.cm (Cm.mk [AG [eg zn n],AG [wM x]] [] 0 0 [] [] 4) Unit Yc gf Ye gf Ye (fun(x_1:Unit)=>ik x) (fun(x_1:Unit)=>x.zn) fun(x_1:Unit)=>tA 2 (Tr.cm WJ Unit Yc gf Ye gf Ye (fun(x_2:Unit)=>ik x) (fun(x_2:Unit)=>x.zn) fun(x_2:Unit)=>tA 1 (tR [] [] T1 [] 0 (ik x) x.zn)))
end
noncomputable section
noncomputable abbrev YKJ:Code:=ah (ag f31) 0
noncomputable abbrev YKK(m:Nat)(J:dz)(z:T aa)(zn:Nat):aA->Prop:=(alt (m<J.n) (aA.mk af.ret [(4,iv m)] [] 1 z zn) (alt (m=J.n) (aA.mk YO [(2,ip 0)] [(0,jB J.v)] 1 z zn) Al.nil)).R
noncomputable abbrev YKL(m:Nat)(J:dz)(z:T aa)(zn:Nat):Al:=Al.cons Unit (fun(x:Unit)=>m<J.n) (fun(x:Unit)=>aA.mk af.ret [(4,iv m)] [] 1 z zn) (fun(x:Unit)=>tR [] [] (IV m) [] 0 z zn) (Al.cons Unit (fun(x:Unit)=>m=J.n) (fun(x:Unit)=>aA.mk YO [(2,ip 0)] [(0,jB J.v)] 1 z zn) (fun(x:Unit)=>tA 1 (tR [] [] (IV J.n) [] 0 z zn)) Al.nil)
end
noncomputable section
noncomputable abbrev YKM:Code:=ah (ag f17) 0
end
noncomputable section
abbrev FV(N:aq)(J:dz)(now:Int):List Value:=[AG (Ya N),AG [yS J],ZV now]
abbrev Tt(e:Int):Unit->Value:=fun(x:Unit)=>TP [iv 0,zv e]
abbrev PD(N:aq)(J:dz)(now:Int):Prop:=aS Yf (FV N J now)=some (FV N J now)
noncomputable abbrev YKQ:Cm:=Cm.mk [] [] 0 0 [] [] 3
noncomputable abbrev YKR(z:T aa)(zn:Nat):Tr:=tO kI (tA 2 (Tr.cm YKQ Unit Yc gf Ye gf Ye (Yl z) (Ym zn) fun(x:Unit)=>tA 1 (Yn z zn)))
end
noncomputable section
abbrev CW(q:nc):Value:=AG [ZV q.fz1,ZV q.aB,ZV q.time,Value.bool q.back,ZV q.ba,ZV q.walk,Value.bool q.sf,Value.bool q.OO,ZV q.bL,Value.bool q.Oj]
abbrev SF(N:aq)(q:nc):Prop:=aS Yf [AG (Ya N),CW q]=some [AG (Ya N),CW q]
abbrev LZ:Prop:=Rs (I 22)
noncomputable abbrev LY(z:T aa)(zn:Nat):Tr:=tR [] [] (I 22) [] 0 z zn
noncomputable abbrev YKW(x:da):Tr:=tA 4 ((tA 5 (tR [] [] tV [] 0 (ik x) x.zn)).fork (tA 4 ((tA 2 (tR [] [] tV [] 0 (ik x) x.zn)).fork (tA 2 (tR [] [] YM [] 0 (ik x) x.zn)))))
theorem Z1(z:T aa)(zn:Nat)(N:aq)(q:nc)(J:dz)(now e:Int)(φ:da->Prop)(Q:QF)(hyp:aF prog z zn 29 [AG (Ya N),CW q] [] 0 0 Yc (rV e) Ye/\SF N q/\ ∀(x:Unit),True->xw e/\Br (e !=0) (E6 36 z zn (xw e/\Q (ZV e) [] 0 z zn)) (Br q.back (E6 36 z zn (LZ/\Q (I 22) [] 0 z zn)) (bb prog z zn 12 (AL N J) [] 0 0 φ Tu OV ik Ht/\qc N J/\ ∀(x:da),φ x->YKF x/\(decide (now<0)=true->E6 36 (ik x) x.zn (AB/\Q tV [] 0 (ik x) x.zn))/\(decide (now<0)=false->(decide (now>3155932800)=true->E6 36 (ik x) x.zn (AB/\Q tV [] 0 (ik x) x.zn))/\(decide (now>3155932800)=false->E6 36 (ik x) x.zn (w5/\Q YM [] 0 (ik x) x.zn)))))):FnT prog Yi cW f18 [Yj N,n6 q J now] z [] 0 zn Q:=K1t hyp (tA 2 (Tr.cm (Cm.mk [AG (Ya N),CW q] [] 0 0 [] [] 2) Unit Yc (rV e) Ye (F4 e) Ye (Yl z) (Ym zn) fun(x:Unit)=>(tA 1 (tR [] [] (ZV e) [] 0 z zn)).fork (tA 1 ((tA 1 (LY z zn)).fork (tA 3 (Tr.cm (CF N J) da φ Tu OV WG OV ik Ht fun(x:da)=>YKW x))))))
theorem Z0(z:T aa)(zn:Nat)(N:aq)(q:nc)(J:dz)(now e f:Int)(Q:QF)(hyp:aF prog z zn 29 [AG (Ya N),CW q] [] 0 0 Yc (rV e) Ye/\SF N q/\ ∀(x:Unit),True->xw e/\Br (e !=0) (E6 36 z zn (xw e/\Q (ZV e) [] 0 z zn)) (Br q.back (E6 36 z zn (LZ/\Q (I 22) [] 0 z zn)) (aF prog z zn 12 (AL N J) [] 0 0 Yc (Hp f) Ye/\qc N J/\ ∀(x:Unit),True->HY f/\Value.bool (f !=0)=T1/\E6 36 z zn (xw f/\Q (ZV f) [] 0 z zn)))):FnT prog Yi cW f18 [Yj N,n6 q J now] z [] 0 zn Q:=K1t hyp (tA 2 (Tr.cm (Cm.mk [AG (Ya N),CW q] [] 0 0 [] [] 2) Unit Yc (rV e) Ye (F4 e) Ye (Yl z) (Ym zn) fun(x:Unit)=>(tA 1 (tR [] [] (ZV e) [] 0 z zn)).fork (tA 1 ((tA 1 (LY z zn)).fork (tA 3 (Tr.cm (CF N J) Unit Yc (Hp f) Ye (PI f) Ye (Yl z) (Ym zn) fun(x:Unit)=>tA 1 (tO kI (tA 1 (tR [] [] (ZV f) [] 0 z zn)))))))))
noncomputable abbrev WD(N:aq)(q:nc):Cm:=Cm.mk [AG (Ya N),CW q] [] 0 0 [] [] 4
theorem upa(z:T aa)(zn:Nat)(N:aq)(q:nc)(J:dz)(now e:Int)(Q:QF)(hyp:aF prog z zn 27 [AG (Ya N),CW q] [] 0 0 Yc (rV e) Ye/\SF N q/\ ∀(x:Unit),True->xw e/\Value.bool (e !=0)=T1/\E6 188 z zn (HY e/\Q (L3 e) [] 0 z zn)):FnT prog Yi cW f19 [Yj N,AG q.row,J.jn,zv now] z [] 0 zn Q:=K1t hyp (tA 2 (Tr.cm (WD N q) Unit Yc (rV e) Ye (F4 e) Ye (Yl z) (Ym zn) fun(x:Unit)=>tO kI (tA 2 (tR [] [] (L3 e) [] 0 z zn))))
abbrev SE:Unit->Value:=fun(x:Unit)=>zv 0
abbrev Xl(z:T aa)(zn:Nat)(N:aq)(q:nc):Prop:=aF prog z zn 27 [AG (Ya N),CW q] [] 0 0 Yc SE Ye
abbrev YKa:Value:=TP [AG [Y5],I 22]
theorem upb(z:T aa)(zn:Nat)(N:aq)(q:nc)(J:dz)(now e:Int)(Q:QF)(hyp:Xl z zn N q/\SF N q/\ ∀(x:Unit),True->w5/\Value.bool q.back=T1/\E6 188 z zn (Rs YKa/\Q YKa [] 0 z zn)):FnT prog Yi cW f19 [Yj N,AG q.row,J.jn,zv now] z [] 0 zn Q:=K1t hyp (tA 2 (Tr.cm (WD N q) Unit Yc SE Ye PZ Ye (Yl z) (Ym zn) fun(x:Unit)=>tA 2 (tO kI (tA 2 (tR [] [] YKa [] 0 z zn)))))
theorem upc(z:T aa)(zn:Nat)(N:aq)(q:nc)(J:dz)(now f:Int)(Q:QF)(hyp:Xl z zn N q/\SF N q/\ ∀(x:Unit),True->w5/\Value.bool q.back=F0/\Xu z zn N J f/\qc N J/\ ∀(x:Unit),True->HY f/\Value.bool (f !=0)=T1/\E6 188 z zn (HY f/\Q (L3 f) [] 0 z zn)):FnT prog Yi cW f19 [Yj N,AG q.row,J.jn,zv now] z [] 0 zn Q:=K1t hyp (tA 2 (Tr.cm (WD N q) Unit Yc SE Ye PZ Ye (Yl z) (Ym zn) fun(x:Unit)=>tA 2 (tO kx (tA 3 (Tr.cm (Cm.mk (AL N J) [] 0 0 [] [] 4) Unit Yc (Hp f) Ye (PI f) Ye (Yl z) (Ym zn) fun(x:Unit)=>tA 1 (tO kI (tA 2 (tR [] [] (L3 f) [] 0 z zn))))))))
abbrev Ts:Value:=TP [AG [Y5],tV]
theorem pg(z:T aa)(zn n:Nat)(N:aq)(q:nc)(J:dz)(now:Int)(cs:List Value)(Q:QF)(hyp:Xl z zn N q/\SF N q/\ ∀(x:Unit),True->w5/\Value.bool q.back=F0/\WH z zn N J n cs/\qc N J/\ ∀(x:Unit),True->Rs (AM zn n)/\Value.bool (decide (now<0))=T1/\E6 188 (wK z zn cs n) (zn+1) (Rs Ts/\Q Ts [] 0 (wK z zn cs n) (zn+1))):FnT prog Yi cW f19 [Yj N,AG q.row,J.jn,zv now] z [] 0 zn Q:=K1t hyp (tA 2 (Tr.cm (WD N q) Unit Yc SE Ye PZ Ye (Yl z) (Ym zn) fun(x:Unit)=>tA 2 (tO kx (tA 3 (Tr.cm (Cm.mk (AL N J) [] 0 0 [] [] 4) Unit Yc (TI zn n) Ye (WE zn n) Ye (PH z zn cs n) (Ls zn) fun(x:Unit)=>tA 3 (tO kI (tA 5 (tR [] [] Ts [] 0 (wK z zn cs n) (zn+1)))))))))
theorem upe(z:T aa)(zn n:Nat)(N:aq)(q:nc)(J:dz)(now:Int)(cs:List Value)(Q:QF)(hyp:Xl z zn N q/\SF N q/\ ∀(x:Unit),True->w5/\Value.bool q.back=F0/\WH z zn N J n cs/\qc N J/\ ∀(x:Unit),True->Rs (AM zn n)/\Value.bool (decide (now<0))=F0/\Value.bool (decide (now>3155932800))=T1/\E6 188 (wK z zn cs n) (zn+1) (Rs Ts/\Q Ts [] 0 (wK z zn cs n) (zn+1))):FnT prog Yi cW f19 [Yj N,AG q.row,J.jn,zv now] z [] 0 zn Q:=K1t hyp (tA 2 (Tr.cm (WD N q) Unit Yc SE Ye PZ Ye (Yl z) (Ym zn) fun(x:Unit)=>tA 2 (tO kx (tA 3 (Tr.cm (Cm.mk (AL N J) [] 0 0 [] [] 4) Unit Yc (TI zn n) Ye (WE zn n) Ye (PH z zn cs n) (Ls zn) fun(x:Unit)=>tA 3 (tO kx (tA 2 (tO kI (tA 3 (tR [] [] Ts [] 0 (wK z zn cs n) (zn+1)))))))))))
theorem uqa(z:T aa)(zn:Nat)(N:aq)(q:nc)(J:dz)(now:Int)(Q:QF)(hyp:Xm z zn N J/\qc N J/\ ∀(x:Unit),True->YQ/\Lp z zn/\Ek/\ ∀(x:Unit),True->YA/\E6 44 z zn (YA/\Q T1 [] 0 z zn)):FnT prog Yi cW Tryz.f6 [Yj N,n6 q J now] z [] 0 zn Q:=K1t hyp (tA 2 (Tr.cm (CF N J) Unit Yc uG Ye uG Ye (Yl z) (Ym zn) fun(x:Unit)=>tA 6 (Xv z zn)))
abbrev HX(N:aq)(q:nc)(J:dz)(now:Int):List Value:=[AG (Ya N),AG [ZV q.fz1,ZV q.aB,ZV q.time,Value.bool q.back,ZV q.ba,ZV q.walk,Value.bool q.sf,Value.bool q.OO,ZV q.bL,Value.bool q.Oj,yS J,ZV now]]
theorem uqb(z:T aa)(zn:Nat)(N:aq)(q:nc)(J:dz)(now:Int)(Q:QF)(hyp:Lu z zn N J/\qc N J/\ ∀(x:Unit),True->YA/\aF prog z zn 18 (HX N q J now) [] 0 0 Yc SE Ye/\aS Yf (HX N q J now)=some (HX N q J now)/\ ∀(x:Unit),True->w5/\Lp z zn/\Ek/\ ∀(x:Unit),True->YA/\E6 44 z zn (YA/\Q T1 [] 0 z zn)):FnT prog Yi cW Tryz.f6 [Yj N,n6 q J now] z [] 0 zn Q:=K1t hyp (tA 2 (Tr.cm (CF N J) Unit Yc gf Ye gf Ye (Yl z) (Ym zn) fun(x:Unit)=>tA 5 (Tr.cm (Cm.mk (HX N q J now) [] 0 0 [] [] 2) Unit Yc SE Ye PZ Ye (Yl z) (Ym zn) fun(x:Unit)=>tA 4 (Xv z zn))))
theorem uqc(z:T aa)(zn:Nat)(N:aq)(q:nc)(J:dz)(now e:Int)(Q:QF)(hyp:Lu z zn N J/\qc N J/\ ∀(x:Unit),True->YA/\aF prog z zn 18 (HX N q J now) [] 0 0 Yc (rV e) Ye/\aS Yf (HX N q J now)=some (HX N q J now)/\ ∀(x:Unit),True->xw e/\Value.bool (e==0)=F0/\aF prog z zn 19 [AG (Ya N),CW q,AG [yS J],ZV now] [] 0 0 Yc (Hp e) Ye/\aS Yf [AG (Ya N),CW q,AG [yS J],ZV now]=some [AG (Ya N),CW q,AG [yS J],ZV now]/\ ∀(x:Unit),True->HY e/\aF prog z zn 18 (HX N q J now) [] 0 0 Yc (rV e) Ye/\aS Yf (HX N q J now)=some (HX N q J now)/\ ∀(x:Unit),True->xw e/\Value.bool (e==e)=T1/\Lp z zn/\Ek/\ ∀(x:Unit),True->YA/\E6 44 z zn (YA/\Q T1 [] 0 z zn)):FnT prog Yi cW Tryz.f6 [Yj N,n6 q J now] z [] 0 zn Q:=K1t hyp (tA 2 (Tr.cm (CF N J) Unit Yc gf Ye gf Ye (Yl z) (Ym zn) fun(x:Unit)=>tA 5 (Tr.cm (Cm.mk (HX N q J now) [] 0 0 [] [] 2) Unit Yc (rV e) Ye (F4 e) Ye (Yl z) (Ym zn) fun(x:Unit)=>tA 1 (tO kx (tA 6 (Tr.cm (Cm.mk [AG (Ya N),CW q,AG [yS J],ZV now] [] 0 0 [] [] 2) Unit Yc (Hp e) Ye (PI e) Ye (Yl z) (Ym zn) fun(x:Unit)=>tA 9 (Tr.cm (Cm.mk (HX N q J now) [] 0 0 [] [] 3) Unit Yc (rV e) Ye (F4 e) Ye (Yl z) (Ym zn) fun(x:Unit)=>tA 1 (YKR z zn))))))))
end
noncomputable section
theorem qin(z:T aa)(zn:Nat)(n a b:Int)(Q:QF)(hyp:Br (decide (n>=a)) (Br (decide (n<=b)) (E6 15 z zn (YA/\Q T1 [] 0 z zn)) (E6 15 z zn (YQ/\Q F0 [] 0 z zn))) (E6 15 z zn (YQ/\Q F0 [] 0 z zn))):FnT prog Yi z f86 [zv n,zv a,zv b] z [] 0 zn Q:=K1t hyp (W4 z zn)
theorem qwi(z:T aa)(zn:Nat)(n a b:Int)(Q:QF)(hyp:Br (decide (n>=a)) (Br (decide (n<=b)) (E6 15 z zn (YA/\Q T1 [] 0 z zn)) (E6 15 z zn (YQ/\Q F0 [] 0 z zn))) (E6 15 z zn (YQ/\Q F0 [] 0 z zn))):FnT prog Yi z f51 [zv n,zv a,zv b] z [] 0 zn Q:=K1t hyp (W4 z zn)
theorem qvq(z:T aa)(zn:Nat)(k:Int)(q:nc)(Q:QF)(hyp:WQ1 (k - 1)/\Rf z/\gQ 86 [ZV q.fz1,YM,ZV (k - 1)]=some (Value.bool (bX q.fz1 0 (k - 1)))/\Br (bX q.fz1 0 (k - 1)) (bX q.fz1 0 (k - 1)=true/\bX q.fz1 0 (k - 1)=true/\bX q.fz1 0 (k - 1)=true/\WQ1 (k - 1)/\bX q.fz1 0 (k - 1)=true/\Rf z/\gQ 86 [ZV q.aB,YM,ZV (k - 1)]=some (Value.bool (bX q.aB 0 (k - 1)))/\bX q.fz1 0 (k - 1)=true/\Br (bX q.aB 0 (k - 1)) (bX q.aB 0 (k - 1)=true/\bX q.aB 0 (k - 1)=true/\Rf z/\gQ 86 [ZV q.time,YM,I 3155932800]=some (Value.bool (bX q.time 0 3155932800))/\bX q.aB 0 (k - 1)=true/\Br (bX q.time 0 3155932800) (bX q.time 0 3155932800=true/\bX q.time 0 3155932800=true/\Rf z/\gQ 86 [ZV q.ba,YM,I 8]=some (Value.bool (bX q.ba 0 8))/\bX q.time 0 3155932800=true/\Br (bX q.ba 0 8) (bX q.ba 0 8=true/\bX q.ba 0 8=true/\Rf z/\gQ 86 [ZV q.walk,YM,I 86400]=some (Value.bool (bX q.walk 0 86400))/\bX q.ba 0 8=true/\Br (bX q.walk 0 86400) (bX q.walk 0 86400=true/\bX q.walk 0 86400=true/\Rf z/\gQ 86 [ZV q.bL,YM,I 255]=some (Value.bool (bX q.bL 0 255))/\bX q.walk 0 86400=true/\Br (bX q.bL 0 255) (bX q.bL 0 255=true/\Br q.Oj (bX q.bL 0 255=true/\Br q.back (bX q.bL 0 255=true/\bX q.bL 0 255=true/\bX q.bL 0 255=true/\E6 46 z zn (YQ/\Q F0 [] 0 z zn)) (bX q.bL 0 255=true/\bX q.bL 0 255=true/\bX q.bL 0 255=true/\E6 46 z zn (YA/\Q T1 [] 0 z zn))) (bX q.bL 0 255=true/\bX q.bL 0 255=true/\bX q.bL 0 255=true/\bX q.bL 0 255=true/\E6 46 z zn (YA/\Q T1 [] 0 z zn))) (bX q.bL 0 255=false/\bX q.bL 0 255=false/\bX q.bL 0 255=false/\bX q.bL 0 255=false/\bX q.bL 0 255=false/\E6 46 z zn (YQ/\Q F0 [] 0 z zn))) (bX q.walk 0 86400=false/\bX q.walk 0 86400=false/\bX q.walk 0 86400=false/\E6 46 z zn (YQ/\Q F0 [] 0 z zn))) (bX q.ba 0 8=false/\bX q.ba 0 8=false/\bX q.ba 0 8=false/\E6 46 z zn (YQ/\Q F0 [] 0 z zn))) (bX q.time 0 3155932800=false/\bX q.time 0 3155932800=false/\bX q.time 0 3155932800=false/\E6 46 z zn (YQ/\Q F0 [] 0 z zn))) (bX q.aB 0 (k - 1)=false/\bX q.aB 0 (k - 1)=false/\bX q.aB 0 (k - 1)=false/\E6 46 z zn (YQ/\Q F0 [] 0 z zn))) (bX q.fz1 0 (k - 1)=false/\bX q.fz1 0 (k - 1)=false/\bX q.fz1 0 (k - 1)=false/\bX q.fz1 0 (k - 1)=false/\bX q.fz1 0 (k - 1)=false/\E6 46 z zn (YQ/\Q F0 [] 0 z zn))):FnT prog gQ z f54 [zv k,AG q.row] z [] 0 zn Q:=K1t hyp (tA 1 (tO (An.val (ZV (k - 1))) (tO (An.cl (Value.bool (bX q.fz1 0 (k - 1)))) ((tO bI (tA 1 (tO bI (tO bI (tO (An.val (ZV (k - 1))) (tO bI (tO (An.cl (Value.bool (bX q.aB 0 (k - 1)))) (tO bI ((tO bI (tA 1 (tO bI (tO (An.cl (Value.bool (bX q.time 0 3155932800))) (tO bI ((tO bI (tA 1 (tO bI (tO (An.cl (Value.bool (bX q.ba 0 8))) (tO bI ((tO bI (tA 1 (tO bI (tO (An.cl (Value.bool (bX q.walk 0 86400))) (tO bI ((tO bI (tA 1 (tO bI (tO (An.cl (Value.bool (bX q.bL 0 255))) (tO bI ((tO bI ((tO bI (tA 2 ((tO bI (tA 1 (tO bI (tO bI (Yo z zn))))).fork (tO bI
 (tA 1 (tO bI (tO bI (Yn z zn)))))))).fork (tO bI (tA 2 (tO bI (tA 1 (tO bI (tO bI (Yn z zn))))))))).fork (tO bc (tO bc (tO bc (tO bc (tO bc (Yo z zn)))))))))))).fork (tO bc (tO bc (tO bc (tA 6 (Yo z zn))))))))))).fork (tO bc (tO bc (tO bc (tA 10 (Yo z zn))))))))))).fork (tO bc (tO bc (tO bc (tA 14 (Yo z zn))))))))))).fork (tO bc (tO bc (tO bc (tA 18 (Yo z zn)))))))))))))).fork (tO bc (tO bc (tO bc (tO bc (tO bc (tA 22 (Yo z zn)))))))))))
theorem qrc(z:T aa)(zn:Nat)(N:aq)(q:nc)(b1 b2:Bool)(Q:QF)(hyp:aF prog z zn 20 (Yb N) [] 0 0 Yc (sR b1) Ye/\Yg N/\ ∀(x:Unit),True->Rs (fY b1)/\Br (!b1) (E6 14 z zn (Rs (I 21)/\Q (I 21) [] 0 z zn)) (aF prog z zn 54 [IV N.ns,CW q] [] 0 0 Yc (sR b2) Ye/\Rs [IV N.ns,CW q]/\ ∀(x:Unit),True->Rs (fY b2)/\Br (!b2) (E6 14 z zn (LZ/\Q (I 22) [] 0 z zn)) (E6 14 z zn (w5/\Q YM [] 0 z zn)))):FnT prog Yi z f29 [Yj N,AG q.row] z [] 0 zn Q:=K1t hyp (tA 1 (Tr.cm (Cm.mk (Yb N) [] 0 0 [] [] 2) Unit Yc (sR b1) Ye (sR b1) Ye (Yl z) (Ym zn) fun(x:Unit)=>(tR [] [] (I 21) [] 0 z zn).fork (tA 2 (Tr.cm (Cm.mk [IV N.ns,CW q] [] 0 0 [] [] 2) Unit Yc (sR b2) Ye (sR b2) Ye (Yl z) (Ym zn) fun(x:Unit)=>(LY z zn).fork (Ij z zn)))))
theorem qfc(z:T aa)(zn:Nat)(N:aq)(q:nc)(a b c:Int)(Q:QF)(hyp:TC z zn N a b c/\Yg N/\ ∀(x:Unit),True->Yh a b c/\Br (c !=0) (E6 65 z zn (Rs (I 21)/\Q (I 21) [] 0 z zn)) (WQ1 ((↑N.ns:Int) - 1)/\Rf z/\gQ 51 [ZV q.fz1,YM,ZV ((↑N.ns:Int) - 1)]=some (Value.bool (bX q.fz1 0 ((↑N.ns:Int) - 1)))/\Br (!bX q.fz1 0 ((↑N.ns:Int) - 1)) ((!bX q.fz1 0 ((↑N.ns:Int) - 1))=true/\(!bX q.fz1 0 ((↑N.ns:Int) - 1))=true/\(!bX q.fz1 0 ((↑N.ns:Int) - 1))=true/\(!bX q.fz1 0 ((↑N.ns:Int) - 1))=true/\(!bX q.fz1 0 ((↑N.ns:Int) - 1))=true/\E6 65 z zn (LZ/\Q (I 22) [] 0 z zn)) ((!bX q.fz1 0 ((↑N.ns:Int) - 1))=false/\(!bX q.fz1 0 ((↑N.ns:Int) - 1))=false/\(!bX q.fz1 0 ((↑N.ns:Int) - 1))=false/\Rf z/\gQ 51 [ZV q.aB,YM,ZV ((↑N.ns:Int) - 1)]=some (Value.bool (bX q.aB 0 ((↑N.ns:Int) - 1)))/\(!bX q.fz1 0 ((↑N.ns:Int) - 1))=false/\(!bX q.fz1 0 ((↑N.ns:Int) - 1))=false/\Br (!bX q.aB 0 ((↑N.ns:Int) - 1)) ((!bX q.aB 0 ((↑N.ns:Int) - 1))=true/\(!bX q.aB 0 ((↑N.ns:Int) - 1))=true/\(!bX q.aB 0 ((↑N.ns:Int) - 1))=true/\(!bX q.aB 0 ((↑N.ns:Int) - 1))=true/\E6 65 z zn (LZ/\Q (I 22) [] 0 z zn)) ((!bX q.aB 0 ((↑N.ns:Int) - 1))=false/\(!bX q.aB 0 ((↑N.ns:Int) - 1))=false/\Rf z/\gQ 51 [ZV q.time,YM,I 3155932800]=some (Value.bool (bX q.time 0 3155932800))/\(!bX q.aB 0 ((↑N.ns:Int) - 1))=false/\(!bX q.aB 0 ((↑N.ns:Int) - 1))=false/\Br (!bX q.time 0 3155932800) ((!bX q.time 0 3155932800)=true/\(!bX q.time 0 3155932800)=true/\(!bX q.time 0 3155932800)=true/\(!bX q.time 0 3155932800)=true/\E6 65 z zn (LZ/\Q (I 22) [] 0 z zn)) ((!bX q.time 0 3155932800)=false/\(!bX q.time 0 3155932800)=false/\Rf z/\gQ 51 [ZV q.ba,YM,I 8]=some (Value.bool (bX q.ba 0 8))/\(!bX q.time 0 3155932800)=false/\(!bX q.time 0 3155932800)=false/\Br (!bX q.ba 0 8) ((!bX q.ba 0 8)=true/\(!bX q.ba 0 8)=true/\(!bX q.ba 0 8)=true/\(!bX q.ba 0 8)=true/\E6 65 z zn (LZ/\Q (I 22) [] 0 z zn)) ((!bX q.ba 0 8)=false/\(!bX q.ba 0 8)=false/\Rf z/\gQ 51 [ZV q.walk,YM,I 86400]=some (Value.bool (bX q.walk 0 86400))/\(!bX q.ba 0 8)=false/\(!bX q.ba 0 8)=false/\Br (!bX q.walk 0 86400) ((!bX q.walk 0 86400)=true/\(!bX q.walk 0 86400)=true/\(!bX q.walk 0 86400)=true/\(!bX q.walk 0 86400)=true/\E6 65 z zn (LZ/\Q (I 22) [] 0 z zn)) ((!bX q.walk 0 86400)=false/\(!bX q.walk 0 86400)=false/\Rf z/\gQ 51 [ZV q.bL,YM,I 255]=some (Value.bool (bX q.bL 0 255))/\(!bX q.walk 0 86400)=false/\(!bX q.walk 0 86400)=false/\Br (!bX q.bL 0 255) ((!bX q.bL 0 255)=true/\(!bX q.bL 0 255)=true/\(!bX q.bL 0 255)=true/\(!bX q.bL 0 255)=true/\E6 65 z zn (LZ/\Q (I 22) [] 0 z zn)) ((!bX q.bL 0 255)=false/\Br q.Oj ((!bX q.bL 0 255)=false/\Br q.back ((!bX q.bL 0 255)=false/\(!bX q.bL 0 255)=false/\E6 65 z zn (LZ/\Q (I 22) [] 0 z zn)) ((!bX q.bL 0 255)=false/\(!bX q.bL 0 255)=false/\E6 65 z zn (w5/\Q YM [] 0 z zn))) ((!bX q.bL 0 255)=false/\(!bX q.bL 0 255)=false/\(!bX q.bL 0 255)=false/\E6 65 z zn (w5/\Q YM [] 0 z
 zn)))))))))):FnT prog gQ z f27 [Yj N,AG q.row] z [] 0 zn Q:=K1t hyp (tA 1 (Tr.cm (Cm.mk (Yb N) [] 0 0 [] [] 2) Unit Yc (Yd a b c) Ye (Yk a b c) Ye (Yl z) (Ym zn) fun(x:Unit)=>(tA 1 (tR [] [] (I 21) [] 0 z zn)).fork (tA 2 (tO (An.val (ZV ((↑N.ns:Int) - 1))) (tA 1 (tO (An.cl (Value.bool (bX q.fz1 0 ((↑N.ns:Int) - 1)))) ((tO bI (tO bI (tO bI (tO bI (tO bI (tA 26 (LY z zn))))))).fork (tO bc (tA 1 (tO bc (tO bc (tO (An.cl (Value.bool (bX q.aB 0 ((↑N.ns:Int) - 1)))) (tO bc (tO bc ((tO bI (tO bI (tO bI (tO bI (tA 21 (LY z zn)))))).fork (tO bc (tA 1 (tO bc (tO (An.cl (Value.bool (bX q.time 0 3155932800))) (tO bc (tO bc ((tO bI (tO bI (tO bI (tO bI (tA 16 (LY z zn)))))).fork (tO bc (tA 1 (tO bc (tO (An.cl (Value.bool (bX q.ba 0 8))) (tO bc (tO bc ((tO bI (tO bI (tO bI (tO bI (tA 11 (LY z zn)))))).fork (tO bc (tA 1 (tO bc (tO (An.cl (Value.bool (bX q.walk 0 86400))) (tO bc (tO bc ((tO bI (tO bI (tO bI (tO bI (tA 6 (LY z zn)))))).fork (tO bc (tA 1 (tO bc (tO (An.cl (Value.bool (bX q.bL 0 255))) (tO bc (tO bc ((tO bI (tO bI (tO bI (tO bI (tA 1 (LY z zn)))))).fork (tO bc ((tO bc (tA 2 ((tO bc (tA 1 (tO bc (tA 1 (LY z zn))))).fork (tO bc (tA 1 (tO bc (tA 1 (Ij z zn)))))))).fork (tO bc (tA 2 (tO bc (tA 1 (tO bc (tA 1 (Ij z zn))))))))))))))))))))))))))))))))))))))))))))))))))))
end
end Go.Proofs.Nw
namespace Go.Proofs.Nw
open Go Go.AV Tryz
set_option maxHeartbeats 1000000
set_option maxRecDepth 100000
theorem UA{z:T aa}(n a b:Int):kZ prog z 86 [zv n,zv a,zv b] (.bool (bX n a b)):=by
 refine cz ?_ rfl rfl
 refine aK1 (bC (zg:= .leaf)) (fn:=f86) jt (qin .leaf 0 n a b _ ?_)
 (repeat' first|(with_reducible first|exact rfl|apply And.intro|exact jt)|intro hq)
 all_goals (refine qh ?_;unfold bX;simp_all;try (intros;omega))
theorem Uz{z:T aa}(n a b:Int):kZ prog z 51 [zv n,zv a,zv b] (.bool (bX n a b)):=by
 refine cz ?_ rfl rfl
 refine aK1 (bC (zg:= .leaf)) (fn:=f51) jt (qwi .leaf 0 n a b _ ?_)
 (repeat' first|(with_reducible first|exact rfl|apply And.intro|exact jt)|intro hq)
 all_goals (refine qh ?_;unfold bX;simp_all;try (intros;omega))
theorem VO(z:T aa):fq prog z gQ:=by
 intro f args v h
 unfold gQ at h
 split at h
 ·cases h;exact UA _ _ _
 ·cases h;exact Uz _ _ _
 ·cases h
section
variable{z:T aa}{zn:Nat}
theorem abu(hz:aw z zn)(k:Int)(h0:0<=k)(h1:k<=64)(q:nc):A1 z zn 54 [zv k, .agg ⟨q.row⟩] [] 0 0 (.bool (vq k q)) []:=by
 have w1:Value.int .i64 (IntKind.i64.wrap (k - 1))=Value.int .i64 (k - 1):=gV (by omega) (by omega)
 refine aK1 (VO z) (fn:=f54) hz (qvq z zn k q _ ?_)
 (repeat' first|(with_reducible first|exact rfl|assumption|apply And.intro)|exact(rfl:gQ _ _=_)|intro hq)
 all_goals (refine qh ?_;unfold vq;simp_all)
variable{N:aq}{D:fP}
noncomputable def tx(N:aq)(D:fP)(q:nc):Int:=if (bB N D).2.2≠0 then 21 else if vq N.ns q=true then 0 else 22
theorem qI(h:(bB N D).2.2=0)(hN:c9 z N D):N.ns<=64:=by
 have h1:=dh hN.s
 have:(cy D.stops).2=0:=by
  unfold bB ig at h
  by_cases e:(cy D.stops).2=0
  ·exact e
  ·rw[if_pos e] at h;exact(e h).elim
 have:=zb this
 omega
theorem Wc(hz:aw z zn)(h5:5<=zn)(hN:c9 z N D)(q:nc):A1 z zn 29 [.agg ⟨N.cells⟩, .agg ⟨q.row⟩] [] 0 0 (zv (tx N D q)) []:=by
 have hv:=jx (hN.val [])
 have hb:=hN.box
 have hc:=uz hz h5 hN
 have hq2:((bB N D).2.2==0)=true->A1 z zn 54 [iv N.ns, .agg ⟨q.row⟩] [] 0 0 (.bool (vq N.ns q)) []:=fun h=>abu hz _ (by omega) (by have:=qI (by simpa using h) hN;omega) q
 have hq3:(!((bB N D).2.2==0))=false->A1 z zn 54 [iv N.ns, .agg ⟨q.row⟩] [] 0 0 (.bool (vq N.ns q)) []:=fun h=>hq2 (by simpa using h)
 refine aK1 (bC (zg:=z)) (fn:=f29) hz (qrc z zn N q ((bB N D).2.2==0) (vq N.ns q) _ ?_)
 (repeat' first|(with_reducible first|exact rfl|assumption|apply And.intro|exact hq3 ‹_›)|intro hq)
 all_goals (refine qh ?_;unfold tx;simp_all)
theorem Wn(hz:aw z zn)(hN:c9 z N D)(hll:D.paths.length<=10000)(q:nc):A1 z zn 27 [.agg ⟨N.cells⟩, .agg ⟨q.row⟩] [] 0 0 (zv (tx N D q)) []:=by
 have hv:=jx (hN.val [])
 have hb:=hN.box
 have hc:=wy hz hN hll
 have w1:((bB N D).2.2 !=0)=false->Value.int .i64 (IntKind.i64.wrap ((N.ns:Int) - 1))=Value.int .i64 ((N.ns:Int) - 1):=fun h=>by
  have:=qI (N:=N) (D:=D) (by simpa using h) hN
  exact gV (by omega) (by omega)
 refine aK1 (VO z) (fn:=f27) hz (qfc z zn N q (bB N D).1 (bB N D).2.1 (bB N D).2.2 _ ?_)
 (repeat' first|(with_reducible first|exact rfl|assumption|apply And.intro|exact w1 ‹_›)|exact(rfl:gQ _ _=_)|intro hq)
 all_goals (refine qh ?_;unfold tx vq;simp_all)
end
noncomputable def lQ(N:aq)(D:fP)(q:nc)(G:List ak)(now:Int):Int:=if tx N D q≠0 then tx N D q else if q.back=true then 22 else if jY N D G≠0 then jY N D G else if now<0\/Th<now then 10 else 0
section
variable{z:T aa}{zn:Nat}{N:aq}{D:fP}
theorem IN{q:nc}{G:List ak}{now:Int}(h:tx N D q≠0):lQ N D q G now=tx N D q:=if_pos h
theorem IP{q:nc}{G:List ak}{now:Int}(h:tx N D q=0)(hb:q.back=true):lQ N D q G now=22:=by
 unfold lQ;rw[if_neg (by simp[h]),if_pos hb]
theorem Pl{q:nc}{G:List ak}{now:Int}(h:tx N D q=0)(hb:q.back=false)(hf:jY N D G≠0):lQ N D q G now=jY N D G:=by
 unfold lQ;rw[if_neg (by simp[h]),if_neg (by simp[hb]),if_pos hf]
theorem ES{q:nc}{G:List ak}{now:Int}(h:tx N D q=0)(hb:q.back=false)(hf:jY N D G=0)(hn:now<0\/Th<now):lQ N D q G now=10:=by
 unfold lQ;rw[if_neg (by simp[h]),if_neg (by simp[hb]),if_neg (by simp[hf]),if_pos hn]
theorem Pm{q:nc}{G:List ak}{now:Int}(h:tx N D q=0)(hb:q.back=false)(hf:jY N D G=0)(hn: ¬(now<0\/Th<now)):lQ N D q G now=0:=by
 unfold lQ;rw[if_neg (by simp[h]),if_neg (by simp[hb]),if_neg (by simp[hf]),if_neg hn]
theorem Wb(hz:aw z zn)(h5:5<=zn)(hN:c9 z N D){K:Nat}(hK:6<=K)(hKn:K<zn){G:List ak}(hG:G.length<=1000){J:dz}(hJ:nk K J.a J.n J.c G.length)(hT:bP z K (G.map ak.row))(q:nc)(now:Int):
 A1 z zn 18 [.agg ⟨N.cells⟩,n6 q J now] [] 0 0 (zv (lQ N D q G now)) []:=by
 have hq:=Wc hz h5 hN q
 have hv:=tj hN hJ.nm
 have hv2:aS (sig []) [.agg ⟨N.cells⟩, .agg ⟨q.row⟩]=some [.agg ⟨N.cells⟩, .agg ⟨q.row⟩]:=bM (hN.val []) rfl
 by_cases hf:jY N D G=0
 ·have hr:=Sn hz h5 hN hK hKn hG hJ hT hf
  have key:bb prog z zn 18 [.agg ⟨N.cells⟩,n6 q J now] [] 0 0 (fun s:da=>W9 z zn s) (fun _=>zv (lQ N D q G now)) (fun _=>[]) (fun s=>s.z) (fun s=>s.zn):=by
   refine dV (bC (zg:=T.leaf)) (fn:=f18) (by kernel_rfl) (by kernel_rfl) hz ⟨by decide,by decide⟩ (fun s hs=>⟨rfl,hs.le,hs.bN⟩) (N:=100) ?_
   refine Z1 z zn N q J now (tx N D q) (fun s=>w6 z zn (oY D.runs G) s) _ ?_
   (repeat' first|(with_reducible first|exact rfl|assumption|apply And.intro|exact vT ‹_›|exact w6.bN ‹_›)|intro hq)
   ·have h:tx N D q≠0:=by simpa using (by with_reducible assumption:(tx N D q !=0)=true)
    exact q2 _ (B0 hz) rfl (by rw[IN h]) rfl rfl rfl
   all_goals have h:tx N D q=0:=by simpa using (by with_reducible assumption:(tx N D q !=0)=false)
   ·exact q2 _ (B0 hz) rfl (by rw[IP h (by with_reducible assumption)];rfl) rfl rfl rfl
   ·rename_i s hs
    exact q2 s (zP hs) rfl (by rw[ES h (by with_reducible assumption) hf (.inl (by simpa using (by with_reducible assumption:decide (now<0)=true)))];rfl) rfl rfl rfl
   ·rename_i s hs _
    exact q2 s (zP hs) rfl (by rw[ES h (by with_reducible assumption) hf (.inr (by simpa using (by with_reducible assumption:decide (now>3155932800)=true)))];rfl) rfl rfl rfl
   ·rename_i s hs h1
    have h1:=of_decide_eq_false h1
    have h2:=of_decide_eq_false hq
    exact q2 s (zP hs) rfl (by rw[Pm h (by with_reducible assumption) hf (fun h=>h.elim h1 h2)];rfl) rfl rfl rfl
  exact eL key rfl fun s hs=>hs.gK
 ·have hr:=KD hz h5 hN hK hKn hG hJ hT hf
  have e1:Value.bool (jY N D G !=0)=Value.bool true:=by rw[show(jY N D G !=0)=true by simpa using hf]
  refine aK1 (bC (zg:=T.leaf)) (fn:=f18) hz (N:=100) ?_
  refine Z0 z zn N q J now (tx N D q) (jY N D G) _ ?_
  (repeat' first|(with_reducible first|exact rfl|assumption|apply And.intro)|intro hq)
  ·have h:tx N D q≠0:=by simpa using (by with_reducible assumption:(tx N D q !=0)=true)
   exact qh (by rw[IN h])
  all_goals have h:tx N D q=0:=by simpa using (by with_reducible assumption:(tx N D q !=0)=false)
  ·exact qh (by rw[IP h (by with_reducible assumption)];rfl)
  ·exact qh (by rw[Pl h (by with_reducible assumption) hf])
theorem Wa(hz:aw z zn)(h6:6<=zn)(hN:c9 z N D)(hll:D.paths.length<=10000){K:Nat}{G:List ak}(hG:G.length<=1000){J:dz}(hJ:nk K J.a J.n J.c G.length)(hT:bP z K (G.map ak.row))(q:nc)(now:Int)(hr:lQ N D q G now≠0):
 A1 z zn 19 [.agg ⟨N.cells⟩, .agg ⟨q.row⟩,J.jn,zv now] [] 0 0 (.tuple ⟨[.agg ⟨[an]⟩,zv (lQ N D q G now)]⟩) []:=by
 have hq:=Wn hz hN hll q
 have hv:=tj hN hJ.nm
 have hv2:aS (sig []) [.agg ⟨N.cells⟩, .agg ⟨q.row⟩]=some [.agg ⟨N.cells⟩, .agg ⟨q.row⟩]:=bM (hN.val []) rfl
 have hfn:=(rfl:True=True)
 by_cases h:tx N D q=0
 ·rw[h] at hq
  cases hb:q.back with
  |true=>
   have e1:Value.bool q.back=Value.bool true:=by rw[hb]
   rw[IP h hb]
   refine aK1 (bC (zg:=T.leaf)) (fn:=f19) hz (N:=100) ?_
   refine upb z zn N q J now 0 _ ?_
   (repeat' first|(with_reducible first|exact rfl|assumption|apply And.intro)|intro hq)
   exact q1
  |false=>
   have e1:Value.bool q.back=Value.bool false:=by rw[hb]
   by_cases hf:jY N D G=0
   ·have hn:now<0\/Th<now:=by
     by_cases hn:now<0\/Th<now
     ·exact hn
     ·exact(hr (Pm h hb hf hn)).elim
    have hc:=Ot hz h6 hN hll hG hJ hT hf
    have hfz:aw (z.set zn (ic (iE D G) G.length)) (zn+1):=dL hz (db _)
    have key:bb prog z zn 19 [.agg ⟨N.cells⟩, .agg ⟨q.row⟩,J.jn,zv now] [] 0 0 (fun _:Unit=>True) (fun _=> .tuple ⟨[.agg ⟨[an]⟩,zv (lQ N D q G now)]⟩) (fun _=>[]) (fun _=>z.set zn (ic (iE D G) G.length)) (fun _=>zn+1):=by
     refine dV (bC (zg:=T.leaf)) (fn:=f19) (by kernel_rfl) (by kernel_rfl) hz ⟨by decide,by decide⟩ (fun s hs=>⟨rfl,Nat.le_succ _,hfz⟩) (N:=100) ?_
     by_cases hn0:now<0
     ·have e2:Value.bool (decide (now<0))=Value.bool true:=by rw[decide_eq_true hn0]
      refine pg z zn G.length N q J now (iE D G) _ ?_
      (repeat' first|(with_reducible first|exact rfl|assumption|apply And.intro)|intro hq)
      exact q2 () True.intro rfl (by rw[ES h hb hf hn];rfl) rfl rfl rfl
     ·have e2:Value.bool (decide (now<0))=Value.bool false:=by rw[decide_eq_false hn0]
      have e3:Value.bool (decide (now>3155932800))=Value.bool true:=by rw[decide_eq_true (hn.resolve_left hn0)]
      refine upe z zn G.length N q J now (iE D G) _ ?_
      (repeat' first|(with_reducible first|exact rfl|assumption|apply And.intro)|intro hq)
      exact q2 () True.intro rfl (by rw[ES h hb hf hn];rfl) rfl rfl rfl
    exact eL key rfl fun s hs k hk=>by rw[T.aH,if_neg (by omega)]
   ·have hc:=FG hz hN hll hG hJ hT hf
    have e2:Value.bool (jY N D G !=0)=Value.bool true:=by rw[show(jY N D G !=0)=true by simpa using hf]
    rw[Pl h hb hf]
    refine aK1 (bC (zg:=T.leaf)) (fn:=f19) hz (N:=100) ?_
    refine upc z zn N q J now (jY N D G) _ ?_
    (repeat' first|(with_reducible first|exact rfl|assumption|apply And.intro)|intro hq)
    exact q1
 ·have e1:Value.bool (tx N D q !=0)=Value.bool true:=by rw[show(tx N D q !=0)=true by simpa using h]
  rw[IN h]
  refine aK1 (bC (zg:=T.leaf)) (fn:=f19) hz (N:=100) ?_
  refine upa z zn N q J now (tx N D q) _ ?_
  (repeat' first|(with_reducible first|exact rfl|assumption|apply And.intro)|intro hq)
  exact q1
end
end Go.Proofs.Nw
namespace Go.Proofs.Nw
open Go Go.AV Tryz Go.RowKit
set_option maxHeartbeats 1000000
set_option maxRecDepth 100000
section
variable{z:T aa}{zn:Nat}
variable{N:aq}{D:fP}
theorem OD(h6:6<=zn)(hz:aw z zn)(hN:c9 z N D){K:Nat}(hK:6<=K)(hKn:K<zn){G:List ak}{J:dz}(hJ:nk K J.a J.n J.c G.length)(hT:bP z K (G.map ak.row))(q:nc)(now:Int):
 A1 z zn 6 [.agg ⟨N.cells⟩,n6 q J now] [] 0 0 T1 []:=by
 have hJr:aP (sig []) (.slice J.a J.n J.c)=some (.slice J.a J.n J.c):=by
  have:=hJ.nm []
  rw[lO] at this
  exact this
 have hv:=tj hN hJ.nm
 have hv2:aS (sig []) [.agg ⟨N.cells⟩, .agg ⟨q.row⟩,J.jn,zv now]=some [.agg ⟨N.cells⟩, .agg ⟨q.row⟩,J.jn,zv now]:=bM (hN.val []) (bM rfl (bM (g8 hJr) (cQ rfl)))
 have hv3:aS (sig []) [.agg ⟨N.cells⟩,n6 q J now]=some [.agg ⟨N.cells⟩,n6 q J now]:=by
  have:=bM (σ:=sig []) (v:=zv q.fz1) rfl (bM (v:=zv q.aB) rfl (bM (v:=zv q.time) rfl (bM (v:= .bool q.back) rfl (bM (v:=zv q.ba) rfl (bM (v:=zv q.walk) rfl (bM (v:= .bool q.sf) rfl (bM (v:= .bool q.OO) rfl (bM (v:=zv q.bL) rfl (bM (v:= .bool q.Oj) rfl (bM hJr (cQ (l:=[zv now]) rfl)))))))))))
  refine bM (hN.val []) (bM ?_ rfl)
  simp only[aP,this]
 have hsz:=uA hz hN hJ.nm
 have hex:=wx hz
 have hjn:=dh hJ
 have hjb:=nQ hJ.nm
 cases hl:HN N D J.n with
 |false=>
  rw[hl] at hsz
  refine aK1 (bC (zg:=T.leaf)) (fn:=Tryz.f6) hz (N:=100) ?_
  refine uqa z zn N q J now _ ?_
  (repeat' first|(with_reducible first|exact rfl|assumption|apply And.intro)|intro hq)
  exact q1
 |true=>
  rw[hl] at hsz
  obtain⟨hnp,hn20⟩:=za hl
  have hG:G.length<=1000:=by omega
  have hll:D.paths.length<=10000:=by have:=dh hN.p;omega
  have hr:=Wb hz (by omega) hN hK hKn hG hJ hT q now
  by_cases he:lQ N D q G now=0
  ·rw[he] at hr
   refine aK1 (bC (zg:=T.leaf)) (fn:=Tryz.f6) hz (N:=100) ?_
   refine uqb z zn N q J now _ ?_
   (repeat' first|(with_reducible first|exact rfl|assumption|apply And.intro)|intro hq)
   exact q1
  ·have hc:=Wa hz h6 hN hll hG hJ hT q now he
   have e1:Value.bool (lQ N D q G now==0)=Value.bool false:=by rw[show(lQ N D q G now==0)=false by simpa using he]
   have e2:Value.bool (lQ N D q G now==lQ N D q G now)=Value.bool true:=by simp
   refine aK1 (bC (zg:=T.leaf)) (fn:=Tryz.f6) hz (N:=100) ?_
   refine uqc z zn N q J now (lQ N D q G now) _ ?_
   (repeat' first|(with_reducible first|exact rfl|assumption|apply And.intro)|intro hq)
   all_goals exact q1
end
section
variable{H:Type}{enc:TypeId × Value->H}{W:World}{base:Nat}
abbrev Ks(q:nc)(v:Value)(now:Int):List Value:=[zv q.fz1,zv q.aB,zv q.time, .bool q.back,zv q.ba,zv q.walk, .bool q.sf, .bool q.OO,zv q.bL, .bool q.Oj,v,zv now]
theorem MM{P:Program}{t:TypeId}{r:List Value}(h:cK enc P W base [.i .i64, .i .i64, .i .i64, .b, .i .i64, .i .i64, .b, .b, .i .i64, .b, .sl t, .i .i64] r): ∃(q:nc)(v:Value)(now:Int),r=Ks q v now/\ ∃n y,DataW.trod enc P W base (fun _=>true) true n t [v]=some y:=by
 obtain⟨x0,l0,rfl,_,h0⟩:=h.i
 obtain⟨x1,l1,rfl,_,h1⟩:=h0.i
 obtain⟨x2,l2,rfl,_,h2⟩:=h1.i
 obtain⟨x3,l3,rfl,h3⟩:=h2.b
 obtain⟨x4,l4,rfl,_,h4⟩:=h3.i
 obtain⟨x5,l5,rfl,_,h5⟩:=h4.i
 obtain⟨x6,l6,rfl,h6⟩:=h5.b
 obtain⟨x7,l7,rfl,h7⟩:=h6.b
 obtain⟨x8,l8,rfl,_,h8⟩:=h7.i
 obtain⟨x9,l9,rfl,h9⟩:=h8.b
 obtain⟨x10,l10,rfl,g,h10⟩:=h9.sl
 obtain⟨x11,l11,rfl,_,h11⟩:=h10.i
 obtain rfl:=h11.e
 exact⟨⟨x0,x1,x2,x3,x4,x5,x6,x7,x8,x9⟩,x10,x11,rfl,g⟩
theorem Ok{r:Reach}{b:Nat}{v0:Value}{n:Nat}{x:DataW H × List MemPlace}(hok:Value.okWide prog W r b 54 v0)(h:DataW.trod enc prog W base (fun _=>true) true n 54 v0.cells.toList=some x):
 ∃(q:nc)(v:Value)(now:Int)(l:List ak),v0= .agg ⟨Ks q v now⟩/\mg W v 9 (l.map ak.row)/\ky v:=by
 obtain⟨fs,hfs⟩: ∃fs,prog.underlying 54=some (.struct fs):=Cb (by kernel_rfl)
 unfold Value.okWide at hok
 rw[hfs] at hok
 obtain⟨cs,rfl,hsz,ts,hts,_,hcell⟩:=hok
 have hcs:(Value.agg cs).cells.toList=cs.toList:=rfl
 rw[hcs] at h
 have hr:=nw (sh:=[.i .i64, .i .i64, .i .i64, .b, .i .i64, .i .i64, .b, .b, .i .i64, .b, .sl 32, .i .i64]) (fuel:=7) hfs (by kernel_rfl) (by kernel_rfl) h
 have hts':ts=[3,3,3,4,3,3,4,4,3,4,32,3]:=by
  have:prog.cellTypes prog.depth 54=some [3,3,3,4,3,3,4,4,3,4,32,3]:=by kernel_rfl
  rw[this] at hts;cases hts;rfl
 subst hts'
 obtain⟨l⟩:=cs
 obtain⟨q,v,now,rfl,n0,y0,g0⟩:=MM hr
 obtain⟨ls,s1,_⟩:=ml (sh:=[.b, .i .i64, .i .i64, .i .i64, .i .i64, .i .i64, .i .i64, .i .i64, .b]) (row:=ak.row) (e:=62) (sz:=9) (by kernel_rfl) (by kernel_rfl) (by decide) (by kernel_rfl) (by kernel_rfl) rfl (fun r hr=>EI hr) g0
 refine⟨q,v,now,ls,rfl,s1,fun a n c hvv=>?_⟩
 subst hvv
 obtain⟨u,h1,h2⟩:=hcell 10 _ rfl
 have:u=32:=by
  have h3:[3,3,3,4,3,3,4,4,3,4,32,3][10 % 12]? =some u:=h1
  cases h3;rfl
 subst this
 exact sG (e:=62) (by kernel_rfl) h2
end
end Go.Proofs.Nw
