/-
  A part of the proof: lemmas of my own.
-/
import Derived.Test.YtjpejffimncofaaPC
import Derived.KernelRfl
import Derived.WalkKit
import Derived.Below
import Derived.Lib.Hide
import Derived.LoopTactic
import Derived.Laws.IdiomStrings
import Derived.Laws.StructEq
set_option linter.unusedVariables false
set_option linter.unusedSimpArgs false
namespace Go.Proofs.Nw
open Go Go.AV
set_option maxRecDepth 1000000
noncomputable section
abbrev P2:List (Nat × Nat):=[YB,je,(4,4)]
abbrev Qy:Nat->Option Nat:=aq P2 []
abbrev S8:Prop:=Rs (BQ [] 0 4 89)
abbrev TT(n i j:Nat):List (Nat × Value):=[eM n,(5,eo n),(6,cX n),(7,Gj),(8,IV i),Ga j]
abbrev Qx(d1 d2:aZ):List (Nat × aa):=[(0,YW d1),(1,YW d2),(4,BQ [] 0 4 89)]
abbrev ND:List (Nat × Nat):=[YB,je,(4,8)]
abbrev TS(n i j:Nat):List (Nat × Value):=[eM n,(5,eo n),(6,cX n),(7,SL 4 2 2),(8,IV i),Ga j]
abbrev MB:List (Nat × Nat):=[YB,je,(4,6)]
abbrev NC:Nat->Option Nat:=aq MB []
abbrev NB(n i j:Nat):List (Nat × Value):=[eM n,(5,eo n),(6,cX n),(7,SL 4 1 1),(8,IV i),Ga j]
noncomputable abbrev S7:Code:=ah (ag Try.f48) 0
theorem SI(z:T aa)(zn n i j k1 k2:Nat)(d1 d2 b1 b2:aZ)(u f:Int)(Q:QL)(hyp:Br (decide ((↑j:Int)<(↑n:Int))) (Br ((↑i:Int)==(↑j:Int)) (ZV (IntKind.i64.wrap ((↑j:Int)+1))=IV (j+1)/\E6 107 z zn (R6 (IV n) (eo n) (cX n) Gj (IV i) (IV (j+1)) (K2 Qy (YW d1) (YW d2) (S8/\Q aN (TT n i j) (Qx d1 d2) 5 z zn)))) (YU i/\i<n/\oc d1 i k1 n/\YU j/\j<n/\ia k1/\iA z k1 b1/\oe b1 j u/\Br (decide (u>14400)) (ZV (IntKind.i64.wrap ((↑j:Int)+1))=IV (j+1)/\E6 107 z zn (R6 (IV n) (eo n) (cX n) Gj (IV i) (IV (j+1)) (K2 Qy (YW d1) (YW d2) (S8/\Q aN (TT n i j) (Qx d1 d2) 5 z zn)))) (YU i/\i<n/\oc d1 i k1 n/\YU j/\j<n/\ia k1/\iA z k1 b1/\oe b1 j u/\YU i/\i<n/\oc d2 i k2 n/\YU j/\j<n/\ia k2/\iA z k2 b2/\oe b2 j f/\YU i/\i<n/\oc d1 i k1 n/\YU j/\j<n/\ia k1/\iA z k1 b1/\oe b1 j u/\Br (f==u) (YU i/\i<n/\oc d2 i k2 n/\YU j/\j<n/\ia k2/\iA z k2 b2/\oe b2 j f/\YU i/\i<n/\oc d1 i k1 n/\YU j/\j<n/\ia k1/\iA z k1 b1/\oe b1 j u/\Br (decide (f>u)) (YU i/\i<n/\oc d2 i k2 n/\YU j/\j<n/\ia k2/\iA z k2 b2/\oe b2 j f/\Br (decide (f<=14400)) (YU i/\i<n/\oc d2 i k2 n/\YU j/\j<n/\ia k2/\iA z k2 b2/\oe b2 j f/\ZV (IntKind.i64.wrap ((↑j:Int)+1))=IV (j+1)/\E6 107 z zn (R6 (IV n) (eo n) (cX n) (SL 8 2 2) (IV i) (IV (j+1)) (K2 (aq ND []) (YW d1) (YW d2) (Rs (BR [IV i,IV j,ZV u,T1,IV i,IV j,ZV f,T1] 8 4 89)/\Q aN (TS n i j) [(0,YW d1),(1,YW d2),(4,BR [IV i,IV j,ZV u,T1,IV i,IV j,ZV f,T1] 8 4 89)] 5 z zn)))) (ZV (IntKind.i64.wrap ((↑j:Int)+1))=IV (j+1)/\E6 107 z zn (R6 (IV n) (eo n) (cX n) NI (IV i) (IV (j+1)) (K2 NC (YW d1) (YW d2) (Rs (BR [IV i,IV j,ZV u,T1] 4 4 89)/\Q aN (NB n i j) [(0,YW d1),(1,YW d2),(4,BR [IV i,IV j,ZV u,T1] 4 4 89)] 5 z zn))))) (ZV (IntKind.i64.wrap ((↑j:Int)+1))=IV (j+1)/\E6 107 z zn (R6 (IV n) (eo n) (cX n) NI (IV i) (IV (j+1)) (K2 NC (YW d1) (YW d2) (Rs (BR [IV i,IV j,ZV u,T1] 4 4 89)/\Q aN (NB n i j) [(0,YW d1),(1,YW d2),(4,BR [IV i,IV j,ZV u,T1] 4 4 89)] 5 z zn))))) (YU i/\i<n/\oc d2 i k2 n/\YU j/\j<n/\ia k2/\iA z k2 b2/\oe b2 j f/\YU i/\i<n/\oc d1 i k1 n/\YU j/\j<n/\ia k1/\iA z k1 b1/\oe b1 j u/\Br (decide (f>u)) (YU i/\i<n/\oc d2 i k2 n/\YU j/\j<n/\ia k2/\iA z k2 b2/\oe b2 j f/\Br (decide (f<=14400)) (YU i/\i<n/\oc d2 i k2 n/\YU j/\j<n/\ia k2/\iA z k2 b2/\oe b2 j f/\ZV (IntKind.i64.wrap ((↑j:Int)+1))=IV (j+1)/\E6 107 z zn (R6 (IV n) (eo n) (cX n) (SL 8 2 2) (IV i) (IV (j+1)) (K2 (aq ND []) (YW d1) (YW d2) (Rs (BR [IV i,IV j,ZV u,F0,IV i,IV j,ZV f,T1] 8 4 89)/\Q aN (TS n i j) [(0,YW d1),(1,YW d2),(4,BR [IV i,IV j,ZV u,F0,IV i,IV j,ZV f,T1] 8 4 89)] 5 z zn)))) (ZV (IntKind.i64.wrap ((↑j:Int)+1))=IV (j+1)/\E6 107 z zn (R6 (IV n) (eo n) (cX n) NI (IV i) (IV (j+1)) (K2 NC (YW d1) (YW d2) (Rs (BR [IV i,IV j,ZV u,F0] 4 4 89)/\Q aN (NB n i j) [(0,YW d1),(1,YW d2),(4,BR [IV i,IV j,ZV u,F0] 4 4 89)] 5 z zn))))) (ZV (IntKind.i64.wrap ((↑j:Int)+1))=IV (j+1)/\E6 107 z zn (R6 (IV n) (eo n) (cX n) NI (IV i) (IV (j+1)) (K2 NC (YW d1) (YW d2) (Rs (BR [IV i,IV j,ZV u,F0] 4 4 89)/\Q aN (NB n i j) [(0,YW d1),(1,YW d2),(4,BR [IV i,IV j,ZV u,F0] 4
 4 89)] 5 z zn)))))))) (E6 107 z zn (R5 (IV n) (eo n) (cX n) Gj (IV i) (K2 Qy (YW d1) (YW d2) (S8/\Q Y8 [eM n,(5,eo n),(6,cX n),(7,Gj),(8,IV i)] (Qx d1 d2) 5 z zn))))):RdT Try.prog gH fA (ah S7 0) 107 (vG n 0 i j) z (qv d1 d2 Gh) 5 zn 4 Q:=⟨(tA 1 ((tA 10 (tO (Ym j) (tE P2 [] (TT n i j) (Qx d1 d2) 5 z zn))).fork (tA 3 (tO (Yj i) (tA 1 (tO (nN k1 n) (tA 2 (tO (Yj j) (tA 1 (tO (oW k1 b1 u) (tA 1 ((tA 2 (tO (Ym j) (tE P2 [] (TT n i j) (Qx d1 d2) 5 z zn))).fork (tA 2 (tO (Yj i) (tO (nN k1 n) (tO (Yj j) (tO (oW k1 b1 u) (tO (Yj i) (tO (nN k2 n) (tO (Yj j) (tO (oW k2 b2 f) (tO (Yj i) (tO (nN k1 n) (tO (Yj j) (tO (oW k1 b1 u) ((tA 1 (tO (Yj i) (tO (nN k2 n) (tO (Yj j) (tO (oW k2 b2 f) (tO (Yj i) (tO (nN k1 n) (tO (Yj j) (tO (oW k1 b1 u) ((tA 3 (tO (Yj i) (tA 1 (tO (nN k2 n) (tA 2 (tO (Yj j) (tA 1 (tO (oW k2 b2 f) (tA 1 ((tA 2 (tO (Yj i) (tO (nN k2 n) (tO (Yj j) (tO (oW k2 b2 f) (tA 1 (tO (Ym j) (tE ND [] (TS n i j) [(0,YW d1),(1,YW d2),(4,BR [IV i,IV j,ZV u,T1,IV i,IV j,ZV f,T1] 8 4 89)] 5 z zn)))))))).fork (tA 2 (tO (Ym j) (tE MB [] (NB n i j) [(0,YW d1),(1,YW d2),(4,BR [IV i,IV j,ZV u,T1] 4 4 89)] 5 z zn))))))))))))).fork (tA 10 (tO (Ym j) (tE MB [] (NB n i j) [(0,YW d1),(1,YW d2),(4,BR [IV i,IV j,ZV u,T1] 4 4 89)] 5 z zn))))))))))))).fork (tA 1 (tO (Yj i) (tO (nN k2 n) (tO (Yj j) (tO (oW k2 b2 f) (tO (Yj i) (tO (nN k1 n) (tO (Yj j) (tO (oW k1 b1 u) ((tA 3 (tO (Yj i) (tA 1 (tO (nN k2 n) (tA 2 (tO (Yj j) (tA 1 (tO (oW k2 b2 f) (tA 1 ((tA 2 (tO (Yj i) (tO (nN k2 n) (tO (Yj j) (tO (oW k2 b2 f) (tA 1 (tO (Ym j) (tE ND [] (TS n i j) [(0,YW d1),(1,YW d2),(4,BR [IV i,IV j,ZV u,F0,IV i,IV j,ZV f,T1] 8 4 89)] 5 z zn)))))))).fork (tA 2 (tO (Ym j) (tE MB [] (NB n i j) [(0,YW d1),(1,YW d2),(4,BR [IV i,IV j,ZV u,F0] 4 4 89)] 5 z zn))))))))))))).fork (tA 10 (tO (Ym j) (tE MB [] (NB n i j) [(0,YW d1),(1,YW d2),(4,BR [IV i,IV j,ZV u,F0] 4 4 89)] 5 z zn))))))))))))))))))))))))))))))))))))))).fork (tA 1 (tE P2 [] [eM n,(5,eo n),(6,cX n),(7,Gj),(8,IV i)] (Qx d1 d2) 5 z zn)),Eq.mp (by kernel_rfl) hyp⟩
abbrev T7(n k i j:Nat):List (Nat × Value):=[eM n,(5,eo n),(6,cX n),(7,SL 4 k k),(8,IV i),Ga j]
abbrev QD(d1 d2:aZ)(cs:List Value)(k:Nat):List (Nat × aa):=[(0,YW d1),(1,YW d2),(4,BR cs (k*4) 4 89)]
abbrev T6(n k i j:Nat):List (Nat × Value):=[eM n,(5,eo n),(6,cX n),(7,SL 4 (k+1+1) (k+1+1)),(8,IV i),Ga j]
abbrev NM(n k i j:Nat):List (Nat × Value):=[eM n,(5,eo n),(6,cX n),(7,SL 4 (k+1) (k+1)),(8,IV i),Ga j]
abbrev T5(d1 d2:aZ)(cs:List Value)(i j:Nat)(u:Int)(k:Nat):List (Nat × aa):=[(0,YW d1),(1,YW d2),(4,BR (cs++[IV i,IV j,ZV u,T1]) ((k+1)*4) 4 89)]
abbrev T4(d1 d2:aZ)(cs:List Value)(i j:Nat)(u:Int)(k:Nat):List (Nat × aa):=[(0,YW d1),(1,YW d2),(4,BR (cs++[IV i,IV j,ZV u,F0]) ((k+1)*4) 4 89)]
theorem Zl(z:T aa)(zn n k i j k1 k2:Nat)(d1 d2 b1 b2:aZ)(u f:Int)(cs:List Value)(Q:QL)(hyp:Br (decide ((↑j:Int)<(↑n:Int))) (Br ((↑i:Int)==(↑j:Int)) (ZV (IntKind.i64.wrap ((↑j:Int)+1))=IV (j+1)/\E6 107 z zn (R6 (IV n) (eo n) (cX n) (SL 4 k k) (IV i) (IV (j+1)) (K3 Qy (YW d1) (YW d2) (BR cs (k*4) 4 89) (Q aN (T7 n k i j) (QD d1 d2 cs k) 5 z zn)))) (YU i/\i<n/\oc d1 i k1 n/\YU j/\j<n/\ia k1/\iA z k1 b1/\oe b1 j u/\Br (decide (u>14400)) (ZV (IntKind.i64.wrap ((↑j:Int)+1))=IV (j+1)/\E6 107 z zn (R6 (IV n) (eo n) (cX n) (SL 4 k k) (IV i) (IV (j+1)) (K3 Qy (YW d1) (YW d2) (BR cs (k*4) 4 89) (Q aN (T7 n k i j) (QD d1 d2 cs k) 5 z zn)))) (YU i/\i<n/\oc d1 i k1 n/\YU j/\j<n/\ia k1/\iA z k1 b1/\oe b1 j u/\YU i/\i<n/\oc d2 i k2 n/\YU j/\j<n/\ia k2/\iA z k2 b2/\oe b2 j f/\YU i/\i<n/\oc d1 i k1 n/\YU j/\j<n/\ia k1/\iA z k1 b1/\oe b1 j u/\Br (f==u) (Rs [IV i,IV j,ZV u,T1]/\Rf k/\cs.length=k*4/\Rf (k*4)/\k+1<=1048576/\YU i/\i<n/\oc d2 i k2 n/\YU j/\j<n/\ia k2/\iA z k2 b2/\oe b2 j f/\YU i/\i<n/\oc d1 i k1 n/\YU j/\j<n/\ia k1/\iA z k1 b1/\oe b1 j u/\Br (decide (f>u)) (YU i/\i<n/\oc d2 i k2 n/\YU j/\j<n/\ia k2/\iA z k2 b2/\oe b2 j f/\Br (decide (f<=14400)) (YU i/\i<n/\oc d2 i k2 n/\YU j/\j<n/\ia k2/\iA z k2 b2/\oe b2 j f/\Rs [IV i,IV j,ZV f,T1]/\Rf (k+1)/\(cs++[IV i,IV j,ZV u,T1]).length=(k+1)*4/\Rf ((k+1)*4)/\k+1+1<=1048576/\ZV (IntKind.i64.wrap ((↑j:Int)+1))=IV (j+1)/\E6 107 z zn (R6 (IV n) (eo n) (cX n) (SL 8 (k+1+1) (k+1+1)) (IV i) (IV (j+1)) (K3 (aq ND []) (YW d1) (YW d2) (BR (cs++[IV i,IV j,ZV u,T1]++[IV i,IV j,ZV f,T1]) ((k+1+1)*4) 4 89) (Q aN (T6 n k i j) [(0,YW d1),(1,YW d2),(4,BR (cs++[IV i,IV j,ZV u,T1]++[IV i,IV j,ZV f,T1]) ((k+1+1)*4) 4 89)] 5 z zn)))) (ZV (IntKind.i64.wrap ((↑j:Int)+1))=IV (j+1)/\E6 107 z zn (R6 (IV n) (eo n) (cX n) (NH k) (IV i) (IV (j+1)) (K3 NC (YW d1) (YW d2) (BR (cs++[IV i,IV j,ZV u,T1]) ((k+1)*4) 4 89) (Q aN (NM n k i j) (T5 d1 d2 cs i j u k) 5 z zn))))) (ZV (IntKind.i64.wrap ((↑j:Int)+1))=IV (j+1)/\E6 107 z zn (R6 (IV n) (eo n) (cX n) (NH k) (IV i) (IV (j+1)) (K3 NC (YW d1) (YW d2) (BR (cs++[IV i,IV j,ZV u,T1]) ((k+1)*4) 4 89) (Q aN (NM n k i j) (T5 d1 d2 cs i j u k) 5 z zn))))) (Rs [IV i,IV j,ZV u,F0]/\Rf k/\cs.length=k*4/\Rf (k*4)/\k+1<=1048576/\YU i/\i<n/\oc d2 i k2 n/\YU j/\j<n/\ia k2/\iA z k2 b2/\oe b2 j f/\YU i/\i<n/\oc d1 i k1 n/\YU j/\j<n/\ia k1/\iA z k1 b1/\oe b1 j u/\Br (decide (f>u)) (YU i/\i<n/\oc d2 i k2 n/\YU j/\j<n/\ia k2/\iA z k2 b2/\oe b2 j f/\Br (decide (f<=14400)) (YU i/\i<n/\oc d2 i k2 n/\YU j/\j<n/\ia k2/\iA z k2 b2/\oe b2 j f/\Rs [IV i,IV j,ZV f,T1]/\Rf (k+1)/\(cs++[IV i,IV j,ZV u,F0]).length=(k+1)*4/\Rf ((k+1)*4)/\k+1+1<=1048576/\ZV (IntKind.i64.wrap ((↑j:Int)+1))=IV (j+1)/\E6 107 z zn (R6 (IV n) (eo n) (cX n) (SL 8 (k+1+1) (k+1+1)) (IV i) (IV (j+1)) (K3 (aq ND []) (YW d1) (YW d2) (BR (cs++[IV i,IV j,ZV u,F0]++[IV i,IV j,ZV f,T1]) ((k+1+1)*4) 4 89) (Q aN (T6 n k i j) [(0,YW d1),(1,YW d2),(4,BR (cs++[IV i,IV j,ZV u,F0]++[IV i,IV j,ZV f,T1]) ((k+1+1)*4) 4 89)] 5 z zn)))) (ZV
 (IntKind.i64.wrap ((↑j:Int)+1))=IV (j+1)/\E6 107 z zn (R6 (IV n) (eo n) (cX n) (NH k) (IV i) (IV (j+1)) (K3 NC (YW d1) (YW d2) (BR (cs++[IV i,IV j,ZV u,F0]) ((k+1)*4) 4 89) (Q aN (NM n k i j) (T4 d1 d2 cs i j u k) 5 z zn))))) (ZV (IntKind.i64.wrap ((↑j:Int)+1))=IV (j+1)/\E6 107 z zn (R6 (IV n) (eo n) (cX n) (NH k) (IV i) (IV (j+1)) (K3 NC (YW d1) (YW d2) (BR (cs++[IV i,IV j,ZV u,F0]) ((k+1)*4) 4 89) (Q aN (NM n k i j) (T4 d1 d2 cs i j u k) 5 z zn)))))))) (E6 107 z zn (R5 (IV n) (eo n) (cX n) (SL 4 k k) (IV i) (K3 Qy (YW d1) (YW d2) (BR cs (k*4) 4 89) (Q Y8 [eM n,(5,eo n),(6,cX n),(7,SL 4 k k),(8,IV i)] (QD d1 d2 cs k) 5 z zn))))):RdT Try.prog gH fA (ah S7 0) 107 (vG n k i j) z (qv d1 d2 (Qs cs k)) 5 zn 4 Q:=⟨(tA 1 ((tA 10 (tO (Ym j) (tE P2 [] (T7 n k i j) (QD d1 d2 cs k) 5 z zn))).fork (tA 3 (tO (Yj i) (tA 1 (tO (nN k1 n) (tA 2 (tO (Yj j) (tA 1 (tO (oW k1 b1 u) (tA 1 ((tA 2 (tO (Ym j) (tE P2 [] (T7 n k i j) (QD d1 d2 cs k) 5 z zn))).fork (tA 2 (tO (Yj i) (tO (nN k1 n) (tO (Yj j) (tO (oW k1 b1 u) (tO (Yj i) (tO (nN k2 n) (tO (Yj j) (tO (oW k2 b2 f) (tO (Yj i) (tO (nN k1 n) (tO (Yj j) (tO (oW k1 b1 u) ((tX (kZ.grow 1 [IV i,IV j,ZV u,T1]) (tO (Yj i) (tO (nN k2 n) (tO (Yj j) (tO (oW k2 b2 f) (tO (Yj i) (tO (nN k1 n) (tO (Yj j) (tO (oW k1 b1 u) ((tA 3 (tO (Yj i) (tA 1 (tO (nN k2 n) (tA 2 (tO (Yj j) (tA 1 (tO (oW k2 b2 f) (tA 1 ((tA 2 (tO (Yj i) (tO (nN k2 n) (tO (Yj j) (tO (oW k2 b2 f) (tX (kZ.grow 1 [IV i,IV j,ZV f,T1]) (tO (Ym j) (tE ND [] (T6 n k i j) [(0,YW d1),(1,YW d2),(4,BR (cs++[IV i,IV j,ZV u,T1]++[IV i,IV j,ZV f,T1]) ((k+1+1)*4) 4 89)] 5 z zn)))))))).fork (tA 2 (tO (Ym j) (tE MB [] (NM n k i j) (T5 d1 d2 cs i j u k) 5 z zn))))))))))))).fork (tA 10 (tO (Ym j) (tE MB [] (NM n k i j) (T5 d1 d2 cs i j u k) 5 z zn))))))))))))).fork (tX (kZ.grow 1 [IV i,IV j,ZV u,F0]) (tO (Yj i) (tO (nN k2 n) (tO (Yj j) (tO (oW k2 b2 f) (tO (Yj i) (tO (nN k1 n) (tO (Yj j) (tO (oW k1 b1 u) ((tA 3 (tO (Yj i) (tA 1 (tO (nN k2 n) (tA 2 (tO (Yj j) (tA 1 (tO (oW k2 b2 f) (tA 1 ((tA 2 (tO (Yj i) (tO (nN k2 n) (tO (Yj j) (tO (oW k2 b2 f) (tX (kZ.grow 1 [IV i,IV j,ZV f,T1]) (tO (Ym j) (tE ND [] (T6 n k i j) [(0,YW d1),(1,YW d2),(4,BR (cs++[IV i,IV j,ZV u,F0]++[IV i,IV j,ZV f,T1]) ((k+1+1)*4) 4 89)] 5 z zn)))))))).fork (tA 2 (tO (Ym j) (tE MB [] (NM n k i j) (T4 d1 d2 cs i j u k) 5 z zn))))))))))))).fork (tA 10 (tO (Ym j) (tE MB [] (NM n k i j) (T4 d1 d2 cs i j u k) 5 z zn))))))))))))))))))))))))))))))))))))))).fork (tA 1 (tE P2 [] [eM n,(5,eo n),(6,cX n),(7,SL 4 k k),(8,IV i)] (QD d1 d2 cs k) 5 z zn)),Eq.mp (by kernel_rfl) hyp⟩
noncomputable abbrev ZK(n i:Nat)(d1 d2:aZ)(z:T aa)(zn:Nat):qo->au:=fun(s:qo)=>au.mk Y8 [(1,iv n),(5,bc 0 n n),(6,bc 1 n n),(7,bc 4 s.k s.k),(8,iv i)] (qv d1 d2 s.bl) 5 z zn
theorem Zm(z:T aa)(zn n k i:Nat)(d1 d2 o:aZ)(φ:qo->Prop)(Q:QL)(hyp:Br (decide ((↑i:Int)<(↑n:Int))) (Rf 4/\ai Try.prog (ah S7 0) 4 107 (vG n k i 0) (qv d1 d2 o) 5 z zn (Al.cons qo φ (ZK n i d1 d2 z zn) (fun(x:qo)=>dN) Al.nil).R/\E6 107 z zn (R6 (IV n) (eo n) (cX n) (SL 3 k k) (IV i) YM (K3 (aq [YB,je,(4,3)] []) (YW d1) (YW d2) (YW o) (∀(x:qo),φ x->ZV (IntKind.i64.wrap ((↑i:Int)+1))=IV (i+1)/\E6 107 z zn (R5 (IV n) (eo n) (cX n) (SL 4 x.k x.k) (IV (i+1)) (K3 (aq [YB,je,(3,4)] []) (YW d1) (YW d2) (aa.ay x.bl) (Q aN [eM n,(5,eo n),(6,cX n),(7,SL 3 x.k x.k),F7 i] [(0,YW d1),(1,YW d2),(3,aa.ay x.bl)] 4 z zn))))))) (E6 107 z zn (Rs (SL 3 k k)/\KO (aq [(3,3)] []) (YW o)/\Q YO [zh k] [(3,YW o)] 4 z zn))):RdT Try.prog gH fA S7 107 (Ar n k i) z (MX d1 d2 o) 4 zn 3 Q:=⟨(tA 1 (Tr.lp 4 107 [YB,je,(4,3)] [] (vG n k i 0) (qv d1 d2 o) 5 z zn (Al.cons qo φ (ZK n i d1 d2 z zn) (fun(x:qo)=>tO (Ym i) (tE [YB,je,(3,4)] [] [eM n,(5,eo n),(6,cX n),(7,SL 3 x.k x.k),F7 i] [(0,YW d1),(1,YW d2),(3,aa.ay x.bl)] 4 z zn)) Al.nil))).fork (tA 1 (tE [(3,3)] [] [zh k] [(3,YW o)] 4 z zn)),Eq.mp (by kernel_rfl) hyp⟩
abbrev NL(n:Nat):dy->Value:=fun(x:dy)=>bc 0 n n
abbrev NK:dy->Nat:=fun(x:dy)=>x.zn
noncomputable abbrev ZJ(x_1:dy):qo->au:=fun(s:qo)=>au.mk YO [(7,bc 3 s.k s.k)] [(3,aa.ay s.bl)] 4 x_1.z x_1.zn
abbrev ZC(n:Nat)(x x_1:dy)(χ:dy->dy->qo->Prop):Prop:=ai Try.prog S7 3 107 (Ar n 0 0) (MX x.bl x_1.bl Gh) 4 x_1.z x_1.zn (Al.cons qo (χ x x_1) (ZJ x_1) (fun(x:qo)=>dN) Al.nil).R
noncomputable abbrev ZB(n:Nat)(x:dy)(χ:dy->dy->qo->Prop):dy->Tr:=fun(x_1:dy)=>Tr.lp 3 107 [YB,je,(3,2)] [] (Ar n 0 0) (MX x.bl x_1.bl Gh) 4 x_1.z x_1.zn (Al.cons qo (χ x x_1) (ZJ x_1) (fun(x:qo)=>tR [(0,3)] [] (SL 0 x.k x.k) [(0,aa.ay x.bl)] 1 x_1.z x_1.zn) Al.nil)
theorem cq(z:T aa)(zn m cp n:Nat)(φ:dy->Prop)(ψ:dy->dy->Prop)(χ:dy->dy->qo->Prop)(Q:QF)(hyp:aV Try.prog z zn 57 [fK m cp,IV n,F0] [] 0 1 φ (NL n) (fun(s:dy)=>[(0,kC s)]) (fun(x:dy)=>x.z) NK/\Rs [fK m cp,IV n,F0]/\ ∀(x:dy),φ x->Rs (eo n)/\KO (sig YC) (kC x)/\aV Try.prog x.z x.zn 57 [fK m cp,IV n,T1] [] 0 1 (ψ x) (NL n) (fun(s:dy)=>[(0,kC s)]) (fun(x:dy)=>x.z) NK/\Rs [fK m cp,IV n,T1]/\ ∀(x_1:dy),ψ x x_1->Rs (eo n)/\KO (sig Bn) (kC x_1)/\BJ/\ZC n x x_1 χ/\E6 107 x_1.z x_1.zn (R5 (IV n) (eo n) (cX n) (SL 2 0 0) YM (K2 (aq [YB,je,(3,2)] []) (kC x) (kC x_1) (S8/\ ∀(x_2:qo),χ x x_1 x_2->E6 107 x_1.z x_1.zn (KO (aq [(0,3)] []) (aa.ay x_2.bl)/\Rs (SL 3 x_2.k x_2.k)/\Q (SL 0 x_2.k x_2.k) [(0,aa.ay x_2.bl)] 1 x_1.z x_1.zn))))):FnT Try.prog gH fA Try.f48 [tb 4 m cp,iv n] z [] 0 zn Q:=⟨Tr.cm (Cm.mk [fK m cp,IV n,F0] [] 0 1 [] YC 1) dy φ (NL n) (fun(s:dy)=>[(0,kC s)]) (fun(x:dy)=>eo n) (fun(x:dy)=>[(0,kC x)]) (fun(x:dy)=>x.z) NK fun(x:dy)=>Tr.cm (Cm.mk [fK m cp,IV n,T1] [] 0 1 [] Bn 2) dy (ψ x) (NL n) (fun(s:dy)=>[(0,kC s)]) (fun(x:dy)=>cX n) (fun(x:dy)=>[(1,kC x)]) (fun(x:dy)=>x.z) NK (ZB n x χ),Eq.mp (by kernel_rfl) hyp⟩
theorem cqn(z:T aa)(zn n:Nat)(φ:dy->Prop)(ψ:dy->dy->Prop)(χ:dy->dy->qo->Prop)(Q:QF)(hyp:aV Try.prog z zn 57 [Y5,IV n,F0] [] 0 1 φ (NL n) (fun(s:dy)=>[(0,kC s)]) (fun(x:dy)=>x.z) NK/\Rs [Y5,IV n,F0]/\ ∀(x:dy),φ x->Rs (eo n)/\KO (sig YC) (kC x)/\aV Try.prog x.z x.zn 57 [Y5,IV n,T1] [] 0 1 (ψ x) (NL n) (fun(s:dy)=>[(0,kC s)]) (fun(x:dy)=>x.z) NK/\Rs [Y5,IV n,T1]/\ ∀(x_1:dy),ψ x x_1->Rs (eo n)/\KO (sig Bn) (kC x_1)/\BJ/\ZC n x x_1 χ/\E6 107 x_1.z x_1.zn (R5 (IV n) (eo n) (cX n) (SL 2 0 0) YM (K2 (aq [YB,je,(3,2)] []) (kC x) (kC x_1) (S8/\ ∀(x_2:qo),χ x x_1 x_2->E6 107 x_1.z x_1.zn (KO (aq [(0,3)] []) (aa.ay x_2.bl)/\Rs (SL 3 x_2.k x_2.k)/\Q (SL 0 x_2.k x_2.k) [(0,aa.ay x_2.bl)] 1 x_1.z x_1.zn))))):FnT Try.prog gH fA Try.f48 [aw,iv n] z [] 0 zn Q:=⟨Tr.cm (Cm.mk [Y5,IV n,F0] [] 0 1 [] YC 1) dy φ (NL n) (fun(s:dy)=>[(0,kC s)]) (fun(x:dy)=>eo n) (fun(x:dy)=>[(0,kC x)]) (fun(x:dy)=>x.z) NK fun(x:dy)=>Tr.cm (Cm.mk [Y5,IV n,T1] [] 0 1 [] Bn 2) dy (ψ x) (NL n) (fun(s:dy)=>[(0,kC s)]) (fun(x:dy)=>cX n) (fun(x:dy)=>[(1,kC x)]) (fun(x:dy)=>x.z) NK (ZB n x χ),Eq.mp (by kernel_rfl) hyp⟩
abbrev F1(x:ae):aa:=BQ [ZV x.from_,ZV x.ax,ZV x.aI,Value.bool x.sf] 4 1 89
noncomputable abbrev Qw:Code:=ah (ag Try.f36) 0
theorem X7(z:T aa)(zn i k:Nat)(N:aA)(kb:aZ)(x y:ae)(Q:QL)(hyp:Br (decide ((↑k:Int)<(↑i:Int))) (YU k/\k<N.np/\N1/\N0 z kb/\Ep kb k y/\Br (y.from_==x.from_) (Br (y.ax==x.ax) (Br y.sf (Br x.sf (E6 111 z zn (R2 (IV i) Ye (Q af.ret (Yf i) [] 2 z zn))) (ZV (IntKind.i64.wrap ((↑k:Int)+1))=IV (k+1)/\E6 111 z zn (R4 bA (IV i) eW (IV (k+1)) (KO jv (mA N)/\Rs (F1 x)/\Q aN (J6 i k) [(0,mA N),(1,F1 x)] 2 z zn)))) (Br x.sf (ZV (IntKind.i64.wrap ((↑k:Int)+1))=IV (k+1)/\E6 111 z zn (R4 bA (IV i) eW (IV (k+1)) (KO jv (mA N)/\Rs (F1 x)/\Q aN (J6 i k) [(0,mA N),(1,F1 x)] 2 z zn))) (E6 111 z zn (R2 (IV i) Ye (Q af.ret (Yf i) [] 2 z zn))))) (ZV (IntKind.i64.wrap ((↑k:Int)+1))=IV (k+1)/\E6 111 z zn (R4 bA (IV i) eW (IV (k+1)) (KO jv (mA N)/\Rs (F1 x)/\Q aN (J6 i k) [(0,mA N),(1,F1 x)] 2 z zn)))) (ZV (IntKind.i64.wrap ((↑k:Int)+1))=IV (k+1)/\E6 111 z zn (R4 bA (IV i) eW (IV (k+1)) (KO jv (mA N)/\Rs (F1 x)/\Q aN (J6 i k) [(0,mA N),(1,F1 x)] 2 z zn)))) (E6 111 z zn (R2 bA (IV i) (KO YD (mA N)/\Q Y8 [iB,(4,IV i)] [(0,mA N)] 2 z zn)))):RdT Try.prog gP z (ah Qw 0) 111 (yb i k) z [zj N,(1,xR x)] 2 zn 2 Q:=⟨(tA 2 (tO (Yj k) (tO (N5 kb y) (tA 3 ((tA 7 ((tA 3 ((tA 2 ((tA 4 (tE [] [] (Yf i) [] 2 z zn)).fork (tA 4 (tO (Ym k) (tE cY [] (J6 i k) [(0,mA N),(1,F1 x)] 2 z zn))))).fork (tA 2 ((tA 4 (tO (Ym k) (tE cY [] (J6 i k) [(0,mA N),(1,F1 x)] 2 z zn))).fork (tA 4 (tE [] [] (Yf i) [] 2 z zn)))))).fork (tA 8 (tO (Ym k) (tE cY [] (J6 i k) [(0,mA N),(1,F1 x)] 2 z zn))))).fork (tA 13 (tO (Ym k) (tE cY [] (J6 i k) [(0,mA N),(1,F1 x)] 2 z zn)))))))).fork (tA 1 (tE YC [] [iB,(4,IV i)] [(0,mA N)] 2 z zn)),Eq.mp (by kernel_rfl) hyp⟩
abbrev ZA(x:ae):Value:=Value.bool (decide (1<=x.aI) && decide (x.aI<=14400))
theorem X8(z:T aa)(zn i:Nat)(N:aA)(kb:aZ)(x:ae)(b:Bool)(Q:QL)(hyp:Br (decide ((↑i:Int)<(↑N.np:Int))) (YU i/\i<N.np/\N1/\N0 z kb/\Ep kb i x/\ZV (IntKind.i64.wrap ((↑N.ns:Int) - 1))=ZV ((↑N.ns:Int) - 1)/\Rf z/\gP 45 [ZV x.from_,YM,ZV ((↑N.ns:Int) - 1)]=some (Value.bool (decide (0<=x.from_) && decide (x.from_<=(↑N.ns:Int) - 1)))/\Br (!(decide (0<=x.from_) && decide (x.from_<=(↑N.ns:Int) - 1))) ((!(decide (0<=x.from_) && decide (x.from_<=(↑N.ns:Int) - 1)))=true/\(!(decide (0<=x.from_) && decide (x.from_<=(↑N.ns:Int) - 1)))=true/\(!(decide (0<=x.from_) && decide (x.from_<=(↑N.ns:Int) - 1)))=true/\(!(decide (0<=x.from_) && decide (x.from_<=(↑N.ns:Int) - 1)))=true/\(!(decide (0<=x.from_) && decide (x.from_<=(↑N.ns:Int) - 1)))=true/\(!(decide (0<=x.from_) && decide (x.from_<=(↑N.ns:Int) - 1)))=true/\(!(decide (0<=x.from_) && decide (x.from_<=(↑N.ns:Int) - 1)))=true/\(!(decide (0<=x.from_) && decide (x.from_<=(↑N.ns:Int) - 1)))=true/\E6 111 z zn (R2 (IV i) (I 9) (Q af.ret [(2,IV i),(3,I 9)] [] 1 z zn))) ((!(decide (0<=x.from_) && decide (x.from_<=(↑N.ns:Int) - 1)))=false/\(!(decide (0<=x.from_) && decide (x.from_<=(↑N.ns:Int) - 1)))=false/\(!(decide (0<=x.from_) && decide (x.from_<=(↑N.ns:Int) - 1)))=false/\(!(decide (0<=x.from_) && decide (x.from_<=(↑N.ns:Int) - 1)))=false/\(!(decide (0<=x.from_) && decide (x.from_<=(↑N.ns:Int) - 1)))=false/\ZV (IntKind.i64.wrap ((↑N.ns:Int) - 1))=ZV ((↑N.ns:Int) - 1)/\(!(decide (0<=x.from_) && decide (x.from_<=(↑N.ns:Int) - 1)))=false/\Rf z/\gP 45 [ZV x.ax,YM,ZV ((↑N.ns:Int) - 1)]=some (Value.bool (decide (0<=x.ax) && decide (x.ax<=(↑N.ns:Int) - 1)))/\(!(decide (0<=x.from_) && decide (x.from_<=(↑N.ns:Int) - 1)))=false/\(!(decide (0<=x.from_) && decide (x.from_<=(↑N.ns:Int) - 1)))=false/\Br (!(decide (0<=x.ax) && decide (x.ax<=(↑N.ns:Int) - 1))) ((!(decide (0<=x.ax) && decide (x.ax<=(↑N.ns:Int) - 1)))=true/\(!(decide (0<=x.ax) && decide (x.ax<=(↑N.ns:Int) - 1)))=true/\(!(decide (0<=x.ax) && decide (x.ax<=(↑N.ns:Int) - 1)))=true/\(!(decide (0<=x.ax) && decide (x.ax<=(↑N.ns:Int) - 1)))=true/\(!(decide (0<=x.ax) && decide (x.ax<=(↑N.ns:Int) - 1)))=true/\E6 111 z zn (R2 (IV i) (I 9) (Q af.ret [(2,IV i),(3,I 9)] [] 1 z zn))) ((!(decide (0<=x.ax) && decide (x.ax<=(↑N.ns:Int) - 1)))=false/\(!(decide (0<=x.ax) && decide (x.ax<=(↑N.ns:Int) - 1)))=false/\(!(decide (0<=x.ax) && decide (x.ax<=(↑N.ns:Int) - 1)))=false/\(!(decide (0<=x.ax) && decide (x.ax<=(↑N.ns:Int) - 1)))=false/\Br (x.from_==x.ax) ((!(decide (0<=x.ax) && decide (x.ax<=(↑N.ns:Int) - 1)))=false/\E6 111 z zn (R2 (IV i) (I 9) (Q af.ret [(2,IV i),(3,I 9)] [] 1 z zn))) ((!(decide (0<=x.ax) && decide (x.ax<=(↑N.ns:Int) - 1)))=false/\Rf z/\gP 45 [ZV x.aI,I 1,I 14400]=some (ZA x)/\Br (!(decide (1<=x.aI) && decide (x.aI<=14400))) (E6 111 z zn (R2 (IV i) Yg (Q af.ret (Yh i) [] 1 z zn))) (rS/\ai Try.prog (ah Qw 0) 2 111 (yb i 0) [zj N,(1,xR x)] 2 z zn (alt (b=true) (UM i z zn) (alt (b=false) (au.mk Y8 (mw i) [zj N] 2 z zn) Al.nil)).R/\E6 111 z zn (R4 bA (IV i) eW YM (KO jv (mA N)/\Rs (F1
 x)/\(∀(x:Unit),b=true->E6 111 z zn (R2 (IV i) Ye (Q af.ret (Yf i) [] 1 z zn)))/\ ∀(x:Unit),b=false->ZV (IntKind.i64.wrap ((↑i:Int)+1))=IV (i+1)/\E6 111 z zn (R2 bA (IV (i+1)) (KO YD (mA N)/\Q aN [iB,(4,IV (i+1))] [(0,mA N)] 1 z zn))))))))) (E6 111 z zn (vu/\KO YD (mA N)/\Q YO [iB] [(0,mA N)] 1 z zn))):RdT Try.prog gP z Qw 111 (mw i) z [zj N] 1 zn 1 Q:=⟨tA 1 ((tA 2 (tO (Yj i) (tO (N5 kb x) (tA 3 (tO (An.val (ZV ((↑N.ns:Int) - 1))) (tO (An.cl (Value.bool (decide (0<=x.from_) && decide (x.from_<=(↑N.ns:Int) - 1)))) ((tO cM (tO cM (tO cM (tO cM (tO cM (tO cM (tO cM (tO cM (tA 7 (tE [] [] [(2,IV i),(3,I 9)] [] 1 z zn)))))))))).fork (tO bU (tA 1 (tO bU (tO bU (tA 1 (tO bU (tO bU (tO (An.val (ZV ((↑N.ns:Int) - 1))) (tO bU (tO (An.cl (Value.bool (decide (0<=x.ax) && decide (x.ax<=(↑N.ns:Int) - 1)))) (tO bU (tO bU ((tO cM (tO cM (tO cM (tO cM (tO cM (tA 1 (tE [] [] [(2,IV i),(3,I 9)] [] 1 z zn))))))).fork (tO bU (tA 1 (tO bU (tO bU (tA 1 (tO bU ((tO bU (tA 1 (tE [] [] [(2,IV i),(3,I 9)] [] 1 z zn))).fork (tO bU (tA 2 (tO (An.cl (ZA x)) ((Yk i z zn).fork (Tr.lp 2 111 cY [] (yb i 0) [zj N,(1,xR x)] 2 z zn (Al.cons Unit (YR b) (fun(x:Unit)=>UM i z zn) (fun(x:Unit)=>tE [] [] (Yf i) [] 1 z zn) (Al.cons Unit (YS b) (fun(x:Unit)=>au.mk Y8 (mw i) [zj N] 2 z zn) (fun(x:Unit)=>tO (Ym i) (tE YC [] [iB,(4,IV (i+1))] [(0,mA N)] 1 z zn)) Al.nil)))))))))))))))))))))))))))))))))).fork (tA 1 (tE YC [] [iB] [(0,mA N)] 1 z zn))),Eq.mp (by kernel_rfl) hyp⟩
theorem Vv(z:T aa)(zn:Nat)(N:aA)(Q:QL)(hyp:E6 111 z zn (vu/\KO YD (MG N)/\Q YO [iB] [(0,MG N)] 1 z zn)):RdT Try.prog gP z Qw 111 (mw 0) z [(0,N.cu aw)] 1 zn 1 Q:=⟨tA 3 (tE YC [] [iB] [(0,MG N)] 1 z zn),Eq.mp (by kernel_rfl) hyp⟩
noncomputable abbrev TN:Code:=ah (ag Try.f36) 2
theorem X6(z:T aa)(zn i k:Nat)(N:aA)(kb bl:aZ)(x y:ae)(b:Bool)(Q:QL)(hyp:Br (decide ((↑i:Int)<(↑k:Int))) (YU i/\i<k/\Ep bl i y/\YU i/\i<N.np/\N1/\N0 z kb/\Ep kb i x/\yE Try.prog BinOp.neq 89 (Operand.tmp 104) (Operand.tmp 109) (MH y) (MH x) (gb b)/\Br b (E6 111 z zn (R2 YM (I 18) (Q af.ret [(2,YM),(3,I 18)] [] 2 z zn))) (ZV (IntKind.i64.wrap ((↑i:Int)+1))=IV (i+1)/\E6 111 z zn (R3 bA (cX k) (IV (i+1)) (K2 jv (mA N) (YW bl) (Q aN [iB,(8,cX k),Ga i] [(0,mA N),(1,YW bl)] 2 z zn))))) (E6 111 z zn (Q BE [] [] 2 z zn))):RdT Try.prog gP z TN 111 (se k i) z [zj N,(1,YW bl)] 2 zn 2 Q:=⟨(tA 1 (tO (Yj i) (tO (An.DM (AG y.row)) (tA 1 (tO (Yj i) (tO (N5 kb x) (tX (kZ.bin (gb b)) ((tE [] [] [(2,YM),(3,I 18)] [] 2 z zn).fork (tO (Ym i) (tE cY [] [iB,(8,cX k),Ga i] [(0,mA N),(1,YW bl)] 2 z zn)))))))))).fork (tA 1 (tE [] [] [] [] 2 z zn)),Eq.mp (by kernel_rfl) hyp⟩
theorem Vu(z:T aa)(zn:Nat)(N:aA)(bl:aZ)(Q:QL)(hyp:E6 111 z zn (Q BE [] [] 2 z zn)):RdT Try.prog gP z TN 111 (se 0 0) z [(0,N.cu aw),(1,YW bl)] 2 zn 2 Q:=⟨tA 2 (tE [] [] [] [] 2 z zn),Eq.mp (by kernel_rfl) hyp⟩
abbrev TM:qu->Value:=fun(s:qu)=>bc 0 s.k s.k
abbrev TL:qu->List (Nat × aa):=fun(s:qu)=>[(0,aa.ay s.bl)]
abbrev qh:qu->T aa:=fun(x:qu)=>x.z
abbrev TK:qu->Nat:=fun(x:qu)=>x.zn
abbrev Ju:Value:=TP [YM,I 18]
noncomputable abbrev Zz(x:qu):au:=au.mk af.ret [(2,YM),(3,I 18)] [] 2 (qh x) x.zn
noncomputable abbrev Zy(b:Bool)(x:qu):au->Prop:=(alt (b=false) (Zz x) (alt (b=true) (au.mk BE [] [] 2 (qh x) x.zn) Al.nil)).R
abbrev Zx:qu->List (Nat × aa):=fun(x:qu)=>[(1,aa.ay x.bl)]
noncomputable abbrev Zw(b:Bool)(x:qu):Al:=Al.cons Unit (YS b) (fun(x_1:Unit)=>Zz x) (fun(x_1:Unit)=>tR [] [] Ju [] 0 (qh x) x.zn) (Al.cons Unit (YR b) (fun(x_1:Unit)=>au.mk BE [] [] 2 (qh x) x.zn) (fun(x_1:Unit)=>tR [] [] Yv [] 0 (qh x) x.zn) Al.nil)
theorem pp(z:T aa)(zn:Nat)(N:aA)(b:Bool)(r1 r2:Int)(φ:qu->Prop)(Q:QF)(hyp:YP/\ai Try.prog Qw 1 111 (mw 0) [zj N] 1 z zn (alt (r2≠0) (au.mk af.ret [(2,zv r1),(3,zv r2)] [] 1 z zn) (alt (r1=0/\r2=0) (au.mk YO [(1,ip 0)] [zj N] 1 z zn) Al.nil)).R/\E6 111 z zn (R2 bA YM (KO YD (mA N)/\(∀(x:Unit),r2≠0->E6 111 z zn (Yu r1 r2/\Q (Yt r1 r2) [] 0 z zn))/\ ∀(x:Unit),r1=0/\r2=0->aV Try.prog z zn 48 [Jy N,IV N.ns] [] 0 1 φ TM TL qh TK/\Rs [Jy N,IV N.ns]/\ ∀(x:qu),φ x->Rs (SL 0 x.k x.k)/\KO (sig Bn) (aa.ay x.bl)/\(((↑x.k:Int) !=(↑N.np:Int))=true->E6 111 (qh x) x.zn (Rs Ju/\Q Ju [] 0 (qh x) x.zn))/\(((↑x.k:Int) !=(↑N.np:Int))=false->rS/\ai Try.prog TN 2 111 (se x.k 0) [zj N,(1,aa.ay x.bl)] 2 (qh x) x.zn (Zy b x)/\E6 111 (qh x) x.zn (R3 bA (SL 1 x.k x.k) YM (K2 jv (mA N) (aa.ay x.bl) ((∀(x_1:Unit),b=false->E6 111 (qh x) x.zn (Rs Ju/\Q Ju [] 0 (qh x) x.zn))/\ ∀(x_1:Unit),b=true->E6 111 (qh x) x.zn (Yw/\Q Yv [] 0 (qh x) x.zn)))))))):FnT Try.prog gP z Try.f36 [AG (N.ir N.p1)] z [] 0 zn Q:=⟨Tr.lp 1 111 YC [] (mw 0) [zj N] 1 z zn (Al.cons Unit (Th r2) (fun(x:Unit)=>au.mk af.ret [(2,zv r1),(3,zv r2)] [] 1 z zn) (Yz r1 r2 z zn) (Al.cons Unit (Y0 r1 r2) (fun(x:Unit)=>au.mk YO [(1,ip 0)] [zj N] 1 z zn) (fun(x:Unit)=>tA 2 (Tr.cm (Cm.mk [Jy N,IV N.ns] [] 0 1 [] Bn 2) qu φ TM TL (fun(x:qu)=>SL 1 x.k x.k) Zx qh TK fun(x:qu)=>tA 1 ((tA 1 (tR [] [] Ju [] 0 (qh x) x.zn)).fork (tA 1 (Tr.lp 2 111 cY [] (se x.k 0) [zj N,(1,aa.ay x.bl)] 2 (qh x) x.zn (Zw b x)))))) Al.nil)),Eq.mp (by kernel_rfl) hyp⟩
theorem ppz(z:T aa)(zn:Nat)(N:aA)(b:Bool)(φ:qu->Prop)(Q:QF)(hyp:YP/\ai Try.prog Qw 1 111 (mw 0) [(0,N.cu aw)] 1 z zn (alt (0≠0) (au.mk af.ret [(2,zv 0),(3,zv 0)] [] 1 z zn) (alt (qs/\qs) (au.mk YO [(1,ip 0)] [(0,N.cu aw)] 1 z zn) Al.nil)).R/\E6 111 z zn (R2 bA YM (KO YD (MG N)/\(∀(x:Unit),0≠0->E6 111 z zn (Yw/\Q Yv [] 0 z zn))/\ ∀(x:Unit),qs/\qs->aV Try.prog z zn 48 [Y5,IV N.ns] [] 0 1 φ TM TL qh TK/\Rs [Y5,IV N.ns]/\ ∀(x:qu),φ x->Rs (SL 0 x.k x.k)/\KO (sig Bn) (aa.ay x.bl)/\(((↑x.k:Int) !=0)=true->E6 111 (qh x) x.zn (Rs Ju/\Q Ju [] 0 (qh x) x.zn))/\(((↑x.k:Int) !=0)=false->rS/\ai Try.prog TN 2 111 (se x.k 0) [(0,N.cu aw),(1,aa.ay x.bl)] 2 (qh x) x.zn (Zy b x)/\E6 111 (qh x) x.zn (R3 bA (SL 1 x.k x.k) YM (K2 jv (MG N) (aa.ay x.bl) ((∀(x_1:Unit),b=false->E6 111 (qh x) x.zn (Rs Ju/\Q Ju [] 0 (qh x) x.zn))/\ ∀(x_1:Unit),b=true->E6 111 (qh x) x.zn (Yw/\Q Yv [] 0 (qh x) x.zn)))))))):FnT Try.prog gP z Try.f36 [AG (N.ir aw)] z [] 0 zn Q:=⟨Tr.lp 1 111 YC [] (mw 0) [(0,N.cu aw)] 1 z zn (Al.cons Unit (fun(x:Unit)=>0≠0) (fun(x:Unit)=>au.mk af.ret [(2,zv 0),(3,zv 0)] [] 1 z zn) (Y2 z zn) (Al.cons Unit (fun(x:Unit)=>qs/\qs) (fun(x:Unit)=>au.mk YO [(1,ip 0)] [(0,N.cu aw)] 1 z zn) (fun(x:Unit)=>tA 2 (Tr.cm (Cm.mk [Y5,IV N.ns] [] 0 1 [] Bn 2) qu φ TM TL (fun(x:qu)=>SL 1 x.k x.k) Zx qh TK fun(x:qu)=>tA 1 ((tA 1 (tR [] [] Ju [] 0 (qh x) x.zn)).fork (tA 1 (Tr.lp 2 111 cY [] (se x.k 0) [(0,N.cu aw),(1,aa.ay x.bl)] 2 (qh x) x.zn (Zw b x)))))) Al.nil)),Eq.mp (by kernel_rfl) hyp⟩
end
noncomputable section
theorem We(z:T aa)(zn:Nat)(a b:Int)(Q:QF)(hyp:aQ Try.prog z zn 63 [ZV a] [] 0 0 Yy CU cd/\Rs [ZV a]/\ ∀(x:Unit),True->YQ/\aQ Try.prog z zn 63 [ZV b] [] 0 0 Yy CU cd/\Rs [ZV b]/\ ∀(x:Unit),True->YQ/\Br (decide (a<b)) (E6 20 z zn (Rs (J 0)/\Q (J 0) [] 0 z zn)) (Br (decide (a>b)) (E6 20 z zn (Rs (I 1)/\Q (I 1) [] 0 z zn)) (E6 20 z zn (Jz/\Q YM [] 0 z zn)))):FnT Try.prog mu z Try.f56 [zv a,zv b] z [] 0 zn Q:=⟨Tr.cm (Cm.mk [ZV a] [] 0 0 [] [] 0) Unit Yy CU cd CU cd (fw z) (ft zn) fun(x:Unit)=>Tr.cm (Cm.mk [ZV b] [] 0 0 [] [] 0) Unit Yy CU cd CU cd (fw z) (ft zn) fun(x:Unit)=>tA 2 ((tA 1 (tR [] [] (J 0) [] 0 z zn)).fork (tA 1 ((tA 1 (tR [] [] (I 1) [] 0 z zn)).fork (tA 1 (tR [] [] YM [] 0 z zn))))),Eq.mp (by kernel_rfl) hyp⟩
theorem Wc(z:T aa)(zn:Nat)(a:Int)(Q:QF)(hyp:Br (a !=a) (E6 6 z zn (YA/\Q T1 [] 0 z zn)) (E6 6 z zn (YQ/\Q F0 [] 0 z zn))):FnT Try.prog mu z Try.f63 [zv a] z [] 0 zn Q:=⟨(tR [] [] T1 [] 0 z zn).fork (zl z zn),Eq.mp (by kernel_rfl) hyp⟩
theorem Wb(z:T aa)(zn i:Nat)(kb:aZ)(x r:Int)(Q:QL)(hyp:Br (decide ((↑i:Int)<3)) (YU i/\i<3/\F6/\F5 z kb/\oe kb i x/\Br (x !=0) (E6 18 z zn (Rs (ZV x)/\Q af.ret [(2,ZV x)] [] 0 z zn)) (ZV (IntKind.i64.wrap ((↑i:Int)+1))=IV (i+1)/\E6 18 z zn (R4 YM (SL 510 3 3) (I 3) (IV (i+1)) (Q aN [(3,YM),(6,SL 510 3 3),(7,I 3),F7 i] [] 0 z zn)))) (E6 18 z zn (Jz/\Q YO [(3,YM)] [] 0 z zn))):RdT Try.prog mu z (ah (ag Try.f55) 0) 18 (EY i) z [] 0 zn 0 Q:=⟨(tA 1 (tO (Yj i) (tO (An.ld 0 kb (zv x)) ((tA 1 (tE [] [] [(2,ZV x)] [] 0 z zn)).fork (tA 1 (tO (Ym i) (tE [] [] [(3,YM),(6,SL 510 3 3),(7,I 3),F7 i] [] 0 z zn))))))).fork (tA 1 (tE [] [] [(3,YM)] [] 0 z zn)),Eq.mp (by kernel_rfl) hyp⟩
theorem jor(z:T aa)(zn:Nat)(r:Int)(Q:QF)(hyp:qs/\ai Try.prog (ah (ag Try.f55) 0) 0 18 (EY 0) [] 0 z zn (alt (r≠0) (au.mk af.ret [(2,zv r)] [] 0 z zn) (alt (r=0) (au.mk YO [(3,YM)] [] 0 z zn) Al.nil)).R/\E6 18 z zn (R4 YM (SL 510 3 3) (I 3) YM ((∀(x:Unit),r≠0->E6 18 z zn (Rs (ZV r)/\Q (ZV r) [] 0 z zn))/\ ∀(x:Unit),r=0->E6 18 z zn (Jz/\Q YM [] 0 z zn)))):FnT Try.prog mu z Try.f55 [tb 0 3 3] z [] 0 zn Q:=⟨Tr.lp 0 18 [] [] (EY 0) [] 0 z zn (Al.cons Unit (Th r) (fun(x:Unit)=>au.mk af.ret [(2,zv r)] [] 0 z zn) (fun(x:Unit)=>tR [] [] (ZV r) [] 0 z zn) (Al.cons Unit (Tl r) (fun(x:Unit)=>au.mk YO [(3,YM)] [] 0 z zn) (UK z zn) Al.nil)),Eq.mp (by kernel_rfl) hyp⟩
end
noncomputable section
abbrev Xb(y x:ae):Prop:=gS 54 [MH y,MH x]=some (ZV (qR y.from_ y.ax y.aI x.from_ x.ax x.aI))
abbrev vR:Prop:=Rs (BQ [YM] 1 1 3)
abbrev vQ:List (Nat × aa):=[(0,BQ [YM] 1 1 3)]
noncomputable abbrev Xa(y x:ae):An:=An.cl (ZV (qR y.from_ y.ax y.aI x.from_ x.ax x.aI))
theorem jo2(z:T aa)(zn kk n a b:Nat)(kb:aZ)(x y:ae)(Q:QF)(hyp:YU b/\b<n/\ia kk/\iA z kk kb/\Ep kb b y/\YU a/\a<n/\ia kk/\iA z kk kb/\Ep kb a x/\Rf z/\Xb y x/\Value.bool (decide (qR y.from_ y.ax y.aI x.from_ x.ax x.aI<0))=F0/\E6 32 z zn (vR/\Rs (TP [IV a,IV b])/\Q (TP [IV a,IV b]) vQ 1 z zn)):FnT Try.prog gS z Try.f92 [tb kk n n,iv a,iv b,ip 0,iR] z [(0,Kc)] 1 zn Q:=⟨tO (Yj b) (tO (An.ld kk kb (AG y.row)) (tO (Yj a) (tO (An.ld kk kb (AG x.row)) (tO (Xa y x) (tO xA (tA 1 (tR YC [] (TP [IV a,IV b]) vQ 1 z zn))))))),Eq.mp (by kernel_rfl) hyp⟩
abbrev P1(a b:Nat):Unit->Value:=fun(x:Unit)=>TP [IV a,IV b]
abbrev sm:Unit->List (Nat × aa):=fun(x:Unit)=>vQ
abbrev W9(z:T aa)(zn kk n a b:Nat):Prop:=aQ Try.prog z zn 92 [dx kk n,IV a,IV b,bA,g9] vQ 1 1 Yy (P1 a b) sm
noncomputable abbrev W8(kk n a b:Nat):Cm:=Cm.mk [dx kk n,IV a,IV b,bA,g9] vQ 1 1 YC YC 1
theorem jmd(z:T aa)(zn kk n a b c:Nat)(Q:QF)(hyp:W9 z zn kk n a b/\Rs [dx kk n,IV a,IV b,bA,g9]/\vR/\ ∀(x:Unit),True->Rs (TP [IV a,IV b])/\vR/\W9 z zn kk n b c/\Rs [dx kk n,IV b,IV c,bA,g9]/\vR/\ ∀(x:Unit),True->Rs (TP [IV b,IV c])/\vR/\W9 z zn kk n a b/\Rs [dx kk n,IV a,IV b,bA,g9]/\vR/\ ∀(x:Unit),True->Rs (TP [IV a,IV b])/\vR/\E6 41 z zn (vR/\Rs (IV b)/\Q (IV b) vQ 1 z zn)):FnT Try.prog gS z Try.f87 [tb kk n n,iv a,iv b,iv c,ip 0,iR] z [(0,Kc)] 1 zn Q:=⟨Tr.cm (W8 kk n a b) Unit Yy (P1 a b) sm (P1 a b) sm (fw z) (ft zn) fun(x:Unit)=>Tr.cm (W8 kk n b c) Unit Yy (P1 b c) sm (P1 b c) sm (fw z) (ft zn) fun(x:Unit)=>Tr.cm (W8 kk n a b) Unit Yy (P1 a b) sm (P1 a b) sm (fw z) (ft zn) fun(x:Unit)=>tR YC [] (IV b) vQ 1 z zn,Eq.mp (by kernel_rfl) hyp⟩
theorem jma(z:T aa)(zn kk n a:Nat)(Q:QF)(hyp:ZV (IntKind.i64.wrap ((↑(a+1):Int) - 1))=ZV ((↑(a+1):Int) - 1)/\ZV (IntKind.i64.wrap ((↑(a+1):Int)+1))=IV (a+1+1)/\aQ Try.prog z zn 87 [dx kk n,ZV ((↑(a+1):Int) - 1),IV (a+1),IV (a+1+1),bA,g9] vQ 1 1 Yy (fun(x:Unit)=>IV (a+1)) sm/\Rs [dx kk n,ZV ((↑(a+1):Int) - 1),IV (a+1),IV (a+1+1),bA,g9]/\vR/\ ∀(x:Unit),True->Rs (IV (a+1))/\vR/\E6 18 z zn (vR/\Rs (IV (a+1))/\Q (IV (a+1)) vQ 1 z zn)):FnT Try.prog gS z Try.f86 [tb kk n n,iv (a+1),ip 0,iR] z [(0,Kc)] 1 zn Q:=⟨tO (An.val (ZV ((↑(a+1):Int) - 1))) (tO (An.val (IV (a+1+1))) (Tr.cm (Cm.mk [dx kk n,ZV ((↑(a+1):Int) - 1),IV (a+1),IV (a+1+1),bA,g9] vQ 1 1 YC YC 1) Unit Yy (fun(x:Unit)=>IV (a+1)) sm (fun(x:Unit)=>IV (a+1)) sm (fw z) (ft zn) fun(x:Unit)=>tR YC [] (IV (a+1)) vQ 1 z zn)),Eq.mp (by kernel_rfl) hyp⟩
theorem jcp(z:T aa)(zn kk n i j k:Nat)(Q:QF)(hyp:ZV (IntKind.i64.wrap ((↑n:Int) - 0))=ZV ((↑n:Int) - 0)/\ZV (IntKind.i64.wrap (((↑n:Int) - 0).tdiv 4))=ZV (((↑n:Int) - 0).tdiv 4)/\ZV (IntKind.i64.wrap (((↑n:Int) - 0).tdiv 4*1))=ZV (((↑n:Int) - 0).tdiv 4*1)/\ZV (IntKind.i64.wrap (0+((↑n:Int) - 0).tdiv 4*1))=ZV (0+((↑n:Int) - 0).tdiv 4*1)/\ZV (IntKind.i64.wrap (((↑n:Int) - 0).tdiv 4))=ZV (((↑n:Int) - 0).tdiv 4)/\ZV (IntKind.i64.wrap (((↑n:Int) - 0).tdiv 4*2))=ZV (((↑n:Int) - 0).tdiv 4*2)/\ZV (IntKind.i64.wrap (0+((↑n:Int) - 0).tdiv 4*2))=ZV (0+((↑n:Int) - 0).tdiv 4*2)/\ZV (IntKind.i64.wrap (((↑n:Int) - 0).tdiv 4))=ZV (((↑n:Int) - 0).tdiv 4)/\ZV (IntKind.i64.wrap (((↑n:Int) - 0).tdiv 4*3))=ZV (((↑n:Int) - 0).tdiv 4*3)/\ZV (IntKind.i64.wrap (0+((↑n:Int) - 0).tdiv 4*3))=ZV (0+((↑n:Int) - 0).tdiv 4*3)/\Value.bool (decide ((↑n:Int) - 0>=8))=T1/\Br (decide ((↑n:Int) - 0>=50)) (aQ Try.prog z zn 86 [dx kk n,ZV (0+((↑n:Int) - 0).tdiv 4*1),bA,g9] vQ 1 1 Yy (fun(x:Unit)=>ZV (0+((↑n:Int) - 0).tdiv 4*1)) sm/\Rs [dx kk n,ZV (0+((↑n:Int) - 0).tdiv 4*1),bA,g9]/\vR/\ ∀(x:Unit),True->Rs (ZV (0+((↑n:Int) - 0).tdiv 4*1))/\vR/\aQ Try.prog z zn 86 [dx kk n,ZV (0+((↑n:Int) - 0).tdiv 4*2),bA,g9] vQ 1 1 Yy (fun(x:Unit)=>ZV (0+((↑n:Int) - 0).tdiv 4*2)) sm/\Rs [dx kk n,ZV (0+((↑n:Int) - 0).tdiv 4*2),bA,g9]/\vR/\ ∀(x:Unit),True->Rs (ZV (0+((↑n:Int) - 0).tdiv 4*2))/\vR/\aQ Try.prog z zn 86 [dx kk n,ZV (0+((↑n:Int) - 0).tdiv 4*3),bA,g9] vQ 1 1 Yy (fun(x:Unit)=>ZV (0+((↑n:Int) - 0).tdiv 4*3)) sm/\Rs [dx kk n,ZV (0+((↑n:Int) - 0).tdiv 4*3),bA,g9]/\vR/\ ∀(x:Unit),True->Rs (ZV (0+((↑n:Int) - 0).tdiv 4*3))/\vR/\aQ Try.prog z zn 87 [dx kk n,ZV (0+((↑n:Int) - 0).tdiv 4*1),ZV (0+((↑n:Int) - 0).tdiv 4*2),ZV (0+((↑n:Int) - 0).tdiv 4*3),bA,g9] vQ 1 1 Yy (fun(x:Unit)=>ZV (0+((↑n:Int) - 0).tdiv 4*2)) sm/\Rs [dx kk n,ZV (0+((↑n:Int) - 0).tdiv 4*1),ZV (0+((↑n:Int) - 0).tdiv 4*2),ZV (0+((↑n:Int) - 0).tdiv 4*3),bA,g9]/\vR/\ ∀(x:Unit),True->Rs (ZV (0+((↑n:Int) - 0).tdiv 4*2))/\vR/\E6 63 z zn (Rs (TP [ZV (0+((↑n:Int) - 0).tdiv 4*2),I 1])/\Q (TP [ZV (0+((↑n:Int) - 0).tdiv 4*2),I 1]) [] 1 z zn)) (aQ Try.prog z zn 87 [dx kk n,ZV (0+((↑n:Int) - 0).tdiv 4*1),ZV (0+((↑n:Int) - 0).tdiv 4*2),ZV (0+((↑n:Int) - 0).tdiv 4*3),bA,g9] vQ 1 1 Yy (fun(x:Unit)=>ZV (0+((↑n:Int) - 0).tdiv 4*2)) sm/\Rs [dx kk n,ZV (0+((↑n:Int) - 0).tdiv 4*1),ZV (0+((↑n:Int) - 0).tdiv 4*2),ZV (0+((↑n:Int) - 0).tdiv 4*3),bA,g9]/\vR/\ ∀(x:Unit),True->Rs (ZV (0+((↑n:Int) - 0).tdiv 4*2))/\vR/\E6 63 z zn (Rs (TP [ZV (0+((↑n:Int) - 0).tdiv 4*2),I 1])/\Q (TP [ZV (0+((↑n:Int) - 0).tdiv 4*2),I 1]) [] 1 z zn))):FnT Try.prog gS z Try.f71 [tb kk n n,YM,iv n,iR] z [] 0 zn Q:=⟨tO (An.val (ZV ((↑n:Int) - 0))) (tO (An.val (ZV (((↑n:Int) - 0).tdiv 4))) (tO (An.val (ZV (((↑n:Int) - 0).tdiv 4*1))) (tO (An.val (ZV (0+((↑n:Int) - 0).tdiv 4*1))) (tO (An.val (ZV (((↑n:Int) - 0).tdiv 4))) (tO (An.val (ZV (((↑n:Int) - 0).tdiv 4*2))) (tO (An.val (ZV (0+((↑n:Int) - 0).tdiv 4*2))) (tO (An.val (ZV (((↑n:Int) - 0).tdiv
 4))) (tO (An.val (ZV (((↑n:Int) - 0).tdiv 4*3))) (tO (An.val (ZV (0+((↑n:Int) - 0).tdiv 4*3))) (tO Of (tA 1 ((tA 1 (Tr.cm (Cm.mk [dx kk n,ZV (0+((↑n:Int) - 0).tdiv 4*1),bA,g9] vQ 1 1 YC YC 1) Unit Yy (fun(x:Unit)=>ZV (0+((↑n:Int) - 0).tdiv 4*1)) sm (fun(x:Unit)=>ZV (0+((↑n:Int) - 0).tdiv 4*1)) sm (fw z) (ft zn) fun(x:Unit)=>Tr.cm (Cm.mk [dx kk n,ZV (0+((↑n:Int) - 0).tdiv 4*2),bA,g9] vQ 1 1 YC YC 1) Unit Yy (fun(x:Unit)=>ZV (0+((↑n:Int) - 0).tdiv 4*2)) sm (fun(x:Unit)=>ZV (0+((↑n:Int) - 0).tdiv 4*2)) sm (fw z) (ft zn) fun(x:Unit)=>Tr.cm (Cm.mk [dx kk n,ZV (0+((↑n:Int) - 0).tdiv 4*3),bA,g9] vQ 1 1 YC YC 1) Unit Yy (fun(x:Unit)=>ZV (0+((↑n:Int) - 0).tdiv 4*3)) sm (fun(x:Unit)=>ZV (0+((↑n:Int) - 0).tdiv 4*3)) sm (fw z) (ft zn) fun(x:Unit)=>Tr.cm (Cm.mk [dx kk n,ZV (0+((↑n:Int) - 0).tdiv 4*1),ZV (0+((↑n:Int) - 0).tdiv 4*2),ZV (0+((↑n:Int) - 0).tdiv 4*3),bA,g9] vQ 1 1 YC YC 1) Unit Yy (fun(x:Unit)=>ZV (0+((↑n:Int) - 0).tdiv 4*2)) sm (fun(x:Unit)=>ZV (0+((↑n:Int) - 0).tdiv 4*2)) sm (fw z) (ft zn) fun(x:Unit)=>tA 3 (tR [] [] (TP [ZV (0+((↑n:Int) - 0).tdiv 4*2),I 1]) [] 1 z zn))).fork (tA 1 (Tr.cm (Cm.mk [dx kk n,ZV (0+((↑n:Int) - 0).tdiv 4*1),ZV (0+((↑n:Int) - 0).tdiv 4*2),ZV (0+((↑n:Int) - 0).tdiv 4*3),bA,g9] vQ 1 1 YC YC 1) Unit Yy (fun(x:Unit)=>ZV (0+((↑n:Int) - 0).tdiv 4*2)) sm (fun(x:Unit)=>ZV (0+((↑n:Int) - 0).tdiv 4*2)) sm (fw z) (ft zn) fun(x:Unit)=>tA 3 (tR [] [] (TP [ZV (0+((↑n:Int) - 0).tdiv 4*2),I 1]) [] 1 z zn))))))))))))))),Eq.mp (by kernel_rfl) hyp⟩
end
noncomputable section
abbrev TJ(kk n i:Nat):List (Nat × Value):=[(0,dx kk n),(1,YM),(2,IV n),(3,g9),(8,IV i)]
noncomputable abbrev Qv:Code:=ah (ag Try.f68) 0
theorem ji1(z:T aa)(zn kk n i j:Nat)(kb:aZ)(x y:ae)(Q:QL)(hyp:Br (decide ((↑(j+1):Int)>0)) (Rf (↑(j+1):Int)/\j+1<n/\ia kk/\iA z kk kb/\aB Try.prog kb 89 (0+(j+1)*4)=some (MH y)/\ZV (IntKind.i64.wrap ((↑(j+1):Int) - 1))=ZV ((↑(j+1):Int) - 1)/\(↑(j+1):Int) - 1=(↑j:Int)/\j<n/\ia kk/\iA z kk kb/\Ep kb j x/\Rf z/\Xb y x/\Value.bool (decide (qR y.from_ y.ax y.aI x.from_ x.ax x.aI<0))=F0/\E6 53 z zn (R5 (dx kk n) YM (IV n) g9 (IV i) (Q Y8 (TJ kk n i) [] 0 z zn))) (E6 53 z zn (R5 (dx kk n) YM (IV n) g9 (IV i) (Q Y8 (TJ kk n i) [] 0 z zn)))):RdT Try.prog gS z (ah Qv 0) 53 (E2 (tb kk n n) n i (j+1)) z [] 0 zn 0 Q:=⟨(tA 4 (tO (An.idx (j+1)) (tA 1 (tO (An.ld kk kb (AG y.row)) (tA 3 (tO (An.val (ZV ((↑(j+1):Int) - 1))) (tA 1 (tO (Yj j) (tA 1 (tO (An.ld kk kb (AG x.row)) (tA 1 (tO (Xa y x) (tA 1 (tO xA (tA 2 (tE [] [] (TJ kk n i) [] 0 z zn)))))))))))))))).fork (tA 14 (tE [] [] (TJ kk n i) [] 0 z zn)),Eq.mp (by kernel_rfl) hyp⟩
theorem ji0(z:T aa)(zn kk n i:Nat)(Q:QL)(hyp:Br (decide ((↑i:Int)<(↑n:Int))) (qs/\ai Try.prog (ah Qv 0) 0 53 (E2 (tb kk n n) n i i) [] 0 z zn (alt True (au.mk Y8 (pG (tb kk n n) n i) [] 0 z zn) Al.nil).R/\E6 53 z zn (R6 (dx kk n) YM (IV n) g9 (IV i) (IV i) (∀(x:Unit),True->ZV (IntKind.i64.wrap ((↑i:Int)+1))=IV (i+1)/\E6 53 z zn (R5 (dx kk n) YM (IV n) g9 (IV (i+1)) (Q aN [(0,dx kk n),(1,YM),(2,IV n),(3,g9),F7 i] [] 0 z zn))))) (E6 53 z zn (Q YO [] [] 0 z zn))):RdT Try.prog gS z Qv 53 (pG (tb kk n n) n i) z [] 0 zn 0 Q:=⟨(tA 1 (Tr.lp 0 53 [] [] (E2 (tb kk n n) n i i) [] 0 z zn (Al.cons Unit Yy (fun(x:Unit)=>au.mk Y8 (pG (tb kk n n) n i) [] 0 z zn) (fun(x:Unit)=>tO (Ym i) (tE [] [] [(0,dx kk n),(1,YM),(2,IV n),(3,g9),F7 i] [] 0 z zn)) Al.nil))).fork (Od z zn),Eq.mp (by kernel_rfl) hyp⟩
theorem Wd(z:T aa)(zn:Nat)(Q:QL)(hyp:E6 53 z zn (Q YO [] [] 0 z zn)):RdT Try.prog gS z Qv 53 (pG aw 0 1) z [] 0 zn 0 Q:=⟨Tg z zn,Eq.mp (by kernel_rfl) hyp⟩
noncomputable abbrev S5(z:T aa)(zn:Nat):Unit->Tr:=fun(x:Unit)=>tR [] [] kX [] 0 z zn
theorem ji(z:T aa)(zn kk n:Nat)(Q:QF)(hyp:qs/\ai Try.prog Qv 0 53 (pG (tb kk n n) n 1) [] 0 z zn (QT z zn)/\E6 53 z zn (R5 (dx kk n) YM (IV n) g9 (I 1) (∀(x:Unit),True->E6 53 z zn (kg/\Q kX [] 0 z zn)))):FnT Try.prog gS z Try.f68 [tb kk n n,YM,iv n,iR] z [] 0 zn Q:=⟨tA 1 (Tr.lp 0 53 [] [] (pG (tb kk n n) n 1) [] 0 z zn (Al.cons Unit Yy (MO z zn) (S5 z zn) Al.nil)),Eq.mp (by kernel_rfl) hyp⟩
theorem jiz(z:T aa)(zn:Nat)(Q:QF)(hyp:qs/\ai Try.prog Qv 0 53 (pG aw 0 1) [] 0 z zn (QT z zn)/\E6 53 z zn (R5 Y5 YM YM g9 (I 1) (∀(x:Unit),True->E6 53 z zn (kg/\Q kX [] 0 z zn)))):FnT Try.prog gS z Try.f68 [aw,YM,iv 0,iR] z [] 0 zn Q:=⟨tA 1 (Tr.lp 0 53 [] [] (pG aw 0 1) [] 0 z zn (Al.cons Unit Yy (MO z zn) (S5 z zn) Al.nil)),Eq.mp (by kernel_rfl) hyp⟩
noncomputable abbrev TI:Code:=ah (ag Try.f73) 0
theorem Zh(z:T aa)(zn kk n i:Nat)(kb:aZ)(x y:ae)(Q:QL)(hyp:Br (decide ((↑(i+1):Int)<(↑n:Int))) (Rf (↑(i+1):Int)/\i+1<n/\ia kk/\iA z kk kb/\aB Try.prog kb 89 (0+(i+1)*4)=some (MH y)/\ZV (IntKind.i64.wrap ((↑(i+1):Int) - 1))=ZV ((↑(i+1):Int) - 1)/\(↑(i+1):Int) - 1=(↑i:Int)/\i<n/\ia kk/\iA z kk kb/\Ep kb i x/\Rf z/\Xb y x/\Value.bool (decide (qR y.from_ y.ax y.aI x.from_ x.ax x.aI<0))=F0/\ZV (IntKind.i64.wrap ((↑(i+1):Int)+1))=IV (i+1+1)/\E6 141 z zn (R6 (dx kk n) YM (IV n) g9 (IV (i+1+1)) YM (Q aN [(0,dx kk n),(1,YM),(2,IV n),(3,g9),(9,IV (i+1+1)),(10,YM)] [] 0 z zn))) (E6 141 z zn (R6 (dx kk n) YM (IV n) g9 (IV (i+1)) YM (Q Y8 [(0,dx kk n),(1,YM),(2,IV n),(3,g9),Ga i,(10,YM)] [] 0 z zn)))):RdT Try.prog gS z (ah TI 0) 141 (jE kk n (i+1) 0) z [] 0 zn 0 Q:=⟨(tA 4 (tO (An.idx (i+1)) (tA 1 (tO (An.ld kk kb (AG y.row)) (tA 3 (tO (An.val (ZV ((↑(i+1):Int) - 1))) (tA 1 (tO (Yj i) (tA 1 (tO (An.ld kk kb (AG x.row)) (tA 1 (tO (Xa y x) (tA 1 (tO xA (tA 3 (tO (An.val (IV (i+1+1))) (tE [] [] [(0,dx kk n),(1,YM),(2,IV n),(3,g9),(9,IV (i+1+1)),(10,YM)] [] 0 z zn))))))))))))))))).fork (tA 15 (tE [] [] [(0,dx kk n),(1,YM),(2,IV n),(3,g9),Ga i,(10,YM)] [] 0 z zn)),Eq.mp (by kernel_rfl) hyp⟩
theorem jq0(z:T aa)(zn kk n:Nat)(Q:QL)(hyp:qs/\ai Try.prog (ah TI 0) 0 141 (jE kk n 1 0) [] 0 z zn (alt True (au.mk Y8 (jE kk n n 0) [] 0 z zn) Al.nil).R/\E6 141 z zn (R6 (dx kk n) YM (IV n) g9 (I 1) YM (∀(x:Unit),True->Value.bool ((↑n:Int)==(↑n:Int))=T1/\E6 141 z zn (YA/\Q af.ret [(8,T1)] [] 0 z zn)))):RdT Try.prog gS z TI 141 (jE kk n 1 0) z [] 0 zn 0 Q:=⟨tA 2 (Tr.lp 0 141 [] [] (jE kk n 1 0) [] 0 z zn (Al.cons Unit Yy (fun(x:Unit)=>au.mk Y8 (jE kk n n 0) [] 0 z zn) (fun(x:Unit)=>tO Of (tA 1 (tE [] [] [(8,T1)] [] 0 z zn))) Al.nil)),Eq.mp (by kernel_rfl) hyp⟩
theorem jq(z:T aa)(zn kk n:Nat)(Q:QF)(hyp:qs/\ai Try.prog TI 0 141 (jE kk n 1 0) [] 0 z zn (alt True (au.mk af.ret [(8,T1)] [] 0 z zn) Al.nil).R/\E6 141 z zn (R6 (dx kk n) YM (IV n) g9 (I 1) YM (∀(x:Unit),True->E6 141 z zn (YA/\Q T1 [] 0 z zn)))):FnT Try.prog gS z Try.f73 [tb kk n n,YM,iv n,iR] z [] 0 zn Q:=⟨tA 1 (Tr.lp 0 141 [] [] (jE kk n 1 0) [] 0 z zn (Al.cons Unit Yy (fun(x:Unit)=>au.mk af.ret [(8,T1)] [] 0 z zn) (Q8 z zn) Al.nil)),Eq.mp (by kernel_rfl) hyp⟩
abbrev MA(kk n:Nat):List Value:=[dx kk n,YM,IV n,g9]
abbrev sN:Unit->Value:=fun(x:Unit)=>T1
noncomputable abbrev TH:Code:=ah (ag Try.f61) 0
theorem jp0(z:T aa)(zn kk n l p:Nat)(Q:QL)(hyp:ZV (IntKind.i64.wrap ((↑n:Int) - 0))=ZV ((↑n:Int) - 0)/\Br (decide ((↑n:Int) - 0<=12)) (aQ Try.prog z zn 68 (MA kk n) [] 0 0 Yy mB cd/\Rs (MA kk n)/\ ∀(x:Unit),True->kg/\E6 148 z zn (Q af.ret [] [] 0 z zn)) (Value.bool ((↑l:Int)==0)=F0/\aQ Try.prog z zn 71 (MA kk n) [] 0 1 Yy (fun(x:Unit)=>TP [iv p,I 1]) cd/\Rs (MA kk n)/\ ∀(x:Unit),True->Rs (TP [IV p,I 1])/\aQ Try.prog z zn 73 (MA kk n) [] 0 0 Yy sN cd/\Rs (MA kk n)/\ ∀(x:Unit),True->YA/\E6 148 z zn (Q af.ret [] [] 0 z zn))):RdT Try.prog gS z TH 148 (uj (tb kk n n) n l) z [] 0 zn 0 Q:=⟨tO (An.val (ZV ((↑n:Int) - 0))) ((tA 1 (Tr.cm (Cm.mk (MA kk n) [] 0 0 [] [] 0) Unit Yy mB cd mB cd (fw z) (ft zn) fun(x:Unit)=>tE [] [] [] [] 0 z zn)).fork (tA 1 (tO xA (tA 2 (Tr.cm (Cm.mk (MA kk n) [] 0 1 [] YC 1) Unit Yy (fun(x:Unit)=>TP [iv p,I 1]) cd (fun(x:Unit)=>TP [IV p,I 1]) cd (fw z) (ft zn) fun(x:Unit)=>tA 9 (Tr.cm (Cm.mk (MA kk n) [] 0 0 [] [] 1) Unit Yy sN cd sN cd (fw z) (ft zn) fun(x:Unit)=>Od z zn)))))),Eq.mp (by kernel_rfl) hyp⟩
theorem Wa(z:T aa)(zn l:Nat)(Q:QL)(hyp:aQ Try.prog z zn 68 [Y5,YM,YM,g9] [] 0 0 Yy mB cd/\Rs [Y5,YM,YM,g9]/\ ∀(x:Unit),True->kg/\E6 148 z zn (Q af.ret [] [] 0 z zn)):RdT Try.prog gS z TH 148 (uj aw 0 l) z [] 0 zn 0 Q:=⟨tA 3 (Tr.cm (Cm.mk [Y5,YM,YM,g9] [] 0 0 [] [] 0) Unit Yy mB cd mB cd (fw z) (ft zn) fun(x:Unit)=>tE [] [] [] [] 0 z zn),Eq.mp (by kernel_rfl) hyp⟩
noncomputable abbrev Zv(z:T aa)(zn:Nat):Al:=Al.cons Unit Yy (fun(x:Unit)=>au.mk af.ret [] [] 0 z zn) (S5 z zn) Al.nil
theorem jp(z:T aa)(zn n l kk:Nat)(Q:QF)(hyp:qs/\ai Try.prog TH 0 148 (uj (tb kk n n) n l) [] 0 z zn (alt True (au.mk af.ret [] [] 0 z zn) Al.nil).R/\E6 148 z zn (R7 (dx kk n) YM (IV n) (IV l) g9 T1 T1 (∀(x:Unit),True->E6 148 z zn (kg/\Q kX [] 0 z zn)))):FnT Try.prog gS z Try.f61 [tb kk n n,YM,iv n,iv l,iR] z [] 0 zn Q:=⟨Tr.lp 0 148 [] [] (uj (tb kk n n) n l) [] 0 z zn (Zv z zn),Eq.mp (by kernel_rfl) hyp⟩
theorem jpz(z:T aa)(zn l:Nat)(Q:QF)(hyp:qs/\ai Try.prog TH 0 148 (uj aw 0 l) [] 0 z zn (alt True (au.mk af.ret [] [] 0 z zn) Al.nil).R/\E6 148 z zn (R7 Y5 YM YM (IV l) g9 T1 T1 (∀(x:Unit),True->E6 148 z zn (kg/\Q kX [] 0 z zn)))):FnT Try.prog gS z Try.f61 [aw,YM,iv 0,iv l,iR] z [] 0 zn Q:=⟨Tr.lp 0 148 [] [] (uj aw 0 l) [] 0 z zn (Zv z zn),Eq.mp (by kernel_rfl) hyp⟩
abbrev W7(n:Nat):List Value:=[Value.int IntKind.u64 (IntKind.u64.wrap (↑n:Int))]
theorem js(z:T aa)(zn kk n l:Nat)(Q:QF)(hyp:aQ Try.prog z zn 62 (W7 n) [] 0 0 Yy (QQ l) cd/\Rs (W7 n)/\ ∀(x:Unit),True->Rs (IV l)/\aQ Try.prog z zn 61 [dx kk n,YM,IV n,IV l,g9] [] 0 0 Yy mB cd/\Rs [dx kk n,YM,IV n,IV l,g9]/\ ∀(x:Unit),True->kg/\E6 14 z zn (kg/\Q kX [] 0 z zn)):FnT Try.prog gS z Try.f53 [tb kk n n,iR] z [] 0 zn Q:=⟨Tr.cm (Cm.mk (W7 n) [] 0 0 [] [] 0) Unit Yy (QQ l) cd (fun(x:Unit)=>IV l) cd (fw z) (ft zn) fun(x:Unit)=>Tr.cm (Cm.mk [dx kk n,YM,IV n,IV l,g9] [] 0 0 [] [] 0) Unit Yy mB cd mB cd (fw z) (ft zn) (S5 z zn),Eq.mp (by kernel_rfl) hyp⟩
abbrev W6:List Value:=[Value.int IntKind.u64 0]
theorem jsz(z:T aa)(zn l:Nat)(Q:QF)(hyp:aQ Try.prog z zn 62 W6 [] 0 0 Yy (QQ l) cd/\Rs W6/\ ∀(x:Unit),True->Rs (IV l)/\aQ Try.prog z zn 61 [Y5,YM,YM,IV l,g9] [] 0 0 Yy mB cd/\Rs [Y5,YM,YM,IV l,g9]/\ ∀(x:Unit),True->kg/\E6 14 z zn (kg/\Q kX [] 0 z zn)):FnT Try.prog gS z Try.f53 [aw,iR] z [] 0 zn Q:=⟨Tr.cm (Cm.mk W6 [] 0 0 [] [] 0) Unit Yy (QQ l) cd (fun(x:Unit)=>IV l) cd (fw z) (ft zn) fun(x:Unit)=>Tr.cm (Cm.mk [Y5,YM,YM,IV l,g9] [] 0 0 [] [] 0) Unit Yy mB cd mB cd (fw z) (ft zn) (S5 z zn),Eq.mp (by kernel_rfl) hyp⟩
end
noncomputable section
abbrev W5(N:aA):List (Nat × aa):=[(0,N.cx aw N.l0),og,(2,bB [])]
theorem ruz(z:T aa)(zn:Nat)(N:aA)(Q:QL)(hyp:E6 96 z zn (jL/\sP/\Q YO fB [qk] 3 z zn)):RdT Try.prog gP z UI 96 ET z (W5 N) 3 zn 3 Q:=⟨tA 2 (tE gZ [] fB [qk] 3 z zn),Eq.mp (by kernel_rfl) hyp⟩
theorem fuz(z:T aa)(zn:Nat)(N:aA)(Q:QF)(hyp:BJ/\ai Try.prog UI 3 96 ET (W5 N) 3 z zn (alt True (au.mk YO [(2,ip 1)] [og] 3 z zn) Al.nil).R/\E6 96 z zn (R6 bA eW (MP 2) Y5 YM YM (KO vU (BQ [Bq N,Bp N,Y5,MM N,Qh N,J5 N,ZV N.d,ZV N.w,ZV N.c] 9 1 31)/\sP/\Ys/\ ∀(x:Unit),True->E6 96 z zn (Rs xz/\Q xz [] 0 z zn)))):FnT Try.prog gP z Try.f15 [AG (N.ey aw N.l0)] z [] 0 zn Q:=⟨tA 4 (Tr.lp 3 96 BK [] ET (W5 N) 3 z zn (Al.cons Unit Yy (fun(x:Unit)=>au.mk YO [(2,ip 1)] [og] 3 z zn) (UH z zn) Al.nil)),Eq.mp (by kernel_rfl) hyp⟩
end
end Go.Proofs.Nw
namespace Go.Proofs.Nw
open Go.RowKit
set_option maxRecDepth 1000000
theorem DV(s:ByteArray)(k:Nat)(h:k<s.size):(s.data.toList.drop k).all mi=(mi (s[k]'h) && (s.data.toList.drop (k+1)).all mi):=by
 have e:s.data.toList.drop k=(s[k]'h)::s.data.toList.drop (k+1):=by rw[List.drop_eq_getElem_cons (by simpa using h)];rfl
 rw[e];rfl
theorem H8(s:ByteArray)(k:Nat)(h:s.size<=k):(s.data.toList.drop k).all mi=true:=by
 rw[List.drop_of_length_le (by simpa using h)];rfl
theorem fQ(c:UInt8):mi c=true↔((97<=c.toNat/\c.toNat<=122)\/(65<=c.toNat/\c.toNat<=90)\/(48<=c.toNat/\c.toNat<=57)\/c.toNat=45\/c.toNat=95\/c.toNat=46):=by
 simp[mi,or_assoc]
theorem dh(c:UInt8):mi c=false↔ ¬((97<=c.toNat/\c.toNat<=122)\/(65<=c.toNat/\c.toNat<=90)\/(48<=c.toNat/\c.toNat<=57)\/c.toNat=45\/c.toNat=95\/c.toNat=46):=by
 rw[←fQ];simp
set_option maxHeartbeats 8000000 in
theorem Om(s:ByteArray)(w:World)(hs:s.size<=9223372036854775807):Calls Try.prog 24 #[.string s] w fun e w'=>e= .returned (.bool (bV s))/\w=w':=by
 go_enter Try.func24,Try.ntmps24
 go_wp2
 go_loop [3] (fun i=> ∃k:Nat,k<=s.size/\i= .int .i64 k/\(s.data.toList.drop k).all mi=s.data.toList.all mi) (fun i=>s.size - (intOf i).toNat)
 case atStart=>exact⟨0,Nat.zero_le _,rfl,rfl⟩
 case round=>
  obtain⟨k,hk,rfl,hv⟩:=hrel
  have HV:=Lib.hid hv
  clear hv
  by_cases hlt:k<s.size
  ·have HD:=Lib.hid (DV s k hlt)
   have hb:(s[k]'hlt).toNat<256:=(s[k]'hlt).toNat_lt
   have hcat:(0<=(s[k]'hlt).toNat/\(s[k]'hlt).toNat<=44)\/(45<=(s[k]'hlt).toNat/\(s[k]'hlt).toNat<=45)\/(46<=(s[k]'hlt).toNat/\(s[k]'hlt).toNat<=46)\/(47<=(s[k]'hlt).toNat/\(s[k]'hlt).toNat<=47)\/(48<=(s[k]'hlt).toNat/\(s[k]'hlt).toNat<=57)\/(58<=(s[k]'hlt).toNat/\(s[k]'hlt).toNat<=64)\/(65<=(s[k]'hlt).toNat/\(s[k]'hlt).toNat<=90)\/(91<=(s[k]'hlt).toNat/\(s[k]'hlt).toNat<=94)\/(95<=(s[k]'hlt).toNat/\(s[k]'hlt).toNat<=95)\/(96<=(s[k]'hlt).toNat/\(s[k]'hlt).toNat<=96)\/(97<=(s[k]'hlt).toNat/\(s[k]'hlt).toNat<=122)\/(123<=(s[k]'hlt).toNat/\(s[k]'hlt).toNat<=255):=by omega
   rcases hcat with hcat|hcat|hcat|hcat|hcat|hcat|hcat|hcat|hcat|hcat|hcat|hcat
   ·have x0: ¬97<=(s[k]'hlt).toNat:=by omega
    have y0: ¬(97:Int)<=(((s[k]'hlt).toNat:Nat):Int):=by omega
    have x1: ¬65<=(s[k]'hlt).toNat:=by omega
    have y1: ¬(65:Int)<=(((s[k]'hlt).toNat:Nat):Int):=by omega
    have x2: ¬48<=(s[k]'hlt).toNat:=by omega
    have y2: ¬(48:Int)<=(((s[k]'hlt).toNat:Nat):Int):=by omega
    have e45: ¬(s[k]'hlt).toNat=45:=by omega
    have f45: ¬(((s[k]'hlt).toNat:Nat):Int)=45:=by omega
    have e95: ¬(s[k]'hlt).toNat=95:=by omega
    have f95: ¬(((s[k]'hlt).toNat:Nat):Int)=95:=by omega
    have e46: ¬(s[k]'hlt).toNat=46:=by omega
    have f46: ¬(((s[k]'hlt).toNat:Nat):Int)=46:=by omega
    have OK:=Lib.hid (show mi (s[k]'hlt)=false by rw[dh];omega)
    have HR:=Lib.hid (show bV s=false by unfold bV;rw[←HV.out,HD.out,OK.out];simp)
    go_wp2
    go_ret
    exact⟨by rw[HR.out];rfl,rfl⟩
   ·have x0: ¬97<=(s[k]'hlt).toNat:=by omega
    have y0: ¬(97:Int)<=(((s[k]'hlt).toNat:Nat):Int):=by omega
    have x1: ¬65<=(s[k]'hlt).toNat:=by omega
    have y1: ¬(65:Int)<=(((s[k]'hlt).toNat:Nat):Int):=by omega
    have x2: ¬48<=(s[k]'hlt).toNat:=by omega
    have y2: ¬(48:Int)<=(((s[k]'hlt).toNat:Nat):Int):=by omega
    have e45:(s[k]'hlt).toNat=45:=by omega
    have f45:(((s[k]'hlt).toNat:Nat):Int)=45:=by omega
    have e95: ¬(s[k]'hlt).toNat=95:=by omega
    have f95: ¬(((s[k]'hlt).toNat:Nat):Int)=95:=by omega
    have e46: ¬(s[k]'hlt).toNat=46:=by omega
    have f46: ¬(((s[k]'hlt).toNat:Nat):Int)=46:=by omega
    have OK:=Lib.hid (show mi (s[k]'hlt)=true by rw[fQ];omega)
    go_wp2
    exact⟨⟨k+1,by omega,by simp,by rw[←HV.out,HD.out,OK.out,Bool.true_and]⟩,by simp[intOf];omega⟩
   ·have x0: ¬97<=(s[k]'hlt).toNat:=by omega
    have y0: ¬(97:Int)<=(((s[k]'hlt).toNat:Nat):Int):=by omega
    have x1: ¬65<=(s[k]'hlt).toNat:=by omega
    have y1: ¬(65:Int)<=(((s[k]'hlt).toNat:Nat):Int):=by omega
    have x2: ¬48<=(s[k]'hlt).toNat:=by omega
    have y2: ¬(48:Int)<=(((s[k]'hlt).toNat:Nat):Int):=by omega
    have e45: ¬(s[k]'hlt).toNat=45:=by omega
    have f45: ¬(((s[k]'hlt).toNat:Nat):Int)=45:=by omega
    have e95: ¬(s[k]'hlt).toNat=95:=by omega
    have f95: ¬(((s[k]'hlt).toNat:Nat):Int)=95:=by omega
    have e46:(s[k]'hlt).toNat=46:=by omega
    have f46:(((s[k]'hlt).toNat:Nat):Int)=46:=by omega
    have OK:=Lib.hid (show mi (s[k]'hlt)=true by rw[fQ];omega)
    go_wp2
    exact⟨⟨k+1,by omega,by simp,by rw[←HV.out,HD.out,OK.out,Bool.true_and]⟩,by simp[intOf];omega⟩
   ·have x0: ¬97<=(s[k]'hlt).toNat:=by omega
    have y0: ¬(97:Int)<=(((s[k]'hlt).toNat:Nat):Int):=by omega
    have x1: ¬65<=(s[k]'hlt).toNat:=by omega
    have y1: ¬(65:Int)<=(((s[k]'hlt).toNat:Nat):Int):=by omega
    have x2: ¬48<=(s[k]'hlt).toNat:=by omega
    have y2: ¬(48:Int)<=(((s[k]'hlt).toNat:Nat):Int):=by omega
    have e45: ¬(s[k]'hlt).toNat=45:=by omega
    have f45: ¬(((s[k]'hlt).toNat:Nat):Int)=45:=by omega
    have e95: ¬(s[k]'hlt).toNat=95:=by omega
    have f95: ¬(((s[k]'hlt).toNat:Nat):Int)=95:=by omega
    have e46: ¬(s[k]'hlt).toNat=46:=by omega
    have f46: ¬(((s[k]'hlt).toNat:Nat):Int)=46:=by omega
    have OK:=Lib.hid (show mi (s[k]'hlt)=false by rw[dh];omega)
    have HR:=Lib.hid (show bV s=false by unfold bV;rw[←HV.out,HD.out,OK.out];simp)
    go_wp2
    go_ret
    exact⟨by rw[HR.out];rfl,rfl⟩
   ·have x0: ¬97<=(s[k]'hlt).toNat:=by omega
    have y0: ¬(97:Int)<=(((s[k]'hlt).toNat:Nat):Int):=by omega
    have x1: ¬65<=(s[k]'hlt).toNat:=by omega
    have y1: ¬(65:Int)<=(((s[k]'hlt).toNat:Nat):Int):=by omega
    have x2:48<=(s[k]'hlt).toNat:=by omega
    have y2:(48:Int)<=(((s[k]'hlt).toNat:Nat):Int):=by omega
    have x3:(s[k]'hlt).toNat<=57:=by omega
    have y3:(((s[k]'hlt).toNat:Nat):Int)<=(57:Int):=by omega
    have OK:=Lib.hid (show mi (s[k]'hlt)=true by rw[fQ];omega)
    go_wp2
    exact⟨⟨k+1,by omega,by simp,by rw[←HV.out,HD.out,OK.out,Bool.true_and]⟩,by simp[intOf];omega⟩
   ·have x0: ¬97<=(s[k]'hlt).toNat:=by omega
    have y0: ¬(97:Int)<=(((s[k]'hlt).toNat:Nat):Int):=by omega
    have x1: ¬65<=(s[k]'hlt).toNat:=by omega
    have y1: ¬(65:Int)<=(((s[k]'hlt).toNat:Nat):Int):=by omega
    have x2:48<=(s[k]'hlt).toNat:=by omega
    have y2:(48:Int)<=(((s[k]'hlt).toNat:Nat):Int):=by omega
    have x3: ¬(s[k]'hlt).toNat<=57:=by omega
    have y3: ¬(((s[k]'hlt).toNat:Nat):Int)<=(57:Int):=by omega
    have e45: ¬(s[k]'hlt).toNat=45:=by omega
    have f45: ¬(((s[k]'hlt).toNat:Nat):Int)=45:=by omega
    have e95: ¬(s[k]'hlt).toNat=95:=by omega
    have f95: ¬(((s[k]'hlt).toNat:Nat):Int)=95:=by omega
    have e46: ¬(s[k]'hlt).toNat=46:=by omega
    have f46: ¬(((s[k]'hlt).toNat:Nat):Int)=46:=by omega
    have OK:=Lib.hid (show mi (s[k]'hlt)=false by rw[dh];omega)
    have HR:=Lib.hid (show bV s=false by unfold bV;rw[←HV.out,HD.out,OK.out];simp)
    go_wp2
    go_ret
    exact⟨by rw[HR.out];rfl,rfl⟩
   ·have x0: ¬97<=(s[k]'hlt).toNat:=by omega
    have y0: ¬(97:Int)<=(((s[k]'hlt).toNat:Nat):Int):=by omega
    have x1:65<=(s[k]'hlt).toNat:=by omega
    have y1:(65:Int)<=(((s[k]'hlt).toNat:Nat):Int):=by omega
    have x2:(s[k]'hlt).toNat<=90:=by omega
    have y2:(((s[k]'hlt).toNat:Nat):Int)<=(90:Int):=by omega
    have OK:=Lib.hid (show mi (s[k]'hlt)=true by rw[fQ];omega)
    go_wp2
    exact⟨⟨k+1,by omega,by simp,by rw[←HV.out,HD.out,OK.out,Bool.true_and]⟩,by simp[intOf];omega⟩
   ·have x0: ¬97<=(s[k]'hlt).toNat:=by omega
    have y0: ¬(97:Int)<=(((s[k]'hlt).toNat:Nat):Int):=by omega
    have x1:65<=(s[k]'hlt).toNat:=by omega
    have y1:(65:Int)<=(((s[k]'hlt).toNat:Nat):Int):=by omega
    have x2: ¬(s[k]'hlt).toNat<=90:=by omega
    have y2: ¬(((s[k]'hlt).toNat:Nat):Int)<=(90:Int):=by omega
    have x3:48<=(s[k]'hlt).toNat:=by omega
    have y3:(48:Int)<=(((s[k]'hlt).toNat:Nat):Int):=by omega
    have x4: ¬(s[k]'hlt).toNat<=57:=by omega
    have y4: ¬(((s[k]'hlt).toNat:Nat):Int)<=(57:Int):=by omega
    have e45: ¬(s[k]'hlt).toNat=45:=by omega
    have f45: ¬(((s[k]'hlt).toNat:Nat):Int)=45:=by omega
    have e95: ¬(s[k]'hlt).toNat=95:=by omega
    have f95: ¬(((s[k]'hlt).toNat:Nat):Int)=95:=by omega
    have e46: ¬(s[k]'hlt).toNat=46:=by omega
    have f46: ¬(((s[k]'hlt).toNat:Nat):Int)=46:=by omega
    have OK:=Lib.hid (show mi (s[k]'hlt)=false by rw[dh];omega)
    have HR:=Lib.hid (show bV s=false by unfold bV;rw[←HV.out,HD.out,OK.out];simp)
    go_wp2
    go_ret
    exact⟨by rw[HR.out];rfl,rfl⟩
   ·have x0: ¬97<=(s[k]'hlt).toNat:=by omega
    have y0: ¬(97:Int)<=(((s[k]'hlt).toNat:Nat):Int):=by omega
    have x1:65<=(s[k]'hlt).toNat:=by omega
    have y1:(65:Int)<=(((s[k]'hlt).toNat:Nat):Int):=by omega
    have x2: ¬(s[k]'hlt).toNat<=90:=by omega
    have y2: ¬(((s[k]'hlt).toNat:Nat):Int)<=(90:Int):=by omega
    have x3:48<=(s[k]'hlt).toNat:=by omega
    have y3:(48:Int)<=(((s[k]'hlt).toNat:Nat):Int):=by omega
    have x4: ¬(s[k]'hlt).toNat<=57:=by omega
    have y4: ¬(((s[k]'hlt).toNat:Nat):Int)<=(57:Int):=by omega
    have e45: ¬(s[k]'hlt).toNat=45:=by omega
    have f45: ¬(((s[k]'hlt).toNat:Nat):Int)=45:=by omega
    have e95:(s[k]'hlt).toNat=95:=by omega
    have f95:(((s[k]'hlt).toNat:Nat):Int)=95:=by omega
    have e46: ¬(s[k]'hlt).toNat=46:=by omega
    have f46: ¬(((s[k]'hlt).toNat:Nat):Int)=46:=by omega
    have OK:=Lib.hid (show mi (s[k]'hlt)=true by rw[fQ];omega)
    go_wp2
    exact⟨⟨k+1,by omega,by simp,by rw[←HV.out,HD.out,OK.out,Bool.true_and]⟩,by simp[intOf];omega⟩
   ·have x0: ¬97<=(s[k]'hlt).toNat:=by omega
    have y0: ¬(97:Int)<=(((s[k]'hlt).toNat:Nat):Int):=by omega
    have x1:65<=(s[k]'hlt).toNat:=by omega
    have y1:(65:Int)<=(((s[k]'hlt).toNat:Nat):Int):=by omega
    have x2: ¬(s[k]'hlt).toNat<=90:=by omega
    have y2: ¬(((s[k]'hlt).toNat:Nat):Int)<=(90:Int):=by omega
    have x3:48<=(s[k]'hlt).toNat:=by omega
    have y3:(48:Int)<=(((s[k]'hlt).toNat:Nat):Int):=by omega
    have x4: ¬(s[k]'hlt).toNat<=57:=by omega
    have y4: ¬(((s[k]'hlt).toNat:Nat):Int)<=(57:Int):=by omega
    have e45: ¬(s[k]'hlt).toNat=45:=by omega
    have f45: ¬(((s[k]'hlt).toNat:Nat):Int)=45:=by omega
    have e95: ¬(s[k]'hlt).toNat=95:=by omega
    have f95: ¬(((s[k]'hlt).toNat:Nat):Int)=95:=by omega
    have e46: ¬(s[k]'hlt).toNat=46:=by omega
    have f46: ¬(((s[k]'hlt).toNat:Nat):Int)=46:=by omega
    have OK:=Lib.hid (show mi (s[k]'hlt)=false by rw[dh];omega)
    have HR:=Lib.hid (show bV s=false by unfold bV;rw[←HV.out,HD.out,OK.out];simp)
    go_wp2
    go_ret
    exact⟨by rw[HR.out];rfl,rfl⟩
   ·have x0:97<=(s[k]'hlt).toNat:=by omega
    have y0:(97:Int)<=(((s[k]'hlt).toNat:Nat):Int):=by omega
    have x1:(s[k]'hlt).toNat<=122:=by omega
    have y1:(((s[k]'hlt).toNat:Nat):Int)<=(122:Int):=by omega
    have OK:=Lib.hid (show mi (s[k]'hlt)=true by rw[fQ];omega)
    go_wp2
    exact⟨⟨k+1,by omega,by simp,by rw[←HV.out,HD.out,OK.out,Bool.true_and]⟩,by simp[intOf];omega⟩
   ·have x0:97<=(s[k]'hlt).toNat:=by omega
    have y0:(97:Int)<=(((s[k]'hlt).toNat:Nat):Int):=by omega
    have x1: ¬(s[k]'hlt).toNat<=122:=by omega
    have y1: ¬(((s[k]'hlt).toNat:Nat):Int)<=(122:Int):=by omega
    have x2:65<=(s[k]'hlt).toNat:=by omega
    have y2:(65:Int)<=(((s[k]'hlt).toNat:Nat):Int):=by omega
    have x3: ¬(s[k]'hlt).toNat<=90:=by omega
    have y3: ¬(((s[k]'hlt).toNat:Nat):Int)<=(90:Int):=by omega
    have x4:48<=(s[k]'hlt).toNat:=by omega
    have y4:(48:Int)<=(((s[k]'hlt).toNat:Nat):Int):=by omega
    have x5: ¬(s[k]'hlt).toNat<=57:=by omega
    have y5: ¬(((s[k]'hlt).toNat:Nat):Int)<=(57:Int):=by omega
    have e45: ¬(s[k]'hlt).toNat=45:=by omega
    have f45: ¬(((s[k]'hlt).toNat:Nat):Int)=45:=by omega
    have e95: ¬(s[k]'hlt).toNat=95:=by omega
    have f95: ¬(((s[k]'hlt).toNat:Nat):Int)=95:=by omega
    have e46: ¬(s[k]'hlt).toNat=46:=by omega
    have f46: ¬(((s[k]'hlt).toNat:Nat):Int)=46:=by omega
    have OK:=Lib.hid (show mi (s[k]'hlt)=false by rw[dh];omega)
    have HR:=Lib.hid (show bV s=false by unfold bV;rw[←HV.out,HD.out,OK.out];simp)
    go_wp2
    go_ret
    exact⟨by rw[HR.out];rfl,rfl⟩
  ·have he:s.data.toList.all mi=true:=by rw[←HV.out];exact H8 s k (by omega)
   by_cases h0:0<s.size
   ·by_cases h1:s.size<=32
    ·have HR:=Lib.hid (show bV s=true by unfold bV;rw[he];simp[h0,h1])
     clear he
     have h0':(0:Int)<(s.size:Int):=by omega
     have h1':(s.size:Int)<=32:=by omega
     go_wp2
     go_ret
     exact⟨by rw[HR.out];rfl,rfl⟩
    ·have HR:=Lib.hid (show bV s=false by unfold bV;rw[he];simp[h0,h1])
     clear he
     have h0':(0:Int)<(s.size:Int):=by omega
     have h1': ¬(s.size:Int)<=32:=by omega
     go_wp2
     go_ret
     exact⟨by rw[HR.out];rfl,rfl⟩
   ·have HR:=Lib.hid (show bV s=false by unfold bV;rw[he];simp[h0])
    clear he
    have h0': ¬(0:Int)<(s.size:Int):=by omega
    go_wp2
    go_ret
    exact⟨by rw[HR.out];rfl,rfl⟩
set_option maxHeartbeats 8000000 in
theorem Ol(s:ByteArray)(w:World)(hs:s.size<=9223372036854775807):Calls Try.prog 44 #[.string s] w fun e w'=>e= .returned (.bool (bV s))/\w=w':=by
 by_cases h0:0<s.size
 case neg=>
  have HR:=Lib.hid (show bV s=false by unfold bV;simp[h0])
  have h0':(s.size:Int)<1:=by omega
  go_enter Try.func44,Try.ntmps44
  go_wp2
  go_ret
  exact⟨by rw[HR.out];rfl,rfl⟩
 by_cases h1:s.size<=32
 case neg=>
  have HR:=Lib.hid (show bV s=false by unfold bV;simp[h1])
  have h0': ¬(s.size:Int)<1:=by omega
  have h1':(32:Int)<(s.size:Int):=by omega
  go_enter Try.func44,Try.ntmps44
  go_wp2
  go_ret
  exact⟨by rw[HR.out];rfl,rfl⟩
 have h0': ¬(s.size:Int)<1:=by omega
 have h1': ¬(32:Int)<(s.size:Int):=by omega
 go_enter Try.func44,Try.ntmps44
 go_wp2
 go_loop [3] (fun i=> ∃k:Nat,k<=s.size/\i= .int .i64 k/\(s.data.toList.drop k).all mi=s.data.toList.all mi) (fun i=>s.size - (intOf i).toNat)
 case atStart=>exact⟨0,Nat.zero_le _,rfl,rfl⟩
 case round=>
  obtain⟨k,hk,rfl,hv⟩:=hrel
  have HV:=Lib.hid hv
  clear hv
  by_cases hlt:k<s.size
  ·have HD:=Lib.hid (DV s k hlt)
   have hb:(s[k]'hlt).toNat<256:=(s[k]'hlt).toNat_lt
   have hcat:(0<=(s[k]'hlt).toNat/\(s[k]'hlt).toNat<=44)\/(45<=(s[k]'hlt).toNat/\(s[k]'hlt).toNat<=45)\/(46<=(s[k]'hlt).toNat/\(s[k]'hlt).toNat<=46)\/(47<=(s[k]'hlt).toNat/\(s[k]'hlt).toNat<=47)\/(48<=(s[k]'hlt).toNat/\(s[k]'hlt).toNat<=57)\/(58<=(s[k]'hlt).toNat/\(s[k]'hlt).toNat<=64)\/(65<=(s[k]'hlt).toNat/\(s[k]'hlt).toNat<=90)\/(91<=(s[k]'hlt).toNat/\(s[k]'hlt).toNat<=94)\/(95<=(s[k]'hlt).toNat/\(s[k]'hlt).toNat<=95)\/(96<=(s[k]'hlt).toNat/\(s[k]'hlt).toNat<=96)\/(97<=(s[k]'hlt).toNat/\(s[k]'hlt).toNat<=122)\/(123<=(s[k]'hlt).toNat/\(s[k]'hlt).toNat<=255):=by omega
   rcases hcat with hcat|hcat|hcat|hcat|hcat|hcat|hcat|hcat|hcat|hcat|hcat|hcat
   ·have x0: ¬97<=(s[k]'hlt).toNat:=by omega
    have y0: ¬(97:Int)<=(((s[k]'hlt).toNat:Nat):Int):=by omega
    have x1: ¬65<=(s[k]'hlt).toNat:=by omega
    have y1: ¬(65:Int)<=(((s[k]'hlt).toNat:Nat):Int):=by omega
    have x2: ¬48<=(s[k]'hlt).toNat:=by omega
    have y2: ¬(48:Int)<=(((s[k]'hlt).toNat:Nat):Int):=by omega
    have e45: ¬(s[k]'hlt).toNat=45:=by omega
    have f45: ¬(((s[k]'hlt).toNat:Nat):Int)=45:=by omega
    have g45:((((s[k]'hlt).toNat:Nat):Int) !=45)=true:=by rw[bne_iff_ne];exact f45
    have e95: ¬(s[k]'hlt).toNat=95:=by omega
    have f95: ¬(((s[k]'hlt).toNat:Nat):Int)=95:=by omega
    have g95:((((s[k]'hlt).toNat:Nat):Int) !=95)=true:=by rw[bne_iff_ne];exact f95
    have e46: ¬(s[k]'hlt).toNat=46:=by omega
    have f46: ¬(((s[k]'hlt).toNat:Nat):Int)=46:=by omega
    have g46:((((s[k]'hlt).toNat:Nat):Int) !=46)=true:=by rw[bne_iff_ne];exact f46
    have OK:=Lib.hid (show mi (s[k]'hlt)=false by rw[dh];omega)
    have HR:=Lib.hid (show bV s=false by unfold bV;rw[←HV.out,HD.out,OK.out];simp)
    go_wp2
    go_ret
    exact⟨by rw[HR.out];rfl,rfl⟩
   ·have x0: ¬97<=(s[k]'hlt).toNat:=by omega
    have y0: ¬(97:Int)<=(((s[k]'hlt).toNat:Nat):Int):=by omega
    have x1: ¬65<=(s[k]'hlt).toNat:=by omega
    have y1: ¬(65:Int)<=(((s[k]'hlt).toNat:Nat):Int):=by omega
    have x2: ¬48<=(s[k]'hlt).toNat:=by omega
    have y2: ¬(48:Int)<=(((s[k]'hlt).toNat:Nat):Int):=by omega
    have e45:(s[k]'hlt).toNat=45:=by omega
    have f45:(((s[k]'hlt).toNat:Nat):Int)=45:=by omega
    have g45:((((s[k]'hlt).toNat:Nat):Int) !=45)=false:=by rw[f45];rfl
    have e95: ¬(s[k]'hlt).toNat=95:=by omega
    have f95: ¬(((s[k]'hlt).toNat:Nat):Int)=95:=by omega
    have g95:((((s[k]'hlt).toNat:Nat):Int) !=95)=true:=by rw[bne_iff_ne];exact f95
    have e46: ¬(s[k]'hlt).toNat=46:=by omega
    have f46: ¬(((s[k]'hlt).toNat:Nat):Int)=46:=by omega
    have g46:((((s[k]'hlt).toNat:Nat):Int) !=46)=true:=by rw[bne_iff_ne];exact f46
    have OK:=Lib.hid (show mi (s[k]'hlt)=true by rw[fQ];omega)
    go_wp2
    exact⟨⟨k+1,by omega,by simp,by rw[←HV.out,HD.out,OK.out,Bool.true_and]⟩,by simp[intOf];omega⟩
   ·have x0: ¬97<=(s[k]'hlt).toNat:=by omega
    have y0: ¬(97:Int)<=(((s[k]'hlt).toNat:Nat):Int):=by omega
    have x1: ¬65<=(s[k]'hlt).toNat:=by omega
    have y1: ¬(65:Int)<=(((s[k]'hlt).toNat:Nat):Int):=by omega
    have x2: ¬48<=(s[k]'hlt).toNat:=by omega
    have y2: ¬(48:Int)<=(((s[k]'hlt).toNat:Nat):Int):=by omega
    have e45: ¬(s[k]'hlt).toNat=45:=by omega
    have f45: ¬(((s[k]'hlt).toNat:Nat):Int)=45:=by omega
    have g45:((((s[k]'hlt).toNat:Nat):Int) !=45)=true:=by rw[bne_iff_ne];exact f45
    have e95: ¬(s[k]'hlt).toNat=95:=by omega
    have f95: ¬(((s[k]'hlt).toNat:Nat):Int)=95:=by omega
    have g95:((((s[k]'hlt).toNat:Nat):Int) !=95)=true:=by rw[bne_iff_ne];exact f95
    have e46:(s[k]'hlt).toNat=46:=by omega
    have f46:(((s[k]'hlt).toNat:Nat):Int)=46:=by omega
    have g46:((((s[k]'hlt).toNat:Nat):Int) !=46)=false:=by rw[f46];rfl
    have OK:=Lib.hid (show mi (s[k]'hlt)=true by rw[fQ];omega)
    go_wp2
    exact⟨⟨k+1,by omega,by simp,by rw[←HV.out,HD.out,OK.out,Bool.true_and]⟩,by simp[intOf];omega⟩
   ·have x0: ¬97<=(s[k]'hlt).toNat:=by omega
    have y0: ¬(97:Int)<=(((s[k]'hlt).toNat:Nat):Int):=by omega
    have x1: ¬65<=(s[k]'hlt).toNat:=by omega
    have y1: ¬(65:Int)<=(((s[k]'hlt).toNat:Nat):Int):=by omega
    have x2: ¬48<=(s[k]'hlt).toNat:=by omega
    have y2: ¬(48:Int)<=(((s[k]'hlt).toNat:Nat):Int):=by omega
    have e45: ¬(s[k]'hlt).toNat=45:=by omega
    have f45: ¬(((s[k]'hlt).toNat:Nat):Int)=45:=by omega
    have g45:((((s[k]'hlt).toNat:Nat):Int) !=45)=true:=by rw[bne_iff_ne];exact f45
    have e95: ¬(s[k]'hlt).toNat=95:=by omega
    have f95: ¬(((s[k]'hlt).toNat:Nat):Int)=95:=by omega
    have g95:((((s[k]'hlt).toNat:Nat):Int) !=95)=true:=by rw[bne_iff_ne];exact f95
    have e46: ¬(s[k]'hlt).toNat=46:=by omega
    have f46: ¬(((s[k]'hlt).toNat:Nat):Int)=46:=by omega
    have g46:((((s[k]'hlt).toNat:Nat):Int) !=46)=true:=by rw[bne_iff_ne];exact f46
    have OK:=Lib.hid (show mi (s[k]'hlt)=false by rw[dh];omega)
    have HR:=Lib.hid (show bV s=false by unfold bV;rw[←HV.out,HD.out,OK.out];simp)
    go_wp2
    go_ret
    exact⟨by rw[HR.out];rfl,rfl⟩
   ·have x0: ¬97<=(s[k]'hlt).toNat:=by omega
    have y0: ¬(97:Int)<=(((s[k]'hlt).toNat:Nat):Int):=by omega
    have x1: ¬65<=(s[k]'hlt).toNat:=by omega
    have y1: ¬(65:Int)<=(((s[k]'hlt).toNat:Nat):Int):=by omega
    have x2:48<=(s[k]'hlt).toNat:=by omega
    have y2:(48:Int)<=(((s[k]'hlt).toNat:Nat):Int):=by omega
    have x3:(s[k]'hlt).toNat<=57:=by omega
    have y3:(((s[k]'hlt).toNat:Nat):Int)<=(57:Int):=by omega
    have OK:=Lib.hid (show mi (s[k]'hlt)=true by rw[fQ];omega)
    go_wp2
    exact⟨⟨k+1,by omega,by simp,by rw[←HV.out,HD.out,OK.out,Bool.true_and]⟩,by simp[intOf];omega⟩
   ·have x0: ¬97<=(s[k]'hlt).toNat:=by omega
    have y0: ¬(97:Int)<=(((s[k]'hlt).toNat:Nat):Int):=by omega
    have x1: ¬65<=(s[k]'hlt).toNat:=by omega
    have y1: ¬(65:Int)<=(((s[k]'hlt).toNat:Nat):Int):=by omega
    have x2:48<=(s[k]'hlt).toNat:=by omega
    have y2:(48:Int)<=(((s[k]'hlt).toNat:Nat):Int):=by omega
    have x3: ¬(s[k]'hlt).toNat<=57:=by omega
    have y3: ¬(((s[k]'hlt).toNat:Nat):Int)<=(57:Int):=by omega
    have e45: ¬(s[k]'hlt).toNat=45:=by omega
    have f45: ¬(((s[k]'hlt).toNat:Nat):Int)=45:=by omega
    have g45:((((s[k]'hlt).toNat:Nat):Int) !=45)=true:=by rw[bne_iff_ne];exact f45
    have e95: ¬(s[k]'hlt).toNat=95:=by omega
    have f95: ¬(((s[k]'hlt).toNat:Nat):Int)=95:=by omega
    have g95:((((s[k]'hlt).toNat:Nat):Int) !=95)=true:=by rw[bne_iff_ne];exact f95
    have e46: ¬(s[k]'hlt).toNat=46:=by omega
    have f46: ¬(((s[k]'hlt).toNat:Nat):Int)=46:=by omega
    have g46:((((s[k]'hlt).toNat:Nat):Int) !=46)=true:=by rw[bne_iff_ne];exact f46
    have OK:=Lib.hid (show mi (s[k]'hlt)=false by rw[dh];omega)
    have HR:=Lib.hid (show bV s=false by unfold bV;rw[←HV.out,HD.out,OK.out];simp)
    go_wp2
    go_ret
    exact⟨by rw[HR.out];rfl,rfl⟩
   ·have x0: ¬97<=(s[k]'hlt).toNat:=by omega
    have y0: ¬(97:Int)<=(((s[k]'hlt).toNat:Nat):Int):=by omega
    have x1:65<=(s[k]'hlt).toNat:=by omega
    have y1:(65:Int)<=(((s[k]'hlt).toNat:Nat):Int):=by omega
    have x2:(s[k]'hlt).toNat<=90:=by omega
    have y2:(((s[k]'hlt).toNat:Nat):Int)<=(90:Int):=by omega
    have OK:=Lib.hid (show mi (s[k]'hlt)=true by rw[fQ];omega)
    go_wp2
    exact⟨⟨k+1,by omega,by simp,by rw[←HV.out,HD.out,OK.out,Bool.true_and]⟩,by simp[intOf];omega⟩
   ·have x0: ¬97<=(s[k]'hlt).toNat:=by omega
    have y0: ¬(97:Int)<=(((s[k]'hlt).toNat:Nat):Int):=by omega
    have x1:65<=(s[k]'hlt).toNat:=by omega
    have y1:(65:Int)<=(((s[k]'hlt).toNat:Nat):Int):=by omega
    have x2: ¬(s[k]'hlt).toNat<=90:=by omega
    have y2: ¬(((s[k]'hlt).toNat:Nat):Int)<=(90:Int):=by omega
    have x3:48<=(s[k]'hlt).toNat:=by omega
    have y3:(48:Int)<=(((s[k]'hlt).toNat:Nat):Int):=by omega
    have x4: ¬(s[k]'hlt).toNat<=57:=by omega
    have y4: ¬(((s[k]'hlt).toNat:Nat):Int)<=(57:Int):=by omega
    have e45: ¬(s[k]'hlt).toNat=45:=by omega
    have f45: ¬(((s[k]'hlt).toNat:Nat):Int)=45:=by omega
    have g45:((((s[k]'hlt).toNat:Nat):Int) !=45)=true:=by rw[bne_iff_ne];exact f45
    have e95: ¬(s[k]'hlt).toNat=95:=by omega
    have f95: ¬(((s[k]'hlt).toNat:Nat):Int)=95:=by omega
    have g95:((((s[k]'hlt).toNat:Nat):Int) !=95)=true:=by rw[bne_iff_ne];exact f95
    have e46: ¬(s[k]'hlt).toNat=46:=by omega
    have f46: ¬(((s[k]'hlt).toNat:Nat):Int)=46:=by omega
    have g46:((((s[k]'hlt).toNat:Nat):Int) !=46)=true:=by rw[bne_iff_ne];exact f46
    have OK:=Lib.hid (show mi (s[k]'hlt)=false by rw[dh];omega)
    have HR:=Lib.hid (show bV s=false by unfold bV;rw[←HV.out,HD.out,OK.out];simp)
    go_wp2
    go_ret
    exact⟨by rw[HR.out];rfl,rfl⟩
   ·have x0: ¬97<=(s[k]'hlt).toNat:=by omega
    have y0: ¬(97:Int)<=(((s[k]'hlt).toNat:Nat):Int):=by omega
    have x1:65<=(s[k]'hlt).toNat:=by omega
    have y1:(65:Int)<=(((s[k]'hlt).toNat:Nat):Int):=by omega
    have x2: ¬(s[k]'hlt).toNat<=90:=by omega
    have y2: ¬(((s[k]'hlt).toNat:Nat):Int)<=(90:Int):=by omega
    have x3:48<=(s[k]'hlt).toNat:=by omega
    have y3:(48:Int)<=(((s[k]'hlt).toNat:Nat):Int):=by omega
    have x4: ¬(s[k]'hlt).toNat<=57:=by omega
    have y4: ¬(((s[k]'hlt).toNat:Nat):Int)<=(57:Int):=by omega
    have e45: ¬(s[k]'hlt).toNat=45:=by omega
    have f45: ¬(((s[k]'hlt).toNat:Nat):Int)=45:=by omega
    have g45:((((s[k]'hlt).toNat:Nat):Int) !=45)=true:=by rw[bne_iff_ne];exact f45
    have e95:(s[k]'hlt).toNat=95:=by omega
    have f95:(((s[k]'hlt).toNat:Nat):Int)=95:=by omega
    have g95:((((s[k]'hlt).toNat:Nat):Int) !=95)=false:=by rw[f95];rfl
    have e46: ¬(s[k]'hlt).toNat=46:=by omega
    have f46: ¬(((s[k]'hlt).toNat:Nat):Int)=46:=by omega
    have g46:((((s[k]'hlt).toNat:Nat):Int) !=46)=true:=by rw[bne_iff_ne];exact f46
    have OK:=Lib.hid (show mi (s[k]'hlt)=true by rw[fQ];omega)
    go_wp2
    exact⟨⟨k+1,by omega,by simp,by rw[←HV.out,HD.out,OK.out,Bool.true_and]⟩,by simp[intOf];omega⟩
   ·have x0: ¬97<=(s[k]'hlt).toNat:=by omega
    have y0: ¬(97:Int)<=(((s[k]'hlt).toNat:Nat):Int):=by omega
    have x1:65<=(s[k]'hlt).toNat:=by omega
    have y1:(65:Int)<=(((s[k]'hlt).toNat:Nat):Int):=by omega
    have x2: ¬(s[k]'hlt).toNat<=90:=by omega
    have y2: ¬(((s[k]'hlt).toNat:Nat):Int)<=(90:Int):=by omega
    have x3:48<=(s[k]'hlt).toNat:=by omega
    have y3:(48:Int)<=(((s[k]'hlt).toNat:Nat):Int):=by omega
    have x4: ¬(s[k]'hlt).toNat<=57:=by omega
    have y4: ¬(((s[k]'hlt).toNat:Nat):Int)<=(57:Int):=by omega
    have e45: ¬(s[k]'hlt).toNat=45:=by omega
    have f45: ¬(((s[k]'hlt).toNat:Nat):Int)=45:=by omega
    have g45:((((s[k]'hlt).toNat:Nat):Int) !=45)=true:=by rw[bne_iff_ne];exact f45
    have e95: ¬(s[k]'hlt).toNat=95:=by omega
    have f95: ¬(((s[k]'hlt).toNat:Nat):Int)=95:=by omega
    have g95:((((s[k]'hlt).toNat:Nat):Int) !=95)=true:=by rw[bne_iff_ne];exact f95
    have e46: ¬(s[k]'hlt).toNat=46:=by omega
    have f46: ¬(((s[k]'hlt).toNat:Nat):Int)=46:=by omega
    have g46:((((s[k]'hlt).toNat:Nat):Int) !=46)=true:=by rw[bne_iff_ne];exact f46
    have OK:=Lib.hid (show mi (s[k]'hlt)=false by rw[dh];omega)
    have HR:=Lib.hid (show bV s=false by unfold bV;rw[←HV.out,HD.out,OK.out];simp)
    go_wp2
    go_ret
    exact⟨by rw[HR.out];rfl,rfl⟩
   ·have x0:97<=(s[k]'hlt).toNat:=by omega
    have y0:(97:Int)<=(((s[k]'hlt).toNat:Nat):Int):=by omega
    have x1:(s[k]'hlt).toNat<=122:=by omega
    have y1:(((s[k]'hlt).toNat:Nat):Int)<=(122:Int):=by omega
    have OK:=Lib.hid (show mi (s[k]'hlt)=true by rw[fQ];omega)
    go_wp2
    exact⟨⟨k+1,by omega,by simp,by rw[←HV.out,HD.out,OK.out,Bool.true_and]⟩,by simp[intOf];omega⟩
   ·have x0:97<=(s[k]'hlt).toNat:=by omega
    have y0:(97:Int)<=(((s[k]'hlt).toNat:Nat):Int):=by omega
    have x1: ¬(s[k]'hlt).toNat<=122:=by omega
    have y1: ¬(((s[k]'hlt).toNat:Nat):Int)<=(122:Int):=by omega
    have x2:65<=(s[k]'hlt).toNat:=by omega
    have y2:(65:Int)<=(((s[k]'hlt).toNat:Nat):Int):=by omega
    have x3: ¬(s[k]'hlt).toNat<=90:=by omega
    have y3: ¬(((s[k]'hlt).toNat:Nat):Int)<=(90:Int):=by omega
    have x4:48<=(s[k]'hlt).toNat:=by omega
    have y4:(48:Int)<=(((s[k]'hlt).toNat:Nat):Int):=by omega
    have x5: ¬(s[k]'hlt).toNat<=57:=by omega
    have y5: ¬(((s[k]'hlt).toNat:Nat):Int)<=(57:Int):=by omega
    have e45: ¬(s[k]'hlt).toNat=45:=by omega
    have f45: ¬(((s[k]'hlt).toNat:Nat):Int)=45:=by omega
    have g45:((((s[k]'hlt).toNat:Nat):Int) !=45)=true:=by rw[bne_iff_ne];exact f45
    have e95: ¬(s[k]'hlt).toNat=95:=by omega
    have f95: ¬(((s[k]'hlt).toNat:Nat):Int)=95:=by omega
    have g95:((((s[k]'hlt).toNat:Nat):Int) !=95)=true:=by rw[bne_iff_ne];exact f95
    have e46: ¬(s[k]'hlt).toNat=46:=by omega
    have f46: ¬(((s[k]'hlt).toNat:Nat):Int)=46:=by omega
    have g46:((((s[k]'hlt).toNat:Nat):Int) !=46)=true:=by rw[bne_iff_ne];exact f46
    have OK:=Lib.hid (show mi (s[k]'hlt)=false by rw[dh];omega)
    have HR:=Lib.hid (show bV s=false by unfold bV;rw[←HV.out,HD.out,OK.out];simp)
    go_wp2
    go_ret
    exact⟨by rw[HR.out];rfl,rfl⟩
  ·have he:s.data.toList.all mi=true:=by rw[←HV.out];exact H8 s k (by omega)
   have HR:=Lib.hid (show bV s=true by unfold bV;rw[he];simp[h0,h1])
   clear he
   go_wp2
   go_ret
   exact⟨by rw[HR.out];rfl,rfl⟩
end Go.Proofs.Nw
namespace Go.Proofs.Nw
open Go Go.AV
set_option maxRecDepth 100000
def eC(l:List bS)(i:Nat):Option Int:=match l[i]? with
 |some x=>if bV x.id=false then some 12 else if (l.take i).any (fun y=>y.id.data==x.id.data) then some 6 else if x.aS<0\/16<=x.aS\/x.change<0\/3600<x.change then some 2 else none
 |none=>none
def cR(l:List bS):Int × Int:=if 64<l.length then (0,5) else scan (eC l) l.length 0
structure cy(z:T aa)(k:Nat)(rows:List (List Value)):Prop where
 here:rows≠[]-> ∃e,z.get k=some (.ay (bC e rows.flatten))
 size: ∀r∈rows,∀s:ByteArray,Value.string s∈r->s.size<=9223372036854775807
theorem cy.sz{z:T aa}{k:Nat}{rows:List (List Value)}(h:cy z k rows){i:Nat}{r:List Value}{s:ByteArray}(hr:rows[i]? =some r)(hs:Value.string s∈r):s.size<=9223372036854775807:=h.size r (List.mem_of_getElem? hr) s hs
theorem cy.ay{z:T aa}{k i:Nat}{rows:List (List Value)}(h:cy z k rows)(hi:i<rows.length): ∃e,z.get k=some (.ay (bC e rows.flatten)):=
 h.here (fun e=>by rw[e] at hi;simp at hi)
theorem aM{α:Type}{row:α->List Value}{sz:Nat}(l:List α)(h: ∀x,(row x).length=sz): ∀r∈l.map row,r.length=sz:=by
 intro r hr
 obtain⟨y,_,rfl⟩:=List.mem_map.1 hr
 exact h y
theorem aG{n:Nat}(h:n<1000000000):Value.int .i64 (IntKind.i64.wrap ((n:Int)+1))=Value.int .i64 ((n+1:Nat):Int):=by
 have:IntKind.i64.wrap ((n:Int)+1)=(n:Int)+1:=by
  simp only[IntKind.wrap,IntKind.signed,IntKind.bits]
  simp
  omega
 rw[this];rfl
theorem ue{s:ByteArray}{l:List ByteArray}:Value.string s∈l.map Value.string↔s∈l:=by
 rw[List.mem_map]
 exact⟨fun⟨x,h1,h2⟩=>by cases h2;exact h1,fun h=>⟨s,h,rfl⟩⟩
section
variable{z:T aa}{zn:Nat}
theorem KU(hz:an z zn)(hg:fD Try.prog z gP)(l:List bS)(cp:Nat)(ht:cy z 2 (l.map bS.row))(hl:l.length<100000)(r:Int × Int)(hr:scan (eC l) l.length 0=r):
 ai Try.prog (ah (ag Try.f11) 0) 1 54 (Hl l.length cp 0) [(0,bB [])] 1 z zn (Al.R (RJ z zn l.length cp r.1 r.2).l):=by
 refine ak hD hg (α:=Nat) 1 54 1 (fun i=>i<=l.length/\scan (eC l) (l.length - i) i=r) (fun i=>Hl l.length cp i) (fun i=>[(0,bB (((l.take i).map bS.id).map .string))]) (fun _=>z) (fun _=>zn) (fun i=>l.length - i) _ (fun i hI=>?_) 0 ⟨Nat.zero_le _,hr⟩
 obtain⟨h1,h2⟩:=hI
 by_cases hi:i<l.length
 ·obtain⟨e,he⟩:=ht.ay (i:=i) (by simpa using hi)
  obtain⟨x,hx⟩: ∃x,l[i]? =some x:=⟨l[i],List.getElem?_eq_getElem hi⟩
  have hid:=TA (ht.sz (i:=i) (r:=x.row) (s:=x.id) (by rw[List.getElem?_map,hx];rfl) (by simp))
  have hrow:aB Try.prog (bC e (l.map bS.row).flatten) 46 (0+i*4)=some (.agg ⟨x.row⟩):=bO (P:=Try.prog) (e:=e) (t:=46) (k:=i) (r:=x.row) (sz:=4) Try.underlying46 rfl rfl (aM (row:=bS.row) l fun _=>rfl) (by rw[List.getElem?_map,hx];rfl)
  have hk:=Cr x.id ((l.take i).map bS.id)
  have hps:=oI ((l.take i).map bS.id)
  have hany:Value.string x.id∈((l.take i).map bS.id).map Value.string↔(l.take i).any (fun y=>y.id.data==x.id.data)=true:=by
   rw[ue,List.any_eq_true,List.mem_map]
   exact⟨fun⟨y,q1,q2⟩=>⟨y,q1,by rw[q2];exact(jI _ _).2 rfl⟩,fun⟨y,q1,q2⟩=>⟨y,q1,(jI _ _).1 q2⟩⟩
  have hc:decide ((i:Int)<(l.length:Int))=true:=by simp;omega
  have ret: ∀e:Int,eC l i=some e->Al.R (RJ z zn l.length cp r.1 r.2).l ⟨.ret,[(2,iv i),(3,zv e)],[],1,z,zn⟩:=fun e h=>by
   have:r=((i:Int),e):=by rw[←h2,dq hi h]
   rw[this];exact bJ trivial
  refine t100 (XJ z zn i l.length cp (bC e (l.map bS.row).flatten) x (((l.take i).map bS.id).map .string) (aj _ _ _ _ _ _ _ _ _) ⟨fun _=>?_,fun h=>by rw[hc] at h;cases h⟩)
  (repeat' first|(with_reducible first|exact rfl|trivial|assumption|apply And.intro|exact hz|exact hi|exact he|exact hrow|exact hk.no|exact hk.ex|exact dr _ hps rfl|exact aG (by omega))|exact(rfl:Int.ofNat _=_)|exact(rfl:gP _ _=_)|exact hz|exact hi|exact he|exact hrow|exact hk.no|exact hk.ex|exact dr _ hps rfl|exact aG (by omega)|intro hq)
  all_goals try (have hm:=hk.zc (by with_reducible assumption);rw[hany] at hm)
  all_goals try (have hm:=hk.JP (by with_reducible assumption);rw[hany] at hm)
  all_goals clear hk hps hrow hany he ht hz hr
  all_goals first
   |(refine ret _ ?_;clear ret h2;simp only[eC,hx];simp_all;done)
   |(refine ret _ ?_;clear ret h2;simp only[eC,hx];simp_all;omega)
   |with_reducible assumption
   |skip
  have hb:eC l i=none:=by
   clear ret h2
   simp only[eC,hx]
   rw[if_neg (by simp_all),if_neg hm,if_neg (by simp only[decide_eq_false_iff_not] at*;omega)]
  refine⟨i+1,rfl,?_,rfl,rfl,rfl,⟨hi,by rw[←cU hi hb];exact h2⟩,by show l.length - (i+1)<l.length - i;omega⟩
  rw[fO]
  show _=[(0,bB (((l.take (i+1)).map bS.id).map .string))]
  rw[List.take_add_one,hx]
  simp
 ·have hc:decide ((i:Int)<(l.length:Int))=false:=by simp;omega
  refine t100 (XJ z zn i l.length cp ⟨[],0,0,0,true,true,0,true⟩ ⟨⟨#[]⟩,0,true,0⟩ (((l.take i).map bS.id).map .string) (aj _ _ _ _ _ _ _ _ _) ⟨fun h=>(by rw[hc] at h;cases h),fun _=>?_⟩)
  (repeat' first|(with_reducible first|exact rfl|trivial|assumption|apply And.intro|exact hz)|exact(rfl:Int.ofNat _=_)|exact(rfl:gP _ _=_)|exact hz|intro hq)
  refine dw (bJ ?_)
  rw[dD (by omega)] at h2
  rw[←h2]
  exact⟨rfl,rfl⟩
theorem PD(hz:an z zn)(hg:fD Try.prog z gP)(l:List bS)(cp:Nat)(ht:cy z 2 (l.map bS.row)):
 A1 z zn 11 [tb 2 l.length cp] [] 0 0 (.tuple ⟨[zv (cR l).1,zv (cR l).2]⟩) []:=by
 refine bt hg (fn:=Try.f11) (by kernel_rfl) (by kernel_rfl) hz ⟨by decide,by decide⟩ rfl (Wt z zn l.length cp (cR l).1 (cR l).2 _ ?_)
 by_cases h:64<l.length
 ·have hr:cR l=(0,5):=if_pos h
  have hc:decide ((l.length:Int)>64)=true:=by simp;omega
  rw[hr]
  refine⟨fun _=>?_,fun h=>(by rw[hc] at h;cases h)⟩
  (repeat' first|(with_reducible first|exact rfl|trivial|assumption|apply And.intro|exact hz)|exact(rfl:Int.ofNat _=_)|exact(rfl:gP _ _=_)|exact hz|intro hq)
  exact q1
 ·have hr:cR l=scan (eC l) l.length 0:=if_neg h
  have hc:decide ((l.length:Int)>64)=false:=by simp;omega
  have hL:=KU hz hg l cp ht (by omega) (cR l) hr.symm
  refine⟨fun h=>(by rw[hc] at h;cases h),fun _=>?_⟩
  (repeat' first|(with_reducible first|exact rfl|trivial|assumption|apply And.intro|exact hz|exact hL)|exact(rfl:Int.ofNat _=_)|exact(rfl:gP _ _=_)|exact hz|exact hL|intro hq)
  ·exact q1
  ·rw[hq.1,hq.2];exact q1
theorem Ma(hz:an z zn)(hg:fD Try.prog z gP):A1 z zn 11 [aw] [] 0 0 (.tuple ⟨[I 0,I 0]⟩) []:=by
 have hL:ai Try.prog (ah (ag Try.f11) 0) 1 54 wC [(0,bB [])] 1 z zn (Al.R (RI z zn).l):=by
  refine ak hD hg (α:=Unit) 1 54 1 (fun _=>True) (fun _=>wC) (fun _=>[(0,bB [])]) (fun _=>z) (fun _=>zn) (fun _=>0) _ (fun i hI=>?_) () trivial
  refine t100 (Vd z zn (aj _ _ _ _ _ _ _ _ _) ?_)
  (repeat' first|(with_reducible first|exact rfl|trivial|assumption|apply And.intro|exact hz)|exact(rfl:Int.ofNat _=_)|exact(rfl:gP _ _=_)|exact hz|intro hq)
  exact bJ trivial
 refine bt hg (fn:=Try.f11) (by kernel_rfl) (by kernel_rfl) hz ⟨by decide,by decide⟩ rfl (Ws z zn _ ?_)
 (repeat' first|(with_reducible first|exact rfl|trivial|assumption|apply And.intro|exact hz|exact hL|exact q1)|exact(rfl:Int.ofNat _=_)|exact(rfl:gP _ _=_)|exact hz|exact hL|exact q1|intro hq)
end
theorem jJ{α:Type}{p:α->Bool}{l:List α}{k:Nat}{y:α}(h:l[k]? =some y):(l.take (k+1)).any p=((l.take k).any p||p y):=by
 rw[List.take_add_one,h,List.any_append];simp
theorem any_true{α:Type}{p:α->Bool}{l:List α}{i k:Nat}{y:α}(h:l[k]? =some y)(hk:k<i)(hp:p y=true):(l.take i).any p=true:=by
 rw[List.any_eq_true]
 exact⟨y,List.mem_of_getElem? (by rw[List.getElem?_take,if_pos hk,h]),hp⟩
theorem ej{α:Type}{l:List α}{i:Nat}(h:i<l.length): ∃x,l[i]? =some x:=⟨l[i],List.getElem?_eq_getElem h⟩
theorem oT(a b:ByteArray):(a.toList==b.toList)=(a.data==b.data):=by
 rw[ByteArray.toList_eq,ByteArray.toList_eq]
 cases h:(a.data==b.data) with
 |true=>have:=(jI a b).1 h;subst this;simp
 |false=>
  cases h2:(a.data.toList==b.data.toList) with
  |false=>rfl
  |true=>
   have h3:a.data.toList=b.data.toList:=by simpa using h2
   have:a.data=b.data:=by cases ha:a.data;cases hb:b.data;rw[ha,hb] at h3;simp at h3;rw[h3]
   rw[this] at h;simp at h
section
variable{z:T aa}{zn:Nat}
theorem Ht(hz:an z zn)(hg:fD Try.prog z gP)(l:List bS)(cp:Nat)(e:TypeId)(he:z.get 2=some (.ay (bC e (l.map bS.row).flatten)))(hl:l.length<100000)(i:Nat)(x:bS)(hx:l[i]? =some x)(b:Bool)(hb:b=(l.take i).any fun y=>y.id.data==x.id.data):
 ai Try.prog (ah (ah (ag Try.f32) 0) 0) 0 57 (wH l.length cp i 0) [] 0 z zn (Al.R (RQ z zn l.length cp i b).l):=by
 have hil:i<l.length:=(List.getElem?_eq_some_iff.1 hx).1
 refine ak hD hg (α:=Nat) 0 57 0 (fun k=>k<=i/\((l.take k).any fun y=>y.id.data==x.id.data)=false) (fun k=>wH l.length cp i k) (fun _=>[]) (fun _=>z) (fun _=>zn) (fun k=>i - k) _ (fun k hI=>?_) 0 ⟨Nat.zero_le _,rfl⟩
 obtain⟨h1,h2⟩:=hI
 have hlen:=aM (row:=bS.row) (sz:=4) l fun _=>rfl
 have rx:aB Try.prog (bC e (l.map bS.row).flatten) 9 (0+i*4+0)=some (.string x.id):=bu (r:=x.row) (j:=0) Try.underlying9 rfl hlen (by rw[List.getElem?_map,hx];rfl) rfl
 by_cases hk:k<i
 ·obtain⟨y,hy⟩:=ej (l:=l) (i:=k) (by omega)
  have ry:aB Try.prog (bC e (l.map bS.row).flatten) 9 (0+k*4+0)=some (.string y.id):=bu (r:=y.row) (j:=0) Try.underlying9 rfl hlen (by rw[List.getElem?_map,hy];rfl) rfl
  have hc:decide ((k:Int)<(i:Int))=true:=by simp;omega
  refine t100 (Rr z zn i k l.length cp (bC e (l.map bS.row).flatten) x y (aj _ _ _ _ _ _ _ _ _) ⟨fun _=>?_,fun h=>(by rw[hc] at h;cases h)⟩)
  (repeat' first|(with_reducible first|exact rfl|trivial|assumption|apply And.intro|exact hz|exact he|exact rx|exact ry|exact hil|exact(by omega:k<l.length)|exact aG (by omega))|exact(rfl:Int.ofNat _=_)|exact(rfl:gP _ _=_)|exact hz|exact he|exact rx|exact ry|exact hil|exact(by omega:k<l.length)|exact aG (by omega)|intro hq)
  ·rw[oT] at hq
   exact bJ (by rw[hb];exact any_true hy hk hq)
  ·rw[oT] at hq
   exact⟨k+1,rfl,rfl,rfl,rfl,rfl,⟨hk,by rw[jJ hy,h2,hq];rfl⟩,by show i - (k+1)<i - k;omega⟩
 ·have hc:decide ((k:Int)<(i:Int))=false:=by simp;omega
  refine t100 (Rr z zn i k l.length cp (bC e (l.map bS.row).flatten) x x (aj _ _ _ _ _ _ _ _ _) ⟨fun h=>(by rw[hc] at h;cases h),fun _=>?_⟩)
  (repeat' first|(with_reducible first|exact rfl|trivial|assumption|apply And.intro|exact hz)|exact(rfl:Int.ofNat _=_)|exact(rfl:gP _ _=_)|exact hz|intro hq)
  refine dw (bJ ?_)
  rw[hb,←h2,show k=i by omega]
theorem KY(hz:an z zn)(hg:fD Try.prog z gP)(l:List bS)(cp:Nat)(ht:cy z 2 (l.map bS.row))(hl:l.length<100000)(r:Int × Int)(hr:scan (eC l) l.length 0=r):
 ai Try.prog (ah (ag Try.f32) 0) 0 57 (x9 l.length cp 0) [] 0 z zn (Al.R (RR z zn l.length cp r.1 r.2).l):=by
 refine ak hD hg (α:=Nat) 0 57 0 (fun i=>i<=l.length/\scan (eC l) (l.length - i) i=r) (fun i=>x9 l.length cp i) (fun i=>[]) (fun _=>z) (fun _=>zn) (fun i=>l.length - i) _ (fun i hI=>?_) 0 ⟨Nat.zero_le _,hr⟩
 obtain⟨h1,h2⟩:=hI
 by_cases hi:i<l.length
 ·obtain⟨e,he⟩:=ht.ay (i:=i) (by simpa using hi)
  obtain⟨x,hx⟩:=ej hi
  have hid:=Tz (ht.sz (i:=i) (r:=x.row) (s:=x.id) (by rw[List.getElem?_map,hx];rfl) (by simp))
  have hlen:=aM (row:=bS.row) (sz:=4) l fun _=>rfl
  have hr:(l.map bS.row)[i]? =some x.row:=by rw[List.getElem?_map,hx];rfl
  have r0:aB Try.prog (bC e (l.map bS.row).flatten) 9 (0+i*4+0)=some (.string x.id):=bu (j:=0) Try.underlying9 rfl hlen hr rfl
  have r1:aB Try.prog (bC e (l.map bS.row).flatten) 3 (0+i*4+1)=some (zv x.aS):=bu (j:=1) Try.underlying3 rfl hlen hr rfl
  have r3:aB Try.prog (bC e (l.map bS.row).flatten) 3 (0+i*4+3)=some (zv x.change):=bu (j:=3) Try.underlying3 rfl hlen hr rfl
  have hL:=Ht hz hg l cp e he hl i x hx _ rfl
  generalize hb:((l.take i).any fun y=>y.id.data==x.id.data)=b at hL
  have hc:decide ((i:Int)<(l.length:Int))=true:=by simp;omega
  have ret: ∀e:Int,eC l i=some e->Al.R (RR z zn l.length cp r.1 r.2).l ⟨.ret,[(2,iv i),(3,zv e)],[],0,z,zn⟩:=fun e h=>by
   have:r=((i:Int),e):=by rw[←h2,dq hi h]
   rw[this];exact bJ trivial
  have hbad:eC l i=if bV x.id=false then some 12 else if b=true then some 6 else if x.aS<0\/16<=x.aS\/x.change<0\/3600<x.change then some 2 else none:=by
   simp only[eC,hx,hb]
  refine t100 (XS z zn i l.length cp (bC e (l.map bS.row).flatten) x b (aj _ _ _ _ _ _ _ _ _) ⟨fun _=>?_,fun h=>(by rw[hc] at h;cases h)⟩)
  (repeat' first|(with_reducible first|exact rfl|trivial|assumption|apply And.intro|exact hz|exact hi|exact he|exact r0|exact r1|exact r3|exact hL|exact aG (by omega))|exact(rfl:Int.ofNat _=_)|exact(rfl:gP _ _=_)|exact hz|exact hi|exact he|exact r0|exact r1|exact r3|exact hL|exact aG (by omega)|intro hq)
  all_goals clear hL r0 r1 r3 hr hlen he ht hz
  all_goals first
   |with_reducible assumption
   |rfl
   |(refine ret _ ?_;clear ret h2;rw[hbad];simp_all;done)
   |(refine ret _ ?_;clear ret h2;rw[hbad];simp_all;omega)
   |(have hb0:eC l i=none:=by
      clear ret h2
      rw[hbad,if_neg (by simp_all),if_neg (by simp_all),if_neg (by simp only[Bool.not_eq_true',Bool.not_eq_false',Bool.and_eq_true,Bool.and_eq_false_iff,decide_eq_true_eq,decide_eq_false_iff_not] at*;omega)]
     exact⟨i+1,rfl,rfl,rfl,rfl,rfl,⟨hi,by rw[←cU hi hb0];exact h2⟩,by show l.length - (i+1)<l.length - i;omega⟩)
 ·have hc:decide ((i:Int)<(l.length:Int))=false:=by simp;omega
  refine t100 (XS z zn i l.length cp ⟨[],0,0,0,true,true,0,true⟩ ⟨⟨#[]⟩,0,true,0⟩ true (aj _ _ _ _ _ _ _ _ _) ⟨fun h=>(by rw[hc] at h;cases h),fun _=>?_⟩)
  (repeat' first|(with_reducible first|exact rfl|trivial|assumption|apply And.intro|exact hz)|exact(rfl:Int.ofNat _=_)|exact(rfl:gP _ _=_)|exact hz|intro hq)
  refine dw (bJ ?_)
  rw[dD (by omega)] at h2
  rw[←h2]
  exact⟨rfl,rfl⟩
theorem IU(hz:an z zn)(hg:fD Try.prog z gP)(l:List bS)(cp:Nat)(ht:cy z 2 (l.map bS.row)):
 A1 z zn 32 [tb 2 l.length cp] [] 0 0 (.tuple ⟨[zv (cR l).1,zv (cR l).2]⟩) []:=by
 refine bt hg (fn:=Try.f32) (by kernel_rfl) (by kernel_rfl) hz ⟨by decide,by decide⟩ rfl (Qr z zn l.length cp (cR l).1 (cR l).2 _ ?_)
 by_cases h:64<l.length
 ·have hr:cR l=(0,5):=if_pos h
  have hc:decide ((l.length:Int)>64)=true:=by simp;omega
  rw[hr]
  refine⟨fun _=>?_,fun h=>(by rw[hc] at h;cases h)⟩
  (repeat' first|(with_reducible first|exact rfl|trivial|assumption|apply And.intro|exact hz)|exact(rfl:Int.ofNat _=_)|exact(rfl:gP _ _=_)|exact hz|intro hq)
  exact q1
 ·have hr:cR l=scan (eC l) l.length 0:=if_neg h
  have hc:decide ((l.length:Int)>64)=false:=by simp;omega
  have hL:=KY hz hg l cp ht (by omega) (cR l) hr.symm
  refine⟨fun h=>(by rw[hc] at h;cases h),fun _=>?_⟩
  (repeat' first|(with_reducible first|exact rfl|trivial|assumption|apply And.intro|exact hz|exact hL)|exact(rfl:Int.ofNat _=_)|exact(rfl:gP _ _=_)|exact hz|exact hL|intro hq)
  ·exact q1
  ·rw[hq.1,hq.2];exact q1
end
def du(l:List bm)(i:Nat):Option Int:=match l[i]? with
 |some x=>if bV x.id=false then some 12 else if (l.take i).any (fun y=>y.id.data==x.id.data) then some 6 else if x.mode<0\/8<=x.mode then some 2 else none
 |none=>none
def cF(l:List bm):Int × Int:=if 64<l.length then (0,5) else scan (du l) l.length 0
section
variable{z:T aa}{zn:Nat}
theorem KX(hz:an z zn)(hg:fD Try.prog z gP)(l:List bm)(cp:Nat)(ht:cy z 3 (l.map bm.row))(hl:l.length<100000)(r:Int × Int)(hr:scan (du l) l.length 0=r):
 ai Try.prog (ah (ag Try.f12) 0) 1 37 (Hm l.length cp 0) [(0,bB [])] 1 z zn (Al.R (RP z zn l.length cp r.1 r.2).l):=by
 refine ak hD hg (α:=Nat) 1 37 1 (fun i=>i<=l.length/\scan (du l) (l.length - i) i=r) (fun i=>Hm l.length cp i) (fun i=>[(0,bB (((l.take i).map bm.id).map .string))]) (fun _=>z) (fun _=>zn) (fun i=>l.length - i) _ (fun i hI=>?_) 0 ⟨Nat.zero_le _,hr⟩
 obtain⟨h1,h2⟩:=hI
 by_cases hi:i<l.length
 ·obtain⟨e,he⟩:=ht.ay (i:=i) (by simpa using hi)
  obtain⟨x,hx⟩: ∃x,l[i]? =some x:=⟨l[i],List.getElem?_eq_getElem hi⟩
  have hid:=TA (ht.sz (i:=i) (r:=x.row) (s:=x.id) (by rw[List.getElem?_map,hx];rfl) (by simp))
  have hrow:aB Try.prog (bC e (l.map bm.row).flatten) 48 (0+i*3)=some (.agg ⟨x.row⟩):=bO (P:=Try.prog) (e:=e) (t:=48) (k:=i) (r:=x.row) (sz:=3) Try.underlying48 rfl rfl (aM (row:=bm.row) l fun _=>rfl) (by rw[List.getElem?_map,hx];rfl)
  have hk:=Cr x.id ((l.take i).map bm.id)
  have hps:=oI ((l.take i).map bm.id)
  have hany:Value.string x.id∈((l.take i).map bm.id).map Value.string↔(l.take i).any (fun y=>y.id.data==x.id.data)=true:=by
   rw[ue,List.any_eq_true,List.mem_map]
   exact⟨fun⟨y,q1,q2⟩=>⟨y,q1,by rw[q2];exact(jI _ _).2 rfl⟩,fun⟨y,q1,q2⟩=>⟨y,q1,(jI _ _).1 q2⟩⟩
  have hc:decide ((i:Int)<(l.length:Int))=true:=by simp;omega
  have ret: ∀e:Int,du l i=some e->Al.R (RP z zn l.length cp r.1 r.2).l ⟨.ret,[(2,iv i),(3,zv e)],[],1,z,zn⟩:=fun e h=>by
   have:r=((i:Int),e):=by rw[←h2,dq hi h]
   rw[this];exact bJ trivial
  refine t100 (XR z zn i l.length cp (bC e (l.map bm.row).flatten) x (((l.take i).map bm.id).map .string) (aj _ _ _ _ _ _ _ _ _) ⟨fun _=>?_,fun h=>by rw[hc] at h;cases h⟩)
  (repeat' first|(with_reducible first|exact rfl|trivial|assumption|apply And.intro|exact hz|exact hi|exact he|exact hrow|exact hk.no|exact hk.ex|exact dr _ hps rfl|exact aG (by omega))|exact(rfl:Int.ofNat _=_)|exact(rfl:gP _ _=_)|exact hz|exact hi|exact he|exact hrow|exact hk.no|exact hk.ex|exact dr _ hps rfl|exact aG (by omega)|intro hq)
  all_goals try (have hm:=hk.zc (by with_reducible assumption);rw[hany] at hm)
  all_goals try (have hm:=hk.JP (by with_reducible assumption);rw[hany] at hm)
  all_goals clear hk hps hrow hany he ht hz hr
  all_goals first
   |(refine ret _ ?_;clear ret h2;simp only[du,hx];simp_all;done)
   |(refine ret _ ?_;clear ret h2;simp only[du,hx];simp_all;omega)
   |with_reducible assumption
   |rfl
   |skip
  have hb:du l i=none:=by
   clear ret h2
   simp only[du,hx]
   rw[if_neg (by simp_all),if_neg hm,if_neg (by simp only[Bool.not_eq_true',Bool.not_eq_false',Bool.and_eq_true,Bool.and_eq_false_iff,decide_eq_true_eq,decide_eq_false_iff_not] at*;omega)]
  refine⟨i+1,rfl,?_,rfl,rfl,rfl,⟨hi,by rw[←cU hi hb];exact h2⟩,by show l.length - (i+1)<l.length - i;omega⟩
  rw[fO]
  show _=[(0,bB (((l.take (i+1)).map bm.id).map .string))]
  rw[List.take_add_one,hx]
  simp
 ·have hc:decide ((i:Int)<(l.length:Int))=false:=by simp;omega
  refine t100 (XR z zn i l.length cp ⟨[],0,0,0,true,true,0,true⟩ ⟨⟨#[]⟩,0,true⟩ (((l.take i).map bm.id).map .string) (aj _ _ _ _ _ _ _ _ _) ⟨fun h=>(by rw[hc] at h;cases h),fun _=>?_⟩)
  (repeat' first|(with_reducible first|exact rfl|trivial|assumption|apply And.intro|exact hz)|exact(rfl:Int.ofNat _=_)|exact(rfl:gP _ _=_)|exact hz|intro hq)
  refine dw (bJ ?_)
  rw[dD (by omega)] at h2
  rw[←h2]
  exact⟨rfl,rfl⟩
theorem Mf(hz:an z zn)(hg:fD Try.prog z gP)(l:List bm)(cp:Nat)(ht:cy z 3 (l.map bm.row)):
 A1 z zn 12 [tb 3 l.length cp] [] 0 0 (.tuple ⟨[zv (cF l).1,zv (cF l).2]⟩) []:=by
 refine bt hg (fn:=Try.f12) (by kernel_rfl) (by kernel_rfl) hz ⟨by decide,by decide⟩ rfl (Wx z zn l.length cp (cF l).1 (cF l).2 _ ?_)
 by_cases h:64<l.length
 ·have hr:cF l=(0,5):=if_pos h
  have hc:decide ((l.length:Int)>64)=true:=by simp;omega
  rw[hr]
  refine⟨fun _=>?_,fun h=>(by rw[hc] at h;cases h)⟩
  (repeat' first|(with_reducible first|exact rfl|trivial|assumption|apply And.intro|exact hz)|exact(rfl:Int.ofNat _=_)|exact(rfl:gP _ _=_)|exact hz|intro hq)
  exact q1
 ·have hr:cF l=scan (du l) l.length 0:=if_neg h
  have hc:decide ((l.length:Int)>64)=false:=by simp;omega
  have hL:=KX hz hg l cp ht (by omega) (cF l) hr.symm
  refine⟨fun h=>(by rw[hc] at h;cases h),fun _=>?_⟩
  (repeat' first|(with_reducible first|exact rfl|trivial|assumption|apply And.intro|exact hz|exact hL)|exact(rfl:Int.ofNat _=_)|exact(rfl:gP _ _=_)|exact hz|exact hL|intro hq)
  ·exact q1
  ·rw[hq.1,hq.2];exact q1
theorem IX(hz:an z zn)(hg:fD Try.prog z gP):A1 z zn 12 [aw] [] 0 0 (.tuple ⟨[I 0,I 0]⟩) []:=by
 have hL:ai Try.prog (ah (ag Try.f12) 0) 1 37 wG [(0,bB [])] 1 z zn (Al.R (RO z zn).l):=by
  refine ak hD hg (α:=Unit) 1 37 1 (fun _=>True) (fun _=>wG) (fun _=>[(0,bB [])]) (fun _=>z) (fun _=>zn) (fun _=>0) _ (fun i hI=>?_) () trivial
  refine t100 (Vh z zn (aj _ _ _ _ _ _ _ _ _) ?_)
  (repeat' first|(with_reducible first|exact rfl|trivial|assumption|apply And.intro|exact hz)|exact(rfl:Int.ofNat _=_)|exact(rfl:gP _ _=_)|exact hz|intro hq)
  exact bJ trivial
 refine bt hg (fn:=Try.f12) (by kernel_rfl) (by kernel_rfl) hz ⟨by decide,by decide⟩ rfl (Ww z zn _ ?_)
 (repeat' first|(with_reducible first|exact rfl|trivial|assumption|apply And.intro|exact hz|exact hL|exact q1)|exact(rfl:Int.ofNat _=_)|exact(rfl:gP _ _=_)|exact hz|exact hL|exact q1|intro hq)
end
section
variable{z:T aa}{zn:Nat}
theorem Hy(hz:an z zn)(hg:fD Try.prog z gP)(l:List bm)(cp:Nat)(e:TypeId)(he:z.get 3=some (.ay (bC e (l.map bm.row).flatten)))(hl:l.length<100000)(i:Nat)(x:bm)(hx:l[i]? =some x)(b:Bool)(hb:b=(l.take i).any fun y=>y.id.data==x.id.data):
 ai Try.prog (ah (ah (ag Try.f33) 0) 0) 0 48 (wI l.length cp i 0) [] 0 z zn (Al.R (RS z zn l.length cp i b).l):=by
 have hil:i<l.length:=(List.getElem?_eq_some_iff.1 hx).1
 refine ak hD hg (α:=Nat) 0 48 0 (fun k=>k<=i/\((l.take k).any fun y=>y.id.data==x.id.data)=false) (fun k=>wI l.length cp i k) (fun _=>[]) (fun _=>z) (fun _=>zn) (fun k=>i - k) _ (fun k hI=>?_) 0 ⟨Nat.zero_le _,rfl⟩
 obtain⟨h1,h2⟩:=hI
 have hlen:=aM (row:=bm.row) (sz:=3) l fun _=>rfl
 have rx:aB Try.prog (bC e (l.map bm.row).flatten) 9 (0+i*3+0)=some (.string x.id):=bu (r:=x.row) (j:=0) Try.underlying9 rfl hlen (by rw[List.getElem?_map,hx];rfl) rfl
 by_cases hk:k<i
 ·obtain⟨y,hy⟩:=ej (l:=l) (i:=k) (by omega)
  have ry:aB Try.prog (bC e (l.map bm.row).flatten) 9 (0+k*3+0)=some (.string y.id):=bu (r:=y.row) (j:=0) Try.underlying9 rfl hlen (by rw[List.getElem?_map,hy];rfl) rfl
  have hc:decide ((k:Int)<(i:Int))=true:=by simp;omega
  refine t100 (Rt z zn i k l.length cp (bC e (l.map bm.row).flatten) x y (aj _ _ _ _ _ _ _ _ _) ⟨fun _=>?_,fun h=>(by rw[hc] at h;cases h)⟩)
  (repeat' first|(with_reducible first|exact rfl|trivial|assumption|apply And.intro|exact hz|exact he|exact rx|exact ry|exact hil|exact(by omega:k<l.length)|exact aG (by omega))|exact(rfl:Int.ofNat _=_)|exact(rfl:gP _ _=_)|exact hz|exact he|exact rx|exact ry|exact hil|exact(by omega:k<l.length)|exact aG (by omega)|intro hq)
  ·rw[oT] at hq
   exact bJ (by rw[hb];exact any_true hy hk hq)
  ·rw[oT] at hq
   exact⟨k+1,rfl,rfl,rfl,rfl,rfl,⟨hk,by rw[jJ hy,h2,hq];rfl⟩,by show i - (k+1)<i - k;omega⟩
 ·have hc:decide ((k:Int)<(i:Int))=false:=by simp;omega
  refine t100 (Rt z zn i k l.length cp (bC e (l.map bm.row).flatten) x x (aj _ _ _ _ _ _ _ _ _) ⟨fun h=>(by rw[hc] at h;cases h),fun _=>?_⟩)
  (repeat' first|(with_reducible first|exact rfl|trivial|assumption|apply And.intro|exact hz)|exact(rfl:Int.ofNat _=_)|exact(rfl:gP _ _=_)|exact hz|intro hq)
  refine dw (bJ ?_)
  rw[hb,←h2,show k=i by omega]
theorem KZ(hz:an z zn)(hg:fD Try.prog z gP)(l:List bm)(cp:Nat)(ht:cy z 3 (l.map bm.row))(hl:l.length<100000)(r:Int × Int)(hr:scan (du l) l.length 0=r):
 ai Try.prog (ah (ag Try.f33) 0) 0 48 (ya l.length cp 0) [] 0 z zn (Al.R (RT z zn l.length cp r.1 r.2).l):=by
 refine ak hD hg (α:=Nat) 0 48 0 (fun i=>i<=l.length/\scan (du l) (l.length - i) i=r) (fun i=>ya l.length cp i) (fun i=>[]) (fun _=>z) (fun _=>zn) (fun i=>l.length - i) _ (fun i hI=>?_) 0 ⟨Nat.zero_le _,hr⟩
 obtain⟨h1,h2⟩:=hI
 by_cases hi:i<l.length
 ·obtain⟨e,he⟩:=ht.ay (i:=i) (by simpa using hi)
  obtain⟨x,hx⟩:=ej hi
  have hid:=Tz (ht.sz (i:=i) (r:=x.row) (s:=x.id) (by rw[List.getElem?_map,hx];rfl) (by simp))
  have hlen:=aM (row:=bm.row) (sz:=3) l fun _=>rfl
  have hr:(l.map bm.row)[i]? =some x.row:=by rw[List.getElem?_map,hx];rfl
  have r0:aB Try.prog (bC e (l.map bm.row).flatten) 9 (0+i*3+0)=some (.string x.id):=bu (j:=0) Try.underlying9 rfl hlen hr rfl
  have r1:aB Try.prog (bC e (l.map bm.row).flatten) 3 (0+i*3+1)=some (zv x.mode):=bu (j:=1) Try.underlying3 rfl hlen hr rfl
  have hL:=Hy hz hg l cp e he hl i x hx _ rfl
  generalize hb:((l.take i).any fun y=>y.id.data==x.id.data)=b at hL
  have hc:decide ((i:Int)<(l.length:Int))=true:=by simp;omega
  have ret: ∀e:Int,du l i=some e->Al.R (RT z zn l.length cp r.1 r.2).l ⟨.ret,[(2,iv i),(3,zv e)],[],0,z,zn⟩:=fun e h=>by
   have:r=((i:Int),e):=by rw[←h2,dq hi h]
   rw[this];exact bJ trivial
  have hbad:du l i=if bV x.id=false then some 12 else if b=true then some 6 else if x.mode<0\/8<=x.mode then some 2 else none:=by
   simp only[du,hx,hb]
  refine t100 (XT z zn i l.length cp (bC e (l.map bm.row).flatten) x b (aj _ _ _ _ _ _ _ _ _) ⟨fun _=>?_,fun h=>(by rw[hc] at h;cases h)⟩)
  (repeat' first|(with_reducible first|exact rfl|trivial|assumption|apply And.intro|exact hz|exact hi|exact he|exact r0|exact r1|exact hL|exact aG (by omega))|exact(rfl:Int.ofNat _=_)|exact(rfl:gP _ _=_)|exact hz|exact hi|exact he|exact r0|exact r1|exact hL|exact aG (by omega)|intro hq)
  all_goals clear hL r0 r1 hr hlen he ht hz
  all_goals first
   |with_reducible assumption
   |rfl
   |(refine ret _ ?_;clear ret h2;rw[hbad];simp_all;done)
   |(refine ret _ ?_;clear ret h2;rw[hbad];simp_all;omega)
   |(have hb0:du l i=none:=by
      clear ret h2
      rw[hbad,if_neg (by simp_all),if_neg (by simp_all),if_neg (by simp only[Bool.not_eq_true',Bool.not_eq_false',Bool.and_eq_true,Bool.and_eq_false_iff,decide_eq_true_eq,decide_eq_false_iff_not] at*;omega)]
     exact⟨i+1,rfl,rfl,rfl,rfl,rfl,⟨hi,by rw[←cU hi hb0];exact h2⟩,by show l.length - (i+1)<l.length - i;omega⟩)
 ·have hc:decide ((i:Int)<(l.length:Int))=false:=by simp;omega
  refine t100 (XT z zn i l.length cp ⟨[],0,0,0,true,true,0,true⟩ ⟨⟨#[]⟩,0,true⟩ true (aj _ _ _ _ _ _ _ _ _) ⟨fun h=>(by rw[hc] at h;cases h),fun _=>?_⟩)
  (repeat' first|(with_reducible first|exact rfl|trivial|assumption|apply And.intro|exact hz)|exact(rfl:Int.ofNat _=_)|exact(rfl:gP _ _=_)|exact hz|intro hq)
  refine dw (bJ ?_)
  rw[dD (by omega)] at h2
  rw[←h2]
  exact⟨rfl,rfl⟩
theorem FF(hz:an z zn)(hg:fD Try.prog z gP)(l:List bm)(cp:Nat)(ht:cy z 3 (l.map bm.row)):
 A1 z zn 33 [tb 3 l.length cp] [] 0 0 (.tuple ⟨[zv (cF l).1,zv (cF l).2]⟩) []:=by
 refine bt hg (fn:=Try.f33) (by kernel_rfl) (by kernel_rfl) hz ⟨by decide,by decide⟩ rfl (frr z zn l.length cp (cF l).1 (cF l).2 _ ?_)
 by_cases h:64<l.length
 ·have hr:cF l=(0,5):=if_pos h
  have hc:decide ((l.length:Int)>64)=true:=by simp;omega
  rw[hr]
  refine⟨fun _=>?_,fun h=>(by rw[hc] at h;cases h)⟩
  (repeat' first|(with_reducible first|exact rfl|trivial|assumption|apply And.intro|exact hz)|exact(rfl:Int.ofNat _=_)|exact(rfl:gP _ _=_)|exact hz|intro hq)
  exact q1
 ·have hr:cF l=scan (du l) l.length 0:=if_neg h
  have hc:decide ((l.length:Int)>64)=false:=by simp;omega
  have hL:=KZ hz hg l cp ht (by omega) (cF l) hr.symm
  refine⟨fun h=>(by rw[hc] at h;cases h),fun _=>?_⟩
  (repeat' first|(with_reducible first|exact rfl|trivial|assumption|apply And.intro|exact hz|exact hL)|exact(rfl:Int.ofNat _=_)|exact(rfl:gP _ _=_)|exact hz|exact hL|intro hq)
  ·exact q1
  ·rw[hq.1,hq.2];exact q1
end
def zb(n a b:Int):Bool:=decide (a<=n) && decide (n<=b)
theorem fold(n a b:Int):(decide (a<=n) && decide (n<=b))=zb n a b:=rfl
def eD(l:List bP)(i:Nat):Option Int:=match l[i]? with
 |some x=>if bV x.id=false then some 12 else if (l.take i).any (fun y=>y.id.data==x.id.data) then some 6 else if (zb x.cD 0 1000000 && zb x.cC 1 8 && zb x.cB 1 16 && zb x.aI 0 86400 && zb x.ml 1 255)=false then some 2 else none
 |none=>none
def fJ(d w c:Int):Bool:=zb d 0 1000000 && zb w 0 86400 && zb c 0 1000000
def bM(d w c:Int)(l:List bP):Int × Int:=if fJ d w c=false then (-1,2) else if 16<l.length then (0,5) else scan (eD l) l.length 0
section
variable{z:T aa}{zn:Nat}
theorem La(hz:an z zn)(hg:fD Try.prog z gP)(l:List bP)(cp:Nat)(ht:cy z 5 (l.map bP.row))(hl:l.length<100000)(r:Int × Int)(hr:scan (eD l) l.length 0=r):
 ai Try.prog (ah (ag Try.f17) 0) 2 79 (EX l.length cp 0) [(1,bB [])] 2 z zn (Al.R (Sa z zn l.length cp r.1 r.2).l):=by
 refine ak hD hg (α:=Nat) 2 79 2 (fun i=>i<=l.length/\scan (eD l) (l.length - i) i=r) (fun i=>EX l.length cp i) (fun i=>[(1,bB (((l.take i).map bP.id).map .string))]) (fun _=>z) (fun _=>zn) (fun i=>l.length - i) _ (fun i hI=>?_) 0 ⟨Nat.zero_le _,hr⟩
 obtain⟨h1,h2⟩:=hI
 by_cases hi:i<l.length
 ·obtain⟨e,he⟩:=ht.ay (i:=i) (by simpa using hi)
  obtain⟨x,hx⟩: ∃x,l[i]? =some x:=⟨l[i],List.getElem?_eq_getElem hi⟩
  have hid:=TA (ht.sz (i:=i) (r:=x.row) (s:=x.id) (by rw[List.getElem?_map,hx];rfl) (by simp))
  have hrow:aB Try.prog (bC e (l.map bP.row).flatten) 86 (0+i*6)=some (.agg ⟨x.row⟩):=bO (P:=Try.prog) (e:=e) (t:=86) (k:=i) (r:=x.row) (sz:=6) Try.underlying86 rfl rfl (aM (row:=bP.row) l fun _=>rfl) (by rw[List.getElem?_map,hx];rfl)
  have hk:=Cr x.id ((l.take i).map bP.id)
  have hps:=oI ((l.take i).map bP.id)
  have hany:Value.string x.id∈((l.take i).map bP.id).map Value.string↔(l.take i).any (fun y=>y.id.data==x.id.data)=true:=by
   rw[ue,List.any_eq_true,List.mem_map]
   exact⟨fun⟨y,q1,q2⟩=>⟨y,q1,by rw[q2];exact(jI _ _).2 rfl⟩,fun⟨y,q1,q2⟩=>⟨y,q1,(jI _ _).1 q2⟩⟩
  have hc:decide ((i:Int)<(l.length:Int))=true:=by simp;omega
  have ret: ∀e:Int,eD l i=some e->Al.R (Sa z zn l.length cp r.1 r.2).l ⟨.ret,[(2,iv i),(3,zv e)],[],2,z,zn⟩:=fun e h=>by
   have:r=((i:Int),e):=by rw[←h2,dq hi h]
   rw[this];exact bJ trivial
  refine t100 (XX z zn i l.length cp (bC e (l.map bP.row).flatten) x (((l.take i).map bP.id).map .string) (aj _ _ _ _ _ _ _ _ _) ⟨fun _=>?_,fun h=>by rw[hc] at h;cases h⟩)
  (repeat' first|(with_reducible first|exact rfl|trivial|assumption|apply And.intro|exact hz|exact hi|exact he|exact hrow|exact hk.no|exact hk.ex|exact dr _ hps rfl|exact aG (by omega))|exact(rfl:Int.ofNat _=_)|exact(rfl:gP _ _=_)|exact hz|exact hi|exact he|exact hrow|exact hk.no|exact hk.ex|exact dr _ hps rfl|exact aG (by omega)|intro hq)
  all_goals try (have hm:=hk.zc (by with_reducible assumption);rw[hany] at hm)
  all_goals try (have hm:=hk.JP (by with_reducible assumption);rw[hany] at hm)
  all_goals clear hk hps hrow hany he ht hz hr
  all_goals first
   |(refine ret _ ?_;clear ret h2;simp only[eD,hx];(try simp only[fold] at*);simp_all;done)
   |(refine ret _ ?_;clear ret h2;simp only[eD,hx];(try simp only[fold] at*);simp_all;omega)
   |with_reducible assumption
   |rfl
   |skip
  have hb:eD l i=none:=by
   clear ret h2
   simp only[eD,hx]
   rw[if_neg (by simp_all),if_neg hm,if_neg (by(try simp only[fold] at*);simp_all;done)]
  refine⟨i+1,rfl,?_,rfl,rfl,rfl,⟨hi,by rw[←cU hi hb];exact h2⟩,by show l.length - (i+1)<l.length - i;omega⟩
  rw[fO]
  show _=[(1,bB (((l.take (i+1)).map bP.id).map .string))]
  rw[List.take_add_one,hx]
  simp
 ·have hc:decide ((i:Int)<(l.length:Int))=false:=by simp;omega
  refine t100 (XX z zn i l.length cp ⟨[],0,0,0,true,true,0,true⟩ ⟨⟨#[]⟩,0,0,0,0,0⟩ (((l.take i).map bP.id).map .string) (aj _ _ _ _ _ _ _ _ _) ⟨fun h=>(by rw[hc] at h;cases h),fun _=>?_⟩)
  (repeat' first|(with_reducible first|exact rfl|trivial|assumption|apply And.intro|exact hz)|exact(rfl:Int.ofNat _=_)|exact(rfl:gP _ _=_)|exact hz|intro hq)
  refine dw (bJ ?_)
  rw[dD (by omega)] at h2
  rw[←h2]
  exact⟨rfl,rfl⟩
theorem PJ(hz:an z zn)(hg:fD Try.prog z gP)(l:List bP)(cp:Nat)(ht:cy z 5 (l.map bP.row))(d w c:Int):
 A1 z zn 17 [.agg ⟨[tb 5 l.length cp,zv d,zv w,zv c]⟩] [] 0 0 (.tuple ⟨[zv (bM d w c l).1,zv (bM d w c l).2]⟩) []:=by
 refine bt hg (fn:=Try.f17) (by kernel_rfl) (by kernel_rfl) hz ⟨by decide,by decide⟩ rfl (WE z zn l.length cp (bM d w c l).1 (bM d w c l).2 d w c _ ?_)
 cases hf:fJ d w c with
 |false=>
  have hr:bM d w c l=(-1,2):=if_pos hf
  rw[hr]
  unfold fJ at hf
  (repeat' first|(with_reducible first|exact rfl|trivial|assumption|apply And.intro|exact hz|exact q1)|exact(rfl:Int.ofNat _=_)|exact(rfl:gP _ _=_)|exact hz|exact q1|intro hq)
  all_goals (exfalso;(try simp only[fold] at*);simp_all;done)
 |true=>
  by_cases h:16<l.length
  ·have hr:bM d w c l=(0,5):=by unfold bM;rw[if_neg (by simp[hf]),if_pos h]
   have hc:decide ((l.length:Int)>16)=true:=by simp;omega
   rw[hr]
   unfold fJ at hf
   (repeat' first|(with_reducible first|exact rfl|trivial|assumption|apply And.intro|exact hz|exact q1)|exact(rfl:Int.ofNat _=_)|exact(rfl:gP _ _=_)|exact hz|exact q1|intro hq)
   all_goals (exfalso;(try simp only[fold] at*);simp_all;done)
  ·have hr:bM d w c l=scan (eD l) l.length 0:=by unfold bM;rw[if_neg (by simp[hf]),if_neg h]
   have hc:decide ((l.length:Int)>16)=false:=by simp;omega
   have hL:=La hz hg l cp ht (by omega) (bM d w c l) hr.symm
   unfold fJ at hf
   (repeat' first|(with_reducible first|exact rfl|trivial|assumption|apply And.intro|exact hz|exact hL|exact q1)|exact(rfl:Int.ofNat _=_)|exact(rfl:gP _ _=_)|exact hz|exact hL|exact q1|intro hq)
   all_goals first|(rw[hq.1,hq.2];exact q1)|(exfalso;(try simp only[fold] at*);simp_all;done)|trace_state
end
def iI(p:Option bk)(x:bk):Bool:=match p with|some p=>decide (p.stop=x.stop)|none=>false
def early(p:Option bk)(x:bk):Bool:=match p with|some p=>decide (x.arr<p.dep)|none=>false
def br(p:Option bk)(x:bk)(s lo hi:Int):Int:=
 if x.stop<0\/s<=x.stop then 9 else if iI p x=true then 13 else if x.arr<lo\/x.dep<x.arr\/hi<x.dep\/early p x=true then 10 else 0
def prev(l:List bk)(i:Nat):Option bk:=if i=0 then none else l[i - 1]?
def eQ(l:List bk)(s lo hi:Int)(i:Nat):Option Int:=match l[i]? with
 |some x=>if br (prev l i) x s lo hi=0 then none else some (br (prev l i) x s lo hi)
 |none=>none
def bF(l:List bk)(s lo hi:Int):Int × Int:=if l.length<2\/32<l.length then (0,5) else scan (eQ l s lo hi) l.length 0
theorem MY{i:Nat}(h0:0<i)(h:i<1000000000):Value.int .i64 (IntKind.i64.wrap ((i:Int) - 1))=Value.int .i64 ((i:Int) - 1):=by
 have:IntKind.i64.wrap ((i:Int) - 1)=(i:Int) - 1:=by
  simp only[IntKind.wrap,IntKind.signed,IntKind.bits]
  simp
  omega
 rw[this]
theorem aT(σ:bd)(k n c:Nat):aO (aq σ []) (tb k n c)=some (tb k n c):=by
 have:aq σ [] (256*k+510)=some (256*k+510):=by
  rw[jg (by unfold cP;omega)];rfl
 simp only[aO,this]
section
variable{z:T aa}{zn:Nat}
theorem SM(hz:an z zn)(hg:fD Try.prog z gP)(k:Nat)(l:List bk)(cp:Nat)(ht:cy z k (l.map bk.row))(hl:l.length<100000)(s lo hi:Int)(i:Nat)(x:bk)(hx:l[i]? =some x):
 A1 z zn 41 [tb k l.length cp,iv i,zv s,zv lo,zv hi] [] 0 0 (zv (br (prev l i) x s lo hi)) []:=by
 have hil:i<l.length:=(List.getElem?_eq_some_iff.1 hx).1
 obtain⟨e,he⟩:=ht.ay (i:=i) (by simpa using hil)
 have hlen:=aM (row:=bk.row) (sz:=5) l fun _=>rfl
 have hrow:aB Try.prog (bC e (l.map bk.row).flatten) 50 (0+i*5)=some (.agg ⟨x.row⟩):=bO (r:=x.row) (sz:=5) Try.underlying50 rfl rfl hlen (by rw[List.getElem?_map,hx];rfl)
 obtain⟨p,hp0,hp⟩: ∃p:bk,(0<i->prev l i=some p)/\(0<i->l[i - 1]? =some p):=by
  by_cases h:0<i
  ·obtain⟨p,hp⟩:=ej (l:=l) (i:=i - 1) (by omega)
   exact⟨p,fun _=>by unfold prev;rw[if_neg (by omega),hp],fun _=>hp⟩
  ·exact⟨x,fun h'=>(h h').elim,fun h'=>(h h').elim⟩
 refine bt hg (fn:=Try.f41) (by kernel_rfl) (by kernel_rfl) hz ⟨by decide,by decide⟩ rfl (WG z zn k i l.length cp s lo hi (bC e (l.map bk.row).flatten) x p _ ?_)
 rcases Nat.eq_zero_or_pos i with h0|h0
 ·have hpr:prev l i=none:=if_pos h0
  have hc:decide ((i:Int)>0)=false:=by simp;omega
  (repeat' first|(with_reducible first|exact rfl|trivial|assumption|apply And.intro|exact hz|exact hil|exact he|exact hrow|exact aT _ _ _ _)|exact(rfl:Int.ofNat _=_)|exact(rfl:gP _ _=_)|exact hz|exact hil|exact he|exact hrow|exact aT _ _ _ _|intro hq)
  all_goals first
   |(exfalso;simp_all;done)
   |omega
   |(rw[hc];done)
   |(have hv:br (prev l i) x s lo hi=9:=by rw[hpr];simp only[br,iI,early];simp_all;(try omega)
     rw[hv];exact q1)
   |(have hv:br (prev l i) x s lo hi=13:=by rw[hpr];simp only[br,iI,early];simp_all;(try omega)
     rw[hv];exact q1)
   |(have hv:br (prev l i) x s lo hi=10:=by rw[hpr];simp only[br,iI,early];simp_all;(try omega)
     rw[hv];exact q1)
   |(have hv:br (prev l i) x s lo hi=0:=by rw[hpr];simp only[br,iI,early];simp_all;(try omega)
     rw[hv];exact q1)
 ·have hpr:=hp0 h0
  have r0:aB Try.prog (bC e (l.map bk.row).flatten) 3 (0+(i - 1)*5+0)=some (zv p.stop):=bu (r:=p.row) (j:=0) Try.underlying3 rfl hlen (by rw[List.getElem?_map,hp h0];rfl) rfl
  have r2:aB Try.prog (bC e (l.map bk.row).flatten) 3 (0+(i - 1)*5+2)=some (zv p.dep):=bu (r:=p.row) (j:=2) Try.underlying3 rfl hlen (by rw[List.getElem?_map,hp h0];rfl) rfl
  have hc:decide ((i:Int)>0)=true:=by simp;omega
  (repeat' first|(with_reducible first|exact rfl|trivial|assumption|apply And.intro|exact hz|exact hil|exact he|exact hrow|exact r0|exact r2|exact aT _ _ _ _|exact(by omega:i - 1<l.length))|exact(rfl:Int.ofNat _=_)|exact(rfl:gP _ _=_)|exact hz|exact hil|exact he|exact hrow|exact r0|exact r2|exact aT _ _ _ _|exact(by omega:i - 1<l.length)|intro hq)
  all_goals first
   |(exfalso;simp_all;done)
   |exact MY h0 (by omega)
   |omega
   |(rw[hc];done)
   |(have hv:br (prev l i) x s lo hi=9:=by rw[hpr];simp only[br,iI,early];simp_all;(try omega)
     rw[hv];exact q1)
   |(have hv:br (prev l i) x s lo hi=13:=by rw[hpr];simp only[br,iI,early];simp_all;(try omega)
     rw[hv];exact q1)
   |(have hv:br (prev l i) x s lo hi=10:=by rw[hpr];simp only[br,iI,early];simp_all;(try omega)
     rw[hv];exact q1)
   |(have hv:br (prev l i) x s lo hi=0:=by rw[hpr];simp only[br,iI,early];simp_all;(try omega)
     rw[hv];exact q1)
theorem p8{l:List bk}{s lo hi:Int}{i:Nat}{x:bk}(hx:l[i]? =some x){e:Int}(he:br (prev l i) x s lo hi=e)(h0:e≠0):eQ l s lo hi i=some e:=by
 simp only[eQ,hx,he];rw[if_neg h0]
theorem p9{l:List bk}{s lo hi:Int}{i:Nat}{x:bk}(hx:l[i]? =some x)(he:br (prev l i) x s lo hi=0):eQ l s lo hi i=none:=by
 simp only[eQ,hx,he];rfl
theorem Ls(hz:an z zn)(hg:fD Try.prog z gP)(k:Nat)(l:List bk)(cp:Nat)(ht:cy z k (l.map bk.row))(hl:l.length<100000)(s lo hi:Int)(r:Int × Int)(hr:scan (eQ l s lo hi) l.length 0=r):
 ai Try.prog (ah (ag Try.f26) 0) 0 36 (E4 k l.length cp s lo hi 0) [] 0 z zn (Al.R (V2 z zn k l.length cp s lo hi r.1 r.2).l):=by
 refine ak hD hg (α:=Nat) 0 36 0 (fun i=>i<=l.length/\scan (eQ l s lo hi) (l.length - i) i=r) (fun i=>E4 k l.length cp s lo hi i) (fun _=>[]) (fun _=>z) (fun _=>zn) (fun i=>l.length - i) _ (fun i hI=>?_) 0 ⟨Nat.zero_le _,hr⟩
 obtain⟨h1,h2⟩:=hI
 by_cases hi':i<l.length
 ·obtain⟨x,hx⟩:=ej hi'
  have hone:=SM hz hg k l cp ht hl s lo hi i x hx
  generalize he:br (prev l i) x s lo hi=e at hone
  have hc:decide ((i:Int)<(l.length:Int))=true:=by simp;omega
  refine t100 (X3 z zn k i l.length cp s lo hi e (aj _ _ _ _ _ _ _ _ _) ⟨fun _=>?_,fun h=>(by rw[hc] at h;cases h)⟩)
  (repeat' first|(with_reducible first|exact rfl|trivial|assumption|apply And.intro|exact hz|exact hone|exact aT _ _ _ _|exact aG (by omega))|exact(rfl:Int.ofNat _=_)|exact(rfl:gP _ _=_)|exact hz|exact hone|exact aT _ _ _ _|exact aG (by omega)|intro hq)
  ·have h0:e≠0:=by simpa using hq
   have:r=((i:Int),e):=by rw[←h2,dq hi' (p8 hx he h0)]
   rw[this];exact bJ trivial
  ·have h0:e=0:=by simpa using hq
   exact⟨i+1,rfl,rfl,rfl,rfl,rfl,⟨hi',by rw[←cU hi' (p9 hx (he.trans h0))];exact h2⟩,by show l.length - (i+1)<l.length - i;omega⟩
 ·have hc:decide ((i:Int)<(l.length:Int))=false:=by simp;omega
  refine t100 (X3 z zn k i l.length cp s lo hi 0 (aj _ _ _ _ _ _ _ _ _) ⟨fun h=>(by rw[hc] at h;cases h),fun _=>?_⟩)
  (repeat' first|(with_reducible first|exact rfl|trivial|assumption|apply And.intro|exact hz)|exact(rfl:Int.ofNat _=_)|exact(rfl:gP _ _=_)|exact hz|intro hq)
  refine dw (bJ ?_)
  rw[dD (by omega)] at h2
  rw[←h2]
  exact⟨rfl,rfl⟩
theorem Mr(hz:an z zn)(hg:fD Try.prog z gP)(k:Nat)(l:List bk)(cp:Nat)(ht:cy z k (l.map bk.row))(s lo hi:Int):
 A1 z zn 26 [tb k l.length cp,zv s,zv lo,zv hi] [] 0 0 (.tuple ⟨[zv (bF l s lo hi).1,zv (bF l s lo hi).2]⟩) []:=by
 refine bt hg (fn:=Try.f26) (by kernel_rfl) (by kernel_rfl) hz ⟨by decide,by decide⟩ rfl (fck z zn k l.length cp s lo hi (bF l s lo hi).1 (bF l s lo hi).2 _ ?_)
 by_cases h:l.length<2\/32<l.length
 ·have hr:bF l s lo hi=(0,5):=if_pos h
  rw[hr]
  (repeat' first|(with_reducible first|exact rfl|trivial|assumption|apply And.intro|exact hz|exact q1|exact aT _ _ _ _)|exact(rfl:Int.ofNat _=_)|exact(rfl:gP _ _=_)|exact hz|exact q1|exact aT _ _ _ _|intro hq)
  all_goals first|(exfalso;simp_all;done)|(exfalso;simp_all;omega)
 ·have hr:bF l s lo hi=scan (eQ l s lo hi) l.length 0:=if_neg h
  have hL:=Ls hz hg k l cp ht (by omega) s lo hi (bF l s lo hi) hr.symm
  (repeat' first|(with_reducible first|exact rfl|trivial|assumption|apply And.intro|exact hz|exact hL|exact q1|exact aT _ _ _ _)|exact(rfl:Int.ofNat _=_)|exact(rfl:gP _ _=_)|exact hz|exact hL|exact q1|exact aT _ _ _ _|intro hq)
  all_goals first
   |(exfalso;simp_all;done)
   |(exfalso;simp_all;omega)
   |(rw[hq.1,hq.2];exact q1)
theorem K7(hz:an z zn)(hg:fD Try.prog z gP)(k:Nat)(l:List bk)(cp:Nat)(ht:cy z k (l.map bk.row))(hl:l.length<100000)(s lo hi:Int)(r:Int × Int)(hr:scan (eQ l s lo hi) l.length 0=r):
 ai Try.prog (ah (ag Try.f46) 0) 0 83 (Aq k l.length cp s lo hi 0) [] 0 z zn (Al.R (O3 z zn k l.length cp s lo hi r.2).l):=by
 refine ak hD hg (α:=Nat) 0 83 0 (fun i=>i<=l.length/\scan (eQ l s lo hi) (l.length - i) i=r) (fun i=>Aq k l.length cp s lo hi i) (fun _=>[]) (fun _=>z) (fun _=>zn) (fun i=>l.length - i) _ (fun i hI=>?_) 0 ⟨Nat.zero_le _,hr⟩
 obtain⟨h1,h2⟩:=hI
 by_cases hil:i<l.length
 ·obtain⟨e,he⟩:=ht.ay (i:=i) (by simpa using hil)
  obtain⟨x,hx⟩:=ej hil
  have hlen:=aM (row:=bk.row) (sz:=5) l fun _=>rfl
  have hrow:aB Try.prog (bC e (l.map bk.row).flatten) 50 (0+i*5)=some (.agg ⟨x.row⟩):=bO (r:=x.row) (sz:=5) Try.underlying50 rfl rfl hlen (by rw[List.getElem?_map,hx];rfl)
  obtain⟨p,hp0,hp⟩: ∃p:bk,(0<i->prev l i=some p)/\(0<i->l[i - 1]? =some p):=by
   by_cases h:0<i
   ·obtain⟨p,hp⟩:=ej (l:=l) (i:=i - 1) (by omega)
    exact⟨p,fun _=>by unfold prev;rw[if_neg (by omega),hp],fun _=>hp⟩
   ·exact⟨x,fun h'=>(h h').elim,fun h'=>(h h').elim⟩
  have hc':decide ((i:Int)<(l.length:Int))=true:=by simp;omega
  have ret: ∀e:Int,br (prev l i) x s lo hi=e->e≠0->Al.R (O3 z zn k l.length cp s lo hi r.2).l ⟨.ret,[(8,zv e)],[],0,z,zn⟩:=fun e he h0=>by
   have:r=((i:Int),e):=by rw[←h2,dq hil (p8 hx he h0)]
   rw[this];exact bJ trivial
  have jP:br (prev l i) x s lo hi=0->aj (fun i=>i<=l.length/\scan (eQ l s lo hi) (l.length - i) i=r) (fun i=>Aq k l.length cp s lo hi i) (fun _=>[]) 0 (fun _=>z) (fun _=>zn) (fun i=>l.length - i) (Al.R (O3 z zn k l.length cp s lo hi r.2).l) i .normal (Aq k l.length cp s lo hi (i+1)) [] 0 z zn:=fun h0=>
   ⟨i+1,rfl,rfl,rfl,rfl,rfl,⟨hil,by rw[←cU hil (p9 hx h0)];exact h2⟩,by show l.length - (i+1)<l.length - i;omega⟩
  refine t100 (XW z zn k i l.length cp s lo hi (bC e (l.map bk.row).flatten) x p (aj _ _ _ _ _ _ _ _ _) ⟨fun _=>?_,fun h=>(by rw[hc'] at h;cases h)⟩)
  clear h2
  rcases Nat.eq_zero_or_pos i with h0|h0
  ·have hpr:prev l i=none:=if_pos h0
   have hc:decide ((i:Int)>0)=false:=by simp;omega
   (repeat' first|(with_reducible first|exact rfl|trivial|assumption|apply And.intro|exact hz|exact hil|exact he|exact hrow|exact aT _ _ _ _|exact aG (by omega))|exact(rfl:Int.ofNat _=_)|exact(rfl:gP _ _=_)|exact hz|exact hil|exact he|exact hrow|exact aT _ _ _ _|exact aG (by omega)|intro hq)
   all_goals first
    |(exfalso;clear ret jP;simp_all;done)
    |omega
    |(rw[hc];done)
    |(have hv:br (prev l i) x s lo hi=9:=by clear ret jP;rw[hpr];simp only[br,iI,early];simp_all;(try omega)
      exact ret _ hv (by decide))
    |(have hv:br (prev l i) x s lo hi=13:=by clear ret jP;rw[hpr];simp only[br,iI,early];simp_all;(try omega)
      exact ret _ hv (by decide))
    |(have hv:br (prev l i) x s lo hi=10:=by clear ret jP;rw[hpr];simp only[br,iI,early];simp_all;(try omega)
      exact ret _ hv (by decide))
    |(have hv:br (prev l i) x s lo hi=0:=by clear ret jP;rw[hpr];simp only[br,iI,early];simp_all;(try omega)
      exact jP hv)
  ·have hpr:=hp0 h0
   have r0:aB Try.prog (bC e (l.map bk.row).flatten) 3 (0+(i - 1)*5+0)=some (zv p.stop):=bu (r:=p.row) (j:=0) Try.underlying3 rfl hlen (by rw[List.getElem?_map,hp h0];rfl) rfl
   have r2:aB Try.prog (bC e (l.map bk.row).flatten) 3 (0+(i - 1)*5+2)=some (zv p.dep):=bu (r:=p.row) (j:=2) Try.underlying3 rfl hlen (by rw[List.getElem?_map,hp h0];rfl) rfl
   have hc:decide ((i:Int)>0)=true:=by simp;omega
   (repeat' first|(with_reducible first|exact rfl|trivial|assumption|apply And.intro|exact hz|exact hil|exact he|exact hrow|exact r0|exact r2|exact aT _ _ _ _|exact(by omega:i - 1<l.length)|exact aG (by omega))|exact(rfl:Int.ofNat _=_)|exact(rfl:gP _ _=_)|exact hz|exact hil|exact he|exact hrow|exact r0|exact r2|exact aT _ _ _ _|exact(by omega:i - 1<l.length)|exact aG (by omega)|intro hq)
   all_goals first
    |(exfalso;clear ret jP;simp_all;done)
    |exact MY h0 (by omega)
    |omega
    |(rw[hc];done)
    |(have hv:br (prev l i) x s lo hi=9:=by clear ret jP;rw[hpr];simp only[br,iI,early];simp_all;(try omega)
      exact ret _ hv (by decide))
    |(have hv:br (prev l i) x s lo hi=13:=by clear ret jP;rw[hpr];simp only[br,iI,early];simp_all;(try omega)
      exact ret _ hv (by decide))
    |(have hv:br (prev l i) x s lo hi=10:=by clear ret jP;rw[hpr];simp only[br,iI,early];simp_all;(try omega)
      exact ret _ hv (by decide))
    |(have hv:br (prev l i) x s lo hi=0:=by clear ret jP;rw[hpr];simp only[br,iI,early];simp_all;(try omega)
      exact jP hv)
 ·have hc:decide ((i:Int)<(l.length:Int))=false:=by simp;omega
  refine t100 (XW z zn k i l.length cp s lo hi ⟨[],0,0,0,true,true,0,true⟩ ⟨0,0,0,true,true⟩ ⟨0,0,0,true,true⟩ (aj _ _ _ _ _ _ _ _ _) ⟨fun h=>(by rw[hc] at h;cases h),fun _=>?_⟩)
  (repeat' first|(with_reducible first|exact rfl|trivial|assumption|apply And.intro|exact hz)|exact(rfl:Int.ofNat _=_)|exact(rfl:gP _ _=_)|exact hz|intro hq)
  refine dw (bJ ?_)
  rw[dD (by omega)] at h2
  rw[←h2]
theorem I2(hz:an z zn)(hg:fD Try.prog z gP)(k:Nat)(l:List bk)(cp:Nat)(ht:cy z k (l.map bk.row))(s lo hi:Int):
 A1 z zn 46 [tb k l.length cp,zv s,zv lo,zv hi] [] 0 0 (zv (bF l s lo hi).2) []:=by
 refine bt hg (fn:=Try.f46) (by kernel_rfl) (by kernel_rfl) hz ⟨by decide,by decide⟩ rfl (frc z zn k l.length cp s lo hi (bF l s lo hi).2 _ ?_)
 by_cases h:l.length<2\/32<l.length
 ·have hr:bF l s lo hi=(0,5):=if_pos h
  rw[hr]
  (repeat' first|(with_reducible first|exact rfl|trivial|assumption|apply And.intro|exact hz|exact q1|exact aT _ _ _ _)|exact(rfl:Int.ofNat _=_)|exact(rfl:gP _ _=_)|exact hz|exact q1|exact aT _ _ _ _|intro hq)
  all_goals first|(exfalso;simp_all;done)|(exfalso;simp_all;omega)
 ·have hr:bF l s lo hi=scan (eQ l s lo hi) l.length 0:=if_neg h
  have hL:=K7 hz hg k l cp ht (by omega) s lo hi (bF l s lo hi) hr.symm
  (repeat' first|(with_reducible first|exact rfl|trivial|assumption|apply And.intro|exact hz|exact hL|exact q1|exact aT _ _ _ _)|exact(rfl:Int.ofNat _=_)|exact(rfl:gP _ _=_)|exact hz|exact hL|exact q1|exact aT _ _ _ _|intro hq)
  all_goals first
   |(exfalso;simp_all;done)
   |(exfalso;simp_all;omega)
   |(rw[hq];exact q1)
end
theorem prun_bind{α β:Type}{P:Program}(f:α->Sem β): ∀s:Sem α,prun P (s>>=f)=(prun P s).bind fun a=>prun P (f a)
 | .pure a=>rfl
 | .program k=>prun_bind f (k P)
 | .mark m k=>prun_bind f k
 | .load _ _ _=>rfl
 | .store _ _ _ _=>rfl
 | .new _ _=>rfl
 | .shape _ _=>rfl
 | .freeze _ _ _=>rfl
 | .frozen _ _=>rfl
 | .getObj _ _=>rfl
 | .setObj _ _ _=>rfl
 | .choose _ _=>rfl
 | .sys _ _=>rfl
 | .halt _=>rfl
theorem prun_pure{α:Type}{P:Program}(a:α):prun P (pure a:Sem α)=some a:=rfl
theorem zS{α:Type}{P:Program}(c:Prop)[Decidable c](s t:Sem α):prun P (if c then s else t)=if c then prun P s else prun P t:=by split<;>rfl
theorem jY{P:Program}(d:Nat)(t:TypeId)(xs ys:Array Value)(fs:Array Field)(ht:prun P (underlying t)=some (.struct fs))(hp:P.stoodInHeld t=false):
 prun P (Op.equalIn (d+1) t (.agg xs) (.agg ys))=prun P (Op.eqFields d xs ys fs.toList):=by
 have hprog:prun P (program:Sem Program)=some P:=rfl
 simp only[Op.equalIn,prun_bind,ht,Option.bind_some,hprog,hp,Bool.false_eq_true,if_false]
 rw[←Array.forIn_toList]
 generalize fs.toList=fs
 clear ht
 induction fs with
 |nil=>simp[Op.eqFields,prun_pure]
 |cons f fs ih=>
  simp only[List.forIn_cons,Op.eqFields,prun_bind,zS]
  split
  ·cases prun P (part f.type xs f.offset) with
   |none=>rfl
   |some a=>
    simp only[Option.bind_some]
    cases prun P (part f.type ys f.offset) with
    |none=>rfl
    |some b=>
     simp only[Option.bind_some]
     cases prun P (Op.equalIn d f.type a b) with
     |none=>rfl
     |some r=>
      cases r
      ·simp only[Option.bind_some,Bool.not_false,if_true,prun_pure]
      ·simp only[Option.bind_some,Bool.not_true,Bool.false_eq_true,if_false,prun_pure]
       exact ih
  ·simp only[prun_pure,Option.bind_some]
   exact ih
theorem zU{P:Program}{d:Nat}{xs ys:Array Value}{f:Field}{fs:List Field}{a b:Value}{r:Bool}(hn:f.name≠ "_")(ha:prun P (part f.type xs f.offset)=some a)(hb:prun P (part f.type ys f.offset)=some b)(hr:prun P (Op.equalIn d f.type a b)=some r):
 prun P (Op.eqFields d xs ys (f::fs))=if r=true then prun P (Op.eqFields d xs ys fs) else some false:=by
 simp only[Op.eqFields,if_pos hn,prun_bind,ha,hb,hr,Option.bind_some]
 cases r<;>rfl
def fx(f:Field):Bool × TypeId × Nat:=(decide (f.name≠ "_"),f.type,f.offset)
theorem SB{f:Field}{t o:Nat}(h:fx f=(true,t,o)):f.name≠ "_" /\f.type=t/\f.offset=o:=by
 unfold fx at h
 simp only[Prod.mk.injEq,decide_eq_true_eq] at h
 exact h
theorem step_eq{P:Program}{d:Nat}{xs ys:Array Value}{f:Field}{fs:List Field}{t o:Nat}{a b:Value}{r:Bool}(hf:fx f=(true,t,o))(ha:prun P (part t xs o)=some a)(hb:prun P (part t ys o)=some b)(hr:prun P (Op.equalIn d t a b)=some r):
 prun P (Op.eqFields d xs ys (f::fs))=if r=true then prun P (Op.eqFields d xs ys fs) else some false:=by
 obtain⟨h1,h2,h3⟩:=SB hf
 subst h2 h3
 exact zU h1 ha hb hr
theorem Nd{α β:Type}{g:α->β}{l:List α}{a b c:β}(h:l.map g=[a,b,c]): ∃x y z,l=[x,y,z]/\g x=a/\g y=b/\g z=c:=by
 match l,h with
 |[x,y,z],h=>simp at h;exact⟨x,y,z,rfl,h.1,h.2.1,h.2.2⟩
theorem Nc{α β:Type}{g:α->β}{l:List α}{a b c d:β}(h:l.map g=[a,b,c,d]): ∃x y z u,l=[x,y,z,u]/\g x=a/\g y=b/\g z=c/\g u=d:=by
 match l,h with
 |[x,y,z,u],h=>simp at h;exact⟨x,y,z,u,rfl,h.1,h.2.1,h.2.2.1,h.2.2.2⟩
theorem D2(a b:Int):prun Try.prog (Op.equalIn 9999 3 (zv a) (zv b))=some (decide (a=b)):=by kernel_rfl
theorem eqS(a b:ByteArray):prun Try.prog (Op.equalIn 9999 9 (.string a) (.string b))=some (a.data==b.data):=by kernel_rfl
theorem Nl(a b:Bool):prun Try.prog (Op.equalIn 9999 4 (.bool a) (.bool b))=some (a==b):=by kernel_rfl
theorem Ps(a b:ByteArray)(x y u w:Int):prun Try.prog (Op.equal 76 (.agg ⟨[.string a,zv x,zv y]⟩) (.agg ⟨[.string b,zv u,zv w]⟩))=some ((a.data==b.data) && (decide (x=u) && decide (y=w))):=by
 have hm:(Try.prog.fieldsOf 76).toList.map fx=[(true,9,0),(true,3,1),(true,3,2)]:=by kernel_rfl
 obtain⟨f0,f1,f2,hl,h0,h1,h2⟩:=Nd hm
 have hs:prun Try.prog (underlying 76)=some (.struct (Try.prog.fieldsOf 76)):=by kernel_rfl
 show prun _ (Op.equalIn (9999+1) _ _ _)=_
 rw[jY _ _ _ _ _ hs (by kernel_rfl),hl,step_eq h0 (by kernel_rfl) (by kernel_rfl) (eqS a b),step_eq h1 (by kernel_rfl) (by kernel_rfl) (D2 x u),step_eq h2 (by kernel_rfl) (by kernel_rfl) (D2 y w)]
 cases (a.data==b.data)<;>cases decide (x=u)<;>cases decide (y=w)<;>rfl
theorem Is(a b c x y z:Int)(d w:Bool):prun Try.prog (Op.equal 89 (.agg ⟨[zv a,zv b,zv c, .bool d]⟩) (.agg ⟨[zv x,zv y,zv z, .bool w]⟩))=some (decide (a=x) && (decide (b=y) && (decide (c=z) && (d==w)))):=by
 have hm:(Try.prog.fieldsOf 89).toList.map fx=[(true,3,0),(true,3,1),(true,3,2),(true,4,3)]:=by kernel_rfl
 obtain⟨f0,f1,f2,f3,hl,h0,h1,h2,h3⟩:=Nc hm
 have hs:prun Try.prog (underlying 89)=some (.struct (Try.prog.fieldsOf 89)):=by kernel_rfl
 show prun _ (Op.equalIn (9999+1) _ _ _)=_
 rw[jY _ _ _ _ _ hs (by kernel_rfl),hl,step_eq h0 (by kernel_rfl) (by kernel_rfl) (D2 a x),step_eq h1 (by kernel_rfl) (by kernel_rfl) (D2 b y),step_eq h2 (by kernel_rfl) (by kernel_rfl) (D2 c z),step_eq h3 (by kernel_rfl) (by kernel_rfl) (Nl d w)]
 cases decide (a=x)<;>cases decide (b=y)<;>cases decide (c=z)<;>cases (d==w)<;>rfl
theorem It(a b x y:Int)(d w:Bool):prun Try.prog (Op.equal 113 (.agg ⟨[zv a,zv b, .bool d]⟩) (.agg ⟨[zv x,zv y, .bool w]⟩))=some (decide (a=x) && (decide (b=y) && (d==w))):=by
 have hm:(Try.prog.fieldsOf 113).toList.map fx=[(true,3,0),(true,3,1),(true,4,2)]:=by kernel_rfl
 obtain⟨f0,f1,f3,hl,h0,h1,h3⟩:=Nd hm
 have hs:prun Try.prog (underlying 113)=some (.struct (Try.prog.fieldsOf 113)):=by kernel_rfl
 show prun _ (Op.equalIn (9999+1) _ _ _)=_
 rw[jY _ _ _ _ _ hs (by kernel_rfl),hl,step_eq h0 (by kernel_rfl) (by kernel_rfl) (D2 a x),step_eq h1 (by kernel_rfl) (by kernel_rfl) (D2 b y),step_eq h3 (by kernel_rfl) (by kernel_rfl) (Nl d w)]
 cases decide (a=x)<;>cases decide (b=y)<;>cases (d==w)<;>rfl
end Go.Proofs.Nw
namespace Go.Proofs.Nw
open Go Go.AV Go.jm
set_option maxRecDepth 100000
theorem B4{P:Program}(d:Nat)(e sz:Nat)(xs ys:Array Value): ∀is:List Nat,
 prun P (Op.eqItems d e sz xs ys is)=match is with
  |[]=>some true
  |i::l=>(prun P (part e xs (i*sz))).bind fun a=>(prun P (part e ys (i*sz))).bind fun b=>(prun P (Op.equalIn d e a b)).bind fun r=>if r=true then prun P (Op.eqItems d e sz xs ys l) else some false
 |[]=>rfl
 |i::l=>by
  simp only[Op.eqItems,prun_bind]
  congr 1;funext a;congr 1;funext b;congr 1;funext r
  cases r<;>rfl
theorem B5{P:Program}(d:Nat)(t:TypeId)(xs ys:Array Value)(n e sz:Nat)(ht:prun P (underlying t)=some (.array n e))(hs:prun P (sizeOf e)=some sz):
 prun P (Op.equalIn (d+1) t (.agg xs) (.agg ys))=prun P (Op.eqItems d e sz xs ys (List.range n)):=by
 simp only[Op.equalIn,prun_bind,ht,hs,Option.bind_some]
 simp only[Std.Legacy.Range.forIn_eq_forIn_range',Std.Legacy.Range.size,Nat.sub_zero,Nat.add_one_sub_one,Nat.div_one,List.range_eq_range']
 generalize List.range' 0 n 1=is
 induction is with
 |nil=>simp[Op.eqItems,prun_pure]
 |cons i is ih=>
  simp only[List.forIn_cons,Op.eqItems,prun_bind,zS]
  cases prun P (part e xs (i*sz)) with
  |none=>rfl
  |some a=>
   simp only[Option.bind_some]
   cases prun P (part e ys (i*sz)) with
   |none=>rfl
   |some b=>
    simp only[Option.bind_some]
    cases prun P (Op.equalIn d e a b) with
    |none=>rfl
    |some r=>
     cases r
     ·simp only[Option.bind_some,Bool.not_false,if_true,prun_pure]
     ·simp only[Option.bind_some,Bool.not_true,Bool.false_eq_true,if_false,prun_pure]
      exact ih
theorem Pv(a b c d x y u w:Int):prun Try.prog (Op.equal 81 (.agg ⟨[zv a,zv b,zv c,zv d]⟩) (.agg ⟨[zv x,zv y,zv u,zv w]⟩))=some (decide (a=x) && (decide (b=y) && (decide (c=u) && decide (d=w)))):=by
 have ht:prun Try.prog (underlying 81)=some (.array 4 3):=by kernel_rfl
 have hs:prun Try.prog (sizeOf 3)=some 1:=by kernel_rfl
 have p0: ∀a b c d:Int,prun Try.prog (part 3 ⟨[zv a,zv b,zv c,zv d]⟩ (0*1))=some (zv a):=fun a b c d=>by kernel_rfl
 have p1: ∀a b c d:Int,prun Try.prog (part 3 ⟨[zv a,zv b,zv c,zv d]⟩ (1*1))=some (zv b):=fun a b c d=>by kernel_rfl
 have p2: ∀a b c d:Int,prun Try.prog (part 3 ⟨[zv a,zv b,zv c,zv d]⟩ (2*1))=some (zv c):=fun a b c d=>by kernel_rfl
 have p3: ∀a b c d:Int,prun Try.prog (part 3 ⟨[zv a,zv b,zv c,zv d]⟩ (3*1))=some (zv d):=fun a b c d=>by kernel_rfl
 show prun _ (Op.equalIn (9999+1) _ _ _)=_
 rw[B5 _ _ _ _ _ _ _ ht hs,show List.range 4=[0,1,2,3] from rfl]
 simp only[B4,p0,p1,p2,p3,D2,Option.bind_some,decide_eq_true_eq]
 by_cases h1:a=x<;>by_cases h2:b=y<;>by_cases h3:c=u<;>by_cases h4:d=w<;>simp[h1,h2,h3,h4]
abbrev j0(x:aC):Value:= .agg ⟨[zv x.from_,zv x.fc,zv x.ax,zv x.tc]⟩
def mh(x y:aC):Bool:=decide (y.from_=x.from_) && (decide (y.fc=x.fc) && (decide (y.ax=x.ax) && decide (y.tc=x.tc)))
theorem Sv(x:aC)(l:List aC):kY 81 (j0 x) (l.map j0):=⟨fun k' hk'=>by
 obtain⟨y,_,rfl⟩:=List.mem_map.1 hk'
 refine⟨rfl,_,Pv _ _ _ _ _ _ _ _,?_⟩
 simp only[Bool.and_eq_true,decide_eq_true_eq,j0,Value.agg.injEq,Array.mk.injEq,List.cons.injEq,Value.int.injEq,true_and,and_true]⟩
theorem Hi(x:aC)(l:List aC):j0 x∈l.map j0↔l.any (mh x)=true:=by
 rw[List.mem_map,List.any_eq_true]
 simp only[mh,Bool.and_eq_true,decide_eq_true_eq,j0,Value.agg.injEq,Array.mk.injEq,List.cons.injEq,Value.int.injEq,true_and,and_true]
theorem G4(l:List aC): ∀k,k∈l.map j0->az k=true:=fun k hk=>by
 obtain⟨t,_,rfl⟩:=List.mem_map.1 hk
 rfl
theorem Pe(a:Int)(l:List Int):kY 3 (zv a) (l.map fun x=>zv x):=⟨fun k' hk'=>by
 obtain⟨y,_,rfl⟩:=List.mem_map.1 hk'
 exact⟨rfl,_,Iv _ _,by simp⟩⟩
theorem DJ(a:Int)(l:List Int):zv a∈(l.map fun x=>zv x)↔a∈l:=by
 rw[List.mem_map]
 constructor
 ·rintro⟨y,h1,h2⟩;injection h2 with _ h2;rw[←h2];exact h1
 ·intro h;exact⟨a,h,rfl⟩
theorem EL(l:List Int): ∀k,k∈(l.map fun x=>zv x)->az k=true:=fun k hk=>by
 obtain⟨t,_,rfl⟩:=List.mem_map.1 hk
 rfl
theorem AY: ∀(l m:List (Int × Int)) (i:Nat),iZ i (l++m)=iZ i l++iZ (i+l.length) m
 |[],m,i=>rfl
 |(a,b)::l,m,i=>by
  simp only[List.cons_append,iZ,AY l m (i+1),List.length_cons]
  rw[show i+1+l.length=i+(l.length+1) by omega]
theorem wA(l:List (Int × Int))(a b:Int):aa.map (iZ 0 l++[{key:=zv a,val:=zv b,born:=l.length}]) (l.length+1)=ui (l++[(a,b)]):=by
 unfold ui
 rw[AY,List.length_append]
 simp[iZ]
theorem uI(σ:Nat->Option Nat): ∀(l:List (Int × Int)) (i:Nat),gR σ (iZ i l)=some (iZ i l)
 |[],_=>rfl
 |(a,b)::l,i=>by simp only[iZ,gR,aO,uI σ l (i+1)]
theorem uh(σ:Nat->Option Nat)(l:List (Int × Int)):aE σ (ui l)=some (ui l):=by simp only[aE,uI]
def nP:List (Int × Int)->Int->Option Int
 |[],_=>none
 |(a,b)::l,x=>if x=a then some b else nP l x
theorem Ni: ∀(l:List (Int × Int)) (i j:Nat) (a:Int),∃r:Option (Nat × Int),aD Try.prog 3 (zv a) (iZ j l) i=some (r.map fun p=>(p.1,zv p.2))/\r.map (·.2)=nP l a
 |[],i,j,a=>⟨none,rfl,rfl⟩
 |(x,b)::l,i,j,a=>by
  simp only[iZ,aD,Iv,nP]
  by_cases h:a=x
  ·simp only[h,decide_true,if_pos]
   exact⟨some (i,b),rfl,rfl⟩
  ·simp only[h,decide_false,if_neg,if_false]
   exact Ni l (i+1) (j+1) a
theorem Fk(l:List (Int × Int))(F T:Int)(h:nP l F=none):nP (l++[(F,T)])=ins (nP l) F T:=by
 funext x
 induction l with
 |nil=>rfl
 |cons p l ih=>
  obtain⟨a,b⟩:=p
  simp only[nP] at h
  split at h
  ·cases h
  ·rename_i hne
   simp only[List.cons_append,nP,ih h,ins]
   by_cases hx:x=a
   ·subst hx;simp[Ne.symm hne]
   ·simp[hx]
theorem VN(l:List (Int × Int)):vj (iZ 0 l) (nP l):=⟨fun a=>Ni l 0 0 a,fun σ c=>by simp only[aE,uI]⟩
end Go.Proofs.Nw
namespace Go.Proofs.Nw
open Go Go.AV
set_option maxHeartbeats 4000000
set_option maxRecDepth 100000
def zp(k:Nat)(a:Option Addr)(n c len:Nat):Prop:=(a=none/\n=0/\c=0/\len=0)\/(a=some ⟨256*k+510,0,none⟩/\n=len)
def Re(k:Nat)(a:Option Addr)(n c len:Nat):Prop:=zp k a n c len\/((∃b o s,a=some ⟨b,o,some s⟩)/\n=0/\c=0/\len=0)
structure RunT where
 v:ja
 calls:List bk
def sameKey(y x:RunT):Bool:=(y.v.id.data==x.v.id.data) && (decide (y.v.day=x.v.day) && decide (y.v.inst=x.v.inst))
def xN(ns:Nat)(x:RunT):Int:=(bF x.calls ns 0 3155932800).2
def dp(ns nr:Nat)(l:List RunT)(i:Nat):Option Int:=match l[i]? with
 |some x=>if bV x.v.id=false then some 12 else if x.v.vB< -1\/x.v.inst<0 then some 2 else if x.v.day<0\/36524<x.v.day then some 11
  else if x.v.jB<0\/(nr:Int)<=x.v.jB then some 9 else if xN ns x≠0 then some (xN ns x) else if (l.take i).any (fun y=>sameKey y x)=true then some 6 else none
 |none=>none
structure ql(z:T aa)(l:List RunT):Prop where
 JM:cy z 1 (l.map fun r=>r.v.row)
 sl: ∀(j:Nat)(r:RunT),l[j]? =some r->Re (6+j) r.v.ca r.v.cn r.v.cc r.calls.length
 calls: ∀(j:Nat)(r:RunT),l[j]? =some r->cy z (6+j) (r.calls.map bk.row)
section
variable{z:T aa}{zn:Nat}
theorem Jd(hz:an z zn)(hg:fD Try.prog z gP)(k:Nat)(l:List bk){a:Option Addr}{n c:Nat}(hs:Re k a n c l.length)(ht:cy z k (l.map bk.row))(s lo hi:Int):
 A1 z zn 26 [.slice a n c,zv s,zv lo,zv hi] [] 0 0 (.tuple ⟨[zv (bF l s lo hi).1,zv (bF l s lo hi).2]⟩) []:=by
 rcases hs with (⟨rfl,rfl,rfl,h⟩|⟨rfl,rfl⟩)|⟨⟨b,o,sp,rfl⟩,rfl,rfl,h⟩
 rotate_left 2
 ·have hr:bF l s lo hi=(0,5):=if_pos (by omega)
  rw[hr]
  refine bt hg (fn:=Try.f26) (by kernel_rfl) (by kernel_rfl) hz ⟨by decide,by decide⟩ rfl (WL z zn b o sp s lo hi _ ?_)
  (repeat' first|(with_reducible first|exact rfl|trivial|assumption|apply And.intro|exact hz|exact q1)|exact(rfl:Int.ofNat _=_)|exact(rfl:gP _ _=_)|exact hz|exact q1|intro hq)
 ·have hr:bF l s lo hi=(0,5):=if_pos (by omega)
  rw[hr]
  refine bt hg (fn:=Try.f26) (by kernel_rfl) (by kernel_rfl) hz ⟨by decide,by decide⟩ rfl (WK z zn s lo hi _ ?_)
  (repeat' first|(with_reducible first|exact rfl|trivial|assumption|apply And.intro|exact hz|exact q1)|exact(rfl:Int.ofNat _=_)|exact(rfl:gP _ _=_)|exact hz|exact q1|intro hq)
 ·exact Mr hz hg k l c ht s lo hi
theorem FL(hz:an z zn)(hg:fD Try.prog z gP)(k:Nat)(l:List bk){a:Option Addr}{n c:Nat}(hs:Re k a n c l.length)(ht:cy z k (l.map bk.row))(s lo hi:Int):
 A1 z zn 46 [.slice a n c,zv s,zv lo,zv hi] [] 0 0 (zv (bF l s lo hi).2) []:=by
 rcases hs with (⟨rfl,rfl,rfl,h⟩|⟨rfl,rfl⟩)|⟨⟨b,o,sp,rfl⟩,rfl,rfl,h⟩
 rotate_left 2
 ·have hr:bF l s lo hi=(0,5):=if_pos (by omega)
  rw[hr]
  refine bt hg (fn:=Try.f46) (by kernel_rfl) (by kernel_rfl) hz ⟨by decide,by decide⟩ rfl (WC z zn b o sp s lo hi _ ?_)
  (repeat' first|(with_reducible first|exact rfl|trivial|assumption|apply And.intro|exact hz|exact q1)|exact(rfl:Int.ofNat _=_)|exact(rfl:gP _ _=_)|exact hz|exact q1|intro hq)
 ·have hr:bF l s lo hi=(0,5):=if_pos (by omega)
  rw[hr]
  refine bt hg (fn:=Try.f46) (by kernel_rfl) (by kernel_rfl) hz ⟨by decide,by decide⟩ rfl (WB z zn s lo hi _ ?_)
  (repeat' first|(with_reducible first|exact rfl|trivial|assumption|apply And.intro|exact hz|exact q1)|exact(rfl:Int.ofNat _=_)|exact(rfl:gP _ _=_)|exact hz|exact q1|intro hq)
 ·exact I2 hz hg k l c ht s lo hi
theorem zp.za{k:Nat}{a:Option Addr}{n c len:Nat}(h:zp k a n c len)(σ:bd):aO (aq σ []) (.slice a n c)=some (.slice a n c):=by
 rcases h with ⟨rfl,rfl,rfl,_⟩|⟨rfl,_⟩
 ·rfl
 ·exact aT σ k n c
theorem Re.za{k:Nat}{a:Option Addr}{n c len:Nat}(h:Re k a n c len)(σ:bd):aO (aq σ []) (.slice a n c)=some (.slice a n c):=by
 rcases h with h|⟨⟨b,o,s,rfl⟩,rfl,rfl,_⟩
 ·exact h.za σ
 ·rfl
theorem lJ{σ:Nat->Option Nat}{v:Value}{l:List Value}(h:aO σ v=some v)(k:bh σ l=some l):bh σ (v::l)=some (v::l):=by simp only[bh,h,k]
theorem Pd(x:RunT)(l:List RunT):kY 76 x.v.key (l.map fun y=>y.v.key):=⟨fun k' hk'=>by
 obtain⟨y,_,rfl⟩:=List.mem_map.1 hk'
 refine⟨rfl,_,Ps _ _ _ _ _ _,?_⟩
 simp only[Bool.and_eq_true,decide_eq_true_eq,jI]
 constructor
 ·rintro⟨h1,h2,h3⟩
  show Value.agg _=Value.agg _
  rw[h1,h2,h3]
 ·intro h
  have h:ja.key x.v=ja.key y.v:=h
  simp only[ja.key,Value.agg.injEq,Array.mk.injEq,List.cons.injEq,Value.string.injEq,Value.int.injEq,true_and,and_true] at h
  exact h⟩
theorem mem_keys(x:RunT)(l:List RunT):x.v.key∈(l.map fun y=>y.v.key)↔l.any (fun y=>sameKey y x)=true:=by
 rw[List.mem_map,List.any_eq_true]
 constructor
 ·rintro⟨y,h1,h2⟩
  refine⟨y,h1,?_⟩
  have h:ja.key y.v=ja.key x.v:=h2
  simp only[ja.key,Value.agg.injEq,Array.mk.injEq,List.cons.injEq,Value.string.injEq,Value.int.injEq,true_and,and_true] at h
  simp only[sameKey,Bool.and_eq_true,decide_eq_true_eq,jI]
  exact h
 ·rintro⟨y,h1,h2⟩
  refine⟨y,h1,?_⟩
  simp only[sameKey,Bool.and_eq_true,decide_eq_true_eq,jI] at h2
  show Value.agg _=Value.agg _
  rw[h2.1,h2.2.1,h2.2.2]
theorem B6(l:List RunT): ∀k,k∈(l.map fun y=>y.v.key)->az k=true:=fun k hk=>by
 obtain⟨t,_,rfl⟩:=List.mem_map.1 hk
 rfl
theorem Pa(hz:an z zn)(hg:fD Try.prog z gP)(N:aA)(l:List RunT)(hl:l.length<100000)(hN:N.nu=l.length)(hZ:ql z l)(hnet: ∀σ:bd,aE (aq σ []) N.iu=some N.iu)(r:Int × Int)(hr:scan (dp N.ns N.nr l) l.length 0=r):
 ai Try.prog (ah (ag Try.f15) 0) 3 96 (Qq N.nu N.uc 0) [(0,N.iu),(1,df 0 0 0),(2,bB [])] 3 z zn (Al.R (Zd z zn N (if r.2=0 then 0 else 2) r.1 r.2).l):=by
 refine ak hD hg (α:=Nat) 3 96 3 (fun i=>i<=l.length/\scan (dp N.ns N.nr l) (l.length - i) i=r) (fun i=>Qq N.nu N.uc i) (fun i=>[(0,N.iu),(1,df 0 0 0),(2,bB ((l.take i).map fun y=>y.v.key))]) (fun _=>z) (fun _=>zn) (fun i=>l.length - i) _ (fun i hI=>?_) 0 ⟨Nat.zero_le _,hr⟩
 obtain⟨h1,h2⟩:=hI
 by_cases hi:i<l.length
 ·obtain⟨e,he⟩:=hZ.JM.ay (i:=i) (by simpa using hi)
  obtain⟨x,hx⟩:=ej hi
  have hid:=TA (hZ.JM.sz (i:=i) (r:=x.v.row) (s:=x.v.id) (by rw[List.getElem?_map,hx];rfl) (by simp))
  have hlen:=aM (row:=fun r:RunT=>r.v.row) (sz:=8) l fun _=>rfl
  have hrow:aB Try.prog (bC e (l.map fun r=>r.v.row).flatten) 44 (0+i*8)=some (.agg ⟨x.v.row⟩):=bO (r:=x.v.row) (sz:=8) Try.underlying44 rfl rfl hlen (by rw[List.getElem?_map,hx];rfl)
  have hk:=Pd x (l.take i)
  have hps:=B6 (l.take i)
  have hany:=mem_keys x (l.take i)
  have hsl:=(hZ.sl i x hx).za
  have hcalls:=Jd hz hg (6+i) x.calls (hZ.sl i x hx) (hZ.calls i x hx) N.ns 0 3155932800
  have hargs:bh (sig []) [.slice x.v.ca x.v.cn x.v.cc,iv N.ns,I 0,I 3155932800]=some [.slice x.v.ca x.v.cn x.v.cc,iv N.ns,I 0,I 3155932800]:=by
   have:=hsl []
   rw[zE] at this
   exact lJ this rfl
  have hbad:dp N.ns N.nr l i=if bV x.v.id=false then some 12 else if x.v.vB< -1\/x.v.inst<0 then some 2 else if x.v.day<0\/36524<x.v.day then some 11
   else if x.v.jB<0\/(N.nr:Int)<=x.v.jB then some 9 else if (bF x.calls N.ns 0 3155932800).2≠0 then some (bF x.calls N.ns 0 3155932800).2 else if (l.take i).any (fun y=>sameKey y x)=true then some 6 else none:=by
   unfold dp;rw[hx];rfl
  have hc:decide ((i:Int)<(N.nu:Int))=true:=by simp;omega
  have ret: ∀e:Int,dp N.ns N.nr l i=some e->e≠0->Al.R (Zd z zn N (if r.2=0 then 0 else 2) r.1 r.2).l ⟨.ret,[(2,ip 1)],[(1,df 2 i e)],3,z,zn⟩:=fun e h h0=>by
   have:r=((i:Int),e):=by rw[←h2,dq hi h]
   rw[this]
   simp only[if_neg h0]
   exact bJ trivial
  refine t100 (ru z zn i N (bC e (l.map fun r=>r.v.row).flatten) x.v ((l.take i).map fun y=>y.v.key) (bF x.calls N.ns 0 3155932800).1 (bF x.calls N.ns 0 3155932800).2 (aj _ _ _ _ _ _ _ _ _) ⟨fun _=>?_,fun h=>(by rw[hc] at h;cases h)⟩)
  (repeat' first|(with_reducible first|exact rfl|trivial|assumption|apply And.intro|exact hz|exact(by omega:i<N.nu)|exact he|exact hrow|exact hk.no|exact hk.ex|exact hcalls|exact hargs|exact hsl _|exact hnet _|exact dr _ hps rfl|exact aT _ _ _ _|exact aG (by omega))|exact(rfl:Int.ofNat _=_)|exact(rfl:gP _ _=_)|exact hz|exact(by omega:i<N.nu)|exact he|exact hrow|exact hk.no|exact hk.ex|exact hcalls|exact hargs|exact hsl _|exact hnet _|exact dr _ hps rfl|exact aT _ _ _ _|exact aG (by omega)|intro hq)
  all_goals try (have hm:=hk.zc (by with_reducible assumption);rw[hany] at hm)
  all_goals try (have hm:=hk.JP (by with_reducible assumption);rw[hany] at hm)
  all_goals clear hk hps hrow hany he hz hr hnet hZ hargs hsl hlen
  all_goals first
   |(refine ret _ ?_ (by decide);clear ret h2 hcalls;rw[hbad];clear hbad;(repeat' split)<;>first|rfl|(exfalso;simp only[decide_eq_true_eq,decide_eq_false_iff_not,Bool.not_eq_true',Bool.not_eq_false',bne_iff_ne,bne_eq_false_iff_eq,ne_eq] at*;omega)|(exfalso;simp_all;done))
   |(refine ret _ ?_ (by simpa using hq);clear ret h2 hcalls;rw[hbad];clear hbad;(repeat' split)<;>first|rfl|(exfalso;simp only[decide_eq_true_eq,decide_eq_false_iff_not,Bool.not_eq_true',Bool.not_eq_false',bne_iff_ne,bne_eq_false_iff_eq,ne_eq] at*;omega)|(exfalso;simp_all;done))
   |(have hb:dp N.ns N.nr l i=none:=by
      clear ret h2 hcalls
      rw[hbad,if_neg (by simp_all),if_neg (by simp only[decide_eq_false_iff_not] at*;omega),if_neg (by simp only[decide_eq_false_iff_not] at*;omega),if_neg (by simp only[decide_eq_false_iff_not] at*;omega),if_neg (by simp_all),if_neg hm]
     refine⟨i+1,rfl,?_,rfl,rfl,rfl,⟨hi,by rw[←cU hi hb];exact h2⟩,by show l.length - (i+1)<l.length - i;omega⟩
     rw[fO]
     show _=[(0,N.iu),(1,df 0 0 0),(2,bB ((l.take (i+1)).map fun y=>y.v.key))]
     rw[List.take_add_one,hx]
     simp)
 ·have hc:decide ((i:Int)<(N.nu:Int))=false:=by simp;omega
  refine t100 (ru z zn i N ⟨[],0,0,0,true,true,0,true⟩ ⟨0,0,0,⟨#[]⟩,0,true,true,none,0,0⟩ ((l.take i).map fun y=>y.v.key) 0 0 (aj _ _ _ _ _ _ _ _ _) ⟨fun h=>(by rw[hc] at h;cases h),fun _=>?_⟩)
  (repeat' first|(with_reducible first|exact rfl|trivial|assumption|apply And.intro|exact hz|exact hnet _)|exact(rfl:Int.ofNat _=_)|exact(rfl:gP _ _=_)|exact hz|exact hnet _|intro hq)
  rw[dD (by omega)] at h2
  refine dw (bJ ?_)
  rw[←h2]
  exact⟨rfl,rfl,rfl⟩
def cK(ns nr:Nat)(l:List RunT):Int × Int:=if 1024<l.length then (0,5) else scan (dp ns nr l) l.length 0
theorem PG(hz:an z zn)(hg:fD Try.prog z gP)(N:aA)(l:List RunT)(hN:N.nu=l.length)(hZ:ql z l)(hnet: ∀σ:bd,aE (aq σ []) N.iu=some N.iu):
 A1 z zn 15 [.agg ⟨N.uO⟩] [] 0 0 (.agg ⟨[zv (if (cK N.ns N.nr l).2=0 then 0 else 2),zv (cK N.ns N.nr l).1,zv (cK N.ns N.nr l).2]⟩) []:=by
 refine bt hg (fn:=Try.f15) (by kernel_rfl) (by kernel_rfl) hz ⟨by decide,by decide⟩ rfl (fu z zn N (if (cK N.ns N.nr l).2=0 then 0 else 2) (cK N.ns N.nr l).1 (cK N.ns N.nr l).2 _ ?_)
 by_cases h:1024<l.length
 ·have hr:cK N.ns N.nr l=(0,5):=if_pos h
  have hc:decide ((N.nu:Int)>1024)=true:=by simp;omega
  rw[hr]
  refine⟨fun _=>?_,fun h=>(by rw[hc] at h;cases h)⟩
  (repeat' first|(with_reducible first|exact rfl|trivial|assumption|apply And.intro|exact hz|exact q1)|exact(rfl:Int.ofNat _=_)|exact(rfl:gP _ _=_)|exact hz|exact q1|intro hq)
 ·have hr:cK N.ns N.nr l=scan (dp N.ns N.nr l) l.length 0:=if_neg h
  have hc:decide ((N.nu:Int)>1024)=false:=by simp;omega
  have hL:=Pa hz hg N l (by omega) hN hZ hnet (cK N.ns N.nr l) hr.symm
  refine⟨fun h=>(by rw[hc] at h;cases h),fun _=>?_⟩
  (repeat' first|(with_reducible first|exact rfl|trivial|assumption|apply And.intro|exact hz|exact hL|exact hnet _|exact aT _ _ _ _|exact q1)|exact(rfl:Int.ofNat _=_)|exact(rfl:gP _ _=_)|exact hz|exact hL|exact hnet _|exact aT _ _ _ _|exact q1|intro hq)
  all_goals first|(rw[hq.1,hq.2.1,hq.2.2];exact q1)|trace_state
end
theorem zJ{σ:Nat->Option Nat}(x:ja)(h:aO σ (.slice x.ca x.cn x.cc)=some (.slice x.ca x.cn x.cc)):aE σ (ph x)=some (ph x):=by
 have hr:bh σ x.row=some x.row:=by
  unfold ja.row
  repeat (first|exact lJ h rfl|refine lJ rfl ?_)
 simp only[aE,hr]
section
variable{z:T aa}{zn:Nat}
theorem K1(hz:an z zn)(hg:fD Try.prog z gP)(N:aA)(l:List RunT)(hl:l.length<100000)(hN:N.nu=l.length)(hZ:ql z l)(hnet: ∀σ:bd,aE (aq σ []) N.iu=some N.iu)(i:Nat)(x:RunT)(hx:l[i]? =some x)(b:Bool)(hb:b=(l.take i).any fun y=>sameKey y x):
 ai Try.prog (ah (ag Try.f34) 0) 2 79 (Ap i 0) [(0,N.iu),(1,ph x.v)] 2 z zn (Al.R (RU z zn i N x.v b).l):=by
 have hil:i<l.length:=(List.getElem?_eq_some_iff.1 hx).1
 have hsl:=(hZ.sl i x hx).za
 have hrun: ∀σ:bd,aE (aq σ []) (ph x.v)=some (ph x.v):=fun σ=>zJ x.v (hsl σ)
 refine ak hD hg (α:=Nat) 2 79 2 (fun k=>k<=i/\((l.take k).any fun y=>sameKey y x)=false) (fun k=>Ap i k) (fun _=>[(0,N.iu),(1,ph x.v)]) (fun _=>z) (fun _=>zn) (fun k=>i - k) _ (fun k hI=>?_) 0 ⟨Nat.zero_le _,rfl⟩
 obtain⟨h1,h2⟩:=hI
 by_cases hk:k<i
 ·obtain⟨e,he⟩:=hZ.JM.ay (i:=k) (by simp;omega)
  obtain⟨y,hy⟩:=ej (l:=l) (i:=k) (by omega)
  have hlen:=aM (row:=fun r:RunT=>r.v.row) (sz:=8) l fun _=>rfl
  have hrow:aB Try.prog (bC e (l.map fun r=>r.v.row).flatten) 44 (0+k*8)=some (.agg ⟨y.v.row⟩):=bO (r:=y.v.row) (sz:=8) Try.underlying44 rfl rfl hlen (by rw[List.getElem?_map,hy];rfl)
  have hc:decide ((k:Int)<(i:Int))=true:=by simp;omega
  have hsame:sameKey y x=((y.v.id.toList==x.v.id.toList) && ((y.v.day==x.v.day) && (y.v.inst==x.v.inst))):=by
   rw[oT];rfl
  have jP:sameKey y x=false->aj (fun k=>k<=i/\((l.take k).any fun y=>sameKey y x)=false) (fun k=>Ap i k) (fun _=>[(0,N.iu),(1,ph x.v)]) 2 (fun _=>z) (fun _=>zn) (fun k=>i - k) (Al.R (RU z zn i N x.v b).l) k .normal (Ap i (k+1)) [(0,N.iu),(1,ph x.v)] 2 z zn:=fun h=>
   ⟨k+1,rfl,rfl,rfl,rfl,rfl,⟨hk,by rw[jJ hy,h2,h];rfl⟩,by show i - (k+1)<i - k;omega⟩
  refine t100 (XU z zn i k N (bC e (l.map fun r=>r.v.row).flatten) x.v y.v (aj _ _ _ _ _ _ _ _ _) ⟨fun _=>?_,fun h=>(by rw[hc] at h;cases h)⟩)
  (repeat' first|(with_reducible first|exact rfl|trivial|assumption|apply And.intro|exact hz|exact he|exact hrow|exact(by omega:k<N.nu)|exact hnet _|exact hrun _|exact aG (by omega))|exact(rfl:Int.ofNat _=_)|exact(rfl:gP _ _=_)|exact hz|exact he|exact hrow|exact(by omega:k<N.nu)|exact hnet _|exact hrun _|exact aG (by omega)|intro hq)
  all_goals first
   |(refine jP ?_;rw[hsame];simp_all;done)
   |(refine bJ ?_;rw[hb];refine any_true hy hk ?_;rw[hsame];simp_all;done)
 ·have hc:decide ((k:Int)<(i:Int))=false:=by simp;omega
  refine t100 (XU z zn i k N ⟨[],0,0,0,true,true,0,true⟩ x.v x.v (aj _ _ _ _ _ _ _ _ _) ⟨fun h=>(by rw[hc] at h;cases h),fun _=>?_⟩)
  (repeat' first|(with_reducible first|exact rfl|trivial|assumption|apply And.intro|exact hz)|exact(rfl:Int.ofNat _=_)|exact(rfl:gP _ _=_)|exact hz|intro hq)
  refine dw (bJ ?_)
  rw[hb,←h2,show k=i by omega]
theorem PH(hz:an z zn)(hg:fD Try.prog z gP)(N:aA)(l:List RunT)(hl:l.length<100000)(hN:N.nu=l.length)(hZ:ql z l)(hnet: ∀σ:bd,aE (aq σ []) N.iu=some N.iu)(i:Nat)(hi:i<l.length):
 A1 z zn 34 [.agg ⟨N.uO⟩,iv i] [] 0 0 (zv ((dp N.ns N.nr l i).getD 0)) []:=by
 obtain⟨e,he⟩:=hZ.JM.ay (i:=i) (by simpa using hi)
 obtain⟨x,hx⟩:=ej hi
 have hid:=Tz (hZ.JM.sz (i:=i) (r:=x.v.row) (s:=x.v.id) (by rw[List.getElem?_map,hx];rfl) (by simp))
 have hlen:=aM (row:=fun r:RunT=>r.v.row) (sz:=8) l fun _=>rfl
 have hrow:aB Try.prog (bC e (l.map fun r=>r.v.row).flatten) 44 (0+i*8)=some (.agg ⟨x.v.row⟩):=bO (r:=x.v.row) (sz:=8) Try.underlying44 rfl rfl hlen (by rw[List.getElem?_map,hx];rfl)
 have hsl:=(hZ.sl i x hx).za
 have hrun: ∀σ:bd,aE (aq σ []) (ph x.v)=some (ph x.v):=fun σ=>zJ x.v (hsl σ)
 have hcalls:=FL hz hg (6+i) x.calls (hZ.sl i x hx) (hZ.calls i x hx) N.ns 0 3155932800
 have hargs:bh (sig []) [.slice x.v.ca x.v.cn x.v.cc,iv N.ns,I 0,I 3155932800]=some [.slice x.v.ca x.v.cn x.v.cc,iv N.ns,I 0,I 3155932800]:=by
  have:=hsl []
  rw[zE] at this
  exact lJ this rfl
 have hL:=K1 hz hg N l hl hN hZ hnet i x hx _ rfl
 have hbad:dp N.ns N.nr l i=if bV x.v.id=false then some 12 else if x.v.vB< -1\/x.v.inst<0 then some 2 else if x.v.day<0\/36524<x.v.day then some 11
  else if x.v.jB<0\/(N.nr:Int)<=x.v.jB then some 9 else if (bF x.calls N.ns 0 3155932800).2≠0 then some (bF x.calls N.ns 0 3155932800).2 else if (l.take i).any (fun y=>sameKey y x)=true then some 6 else none:=by
  unfold dp;rw[hx];rfl
 generalize ((l.take i).any fun y=>sameKey y x)=b at hL hbad
 generalize (bF x.calls N.ns 0 3155932800).2=ce at hcalls hbad
 refine bt hg (fn:=Try.f34) (by kernel_rfl) (by kernel_rfl) hz ⟨by decide,by decide⟩ rfl (Wv z zn i N (bC e (l.map fun r=>r.v.row).flatten) x.v ce b _ ?_)
 (repeat' first|(with_reducible first|exact rfl|trivial|assumption|apply And.intro|exact hz|exact he|exact hrow|exact(by omega:i<N.nu)|exact hcalls|exact hargs|exact hL|exact hsl _|exact hnet _|exact hrun _)|exact(rfl:Int.ofNat _=_)|exact(rfl:gP _ _=_)|exact hz|exact he|exact hrow|exact(by omega:i<N.nu)|exact hcalls|exact hargs|exact hL|exact hsl _|exact hnet _|exact hrun _|intro hq)
 all_goals clear hL hcalls hrow he hz hnet hZ hargs hsl hlen hrun
 all_goals first
  |(have hv:(dp N.ns N.nr l i).getD 0=12:=by(rw[hbad];clear hbad;(repeat' split)<;>first|rfl|(exfalso;simp only[decide_eq_true_eq,decide_eq_false_iff_not,Bool.not_eq_true',Bool.not_eq_false',Bool.and_eq_true,Bool.and_eq_false_iff,bne_iff_ne,bne_eq_false_iff_eq,ne_eq] at*;omega)|(exfalso;simp_all;done))
    rw[hv];exact q1)
  |(have hv:(dp N.ns N.nr l i).getD 0=2:=by(rw[hbad];clear hbad;(repeat' split)<;>first|rfl|(exfalso;simp only[decide_eq_true_eq,decide_eq_false_iff_not,Bool.not_eq_true',Bool.not_eq_false',Bool.and_eq_true,Bool.and_eq_false_iff,bne_iff_ne,bne_eq_false_iff_eq,ne_eq] at*;omega)|(exfalso;simp_all;done))
    rw[hv];exact q1)
  |(have hv:(dp N.ns N.nr l i).getD 0=11:=by(rw[hbad];clear hbad;(repeat' split)<;>first|rfl|(exfalso;simp only[decide_eq_true_eq,decide_eq_false_iff_not,Bool.not_eq_true',Bool.not_eq_false',Bool.and_eq_true,Bool.and_eq_false_iff,bne_iff_ne,bne_eq_false_iff_eq,ne_eq] at*;omega)|(exfalso;simp_all;done))
    rw[hv];exact q1)
  |(have hv:(dp N.ns N.nr l i).getD 0=9:=by(rw[hbad];clear hbad;(repeat' split)<;>first|rfl|(exfalso;simp only[decide_eq_true_eq,decide_eq_false_iff_not,Bool.not_eq_true',Bool.not_eq_false',Bool.and_eq_true,Bool.and_eq_false_iff,bne_iff_ne,bne_eq_false_iff_eq,ne_eq] at*;omega)|(exfalso;simp_all;done))
    rw[hv];exact q1)
  |(have hv:(dp N.ns N.nr l i).getD 0=6:=by(rw[hbad];clear hbad;(repeat' split)<;>first|rfl|(exfalso;simp only[decide_eq_true_eq,decide_eq_false_iff_not,Bool.not_eq_true',Bool.not_eq_false',Bool.and_eq_true,Bool.and_eq_false_iff,bne_iff_ne,bne_eq_false_iff_eq,ne_eq] at*;omega)|(exfalso;simp_all;done))
    rw[hv];exact q1)
  |(have hv:(dp N.ns N.nr l i).getD 0=0:=by(rw[hbad];clear hbad;(repeat' split)<;>first|rfl|(exfalso;simp only[decide_eq_true_eq,decide_eq_false_iff_not,Bool.not_eq_true',Bool.not_eq_false',Bool.and_eq_true,Bool.and_eq_false_iff,bne_iff_ne,bne_eq_false_iff_eq,ne_eq] at*;omega)|(exfalso;simp_all;done))
    rw[hv];exact q1)
  |(have hv:(dp N.ns N.nr l i).getD 0=ce:=by(rw[hbad];clear hbad;(repeat' split)<;>first|rfl|(exfalso;simp only[decide_eq_true_eq,decide_eq_false_iff_not,Bool.not_eq_true',Bool.not_eq_false',Bool.and_eq_true,Bool.and_eq_false_iff,bne_iff_ne,bne_eq_false_iff_eq,ne_eq] at*;omega)|(exfalso;simp_all;done))
    rw[hv];exact q1)
end
end Go.Proofs.Nw
namespace Go.Proofs.Nw
open Go Go.AV Go.jm
set_option maxRecDepth 100000
def stays(l:List aC):List (Int × Int):=(l.filter (·.stay)).map fun x=>(x.from_,x.ax)
def CG(x y:aC):Bool:=y.stay && ((y.from_==x.from_)||(y.ax==x.ax))
def ie(U:List RunT)(f:Int):Nat:=match U[f.toNat]? with|some r=>r.calls.length|none=>0
def kJ(U:List RunT)(f c:Int):Int:=match U[f.toNat]? with|some r=>(match r.calls[c.toNat]? with|some x=>x.stop|none=>0)|none=>0
def hX(U:List RunT)(L:List aC)(i:Nat)(x:aC):Int:=
 if x.from_<0\/(U.length:Int)<=x.from_\/x.ax<0\/(U.length:Int)<=x.ax\/x.from_=x.ax then 9
 else if x.fc<0\/(ie U x.from_:Int)<=x.fc\/x.tc<0\/(ie U x.ax:Int)<=x.tc then 9
 else if kJ U x.from_ x.fc≠kJ U x.ax x.tc then 13
 else if x.stay=true/\(x.fc+1≠ie U x.from_\/x.tc≠0) then 19
 else if x.stay=true/\(L.take i).any (CG x)=true then 19
 else if x.stay=true/\dE (gI (stays (L.take i))) x.from_ (i+1) x.ax=true then 19
 else if (L.take i).any (mh x)=true then 6 else 0
def eV(U:List RunT)(L:List aC)(i:Nat):Option Int:=match L[i]? with
 |some x=>if hX U L i x=0 then none else some (hX U L i x)
 |none=>none
def bK(U:List RunT)(L:List aC):Int × Int:=if 1024<L.length then (0,5) else scan (eV U L) L.length 0
theorem ly(l:List aC)(x:aC):stays (l++[x])=if x.stay=true then stays l++[(x.from_,x.ax)] else stays l:=by
 unfold stays
 rw[List.filter_append]
 cases h:x.stay<;>simp[h]
theorem Fl{l:List (Int × Int)}{a:Int}:nP l a=none↔ ∀p∈l,p.1≠a:=by
 induction l with
 |nil=>simp[nP]
 |cons p l ih=>
  obtain⟨x,b⟩:=p
  simp only[nP]
  by_cases h:a=x
  ·simp[h]
  ·simp only[if_neg h,ih,List.mem_cons,forall_eq_or_imp]
   exact⟨fun k=>⟨fun e=>h e.symm,k⟩,fun k=>k.2⟩
theorem Ej(l:List aC)(x:aC):l.any (CG x)=false↔nP (stays l) x.from_=none/\x.ax ∉ (stays l).map (·.2):=by
 rw[Fl]
 unfold stays
 simp only[List.any_eq_false,CG,Bool.and_eq_true,Bool.or_eq_true,beq_iff_eq,List.mem_map,List.mem_filter,not_and,not_or,not_exists,forall_exists_index,and_imp]
 constructor
 ·intro h
  exact⟨fun p y h1 h2 h3 e=>(h y h1 h2).1 (by subst h3;exact e),fun p y h1 h2 h3 e=>(h y h1 h2).2 (by subst h3;exact e)⟩
 ·rintro⟨h1,h2⟩ y hy hs
  exact⟨fun e=>h1 _ y hy hs rfl e,fun e=>h2 _ y hy hs rfl e⟩
structure yZ(l:List aC):Prop where
 eq:nP (stays l)=gI (stays l)
 dep: ∀f,∃d,vX (gI (stays l)) f d
 pos: ∀p∈stays l,0<=p.1
theorem Hb:yZ []:=⟨rfl,fun f=>⟨0, .nil rfl⟩,fun p hp=>by cases hp⟩
theorem yZ.neg{l:List aC}(h:yZ l):gI (stays l) (-1)=none:=by
 cases hc:gI (stays l) (-1) with
 |none=>rfl
 |some a=>have:=h.pos _ (wu hc);simp at this
theorem EA(l:List aC):(stays l).length<=l.length:=by
 unfold stays;rw[List.length_map];exact List.length_filter_le _ _
theorem yZ.leads{l:List aC}(h:yZ l){a b:Int}(hb:0<=b){n:Nat}(hn:l.length<=n):dE (gI (stays l)) b (n+1) a=true↔jM (gI (stays l)) b a:=by
 obtain⟨d,hd⟩:=h.dep a
 refine Cp hb h.neg hd _ ?_
 have:=hd.LA ((stays l).map (·.1)) fun x hx=>KC hx
 rw[List.length_map] at this
 have:=EA l
 omega
theorem yZ.snoc{l:List aC}(h:yZ l){U:List RunT}{L:List aC}{i:Nat}{x:aC}(hl:l=L.take i)(hi:i<=L.length)(he:hX U L i x=0):yZ (l++[x]):=by
 cases hs:x.stay with
 |false=>
  have e:stays (l++[x])=stays l:=by rw[ly,hs];rfl
  exact⟨by rw[e];exact h.eq,by rw[e];exact h.dep,by rw[e];exact h.pos⟩
 |true=>
  have e:stays (l++[x])=stays l++[(x.from_,x.ax)]:=by rw[ly,hs];rfl
  unfold hX at he
  split at he
  ·cases he
  rename_i c1
  split at he
  ·cases he
  rename_i c2
  split at he
  ·cases he
  split at he
  ·cases he
  split at he
  ·cases he
  rename_i c5
  split at he
  ·cases he
  rename_i c6
  rw[hs] at c5 c6
  have c5:(L.take i).any (CG x)=false:=by simpa using c5
  rw[←hl] at c5 c6
  obtain⟨h1,h2⟩:=(Ej l x).1 c5
  have hn:gI (stays l) x.from_=none:=by rw[←h.eq];exact h1
  have hlen:l.length<=i:=by rw[hl,List.length_take];omega
  have hnl: ¬jM (gI (stays l)) x.from_ x.ax:=fun k=>c6 ⟨rfl,(h.leads (by omega) hlen).2 k⟩
  refine⟨?_,?_,?_⟩
  ·rw[e,Fk _ _ _ h1,nB,h.eq]
  ·rw[e,nB]
   exact LZ h.dep hn (by omega) hnl
  ·rw[e]
   intro p hp
   rcases List.mem_append.1 hp with q|q
   ·exact h.pos p q
   ·simp at q;subst q;simp;omega
theorem wq(U:List RunT)(L:List aC): ∀k,k<=L.length->(∀j,j<k->eV U L j=none)->yZ (L.take k)
 |0,_,_=>Hb
 |k+1,hk,h=>by
  obtain⟨x,hx⟩:=ej (l:=L) (i:=k) (by omega)
  rw[List.take_add_one,hx]
  refine(wq U L k (by omega) fun j hj=>h j (by omega)).snoc (U:=U) rfl (by omega) ?_
  have:=h k (by omega)
  unfold eV at this
  rw[hx] at this
  simpa using this
end Go.Proofs.Nw
namespace Go.Proofs.Nw
open Go Go.AV Go.jm
set_option maxHeartbeats 4000000
set_option maxRecDepth 100000
def BC(L:List aC)(k:Nat)(f:Int):Int:=(gI (stays (L.take k)) f).getD (-1)
theorem Hf{L:List aC}{k:Nat}{y:aC}(hy:L[k]? =some y)(f:Int):BC L (k+1) f=if y.stay=true/\y.from_=f then y.ax else BC L k f:=by
 unfold BC
 rw[List.take_add_one,hy]
 show(gI (stays (L.take k++[y])) f).getD (-1)=_
 rw[ly]
 cases hs:y.stay with
 |false=>simp
 |true=>
  simp only[if_true,nB,ins]
  by_cases h:f=y.from_
  ·simp[h]
  ·simp[h,Ne.symm h]
section
variable{z:T aa}{zn:Nat}
theorem Hz(hz:an z zn)(hg:fD Try.prog z gP)(N:aA)(L:List aC)(hl:L.length<100000)(hN:N.nl=L.length)(hL:cy z 0 (L.map aC.row))(hnet: ∀σ:bd,aE (aq σ []) (N.cx N.u0 N.l1)=some (N.cx N.u0 N.l1))(i j:Nat)(hi:i<=L.length)(f tt:Int):
 ai Try.prog (ah (ah (ag Try.f47) 0) 0) 1 48 (rE i f tt j (-1) 0) [(0,N.cx N.u0 N.l1)] 1 z zn (Al.R (Nb z zn N i f tt j (BC L i f) (-1)).l):=by
 refine ak hD hg (α:=Nat) 1 48 1 (fun k=>k<=i) (fun k=>rE i f tt j (BC L k f) k) (fun _=>[(0,N.cx N.u0 N.l1)]) (fun _=>z) (fun _=>zn) (fun k=>i - k) _ (fun k hk=>?_) 0 (Nat.zero_le _)
 by_cases h:k<i
 ·obtain⟨e,he⟩:=hL.ay (i:=k) (by simp;omega)
  obtain⟨y,hy⟩:=ej (l:=L) (i:=k) (by omega)
  have hlen:=aM (row:=aC.row) (sz:=5) L fun _=>rfl
  have hrow:(L.map aC.row)[k]? =some y.row:=by rw[List.getElem?_map,hy];rfl
  have r4:aB Try.prog (bC e (L.map aC.row).flatten) 4 (0+k*5+4)=some (.bool y.stay):=bu Try.underlying4 rfl hlen hrow rfl
  have r0:aB Try.prog (bC e (L.map aC.row).flatten) 3 (0+k*5+0)=some (zv y.from_):=bu Try.underlying3 rfl hlen hrow rfl
  have r2:aB Try.prog (bC e (L.map aC.row).flatten) 3 (0+k*5+2)=some (zv y.ax):=bu Try.underlying3 rfl hlen hrow rfl
  have hn:=Hf hy f
  have hc:decide ((k:Int)<(i:Int))=true:=by simp;omega
  have jP: ∀m:Int,BC L (k+1) f=m->aj (fun k=>k<=i) (fun k=>rE i f tt j (BC L k f) k) (fun _=>[(0,N.cx N.u0 N.l1)]) 1 (fun _=>z) (fun _=>zn) (fun k=>i - k) (Al.R (Nb z zn N i f tt j (BC L i f) (-1)).l) k .normal (rE i f tt j m (k+1)) [(0,N.cx N.u0 N.l1)] 1 z zn:=fun m hm=>
   ⟨k+1,by rw[←hm],rfl,rfl,rfl,rfl,(by omega:k+1<=i),by show i - (k+1)<i - k;omega⟩
  refine t100 (XY z zn i k j N (bC e (L.map aC.row).flatten) y f tt (BC L k f) (aj _ _ _ _ _ _ _ _ _) ⟨fun _=>?_,fun h=>(by rw[hc] at h;cases h)⟩)
  (repeat' first|(with_reducible first|exact rfl|trivial|assumption|apply And.intro|exact hz|exact he|exact r4|exact r0|exact r2|exact(by omega:k<N.nl)|exact hnet _|exact aG (by omega))|exact(rfl:Int.ofNat _=_)|exact(rfl:gP _ _=_)|exact hz|exact he|exact r4|exact r0|exact r2|exact(by omega:k<N.nl)|exact hnet _|exact aG (by omega)|intro hq)
  all_goals (refine jP _ ?_;rw[hn];simp_all;done)
 ·have hc:decide ((k:Int)<(i:Int))=false:=by simp;omega
  refine t100 (XY z zn i k j N ⟨[],0,0,0,true,true,0,true⟩ ⟨0,0,0,0,true⟩ f tt (BC L k f) (aj _ _ _ _ _ _ _ _ _) ⟨fun h=>(by rw[hc] at h;cases h),fun _=>?_⟩)
  (repeat' first|(with_reducible first|exact rfl|trivial|assumption|apply And.intro|exact hz|exact hnet _)|exact(rfl:Int.ofNat _=_)|exact(rfl:gP _ _=_)|exact hz|exact hnet _|intro hq)
  rw[show k=i by omega]
  exact bJ trivial
theorem HX(nx:Int->Option Int)(t:Int): ∀(n:Nat)(f:Int),dE nx t (n+1) f=if (nx f).getD (-1)=t then true else dE nx t n ((nx f).getD (-1)):=fun _ _=>rfl
theorem K0(hz:an z zn)(hg:fD Try.prog z gP)(N:aA)(L:List aC)(hl:L.length<100000)(hN:N.nl=L.length)(hL:cy z 0 (L.map aC.row))(hnet: ∀σ:bd,aE (aq σ []) (N.cx N.u0 N.l1)=some (N.cx N.u0 N.l1))(i:Nat)(hi:i<=L.length)(f tt:Int)(b:Bool)(hb:b=dE (gI (stays (L.take i))) tt (i+1) f):
 ai Try.prog (ah (ag Try.f47) 0) 1 48 (EW i f tt 0) [(0,N.cx N.u0 N.l1)] 1 z zn (Al.R (VT z zn N i f tt b).l):=by
 refine ak hD hg (α:=Nat × Int) 1 48 1 (fun x=>x.1<=i+1/\b=dE (gI (stays (L.take i))) tt (i+1 - x.1) x.2) (fun x=>EW i x.2 tt x.1) (fun _=>[(0,N.cx N.u0 N.l1)]) (fun _=>z) (fun _=>zn) (fun x=>i+1 - x.1) _ (fun x hx=>?_) (0,f) ⟨Nat.zero_le _,hb⟩
 obtain⟨j,f⟩:=x
 obtain⟨h1,h2⟩:=hx
 simp only at h1 h2
 by_cases h:j<=i
 ·have hc:decide ((j:Int)<=(i:Int))=true:=by simp;omega
  have hin:=Hz hz hg N L hl hN hL hnet i j hi f tt
  rw[show i+1 - j=(i - j)+1 by omega,HX] at h2
  refine t100 (XZ z zn i j N (BC L i f) f tt (aj _ _ _ _ _ _ _ _ _) ⟨fun _=>?_,fun h=>(by rw[hc] at h;cases h)⟩)
  (repeat' first|(with_reducible first|exact rfl|trivial|assumption|apply And.intro|exact hz|exact hin|exact hnet _|exact aG (by omega))|exact(rfl:Int.ofNat _=_)|exact(rfl:gP _ _=_)|exact hz|exact hin|exact hnet _|exact aG (by omega)|intro hq)
  all_goals first
   |(refine bJ ?_
     have e:BC L i f=tt:=by simp_all
     unfold BC at e
     rw[h2,if_pos e];done)
   |(have e:BC L i f≠tt:=by simp_all
     unfold BC at e
     rw[if_neg e] at h2
     exact⟨(j+1,BC L i f),rfl,rfl,rfl,rfl,rfl,⟨by show j+1<=i+1;omega,by show b=dE _ _ (i+1 - (j+1)) _;rw[h2,show i+1 - (j+1)=i - j by omega];rfl⟩,by show i+1 - (j+1)<i+1 - j;omega⟩)
 ·have hc:decide ((j:Int)<=(i:Int))=false:=by simp;omega
  refine t100 (XZ z zn i j N 0 f tt (aj _ _ _ _ _ _ _ _ _) ⟨fun h=>(by rw[hc] at h;cases h),fun _=>?_⟩)
  (repeat' first|(with_reducible first|exact rfl|trivial|assumption|apply And.intro|exact hz|exact hnet _)|exact(rfl:Int.ofNat _=_)|exact(rfl:gP _ _=_)|exact hz|exact hnet _|intro hq)
  refine dw (bJ ?_)
  rw[h2,show i+1 - j=0 by omega];rfl
theorem IZ(hz:an z zn)(hg:fD Try.prog z gP)(N:aA)(L:List aC)(hl:L.length<100000)(hN:N.nl=L.length)(hL:cy z 0 (L.map aC.row))(hnet: ∀σ:bd,aE (aq σ []) (N.cx N.u0 N.l1)=some (N.cx N.u0 N.l1))(i:Nat)(hi:i<=L.length)(f tt:Int):
 A1 z zn 47 [.agg ⟨N.ey N.u0 N.l1⟩,iv i,zv f,zv tt] [] 0 0 (.bool (dE (gI (stays (L.take i))) tt (i+1) f)) []:=by
 have h:=K0 hz hg N L hl hN hL hnet i hi f tt _ rfl
 refine bt hg (fn:=Try.f47) (by kernel_rfl) (by kernel_rfl) hz ⟨by decide,by decide⟩ rfl (frl z zn i N f tt (dE (gI (stays (L.take i))) tt (i+1) f) _ ?_)
 (repeat' first|(with_reducible first|exact rfl|trivial|assumption|apply And.intro|exact hz|exact h|exact hnet _)|exact(rfl:Int.ofNat _=_)|exact(rfl:gP _ _=_)|exact hz|exact h|exact hnet _|intro hq)
 all_goals first
  |(have e:dE (gI (stays (L.take i))) tt (i+1) f=true:=by assumption
    rw[e];exact q1)
  |(have e:dE (gI (stays (L.take i))) tt (i+1) f=false:=by assumption
    rw[e];exact q1)
end
theorem vZ{n:Nat}(h:n<1000000000):Value.int .i64 (IntKind.i64.wrap ((n:Int) - 1))=Value.int .i64 ((n:Int) - 1):=by
 have:IntKind.i64.wrap ((n:Int) - 1)=(n:Int) - 1:=by
  simp only[IntKind.wrap,IntKind.signed,IntKind.bits]
  simp
  omega
 rw[this]
theorem BA{z:T aa}{zn fC:Nat}{v v':Value}{zo:bX}(h:v'=v):Q1 z zn fC v zo v' zo fC z zn:=by subst h;exact q1
structure nh(U:List RunT):Prop where
 len:U.length<=1024
 calls: ∀r,r∈U->2<=r.calls.length/\r.calls.length<=32
section
variable{z:T aa}{zn:Nat}
theorem xM{U:List RunT}(hZ:ql z U)(hU:nh U)(e0:TypeId)(y:Int): ∃(ca:Nat)(kb:aZ),0<=y->y<U.length->aB Try.prog (bC e0 (U.map fun r=>r.v.row).flatten) 42 (0+y.toNat*8+7)=some (tb (6+y.toNat) (ie U y) ca)/\z.get (6+y.toNat)=some (.ay kb)
 /\ ∀c:Int,0<=c->c<ie U y->aB Try.prog kb 3 (0+c.toNat*5+0)=some (zv (kJ U y c)):=by
 by_cases h:0<=y/\y<U.length
 ·obtain⟨r,hr⟩:=ej (l:=U) (i:=y.toNat) (by omega)
  have hc:=hU.calls r (List.mem_of_getElem? hr)
  have hu:ie U y=r.calls.length:=by unfold ie;rw[hr]
  obtain⟨e,he⟩:=(hZ.calls _ r hr).ay (i:=0) (by simp;omega)
  have hs:r.v.ca=some ⟨256*(6+y.toNat)+510,0,none⟩/\r.v.cn=r.calls.length:=by
   rcases hZ.sl _ r hr with (⟨_,_,_,h4⟩|h)|⟨_,_,_,h4⟩
   ·omega
   ·exact h
   ·omega
  refine⟨r.v.cc,_,fun _ _=>⟨?_,he,fun c h0 h1=>?_⟩⟩
  ·have hlen:=aM (row:=fun r:RunT=>r.v.row) (sz:=8) U fun _=>rfl
   have:=bu (P:=Try.prog) (e:=e0) (t:=42) (k:=y.toNat) (j:=7) (r:=r.v.row) (v:= .slice r.v.ca r.v.cn r.v.cc) Try.underlying42 rfl hlen (by rw[List.getElem?_map,hr];rfl) rfl
   rw[this,hs.1,hs.2,hu]
  ·obtain⟨x,hx⟩:=ej (l:=r.calls) (i:=c.toNat) (by omega)
   have hst:kJ U y c=x.stop:=by unfold kJ;rw[hr];simp only;rw[hx]
   rw[hst]
   exact bu Try.underlying3 rfl (aM (row:=bk.row) (sz:=5) r.calls fun _=>rfl) (by rw[List.getElem?_map,hx];rfl) rfl
 ·exact⟨0,⟨[],0,0,0,true,true,0,true⟩,fun h1 h2=>(h ⟨h1,h2⟩).elim⟩
theorem iF{σ:Nat->Option Nat}(x:aC):aE σ (DL x)=some (DL x):=rfl
theorem HI(hz:an z zn)(hg:fD Try.prog z gP)(N:aA)(L:List aC)(hl:L.length<100000)(hN:N.nl=L.length)(hL:cy z 0 (L.map aC.row))(hnet: ∀σ:bd,aE (aq σ []) (N.cx N.u1 N.l1)=some (N.cx N.u1 N.l1))(i:Nat)(hi:i<=L.length)(x:aC)(b:Bool)(hb:b=(x.stay && (L.take i).any (CG x))):
 ai Try.prog (ah (ag Try.f35) 0) 2 177 (ye i 0) [(0,N.cx N.u1 N.l1),(1,DL x)] 2 z zn (Al.R (Si z zn N i x b).l):=by
 refine ak hD hg (α:=Nat) 2 177 2 (fun k=>k<=i/\(x.stay && (L.take k).any (CG x))=false) (fun k=>ye i k) (fun _=>[(0,N.cx N.u1 N.l1),(1,DL x)]) (fun _=>z) (fun _=>zn) (fun k=>i - k) _ (fun k hI=>?_) 0 ⟨Nat.zero_le _,by simp⟩
 obtain⟨h1,h2⟩:=hI
 by_cases hk:k<i
 ·obtain⟨e,he⟩:=hL.ay (i:=k) (by simp;omega)
  obtain⟨y,hy⟩:=ej (l:=L) (i:=k) (by omega)
  have hlen:=aM (row:=aC.row) (sz:=5) L fun _=>rfl
  have hrow:aB Try.prog (bC e (L.map aC.row).flatten) 52 (0+k*5)=some (.agg ⟨y.row⟩):=bO (r:=y.row) (sz:=5) Try.underlying52 rfl rfl hlen (by rw[List.getElem?_map,hy];rfl)
  have hc:decide ((k:Int)<(i:Int))=true:=by simp;omega
  have jP:(x.stay && CG x y)=false->aj (fun k=>k<=i/\(x.stay && (L.take k).any (CG x))=false) (fun k=>ye i k) (fun _=>[(0,N.cx N.u1 N.l1),(1,DL x)]) 2 (fun _=>z) (fun _=>zn) (fun k=>i - k) (Al.R (Si z zn N i x b).l) k .normal (ye i (k+1)) [(0,N.cx N.u1 N.l1),(1,DL x)] 2 z zn:=fun h=>
   ⟨k+1,rfl,rfl,rfl,rfl,rfl,⟨hk,by rw[jJ hy];cases hs:x.stay<;>simp_all⟩,by show i - (k+1)<i - k;omega⟩
  refine t100 (Rw z zn i k N (bC e (L.map aC.row).flatten) x y (aj _ _ _ _ _ _ _ _ _) ⟨fun _=>?_,fun h=>(by rw[hc] at h;cases h)⟩)
  (repeat' first|(with_reducible first|exact rfl|trivial|assumption|apply And.intro|exact hz|exact he|exact hrow|exact(by omega:k<N.nl)|exact hnet _|exact iF x|exact aG (by omega))|exact(rfl:Int.ofNat _=_)|exact(rfl:gP _ _=_)|exact hz|exact he|exact hrow|exact(by omega:k<N.nl)|exact hnet _|exact iF x|exact aG (by omega)|intro hq)
  all_goals clear hnet hL hrow he hz hlen
  all_goals first
   |(refine jP ?_;unfold CG;simp_all;done)
   |(refine bJ ?_;rw[hb]
     have:(L.take i).any (CG x)=true:=any_true hy hk (by unfold CG;simp_all)
     rw[this];simp_all;done)
 ·have hc:decide ((k:Int)<(i:Int))=false:=by simp;omega
  refine t100 (Rw z zn i k N ⟨[],0,0,0,true,true,0,true⟩ x x (aj _ _ _ _ _ _ _ _ _) ⟨fun h=>(by rw[hc] at h;cases h),fun _=>?_⟩)
  (repeat' first|(with_reducible first|exact rfl|trivial|assumption|apply And.intro|exact hz|exact hnet _|exact iF x)|exact(rfl:Int.ofNat _=_)|exact(rfl:gP _ _=_)|exact hz|exact hnet _|exact iF x|intro hq)
  refine dw (bJ ?_)
  rw[hb,←h2,show k=i by omega]
theorem HH(hz:an z zn)(hg:fD Try.prog z gP)(N:aA)(L:List aC)(hl:L.length<100000)(hN:N.nl=L.length)(hL:cy z 0 (L.map aC.row))(hnet: ∀σ:bd,aE (aq σ []) (N.cx N.u1 N.l1)=some (N.cx N.u1 N.l1))(i:Nat)(hi:i<=L.length)(x:aC)(b:Bool)(hb:b=(L.take i).any (mh x)):
 ai Try.prog (ah (ag Try.f35) 1) 2 177 (As i 0) [(0,N.cx N.u1 N.l1),(1,DL x)] 2 z zn (Al.R (Sh z zn N i x b).l):=by
 refine ak hD hg (α:=Nat) 2 177 2 (fun k=>k<=i/\(L.take k).any (mh x)=false) (fun k=>As i k) (fun _=>[(0,N.cx N.u1 N.l1),(1,DL x)]) (fun _=>z) (fun _=>zn) (fun k=>i - k) _ (fun k hI=>?_) 0 ⟨Nat.zero_le _,by simp⟩
 obtain⟨h1,h2⟩:=hI
 by_cases hk:k<i
 ·obtain⟨e,he⟩:=hL.ay (i:=k) (by simp;omega)
  obtain⟨y,hy⟩:=ej (l:=L) (i:=k) (by omega)
  have hlen:=aM (row:=aC.row) (sz:=5) L fun _=>rfl
  have hrow:aB Try.prog (bC e (L.map aC.row).flatten) 52 (0+k*5)=some (.agg ⟨y.row⟩):=bO (r:=y.row) (sz:=5) Try.underlying52 rfl rfl hlen (by rw[List.getElem?_map,hy];rfl)
  have hc:decide ((k:Int)<(i:Int))=true:=by simp;omega
  have jP:mh x y=false->aj (fun k=>k<=i/\(L.take k).any (mh x)=false) (fun k=>As i k) (fun _=>[(0,N.cx N.u1 N.l1),(1,DL x)]) 2 (fun _=>z) (fun _=>zn) (fun k=>i - k) (Al.R (Sh z zn N i x b).l) k .normal (As i (k+1)) [(0,N.cx N.u1 N.l1),(1,DL x)] 2 z zn:=fun h=>
   ⟨k+1,rfl,rfl,rfl,rfl,rfl,⟨hk,by rw[jJ hy,h2,h];rfl⟩,by show i - (k+1)<i - k;omega⟩
  refine t100 (Rv z zn i k N (bC e (L.map aC.row).flatten) x y (aj _ _ _ _ _ _ _ _ _) ⟨fun _=>?_,fun h=>(by rw[hc] at h;cases h)⟩)
  (repeat' first|(with_reducible first|exact rfl|trivial|assumption|apply And.intro|exact hz|exact he|exact hrow|exact(by omega:k<N.nl)|exact hnet _|exact iF x|exact aG (by omega))|exact(rfl:Int.ofNat _=_)|exact(rfl:gP _ _=_)|exact hz|exact he|exact hrow|exact(by omega:k<N.nl)|exact hnet _|exact iF x|exact aG (by omega)|intro hq)
  all_goals clear hnet hL hrow he hz hlen
  all_goals first
   |(refine jP ?_;unfold mh;simp_all;done)
   |(refine bJ ?_;rw[hb]
     exact any_true hy hk (by unfold mh;simp_all))
 ·have hc:decide ((k:Int)<(i:Int))=false:=by simp;omega
  refine t100 (Rv z zn i k N ⟨[],0,0,0,true,true,0,true⟩ x x (aj _ _ _ _ _ _ _ _ _) ⟨fun h=>(by rw[hc] at h;cases h),fun _=>?_⟩)
  (repeat' first|(with_reducible first|exact rfl|trivial|assumption|apply And.intro|exact hz|exact hnet _|exact iF x)|exact(rfl:Int.ofNat _=_)|exact(rfl:gP _ _=_)|exact hz|exact hnet _|exact iF x|intro hq)
  refine dw (bJ ?_)
  rw[hb,←h2,show k=i by omega]
theorem Mg(hz:an z zn)(hg:fD Try.prog z gP)(N:aA)(U:List RunT)(L:List aC)(hl:L.length<100000)(hNu:N.nu=U.length)(hN:N.nl=L.length)(hL:cy z 0 (L.map aC.row))(hZ:ql z U)(hU:nh U)(hnet: ∀σ:bd,aE (aq σ []) (N.cx N.u1 N.l1)=some (N.cx N.u1 N.l1))(hv:bh (sig []) [.agg ⟨N.ey N.u1 N.l1⟩]=some [.agg ⟨N.ey N.u1 N.l1⟩])(i:Nat)(x:aC)(hx:L[i]? =some x):
 A1 z zn 35 [.agg ⟨N.ey N.u1 N.l1⟩,iv i] [] 0 0 (zv (hX U L i x)) []:=by
 have hi:i<L.length:=(List.getElem?_eq_some_iff.1 hx).1
 obtain⟨el,hel⟩:=hL.ay (i:=i) (by simp;omega)
 have hlen:=aM (row:=aC.row) (sz:=5) L fun _=>rfl
 have hrow:aB Try.prog (bC el (L.map aC.row).flatten) 52 (0+i*5)=some (.agg ⟨x.row⟩):=bO (r:=x.row) (sz:=5) Try.underlying52 rfl rfl hlen (by rw[List.getElem?_map,hx];rfl)
 have hu0: ∃eu:TypeId,0<U.length->z.get 1=some (.ay (bC eu (U.map fun r=>r.v.row).flatten)):=by
  by_cases h:0<U.length
  ·obtain⟨e,he⟩:=hZ.JM.ay (i:=0) (by simpa using h)
   exact⟨e,fun _=>he⟩
  ·exact⟨0,fun k=>(h k).elim⟩
 obtain⟨eu,heu⟩:=hu0
 obtain⟨ca,ka,hA⟩:=xM hZ hU eu x.from_
 obtain⟨cb,kb,hB⟩:=xM hZ hU eu x.ax
 have hla:ie U x.from_<1000000000:=by
  unfold ie
  split
  ·rename_i r hr;have:=(hU.calls r (List.mem_of_getElem? hr)).2;omega
  ·omega
 have hlb:ie U x.ax<1000000000:=by
  unfold ie
  split
  ·rename_i r hr;have:=(hU.calls r (List.mem_of_getElem? hr)).2;omega
  ·omega
 have hl3:=IZ hz hg {N with ua:=some ⟨766,0,none⟩} L hl hN hL hnet i (by omega) x.ax x.from_
 have hla3:bh (sig []) [.agg ⟨N.ey N.u1 N.l1⟩,iv i,zv x.ax,zv x.from_]=some [.agg ⟨N.ey N.u1 N.l1⟩,iv i,zv x.ax,zv x.from_]:=by
  have hv2:aO (sig []) (.agg ⟨N.ey N.u1 N.l1⟩)=some (.agg ⟨N.ey N.u1 N.l1⟩):=by
   simp only[bh] at hv
   split at hv
   ·rename_i u hu;simp only[Option.some.injEq,List.cons.injEq,and_true] at hv;rw[hu,hv]
   ·cases hv
  exact lJ hv2 rfl
 have ha:=HI hz hg N L hl hN hL hnet i (by omega) x _ rfl
 have hb:=HH hz hg N L hl hN hL hnet i (by omega) x _ rfl
 have hlk:hX U L i x=if x.from_<0\/(U.length:Int)<=x.from_\/x.ax<0\/(U.length:Int)<=x.ax\/x.from_=x.ax then 9
  else if x.fc<0\/(ie U x.from_:Int)<=x.fc\/x.tc<0\/(ie U x.ax:Int)<=x.tc then 9
  else if kJ U x.from_ x.fc≠kJ U x.ax x.tc then 13
  else if x.stay=true/\(x.fc+1≠ie U x.from_\/x.tc≠0) then 19
  else if (x.stay && (L.take i).any (CG x))=true then 19
  else if x.stay=true/\dE (gI (stays (L.take i))) x.from_ (i+1) x.ax=true then 19
  else if (L.take i).any (mh x)=true then 6 else 0:=by
  unfold hX;simp only[Bool.and_eq_true]
 generalize (x.stay && (L.take i).any (CG x))=va at ha hlk
 generalize ((L.take i).any (mh x))=vb at hb hlk
 generalize dE (gI (stays (L.take i))) x.from_ (i+1) x.ax=lb at hl3 hlk
 have heu':0<N.nu->z.get 1=some (.ay (bC eu (U.map fun r=>r.v.row).flatten)):=fun h=>heu (by omega)
 have hA1: ∀h0:0<=x.from_,x.from_<N.nu->_:=fun h0 h1=>hA h0 (by omega)
 have hB1: ∀h0:0<=x.ax,x.ax<N.nu->_:=fun h0 h1=>hB h0 (by omega)
 rw[←hNu] at hlk
 refine bt hg (fn:=Try.f35) (by kernel_rfl) (by kernel_rfl) hz ⟨by decide,by decide⟩ rfl (flk z zn i N (bC el (L.map aC.row).flatten) (bC eu (U.map fun r=>r.v.row).flatten) ka kb x x.from_.toNat x.ax.toNat x.fc.toNat x.tc.toNat (ie U x.from_) ca (ie U x.ax) cb (kJ U x.from_ x.fc) (kJ U x.ax x.tc) lb va vb _ ?_)
 have hnu:N.nu<1000000000:=by have:=hU.len;omega
 (repeat' first|(with_reducible first|exact rfl|trivial|assumption|apply And.intro|exact hz|exact(by omega:i<N.nl)|exact hel|exact hrow|exact vZ hnu|exact vZ hla|exact vZ hlb|exact hl3|exact hla3|exact ha|exact hb|exact hnet _|exact iF x)|exact(rfl:Int.ofNat _=_)|exact(rfl:gP _ _=_)|exact hz|exact(by omega:i<N.nl)|exact hel|exact hrow|exact vZ hnu|exact vZ hla|exact vZ hlb|exact hl3|exact hla3|exact ha|exact hb|exact hnet _|exact iF x|intro hq)
 all_goals clear hla3 hl3 ha hb hel hrow hnet hv hz hL hZ hU hA hB heu
 all_goals first
  |(refine BA (congrArg (Value.int .i64) ?_)
    clear hA1 hB1 heu'
    rw[hlk]
    clear hlk
    (repeat' split)<;>first|rfl|(exfalso;simp only[Bool.not_eq_false',Bool.not_eq_true',Bool.and_eq_true,Bool.and_eq_false_iff,decide_eq_true_eq,decide_eq_false_iff_not,bne_iff_ne,bne_eq_false_iff_eq,beq_iff_eq,beq_eq_false_iff_ne,ne_eq] at*;omega)|(exfalso;simp_all;done)|(exfalso;simp_all;omega)|trace_state)
  |exact congrArg Value.bool (by assumption)
  |exact heu' (by simp only[Bool.not_eq_false',Bool.not_eq_true',Bool.and_eq_true,Bool.and_eq_false_iff,decide_eq_true_eq,decide_eq_false_iff_not,bne_iff_ne,bne_eq_false_iff_eq,beq_iff_eq,beq_eq_false_iff_ne,ne_eq] at*;omega)
  |exact(hA1 (by simp only[Bool.not_eq_false',Bool.not_eq_true',Bool.and_eq_true,Bool.and_eq_false_iff,decide_eq_true_eq,decide_eq_false_iff_not,bne_iff_ne,bne_eq_false_iff_eq,beq_iff_eq,beq_eq_false_iff_ne,ne_eq] at*;omega) (by simp only[Bool.not_eq_false',Bool.not_eq_true',Bool.and_eq_true,Bool.and_eq_false_iff,decide_eq_true_eq,decide_eq_false_iff_not,bne_iff_ne,bne_eq_false_iff_eq,beq_iff_eq,beq_eq_false_iff_ne,ne_eq] at*;omega)).1
  |exact(hA1 (by simp only[Bool.not_eq_false',Bool.not_eq_true',Bool.and_eq_true,Bool.and_eq_false_iff,decide_eq_true_eq,decide_eq_false_iff_not,bne_iff_ne,bne_eq_false_iff_eq,beq_iff_eq,beq_eq_false_iff_ne,ne_eq] at*;omega) (by simp only[Bool.not_eq_false',Bool.not_eq_true',Bool.and_eq_true,Bool.and_eq_false_iff,decide_eq_true_eq,decide_eq_false_iff_not,bne_iff_ne,bne_eq_false_iff_eq,beq_iff_eq,beq_eq_false_iff_ne,ne_eq] at*;omega)).2.1
  |exact(hA1 (by simp only[Bool.not_eq_false',Bool.not_eq_true',Bool.and_eq_true,Bool.and_eq_false_iff,decide_eq_true_eq,decide_eq_false_iff_not,bne_iff_ne,bne_eq_false_iff_eq,beq_iff_eq,beq_eq_false_iff_ne,ne_eq] at*;omega) (by simp only[Bool.not_eq_false',Bool.not_eq_true',Bool.and_eq_true,Bool.and_eq_false_iff,decide_eq_true_eq,decide_eq_false_iff_not,bne_iff_ne,bne_eq_false_iff_eq,beq_iff_eq,beq_eq_false_iff_ne,ne_eq] at*;omega)).2.2 _ (by simp only[Bool.not_eq_false',Bool.not_eq_true',Bool.and_eq_true,Bool.and_eq_false_iff,decide_eq_true_eq,decide_eq_false_iff_not,bne_iff_ne,bne_eq_false_iff_eq,beq_iff_eq,beq_eq_false_iff_ne,ne_eq] at*;omega) (by simp only[Bool.not_eq_false',Bool.not_eq_true',Bool.and_eq_true,Bool.and_eq_false_iff,decide_eq_true_eq,decide_eq_false_iff_not,bne_iff_ne,bne_eq_false_iff_eq,beq_iff_eq,beq_eq_false_iff_ne,ne_eq] at*;omega)
  |exact(hB1 (by simp only[Bool.not_eq_false',Bool.not_eq_true',Bool.and_eq_true,Bool.and_eq_false_iff,decide_eq_true_eq,decide_eq_false_iff_not,bne_iff_ne,bne_eq_false_iff_eq,beq_iff_eq,beq_eq_false_iff_ne,ne_eq] at*;omega) (by simp only[Bool.not_eq_false',Bool.not_eq_true',Bool.and_eq_true,Bool.and_eq_false_iff,decide_eq_true_eq,decide_eq_false_iff_not,bne_iff_ne,bne_eq_false_iff_eq,beq_iff_eq,beq_eq_false_iff_ne,ne_eq] at*;omega)).1
  |exact(hB1 (by simp only[Bool.not_eq_false',Bool.not_eq_true',Bool.and_eq_true,Bool.and_eq_false_iff,decide_eq_true_eq,decide_eq_false_iff_not,bne_iff_ne,bne_eq_false_iff_eq,beq_iff_eq,beq_eq_false_iff_ne,ne_eq] at*;omega) (by simp only[Bool.not_eq_false',Bool.not_eq_true',Bool.and_eq_true,Bool.and_eq_false_iff,decide_eq_true_eq,decide_eq_false_iff_not,bne_iff_ne,bne_eq_false_iff_eq,beq_iff_eq,beq_eq_false_iff_ne,ne_eq] at*;omega)).2.1
  |exact(hB1 (by simp only[Bool.not_eq_false',Bool.not_eq_true',Bool.and_eq_true,Bool.and_eq_false_iff,decide_eq_true_eq,decide_eq_false_iff_not,bne_iff_ne,bne_eq_false_iff_eq,beq_iff_eq,beq_eq_false_iff_ne,ne_eq] at*;omega) (by simp only[Bool.not_eq_false',Bool.not_eq_true',Bool.and_eq_true,Bool.and_eq_false_iff,decide_eq_true_eq,decide_eq_false_iff_not,bne_iff_ne,bne_eq_false_iff_eq,beq_iff_eq,beq_eq_false_iff_ne,ne_eq] at*;omega)).2.2 _ (by simp only[Bool.not_eq_false',Bool.not_eq_true',Bool.and_eq_true,Bool.and_eq_false_iff,decide_eq_true_eq,decide_eq_false_iff_not,bne_iff_ne,bne_eq_false_iff_eq,beq_iff_eq,beq_eq_false_iff_ne,ne_eq] at*;omega) (by simp only[Bool.not_eq_false',Bool.not_eq_true',Bool.and_eq_true,Bool.and_eq_false_iff,decide_eq_true_eq,decide_eq_false_iff_not,bne_iff_ne,bne_eq_false_iff_eq,beq_iff_eq,beq_eq_false_iff_ne,ne_eq] at*;omega)
  |(clear hA1 hB1 heu' hlk;simp only[Bool.not_eq_false',Bool.not_eq_true',Bool.and_eq_true,Bool.and_eq_false_iff,decide_eq_true_eq,decide_eq_false_iff_not,bne_iff_ne,bne_eq_false_iff_eq,beq_iff_eq,beq_eq_false_iff_ne,ne_eq] at*;omega)
end
end Go.Proofs.Nw
namespace Go.Proofs.Nw
open Go Go.AV Go.jm
set_option maxHeartbeats 8000000
set_option maxRecDepth 100000
abbrev Pf(ps:List (Int × Int)):List Value:=(ps.map (·.2)).map fun x=>zv x
theorem wB(σ:Nat->Option Nat)(l:List (Int × Int))(a b:Int):aE σ (aa.map (iZ 0 l++[{key:=zv a,val:=zv b,born:=l.length}]) (l.length+1))=some (aa.map (iZ 0 l++[{key:=zv a,val:=zv b,born:=l.length}]) (l.length+1)):=by
 rw[wA];exact uh _ _
theorem Rk{a:Int}(h0:0<=a)(h:a<1000000000):Value.int .i64 (IntKind.i64.wrap (a+1))=Value.int .i64 (a+1):=by
 have:IntKind.i64.wrap (a+1)=a+1:=by
  simp only[IntKind.wrap,IntKind.signed,IntKind.bits]
  simp
  omega
 rw[this]
theorem Kb{U:List RunT}(hU:nh U)(y:Int):(ie U y:Int)<=32:=by
 unfold ie
 split
 ·rename_i r hr;have:=(hU.calls r (List.mem_of_getElem? hr)).2;omega
 ·omega
section
variable{z:T aa}{zn:Nat}
theorem Pb(hz:an z zn)(hg:fD Try.prog z gP)(N:aA)(U:List RunT)(L:List aC)(hl:L.length<100000)(hNu:N.nu=U.length)(hN:N.nl=L.length)(hL:cy z 0 (L.map aC.row))(hZ:ql z U)(hU:nh U)(hnet: ∀σ:bd,aE (aq σ []) (N.cx N.u1 N.l1)=some (N.cx N.u1 N.l1))(r:Int × Int)(hr:scan (eV U L) L.length 0=r):
 ai Try.prog (ah (ag Try.f16) 0) 5 171 (E1 N.nl N.lc 0) [(0,N.cx N.u1 N.l1),(1,df 0 0 0),(2, .map [] 0),(3,bB []),(4,bB [])] 5 z zn (Al.R (Tv z zn N N.u1 (if r.2=0 then 0 else 3) r.1 r.2).l):=by
 refine ak hD hg (α:=Nat) 5 171 5 (fun i=>i<=L.length/\scan (eV U L) (L.length - i) i=r/\ ∀j,j<i->eV U L j=none) (fun i=>E1 N.nl N.lc i) (fun i=>[(0,N.cx N.u1 N.l1),(1,df 0 0 0),(2,ui (stays (L.take i))),(3,bB (Pf (stays (L.take i)))),(4,bB ((L.take i).map j0))]) (fun _=>z) (fun _=>zn) (fun i=>L.length - i) _ (fun i hI=>?_) 0 ⟨Nat.zero_le _,hr,fun j hj=>by omega⟩
 obtain⟨h1,h2,h3⟩:=hI
 by_cases hi:i<L.length
 ·obtain⟨x,hx⟩:=ej hi
  obtain⟨el,hel⟩:=hL.ay (i:=i) (by simp;omega)
  have hlen:=aM (row:=aC.row) (sz:=5) L fun _=>rfl
  have hrow:aB Try.prog (bC el (L.map aC.row).flatten) 52 (0+i*5)=some (.agg ⟨x.row⟩):=bO (r:=x.row) (sz:=5) Try.underlying52 rfl rfl hlen (by rw[List.getElem?_map,hx];rfl)
  have hu0: ∃eu:TypeId,0<U.length->z.get 1=some (.ay (bC eu (U.map fun r=>r.v.row).flatten)):=by
   by_cases h:0<U.length
   ·obtain⟨e,he⟩:=hZ.JM.ay (i:=0) (by simpa using h)
    exact⟨e,fun _=>he⟩
   ·exact⟨0,fun k=>(h k).elim⟩
  obtain⟨eu,heu⟩:=hu0
  obtain⟨ca,ka,hA⟩:=xM hZ hU eu x.from_
  obtain⟨cb,kb,hB⟩:=xM hZ hU eu x.ax
  have heu':0<N.nu->z.get 1=some (.ay (bC eu (U.map fun r=>r.v.row).flatten)):=fun h=>heu (by omega)
  have hA1: ∀h0:0<=x.from_,x.from_<N.nu->_:=fun h0 h1=>hA h0 (by omega)
  have hB1: ∀h0:0<=x.ax,x.ax<N.nu->_:=fun h0 h1=>hB h0 (by omega)
  have hla:=Kb hU x.from_
  have ok:=wq U L i h1 h3
  have hm:=VN (stays (L.take i))
  have hk:=Sv x (L.take i)
  have hps:=G4 (L.take i)
  have hi2:=Pe x.ax ((stays (L.take i)).map (·.2))
  have hpi:=EL ((stays (L.take i)).map (·.2))
  have hcf:=Ej (L.take i) x
  have hlds:0<=x.from_->A1 z zn 28 [mp 0,zv x.ax,zv x.from_] [(0,ui (stays (L.take i)))] 1 1 (.bool (dE (gI (stays (L.take i))) x.from_ (i+1) x.ax)) [(0,ui (stays (L.take i)))]:=fun h0=>
   Mp hz hm (by rw[ok.eq];exact ok.dep) x.ax x.from_ _ (by rw[ok.eq];exact ok.leads h0 (by rw[List.length_take];omega))
  have hlk:hX U L i x=if x.from_<0\/(U.length:Int)<=x.from_\/x.ax<0\/(U.length:Int)<=x.ax\/x.from_=x.ax then 9
   else if x.fc<0\/(ie U x.from_:Int)<=x.fc\/x.tc<0\/(ie U x.ax:Int)<=x.tc then 9
   else if kJ U x.from_ x.fc≠kJ U x.ax x.tc then 13
   else if x.stay=true/\(x.fc+1≠ie U x.from_\/x.tc≠0) then 19
   else if x.stay=true/\(L.take i).any (CG x)=true then 19
   else if x.stay=true/\dE (gI (stays (L.take i))) x.from_ (i+1) x.ax=true then 19
   else if (L.take i).any (mh x)=true then 6 else 0:=rfl
  have ret: ∀e:Int,e=hX U L i x->e≠0->Al.R (Tv z zn N N.u1 (if r.2=0 then 0 else 3) r.1 r.2).l ⟨.ret,[(2,ip 1)],[(1,df 3 i e)],5,z,zn⟩:=fun e h h0=>by
   have hb:eV U L i=some e:=by unfold eV;rw[hx];simp only;rw[←h,if_neg h0]
   have:r=((i:Int),e):=by rw[←h2,dq hi hb]
   rw[this]
   simp only[if_neg h0]
   exact bJ trivial
  have htk:L.take (i+1)=L.take i++[x]:=by rw[List.take_add_one,hx];rfl
  have jP:hX U L i x=0->aj (fun i=>i<=L.length/\scan (eV U L) (L.length - i) i=r/\ ∀j,j<i->eV U L j=none) (fun i=>E1 N.nl N.lc i) (fun i=>[(0,N.cx N.u1 N.l1),(1,df 0 0 0),(2,ui (stays (L.take i))),(3,bB (Pf (stays (L.take i)))),(4,bB ((L.take i).map j0))]) 5 (fun _=>z) (fun _=>zn) (fun i=>L.length - i) (Al.R (Tv z zn N N.u1 (if r.2=0 then 0 else 3) r.1 r.2).l) i .normal (E1 N.nl N.lc (i+1))
   [(0,N.cx N.u1 N.l1),(1,df 0 0 0),(2,ui (if x.stay=true then stays (L.take i)++[(x.from_,x.ax)] else stays (L.take i))),(3,bB (Pf (if x.stay=true then stays (L.take i)++[(x.from_,x.ax)] else stays (L.take i)))),(4,bB ((L.take i).map j0++[j0 x]))] 5 z zn:=fun h0=>by
   have hb:eV U L i=none:=by unfold eV;rw[hx];simp only;rw[if_pos h0]
   refine⟨i+1,rfl,?_,rfl,rfl,rfl,⟨hi,by rw[←cU hi hb];exact h2,fun j hj=>?_⟩,by show L.length - (i+1)<L.length - i;omega⟩
   ·show _=[(0,N.cx N.u1 N.l1),(1,df 0 0 0),(2,ui (stays (L.take (i+1)))),(3,bB (Pf (stays (L.take (i+1))))),(4,bB ((L.take (i+1)).map j0))]
    rw[htk,ly,List.map_append];rfl
   ·by_cases e:j=i
    ·subst e;exact hb
    ·exact h3 j (by omega)
  have hc:decide ((i:Int)<(N.nl:Int))=true:=by simp;omega
  rw[←hNu] at hlk
  generalize (L.take i).any (CG x)=va at hlk hcf
  generalize dE (gI (stays (L.take i))) x.from_ (i+1) x.ax=lb at hlk hlds
  have hv0:nP (stays (L.take i)) x.from_=none->x.ax ∉ (stays (L.take i)).map (·.2)->va=false:=fun h k=>hcf.2 ⟨h,k⟩
  have hv1: ∀b,nP (stays (L.take i)) x.from_=some b->va=true:=fun b h=>by
   cases hva:va with
   |true=>rfl
   |false=>(have:=(hcf.1 hva).1;rw[h] at this;cases this)
  have hv2:x.ax∈(stays (L.take i)).map (·.2)->va=true:=fun h=>by
   cases hva:va with
   |true=>rfl
   |false=>exact((hcf.1 hva).2 h).elim
  refine t100 (rk z zn i N (bC el (L.map aC.row).flatten) (bC eu (U.map fun r=>r.v.row).flatten) ka kb x x.from_.toNat x.ax.toNat x.fc.toNat x.tc.toNat (ie U x.from_) ca (ie U x.ax) cb (kJ U x.from_ x.fc) (kJ U x.ax x.tc) lb (stays (L.take i)) (Pf (stays (L.take i))) ((L.take i).map j0) (aj _ _ _ _ _ _ _ _ _) ⟨fun _=>?_,fun h=>(by rw[hc] at h;cases h)⟩)
  (repeat' first|(with_reducible first|exact rfl|trivial|assumption|apply And.intro|exact hz|exact(by omega:i<N.nl)|exact hel|exact hrow|exact hm.no _|exact hm.ex _|exact hk.no|exact hk.ex|exact hi2.no|exact hi2.ex|exact hnet _|exact dr _ hps rfl|exact dr _ hpi rfl|exact gQ hps|exact gQ hpi|exact uh _ _|exact wB _ _ _ _|exact aG (by omega))|exact(rfl:Int.ofNat _=_)|exact(rfl:gP _ _=_)|exact hz|exact(by omega:i<N.nl)|exact hel|exact hrow|exact hm.no _|exact hm.ex _|exact hk.no|exact hk.ex|exact hi2.no|exact hi2.ex|exact hnet _|exact dr _ hps rfl|exact dr _ hpi rfl|exact gQ hps|exact gQ hpi|exact uh _ _|exact wB _ _ _ _|exact aG (by omega)|intro hq)
  all_goals clear hnet hrow hel hz hL hZ hU hA hB heu hlen hps hpi
  all_goals try (have hm1:=hk.zc (by with_reducible assumption);rw[Hi] at hm1)
  all_goals try (have hm1:=hk.JP (by with_reducible assumption);rw[Hi] at hm1)
  all_goals try (have hm2:=hi2.zc (by with_reducible assumption);rw[DJ] at hm2)
  all_goals try (have hm2:=hi2.JP (by with_reducible assumption);rw[DJ] at hm2)
  all_goals try (have hm3:=hm.zc (by with_reducible assumption))
  all_goals try (have hm3:=hm.none (by with_reducible assumption))
  all_goals clear hm hk hi2
  all_goals try (have hv:=hv0 hm3 hm2)
  all_goals try (have hv:=hv1 _ hm3)
  all_goals try (have hv:=hv2 hm2)
  all_goals clear hv0 hv1 hv2
  all_goals clear hcf
  all_goals first
   |(refine ret _ ?_ (by decide)
     clear ret jP hlds hA1 hB1 heu' h2 h3 hr
     rw[hlk]
     clear hlk
     (repeat' split)<;>first|rfl|(exfalso;simp only[Bool.not_eq_false',Bool.not_eq_true',Bool.and_eq_true,Bool.and_eq_false_iff,decide_eq_true_eq,decide_eq_false_iff_not,bne_iff_ne,bne_eq_false_iff_eq,beq_iff_eq,beq_eq_false_iff_ne,ne_eq] at*;omega)|(exfalso;simp_all;done)|(exfalso;simp_all;omega))
   |(have h0:hX U L i x=0:=by
      clear ret jP hlds hA1 hB1 heu' h2 h3 hr
      rw[hlk]
      clear hlk
      (repeat' split)<;>first|rfl|(exfalso;simp only[Bool.not_eq_false',Bool.not_eq_true',Bool.and_eq_true,Bool.and_eq_false_iff,decide_eq_true_eq,decide_eq_false_iff_not,bne_iff_ne,bne_eq_false_iff_eq,beq_iff_eq,beq_eq_false_iff_ne,ne_eq] at*;omega)|(exfalso;simp_all;done)|(exfalso;simp_all;omega)
     have q:=jP h0
     rw[fO]
     first
      |(have hs:x.stay=true:=by assumption
        simp only[hs,if_true] at q
        rw[wA,fO]
        simp only[Pf,List.map_append,List.map_cons,List.map_nil] at q ⊢
        exact q)
      |(have hs:x.stay=false:=by assumption
        simp only[hs,Bool.false_eq_true,if_false] at q
        exact q))
   |exact congrArg Value.bool (by assumption)
   |exact heu' (by simp only[Bool.not_eq_false',Bool.not_eq_true',Bool.and_eq_true,Bool.and_eq_false_iff,decide_eq_true_eq,decide_eq_false_iff_not,bne_iff_ne,bne_eq_false_iff_eq,beq_iff_eq,beq_eq_false_iff_ne,ne_eq] at*;omega)
   |exact(hA1 (by simp only[Bool.not_eq_false',Bool.not_eq_true',Bool.and_eq_true,Bool.and_eq_false_iff,decide_eq_true_eq,decide_eq_false_iff_not,bne_iff_ne,bne_eq_false_iff_eq,beq_iff_eq,beq_eq_false_iff_ne,ne_eq] at*;omega) (by simp only[Bool.not_eq_false',Bool.not_eq_true',Bool.and_eq_true,Bool.and_eq_false_iff,decide_eq_true_eq,decide_eq_false_iff_not,bne_iff_ne,bne_eq_false_iff_eq,beq_iff_eq,beq_eq_false_iff_ne,ne_eq] at*;omega)).1
   |exact(hA1 (by simp only[Bool.not_eq_false',Bool.not_eq_true',Bool.and_eq_true,Bool.and_eq_false_iff,decide_eq_true_eq,decide_eq_false_iff_not,bne_iff_ne,bne_eq_false_iff_eq,beq_iff_eq,beq_eq_false_iff_ne,ne_eq] at*;omega) (by simp only[Bool.not_eq_false',Bool.not_eq_true',Bool.and_eq_true,Bool.and_eq_false_iff,decide_eq_true_eq,decide_eq_false_iff_not,bne_iff_ne,bne_eq_false_iff_eq,beq_iff_eq,beq_eq_false_iff_ne,ne_eq] at*;omega)).2.1
   |exact(hA1 (by simp only[Bool.not_eq_false',Bool.not_eq_true',Bool.and_eq_true,Bool.and_eq_false_iff,decide_eq_true_eq,decide_eq_false_iff_not,bne_iff_ne,bne_eq_false_iff_eq,beq_iff_eq,beq_eq_false_iff_ne,ne_eq] at*;omega) (by simp only[Bool.not_eq_false',Bool.not_eq_true',Bool.and_eq_true,Bool.and_eq_false_iff,decide_eq_true_eq,decide_eq_false_iff_not,bne_iff_ne,bne_eq_false_iff_eq,beq_iff_eq,beq_eq_false_iff_ne,ne_eq] at*;omega)).2.2 _ (by simp only[Bool.not_eq_false',Bool.not_eq_true',Bool.and_eq_true,Bool.and_eq_false_iff,decide_eq_true_eq,decide_eq_false_iff_not,bne_iff_ne,bne_eq_false_iff_eq,beq_iff_eq,beq_eq_false_iff_ne,ne_eq] at*;omega) (by simp only[Bool.not_eq_false',Bool.not_eq_true',Bool.and_eq_true,Bool.and_eq_false_iff,decide_eq_true_eq,decide_eq_false_iff_not,bne_iff_ne,bne_eq_false_iff_eq,beq_iff_eq,beq_eq_false_iff_ne,ne_eq] at*;omega)
   |exact(hB1 (by simp only[Bool.not_eq_false',Bool.not_eq_true',Bool.and_eq_true,Bool.and_eq_false_iff,decide_eq_true_eq,decide_eq_false_iff_not,bne_iff_ne,bne_eq_false_iff_eq,beq_iff_eq,beq_eq_false_iff_ne,ne_eq] at*;omega) (by simp only[Bool.not_eq_false',Bool.not_eq_true',Bool.and_eq_true,Bool.and_eq_false_iff,decide_eq_true_eq,decide_eq_false_iff_not,bne_iff_ne,bne_eq_false_iff_eq,beq_iff_eq,beq_eq_false_iff_ne,ne_eq] at*;omega)).1
   |exact(hB1 (by simp only[Bool.not_eq_false',Bool.not_eq_true',Bool.and_eq_true,Bool.and_eq_false_iff,decide_eq_true_eq,decide_eq_false_iff_not,bne_iff_ne,bne_eq_false_iff_eq,beq_iff_eq,beq_eq_false_iff_ne,ne_eq] at*;omega) (by simp only[Bool.not_eq_false',Bool.not_eq_true',Bool.and_eq_true,Bool.and_eq_false_iff,decide_eq_true_eq,decide_eq_false_iff_not,bne_iff_ne,bne_eq_false_iff_eq,beq_iff_eq,beq_eq_false_iff_ne,ne_eq] at*;omega)).2.1
   |exact(hB1 (by simp only[Bool.not_eq_false',Bool.not_eq_true',Bool.and_eq_true,Bool.and_eq_false_iff,decide_eq_true_eq,decide_eq_false_iff_not,bne_iff_ne,bne_eq_false_iff_eq,beq_iff_eq,beq_eq_false_iff_ne,ne_eq] at*;omega) (by simp only[Bool.not_eq_false',Bool.not_eq_true',Bool.and_eq_true,Bool.and_eq_false_iff,decide_eq_true_eq,decide_eq_false_iff_not,bne_iff_ne,bne_eq_false_iff_eq,beq_iff_eq,beq_eq_false_iff_ne,ne_eq] at*;omega)).2.2 _ (by simp only[Bool.not_eq_false',Bool.not_eq_true',Bool.and_eq_true,Bool.and_eq_false_iff,decide_eq_true_eq,decide_eq_false_iff_not,bne_iff_ne,bne_eq_false_iff_eq,beq_iff_eq,beq_eq_false_iff_ne,ne_eq] at*;omega) (by simp only[Bool.not_eq_false',Bool.not_eq_true',Bool.and_eq_true,Bool.and_eq_false_iff,decide_eq_true_eq,decide_eq_false_iff_not,bne_iff_ne,bne_eq_false_iff_eq,beq_iff_eq,beq_eq_false_iff_ne,ne_eq] at*;omega)
   |exact hlds (by simp only[Bool.not_eq_false',Bool.not_eq_true',Bool.and_eq_true,Bool.and_eq_false_iff,decide_eq_true_eq,decide_eq_false_iff_not,bne_iff_ne,bne_eq_false_iff_eq,beq_iff_eq,beq_eq_false_iff_ne,ne_eq] at*;omega)
   |exact Rk (by simp only[Bool.not_eq_false',Bool.not_eq_true',Bool.and_eq_true,Bool.and_eq_false_iff,decide_eq_true_eq,decide_eq_false_iff_not,bne_iff_ne,bne_eq_false_iff_eq,beq_iff_eq,beq_eq_false_iff_ne,ne_eq] at*;omega) (by simp only[Bool.not_eq_false',Bool.not_eq_true',Bool.and_eq_true,Bool.and_eq_false_iff,decide_eq_true_eq,decide_eq_false_iff_not,bne_iff_ne,bne_eq_false_iff_eq,beq_iff_eq,beq_eq_false_iff_ne,ne_eq] at*;omega)
   |(clear hA1 hB1 heu' hlk hlds jP ret;simp only[Bool.not_eq_false',Bool.not_eq_true',Bool.and_eq_true,Bool.and_eq_false_iff,decide_eq_true_eq,decide_eq_false_iff_not,bne_iff_ne,bne_eq_false_iff_eq,beq_iff_eq,beq_eq_false_iff_ne,ne_eq] at*;omega)
 ·have hc:decide ((i:Int)<(N.nl:Int))=false:=by simp;omega
  refine t100 (rk z zn i N ⟨[],0,0,0,true,true,0,true⟩ ⟨[],0,0,0,true,true,0,true⟩ ⟨[],0,0,0,true,true,0,true⟩ ⟨[],0,0,0,true,true,0,true⟩ ⟨0,0,0,0,true⟩ 0 0 0 0 0 0 0 0 0 0 true (stays (L.take i)) (Pf (stays (L.take i))) ((L.take i).map j0) (aj _ _ _ _ _ _ _ _ _) ⟨fun h=>(by rw[hc] at h;cases h),fun _=>?_⟩)
  (repeat' first|(with_reducible first|exact rfl|trivial|assumption|apply And.intro|exact hz|exact hnet _)|exact(rfl:Int.ofNat _=_)|exact(rfl:gP _ _=_)|exact hz|exact hnet _|intro hq)
  rw[dD (by omega)] at h2
  refine dw (bJ ?_)
  rw[←h2]
  exact⟨rfl,rfl,rfl⟩
theorem Mn(hz:an z zn)(hg:fD Try.prog z gP)(N:aA)(U:List RunT)(L:List aC)(hNu:N.nu=U.length)(hN:N.nl=L.length)(hL:cy z 0 (L.map aC.row))(hZ:ql z U)(hU:nh U)(hnet: ∀σ:bd,aE (aq σ []) (N.cx N.u1 N.l1)=some (N.cx N.u1 N.l1)):
 A1 z zn 16 [.agg ⟨N.ey N.u1 N.l1⟩] [] 0 0 (.agg ⟨[zv (if (bK U L).2=0 then 0 else 3),zv (bK U L).1,zv (bK U L).2]⟩) []:=by
 refine bt hg (fn:=Try.f16) (by kernel_rfl) (by kernel_rfl) hz ⟨by decide,by decide⟩ rfl (fk z zn N N.u1 (if (bK U L).2=0 then 0 else 3) (bK U L).1 (bK U L).2 _ ?_)
 by_cases h:1024<L.length
 ·have hr:bK U L=(0,5):=if_pos h
  have hc:decide ((N.nl:Int)>1024)=true:=by simp;omega
  rw[hr]
  refine⟨fun _=>?_,fun h=>(by rw[hc] at h;cases h)⟩
  (repeat' first|(with_reducible first|exact rfl|trivial|assumption|apply And.intro|exact hz|exact q1)|exact(rfl:Int.ofNat _=_)|exact(rfl:gP _ _=_)|exact hz|exact q1|intro hq)
 ·have hr:bK U L=scan (eV U L) L.length 0:=if_neg h
  have hc:decide ((N.nl:Int)>1024)=false:=by simp;omega
  have hK:=Pb hz hg N U L (by omega) hNu hN hL hZ hU hnet (bK U L) hr.symm
  refine⟨fun h=>(by rw[hc] at h;cases h),fun _=>?_⟩
  (repeat' first|(with_reducible first|exact rfl|trivial|assumption|apply And.intro|exact hz|exact hK|exact hnet _|exact aT _ _ _ _|exact q1)|exact(rfl:Int.ofNat _=_)|exact(rfl:gP _ _=_)|exact hz|exact hK|exact hnet _|exact aT _ _ _ _|exact q1|intro hq)
  all_goals first|(rw[hq.1,hq.2.1,hq.2.2];exact q1)|trace_state
theorem Ln(hz:an z zn)(hg:fD Try.prog z gP)(N:aA)(L:List aC)(hl:L.length<100000)(hN:N.nl=L.length)(hL:cy z 0 (L.map aC.row))(hnet: ∀σ:bd,aE (aq σ []) (N.cx aw N.l1)=some (N.cx aw N.l1))(r:Int × Int)(hr:scan (eV [] L) L.length 0=r):
 ai Try.prog (ah (ag Try.f16) 0) 5 171 (E1 N.nl N.lc 0) [(0,N.cx aw N.l1),(1,df 0 0 0),(2, .map [] 0),(3,bB []),(4,bB [])] 5 z zn (Al.R (Tv z zn N aw (if r.2=0 then 0 else 3) r.1 r.2).l):=by
 refine ak hD hg (α:=Nat) 5 171 5 (fun i=>i=0) (fun i=>E1 N.nl N.lc i) (fun i=>[(0,N.cx aw N.l1),(1,df 0 0 0),(2, .map [] 0),(3,bB []),(4,bB [])]) (fun _=>z) (fun _=>zn) (fun i=>1) _ (fun i hI=>?_) 0 rfl
 subst hI
 by_cases hi:0<L.length
 ·obtain⟨x,hx⟩:=ej hi
  obtain⟨el,hel⟩:=hL.ay (i:=0) (by simp;omega)
  have hlen:=aM (row:=aC.row) (sz:=5) L fun _=>rfl
  have hrow:aB Try.prog (bC el (L.map aC.row).flatten) 52 (0+0*5)=some (.agg ⟨x.row⟩):=bO (r:=x.row) (sz:=5) Try.underlying52 rfl rfl hlen (by rw[List.getElem?_map,hx];rfl)
  have hb:eV [] L 0=some 9:=by
   unfold eV;rw[hx];simp only
   have:hX [] L 0 x=9:=by unfold hX;rw[if_pos (by simp;omega)]
   rw[this];rfl
  have hrr:r=(0,9):=by rw[←hr];exact dq hi hb
  have hwf:gP 27 [zv x.from_,I 0]=some (.bool false):=by
   show some (Value.bool (decide (0<=x.from_) && decide (x.from_<0)))=_
   have:(decide (0<=x.from_) && decide (x.from_<0))=false:=by simp
   rw[this]
  have hc:decide (((0:Nat):Int)<(N.nl:Int))=true:=by simp;omega
  refine t100 (X0 z zn 0 N (bC el (L.map aC.row).flatten) x (aj _ _ _ _ _ _ _ _ _) ⟨fun _=>?_,fun h=>(by rw[hc] at h;cases h)⟩)
  (repeat' first|(with_reducible first|exact rfl|trivial|assumption|apply And.intro|exact hz|exact(by omega:0<N.nl)|exact hel|exact hrow|exact hwf|exact hnet _)|exact(rfl:Int.ofNat _=_)|exact(rfl:gP _ _=_)|exact hz|exact(by omega:0<N.nl)|exact hel|exact hrow|exact hwf|exact hnet _|intro hq)
  all_goals first
   |(rw[hrr];exact bJ trivial)
 ·have hc:decide (((0:Nat):Int)<(N.nl:Int))=false:=by simp;omega
  refine t100 (X0 z zn 0 N ⟨[],0,0,0,true,true,0,true⟩ ⟨0,0,0,0,true⟩ (aj _ _ _ _ _ _ _ _ _) ⟨fun h=>(by rw[hc] at h;cases h),fun _=>?_⟩)
  (repeat' first|(with_reducible first|exact rfl|trivial|assumption|apply And.intro|exact hz|exact hnet _)|exact(rfl:Int.ofNat _=_)|exact(rfl:gP _ _=_)|exact hz|exact hnet _|intro hq)
  have e:L.length=0:=by omega
  rw[e] at hr
  refine dw (bJ ?_)
  rw[←hr]
  exact⟨rfl,rfl,rfl⟩
theorem I8(hz:an z zn)(hg:fD Try.prog z gP)(N:aA)(L:List aC)(hN:N.nl=L.length)(hL:cy z 0 (L.map aC.row))(hnet: ∀σ:bd,aE (aq σ []) (N.cx aw N.l1)=some (N.cx aw N.l1)):
 A1 z zn 16 [.agg ⟨N.ey aw N.l1⟩] [] 0 0 (.agg ⟨[zv (if (bK [] L).2=0 then 0 else 3),zv (bK [] L).1,zv (bK [] L).2]⟩) []:=by
 refine bt hg (fn:=Try.f16) (by kernel_rfl) (by kernel_rfl) hz ⟨by decide,by decide⟩ rfl (fkn z zn N aw (if (bK [] L).2=0 then 0 else 3) (bK [] L).1 (bK [] L).2 _ ?_)
 by_cases h:1024<L.length
 ·have hr:bK [] L=(0,5):=if_pos h
  have hc:decide ((N.nl:Int)>1024)=true:=by simp;omega
  rw[hr]
  refine⟨fun _=>?_,fun h=>(by rw[hc] at h;cases h)⟩
  (repeat' first|(with_reducible first|exact rfl|trivial|assumption|apply And.intro|exact hz|exact q1)|exact(rfl:Int.ofNat _=_)|exact(rfl:gP _ _=_)|exact hz|exact q1|intro hq)
 ·have hr:bK [] L=scan (eV [] L) L.length 0:=if_neg h
  have hc:decide ((N.nl:Int)>1024)=false:=by simp;omega
  have hK:=Ln hz hg N L (by omega) hN hL hnet (bK [] L) hr.symm
  refine⟨fun h=>(by rw[hc] at h;cases h),fun _=>?_⟩
  (repeat' first|(with_reducible first|exact rfl|trivial|assumption|apply And.intro|exact hz|exact hK|exact hnet _|exact aT _ _ _ _|exact q1)|exact(rfl:Int.ofNat _=_)|exact(rfl:gP _ _=_)|exact hz|exact hK|exact hnet _|exact aT _ _ _ _|exact q1|intro hq)
  all_goals first|(rw[hq.1,hq.2.1,hq.2.2];exact q1)|trace_state
theorem I7(hz:an z zn)(hg:fD Try.prog z gP)(N:aA)(hnet: ∀σ:bd,aE (aq σ []) (N.cx N.u0 aw)=some (N.cx N.u0 aw)):
 A1 z zn 16 [.agg ⟨N.ey N.u0 aw⟩] [] 0 0 (.agg ⟨[I 0,I 0,I 0]⟩) []:=by
 have hL:ai Try.prog (ah (ag Try.f16) 0) 5 171 E0 [(0,N.cx N.u0 aw),(1,df 0 0 0),(2, .map [] 0),(3,bB []),(4,bB [])] 5 z zn (Al.R (VY z zn N).l):=by
  refine ak hD hg (α:=Nat) 5 171 5 (fun i=>i=0) (fun i=>E0) (fun i=>[(0,N.cx N.u0 aw),(1,df 0 0 0),(2, .map [] 0),(3,bB []),(4,bB [])]) (fun _=>z) (fun _=>zn) (fun i=>1) _ (fun i hI=>?_) 0 rfl
  refine t100 (rkz z zn N (aj _ _ _ _ _ _ _ _ _) ?_)
  (repeat' first|(with_reducible first|exact rfl|trivial|assumption|apply And.intro|exact hz|exact hnet _)|exact(rfl:Int.ofNat _=_)|exact(rfl:gP _ _=_)|exact hz|exact hnet _|intro hq)
  all_goals first|exact bJ trivial|trace_state
 refine bt hg (fn:=Try.f16) (by kernel_rfl) (by kernel_rfl) hz ⟨by decide,by decide⟩ rfl (fkz z zn N _ ?_)
 (repeat' first|(with_reducible first|exact rfl|trivial|assumption|apply And.intro|exact hz|exact hL|exact hnet _|exact q1)|exact(rfl:Int.ofNat _=_)|exact(rfl:gP _ _=_)|exact hz|exact hL|exact hnet _|exact q1|intro hq)
end
end Go.Proofs.Nw
namespace Go.Proofs.Nw
open Go Go.AV Go.jm
set_option maxRecDepth 100000
def cf(x y:ae):Bool:=decide (y.from_=x.from_) && (decide (y.ax=x.ax) && (y.sf==x.sf))
def fV(n:Int)(l:List ae)(i:Nat)(x:ae):Int:=
 if x.from_<0\/n<=x.from_\/x.ax<0\/n<=x.ax\/x.from_=x.ax then 9 else if x.aI<1\/14400<x.aI then 2 else if (l.take i).any (cf x)=true then 6 else 0
def c8(n:Int)(l:List ae)(i:Nat):Option Int:=match l[i]? with
 |some x=>if fV n l i x=0 then none else some (fV n l i x)
 |none=>none
def aY(n:Int)(l:List ae):Int × Int:=scan (c8 n l) l.length 0
theorem pB: ∀(M:Nat)(l:List Nat),l.Nodup->(∀x∈l,x<M)->l.length<=M
 |0,l,_,h=>by
  cases l with
  |nil=>simp
  |cons a l=>have:=h a (by simp);omega
 |M+1,l,hn,h=>by
  have h1:=pB M (l.erase M) (hn.erase M) fun x hx=>by
   have:=h x (List.mem_of_mem_erase hx)
   have hne:x≠M:=fun e=>by subst e;exact hn.not_mem_erase hx
   omega
  by_cases hm:M∈l
  ·rw[List.length_erase_of_mem hm] at h1;omega
  ·rw[List.erase_of_not_mem hm] at h1;omega
def yv(x:ae):Nat:=x.from_.toNat*128+x.ax.toNat*2+(if x.sf=true then 1 else 0)
theorem A0(n:Int)(hn:n<=64)(l:List ae): ∀k,k<=l.length->(∀j,j<k->c8 n l j=none)->((l.take k).map yv).Nodup/\ ∀y∈l.take k,0<=y.from_/\y.from_<64/\0<=y.ax/\y.ax<64
 |0,_,_=>by simp
 |k+1,hk,h=>by
  obtain⟨h1,h2⟩:=A0 n hn l k (by omega) fun j hj=>h j (by omega)
  obtain⟨x,hx⟩:=ej (l:=l) (i:=k) (by omega)
  have hb:=h k (by omega)
  unfold c8 at hb
  rw[hx] at hb
  have he:fV n l k x=0:=by simpa using hb
  unfold fV at he
  split at he
  ·cases he
  rename_i c1
  split at he
  ·cases he
  split at he
  ·cases he
  rename_i c3
  have c3: ∀y∈l.take k,cf x y=false:=by simpa using c3
  have ht:l.take (k+1)=l.take k++[x]:=by rw[List.take_add_one,hx];rfl
  rw[ht]
  constructor
  ·rw[List.map_append,List.nodup_append]
   refine⟨h1,by simp,fun a ha b hb=>?_⟩
   obtain⟨y,hy,rfl⟩:=List.mem_map.1 ha
   have hb:b=yv x:=by simpa using hb
   subst hb
   intro e
   have hs:=c3 y hy
   obtain⟨g1,g2,g3,g4⟩:=h2 y hy
   unfold yv at e
   simp only[cf,Bool.and_eq_false_iff,decide_eq_false_iff_not,beq_eq_false_iff_ne] at hs
   have e1:y.from_=x.from_:=by(repeat' split at e)<;>omega
   have e2:y.ax=x.ax:=by(repeat' split at e)<;>omega
   have e3:y.sf=x.sf:=by
    cases hy1:y.sf<;>cases hx1:x.sf<;>rw[hy1,hx1] at e<;>first|rfl|(exfalso;simp only[if_true,if_false,Bool.false_eq_true] at e;omega)
   rcases hs with q|q|q
   ·exact q e1
   ·exact q e2
   ·exact q e3
  ·intro y hy
   rcases List.mem_append.1 hy with q|q
   ·exact h2 y q
   ·have:y=x:=by simpa using q
    subst this;omega
theorem M6{n:Int}(hn:n<=64){l:List ae}{k:Nat}(hk:k<=l.length)(h: ∀j,j<k->c8 n l j=none):k<=8192:=by
 obtain⟨h1,h2⟩:=A0 n hn l k hk h
 have:=pB 8192 _ h1 fun c hc=>by
  obtain⟨y,hy,rfl⟩:=List.mem_map.1 hc
  obtain⟨g1,g2,g3,g4⟩:=h2 y hy
  unfold yv
  split<;>omega
 simpa[List.length_take,Nat.min_eq_left hk] using this
abbrev gh(x:ae):Value:= .agg ⟨[zv x.from_,zv x.ax, .bool x.sf]⟩
abbrev gg(x:ae):Value:= .agg ⟨[zv x.from_,zv x.ax,zv 0, .bool x.sf]⟩
theorem V9(x:ae)(l:List ae):kY 113 (gh x) (l.map gh):=⟨fun k' hk'=>by
 obtain⟨y,_,rfl⟩:=List.mem_map.1 hk'
 refine⟨rfl,_,It _ _ _ _ _ _,?_⟩
 simp only[Bool.and_eq_true,decide_eq_true_eq,beq_iff_eq,Value.agg.injEq,Array.mk.injEq,List.cons.injEq,Value.int.injEq,Value.bool.injEq,true_and,and_true]⟩
theorem V8(x:ae)(l:List ae):kY 89 (gg x) (l.map gg):=⟨fun k' hk'=>by
 obtain⟨y,_,rfl⟩:=List.mem_map.1 hk'
 refine⟨rfl,_,Is _ _ _ _ _ _ _ _,?_⟩
 simp only[Bool.and_eq_true,decide_eq_true_eq,beq_iff_eq,Value.agg.injEq,Array.mk.injEq,List.cons.injEq,Value.int.injEq,Value.bool.injEq,true_and,and_true]⟩
theorem Ah(x:ae)(l:List ae):gh x∈l.map gh↔l.any (cf x)=true:=by
 rw[List.mem_map,List.any_eq_true]
 simp only[cf,Bool.and_eq_true,decide_eq_true_eq,beq_iff_eq,Value.agg.injEq,Array.mk.injEq,List.cons.injEq,Value.int.injEq,Value.bool.injEq,true_and,and_true]
theorem Ag(x:ae)(l:List ae):gg x∈l.map gg↔l.any (cf x)=true:=by
 rw[List.mem_map,List.any_eq_true]
 simp only[cf,Bool.and_eq_true,decide_eq_true_eq,beq_iff_eq,Value.agg.injEq,Array.mk.injEq,List.cons.injEq,Value.int.injEq,Value.bool.injEq,true_and,and_true]
theorem KB(l:List ae): ∀k,k∈l.map gh->az k=true:=fun k hk=>by
 obtain⟨t,_,rfl⟩:=List.mem_map.1 hk
 rfl
theorem KA(l:List ae): ∀k,k∈l.map gg->az k=true:=fun k hk=>by
 obtain⟨t,_,rfl⟩:=List.mem_map.1 hk
 rfl
end Go.Proofs.Nw
namespace Go.Proofs.Nw
open Go Go.AV Go.jm
set_option maxHeartbeats 8000000
set_option maxRecDepth 100000
section
variable{z:T aa}{zn:Nat}
theorem KV(hz:an z zn)(hg:fD Try.prog z gP)(n:Int)(hn:n<=64)(l:List ae)(cp:Nat)(hL:cy z 4 (l.map ae.row))(r:Int × Int)(hr:scan (c8 n l) l.length 0=r):
 ai Try.prog (ah (ag Try.f42) 0) 1 62 (Ak n l.length cp 0) [(0,bB [])] 1 z zn (Al.R (OY z zn l.length cp n r.1 r.2).l):=by
 refine ak hD hg (α:=Nat) 1 62 1 (fun i=>i<=l.length/\scan (c8 n l) (l.length - i) i=r/\ ∀j,j<i->c8 n l j=none) (fun i=>Ak n l.length cp i) (fun i=>[(0,bB ((l.take i).map gh))]) (fun _=>z) (fun _=>zn) (fun i=>l.length - i) _ (fun i hI=>?_) 0 ⟨Nat.zero_le _,hr,fun j hj=>by omega⟩
 obtain⟨h1,h2,h3⟩:=hI
 have hle:=M6 hn h1 h3
 by_cases hi:i<l.length
 ·obtain⟨x,hx⟩:=ej hi
  obtain⟨el,hel⟩:=hL.ay (i:=i) (by simp;omega)
  have hlen:=aM (row:=ae.row) (sz:=4) l fun _=>rfl
  have hrow:aB Try.prog (bC el (l.map ae.row).flatten) 89 (0+i*4)=some (.agg ⟨x.row⟩):=bO (r:=x.row) (sz:=4) Try.underlying89 rfl rfl hlen (by rw[List.getElem?_map,hx];rfl)
  have hk:=V9 x (l.take i)
  have hkT:x.sf=true->kY 113 (.agg ⟨[zv x.from_,zv x.ax,T1]⟩) ((l.take i).map gh):=fun h=>by unfold gh at hk;rw[h] at hk;exact hk
  have hkF:x.sf=false->kY 113 (.agg ⟨[zv x.from_,zv x.ax,F0]⟩) ((l.take i).map gh):=fun h=>by unfold gh at hk;rw[h] at hk;exact hk
  have hmT:x.sf=true->((.agg ⟨[zv x.from_,zv x.ax,T1]⟩:Value)∈((l.take i).map gh)↔(l.take i).any (cf x)=true):=fun h=>by have:=Ah x (l.take i);unfold gh at this;rw[h] at this;exact this
  have hmF:x.sf=false->((.agg ⟨[zv x.from_,zv x.ax,F0]⟩:Value)∈((l.take i).map gh)↔(l.take i).any (cf x)=true):=fun h=>by have:=Ah x (l.take i);unfold gh at this;rw[h] at this;exact this
  have hps:=KB (l.take i)
  have hlk:fV n l i x=if x.from_<0\/n<=x.from_\/x.ax<0\/n<=x.ax\/x.from_=x.ax then 9 else if x.aI<1\/14400<x.aI then 2 else if (l.take i).any (cf x)=true then 6 else 0:=rfl
  have ret: ∀e:Int,e=fV n l i x->e≠0->Al.R (OY z zn l.length cp n r.1 r.2).l ⟨.ret,[(4,iv i),(5,zv e)],[],1,z,zn⟩:=fun e h h0=>by
   have hb:c8 n l i=some e:=by unfold c8;rw[hx];simp only;rw[←h,if_neg h0]
   have:r=((i:Int),e):=by rw[←h2,dq hi hb]
   rw[this]
   exact bJ trivial
  have htk:l.take (i+1)=l.take i++[x]:=by rw[List.take_add_one,hx];rfl
  have jP:fV n l i x=0->aj (fun i=>i<=l.length/\scan (c8 n l) (l.length - i) i=r/\ ∀j,j<i->c8 n l j=none) (fun i=>Ak n l.length cp i) (fun i=>[(0,bB ((l.take i).map gh))]) 1 (fun _=>z) (fun _=>zn) (fun i=>l.length - i) (Al.R (OY z zn l.length cp n r.1 r.2).l) i .normal (Ak n l.length cp (i+1)) [(0,bB ((l.take i).map gh++[gh x]))] 1 z zn:=fun h0=>by
   have hb:c8 n l i=none:=by unfold c8;rw[hx];simp only;rw[if_pos h0]
   refine⟨i+1,rfl,?_,rfl,rfl,rfl,⟨hi,by rw[←cU hi hb];exact h2,fun j hj=>?_⟩,by show l.length - (i+1)<l.length - i;omega⟩
   ·show _=[(0,bB ((l.take (i+1)).map gh))]
    rw[htk,List.map_append];rfl
   ·by_cases e:j=i
    ·subst e;exact hb
    ·exact h3 j (by omega)
  have hc:decide ((i:Int)<(l.length:Int))=true:=by simp;omega
  refine t100 (XK z zn i l.length cp n (bC el (l.map ae.row).flatten) x ((l.take i).map gh) (aj _ _ _ _ _ _ _ _ _) ⟨fun _=>?_,fun h=>(by rw[hc] at h;cases h)⟩)
  (repeat' first|(with_reducible first|exact rfl|trivial|assumption|apply And.intro|exact hz|exact hi|exact hel|exact hrow|exact(hkT (by assumption)).no|exact(hkF (by assumption)).no|exact(hkT (by assumption)).ex|exact(hkF (by assumption)).ex|exact dr _ hps rfl|exact gQ hps|exact aG (by omega))|exact(rfl:Int.ofNat _=_)|exact(rfl:gP _ _=_)|exact hz|exact hi|exact hel|exact hrow|exact(hkT (by assumption)).no|exact(hkF (by assumption)).no|exact(hkT (by assumption)).ex|exact(hkF (by assumption)).ex|exact dr _ hps rfl|exact gQ hps|exact aG (by omega)|intro hq)
  all_goals clear hrow hel hz hL hlen hps
  all_goals try (have hm1:=(hmT (by assumption)).1 ((hkT (by assumption)).zc (by with_reducible assumption)))
  all_goals try (have hm1:=(hmF (by assumption)).1 ((hkF (by assumption)).zc (by with_reducible assumption)))
  all_goals try (have hm1:=fun h=>(hkT (by assumption)).JP (by with_reducible assumption) ((hmT (by assumption)).2 h))
  all_goals try (have hm1:=fun h=>(hkF (by assumption)).JP (by with_reducible assumption) ((hmF (by assumption)).2 h))
  all_goals clear hk hkT hkF hmT hmF
  all_goals first
   |(refine ret _ ?_ (by decide)
     clear ret jP h2 h3 hr
     rw[hlk]
     clear hlk
     (repeat' split)<;>first|rfl|(exfalso;simp only[Bool.not_eq_false',Bool.not_eq_true',Bool.and_eq_true,Bool.and_eq_false_iff,decide_eq_true_eq,decide_eq_false_iff_not,bne_iff_ne,bne_eq_false_iff_eq,beq_iff_eq,beq_eq_false_iff_ne,ne_eq] at*;omega)|(exfalso;simp_all;done))
   |(have h0:fV n l i x=0:=by
      clear ret jP h2 h3 hr
      rw[hlk]
      clear hlk
      (repeat' split)<;>first|rfl|(exfalso;simp only[Bool.not_eq_false',Bool.not_eq_true',Bool.and_eq_true,Bool.and_eq_false_iff,decide_eq_true_eq,decide_eq_false_iff_not,bne_iff_ne,bne_eq_false_iff_eq,beq_iff_eq,beq_eq_false_iff_ne,ne_eq] at*;omega)|(exfalso;simp_all;done)
     have q:=jP h0
     unfold gh at q
     rw[show x.sf=_ by assumption] at q
     rw[fO]
     exact q)
 ·have hc:decide ((i:Int)<(l.length:Int))=false:=by simp;omega
  refine t100 (XK z zn i l.length cp n ⟨[],0,0,0,true,true,0,true⟩ ⟨0,0,0,true⟩ ((l.take i).map gh) (aj _ _ _ _ _ _ _ _ _) ⟨fun h=>(by rw[hc] at h;cases h),fun _=>?_⟩)
  (repeat' first|(with_reducible first|exact rfl|trivial|assumption|apply And.intro|exact hz)|exact(rfl:Int.ofNat _=_)|exact(rfl:gP _ _=_)|exact hz|intro hq)
  rw[dD (by omega)] at h2
  refine dw (bJ ?_)
  rw[←h2]
  exact⟨rfl,rfl⟩
theorem Mb(hz:an z zn)(hg:fD Try.prog z gP)(n:Int)(hn:n<=64)(l:List ae)(cp:Nat)(hL:cy z 4 (l.map ae.row)):
 A1 z zn 42 [tb 4 l.length cp,zv n] [] 0 0 (.tuple ⟨[zv (aY n l).1,zv (aY n l).2]⟩) []:=by
 have hK:=KV hz hg n hn l cp hL (aY n l) rfl
 refine bt hg (fn:=Try.f42) (by kernel_rfl) (by kernel_rfl) hz ⟨by decide,by decide⟩ rfl (fso z zn l.length cp n (aY n l).1 (aY n l).2 _ ?_)
 (repeat' first|(with_reducible first|exact rfl|trivial|assumption|apply And.intro|exact hz|exact hK|exact aT _ _ _ _|exact q1)|exact(rfl:Int.ofNat _=_)|exact(rfl:gP _ _=_)|exact hz|exact hK|exact aT _ _ _ _|exact q1|intro hq)
 all_goals first|(rw[hq.1,hq.2];exact q1)|trace_state
theorem IS(hz:an z zn)(hg:fD Try.prog z gP)(n:Int):
 A1 z zn 42 [aw,zv n] [] 0 0 (.tuple ⟨[zv 0,zv 0]⟩) []:=by
 have hL:ai Try.prog (ah (ag Try.f42) 0) 1 62 (wD n) [(0,bB [])] 1 z zn (Al.R (RK z zn n).l):=by
  refine ak hD hg (α:=Nat) 1 62 1 (fun i=>i=0) (fun i=>wD n) (fun i=>[(0,bB [])]) (fun _=>z) (fun _=>zn) (fun i=>1) _ (fun i hI=>?_) 0 rfl
  refine t100 (Ve z zn n (aj _ _ _ _ _ _ _ _ _) ?_)
  (repeat' first|(with_reducible first|exact rfl|trivial|assumption|apply And.intro|exact hz)|exact(rfl:Int.ofNat _=_)|exact(rfl:gP _ _=_)|exact hz|intro hq)
  all_goals first|exact bJ trivial|trace_state
 refine bt hg (fn:=Try.f42) (by kernel_rfl) (by kernel_rfl) hz ⟨by decide,by decide⟩ rfl (Wu z zn n _ ?_)
 (repeat' first|(with_reducible first|exact rfl|trivial|assumption|apply And.intro|exact hz|exact hL|exact q1)|exact(rfl:Int.ofNat _=_)|exact(rfl:gP _ _=_)|exact hz|exact hL|exact q1|intro hq)
end
section
variable{z:T aa}{zn:Nat}
theorem Lr(hz:an z zn)(hg:fD Try.prog z gP)(N:aA)(hn:N.ns<=64)(l:List ae)(hN:N.np=l.length)(hnet: ∀σ:bd,aE (aq σ []) (N.cu N.p1)=some (N.cu N.p1))(hL:cy z 4 (l.map ae.row))(r:Int × Int)(hr:scan (c8 N.ns l) l.length 0=r):
 ai Try.prog (ah (ag Try.f18) 0) 3 78 (Aw N.np N.pc 0) [(0,N.cu N.p1),(1,df 0 0 0),(2,bB [])] 3 z zn (Al.R (O8 z zn N (if r.2=0 then 0 else 4) r.1 r.2).l):=by
 refine ak hD hg (α:=Nat) 3 78 3 (fun i=>i<=l.length/\scan (c8 N.ns l) (l.length - i) i=r/\ ∀j,j<i->c8 N.ns l j=none) (fun i=>Aw N.np N.pc i) (fun i=>[(0,N.cu N.p1),(1,df 0 0 0),(2,bB ((l.take i).map gg))]) (fun _=>z) (fun _=>zn) (fun i=>l.length - i) _ (fun i hI=>?_) 0 ⟨Nat.zero_le _,hr,fun j hj=>by omega⟩
 obtain⟨h1,h2,h3⟩:=hI
 have hle:=M6 (by omega:(N.ns:Int)<=64) h1 h3
 by_cases hi:i<l.length
 ·obtain⟨x,hx⟩:=ej hi
  obtain⟨el,hel⟩:=hL.ay (i:=i) (by simp;omega)
  have hlen:=aM (row:=ae.row) (sz:=4) l fun _=>rfl
  have hrow:aB Try.prog (bC el (l.map ae.row).flatten) 89 (0+i*4)=some (.agg ⟨x.row⟩):=bO (r:=x.row) (sz:=4) Try.underlying89 rfl rfl hlen (by rw[List.getElem?_map,hx];rfl)
  have hk:=V8 x (l.take i)
  have hkT:x.sf=true->kY 89 (.agg ⟨[zv x.from_,zv x.ax,I 0,T1]⟩) ((l.take i).map gg):=fun h=>by unfold gg at hk;rw[h] at hk;exact hk
  have hkF:x.sf=false->kY 89 (.agg ⟨[zv x.from_,zv x.ax,I 0,F0]⟩) ((l.take i).map gg):=fun h=>by unfold gg at hk;rw[h] at hk;exact hk
  have hmT:x.sf=true->((.agg ⟨[zv x.from_,zv x.ax,I 0,T1]⟩:Value)∈((l.take i).map gg)↔(l.take i).any (cf x)=true):=fun h=>by have:=Ag x (l.take i);unfold gg at this;rw[h] at this;exact this
  have hmF:x.sf=false->((.agg ⟨[zv x.from_,zv x.ax,I 0,F0]⟩:Value)∈((l.take i).map gg)↔(l.take i).any (cf x)=true):=fun h=>by have:=Ag x (l.take i);unfold gg at this;rw[h] at this;exact this
  have hps:=KA (l.take i)
  have hlk:fV N.ns l i x=if x.from_<0\/(N.ns:Int)<=x.from_\/x.ax<0\/(N.ns:Int)<=x.ax\/x.from_=x.ax then 9 else if x.aI<1\/14400<x.aI then 2 else if (l.take i).any (cf x)=true then 6 else 0:=rfl
  have ret: ∀e:Int,e=fV N.ns l i x->e≠0->Al.R (O8 z zn N (if r.2=0 then 0 else 4) r.1 r.2).l ⟨.ret,[(2,ip 1)],[(1,df 4 i e)],3,z,zn⟩:=fun e h h0=>by
   have hb:c8 N.ns l i=some e:=by unfold c8;rw[hx];simp only;rw[←h,if_neg h0]
   have:r=((i:Int),e):=by rw[←h2,dq hi hb]
   rw[this]
   simp only[if_neg h0]
   exact bJ (by decide)
  have htk:l.take (i+1)=l.take i++[x]:=by rw[List.take_add_one,hx];rfl
  have jP:fV N.ns l i x=0->aj (fun i=>i<=l.length/\scan (c8 N.ns l) (l.length - i) i=r/\ ∀j,j<i->c8 N.ns l j=none) (fun i=>Aw N.np N.pc i) (fun i=>[(0,N.cu N.p1),(1,df 0 0 0),(2,bB ((l.take i).map gg))]) 3 (fun _=>z) (fun _=>zn) (fun i=>l.length - i) (Al.R (O8 z zn N (if r.2=0 then 0 else 4) r.1 r.2).l) i .normal (Aw N.np N.pc (i+1)) [(0,N.cu N.p1),(1,df 0 0 0),(2,bB ((l.take i).map gg++[gg x]))] 3 z zn:=fun h0=>by
   have hb:c8 N.ns l i=none:=by unfold c8;rw[hx];simp only;rw[if_pos h0]
   refine⟨i+1,rfl,?_,rfl,rfl,rfl,⟨hi,by rw[←cU hi hb];exact h2,fun j hj=>?_⟩,by show l.length - (i+1)<l.length - i;omega⟩
   ·show _=[(0,N.cu N.p1),(1,df 0 0 0),(2,bB ((l.take (i+1)).map gg))]
    rw[htk,List.map_append];rfl
   ·by_cases e:j=i
    ·subst e;exact hb
    ·exact h3 j (by omega)
  have hc:decide ((i:Int)<(N.np:Int))=true:=by simp;omega
  refine t100 (X2 z zn i N (bC el (l.map ae.row).flatten) x ((l.take i).map gg) (aj _ _ _ _ _ _ _ _ _) ⟨fun _=>?_,fun h=>(by rw[hc] at h;cases h)⟩)
  (repeat' first|(with_reducible first|exact rfl|trivial|assumption|apply And.intro|exact hz|exact(by omega:i<N.np)|exact hnet _|exact hel|exact hrow|exact(hkT (by assumption)).no|exact(hkF (by assumption)).no|exact(hkT (by assumption)).ex|exact(hkF (by assumption)).ex|exact dr _ hps rfl|exact gQ hps|exact aG (by omega))|exact(rfl:Int.ofNat _=_)|exact(rfl:gP _ _=_)|exact hz|exact(by omega:i<N.np)|exact hnet _|exact hel|exact hrow|exact(hkT (by assumption)).no|exact(hkF (by assumption)).no|exact(hkT (by assumption)).ex|exact(hkF (by assumption)).ex|exact dr _ hps rfl|exact gQ hps|exact aG (by omega)|intro hq)
  all_goals clear hrow hel hz hL hlen hps
  all_goals try (have hm1:=(hmT (by assumption)).1 ((hkT (by assumption)).zc (by with_reducible assumption)))
  all_goals try (have hm1:=(hmF (by assumption)).1 ((hkF (by assumption)).zc (by with_reducible assumption)))
  all_goals try (have hm1:=fun h=>(hkT (by assumption)).JP (by with_reducible assumption) ((hmT (by assumption)).2 h))
  all_goals try (have hm1:=fun h=>(hkF (by assumption)).JP (by with_reducible assumption) ((hmF (by assumption)).2 h))
  all_goals clear hk hkT hkF hmT hmF
  all_goals first
   |(refine ret _ ?_ (by decide)
     clear ret jP h2 h3 hr
     rw[hlk]
     clear hlk
     (repeat' split)<;>first|rfl|(exfalso;simp only[Bool.not_eq_false',Bool.not_eq_true',Bool.and_eq_true,Bool.and_eq_false_iff,decide_eq_true_eq,decide_eq_false_iff_not,bne_iff_ne,bne_eq_false_iff_eq,beq_iff_eq,beq_eq_false_iff_ne,ne_eq] at*;omega)|(exfalso;simp_all;done))
   |(have h0:fV N.ns l i x=0:=by
      clear ret jP h2 h3 hr
      rw[hlk]
      clear hlk
      (repeat' split)<;>first|rfl|(exfalso;simp only[Bool.not_eq_false',Bool.not_eq_true',Bool.and_eq_true,Bool.and_eq_false_iff,decide_eq_true_eq,decide_eq_false_iff_not,bne_iff_ne,bne_eq_false_iff_eq,beq_iff_eq,beq_eq_false_iff_ne,ne_eq] at*;omega)|(exfalso;simp_all;done)
     have q:=jP h0
     unfold gg at q
     rw[show x.sf=_ by assumption] at q
     rw[fO]
     exact q)
 ·have hc:decide ((i:Int)<(N.np:Int))=false:=by simp;omega
  refine t100 (X2 z zn i N ⟨[],0,0,0,true,true,0,true⟩ ⟨0,0,0,true⟩ ((l.take i).map gg) (aj _ _ _ _ _ _ _ _ _) ⟨fun h=>(by rw[hc] at h;cases h),fun _=>?_⟩)
  (repeat' first|(with_reducible first|exact rfl|trivial|assumption|apply And.intro|exact hz|exact hnet _)|exact(rfl:Int.ofNat _=_)|exact(rfl:gP _ _=_)|exact hz|exact hnet _|intro hq)
  rw[dD (by omega)] at h2
  refine dw (bJ ?_)
  rw[←h2]
  rfl
theorem Mm(hz:an z zn)(hg:fD Try.prog z gP)(N:aA)(hn:N.ns<=64)(l:List ae)(hN:N.np=l.length)(hnet: ∀σ:bd,aE (aq σ []) (N.cu N.p1)=some (N.cu N.p1))(hL:cy z 4 (l.map ae.row))(cl:Bool)(hcl:(aY N.ns l).2=0->A1 z zn 30 [N.p1,iv N.ns] [] 0 0 (.bool cl) [])(r:Int × Int × Int)
 (hr:r=if (aY N.ns l).2≠0 then (4,aY N.ns l) else if cl=true then (0,0,0) else (4,0,18)):
 A1 z zn 18 [.agg ⟨N.ir N.p1⟩] [] 0 0 (.agg ⟨[zv r.1,zv r.2.1,zv r.2.2]⟩) []:=by
 have hcl':(if (aY N.ns l).2=0 then (0:Int) else 4)=0->A1 z zn 30 [N.p1,iv N.ns] [] 0 0 (.bool cl) []:=fun h=>hcl (by
  split at h
  ·assumption
  ·cases h)
 have hK:=Lr hz hg N hn l hN hnet hL (aY N.ns l) rfl
 refine bt hg (fn:=Try.f18) (by kernel_rfl) (by kernel_rfl) hz ⟨by decide,by decide⟩ rfl (fcp z zn N (if (aY N.ns l).2=0 then 0 else 4) (aY N.ns l).1 (aY N.ns l).2 cl _ ?_)
 (repeat' first|(with_reducible first|exact rfl|trivial|assumption|apply And.intro|exact hz|exact hK|exact hcl' (by with_reducible assumption)|exact hnet _|exact aT _ _ _ _)|exact(rfl:Int.ofNat _=_)|exact(rfl:gP _ _=_)|exact hz|exact hK|exact hcl' (by with_reducible assumption)|exact hnet _|exact aT _ _ _ _|intro hq)
 all_goals first
  |(refine BA ?_
    rw[hr]
    by_cases h:(aY N.ns l).2=0<;>simp_all;done)
theorem I4(hz:an z zn)(hg:fD Try.prog z gP)(N:aA)(hnet: ∀σ:bd,aE (aq σ []) (N.cu aw)=some (N.cu aw))(cl:Bool)(hcl:A1 z zn 30 [aw,iv N.ns] [] 0 0 (.bool cl) [])(r:Int × Int × Int)
 (hr:r=if cl=true then (0,0,0) else (4,0,18)):
 A1 z zn 18 [.agg ⟨N.ir aw⟩] [] 0 0 (.agg ⟨[zv r.1,zv r.2.1,zv r.2.2]⟩) []:=by
 have hL:ai Try.prog (ah (ag Try.f18) 0) 3 78 wM [(0,N.cu aw),(1,df 0 0 0),(2,bB [])] 3 z zn (Al.R (So z zn N).l):=by
  refine ak hD hg (α:=Nat) 3 78 3 (fun i=>i=0) (fun i=>wM) (fun i=>[(0,N.cu aw),(1,df 0 0 0),(2,bB [])]) (fun _=>z) (fun _=>zn) (fun i=>1) _ (fun i hI=>?_) 0 rfl
  refine t100 (Vs z zn N (aj _ _ _ _ _ _ _ _ _) ?_)
  (repeat' first|(with_reducible first|exact rfl|trivial|assumption|apply And.intro|exact hz|exact hnet _)|exact(rfl:Int.ofNat _=_)|exact(rfl:gP _ _=_)|exact hz|exact hnet _|intro hq)
  all_goals first|exact bJ trivial|trace_state
 refine bt hg (fn:=Try.f18) (by kernel_rfl) (by kernel_rfl) hz ⟨by decide,by decide⟩ rfl (WJ z zn N cl _ ?_)
 (repeat' first|(with_reducible first|exact rfl|trivial|assumption|apply And.intro|exact hz|exact hL|exact hcl|exact hnet _)|exact(rfl:Int.ofNat _=_)|exact(rfl:gP _ _=_)|exact hz|exact hL|exact hcl|exact hnet _|intro hq)
 all_goals first
  |(refine BA ?_
    rw[hr]
    simp_all;done)
end
end Go.Proofs.Nw
namespace Go.Proofs.Nw
open Go Go.AV
set_option maxRecDepth 100000
section
variable{z:T aa}{zn:Nat}
theorem HA(d w c:Int)(hz:an z zn)(hg:fD Try.prog z gP)(l:List bP)(cp:Nat)(e:TypeId)(he:z.get 5=some (.ay (bC e (l.map bP.row).flatten)))(hl:l.length<100000)(i:Nat)(x:bP)(hx:l[i]? =some x)(b:Bool)(hb:b=(l.take i).any fun y=>y.id.data==x.id.data):
 ai Try.prog (ah (ah (ag Try.f37) 0) 0) 2 88 (wJ i 0) [(0,vL (tb 5 l.length cp) d w c),(1,Kz x)] 2 z zn (Al.R (RV z zn i (vL (tb 5 l.length cp) d w c) x b).l):=by
 have hil:i<l.length:=(List.getElem?_eq_some_iff.1 hx).1
 refine ak hD hg (α:=Nat) 2 88 2 (fun k=>k<=i/\((l.take k).any fun y=>y.id.data==x.id.data)=false) (fun k=>wJ i k) (fun _=>[(0,vL (tb 5 l.length cp) d w c),(1,Kz x)]) (fun _=>z) (fun _=>zn) (fun k=>i - k) _ (fun k hI=>?_) 0 ⟨Nat.zero_le _,rfl⟩
 obtain⟨h1,h2⟩:=hI
 have hlen:=aM (row:=bP.row) (sz:=6) l fun _=>rfl
 have rx:aB Try.prog (bC e (l.map bP.row).flatten) 9 (0+i*6+0)=some (.string x.id):=bu (r:=x.row) (j:=0) Try.underlying9 rfl hlen (by rw[List.getElem?_map,hx];rfl) rfl
 by_cases hk:k<i
 ·obtain⟨y,hy⟩:=ej (l:=l) (i:=k) (by omega)
  have ry:aB Try.prog (bC e (l.map bP.row).flatten) 9 (0+k*6+0)=some (.string y.id):=bu (r:=y.row) (j:=0) Try.underlying9 rfl hlen (by rw[List.getElem?_map,hy];rfl) rfl
  have hc:decide ((k:Int)<(i:Int))=true:=by simp;omega
  refine t100 (Ru z zn i k l.length cp (bC e (l.map bP.row).flatten) x y d w c (aj _ _ _ _ _ _ _ _ _) ⟨fun _=>?_,fun h=>(by rw[hc] at h;cases h)⟩)
  (repeat' first|(with_reducible first|exact rfl|trivial|assumption|apply And.intro|exact hz|exact he|exact rx|exact ry|exact hil|exact(by omega:k<l.length)|exact aG (by omega))|exact(rfl:Int.ofNat _=_)|exact(rfl:gP _ _=_)|exact hz|exact he|exact rx|exact ry|exact hil|exact(by omega:k<l.length)|exact aG (by omega)|intro hq)
  ·rw[oT] at hq
   exact bJ (by rw[hb];exact any_true hy hk hq)
  ·rw[oT] at hq
   exact⟨k+1,rfl,rfl,rfl,rfl,rfl,⟨hk,by rw[jJ hy,h2,hq];rfl⟩,by show i - (k+1)<i - k;omega⟩
 ·have hc:decide ((k:Int)<(i:Int))=false:=by simp;omega
  refine t100 (Ru z zn i k l.length cp (bC e (l.map bP.row).flatten) x x d w c (aj _ _ _ _ _ _ _ _ _) ⟨fun h=>(by rw[hc] at h;cases h),fun _=>?_⟩)
  (repeat' first|(with_reducible first|exact rfl|trivial|assumption|apply And.intro|exact hz)|exact(rfl:Int.ofNat _=_)|exact(rfl:gP _ _=_)|exact hz|intro hq)
  refine dw (bJ ?_)
  rw[hb,←h2,show k=i by omega]
theorem K6(d w c:Int)(hz:an z zn)(hg:fD Try.prog z gP)(l:List bP)(cp:Nat)(ht:cy z 5 (l.map bP.row))(hl:l.length<100000)(r:Int × Int)(hr:scan (eD l) l.length 0=r):
 ai Try.prog (ah (ag Try.f37) 0) 1 88 (r9 0) [(0,vL (tb 5 l.length cp) d w c)] 1 z zn (Al.R (RW z zn (vL (tb 5 l.length cp) d w c) r.1 r.2).l):=by
 refine ak hD hg (α:=Nat) 1 88 1 (fun i=>i<=l.length/\scan (eD l) (l.length - i) i=r) (fun i=>r9 i) (fun i=>[(0,vL (tb 5 l.length cp) d w c)]) (fun _=>z) (fun _=>zn) (fun i=>l.length - i) _ (fun i hI=>?_) 0 ⟨Nat.zero_le _,hr⟩
 obtain⟨h1,h2⟩:=hI
 by_cases hi:i<l.length
 ·obtain⟨e,he⟩:=ht.ay (i:=i) (by simpa using hi)
  obtain⟨x,hx⟩:=ej hi
  have hid:=Tz (ht.sz (i:=i) (r:=x.row) (s:=x.id) (by rw[List.getElem?_map,hx];rfl) (by simp))
  have hlen:=aM (row:=bP.row) (sz:=6) l fun _=>rfl
  have hr:(l.map bP.row)[i]? =some x.row:=by rw[List.getElem?_map,hx];rfl
  have r0:aB Try.prog (bC e (l.map bP.row).flatten) 86 (0+i*6)=some (.agg ⟨x.row⟩):=bO (r:=x.row) (sz:=6) Try.underlying86 rfl rfl hlen hr
  have hL:=HA d w c hz hg l cp e he hl i x hx _ rfl
  generalize hb:((l.take i).any fun y=>y.id.data==x.id.data)=b at hL
  have hc:decide ((i:Int)<(l.length:Int))=true:=by simp;omega
  have ret: ∀e:Int,eD l i=some e->Al.R (RW z zn (vL (tb 5 l.length cp) d w c) r.1 r.2).l ⟨.ret,[(2,iv i),(3,zv e)],[],1,z,zn⟩:=fun e h=>by
   have:r=((i:Int),e):=by rw[←h2,dq hi h]
   rw[this];exact bJ trivial
  have hbad:eD l i=if bV x.id=false then some 12 else if b=true then some 6 else if (zb x.cD 0 1000000 && zb x.cC 1 8 && zb x.cB 1 16 && zb x.aI 0 86400 && zb x.ml 1 255)=false then some 2 else none:=by
   simp only[eD,hx,hb]
  refine t100 (XV z zn i l.length cp (bC e (l.map bP.row).flatten) x b d w c (aj _ _ _ _ _ _ _ _ _) ⟨fun _=>?_,fun h=>(by rw[hc] at h;cases h)⟩)
  (repeat' first|(with_reducible first|exact rfl|trivial|assumption|apply And.intro|exact hz|exact hi|exact he|exact r0|exact hL|exact aG (by omega))|exact(rfl:Int.ofNat _=_)|exact(rfl:gP _ _=_)|exact hz|exact hi|exact he|exact r0|exact hL|exact aG (by omega)|intro hq)
  all_goals clear hL r0 hr hlen he ht hz
  all_goals first
   |with_reducible assumption
   |rfl
   |(refine ret _ ?_;clear ret h2;rw[hbad];(try simp only[fold] at*);simp_all;done)
   |(refine ret _ ?_;clear ret h2;rw[hbad];(try simp only[fold] at*);simp_all;omega)
   |(have hb0:eD l i=none:=by
      clear ret h2
      rw[hbad,if_neg (by simp_all),if_neg (by simp_all),if_neg (by(try simp only[fold] at*);simp_all;done)]
     exact⟨i+1,rfl,rfl,rfl,rfl,rfl,⟨hi,by rw[←cU hi hb0];exact h2⟩,by show l.length - (i+1)<l.length - i;omega⟩)
 ·have hc:decide ((i:Int)<(l.length:Int))=false:=by simp;omega
  refine t100 (XV z zn i l.length cp ⟨[],0,0,0,true,true,0,true⟩ ⟨⟨#[]⟩,0,0,0,0,0⟩ true d w c (aj _ _ _ _ _ _ _ _ _) ⟨fun h=>(by rw[hc] at h;cases h),fun _=>?_⟩)
  (repeat' first|(with_reducible first|exact rfl|trivial|assumption|apply And.intro|exact hz)|exact(rfl:Int.ofNat _=_)|exact(rfl:gP _ _=_)|exact hz|intro hq)
  refine dw (bJ ?_)
  rw[dD (by omega)] at h2
  rw[←h2]
  exact⟨rfl,rfl⟩
theorem I0(hz:an z zn)(hg:fD Try.prog z gP)(l:List bP)(cp:Nat)(ht:cy z 5 (l.map bP.row))(d w c:Int):
 A1 z zn 37 [.agg ⟨[tb 5 l.length cp,zv d,zv w,zv c]⟩] [] 0 0 (.tuple ⟨[zv (bM d w c l).1,zv (bM d w c l).2]⟩) []:=by
 refine bt hg (fn:=Try.f37) (by kernel_rfl) (by kernel_rfl) hz ⟨by decide,by decide⟩ rfl (frf z zn l.length cp (bM d w c l).1 (bM d w c l).2 d w c _ ?_)
 cases hf:fJ d w c with
 |false=>
  have hr:bM d w c l=(-1,2):=if_pos hf
  rw[hr]
  unfold fJ at hf
  (repeat' first|(with_reducible first|exact rfl|trivial|assumption|apply And.intro|exact hz|exact q1)|exact(rfl:Int.ofNat _=_)|exact(rfl:gP _ _=_)|exact hz|exact q1|intro hq)
  all_goals (exfalso;(try simp only[fold] at*);simp_all;done)
 |true=>
  by_cases h:16<l.length
  ·have hr:bM d w c l=(0,5):=by unfold bM;rw[if_neg (by simp[hf]),if_pos h]
   have hc:decide ((l.length:Int)>16)=true:=by simp;omega
   rw[hr]
   unfold fJ at hf
   (repeat' first|(with_reducible first|exact rfl|trivial|assumption|apply And.intro|exact hz|exact q1)|exact(rfl:Int.ofNat _=_)|exact(rfl:gP _ _=_)|exact hz|exact q1|intro hq)
   all_goals (exfalso;(try simp only[fold] at*);simp_all;done)
  ·have hr:bM d w c l=scan (eD l) l.length 0:=by unfold bM;rw[if_neg (by simp[hf]),if_neg h]
   have hc:decide ((l.length:Int)>16)=false:=by simp;omega
   have hL:=K6 d w c hz hg l cp ht (by omega) (bM d w c l) hr.symm
   unfold fJ at hf
   (repeat' first|(with_reducible first|exact rfl|trivial|assumption|apply And.intro|exact hz|exact hL|exact q1)|exact(rfl:Int.ofNat _=_)|exact(rfl:gP _ _=_)|exact hz|exact hL|exact q1|intro hq)
   all_goals first|(rw[hq.1,hq.2];exact q1)|(exfalso;(try simp only[fold] at*);simp_all;done)|trace_state
end
end Go.Proofs.Nw
namespace Go.Proofs.Nw
open Go Go.AV
set_option maxHeartbeats 4000000
set_option maxRecDepth 100000
section
variable{z:T aa}{zn:Nat}
theorem FD(hz:an z zn)(hg:fD Try.prog z gP):A1 z zn 32 [aw] [] 0 0 (.tuple ⟨[I 0,I 0]⟩) []:=by
 have hL:ai Try.prog (ah (ag Try.f32) 0) 0 57 uk [] 0 z zn (Al.R (Se z zn 57).l):=by
  refine ak hD hg (α:=Unit) 0 57 0 (fun _=>True) (fun _=>uk) (fun _=>[]) (fun _=>z) (fun _=>zn) (fun _=>0) _ (fun i hI=>?_) () trivial
  refine t100 (Vi z zn (aj _ _ _ _ _ _ _ _ _) ?_)
  (repeat' first|(with_reducible first|exact rfl|trivial|assumption|apply And.intro|exact hz)|exact(rfl:Int.ofNat _=_)|exact(rfl:gP _ _=_)|exact hz|intro hq)
  exact bJ trivial
 refine bt hg (fn:=Try.f32) (by kernel_rfl) (by kernel_rfl) hz ⟨by decide,by decide⟩ rfl (Wy z zn _ ?_)
 (repeat' first|(with_reducible first|exact rfl|trivial|assumption|apply And.intro|exact hz|exact hL|exact q1)|exact(rfl:Int.ofNat _=_)|exact(rfl:gP _ _=_)|exact hz|exact hL|exact q1|intro hq)
theorem CL(hz:an z zn)(hg:fD Try.prog z gP):A1 z zn 33 [aw] [] 0 0 (.tuple ⟨[I 0,I 0]⟩) []:=by
 have hL:ai Try.prog (ah (ag Try.f33) 0) 0 48 uk [] 0 z zn (Al.R (Se z zn 48).l):=by
  refine ak hD hg (α:=Unit) 0 48 0 (fun _=>True) (fun _=>uk) (fun _=>[]) (fun _=>z) (fun _=>zn) (fun _=>0) _ (fun i hI=>?_) () trivial
  refine t100 (Vj z zn (aj _ _ _ _ _ _ _ _ _) ?_)
  (repeat' first|(with_reducible first|exact rfl|trivial|assumption|apply And.intro|exact hz)|exact(rfl:Int.ofNat _=_)|exact(rfl:gP _ _=_)|exact hz|intro hq)
  exact bJ trivial
 refine bt hg (fn:=Try.f33) (by kernel_rfl) (by kernel_rfl) hz ⟨by decide,by decide⟩ rfl (Wz z zn _ ?_)
 (repeat' first|(with_reducible first|exact rfl|trivial|assumption|apply And.intro|exact hz|exact hL|exact q1)|exact(rfl:Int.ofNat _=_)|exact(rfl:gP _ _=_)|exact hz|exact hL|exact q1|intro hq)
theorem Ml(hz:an z zn)(hg:fD Try.prog z gP)(d w c:Int):A1 z zn 17 [.agg ⟨[aw,zv d,zv w,zv c]⟩] [] 0 0 (.tuple ⟨[zv (bM d w c []).1,zv (bM d w c []).2]⟩) []:=by
 have hL:ai Try.prog (ah (ag Try.f17) 0) 2 79 wK [(1,bB [])] 2 z zn (Al.R (R9 z zn).l):=by
  refine ak hD hg (α:=Unit) 2 79 2 (fun _=>True) (fun _=>wK) (fun _=>[(1,bB [])]) (fun _=>z) (fun _=>zn) (fun _=>0) _ (fun i hI=>?_) () trivial
  refine t100 (Vl z zn (aj _ _ _ _ _ _ _ _ _) ?_)
  (repeat' first|(with_reducible first|exact rfl|trivial|assumption|apply And.intro|exact hz)|exact(rfl:Int.ofNat _=_)|exact(rfl:gP _ _=_)|exact hz|intro hq)
  exact bJ trivial
 refine bt hg (fn:=Try.f17) (by kernel_rfl) (by kernel_rfl) hz ⟨by decide,by decide⟩ rfl (WD z zn d w c _ ?_)
 (repeat' first|(with_reducible first|exact rfl|trivial|assumption|apply And.intro|exact hz|exact hL)|exact(rfl:Int.ofNat _=_)|exact(rfl:gP _ _=_)|exact hz|exact hL|intro hq)
 all_goals first
  |(have hf:fJ d w c=false:=by(simp only[Bool.not_eq_true',Bool.not_eq_false'] at*;simp only[fJ,zb, *,Bool.false_and,Bool.and_false,Bool.true_and,Bool.and_true])
    have hr:bM d w c []=(-1,2):=if_pos hf
    rw[hr];exact q1)
  |(have hf:fJ d w c=true:=by(simp only[Bool.not_eq_true',Bool.not_eq_false'] at*;simp only[fJ,zb, *,Bool.false_and,Bool.and_false,Bool.true_and,Bool.and_true])
    have hr:bM d w c []=(0,0):=by unfold bM;rw[if_neg (by simp[hf]),if_neg (by simp)];rfl
    rw[hr];exact q1)
theorem FI(hz:an z zn)(hg:fD Try.prog z gP)(d w c:Int):A1 z zn 37 [.agg ⟨[aw,zv d,zv w,zv c]⟩] [] 0 0 (.tuple ⟨[zv (bM d w c []).1,zv (bM d w c []).2]⟩) []:=by
 have hL:ai Try.prog (ah (ag Try.f37) 0) 1 88 (r9 0) [(0,vL aw d w c)] 1 z zn (Al.R (V0 z zn d w c).l):=by
  refine ak hD hg (α:=Unit) 1 88 1 (fun _=>True) (fun _=>r9 0) (fun _=>[(0,vL aw d w c)]) (fun _=>z) (fun _=>zn) (fun _=>0) _ (fun i hI=>?_) () trivial
  refine t100 (Vk z zn d w c (aj _ _ _ _ _ _ _ _ _) ?_)
  (repeat' first|(with_reducible first|exact rfl|trivial|assumption|apply And.intro|exact hz)|exact(rfl:Int.ofNat _=_)|exact(rfl:gP _ _=_)|exact hz|intro hq)
  exact bJ trivial
 refine bt hg (fn:=Try.f37) (by kernel_rfl) (by kernel_rfl) hz ⟨by decide,by decide⟩ rfl (WA z zn d w c _ ?_)
 (repeat' first|(with_reducible first|exact rfl|trivial|assumption|apply And.intro|exact hz|exact hL)|exact(rfl:Int.ofNat _=_)|exact(rfl:gP _ _=_)|exact hz|exact hL|intro hq)
 all_goals first
  |(have hf:fJ d w c=false:=by(simp only[Bool.not_eq_true',Bool.not_eq_false'] at*;simp only[fJ,zb, *,Bool.false_and,Bool.and_false,Bool.true_and,Bool.and_true])
    have hr:bM d w c []=(-1,2):=if_pos hf
    rw[hr];exact q1)
  |(have hf:fJ d w c=true:=by(simp only[Bool.not_eq_true',Bool.not_eq_false'] at*;simp only[fJ,zb, *,Bool.false_and,Bool.and_false,Bool.true_and,Bool.and_true])
    have hr:bM d w c []=(0,0):=by unfold bM;rw[if_neg (by simp[hf]),if_neg (by simp)];rfl
    rw[hr];exact q1)
end
section
variable{z:T aa}{zn:Nat}
theorem Ea(hz:an z zn)(hg:fD Try.prog z gP)(a b c d e f:Int):
 A1 z zn 13 [.slice (some ⟨0,0,none⟩) 2 2] [(0,JN a b c d e f)] 1 1 (.agg ⟨[zv (pk c f a d),zv (pk c f b e),zv (pk c f c f)]⟩) []:=by
 have hL:ai Try.prog (ah (ag Try.f13) 0) 2 17 (Au 0) [(0,JN a b c d e f),(1,df 0 0 0)] 2 z zn (Al.R (V1 z zn a b c d e f (pk c f a d) (pk c f b e) (pk c f c f)).l):=by
  refine ak hD hg (α:=Nat) 2 17 2 (fun i=>i<=2/\(0<i->c=0)/\(1<i->f=0)) (fun i=>Au i) (fun _=>[(0,JN a b c d e f),(1,df 0 0 0)]) (fun _=>z) (fun _=>zn) (fun i=>2 - i) _ (fun i hI=>?_) 0 ⟨by omega,fun h=>by omega,fun h=>by omega⟩
  obtain⟨h1,h2,h3⟩:=hI
  match i,h1 with
  |0,_=>
   refine t100 (Vr z zn 0 a b c d e f 0 0 0 (aj _ _ _ _ _ _ _ _ _) ?_)
   (repeat' first|(with_reducible first|exact rfl|trivial|assumption|apply And.intro|exact hz)|exact(rfl:Int.ofNat _=_)|exact(rfl:gP _ _=_)|exact hz|intro hq)
   all_goals first
    |(have h:c≠0:=by simpa using hq
      have ea:pk c f a d=a:=if_pos h
      have eb:pk c f b e=b:=if_pos h
      have ec:pk c f c f=c:=if_pos h
      rw[ea,eb,ec]
      exact bJ ⟨ea.symm,eb.symm,ec.symm⟩)
    |(have h:c=0:=by simpa using hq
      exact⟨1,rfl,rfl,rfl,rfl,rfl,⟨by omega,fun _=>h,fun h=>by omega⟩,by decide⟩)
  |1,_=>
   have h0:=h2 (by omega)
   refine t100 (Vq z zn 0 a b c d e f 0 0 0 (aj _ _ _ _ _ _ _ _ _) ?_)
   (repeat' first|(with_reducible first|exact rfl|trivial|assumption|apply And.intro|exact hz)|exact(rfl:Int.ofNat _=_)|exact(rfl:gP _ _=_)|exact hz|intro hq)
   all_goals first
    |(have h:f≠0:=by simpa using hq
      have ea:pk c f a d=d:=by unfold pk;rw[if_neg (by simp[h0]),if_pos h]
      have eb:pk c f b e=e:=by unfold pk;rw[if_neg (by simp[h0]),if_pos h]
      have ec:pk c f c f=f:=by unfold pk;rw[if_neg (by simp[h0]),if_pos h]
      rw[ea,eb,ec]
      exact bJ ⟨ea.symm,eb.symm,ec.symm⟩)
    |(have h:f=0:=by simpa using hq
      exact⟨2,rfl,rfl,rfl,rfl,rfl,⟨by omega,fun _=>h0,fun _=>h⟩,by decide⟩)
  |2,_=>
   refine t100 (Vp z zn 0 a b c d e f 0 0 0 (aj _ _ _ _ _ _ _ _ _) ?_)
   (repeat' first|(with_reducible first|exact rfl|trivial|assumption|apply And.intro|exact hz)|exact(rfl:Int.ofNat _=_)|exact(rfl:gP _ _=_)|exact hz|intro hq)
   all_goals first|exact dw (bJ ⟨h2 (by omega),h3 (by omega)⟩)|trace_state
 refine bt hg (fn:=Try.f13) (by kernel_rfl) (by kernel_rfl) hz ⟨by decide,by decide⟩ rfl (ffi z zn 0 a b c d e f (pk c f a d) (pk c f b e) (pk c f c f) _ ?_)
 (repeat' first|(with_reducible first|exact rfl|trivial|assumption|apply And.intro|exact hz|exact hL)|exact(rfl:Int.ofNat _=_)|exact(rfl:gP _ _=_)|exact hz|exact hL|intro hq)
 all_goals first
  |(obtain⟨e1,e2,e3⟩:=hq
    exact q1)
  |(obtain⟨e1,e2⟩:=hq
    refine BA ?_
    simp[pk,e1,e2];done)
def iq(s r:Int × Int)(u k p:Int × Int × Int)(f:Int × Int):Int × Int × Int:=
 if s.2≠0 then (0,s.1,s.2) else if r.2≠0 then (1,r.1,r.2) else if u.2.2≠0 then u else if k.2.2≠0 then k else if p.2.2≠0 then p else if f.2≠0 then (5,f.1,f.2) else (0,0,0)
theorem Mq(hz:an z zn)(hg:fD Try.prog z gP)(N:aA)(s r:Int × Int)(u k p:Int × Int × Int)(f:Int × Int)(hnet:bh (sig []) [.agg ⟨N.cells⟩]=some [.agg ⟨N.cells⟩])
 (hs1:bh (sig []) [.slice N.sa N.ns N.sc]=some [.slice N.sa N.ns N.sc]) (hr1:bh (sig []) [.slice N.ra N.nr N.rc]=some [.slice N.ra N.nr N.rc]) (hf1:bh (sig []) [.agg ⟨[.slice N.fa N.nf N.fc,zv N.d,zv N.w,zv N.c]⟩]=some [.agg ⟨[.slice N.fa N.nf N.fc,zv N.d,zv N.w,zv N.c]⟩])
 (hs:A1 z zn 11 [.slice N.sa N.ns N.sc] [] 0 0 (.tuple ⟨[zv s.1,zv s.2]⟩) [])
 (hr:A1 z zn 12 [.slice N.ra N.nr N.rc] [] 0 0 (.tuple ⟨[zv r.1,zv r.2]⟩) [])
 (hu:s.2=0->r.2=0->A1 z zn 15 [.agg ⟨N.cells⟩] [] 0 0 (.agg ⟨[zv u.1,zv u.2.1,zv u.2.2]⟩) [])
 (hk:s.2=0->r.2=0->u.2.2=0->A1 z zn 16 [.agg ⟨N.cells⟩] [] 0 0 (.agg ⟨[zv k.1,zv k.2.1,zv k.2.2]⟩) [])
 (hp:s.2=0->r.2=0->u.2.2=0->k.2.2=0->A1 z zn 18 [.agg ⟨N.cells⟩] [] 0 0 (.agg ⟨[zv p.1,zv p.2.1,zv p.2.2]⟩) [])
 (hf:A1 z zn 17 [.agg ⟨[.slice N.fa N.nf N.fc,zv N.d,zv N.w,zv N.c]⟩] [] 0 0 (.tuple ⟨[zv f.1,zv f.2]⟩) []):
 A1 z zn 6 [.agg ⟨N.cells⟩] [] 0 0 (.tuple ⟨[zv (iq s r u k p f).1,zv (iq s r u k p f).2.1,zv (iq s r u k p f).2.2]⟩) []:=by
 have pk0: ∀{c f:Int},(pk c f c f==0)=true->c=0/\f=0:=fun {c f} h=>by
  unfold pk at h
  split at h
  ·rename_i h1;exact(h1 (by simpa using h)).elim
  ·rename_i h1
   split at h
   ·rename_i h2;exact(h2 (by simpa using h)).elim
   ·rename_i h2;exact⟨by simpa using h1,by simpa using h2⟩
 have pk1: ∀{c f:Int},(pk c f c f==0)=false-> ¬(c=0/\f=0):=fun {c f} h ⟨h1,h2⟩=>by
  subst h1 h2;simp[pk] at h
 refine bt hg (fn:=Try.f6) (by kernel_rfl) (by kernel_rfl) hz ⟨by decide,by decide⟩ rfl (WM z zn N s.1 s.2 r.1 r.2 f.1 f.2 u.1 u.2.1 u.2.2 k.1 k.2.1 k.2.2 p.1 p.2.1 p.2.2 _ ?_)
 (repeat' first|(with_reducible first|exact rfl|trivial|assumption|apply And.intro|exact hz|exact hs|exact hr|exact hf|exact hnet|exact hs1|exact hr1|exact hf1|exact Ea hz hg _ _ _ _ _ _)|exact(rfl:Int.ofNat _=_)|exact(rfl:gP _ _=_)|exact hz|exact hs|exact hr|exact hf|exact hnet|exact hs1|exact hr1|exact hf1|exact Ea hz hg _ _ _ _ _ _|intro hq)
 all_goals try (have e1:=pk0 (by with_reducible assumption);obtain⟨e1,e2⟩:=e1)
 all_goals try (have e1:=pk1 (by with_reducible assumption))
 all_goals clear pk1
 all_goals try (have e3:u.2.2=0:=by simpa using (by assumption:(u.2.2==0)=true))
 all_goals try (have e4:k.2.2=0:=by simpa using (by assumption:(k.2.2==0)=true))
 all_goals first
  |exact congrArg Value.bool (by assumption)
  |exact hu e1 e2
  |exact hk e1 e2 e3
  |exact hp e1 e2 e3 e4
  |(refine BA ?_
    clear hs hr hu hk hp hf hs1 hr1 hf1 hnet pk0
    simp only[pk,iq]
    (repeat' split)<;>first|rfl|(exfalso;simp_all;done))
end
def qc(er:Nat->Int)(i:Nat):Option Int:=if er i=0 then none else some (er i)
theorem ew{x:Int}(h:(x !=0)=false):x=0:=by simpa using h
section
variable{z:T aa}{zn:Nat}
theorem Lu(hz:an z zn)(hg:fD Try.prog z gP)(N:aA)(hl:N.nu<100000)(er:Nat->Int)(hnet: ∀σ:bd,aE (aq σ []) N.box=some N.box)(hv:aO (sig []) (.agg ⟨N.cells⟩)=some (.agg ⟨N.cells⟩))
 (hc: ∀i,i<N.nu->(∀j,j<i->er j=0)->A1 z zn 34 [.agg ⟨N.cells⟩,iv i] [] 0 0 (zv (er i)) []) (r:Int × Int) (hr:scan (qc er) N.nu 0=r):
 ai Try.prog (ah (ag Try.f21) 0) 1 84 (Cg 0) [(0,N.box)] 1 z zn (Al.R (RY z zn N r.1 r.2).l):=by
 refine ak hD hg (α:=Nat) 1 84 1 (fun i=>i<=N.nu/\scan (qc er) (N.nu - i) i=r/\ ∀j,j<i->er j=0) (fun i=>Cg i) (fun i=>[(0,N.box)]) (fun _=>z) (fun _=>zn) (fun i=>N.nu - i) _ (fun i hI=>?_) 0 ⟨Nat.zero_le _,hr,fun j hj=>by omega⟩
 obtain⟨h1,h2,h3⟩:=hI
 by_cases hi:i<N.nu
 ·have hdc:decide ((i:Int)<(N.nu:Int))=true:=by simp;omega
  have hcc:=hc i hi h3
  have ha:bh (sig []) [.agg ⟨N.cells⟩,iv i]=some [.agg ⟨N.cells⟩,iv i]:=lJ hv rfl
  refine t100 (X5 z zn i N (er i) (aj _ _ _ _ _ _ _ _ _) ⟨fun _=>?_,fun h=>(by rw[hdc] at h;cases h)⟩)
  (repeat' first|(with_reducible first|exact rfl|trivial|assumption|apply And.intro|exact hz|exact hnet _|exact hcc|exact ha|exact aG (by omega))|exact(rfl:Int.ofNat _=_)|exact(rfl:gP _ _=_)|exact hz|exact hnet _|exact hcc|exact ha|exact aG (by omega)|intro hq)
  all_goals first
   |(have h:er i≠0:=by simpa using (by assumption:(er i !=0)=true)
     have hb:qc er i=some (er i):=if_neg h
     have e:r=((i:Int),er i):=by rw[←h2,dq hi hb]
     rw[e]
     exact bJ h)
   |(have h:er i=0:=by simpa using (by assumption:(er i !=0)=false)
     have hb:qc er i=none:=if_pos h
     refine⟨i+1,rfl,rfl,rfl,rfl,rfl,⟨hi,by rw[←cU hi hb];exact h2,fun j hj=>?_⟩,by show N.nu - (i+1)<N.nu - i;omega⟩
     by_cases e:j=i
     ·subst e;exact h
     ·exact h3 j (by omega))
 ·have hdc:decide ((i:Int)<(N.nu:Int))=false:=by simp;omega
  refine t100 (X5 z zn i N 0 (aj _ _ _ _ _ _ _ _ _) ⟨fun h=>(by rw[hdc] at h;cases h),fun _=>?_⟩)
  (repeat' first|(with_reducible first|exact rfl|trivial|assumption|apply And.intro|exact hz|exact hnet _)|exact(rfl:Int.ofNat _=_)|exact(rfl:gP _ _=_)|exact hz|exact hnet _|intro hq)
  rw[dD (by omega)] at h2
  refine dw (bJ ?_)
  rw[←h2]
theorem Lt(hz:an z zn)(hg:fD Try.prog z gP)(N:aA)(hl:N.nl<100000)(er:Nat->Int)(hnet: ∀σ:bd,aE (aq σ []) N.box=some N.box)(hv:aO (sig []) (.agg ⟨N.cells⟩)=some (.agg ⟨N.cells⟩))
 (hc: ∀i,i<N.nl->(∀j,j<i->er j=0)->A1 z zn 35 [.agg ⟨N.cells⟩,iv i] [] 0 0 (zv (er i)) []) (r:Int × Int) (hr:scan (qc er) N.nl 0=r):
 ai Try.prog (ah (ag Try.f21) 1) 1 84 (Cf 0) [(0,N.box)] 1 z zn (Al.R (RX z zn N r.1 r.2).l):=by
 refine ak hD hg (α:=Nat) 1 84 1 (fun i=>i<=N.nl/\scan (qc er) (N.nl - i) i=r/\ ∀j,j<i->er j=0) (fun i=>Cf i) (fun i=>[(0,N.box)]) (fun _=>z) (fun _=>zn) (fun i=>N.nl - i) _ (fun i hI=>?_) 0 ⟨Nat.zero_le _,hr,fun j hj=>by omega⟩
 obtain⟨h1,h2,h3⟩:=hI
 by_cases hi:i<N.nl
 ·have hdc:decide ((i:Int)<(N.nl:Int))=true:=by simp;omega
  have hcc:=hc i hi h3
  have ha:bh (sig []) [.agg ⟨N.cells⟩,iv i]=some [.agg ⟨N.cells⟩,iv i]:=lJ hv rfl
  refine t100 (X4 z zn i N (er i) (aj _ _ _ _ _ _ _ _ _) ⟨fun _=>?_,fun h=>(by rw[hdc] at h;cases h)⟩)
  (repeat' first|(with_reducible first|exact rfl|trivial|assumption|apply And.intro|exact hz|exact hnet _|exact hcc|exact ha|exact aG (by omega))|exact(rfl:Int.ofNat _=_)|exact(rfl:gP _ _=_)|exact hz|exact hnet _|exact hcc|exact ha|exact aG (by omega)|intro hq)
  all_goals first
   |(have h:er i≠0:=by simpa using (by assumption:(er i !=0)=true)
     have hb:qc er i=some (er i):=if_neg h
     have e:r=((i:Int),er i):=by rw[←h2,dq hi hb]
     rw[e]
     exact bJ h)
   |(have h:er i=0:=by simpa using (by assumption:(er i !=0)=false)
     have hb:qc er i=none:=if_pos h
     refine⟨i+1,rfl,rfl,rfl,rfl,rfl,⟨hi,by rw[←cU hi hb];exact h2,fun j hj=>?_⟩,by show N.nl - (i+1)<N.nl - i;omega⟩
     by_cases e:j=i
     ·subst e;exact h
     ·exact h3 j (by omega))
 ·have hdc:decide ((i:Int)<(N.nl:Int))=false:=by simp;omega
  refine t100 (X4 z zn i N 0 (aj _ _ _ _ _ _ _ _ _) ⟨fun h=>(by rw[hdc] at h;cases h),fun _=>?_⟩)
  (repeat' first|(with_reducible first|exact rfl|trivial|assumption|apply And.intro|exact hz|exact hnet _)|exact(rfl:Int.ofNat _=_)|exact(rfl:gP _ _=_)|exact hz|exact hnet _|intro hq)
  rw[dD (by omega)] at h2
  refine dw (bJ ?_)
  rw[←h2]
theorem I1(hz:an z zn)(hg:fD Try.prog z gP)(N:aA)(s r p f u k:Int × Int)(eu el:Nat->Int)(hnet: ∀σ:bd,aE (aq σ []) N.box=some N.box)(hv:aO (sig []) (.agg ⟨N.cells⟩)=some (.agg ⟨N.cells⟩))
 (hs1:bh (sig []) [.slice N.sa N.ns N.sc]=some [.slice N.sa N.ns N.sc]) (hr1:bh (sig []) [.slice N.ra N.nr N.rc]=some [.slice N.ra N.nr N.rc]) (hf1:bh (sig []) [.agg ⟨[.slice N.fa N.nf N.fc,zv N.d,zv N.w,zv N.c]⟩]=some [.agg ⟨[.slice N.fa N.nf N.fc,zv N.d,zv N.w,zv N.c]⟩])
 (hs:A1 z zn 32 [.slice N.sa N.ns N.sc] [] 0 0 (.tuple ⟨[zv s.1,zv s.2]⟩) [])
 (hr:A1 z zn 33 [.slice N.ra N.nr N.rc] [] 0 0 (.tuple ⟨[zv r.1,zv r.2]⟩) [])
 (hu:s.2=0->r.2=0-> ∀i,i<N.nu->(∀j,j<i->eu j=0)->A1 z zn 34 [.agg ⟨N.cells⟩,iv i] [] 0 0 (zv (eu i)) [])
 (hur:u=if 1024<N.nu then (0,5) else scan (qc eu) N.nu 0)
 (hk:s.2=0->r.2=0->u.2=0-> ∀i,i<N.nl->(∀j,j<i->el j=0)->A1 z zn 35 [.agg ⟨N.cells⟩,iv i] [] 0 0 (zv (el i)) [])
 (hkr:k=if 1024<N.nl then (0,5) else scan (qc el) N.nl 0)
 (hp:s.2=0->r.2=0->u.2=0->k.2=0->A1 z zn 36 [.agg ⟨N.cells⟩] [] 0 0 (.tuple ⟨[zv p.1,zv p.2]⟩) [])
 (hf:A1 z zn 37 [.agg ⟨[.slice N.fa N.nf N.fc,zv N.d,zv N.w,zv N.c]⟩] [] 0 0 (.tuple ⟨[zv f.1,zv f.2]⟩) []):
 A1 z zn 21 [.agg ⟨N.cells⟩] [] 0 0 (.tuple ⟨[zv (iq s r (2,u) (3,k) (4,p) f).1,zv (iq s r (2,u) (3,k) (4,p) f).2.1,zv (iq s r (2,u) (3,k) (4,p) f).2.2]⟩) []:=by
 have hv1:bh (sig []) [.agg ⟨N.cells⟩]=some [.agg ⟨N.cells⟩]:=lJ hv rfl
 have hL7:s.2=0->r.2=0->decide ((N.nu:Int)>1024)=false->ai Try.prog (ah (ag Try.f21) 0) 1 84 (Cg 0) [(0,N.box)] 1 z zn (Al.R (RY z zn N u.1 u.2).l):=fun h1 h2 h3=>by
  have h3: ¬1024<N.nu:=by simp at h3;omega
  rw[if_neg h3] at hur
  exact Lu hz hg N (by omega) eu hnet hv (hu h1 h2) u hur.symm
 have hL8:s.2=0->r.2=0->u.2=0->decide ((N.nl:Int)>1024)=false->ai Try.prog (ah (ag Try.f21) 1) 1 84 (Cf 0) [(0,N.box)] 1 z zn (Al.R (RX z zn N k.1 k.2).l):=fun h1 h2 h3 h4=>by
  have h4: ¬1024<N.nl:=by simp at h4;omega
  rw[if_neg h4] at hkr
  exact Lt hz hg N (by omega) el hnet hv (hk h1 h2 h3) k hkr.symm
 refine bt hg (fn:=Try.f21) (by kernel_rfl) (by kernel_rfl) hz ⟨by decide,by decide⟩ rfl (SC z zn N s.1 s.2 r.1 r.2 u.1 u.2 k.1 k.2 p.1 p.2 f.1 f.2 _ ?_)
 have hu5:decide ((N.nu:Int)>1024)=true->u=(0,5):=fun h=>by rw[hur,if_pos (by simp at h;omega)]
 have hk5:decide ((N.nl:Int)>1024)=true->k=(0,5):=fun h=>by rw[hkr,if_pos (by simp at h;omega)]
 (repeat' first|(with_reducible first|exact rfl|trivial|assumption|apply And.intro|exact hz|exact hs|exact hr|exact hf|exact hnet _|exact hs1|exact hr1|exact hf1|exact hv1|exact hL7 (ew (by assumption)) (ew (by assumption)) (by assumption)|exact hL8 (ew (by assumption)) (ew (by assumption)) (by assumption) (by assumption)|exact hp (ew (by assumption)) (ew (by assumption)) (by assumption) (by assumption))|exact(rfl:Int.ofNat _=_)|exact(rfl:gP _ _=_)|exact hz|exact hs|exact hr|exact hf|exact hnet _|exact hs1|exact hr1|exact hf1|exact hv1|exact hL7 (ew (by assumption)) (ew (by assumption)) (by assumption)|exact hL8 (ew (by assumption)) (ew (by assumption)) (by assumption) (by assumption)|exact hp (ew (by assumption)) (ew (by assumption)) (by assumption) (by assumption)|intro hq)
 all_goals try (have e1:s.2=0:=ew (by assumption))
 all_goals try (have e2:r.2=0:=ew (by assumption))
 all_goals try (have e3:p.2=0:=ew (by assumption))
 all_goals try (have e3:f.2=0:=ew (by assumption))
 all_goals try (have e4:=hu5 (by assumption))
 all_goals try (have e4:=hk5 (by assumption))
 all_goals clear hs hr hu hk hp hf hs1 hr1 hf1 hnet hv hv1 hL7 hL8 hu5 hk5 hur hkr
 all_goals first
  |(refine BA ?_
    simp only[iq]
    (repeat' split)<;>first|rfl|(exfalso;simp_all;done)|(simp_all;done))
end
end Go.Proofs.Nw
namespace Go.Proofs.Nw
open Go Go.AV
set_option maxRecDepth 100000
theorem iO:an (T.leaf:T aa) 0:=fun k o h=>by cases h
theorem dP{zg:T aa}:fD Try.prog zg (fun _ _=>none):=fun _ _ _ h=>by cases h
theorem cz{z:T aa}{f:Nat}{args:List Value}{u:Value}(h:A1 .leaf 0 f args [] 0 0 u [])(hp:az u=true)(ha:bH args=true):qp Try.prog z f args u:=by
 obtain⟨h1,h2⟩:=xm h (fun _ _=>rfl) hp (fun k o hk=>by cases hk) (fun σ _=>fF ha)
 exact⟨h1,fun ρ W args' hz hv=>h2 ρ W args' (fun k o hk=>by cases hk) hv⟩
theorem Gy{z:T aa}(a b:Int):qp Try.prog z 27 [zv a,zv b] (.bool (decide (0<=a) && decide (a<b))):=by
 refine cz ?_ rfl rfl
 refine bt (dP (zg:= .leaf)) (fn:=Try.f27) (by kernel_rfl) (by kernel_rfl) iO ⟨by decide,by decide⟩ rfl (gwi .leaf 0 a b _ ?_)
 (repeat' first|(with_reducible first|exact rfl|trivial|assumption|apply And.intro|exact iO)|exact(rfl:Int.ofNat _=_)|exact(rfl:gP _ _=_)|exact iO|intro hq)
 all_goals (refine BA ?_;simp_all;try (intros;omega))
theorem U5{z:T aa}(n a b:Int):qp Try.prog z 45 [zv n,zv a,zv b] (.bool (decide (a<=n) && decide (n<=b))):=by
 refine cz ?_ rfl rfl
 refine bt (dP (zg:= .leaf)) (fn:=Try.f45) (by kernel_rfl) (by kernel_rfl) iO ⟨by decide,by decide⟩ rfl (gin .leaf 0 n a b _ ?_)
 (repeat' first|(with_reducible first|exact rfl|trivial|assumption|apply And.intro|exact iO)|exact(rfl:Int.ofNat _=_)|exact(rfl:gP _ _=_)|exact iO|intro hq)
 all_goals (refine BA ?_;simp_all;try (intros;omega))
theorem U2{z:T aa}(n a b:Int):qp Try.prog z 29 [zv n,zv a,zv b] (.bool (decide (a<=n) && decide (n<=b))):=by
 refine cz ?_ rfl rfl
 refine bt (dP (zg:= .leaf)) (fn:=Try.f29) (by kernel_rfl) (by kernel_rfl) iO ⟨by decide,by decide⟩ rfl (gpw .leaf 0 n a b _ ?_)
 (repeat' first|(with_reducible first|exact rfl|trivial|assumption|apply And.intro|exact iO)|exact(rfl:Int.ofNat _=_)|exact(rfl:gP _ _=_)|exact iO|intro hq)
 all_goals (refine BA ?_;simp_all;try (intros;omega))
theorem J9{z:T aa}(n:Int):qp Try.prog z 25 [zv n] (.bool (decide (0<=n) && decide (n<8))):=by
 refine cz ?_ rfl rfl
 refine bt (dP (zg:= .leaf)) (fn:=Try.f25) (by kernel_rfl) (by kernel_rfl) iO ⟨by decide,by decide⟩ rfl (gkn .leaf 0 n _ ?_)
 (repeat' first|(with_reducible first|exact rfl|trivial|assumption|apply And.intro|exact iO)|exact(rfl:Int.ofNat _=_)|exact(rfl:gP _ _=_)|exact iO|intro hq)
 all_goals (refine BA ?_;simp_all;try (intros;omega))
theorem U4{z:T aa}(a b c:Int):qp Try.prog z 14 [zv a,zv b,zv c] (.agg ⟨[zv a,zv b,zv c]⟩):=by
 refine cz ?_ rfl rfl
 refine bt (dP (zg:= .leaf)) (fn:=Try.f14) (by kernel_rfl) (by kernel_rfl) iO ⟨by decide,by decide⟩ rfl (gof .leaf 0 a b c _ ?_)
 (repeat' first|(with_reducible first|exact rfl|trivial|assumption|apply And.intro|exact iO)|exact(rfl:Int.ofNat _=_)|exact(rfl:gP _ _=_)|exact iO|intro hq)
 all_goals (exact q1)
theorem zx{s:ByteArray}{ρ:aW}{args':List Value}(h:c9 ρ [.string s] args'):args'=[.string s]:=by
 cases h with
 |cons _ _ _ _ h1 h2=>
  cases h2
  cases h1 with
  |sc _ _=>rfl
theorem fZ(z:T aa):fD Try.prog z gP:=by
 intro f args v h
 unfold gP at h
 split at h
 ·split at h
  ·rename_i s hs
   cases h
   refine⟨rfl,fun ρ W args' _ ha=>?_⟩
   rw[zx ha]
   exact(Om _ W (Nat.le_of_ble_eq_true hs)).mono fun e w' ⟨h1,h2⟩=>⟨h1,by subst h2;exact Go.RowKit.Below.refl _ _⟩
  ·cases h
 ·split at h
  ·rename_i s hs
   cases h
   refine⟨rfl,fun ρ W args' _ ha=>?_⟩
   rw[zx ha]
   exact(Ol _ W (Nat.le_of_ble_eq_true hs)).mono fun e w' ⟨h1,h2⟩=>⟨h1,by subst h2;exact Go.RowKit.Below.refl _ _⟩
  ·cases h
 ·cases h;exact J9 _
 ·cases h;exact U2 _ _ _
 ·cases h;exact U4 _ _ _
 ·cases h;exact Gy _ _
 ·cases h;exact U5 _ _ _
 ·cases h
end Go.Proofs.Nw
namespace Go.AV
open Go.RowKit
def Bu(P:Program)(f:Nat)(args:List Value)(v:Value):Prop:= ∀w,Calls P f ⟨args⟩ w fun e w'=>e= .returned v/\Below w.heap.size w w'
section
variable{P:Program}
theorem zR{c:cJ}(hc:dA P c){f:Nat}{args:List Value}{v:Value}{nx:Nat}(hp:bH args=true)(hv:az v=true)
 (hr:(c f args {heap:= .leaf,next:=nx,log:=[]}).map (·.1)=some v):Bu P f args v:=by
 cases he:c f args {heap:= .leaf,next:=nx,log:=[]} with
 |none=>rw[he] at hr;cases hr
 |some x=>
  obtain⟨v0,h'⟩:=x
  rw[he] at hr
  simp only[Option.map_some,Option.some.injEq] at hr
  subst hr
  intro w
  have hh:aJ z8 (T.leaf:T aa).get w:=⟨fun b o hb=>absurd hb (by rw[T.dF];simp),fun i j oi oj Li Lj hi=>absurd hi (by rw[T.dF];simp)⟩
  have hk:=(hc _ _ _ _ _ he).2 z8 w args 0 (c9.bq hp) hh (fun _ _ _=>rfl)
  refine Calls.mono (hk.calls fun _=>room_wide _) fun e w' hg=>?_
  obtain⟨ρ',v',rfl,h1,h2,h3⟩:=hg
  have e1:=h1.plain hv
  subst e1
  exact⟨rfl,h3.os,h3.tape,h3.output,h3.size,fun r hr=>h3.same r hr fun b o L hb=>absurd hb (by rw[T.dF];simp)⟩
end
end Go.AV
namespace Go.Proofs.Nw
open Go Go.AV
set_option maxHeartbeats 1000000
set_option maxRecDepth 100000
section
variable{z:T aa}{zn:Nat}
theorem Np(hz:an z zn)(a:Int):A1 z zn 63 [zv a] [] 0 0 F0 []:=by
 refine bt (dP (zg:=z)) (fn:=Try.f63) (by kernel_rfl) (by kernel_rfl) hz ⟨by decide,by decide⟩ rfl (N:=100) ?_
 refine Wc z zn a _ ?_
 (repeat' first|(with_reducible first|exact rfl|trivial|assumption|apply And.intro|exact hz)|exact(rfl:Int.ofNat _=_)|exact(rfl:gS _ _=_)|exact hz|intro hq)
 all_goals first|exact q1|(simp at hq;done)
theorem SX(hz:an z zn)(a b:Int):A1 z zn 56 [zv a,zv b] [] 0 0 (zv (A3 a b)) []:=by
 refine bt (dP (zg:=z)) (fn:=Try.f56) (by kernel_rfl) (by kernel_rfl) hz ⟨by decide,by decide⟩ rfl (N:=100) ?_
 refine We z zn a b _ ?_
 (repeat' first|(with_reducible first|exact rfl|trivial|assumption|apply And.intro|exact hz|exact Np hz _)|exact(rfl:Int.ofNat _=_)|exact(rfl:gS _ _=_)|exact hz|exact Np hz _|intro hq)
 all_goals (refine BA ?_;simp only[decide_eq_true_eq,decide_eq_false_iff_not] at*;unfold A3;(repeat' split)<;>first|rfl|(exfalso;omega))
theorem Lb(hz:an z zn)(kb:aZ)(hkb:z.get 0=some (.ay kb))(c:Nat->Int)(hc: ∀i,i<3->aB Try.prog kb 3 (0+i*1)=some (zv (c i))):
 ai Try.prog (ah (ag Try.f55) 0) 0 18 (EY 0) [] 0 z zn (Al.R (VU z zn (JO (c 0) (c 1) (c 2))).l):=by
 refine ak hD (dP (zg:=z)) (α:=Nat) 0 18 0 (fun i=>i<=3/\ ∀j,j<i->c j=0) (fun i=>EY i) (fun _=>[]) (fun _=>z) (fun _=>zn) (fun i=>3 - i) _ (fun i hI=>?_) 0 ⟨by omega,fun j h=>by omega⟩
 obtain⟨h1,h2⟩:=hI
 have orE: ∀i,i<3->(∀j,j<i->c j=0)->c i≠0->JO (c 0) (c 1) (c 2)=c i:=fun i hi h hn=>by
  unfold JO
  match i,hi with
  |0,_=>rw[if_pos hn]
  |1,_=>rw[if_neg (by simpa using h 0 (by omega)),if_pos hn]
  |2,_=>rw[if_neg (by simpa using h 0 (by omega)),if_neg (by simpa using h 1 (by omega))]
 refine t100 (Wb z zn i kb (c i) 0 (aj _ _ _ _ _ _ _ _ _) ?_)
 by_cases hi:i<3
 ·have d1:decide ((i:Int)<3)=true:=by simp;omega
  have hr:=hc i hi
  refine⟨fun _=>?_,fun h=>(by rw[d1] at h;cases h)⟩
  (repeat' first|(with_reducible first|exact rfl|trivial|assumption|apply And.intro|exact hz|exact hi|exact hkb|exact hr|exact aG (by omega))|exact(rfl:Int.ofNat _=_)|exact(rfl:gS _ _=_)|exact hz|exact hi|exact hkb|exact hr|exact aG (by omega)|intro hq)
  all_goals first
   |(have h:c i≠0:=by simpa using (by assumption:(c i !=0)=true)
     have e:=orE i hi h2 h
     rw[e]
     exact bJ h)
   |(have h:c i=0:=by simpa using (by assumption:(c i !=0)=false)
     exact⟨i+1,rfl,rfl,rfl,rfl,rfl,⟨hi,fun j hj=>by
      by_cases e:j=i
      ·subst e;exact h
      ·exact h2 j (by omega)⟩,by show 3 - (i+1)<3 - i;omega⟩)
 ·have d1:decide ((i:Int)<3)=false:=by simp;omega
  refine⟨fun h=>(by rw[d1] at h;cases h),fun _=>?_⟩
  (repeat' first|(with_reducible first|exact rfl|trivial|assumption|apply And.intro|exact hz)|exact(rfl:Int.ofNat _=_)|exact(rfl:gS _ _=_)|exact hz|intro hq)
  refine dw (bJ ?_)
  unfold JO
  rw[if_neg (by simpa using h2 0 (by omega)),if_neg (by simpa using h2 1 (by omega))]
  exact h2 2 (by omega)
theorem WT(hz:an z zn)(kb:aZ)(hkb:z.get 0=some (.ay kb))(c:Nat->Int)(hc: ∀i,i<3->aB Try.prog kb 3 (0+i*1)=some (zv (c i))):
 A1 z zn 55 [tb 0 3 3] [] 0 0 (zv (JO (c 0) (c 1) (c 2))) []:=by
 have hL:=Lb hz kb hkb c hc
 refine bt (dP (zg:=z)) (fn:=Try.f55) (by kernel_rfl) (by kernel_rfl) hz ⟨by decide,by decide⟩ rfl (N:=100) ?_
 refine jor z zn (JO (c 0) (c 1) (c 2)) _ ?_
 (repeat' first|(with_reducible first|exact rfl|trivial|assumption|apply And.intro|exact hz|exact hL)|exact(rfl:Int.ofNat _=_)|exact(rfl:gS _ _=_)|exact hz|exact hL|intro hq)
 all_goals first
  |exact q1
  |(refine BA ?_;simp_all;done)
end
def zT(e:TypeId)(x y w:Int):T aa:=(T.leaf:T aa).set 0 (.ay (bC e [zv x,zv y,zv w]))
theorem xI(e:TypeId)(x y w:Int)(k:Nat):(zT e x y w).get k=if k=0 then some (.ay (bC e [zv x,zv y,zv w])) else none:=by
 unfold zT;rw[T.aK];split<;>simp[T.dF]
theorem Oj(e:TypeId)(x y w:Int):an (zT e x y w) 1:=fun k o h=>by
 rw[xI] at h
 split at h
 ·rename_i hk;subst hk;cases h
  exact⟨by decide,fun σ _=>rfl⟩
 ·cases h
theorem U3(e:TypeId)(x y w:Int):qp Try.prog (zT e x y w) 55 [tb 0 3 3] (zv (JO x y w)):=by
 have h:=WT (z:=zT e x y w) (zn:=1) (Oj e x y w) (bC e [zv x,zv y,zv w]) (by rw[xI,if_pos rfl]) (fun i=>match i with|0=>x|1=>y|_=>w) (fun i hi=>by
  match i,hi with
  |0,_=>rfl
  |1,_=>rfl
  |2,_=>rfl)
 exact xm h (fun _ _=>rfl) rfl (fun k o hk=>by
  rw[xI] at hk
  split at hk
  ·cases hk;rfl
  ·cases hk) (fun σ hσ=>by
  have:=hσ 0 (by decide)
  simp only[bh,aO,this])
theorem Rj(a b:Int):qp Try.prog (T.leaf:T aa) 56 [zv a,zv b] (zv (A3 a b)):=cz (SX iO a b) rfl rfl
def IP:cJ:=fun f args h=>match f,args with
 |56,[.int .i64 a, .int .i64 b]=>some (zv (A3 a b),h)
 |55,[.slice (some ⟨b,0,none⟩) 3 3]=>match h.heap.get b with
  |some (.ay ⟨[.int .i64 x, .int .i64 y, .int .i64 w],_,_,_,true,_,_,_⟩)=>some (zv (JO x y w),h)
  |_=>none
 |_,_=>none
theorem uA{ρ:aW}{h:Hs}{w w':World}{v:Value}(hv:az v=true)(hh:aJ ρ h.heap.get w)(hb:Go.RowKit.Below w.heap.size w w'):MU ρ h w v h (.returned v) w':=by
 refine⟨ρ,v,rfl,VR.bq hv,⟨fun b o ho=>?_,hh.inj⟩,⟨hb.os,hb.tape,hb.output,hb.size,fun r hr _=>hb.block r hr,fun b o L h1 h2 h3=> .inl ⟨b,o,L,h1,h2,h3,rfl⟩,fun b o L h1 h3=> .inl ⟨b,o,L,h1,h3,rfl⟩,aW.le.refl _,fun _ _=>rfl⟩⟩
 obtain⟨L,x,a1,a2,a3⟩:=hh.obj b o ho
 exact⟨L,x,a1,by rw[hb.block _ (Array.getElem?_eq_some_iff.1 a2).1];exact a2,a3⟩
theorem IN:dA Try.prog IP:=by
 intro f args h v h' he
 unfold IP at he
 split at he
 ·rename_i a b
  cases he
  refine⟨Mod.refl _,fun ρ w args' n hargs hh hf=>callsIn_wide.2 ?_⟩
  have e:=hargs.plain rfl
  subst e
  exact((Rj a b).2 z8 w _ (fun k o hk=>by cases hk) (c9.bq rfl)).mono fun e w' ⟨h1,hb⟩=>by rw[h1];exact uA rfl hh hb
 ·rename_i b
  split at he
  ·rename_i x y u cap j7 el wh fz ow hb0
   cases he
   refine⟨Mod.refl _,fun ρ w args' n hargs hh hf=>callsIn_wide.2 ?_⟩
   obtain⟨L,o,k1,k2,k3⟩:=hh.obj b _ hb0
   cases o<;>simp only[OR] at k3
   rename_i c el' fr
   have hψ:=k3.exact rfl
   have ha:args'=[.slice (some ⟨L.φ,L.δ+0,none⟩) 3 (3+L.ψ)]:=by
    cases hargs with
    |cons _ _ _ _ h1 h2=>
     cases h2
     cases h1 with
     |sc _ h=>simp[simple] at h
     |sl _ _ _ _ L' h=>rw[k1] at h;cases h;rfl
   let ρ2:aW:=fun i=>if i=510 then some L else none
   have hv:c9 ρ2 [tb 0 3 3] args':=by
    rw[ha]
    exact .cons _ _ _ _ (.sl (256*0+510) 0 3 3 L (if_pos rfl)) .nil
   have hfz:MV (zT el x y u) ρ2 w:=fun k o hk=>by
    rw[xI] at hk
    split at hk
    ·rename_i hk0
     subst hk0;cases hk
     refine⟨L,_,if_pos rfl,k2,?_⟩
     refine⟨k3.elem,Nat.le_refl _,fun hh=>(by cases hh),fun i v hv=>?_,fun _=>hψ,fun hh=>(by cases hh),fun hh=>(by cases hh),fun hh=>(by cases hh)⟩
     obtain⟨v',q1,q2⟩:=k3.cell i v hv
     have hp:az v=true:=by
      match i,hv with
      |0,hv=>cases hv;rfl
      |1,hv=>cases hv;rfl
      |2,hv=>cases hv;rfl
     have:=q2.plain hp
     subst this
     exact⟨v',q1,VR.bq hp⟩
    ·cases hk
   exact((U3 el x y u).2 ρ2 w args' hfz hv).mono fun e w' ⟨h1,hb⟩=>by rw[h1];exact uA rfl hh hb
  ·cases he
 ·cases he
theorem Vw(a b c d e f:Int)(s t:Bool):Bu Try.prog 54 [.agg ⟨[.int .i64 a, .int .i64 b, .int .i64 c, .bool s]⟩, .agg ⟨[.int .i64 d, .int .i64 e, .int .i64 f, .bool t]⟩] (zv (qR a b c d e f)):=
 zR (c:=xn Try.prog (pQ Try.prog IP 300) (fun _ _ _=>none)) (uP (uF hD IN 300)) (by kernel_rfl) (by kernel_rfl) (nx:=6) (by kernel_rfl)
theorem my(z:T aa):fD Try.prog z gS:=by
 intro f args v h
 unfold gS at h
 split at h
 ·cases h
  refine⟨rfl,fun ρ W args' _ ha=>?_⟩
  have e:=ha.plain rfl
  subst e
  exact Vw _ _ _ _ _ _ _ _ W
 ·cases h
end Go.Proofs.Nw
namespace Go.Proofs.Nw
open Go Go.AV
set_option maxHeartbeats 4000000
set_option maxRecDepth 100000
theorem oA{b c:Nat->Option Int}: ∀(m i:Nat),(∀j,i<=j->j<i+m->b j=c j)->scan b m i=scan c m i
 |0,_,_=>rfl
 |m+1,i,h=>by
  simp only[scan]
  rw[h i (Nat.le_refl _) (by omega),oA m (i+1) fun j h1 h2=>h j (by omega) (by omega)]
theorem Ei{b:Nat->Option Int}(h: ∀i,b i≠some 0)(i:Nat):qc (fun i=>(b i).getD 0) i=b i:=by
 unfold qc
 cases hb:b i with
 |none=>simp[hb]
 |some e=>
  have:e≠0:=fun h0=>h i (by rw[hb,h0])
  simp[hb,this]
theorem qT(ns nr:Nat)(l:List RunT)(i:Nat):dp ns nr l i≠some 0:=by
 unfold dp
 cases l[i]? with
 |none=>simp
 |some x=>
  simp only
  (repeat' split)<;>first|(simp;done)|(intro h;simp_all;done)
theorem Bf(U:List RunT)(L:List aC)(i:Nat):eV U L i≠some 0:=by
 unfold eV
 cases L[i]? with
 |none=>simp
 |some x=>
  simp only
  split
  ·simp
  ·rename_i h;intro e;exact h (by simpa using e)
theorem OF(ns nr:Nat)(l:List RunT):cK ns nr l=if 1024<l.length then (0,5) else scan (qc fun i=>(dp ns nr l i).getD 0) l.length 0:=by
 unfold cK
 split
 ·rfl
 ·exact oA _ _ fun j _ _=>(Ei (qT ns nr l) j).symm
theorem Lz(U:List RunT)(L:List aC):bK U L=if 1024<L.length then (0,5) else scan (qc fun i=>(eV U L i).getD 0) L.length 0:=by
 unfold bK
 split
 ·rfl
 ·exact oA _ _ fun j _ _=>(Ei (Bf U L) j).symm
theorem ig{b:Nat->Option Int}(hb: ∀i,b i≠some 0): ∀(m i:Nat),(scan b m i).2=0-> ∀j,i<=j->j<i+m->b j=none
 |0,i,_,j,h1,h2=>by omega
 |m+1,i,h,j,h1,h2=>by
  simp only[scan] at h
  cases hc:b i with
  |some e=>
   rw[hc] at h
   exact(hb i (by rw[hc];exact congrArg some h)).elim
  |none=>
   rw[hc] at h
   by_cases e:j=i
   ·subst e;exact hc
   ·exact ig hb m (i+1) h j (by omega) (by omega)
theorem qA{ns nr:Nat}{l:List RunT}(h:(cK ns nr l).2=0):nh l:=by
 unfold cK at h
 split at h
 ·cases h
 rename_i hl
 refine⟨by omega,fun r hr=>?_⟩
 obtain⟨i,hi⟩:=List.mem_iff_getElem?.1 hr
 have hlt:=(List.getElem?_eq_some_iff.1 hi).1
 have:=ig (qT ns nr l) _ _ h i (Nat.zero_le _) (by omega)
 unfold dp at this
 rw[hi] at this
 simp only at this
 by_cases hc:r.calls.length<2\/32<r.calls.length
 ·have he:(bF r.calls ns 0 3155932800).2=5:=by unfold bF;rw[if_pos hc]
  have hr5:xN ns r=5:=he
  rw[hr5] at this
  (repeat' split at this)<;>simp_all
 ·omega
section
variable{z:T aa}{zn:Nat}
theorem IY(hz:an z zn)(hg:fD Try.prog z gP)(N:aA)(L:List aC)(hN:N.nl=L.length)(hL:cy z 0 (L.map aC.row))(i:Nat)(x:aC)(hx:L[i]? =some x):
 A1 z zn 35 [.agg ⟨N.ey aw N.l1⟩,iv i] [] 0 0 (zv (hX [] L i x)) []:=by
 have hi:i<L.length:=(List.getElem?_eq_some_iff.1 hx).1
 obtain⟨el,hel⟩:=hL.ay (i:=i) (by simp;omega)
 have hlen:=aM (row:=aC.row) (sz:=5) L fun _=>rfl
 have hrow:aB Try.prog (bC el (L.map aC.row).flatten) 52 (0+i*5)=some (.agg ⟨x.row⟩):=bO (r:=x.row) (sz:=5) Try.underlying52 rfl rfl hlen (by rw[List.getElem?_map,hx];rfl)
 have he:hX [] L i x=9:=by unfold hX;rw[if_pos (by simp;omega)]
 have hin:gP 45 [zv x.from_, .int .i64 0, .int .i64 (-1)]=some (.bool false):=by
  show some (Value.bool (decide (0<=x.from_) && decide (x.from_<= -1)))=_
  have:(decide (0<=x.from_) && decide (x.from_<= -1))=false:=by simp;omega
  rw[this]
 rw[he]
 refine bt hg (fn:=Try.f35) (by kernel_rfl) (by kernel_rfl) hz ⟨by decide,by decide⟩ rfl (WI z zn i N (bC el (L.map aC.row).flatten) x _ ?_)
 (repeat' first|(with_reducible first|exact rfl|trivial|assumption|apply And.intro|exact hz|exact(by omega:i<N.nl)|exact hel|exact hrow|exact hin|exact q1)|exact(rfl:Int.ofNat _=_)|exact(rfl:gP _ _=_)|exact hz|exact(by omega:i<N.nl)|exact hel|exact hrow|exact hin|exact q1|intro hq)
end
end Go.Proofs.Nw
namespace Go.Proofs.Nw
open Go Go.AV Go.jm
theorem rp{P:Program}{k k':aZ}(h:k.cells=k'.cells)(t:TypeId)(off:Nat):aB P k t off=aB P k' t off:=by
 unfold aB;rw[h]
theorem gE{P:Program}{k:aZ}{rows:List (List Value)}(hk:k.cells=rows.flatten){t:TypeId}{d:TypeDesc}{sz:Nat}(hd:P.underlying t=some d)(ha:lO d=true)(hi:(P.info? t).map (·.size)=some sz)(hl: ∀r∈rows,r.length=sz)
 {i:Nat} {r:List Value} (h:rows[i]? =some r):aB P k t (0+i*sz)=some (.agg ⟨r⟩):=by
 rw[rp (k':=bC 0 rows.flatten) hk];exact bO hd ha hi hl h
theorem B2{P:Program}{k:aZ}{rows:List (List Value)}(hk:k.cells=rows.flatten){t:TypeId}{d:TypeDesc}{sz:Nat}(hd:P.underlying t=some d)(ha:lO d=false)(hl: ∀r∈rows,r.length=sz)
 {i j:Nat} {r:List Value} {v:Value} (h:rows[i]? =some r) (hj:r[j]? =some v):aB P k t (0+i*sz+j)=some v:=by
 rw[rp (k':=bC 0 rows.flatten) hk];exact bu hd ha hl h hj
theorem jo{P:Program}{k:aZ}{t:TypeId}{d:TypeDesc}(hd:P.underlying t=some d)(ha:lO d=false){i:Nat}{v:Value}(h:k.cells[i]? =some v):aB P k t (0+i*1)=some v:=by
 unfold aB
 simp only[hd,ha]
 rw[qK,Nat.zero_add,Nat.mul_one,h]
theorem jG{sz:Nat}: ∀{rows:List (List Value)},(∀r∈rows,r.length=sz)->rows.flatten.length=rows.length*sz
 |[],_=>by simp
 |r::l,h=>by
  rw[List.flatten_cons,List.length_append,jG (rows:=l) fun x hx=>h x (List.mem_cons_of_mem _ hx),h r (List.mem_cons_self ..),List.length_cons,Nat.succ_mul];omega
theorem tQ: ∀(a:List Value) {b c vs:List Value} {n:Nat},overwrite b n vs=some c->overwrite (a++b) (a.length+n) vs=some (a++c)
 |[],b,c,vs,n,h=>by simpa using h
 |x::a,b,c,vs,n,h=>by
  have:=tQ a h
  have e:(x::a).length+n=(a.length+n)+1:=by simp;omega
  rw[e,List.cons_append]
  cases vs with
  |nil=>simp only[overwrite,this];rfl
  |cons v vs=>simp only[overwrite,this];rfl
theorem qI: ∀(r r' b:List Value),r.length=r'.length->overwrite (r++b) 0 r'=some (r'++b)
 |[],[],b,_=>by cases b<;>rfl
 |x::r,y::r',b,h=>by
  simp only[List.cons_append,overwrite]
  rw[qI r r' b (by simpa using h)]
theorem tP{sz:Nat}{rows:List (List Value)}(hl: ∀r∈rows,r.length=sz){i:Nat}(hi:i<rows.length){r':List Value}(hr:r'.length=sz):overwrite rows.flatten (0+i*sz) r'=some (rows.set i r').flatten:=by
 have e1:rows=rows.take i++rows[i]::rows.drop (i+1):=by
  rw[List.getElem_cons_drop,List.take_append_drop]
 have e2:rows.set i r'=rows.take i++r'::rows.drop (i+1):=List.set_eq_take_append_cons_drop.trans (by rw[if_pos hi])
 have hlen:(rows.take i).flatten.length=i*sz:=by
  rw[jG (fun r hr=>hl r (List.mem_of_mem_take hr)),List.length_take,Nat.min_eq_left (by omega)]
 rw[e2]
 conv=>lhs;rw[e1]
 rw[List.flatten_append,List.flatten_append,List.flatten_cons,List.flatten_cons,Nat.zero_add,←hlen]
 exact tQ _ (qI _ _ _ (by rw[hl _ (List.getElem_mem hi),hr]))
theorem py{cs:List Value}{i:Nat}(hi:i<cs.length)(v:Value):overwrite cs (0+i*1) [v]=some (cs.set i v):=by
 have e1:cs=cs.take i++cs[i]::cs.drop (i+1):=by
  rw[List.getElem_cons_drop,List.take_append_drop]
 have e2:cs.set i v=cs.take i++v::cs.drop (i+1):=List.set_eq_take_append_cons_drop.trans (by rw[if_pos hi])
 rw[e2]
 conv=>lhs;rw[e1]
 have hlen:(cs.take i).length=i:=by rw[List.length_take,Nat.min_eq_left (by omega)]
 have:=tQ (cs.take i) (qI [cs[i]] [v] (cs.drop (i+1)) rfl)
 rw[hlen] at this
 rw[Nat.zero_add,Nat.mul_one]
 exact this
theorem lL{α:Type}(row:α->List Value)(l:List α)(i:Nat)(x:α):(l.map row).set i (row x)=(l.set i x).map row:=by
 rw[List.map_set]
theorem c7: ∀{l:List Value},bH l=true↔ ∀v∈l,az v=true
 |[]=>by simp[bH]
 |v::l=>by
  simp only[bH]
  cases hv:az v with
  |false=>simp[hv]
  |true=>simp[hv,c7 (l:=l)]
theorem jC{α:Type}{row:α->List Value}(h: ∀x,bH (row x)=true)(l:List α):bH (l.map row).flatten=true:=by
 rw[c7]
 intro v hv
 obtain⟨r,hr,hv⟩:=List.mem_flatten.1 hv
 obtain⟨x,_,rfl⟩:=List.mem_map.1 hr
 exact c7.1 (h x) v hv
theorem cG{σ:Nat->Option Nat}{k:aZ}(h:bH k.cells=true):aE σ (.ay k)=some (.ay k):=by
 simp only[aE,fF h]
theorem jx{x:Int}(h1: -4611686018427387904<=x)(h2:x<=4611686018427387904):Value.int .i64 (IntKind.i64.wrap x)=Value.int .i64 x:=by
 have:IntKind.i64.wrap x=x:=by
  simp only[IntKind.wrap,IntKind.signed,IntKind.bits]
  simp
  omega
 rw[this]
def Q2{α:Type}(fC:Nat)(φ:α->Prop)(v:α->Value)(zo:α->bX)(zz:α->T aa)(zn':α->Nat):Value->bX->Nat->T aa->Nat->Prop:=JJ fC φ v zo zz zn'
theorem dJ{z zg:T aa}{zn:Nat}{g:Nat->List Value->Option Value}(hg:fD Try.prog zg g){f:Nat}{fn:Func}(hfn:Try.prog.funcs[f]? =some fn)(hb:fn.body=some (ag fn)){args:List Value}{aS:bX}(hz:an z zn){nx fC:Nat}(hnx:nx<=fC/\fC<=cP){α:Type}{φ:α->Prop}{v:α->Value}{zo:α->bX}{zz:α->T aa}{zn':α->Nat}
 (hlow: ∀x,φ x->E7 (zo x)=true/\zn<=zn' x/\an (zz x) (zn' x)) {N:Nat}
 (h: ∃t,gl Try.prog g zg N (ag fn) (yk fn args) (fY z aS nx) zn (GY Try.prog nx fn (Q2 fC φ v zo zz zn')) t):aV Try.prog z zn f args aS nx fC φ v zo zz zn':=by
 obtain⟨t,ht⟩:=h
 exact A8 hD hg hfn hb hz nx fC hnx _ _ _ _ _ (fun x hx=>⟨sG (hlow x hx).1,(hlow x hx).2.1,(hlow x hx).2.2⟩) ht
theorem q2{α:Type}{fC:Nat}{φ:α->Prop}{v:α->Value}{zo:α->bX}{zz:α->T aa}{zn':α->Nat}(x:α)(h:φ x){u:Value}{aS:bX}{n:Nat}{z':T aa}{m:Nat}(h1:n=fC)(h2:u=v x)(h3:aS=zo x)(h4:z'=zz x)(h5:m=zn' x):Q2 fC φ v zo zz zn' u aS n z' m:=⟨h1,x,h,h2,h3,h4,h5⟩
theorem yT{α:Type}{φ:α->Prop}{F:α->au}{k:α->Tr}{l:Al}(x:α)(h:φ x){o:au}(ho:o=F x):Al.R (.cons α φ F k l) o:= .inl ⟨x,h,ho⟩
end Go.Proofs.Nw
namespace Go.jm
variable{α:Type}
def gL(f:Nat->α)(n:Nat)(x:α):Prop:= ∃i,i<n/\f i=x
def o6(f:Nat->α)(i j:Nat):Nat->α:=fun k=>if k=i then f j else if k=j then f i else f k
theorem sW{f:Nat->α}{n i j:Nat}(hi:i<n)(hj:j<n)(x:α):gL (o6 f i j) n x↔gL f n x:=by
 constructor
 ·rintro⟨k,hk,rfl⟩
  unfold o6
  split
  ·exact⟨j,hj,rfl⟩
  ·split
   ·exact⟨i,hi,rfl⟩
   ·exact⟨k,hk,rfl⟩
 ·rintro⟨k,hk,rfl⟩
  by_cases h1:k=i
  ·subst h1
   by_cases h2:j=k
   ·subst h2;exact⟨j,hj,by simp[o6]⟩
   ·exact⟨j,hj,by simp[o6,h2]⟩
  ·by_cases h2:k=j
   ·subst h2;exact⟨i,hi,by simp[o6]⟩
   ·exact⟨k,hk,by simp[o6,h1,h2]⟩
structure Ord(lt:α->α->Bool):Prop where
 asymm: ∀a b,lt a b=true->lt b a=false
 trans: ∀a b c,lt b a=false->lt c b=false->lt c a=false
def nn(lt:α->α->Bool)(f:Nat->α)(n:Nat):Prop:= ∀k,0<k->k<n->lt (f k) (f ((k - 1) / 2))=false
theorem H9{lt:α->α->Bool}(o:Ord lt){f:Nat->α}{n:Nat}(h:nn lt f n): ∀k,k<n->lt (f k) (f 0)=false:=by
 intro k
 induction k using Nat.strongRecOn with
 |ind k ih=>
  intro hk
  by_cases h0:k=0
  ·subst h0
   cases hc:lt (f 0) (f 0) with
   |false=>rfl
   |true=>have:=o.asymm _ _ hc;rw[hc] at this;cases this
  ·exact o.trans _ _ _ (ih ((k - 1) / 2) (by omega) (by omega)) (h k (by omega) hk)
def J8(lt:α->α->Bool)(f:Nat->α)(n i:Nat):Prop:=
 (∀k,0<k->k<n->k≠i->lt (f k) (f ((k - 1) / 2))=false)/\
 (∀k,0<k->k<n->(k - 1) / 2=i->0<i->lt (f k) (f ((i - 1) / 2))=false)
theorem C7{lt:α->α->Bool}{f:Nat->α}{n i:Nat}(h:J8 lt f n i)(hi:i=0\/lt (f i) (f ((i - 1) / 2))=false):nn lt f n:=by
 intro k h0 hk
 by_cases hki:k=i
 ·subst hki
  rcases hi with rfl|hi
  ·omega
  ·exact hi
 ·exact h.1 k h0 hk hki
theorem C6{lt:α->α->Bool}(o:Ord lt){f:Nat->α}{n i:Nat}(h:J8 lt f n i)(h0:0<i)(hi:i<n)(hl:lt (f i) (f ((i - 1) / 2))=true):
 J8 lt (o6 f i ((i - 1) / 2)) n ((i - 1) / 2):=by
 have hp:(i - 1) / 2<i:=by omega
 have hpi:(i - 1) / 2≠i:=by omega
 have e1:o6 f i ((i - 1) / 2) i=f ((i - 1) / 2):=by simp[o6]
 have e2:o6 f i ((i - 1) / 2) ((i - 1) / 2)=f i:=by simp[o6,hpi]
 have e3: ∀k,k≠i->k≠(i - 1) / 2->o6 f i ((i - 1) / 2) k=f k:=fun k a b=>by simp[o6,a,b]
 refine⟨fun k k0 kn kne=>?_,fun k k0 kn kp p0=>?_⟩
 ·by_cases hki:k=i
  ·subst hki
   rw[e1,e2];exact o.asymm _ _ hl
  ·rw[e3 k hki kne]
   by_cases hpar:(k - 1) / 2=i
   ·rw[hpar,e1];exact h.2 k k0 kn hpar h0
   ·by_cases hpp:(k - 1) / 2=(i - 1) / 2
    ·rw[hpp,e2]
     have:=h.1 k k0 kn hki
     rw[hpp] at this
     exact o.trans _ _ _ (o.asymm _ _ hl) this
    ·rw[e3 _ hpar hpp];exact h.1 k k0 kn hki
 ·have hg:((i - 1) / 2 - 1) / 2≠i:=by omega
  have hg2:((i - 1) / 2 - 1) / 2≠(i - 1) / 2:=by omega
  rw[e3 _ hg hg2]
  have hpg:=h.1 ((i - 1) / 2) p0 (by omega) hpi
  by_cases hki:k=i
  ·subst hki;rw[e1];exact hpg
  ·have hkp:k≠(i - 1) / 2:=by omega
   rw[e3 k hki hkp]
   have:=h.1 k k0 kn hki
   rw[kp] at this
   exact o.trans _ _ _ hpg this
def qn(lt:α->α->Bool)(f:Nat->α)(n i:Nat):Prop:=
 (∀k,0<k->k<n->(k - 1) / 2≠i->lt (f k) (f ((k - 1) / 2))=false)/\
 (∀k,0<k->k<n->(k - 1) / 2=i->0<i->lt (f k) (f ((i - 1) / 2))=false)
theorem Fx{lt:α->α->Bool}{f:Nat->α}{n i:Nat}(h:qn lt f n i)(hc: ∀k,k<n->0<k->(k - 1) / 2=i->lt (f k) (f i)=false):nn lt f n:=by
 intro k h0 hk
 by_cases hp:(k - 1) / 2=i
 ·rw[hp];exact hc k hk h0 hp
 ·exact h.1 k h0 hk hp
theorem Fw{lt:α->α->Bool}(o:Ord lt){f:Nat->α}{n i c:Nat}(h:qn lt f n i)(h0:0<c)(hc:c<n)(hp:(c - 1) / 2=i)(hl:lt (f c) (f i)=true)
 (hmin: ∀k,k<n->0<k->(k - 1) / 2=i->lt (f k) (f c)=false):
 qn lt (o6 f i c) n c:=by
 have hci:c≠i:=by omega
 have e1:o6 f i c i=f c:=by simp[o6]
 have e2:o6 f i c c=f i:=by simp[o6,hci]
 have e3: ∀k,k≠i->k≠c->o6 f i c k=f k:=fun k a b=>by simp[o6,a,b]
 refine⟨fun k k0 kn kne=>?_,fun k k0 kn kp p0=>?_⟩
 ·by_cases hkc:k=c
  ·subst hkc
   rw[e2,hp,e1];exact o.asymm _ _ hl
  ·by_cases hki:k=i
   ·subst hki
    have hne:(k - 1) / 2≠k:=by omega
    rw[e1,e3 _ hne kne]
    exact h.2 c h0 hc hp k0
   ·rw[e3 k hki hkc]
    by_cases hpar:(k - 1) / 2=i
    ·rw[hpar,e1];exact hmin k kn k0 hpar
    ·rw[e3 _ hpar kne];exact h.1 k k0 kn hpar
 ·have hki:k≠i:=by omega
  have hkc:k≠c:=by omega
  rw[e3 k hki hkc,hp,e1]
  have:=h.1 k k0 kn (by omega)
  rw[kp] at this
  exact this
theorem CB{lt:α->α->Bool}{f:Nat->α}{n:Nat}(h:nn lt f (n+1)):qn lt (o6 f 0 n) n 0:=by
 refine⟨fun k k0 kn kne=>?_,fun k k0 kn kp p0=>by omega⟩
 have e3: ∀k,k≠0->k≠n->o6 f 0 n k=f k:=fun k a b=>by simp[o6,a,b]
 rw[e3 k (by omega) (by omega),e3 _ kne (by omega)]
 exact h k k0 (by omega)
theorem GA{f:Nat->α}{n:Nat}(x:α):gL (o6 f 0 n) n x↔ ∃i,0<i/\i<n+1/\f i=x:=by
 constructor
 ·rintro⟨k,hk,rfl⟩
  unfold o6
  split
  ·exact⟨n,by omega,by omega,rfl⟩
  ·split
   ·omega
   ·exact⟨k,by omega,by omega,rfl⟩
 ·rintro⟨k,k0,hk,rfl⟩
  by_cases h:k=n
  ·subst h;exact⟨0,k0,by simp[o6]⟩
  ·exact⟨k,by omega,by simp[o6,h,Nat.ne_of_gt k0]⟩
theorem zq{lt:α->α->Bool}{f:Nat->α}{n:Nat}(h:nn lt f n)(x:α):J8 lt (fun k=>if k=n then x else f k) (n+1) n:=by
 refine⟨fun k k0 kn kne=>?_,fun k k0 kn kp p0=>by omega⟩
 simp only
 rw[if_neg kne,if_neg (by omega)]
 exact h k k0 (by omega)
end Go.jm
namespace Go.Proofs.Nw
open Go Go.AV Go.jm
set_option maxHeartbeats 4000000
set_option maxRecDepth 100000
def nd0:cw:=⟨⟨0,0,0⟩,0⟩
def hf(ms:List cw)(k:Nat):cw:=ms[k]?.getD nd0
def y8(ms:List cw)(i k:Nat):List cw:=(ms.set i (hf ms k)).set k (hf ms i)
theorem Ph{ms:List cw}{k:Nat}(h:k<ms.length):ms[k]? =some (hf ms k):=by
 unfold hf;rw[List.getElem?_eq_getElem h];rfl
theorem lx(ms:List cw)(i k:Nat):(y8 ms i k).length=ms.length:=by simp[y8]
theorem mO{ms:List cw}{i k:Nat}(hi:i<ms.length)(hk:k<ms.length):hf (y8 ms i k)=o6 (hf ms) i k:=by
 funext j
 unfold o6 hf y8
 rw[List.getElem?_set,List.getElem?_set,List.length_set]
 by_cases h1:k=j
 ·subst h1
  by_cases h2:k=i
  ·subst h2;simp[hk,hf]
  ·simp[h2,hk,hf]
 ·have h1': ¬j=k:=fun e=>h1 e.symm
  by_cases h2:i=j
  ·subst h2;simp[h1,hi];rfl
  ·have h2': ¬j=i:=fun e=>h2 e.symm
   simp[h1,h1',h2,h2']
theorem wV(a b:cT):ob a b=true↔a.len<b.len\/(a.len=b.len/\a.gj<b.gj):=by
 unfold ob;simp
theorem mY(a b:cw):dI a b=true↔a.x.len<b.x.len\/(a.x.len=b.x.len/\(a.x.gj<b.x.gj\/(a.x.gj=b.x.gj/\a.num<b.num))):=by
 unfold dI
 rw[Bool.or_eq_true,Bool.and_eq_true,wV,Bool.not_eq_true',decide_eq_true_eq]
 have h:ob b.x a.x=false↔ ¬(b.x.len<a.x.len\/(b.x.len=a.x.len/\b.x.gj<a.x.gj)):=by
  rw[←wV];simp
 rw[h]
 omega
theorem iT:Ord dI:=by
 refine⟨fun a b h=>?_,fun a b c h1 h2=>?_⟩
 ·rw[mY] at h
  cases hc:dI b a with
  |false=>rfl
  |true=>rw[mY] at hc;omega
 ·cases hc:dI c a with
  |false=>rfl
  |true=>
   have n1: ¬dI b a=true:=by rw[h1];simp
   have n2: ¬dI c b=true:=by rw[h2];simp
   rw[mY] at n1 n2 hc
   omega
theorem tv(ms:List cw): ∀r∈ms.map cw.row,r.length=4:=aM ms fun _=>rfl
theorem nv(ms:List cw):(aF ms).length=ms.length*4:=by rw[jG (tv ms),List.length_map]
theorem rm(ms:List cw):bH (aF ms)=true:=jC (fun _=>rfl) ms
theorem OH{σ:Nat->Option Nat}(ms:List cw)(c:Nat):aE σ (dW (aF ms) c)=some (dW (aF ms) c):=cG (rm ms)
theorem aU{σ:Nat->Option Nat}(ms:List cw)(c:Nat):aE σ (aa.ay (aZ.mk (aF ms) c 4 168 false false 0 true))=some (aa.ay (aZ.mk (aF ms) c 4 168 false false 0 true)):=cG (rm ms)
theorem Dm{ms:List cw}{i:Nat}(h:i<ms.length)(c:Nat):aB Try.prog (aZ.mk (aF ms) c 4 168 false false 0 true) 168 (0+i*4)=some (.agg ⟨(hf ms i).row⟩):=
 gE (rows:=ms.map cw.row) rfl Try.underlying168 rfl rfl (tv ms) (by rw[List.getElem?_map,Ph h];rfl)
theorem G8{ms:List cw}{i:Nat}(h:i<ms.length)(a:cw):overwrite (aF ms) (0+i*4) a.row=some (aF (ms.set i a)):=by
 have:=tP (tv ms) (i:=i) (by simpa using h) (r':=a.row) rfl
 rw[lL] at this
 exact this
theorem cZ(z:T aa):fD Try.prog z gH:=by
 intro f args v h
 unfold gH at h
 split at h
 ·rename_i a b c d e f
  cases h
  refine cz ?_ rfl rfl
  refine bt (dP (zg:= .leaf)) (fn:=Try.f80) (by kernel_rfl) (by kernel_rfl) iO ⟨by decide,by decide⟩ rfl (SA .leaf 0 ⟨a,b,c⟩ ⟨d,e,f⟩ _ ?_)
  (repeat' first|(with_reducible first|exact rfl|trivial|assumption|apply And.intro|exact iO)|exact(rfl:Int.ofNat _=_)|exact(rfl:gH _ _=_)|exact iO|intro hq)
  all_goals (refine BA ?_;unfold ob;simp_all)
 ·cases h
section
variable{z:T aa}{zn:Nat}
theorem SP(hz:an z zn):A1 z zn 79 [HT] [] 0 1 (ip 0) [(0,eG aw 0)]:=by
 refine bt (Pk (z:=z)) (fn:=Try.f79) (by kernel_rfl) (by kernel_rfl) hz ⟨by decide,by decide⟩ rfl (mN z zn _ ?_)
 (repeat' first|(with_reducible first|exact rfl|trivial|assumption|apply And.intro|exact hz|exact q1)|exact(rfl:Int.ofNat _=_)|exact(rfl:gH _ _=_)|exact hz|exact q1|intro hq)
theorem uR(hz:an z zn)(ms:List cw)(i k n c cc:Nat)(p:Int)(hi:i<n)(hk:k<n)(hn:n<=ms.length):
 A1 z zn 88 [ip 0,iv i,iv k] [(0,eG (bc 1 n c) p),(1,dW (aF ms) cc)] 2 2 (.bool (dI (hf ms i) (hf ms k))) [(0,eG (bc 1 n c) p),(1,dW (aF ms) cc)]:=by
 refine bt (cZ z) (fn:=Try.f88) (by kernel_rfl) (by kernel_rfl) hz ⟨by decide,by decide⟩ rfl (Wm z zn i k n c cc p (hf ms i) (hf ms k) (aF ms) _ ?_)
 (repeat' first|(with_reducible first|exact rfl|trivial|assumption|apply And.intro|exact hz|exact hi|exact hk|exact Dm (by omega) _|exact aU _ _)|exact(rfl:Int.ofNat _=_)|exact(rfl:gH _ _=_)|exact hz|exact hi|exact hk|exact Dm (by omega) _|exact aU _ _|intro hq)
 all_goals first
  |(refine BA ?_
    unfold dI
    simp_all;done)
theorem yA(hz:an z zn)(ms:List cw)(i k n c cc:Nat)(p:Int)(hi:i<n)(hk:k<n)(hn:n<=ms.length)(hc:ms.length*4<=cc):
 A1 z zn 89 [ip 0,iv i,iv k] [(0,eG (bc 1 n c) p),(1,dW (aF ms) cc)] 2 2 (.tuple ⟨[]⟩) [(0,eG (bc 1 n c) p),(1,dW (aF (y8 ms i k)) cc)]:=by
 have h1:=G8 (ms:=ms) (i:=i) (by omega) (hf ms k)
 have h2:=G8 (ms:=ms.set i (hf ms k)) (i:=k) (by simp;omega) (hf ms i)
 have l1:(aF (ms.set i (hf ms k))).length<=cc:=by rw[nv];simp;exact hc
 have l2:(aF (y8 ms i k)).length<=cc:=by rw[nv,lx];exact hc
 refine bt (cZ z) (fn:=Try.f89) (by kernel_rfl) (by kernel_rfl) hz ⟨by decide,by decide⟩ rfl (Wh z zn i k n c cc p (hf ms i) (hf ms k) (aF ms) (aF (ms.set i (hf ms k))) (aF (y8 ms i k)) _ ?_)
 (repeat' first|(with_reducible first|exact rfl|trivial|assumption|apply And.intro|exact hz|exact hi|exact hk|exact Dm (by omega) _|exact aU _ _|exact h1|exact h2|exact l1|exact l2|exact q1)|exact(rfl:Int.ofNat _=_)|exact(rfl:gH _ _=_)|exact hz|exact hi|exact hk|exact Dm (by omega) _|exact aU _ _|exact h1|exact h2|exact l1|exact l2|exact q1|intro hq)
end
end Go.Proofs.Nw
