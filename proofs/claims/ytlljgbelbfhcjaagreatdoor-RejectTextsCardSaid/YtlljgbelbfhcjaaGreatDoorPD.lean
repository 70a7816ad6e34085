/-
  A part of the proof: lemmas of my own.
-/
import Derived.Test.YtlljgbelbfhcjaaGreatDoorPC
import Derived.KernelRfl
import Derived.WalkKit
import Derived.Below
import Derived.Lib.Hide
import Derived.LoopTactic
import Derived.Laws.IdiomStrings
import Derived.Laws.StructEq
set_option linter.unusedVariables false
set_option linter.unusedSimpArgs false
namespace Go.Proofs.Nw
open Go Go.AV Tryz
set_option maxRecDepth 1000000
noncomputable section
abbrev PZ:List (Nat × Nat):=[YB,iH,(4,4)]
abbrev QA:Nat->Option Nat:=ay PZ []
abbrev Tp:Prop:=Rs (BQ [] 0 4 82)
abbrev T4(n i j:Nat):List (Nat × Value):=[dZ n,(5,dO n),(6,cM n),(7,FK),(8,IV i),Fu j]
abbrev Qz(d1 d2:aY):List (Nat × aa):=[(0,YW d1),(1,YW d2),(4,BQ [] 0 4 82)]
abbrev M3:List (Nat × Nat):=[YB,iH,(4,8)]
abbrev T3(n i j:Nat):List (Nat × Value):=[dZ n,(5,dO n),(6,cM n),(7,SL 4 2 2),(8,IV i),Fu j]
abbrev L6:List (Nat × Nat):=[YB,iH,(4,6)]
abbrev M1:Nat->Option Nat:=ay L6 []
abbrev M0(n i j:Nat):List (Nat × Value):=[dZ n,(5,dO n),(6,cM n),(7,SL 4 1 1),(8,IV i),Fu j]
noncomputable abbrev To:Code:=ah (ag f66) 0
theorem S4(z:T aa)(zn n i j k1 k2:Nat)(d1 d2 b1 b2:aY)(u f:Int)(Q:QL)(hyp:Br (decide ((↑j:Int)<(↑n:Int))) (Br ((↑i:Int)==(↑j:Int)) (ZV (IntKind.i64.wrap ((↑j:Int)+1))=IV (j+1)/\E6 107 z zn (R6 (IV n) (dO n) (cM n) FK (IV i) (IV (j+1)) (K2 QA (YW d1) (YW d2) (Tp/\Q aN (T4 n i j) (Qz d1 d2) 5 z zn)))) (YU i/\i<n/\nI d1 i k1 n/\YU j/\j<n/\iG k1/\iF z k1 b1/\nJ b1 j u/\Br (decide (u>14400)) (ZV (IntKind.i64.wrap ((↑j:Int)+1))=IV (j+1)/\E6 107 z zn (R6 (IV n) (dO n) (cM n) FK (IV i) (IV (j+1)) (K2 QA (YW d1) (YW d2) (Tp/\Q aN (T4 n i j) (Qz d1 d2) 5 z zn)))) (YU i/\i<n/\nI d1 i k1 n/\YU j/\j<n/\iG k1/\iF z k1 b1/\nJ b1 j u/\YU i/\i<n/\nI d2 i k2 n/\YU j/\j<n/\iG k2/\iF z k2 b2/\nJ b2 j f/\YU i/\i<n/\nI d1 i k1 n/\YU j/\j<n/\iG k1/\iF z k1 b1/\nJ b1 j u/\Br (f==u) (YU i/\i<n/\nI d2 i k2 n/\YU j/\j<n/\iG k2/\iF z k2 b2/\nJ b2 j f/\YU i/\i<n/\nI d1 i k1 n/\YU j/\j<n/\iG k1/\iF z k1 b1/\nJ b1 j u/\Br (decide (f>u)) (YU i/\i<n/\nI d2 i k2 n/\YU j/\j<n/\iG k2/\iF z k2 b2/\nJ b2 j f/\Br (decide (f<=14400)) (YU i/\i<n/\nI d2 i k2 n/\YU j/\j<n/\iG k2/\iF z k2 b2/\nJ b2 j f/\ZV (IntKind.i64.wrap ((↑j:Int)+1))=IV (j+1)/\E6 107 z zn (R6 (IV n) (dO n) (cM n) (SL 8 2 2) (IV i) (IV (j+1)) (K2 (ay M3 []) (YW d1) (YW d2) (Rs (BR [IV i,IV j,ZV u,T1,IV i,IV j,ZV f,T1] 8 4 82)/\Q aN (T3 n i j) [(0,YW d1),(1,YW d2),(4,BR [IV i,IV j,ZV u,T1,IV i,IV j,ZV f,T1] 8 4 82)] 5 z zn)))) (ZV (IntKind.i64.wrap ((↑j:Int)+1))=IV (j+1)/\E6 107 z zn (R6 (IV n) (dO n) (cM n) Nb (IV i) (IV (j+1)) (K2 M1 (YW d1) (YW d2) (Rs (BR [IV i,IV j,ZV u,T1] 4 4 82)/\Q aN (M0 n i j) [(0,YW d1),(1,YW d2),(4,BR [IV i,IV j,ZV u,T1] 4 4 82)] 5 z zn))))) (ZV (IntKind.i64.wrap ((↑j:Int)+1))=IV (j+1)/\E6 107 z zn (R6 (IV n) (dO n) (cM n) Nb (IV i) (IV (j+1)) (K2 M1 (YW d1) (YW d2) (Rs (BR [IV i,IV j,ZV u,T1] 4 4 82)/\Q aN (M0 n i j) [(0,YW d1),(1,YW d2),(4,BR [IV i,IV j,ZV u,T1] 4 4 82)] 5 z zn))))) (YU i/\i<n/\nI d2 i k2 n/\YU j/\j<n/\iG k2/\iF z k2 b2/\nJ b2 j f/\YU i/\i<n/\nI d1 i k1 n/\YU j/\j<n/\iG k1/\iF z k1 b1/\nJ b1 j u/\Br (decide (f>u)) (YU i/\i<n/\nI d2 i k2 n/\YU j/\j<n/\iG k2/\iF z k2 b2/\nJ b2 j f/\Br (decide (f<=14400)) (YU i/\i<n/\nI d2 i k2 n/\YU j/\j<n/\iG k2/\iF z k2 b2/\nJ b2 j f/\ZV (IntKind.i64.wrap ((↑j:Int)+1))=IV (j+1)/\E6 107 z zn (R6 (IV n) (dO n) (cM n) (SL 8 2 2) (IV i) (IV (j+1)) (K2 (ay M3 []) (YW d1) (YW d2) (Rs (BR [IV i,IV j,ZV u,F0,IV i,IV j,ZV f,T1] 8 4 82)/\Q aN (T3 n i j) [(0,YW d1),(1,YW d2),(4,BR [IV i,IV j,ZV u,F0,IV i,IV j,ZV f,T1] 8 4 82)] 5 z zn)))) (ZV (IntKind.i64.wrap ((↑j:Int)+1))=IV (j+1)/\E6 107 z zn (R6 (IV n) (dO n) (cM n) Nb (IV i) (IV (j+1)) (K2 M1 (YW d1) (YW d2) (Rs (BR [IV i,IV j,ZV u,F0] 4 4 82)/\Q aN (M0 n i j) [(0,YW d1),(1,YW d2),(4,BR [IV i,IV j,ZV u,F0] 4 4 82)] 5 z zn))))) (ZV (IntKind.i64.wrap ((↑j:Int)+1))=IV (j+1)/\E6 107 z zn (R6 (IV n) (dO n) (cM n) Nb (IV i) (IV (j+1)) (K2 M1 (YW d1) (YW d2) (Rs (BR [IV i,IV j,ZV u,F0] 4 4 82)/\Q aN (M0 n i j) [(0,YW d1),(1,YW d2),(4,BR [IV i,IV j,ZV u,F0] 4
 4 82)] 5 z zn)))))))) (E6 107 z zn (R5 (IV n) (dO n) (cM n) FK (IV i) (K2 QA (YW d1) (YW d2) (Tp/\Q Y7 [dZ n,(5,dO n),(6,cM n),(7,FK),(8,IV i)] (Qz d1 d2) 5 z zn))))):dP prog gH jA (ah To 0) 107 (u9 n 0 i j) z (p9 d1 d2 FI) 5 zn 4 Q:=K1t hyp ((tA 1 ((tA 10 (tO (Ym j) (tE PZ [] (T4 n i j) (Qz d1 d2) 5 z zn))).fork (tA 3 (tO (Yj i) (tA 1 (tO (nj k1 n) (tA 2 (tO (Yj j) (tA 1 (tO (oF k1 b1 u) (tA 1 ((tA 2 (tO (Ym j) (tE PZ [] (T4 n i j) (Qz d1 d2) 5 z zn))).fork (tA 2 (tO (Yj i) (tO (nj k1 n) (tO (Yj j) (tO (oF k1 b1 u) (tO (Yj i) (tO (nj k2 n) (tO (Yj j) (tO (oF k2 b2 f) (tO (Yj i) (tO (nj k1 n) (tO (Yj j) (tO (oF k1 b1 u) ((tA 1 (tO (Yj i) (tO (nj k2 n) (tO (Yj j) (tO (oF k2 b2 f) (tO (Yj i) (tO (nj k1 n) (tO (Yj j) (tO (oF k1 b1 u) ((tA 3 (tO (Yj i) (tA 1 (tO (nj k2 n) (tA 2 (tO (Yj j) (tA 1 (tO (oF k2 b2 f) (tA 1 ((tA 2 (tO (Yj i) (tO (nj k2 n) (tO (Yj j) (tO (oF k2 b2 f) (tA 1 (tO (Ym j) (tE M3 [] (T3 n i j) [(0,YW d1),(1,YW d2),(4,BR [IV i,IV j,ZV u,T1,IV i,IV j,ZV f,T1] 8 4 82)] 5 z zn)))))))).fork (tA 2 (tO (Ym j) (tE L6 [] (M0 n i j) [(0,YW d1),(1,YW d2),(4,BR [IV i,IV j,ZV u,T1] 4 4 82)] 5 z zn))))))))))))).fork (tA 10 (tO (Ym j) (tE L6 [] (M0 n i j) [(0,YW d1),(1,YW d2),(4,BR [IV i,IV j,ZV u,T1] 4 4 82)] 5 z zn))))))))))))).fork (tA 1 (tO (Yj i) (tO (nj k2 n) (tO (Yj j) (tO (oF k2 b2 f) (tO (Yj i) (tO (nj k1 n) (tO (Yj j) (tO (oF k1 b1 u) ((tA 3 (tO (Yj i) (tA 1 (tO (nj k2 n) (tA 2 (tO (Yj j) (tA 1 (tO (oF k2 b2 f) (tA 1 ((tA 2 (tO (Yj i) (tO (nj k2 n) (tO (Yj j) (tO (oF k2 b2 f) (tA 1 (tO (Ym j) (tE M3 [] (T3 n i j) [(0,YW d1),(1,YW d2),(4,BR [IV i,IV j,ZV u,F0,IV i,IV j,ZV f,T1] 8 4 82)] 5 z zn)))))))).fork (tA 2 (tO (Ym j) (tE L6 [] (M0 n i j) [(0,YW d1),(1,YW d2),(4,BR [IV i,IV j,ZV u,F0] 4 4 82)] 5 z zn))))))))))))).fork (tA 10 (tO (Ym j) (tE L6 [] (M0 n i j) [(0,YW d1),(1,YW d2),(4,BR [IV i,IV j,ZV u,F0] 4 4 82)] 5 z zn))))))))))))))))))))))))))))))))))))))).fork (tA 1 (tE PZ [] [dZ n,(5,dO n),(6,cM n),(7,FK),(8,IV i)] (Qz d1 d2) 5 z zn)))
abbrev T2(n k i j:Nat):List (Nat × Value):=[dZ n,(5,dO n),(6,cM n),(7,SL 4 k k),(8,IV i),Fu j]
abbrev Qy(d1 d2:aY)(cs:List Value)(k:Nat):List (Nat × aa):=[(0,YW d1),(1,YW d2),(4,BR cs (k*4) 4 82)]
abbrev T0(n k i j:Nat):List (Nat × Value):=[dZ n,(5,dO n),(6,cM n),(7,SL 4 (k+1+1) (k+1+1)),(8,IV i),Fu j]
abbrev MZ(n k i j:Nat):List (Nat × Value):=[dZ n,(5,dO n),(6,cM n),(7,SL 4 (k+1) (k+1)),(8,IV i),Fu j]
abbrev TZ(d1 d2:aY)(cs:List Value)(i j:Nat)(u:Int)(k:Nat):List (Nat × aa):=[(0,YW d1),(1,YW d2),(4,BR (cs++[IV i,IV j,ZV u,T1]) ((k+1)*4) 4 82)]
abbrev TY(d1 d2:aY)(cs:List Value)(i j:Nat)(u:Int)(k:Nat):List (Nat × aa):=[(0,YW d1),(1,YW d2),(4,BR (cs++[IV i,IV j,ZV u,F0]) ((k+1)*4) 4 82)]
theorem ZS(z:T aa)(zn n k i j k1 k2:Nat)(d1 d2 b1 b2:aY)(u f:Int)(cs:List Value)(Q:QL)(hyp:Br (decide ((↑j:Int)<(↑n:Int))) (Br ((↑i:Int)==(↑j:Int)) (ZV (IntKind.i64.wrap ((↑j:Int)+1))=IV (j+1)/\E6 107 z zn (R6 (IV n) (dO n) (cM n) (SL 4 k k) (IV i) (IV (j+1)) (K3 QA (YW d1) (YW d2) (BR cs (k*4) 4 82) (Q aN (T2 n k i j) (Qy d1 d2 cs k) 5 z zn)))) (YU i/\i<n/\nI d1 i k1 n/\YU j/\j<n/\iG k1/\iF z k1 b1/\nJ b1 j u/\Br (decide (u>14400)) (ZV (IntKind.i64.wrap ((↑j:Int)+1))=IV (j+1)/\E6 107 z zn (R6 (IV n) (dO n) (cM n) (SL 4 k k) (IV i) (IV (j+1)) (K3 QA (YW d1) (YW d2) (BR cs (k*4) 4 82) (Q aN (T2 n k i j) (Qy d1 d2 cs k) 5 z zn)))) (YU i/\i<n/\nI d1 i k1 n/\YU j/\j<n/\iG k1/\iF z k1 b1/\nJ b1 j u/\YU i/\i<n/\nI d2 i k2 n/\YU j/\j<n/\iG k2/\iF z k2 b2/\nJ b2 j f/\YU i/\i<n/\nI d1 i k1 n/\YU j/\j<n/\iG k1/\iF z k1 b1/\nJ b1 j u/\Br (f==u) (Rs [IV i,IV j,ZV u,T1]/\Rf k/\cs.length=k*4/\Rf (k*4)/\k+1<=1048576/\YU i/\i<n/\nI d2 i k2 n/\YU j/\j<n/\iG k2/\iF z k2 b2/\nJ b2 j f/\YU i/\i<n/\nI d1 i k1 n/\YU j/\j<n/\iG k1/\iF z k1 b1/\nJ b1 j u/\Br (decide (f>u)) (YU i/\i<n/\nI d2 i k2 n/\YU j/\j<n/\iG k2/\iF z k2 b2/\nJ b2 j f/\Br (decide (f<=14400)) (YU i/\i<n/\nI d2 i k2 n/\YU j/\j<n/\iG k2/\iF z k2 b2/\nJ b2 j f/\Rs [IV i,IV j,ZV f,T1]/\Rf (k+1)/\(cs++[IV i,IV j,ZV u,T1]).length=(k+1)*4/\Rf ((k+1)*4)/\k+1+1<=1048576/\ZV (IntKind.i64.wrap ((↑j:Int)+1))=IV (j+1)/\E6 107 z zn (R6 (IV n) (dO n) (cM n) (SL 8 (k+1+1) (k+1+1)) (IV i) (IV (j+1)) (K3 (ay M3 []) (YW d1) (YW d2) (BR (cs++[IV i,IV j,ZV u,T1]++[IV i,IV j,ZV f,T1]) ((k+1+1)*4) 4 82) (Q aN (T0 n k i j) [(0,YW d1),(1,YW d2),(4,BR (cs++[IV i,IV j,ZV u,T1]++[IV i,IV j,ZV f,T1]) ((k+1+1)*4) 4 82)] 5 z zn)))) (ZV (IntKind.i64.wrap ((↑j:Int)+1))=IV (j+1)/\E6 107 z zn (R6 (IV n) (dO n) (cM n) (Na k) (IV i) (IV (j+1)) (K3 M1 (YW d1) (YW d2) (BR (cs++[IV i,IV j,ZV u,T1]) ((k+1)*4) 4 82) (Q aN (MZ n k i j) (TZ d1 d2 cs i j u k) 5 z zn))))) (ZV (IntKind.i64.wrap ((↑j:Int)+1))=IV (j+1)/\E6 107 z zn (R6 (IV n) (dO n) (cM n) (Na k) (IV i) (IV (j+1)) (K3 M1 (YW d1) (YW d2) (BR (cs++[IV i,IV j,ZV u,T1]) ((k+1)*4) 4 82) (Q aN (MZ n k i j) (TZ d1 d2 cs i j u k) 5 z zn))))) (Rs [IV i,IV j,ZV u,F0]/\Rf k/\cs.length=k*4/\Rf (k*4)/\k+1<=1048576/\YU i/\i<n/\nI d2 i k2 n/\YU j/\j<n/\iG k2/\iF z k2 b2/\nJ b2 j f/\YU i/\i<n/\nI d1 i k1 n/\YU j/\j<n/\iG k1/\iF z k1 b1/\nJ b1 j u/\Br (decide (f>u)) (YU i/\i<n/\nI d2 i k2 n/\YU j/\j<n/\iG k2/\iF z k2 b2/\nJ b2 j f/\Br (decide (f<=14400)) (YU i/\i<n/\nI d2 i k2 n/\YU j/\j<n/\iG k2/\iF z k2 b2/\nJ b2 j f/\Rs [IV i,IV j,ZV f,T1]/\Rf (k+1)/\(cs++[IV i,IV j,ZV u,F0]).length=(k+1)*4/\Rf ((k+1)*4)/\k+1+1<=1048576/\ZV (IntKind.i64.wrap ((↑j:Int)+1))=IV (j+1)/\E6 107 z zn (R6 (IV n) (dO n) (cM n) (SL 8 (k+1+1) (k+1+1)) (IV i) (IV (j+1)) (K3 (ay M3 []) (YW d1) (YW d2) (BR (cs++[IV i,IV j,ZV u,F0]++[IV i,IV j,ZV f,T1]) ((k+1+1)*4) 4 82) (Q aN (T0 n k i j) [(0,YW d1),(1,YW d2),(4,BR (cs++[IV i,IV j,ZV u,F0]++[IV i,IV j,ZV f,T1]) ((k+1+1)*4) 4 82)] 5 z zn)))) (ZV
 (IntKind.i64.wrap ((↑j:Int)+1))=IV (j+1)/\E6 107 z zn (R6 (IV n) (dO n) (cM n) (Na k) (IV i) (IV (j+1)) (K3 M1 (YW d1) (YW d2) (BR (cs++[IV i,IV j,ZV u,F0]) ((k+1)*4) 4 82) (Q aN (MZ n k i j) (TY d1 d2 cs i j u k) 5 z zn))))) (ZV (IntKind.i64.wrap ((↑j:Int)+1))=IV (j+1)/\E6 107 z zn (R6 (IV n) (dO n) (cM n) (Na k) (IV i) (IV (j+1)) (K3 M1 (YW d1) (YW d2) (BR (cs++[IV i,IV j,ZV u,F0]) ((k+1)*4) 4 82) (Q aN (MZ n k i j) (TY d1 d2 cs i j u k) 5 z zn)))))))) (E6 107 z zn (R5 (IV n) (dO n) (cM n) (SL 4 k k) (IV i) (K3 QA (YW d1) (YW d2) (BR cs (k*4) 4 82) (Q Y7 [dZ n,(5,dO n),(6,cM n),(7,SL 4 k k),(8,IV i)] (Qy d1 d2 cs k) 5 z zn))))):dP prog gH jA (ah To 0) 107 (u9 n k i j) z (p9 d1 d2 (Qt cs k)) 5 zn 4 Q:=K1t hyp ((tA 1 ((tA 10 (tO (Ym j) (tE PZ [] (T2 n k i j) (Qy d1 d2 cs k) 5 z zn))).fork (tA 3 (tO (Yj i) (tA 1 (tO (nj k1 n) (tA 2 (tO (Yj j) (tA 1 (tO (oF k1 b1 u) (tA 1 ((tA 2 (tO (Ym j) (tE PZ [] (T2 n k i j) (Qy d1 d2 cs k) 5 z zn))).fork (tA 2 (tO (Yj i) (tO (nj k1 n) (tO (Yj j) (tO (oF k1 b1 u) (tO (Yj i) (tO (nj k2 n) (tO (Yj j) (tO (oF k2 b2 f) (tO (Yj i) (tO (nj k1 n) (tO (Yj j) (tO (oF k1 b1 u) ((tX (lO.grow 1 [IV i,IV j,ZV u,T1]) (tO (Yj i) (tO (nj k2 n) (tO (Yj j) (tO (oF k2 b2 f) (tO (Yj i) (tO (nj k1 n) (tO (Yj j) (tO (oF k1 b1 u) ((tA 3 (tO (Yj i) (tA 1 (tO (nj k2 n) (tA 2 (tO (Yj j) (tA 1 (tO (oF k2 b2 f) (tA 1 ((tA 2 (tO (Yj i) (tO (nj k2 n) (tO (Yj j) (tO (oF k2 b2 f) (tX (lO.grow 1 [IV i,IV j,ZV f,T1]) (tO (Ym j) (tE M3 [] (T0 n k i j) [(0,YW d1),(1,YW d2),(4,BR (cs++[IV i,IV j,ZV u,T1]++[IV i,IV j,ZV f,T1]) ((k+1+1)*4) 4 82)] 5 z zn)))))))).fork (tA 2 (tO (Ym j) (tE L6 [] (MZ n k i j) (TZ d1 d2 cs i j u k) 5 z zn))))))))))))).fork (tA 10 (tO (Ym j) (tE L6 [] (MZ n k i j) (TZ d1 d2 cs i j u k) 5 z zn))))))))))))).fork (tX (lO.grow 1 [IV i,IV j,ZV u,F0]) (tO (Yj i) (tO (nj k2 n) (tO (Yj j) (tO (oF k2 b2 f) (tO (Yj i) (tO (nj k1 n) (tO (Yj j) (tO (oF k1 b1 u) ((tA 3 (tO (Yj i) (tA 1 (tO (nj k2 n) (tA 2 (tO (Yj j) (tA 1 (tO (oF k2 b2 f) (tA 1 ((tA 2 (tO (Yj i) (tO (nj k2 n) (tO (Yj j) (tO (oF k2 b2 f) (tX (lO.grow 1 [IV i,IV j,ZV f,T1]) (tO (Ym j) (tE M3 [] (T0 n k i j) [(0,YW d1),(1,YW d2),(4,BR (cs++[IV i,IV j,ZV u,F0]++[IV i,IV j,ZV f,T1]) ((k+1+1)*4) 4 82)] 5 z zn)))))))).fork (tA 2 (tO (Ym j) (tE L6 [] (MZ n k i j) (TY d1 d2 cs i j u k) 5 z zn))))))))))))).fork (tA 10 (tO (Ym j) (tE L6 [] (MZ n k i j) (TY d1 d2 cs i j u k) 5 z zn))))))))))))))))))))))))))))))))))))))).fork (tA 1 (tE PZ [] [dZ n,(5,dO n),(6,cM n),(7,SL 4 k k),(8,IV i)] (Qy d1 d2 cs k) 5 z zn)))
noncomputable abbrev Z7(n i:Nat)(d1 d2:aY)(z:T aa)(zn:Nat):pW->aw:=fun(s:pW)=>aw.mk Y7 [(1,iv n),(5,aU 0 n n),(6,aU 1 n n),(7,aU 4 s.k s.k),(8,iv i)] (p9 d1 d2 s.bl) 5 z zn
theorem ZT(z:T aa)(zn n k i:Nat)(d1 d2 o:aY)(φ:pW->Prop)(Q:QL)(hyp:Br (decide ((↑i:Int)<(↑n:Int))) (Rf 4/\ai prog (ah To 0) 4 107 (u9 n k i 0) (p9 d1 d2 o) 5 z zn (Al.cons pW φ (Z7 n i d1 d2 z zn) (fun(x:pW)=>eh) Al.nil).R/\E6 107 z zn (R6 (IV n) (dO n) (cM n) (SL 3 k k) (IV i) YM (K3 (ay [YB,iH,(4,3)] []) (YW d1) (YW d2) (YW o) (∀(x:pW),φ x->ZV (IntKind.i64.wrap ((↑i:Int)+1))=IV (i+1)/\E6 107 z zn (R5 (IV n) (dO n) (cM n) (SL 4 x.k x.k) (IV (i+1)) (K3 (ay [YB,iH,(3,4)] []) (YW d1) (YW d2) (aa.ak x.bl) (Q aN [dZ n,(5,dO n),(6,cM n),(7,SL 3 x.k x.k),Fq i] [(0,YW d1),(1,YW d2),(3,aa.ak x.bl)] 4 z zn))))))) (E6 107 z zn (Rs (SL 3 k k)/\KO (ay [(3,3)] []) (YW o)/\Q YO [yw k] [(3,YW o)] 4 z zn))):dP prog gH jA To 107 (zK n k i) z (Mo d1 d2 o) 4 zn 3 Q:=K1t hyp ((tA 1 (Tr.lp 4 107 [YB,iH,(4,3)] [] (u9 n k i 0) (p9 d1 d2 o) 5 z zn (Al.cons pW φ (Z7 n i d1 d2 z zn) (fun(x:pW)=>tO (Ym i) (tE [YB,iH,(3,4)] [] [dZ n,(5,dO n),(6,cM n),(7,SL 3 x.k x.k),Fq i] [(0,YW d1),(1,YW d2),(3,aa.ak x.bl)] 4 z zn)) Al.nil))).fork (tA 1 (tE [(3,3)] [] [yw k] [(3,YW o)] 4 z zn)))
abbrev MY(n:Nat):dh->Value:=fun(x:dh)=>aU 0 n n
abbrev MX:dh->Nat:=fun(x:dh)=>x.zn
noncomputable abbrev Z6(x_1:dh):pW->aw:=fun(s:pW)=>aw.mk YO [(7,aU 3 s.k s.k)] [(3,aa.ak s.bl)] 4 x_1.z x_1.zn
abbrev Z5(n:Nat)(x x_1:dh)(χ:dh->dh->pW->Prop):Prop:=ai prog To 3 107 (zK n 0 0) (Mo x.bl x_1.bl FI) 4 x_1.z x_1.zn (Al.cons pW (χ x x_1) (Z6 x_1) (fun(x:pW)=>eh) Al.nil).R
noncomputable abbrev Z4(n:Nat)(x:dh)(χ:dh->dh->pW->Prop):dh->Tr:=fun(x_1:dh)=>Tr.lp 3 107 [YB,iH,(3,2)] [] (zK n 0 0) (Mo x.bl x_1.bl FI) 4 x_1.z x_1.zn (Al.cons pW (χ x x_1) (Z6 x_1) (fun(x:pW)=>tR [(0,3)] [] (SL 0 x.k x.k) [(0,aa.ak x.bl)] 1 x_1.z x_1.zn) Al.nil)
theorem cq(z:T aa)(zn m cp n:Nat)(φ:dh->Prop)(ψ:dh->dh->Prop)(χ:dh->dh->pW->Prop)(Q:QF)(hyp:bB prog z zn 95 [eW m cp,IV n,F0] [] 0 1 φ (MY n) (fun(s:dh)=>[(0,j6 s)]) (fun(x:dh)=>x.z) MX/\Rs [eW m cp,IV n,F0]/\ ∀(x:dh),φ x->Rs (dO n)/\KO (sig YC) (j6 x)/\bB prog x.z x.zn 95 [eW m cp,IV n,T1] [] 0 1 (ψ x) (MY n) (fun(s:dh)=>[(0,j6 s)]) (fun(x:dh)=>x.z) MX/\Rs [eW m cp,IV n,T1]/\ ∀(x_1:dh),ψ x x_1->Rs (dO n)/\KO (sig AX) (j6 x_1)/\Be/\Z5 n x x_1 χ/\E6 107 x_1.z x_1.zn (R5 (IV n) (dO n) (cM n) (SL 2 0 0) YM (K2 (ay [YB,iH,(3,2)] []) (j6 x) (j6 x_1) (Tp/\ ∀(x_2:pW),χ x x_1 x_2->E6 107 x_1.z x_1.zn (KO (ay [(0,3)] []) (aa.ak x_2.bl)/\Rs (SL 3 x_2.k x_2.k)/\Q (SL 0 x_2.k x_2.k) [(0,aa.ak x_2.bl)] 1 x_1.z x_1.zn))))):dM prog gH jA f66 [tb 4 m cp,iv n] z [] 0 zn Q:=K1t hyp (Tr.cm (Cm.mk [eW m cp,IV n,F0] [] 0 1 [] YC 1) dh φ (MY n) (fun(s:dh)=>[(0,j6 s)]) (fun(x:dh)=>dO n) (fun(x:dh)=>[(0,j6 x)]) (fun(x:dh)=>x.z) MX fun(x:dh)=>Tr.cm (Cm.mk [eW m cp,IV n,T1] [] 0 1 [] AX 2) dh (ψ x) (MY n) (fun(s:dh)=>[(0,j6 s)]) (fun(x:dh)=>cM n) (fun(x:dh)=>[(1,j6 x)]) (fun(x:dh)=>x.z) MX (Z4 n x χ))
theorem cqn(z:T aa)(zn n:Nat)(φ:dh->Prop)(ψ:dh->dh->Prop)(χ:dh->dh->pW->Prop)(Q:QF)(hyp:bB prog z zn 95 [Y4,IV n,F0] [] 0 1 φ (MY n) (fun(s:dh)=>[(0,j6 s)]) (fun(x:dh)=>x.z) MX/\Rs [Y4,IV n,F0]/\ ∀(x:dh),φ x->Rs (dO n)/\KO (sig YC) (j6 x)/\bB prog x.z x.zn 95 [Y4,IV n,T1] [] 0 1 (ψ x) (MY n) (fun(s:dh)=>[(0,j6 s)]) (fun(x:dh)=>x.z) MX/\Rs [Y4,IV n,T1]/\ ∀(x_1:dh),ψ x x_1->Rs (dO n)/\KO (sig AX) (j6 x_1)/\Be/\Z5 n x x_1 χ/\E6 107 x_1.z x_1.zn (R5 (IV n) (dO n) (cM n) (SL 2 0 0) YM (K2 (ay [YB,iH,(3,2)] []) (j6 x) (j6 x_1) (Tp/\ ∀(x_2:pW),χ x x_1 x_2->E6 107 x_1.z x_1.zn (KO (ay [(0,3)] []) (aa.ak x_2.bl)/\Rs (SL 3 x_2.k x_2.k)/\Q (SL 0 x_2.k x_2.k) [(0,aa.ak x_2.bl)] 1 x_1.z x_1.zn))))):dM prog gH jA f66 [az,iv n] z [] 0 zn Q:=K1t hyp (Tr.cm (Cm.mk [Y4,IV n,F0] [] 0 1 [] YC 1) dh φ (MY n) (fun(s:dh)=>[(0,j6 s)]) (fun(x:dh)=>dO n) (fun(x:dh)=>[(0,j6 x)]) (fun(x:dh)=>x.z) MX fun(x:dh)=>Tr.cm (Cm.mk [Y4,IV n,T1] [] 0 1 [] AX 2) dh (ψ x) (MY n) (fun(s:dh)=>[(0,j6 s)]) (fun(x:dh)=>cM n) (fun(x:dh)=>[(1,j6 x)]) (fun(x:dh)=>x.z) MX (Z4 n x χ))
abbrev Fl(x:ae):aa:=BQ [ZV x.fz1,ZV x.aq,ZV x.aH,Value.bool x.sf] 4 1 82
noncomputable abbrev Qx:Code:=ah (ag f36) 0
theorem Zj(z:T aa)(zn i k:Nat)(N:aJ)(kb:aY)(x y:ae)(Q:QL)(hyp:Br (decide ((↑k:Int)<(↑i:Int))) (YU k/\k<N.np/\Nq/\Np z kb/\DN kb k y/\Br (y.fz1==x.fz1) (Br (y.aq==x.aq) (Br y.sf (Br x.sf (E6 111 z zn (R2 (IV i) Ye (Q af.ret (Yf i) [] 2 z zn))) (ZV (IntKind.i64.wrap ((↑k:Int)+1))=IV (k+1)/\E6 111 z zn (R4 bz (IV i) fB (IV (k+1)) (KO nk (lN N)/\Rs (Fl x)/\Q aN (JB i k) [(0,lN N),(1,Fl x)] 2 z zn)))) (Br x.sf (ZV (IntKind.i64.wrap ((↑k:Int)+1))=IV (k+1)/\E6 111 z zn (R4 bz (IV i) fB (IV (k+1)) (KO nk (lN N)/\Rs (Fl x)/\Q aN (JB i k) [(0,lN N),(1,Fl x)] 2 z zn))) (E6 111 z zn (R2 (IV i) Ye (Q af.ret (Yf i) [] 2 z zn))))) (ZV (IntKind.i64.wrap ((↑k:Int)+1))=IV (k+1)/\E6 111 z zn (R4 bz (IV i) fB (IV (k+1)) (KO nk (lN N)/\Rs (Fl x)/\Q aN (JB i k) [(0,lN N),(1,Fl x)] 2 z zn)))) (ZV (IntKind.i64.wrap ((↑k:Int)+1))=IV (k+1)/\E6 111 z zn (R4 bz (IV i) fB (IV (k+1)) (KO nk (lN N)/\Rs (Fl x)/\Q aN (JB i k) [(0,lN N),(1,Fl x)] 2 z zn)))) (E6 111 z zn (R2 bz (IV i) (KO YD (lN N)/\Q Y7 [oJ,(4,IV i)] [(0,lN N)] 2 z zn)))):dP prog gP z (ah Qx 0) 111 (xE i k) z [yz N,(1,xr x)] 2 zn 2 Q:=K1t hyp ((tA 2 (tO (Yj k) (tO (Nn kb y) (tA 3 ((tA 7 ((tA 3 ((tA 2 ((tA 4 (tE [] [] (Yf i) [] 2 z zn)).fork (tA 4 (tO (Ym k) (tE c8 [] (JB i k) [(0,lN N),(1,Fl x)] 2 z zn))))).fork (tA 2 ((tA 4 (tO (Ym k) (tE c8 [] (JB i k) [(0,lN N),(1,Fl x)] 2 z zn))).fork (tA 4 (tE [] [] (Yf i) [] 2 z zn)))))).fork (tA 8 (tO (Ym k) (tE c8 [] (JB i k) [(0,lN N),(1,Fl x)] 2 z zn))))).fork (tA 13 (tO (Ym k) (tE c8 [] (JB i k) [(0,lN N),(1,Fl x)] 2 z zn)))))))).fork (tA 1 (tE YC [] [oJ,(4,IV i)] [(0,lN N)] 2 z zn)))
abbrev Z3(x:ae):Value:=Value.bool (decide (1<=x.aH) && decide (x.aH<=14400))
theorem Zk(z:T aa)(zn i:Nat)(N:aJ)(kb:aY)(x:ae)(b:Bool)(Q:QL)(hyp:Br (decide ((↑i:Int)<(↑N.np:Int))) (YU i/\i<N.np/\Nq/\Np z kb/\DN kb i x/\WQ1 ((↑N.ns:Int) - 1)/\Rf z/\gP 63 [ZV x.fz1,YM,ZV ((↑N.ns:Int) - 1)]=some (Value.bool (decide (0<=x.fz1) && decide (x.fz1<=(↑N.ns:Int) - 1)))/\Br (!(decide (0<=x.fz1) && decide (x.fz1<=(↑N.ns:Int) - 1))) ((!(decide (0<=x.fz1) && decide (x.fz1<=(↑N.ns:Int) - 1)))=true/\(!(decide (0<=x.fz1) && decide (x.fz1<=(↑N.ns:Int) - 1)))=true/\(!(decide (0<=x.fz1) && decide (x.fz1<=(↑N.ns:Int) - 1)))=true/\(!(decide (0<=x.fz1) && decide (x.fz1<=(↑N.ns:Int) - 1)))=true/\(!(decide (0<=x.fz1) && decide (x.fz1<=(↑N.ns:Int) - 1)))=true/\(!(decide (0<=x.fz1) && decide (x.fz1<=(↑N.ns:Int) - 1)))=true/\(!(decide (0<=x.fz1) && decide (x.fz1<=(↑N.ns:Int) - 1)))=true/\(!(decide (0<=x.fz1) && decide (x.fz1<=(↑N.ns:Int) - 1)))=true/\E6 111 z zn (R2 (IV i) (I 9) (Q af.ret [(2,IV i),(3,I 9)] [] 1 z zn))) ((!(decide (0<=x.fz1) && decide (x.fz1<=(↑N.ns:Int) - 1)))=false/\(!(decide (0<=x.fz1) && decide (x.fz1<=(↑N.ns:Int) - 1)))=false/\(!(decide (0<=x.fz1) && decide (x.fz1<=(↑N.ns:Int) - 1)))=false/\(!(decide (0<=x.fz1) && decide (x.fz1<=(↑N.ns:Int) - 1)))=false/\(!(decide (0<=x.fz1) && decide (x.fz1<=(↑N.ns:Int) - 1)))=false/\WQ1 ((↑N.ns:Int) - 1)/\(!(decide (0<=x.fz1) && decide (x.fz1<=(↑N.ns:Int) - 1)))=false/\Rf z/\gP 63 [ZV x.aq,YM,ZV ((↑N.ns:Int) - 1)]=some (Value.bool (decide (0<=x.aq) && decide (x.aq<=(↑N.ns:Int) - 1)))/\(!(decide (0<=x.fz1) && decide (x.fz1<=(↑N.ns:Int) - 1)))=false/\(!(decide (0<=x.fz1) && decide (x.fz1<=(↑N.ns:Int) - 1)))=false/\Br (!(decide (0<=x.aq) && decide (x.aq<=(↑N.ns:Int) - 1))) ((!(decide (0<=x.aq) && decide (x.aq<=(↑N.ns:Int) - 1)))=true/\(!(decide (0<=x.aq) && decide (x.aq<=(↑N.ns:Int) - 1)))=true/\(!(decide (0<=x.aq) && decide (x.aq<=(↑N.ns:Int) - 1)))=true/\(!(decide (0<=x.aq) && decide (x.aq<=(↑N.ns:Int) - 1)))=true/\(!(decide (0<=x.aq) && decide (x.aq<=(↑N.ns:Int) - 1)))=true/\E6 111 z zn (R2 (IV i) (I 9) (Q af.ret [(2,IV i),(3,I 9)] [] 1 z zn))) ((!(decide (0<=x.aq) && decide (x.aq<=(↑N.ns:Int) - 1)))=false/\(!(decide (0<=x.aq) && decide (x.aq<=(↑N.ns:Int) - 1)))=false/\(!(decide (0<=x.aq) && decide (x.aq<=(↑N.ns:Int) - 1)))=false/\(!(decide (0<=x.aq) && decide (x.aq<=(↑N.ns:Int) - 1)))=false/\Br (x.fz1==x.aq) ((!(decide (0<=x.aq) && decide (x.aq<=(↑N.ns:Int) - 1)))=false/\E6 111 z zn (R2 (IV i) (I 9) (Q af.ret [(2,IV i),(3,I 9)] [] 1 z zn))) ((!(decide (0<=x.aq) && decide (x.aq<=(↑N.ns:Int) - 1)))=false/\Rf z/\gP 63 [ZV x.aH,I 1,I 14400]=some (Z3 x)/\Br (!(decide (1<=x.aH) && decide (x.aH<=14400))) (E6 111 z zn (R2 (IV i) Yg (Q af.ret (Yh i) [] 1 z zn))) (ss/\ai prog (ah Qx 0) 2 111 (xE i 0) [yz N,(1,xr x)] 2 z zn (alt (b=true) (U0 i z zn) (alt (b=false) (aw.mk Y7 (lK i) [yz N] 2 z zn) Al.nil)).R/\E6 111 z zn (R4 bz (IV i) fB YM (KO nk (lN N)/\Rs (Fl
 x)/\(∀(x:Unit),b=true->E6 111 z zn (R2 (IV i) Ye (Q af.ret (Yf i) [] 1 z zn)))/\ ∀(x:Unit),b=false->ZV (IntKind.i64.wrap ((↑i:Int)+1))=IV (i+1)/\E6 111 z zn (R2 bz (IV (i+1)) (KO YD (lN N)/\Q aN [oJ,(4,IV (i+1))] [(0,lN N)] 1 z zn))))))))) (E6 111 z zn (Bd/\KO YD (lN N)/\Q YO [oJ] [(0,lN N)] 1 z zn))):dP prog gP z Qx 111 (lK i) z [yz N] 1 zn 1 Q:=K1t hyp (tA 1 ((tA 2 (tO (Yj i) (tO (Nn kb x) (tA 3 (tO (An.val (ZV ((↑N.ns:Int) - 1))) (tO (An.cl (Value.bool (decide (0<=x.fz1) && decide (x.fz1<=(↑N.ns:Int) - 1)))) ((tO cB (tO cB (tO cB (tO cB (tO cB (tO cB (tO cB (tO cB (tA 7 (tE [] [] [(2,IV i),(3,I 9)] [] 1 z zn)))))))))).fork (tO bJ (tA 1 (tO bJ (tO bJ (tA 1 (tO bJ (tO bJ (tO (An.val (ZV ((↑N.ns:Int) - 1))) (tO bJ (tO (An.cl (Value.bool (decide (0<=x.aq) && decide (x.aq<=(↑N.ns:Int) - 1)))) (tO bJ (tO bJ ((tO cB (tO cB (tO cB (tO cB (tO cB (tA 1 (tE [] [] [(2,IV i),(3,I 9)] [] 1 z zn))))))).fork (tO bJ (tA 1 (tO bJ (tO bJ (tA 1 (tO bJ ((tO bJ (tA 1 (tE [] [] [(2,IV i),(3,I 9)] [] 1 z zn))).fork (tO bJ (tA 2 (tO (An.cl (Z3 x)) ((Yk i z zn).fork (Tr.lp 2 111 c8 [] (xE i 0) [yz N,(1,xr x)] 2 z zn (Al.cons Unit (YR b) (fun(x:Unit)=>U0 i z zn) (fun(x:Unit)=>tE [] [] (Yf i) [] 1 z zn) (Al.cons Unit (YS b) (fun(x:Unit)=>aw.mk Y7 (lK i) [yz N] 2 z zn) (fun(x:Unit)=>tO (Ym i) (tE YC [] [oJ,(4,IV (i+1))] [(0,lN N)] 1 z zn)) Al.nil)))))))))))))))))))))))))))))))))).fork (tA 1 (tE YC [] [oJ] [(0,lN N)] 1 z zn))))
theorem V4(z:T aa)(zn:Nat)(N:aJ)(Q:QL)(hyp:E6 111 z zn (Bd/\KO YD (L8 N)/\Q YO [oJ] [(0,L8 N)] 1 z zn)):dP prog gP z Qx 111 (lK 0) z [(0,N.bT az)] 1 zn 1 Q:=K1t hyp (tA 3 (tE YC [] [oJ] [(0,L8 N)] 1 z zn))
noncomputable abbrev Uf:Code:=ah (ag f36) 2
theorem Zi(z:T aa)(zn i k:Nat)(N:aJ)(kb bl:aY)(x y:ae)(b:Bool)(Q:QL)(hyp:Br (decide ((↑i:Int)<(↑k:Int))) (YU i/\i<k/\DN bl i y/\YU i/\i<N.np/\Nq/\Np z kb/\DN kb i x/\Ff prog BinOp.neq 82 (Operand.tmp 104) (Operand.tmp 109) (Ma y) (Ma x) (ga b)/\Br b (E6 111 z zn (R2 YM (I 18) (Q af.ret [(2,YM),(3,I 18)] [] 2 z zn))) (ZV (IntKind.i64.wrap ((↑i:Int)+1))=IV (i+1)/\E6 111 z zn (R3 bz (cM k) (IV (i+1)) (K2 nk (lN N) (YW bl) (Q aN [oJ,(8,cM k),Fu i] [(0,lN N),(1,YW bl)] 2 z zn))))) (E6 111 z zn (Q Bb [] [] 2 z zn))):dP prog gP z Uf 111 (rG k i) z [yz N,(1,YW bl)] 2 zn 2 Q:=K1t hyp ((tA 1 (tO (Yj i) (tO (An.Dd (AG y.row)) (tA 1 (tO (Yj i) (tO (Nn kb x) (tX (lO.bin (ga b)) ((tE [] [] [(2,YM),(3,I 18)] [] 2 z zn).fork (tO (Ym i) (tE c8 [] [oJ,(8,cM k),Fu i] [(0,lN N),(1,YW bl)] 2 z zn)))))))))).fork (tA 1 (tE [] [] [] [] 2 z zn)))
theorem V3(z:T aa)(zn:Nat)(N:aJ)(bl:aY)(Q:QL)(hyp:E6 111 z zn (Q Bb [] [] 2 z zn)):dP prog gP z Uf 111 (rG 0 0) z [(0,N.bT az),(1,YW bl)] 2 zn 2 Q:=K1t hyp (tA 2 (tE [] [] [] [] 2 z zn))
abbrev Ue:p8->Value:=fun(s:p8)=>aU 0 s.k s.k
abbrev Ud:p8->List (Nat × aa):=fun(s:p8)=>[(0,aa.ak s.bl)]
abbrev pR:p8->T aa:=fun(x:p8)=>x.z
abbrev Uc:p8->Nat:=fun(x:p8)=>x.zn
abbrev I4:Value:=TP [YM,I 18]
noncomputable abbrev YH6(x:p8):aw:=aw.mk af.ret [(2,YM),(3,I 18)] [] 2 (pR x) x.zn
noncomputable abbrev YH7(b:Bool)(x:p8):aw->Prop:=(alt (b=false) (YH6 x) (alt (b=true) (aw.mk Bb [] [] 2 (pR x) x.zn) Al.nil)).R
abbrev YH8:p8->List (Nat × aa):=fun(x:p8)=>[(1,aa.ak x.bl)]
noncomputable abbrev YH9(b:Bool)(x:p8):Al:=Al.cons Unit (YS b) (fun(x_1:Unit)=>YH6 x) (fun(x_1:Unit)=>tR [] [] I4 [] 0 (pR x) x.zn) (Al.cons Unit (YR b) (fun(x_1:Unit)=>aw.mk Bb [] [] 2 (pR x) x.zn) (fun(x_1:Unit)=>tR [] [] Yv [] 0 (pR x) x.zn) Al.nil)
theorem pp(z:T aa)(zn:Nat)(N:aJ)(b:Bool)(r1 r2:Int)(φ:p8->Prop)(Q:QF)(hyp:YP/\ai prog Qx 1 111 (lK 0) [yz N] 1 z zn (alt (r2≠0) (aw.mk af.ret [(2,zv r1),(3,zv r2)] [] 1 z zn) (alt (r1=0/\r2=0) (aw.mk YO [(1,ip 0)] [yz N] 1 z zn) Al.nil)).R/\E6 111 z zn (R2 bz YM (KO YD (lN N)/\(∀(x:Unit),r2≠0->E6 111 z zn (Yu r1 r2/\Q (Yt r1 r2) [] 0 z zn))/\ ∀(x:Unit),r1=0/\r2=0->bB prog z zn 66 [I7 N,IV N.ns] [] 0 1 φ Ue Ud pR Uc/\Rs [I7 N,IV N.ns]/\ ∀(x:p8),φ x->Rs (SL 0 x.k x.k)/\KO (sig AX) (aa.ak x.bl)/\(((↑x.k:Int) !=(↑N.np:Int))=true->E6 111 (pR x) x.zn (Rs I4/\Q I4 [] 0 (pR x) x.zn))/\(((↑x.k:Int) !=(↑N.np:Int))=false->ss/\ai prog Uf 2 111 (rG x.k 0) [yz N,(1,aa.ak x.bl)] 2 (pR x) x.zn (YH7 b x)/\E6 111 (pR x) x.zn (R3 bz (SL 1 x.k x.k) YM (K2 nk (lN N) (aa.ak x.bl) ((∀(x_1:Unit),b=false->E6 111 (pR x) x.zn (Rs I4/\Q I4 [] 0 (pR x) x.zn))/\ ∀(x_1:Unit),b=true->E6 111 (pR x) x.zn (Yw/\Q Yv [] 0 (pR x) x.zn)))))))):dM prog gP z f36 [AG (N.gQ N.p1)] z [] 0 zn Q:=K1t hyp (Tr.lp 1 111 YC [] (lK 0) [yz N] 1 z zn (Al.cons Unit (TA r2) (fun(x:Unit)=>aw.mk af.ret [(2,zv r1),(3,zv r2)] [] 1 z zn) (Yz r1 r2 z zn) (Al.cons Unit (Y0 r1 r2) (fun(x:Unit)=>aw.mk YO [(1,ip 0)] [yz N] 1 z zn) (fun(x:Unit)=>tA 2 (Tr.cm (Cm.mk [I7 N,IV N.ns] [] 0 1 [] AX 2) p8 φ Ue Ud (fun(x:p8)=>SL 1 x.k x.k) YH8 pR Uc fun(x:p8)=>tA 1 ((tA 1 (tR [] [] I4 [] 0 (pR x) x.zn)).fork (tA 1 (Tr.lp 2 111 c8 [] (rG x.k 0) [yz N,(1,aa.ak x.bl)] 2 (pR x) x.zn (YH9 b x)))))) Al.nil)))
theorem ppz(z:T aa)(zn:Nat)(N:aJ)(b:Bool)(φ:p8->Prop)(Q:QF)(hyp:YP/\ai prog Qx 1 111 (lK 0) [(0,N.bT az)] 1 z zn (alt (0≠0) (aw.mk af.ret [(2,zv 0),(3,zv 0)] [] 1 z zn) (alt (Y9/\Y9) (aw.mk YO [(1,ip 0)] [(0,N.bT az)] 1 z zn) Al.nil)).R/\E6 111 z zn (R2 bz YM (KO YD (L8 N)/\(∀(x:Unit),0≠0->E6 111 z zn (Yw/\Q Yv [] 0 z zn))/\ ∀(x:Unit),Y9/\Y9->bB prog z zn 66 [Y4,IV N.ns] [] 0 1 φ Ue Ud pR Uc/\Rs [Y4,IV N.ns]/\ ∀(x:p8),φ x->Rs (SL 0 x.k x.k)/\KO (sig AX) (aa.ak x.bl)/\(((↑x.k:Int) !=0)=true->E6 111 (pR x) x.zn (Rs I4/\Q I4 [] 0 (pR x) x.zn))/\(((↑x.k:Int) !=0)=false->ss/\ai prog Uf 2 111 (rG x.k 0) [(0,N.bT az),(1,aa.ak x.bl)] 2 (pR x) x.zn (YH7 b x)/\E6 111 (pR x) x.zn (R3 bz (SL 1 x.k x.k) YM (K2 nk (L8 N) (aa.ak x.bl) ((∀(x_1:Unit),b=false->E6 111 (pR x) x.zn (Rs I4/\Q I4 [] 0 (pR x) x.zn))/\ ∀(x_1:Unit),b=true->E6 111 (pR x) x.zn (Yw/\Q Yv [] 0 (pR x) x.zn)))))))):dM prog gP z f36 [AG (N.gQ az)] z [] 0 zn Q:=K1t hyp (Tr.lp 1 111 YC [] (lK 0) [(0,N.bT az)] 1 z zn (Al.cons Unit (fun(x:Unit)=>0≠0) (fun(x:Unit)=>aw.mk af.ret [(2,zv 0),(3,zv 0)] [] 1 z zn) (Y1 z zn) (Al.cons Unit (fun(x:Unit)=>Y9/\Y9) (fun(x:Unit)=>aw.mk YO [(1,ip 0)] [(0,N.bT az)] 1 z zn) (fun(x:Unit)=>tA 2 (Tr.cm (Cm.mk [Y4,IV N.ns] [] 0 1 [] AX 2) p8 φ Ue Ud (fun(x:p8)=>SL 1 x.k x.k) YH8 pR Uc fun(x:p8)=>tA 1 ((tA 1 (tR [] [] I4 [] 0 (pR x) x.zn)).fork (tA 1 (Tr.lp 2 111 c8 [] (rG x.k 0) [(0,N.bT az),(1,aa.ak x.bl)] 2 (pR x) x.zn (YH9 b x)))))) Al.nil)))
end
noncomputable section
theorem WD(z:T aa)(zn:Nat)(a b:Int)(Q:QF)(hyp:aQ prog z zn 185 [ZV a] [] 0 0 Yy FO cX/\Rs [ZV a]/\ ∀(x:Unit),True->YQ/\aQ prog z zn 185 [ZV b] [] 0 0 Yy FO cX/\Rs [ZV b]/\ ∀(x:Unit),True->YQ/\Br (decide (a<b)) (E6 20 z zn (Rs (J 0)/\Q (J 0) [] 0 z zn)) (Br (decide (a>b)) (E6 20 z zn (Rs (I 1)/\Q (I 1) [] 0 z zn)) (E6 20 z zn (I8/\Q YM [] 0 z zn)))):dM prog FU z f128 [zv a,zv b] z [] 0 zn Q:=K1t hyp (Tr.cm (Cm.mk [ZV a] [] 0 0 [] [] 0) Unit Yy FO cX FO cX (fD z) (fC zn) fun(x:Unit)=>Tr.cm (Cm.mk [ZV b] [] 0 0 [] [] 0) Unit Yy FO cX FO cX (fD z) (fC zn) fun(x:Unit)=>tA 2 ((tA 1 (tR [] [] (J 0) [] 0 z zn)).fork (tA 1 ((tA 1 (tR [] [] (I 1) [] 0 z zn)).fork (tA 1 (tR [] [] YM [] 0 z zn))))))
theorem WB(z:T aa)(zn:Nat)(a:Int)(Q:QF)(hyp:Br (a !=a) (E6 6 z zn (YA/\Q T1 [] 0 z zn)) (E6 6 z zn (YQ/\Q F0 [] 0 z zn))):dM prog FU z f185 [zv a] z [] 0 zn Q:=K1t hyp ((tR [] [] T1 [] 0 z zn).fork (FT z zn))
theorem WA(z:T aa)(zn i:Nat)(kb:aY)(x r:Int)(Q:QL)(hyp:Br (decide ((↑i:Int)<3)) (YU i/\i<3/\Jx/\Jw z kb/\nJ kb i x/\Br (x !=0) (E6 18 z zn (Rs (ZV x)/\Q af.ret [(2,ZV x)] [] 0 z zn)) (ZV (IntKind.i64.wrap ((↑i:Int)+1))=IV (i+1)/\E6 18 z zn (R4 YM (SL 510 3 3) (I 3) (IV (i+1)) (Q aN [(3,YM),(6,SL 510 3 3),(7,I 3),Fq i] [] 0 z zn)))) (E6 18 z zn (I8/\Q YO [(3,YM)] [] 0 z zn))):dP prog FU z (ah (ag f127) 0) 18 (El i) z [] 0 zn 0 Q:=K1t hyp ((tA 1 (tO (Yj i) (tO (An.ld 0 kb (zv x)) ((tA 1 (tE [] [] [(2,ZV x)] [] 0 z zn)).fork (tA 1 (tO (Ym i) (tE [] [] [(3,YM),(6,SL 510 3 3),(7,I 3),Fq i] [] 0 z zn))))))).fork (tA 1 (tE [] [] [(3,YM)] [] 0 z zn)))
theorem jor(z:T aa)(zn:Nat)(r:Int)(Q:QF)(hyp:Y9/\ai prog (ah (ag f127) 0) 0 18 (El 0) [] 0 z zn (alt (r≠0) (aw.mk af.ret [(2,zv r)] [] 0 z zn) (alt (r=0) (aw.mk YO [(3,YM)] [] 0 z zn) Al.nil)).R/\E6 18 z zn (R4 YM (SL 510 3 3) (I 3) YM ((∀(x:Unit),r≠0->E6 18 z zn (Rs (ZV r)/\Q (ZV r) [] 0 z zn))/\ ∀(x:Unit),r=0->E6 18 z zn (I8/\Q YM [] 0 z zn)))):dM prog FU z f127 [tb 0 3 3] z [] 0 zn Q:=K1t hyp (Tr.lp 0 18 [] [] (El 0) [] 0 z zn (Al.cons Unit (TA r) (fun(x:Unit)=>aw.mk af.ret [(2,zv r)] [] 0 z zn) (fun(x:Unit)=>tR [] [] (ZV r) [] 0 z zn) (Al.cons Unit (TG r) (fun(x:Unit)=>aw.mk YO [(3,YM)] [] 0 z zn) (UY z zn) Al.nil)))
end
noncomputable section
abbrev Xs(y x:ae):Prop:=gS 126 [Ma y,Ma x]=some (ZV (qw y.fz1 y.aq y.aH x.fz1 x.aq x.aH))
abbrev vk:Prop:=Rs (BQ [YM] 1 1 3)
abbrev vj:List (Nat × aa):=[(0,BQ [YM] 1 1 3)]
noncomputable abbrev Xr(y x:ae):An:=An.cl (ZV (qw y.fz1 y.aq y.aH x.fz1 x.aq x.aH))
theorem jo2(z:T aa)(zn kk n a b:Nat)(kb:aY)(x y:ae)(Q:QF)(hyp:YU b/\b<n/\iG kk/\iF z kk kb/\DN kb b y/\YU a/\a<n/\iG kk/\iF z kk kb/\DN kb a x/\Rf z/\Xs y x/\Value.bool (decide (qw y.fz1 y.aq y.aH x.fz1 x.aq x.aH<0))=F0/\E6 32 z zn (vk/\Rs (TP [IV a,IV b])/\Q (TP [IV a,IV b]) vj 1 z zn)):dM prog gS z f250 [tb kk n n,iv a,iv b,ip 0,im] z [(0,JH)] 1 zn Q:=K1t hyp (tO (Yj b) (tO (An.ld kk kb (AG y.row)) (tO (Yj a) (tO (An.ld kk kb (AG x.row)) (tO (Xr y x) (tO FZ (tA 1 (tR YC [] (TP [IV a,IV b]) vj 1 z zn))))))))
abbrev PY(a b:Nat):Unit->Value:=fun(x:Unit)=>TP [IV a,IV b]
abbrev rK:Unit->List (Nat × aa):=fun(x:Unit)=>vj
abbrev Xq(z:T aa)(zn kk n a b:Nat):Prop:=aQ prog z zn 250 [dY kk n,IV a,IV b,bz,gE] vj 1 1 Yy (PY a b) rK
noncomputable abbrev Xp(kk n a b:Nat):Cm:=Cm.mk [dY kk n,IV a,IV b,bz,gE] vj 1 1 YC YC 1
theorem jmd(z:T aa)(zn kk n a b c:Nat)(Q:QF)(hyp:Xq z zn kk n a b/\Rs [dY kk n,IV a,IV b,bz,gE]/\vk/\ ∀(x:Unit),True->Rs (TP [IV a,IV b])/\vk/\Xq z zn kk n b c/\Rs [dY kk n,IV b,IV c,bz,gE]/\vk/\ ∀(x:Unit),True->Rs (TP [IV b,IV c])/\vk/\Xq z zn kk n a b/\Rs [dY kk n,IV a,IV b,bz,gE]/\vk/\ ∀(x:Unit),True->Rs (TP [IV a,IV b])/\vk/\E6 41 z zn (vk/\Rs (IV b)/\Q (IV b) vj 1 z zn)):dM prog gS z f241 [tb kk n n,iv a,iv b,iv c,ip 0,im] z [(0,JH)] 1 zn Q:=K1t hyp (Tr.cm (Xp kk n a b) Unit Yy (PY a b) rK (PY a b) rK (fD z) (fC zn) fun(x:Unit)=>Tr.cm (Xp kk n b c) Unit Yy (PY b c) rK (PY b c) rK (fD z) (fC zn) fun(x:Unit)=>Tr.cm (Xp kk n a b) Unit Yy (PY a b) rK (PY a b) rK (fD z) (fC zn) fun(x:Unit)=>tR YC [] (IV b) vj 1 z zn)
theorem jma(z:T aa)(zn kk n a:Nat)(Q:QF)(hyp:WQ1 ((↑(a+1):Int) - 1)/\ZV (IntKind.i64.wrap ((↑(a+1):Int)+1))=IV (a+1+1)/\aQ prog z zn 241 [dY kk n,ZV ((↑(a+1):Int) - 1),IV (a+1),IV (a+1+1),bz,gE] vj 1 1 Yy (fun(x:Unit)=>IV (a+1)) rK/\Rs [dY kk n,ZV ((↑(a+1):Int) - 1),IV (a+1),IV (a+1+1),bz,gE]/\vk/\ ∀(x:Unit),True->Rs (IV (a+1))/\vk/\E6 18 z zn (vk/\Rs (IV (a+1))/\Q (IV (a+1)) vj 1 z zn)):dM prog gS z f240 [tb kk n n,iv (a+1),ip 0,im] z [(0,JH)] 1 zn Q:=K1t hyp (tO (An.val (ZV ((↑(a+1):Int) - 1))) (tO (An.val (IV (a+1+1))) (Tr.cm (Cm.mk [dY kk n,ZV ((↑(a+1):Int) - 1),IV (a+1),IV (a+1+1),bz,gE] vj 1 1 YC YC 1) Unit Yy (fun(x:Unit)=>IV (a+1)) rK (fun(x:Unit)=>IV (a+1)) rK (fD z) (fC zn) fun(x:Unit)=>tR YC [] (IV (a+1)) vj 1 z zn)))
theorem jcp(z:T aa)(zn kk n i j k:Nat)(Q:QF)(hyp:WQ1 ((↑n:Int) - 0)/\WQ1 (((↑n:Int) - 0).tdiv 4)/\WQ1 (((↑n:Int) - 0).tdiv 4*1)/\WQ1 (0+((↑n:Int) - 0).tdiv 4*1)/\WQ1 (((↑n:Int) - 0).tdiv 4)/\WQ1 (((↑n:Int) - 0).tdiv 4*2)/\WQ1 (0+((↑n:Int) - 0).tdiv 4*2)/\WQ1 (((↑n:Int) - 0).tdiv 4)/\WQ1 (((↑n:Int) - 0).tdiv 4*3)/\WQ1 (0+((↑n:Int) - 0).tdiv 4*3)/\Value.bool (decide ((↑n:Int) - 0>=8))=T1/\Br (decide ((↑n:Int) - 0>=50)) (aQ prog z zn 240 [dY kk n,ZV (0+((↑n:Int) - 0).tdiv 4*1),bz,gE] vj 1 1 Yy (fun(x:Unit)=>ZV (0+((↑n:Int) - 0).tdiv 4*1)) rK/\Rs [dY kk n,ZV (0+((↑n:Int) - 0).tdiv 4*1),bz,gE]/\vk/\ ∀(x:Unit),True->Rs (ZV (0+((↑n:Int) - 0).tdiv 4*1))/\vk/\aQ prog z zn 240 [dY kk n,ZV (0+((↑n:Int) - 0).tdiv 4*2),bz,gE] vj 1 1 Yy (fun(x:Unit)=>ZV (0+((↑n:Int) - 0).tdiv 4*2)) rK/\Rs [dY kk n,ZV (0+((↑n:Int) - 0).tdiv 4*2),bz,gE]/\vk/\ ∀(x:Unit),True->Rs (ZV (0+((↑n:Int) - 0).tdiv 4*2))/\vk/\aQ prog z zn 240 [dY kk n,ZV (0+((↑n:Int) - 0).tdiv 4*3),bz,gE] vj 1 1 Yy (fun(x:Unit)=>ZV (0+((↑n:Int) - 0).tdiv 4*3)) rK/\Rs [dY kk n,ZV (0+((↑n:Int) - 0).tdiv 4*3),bz,gE]/\vk/\ ∀(x:Unit),True->Rs (ZV (0+((↑n:Int) - 0).tdiv 4*3))/\vk/\aQ prog z zn 241 [dY kk n,ZV (0+((↑n:Int) - 0).tdiv 4*1),ZV (0+((↑n:Int) - 0).tdiv 4*2),ZV (0+((↑n:Int) - 0).tdiv 4*3),bz,gE] vj 1 1 Yy (fun(x:Unit)=>ZV (0+((↑n:Int) - 0).tdiv 4*2)) rK/\Rs [dY kk n,ZV (0+((↑n:Int) - 0).tdiv 4*1),ZV (0+((↑n:Int) - 0).tdiv 4*2),ZV (0+((↑n:Int) - 0).tdiv 4*3),bz,gE]/\vk/\ ∀(x:Unit),True->Rs (ZV (0+((↑n:Int) - 0).tdiv 4*2))/\vk/\E6 63 z zn (Rs (TP [ZV (0+((↑n:Int) - 0).tdiv 4*2),I 1])/\Q (TP [ZV (0+((↑n:Int) - 0).tdiv 4*2),I 1]) [] 1 z zn)) (aQ prog z zn 241 [dY kk n,ZV (0+((↑n:Int) - 0).tdiv 4*1),ZV (0+((↑n:Int) - 0).tdiv 4*2),ZV (0+((↑n:Int) - 0).tdiv 4*3),bz,gE] vj 1 1 Yy (fun(x:Unit)=>ZV (0+((↑n:Int) - 0).tdiv 4*2)) rK/\Rs [dY kk n,ZV (0+((↑n:Int) - 0).tdiv 4*1),ZV (0+((↑n:Int) - 0).tdiv 4*2),ZV (0+((↑n:Int) - 0).tdiv 4*3),bz,gE]/\vk/\ ∀(x:Unit),True->Rs (ZV (0+((↑n:Int) - 0).tdiv 4*2))/\vk/\E6 63 z zn (Rs (TP [ZV (0+((↑n:Int) - 0).tdiv 4*2),I 1])/\Q (TP [ZV (0+((↑n:Int) - 0).tdiv 4*2),I 1]) [] 1 z zn))):dM prog gS z f218 [tb kk n n,YM,iv n,im] z [] 0 zn Q:=K1t hyp (tO (An.val (ZV ((↑n:Int) - 0))) (tO (An.val (ZV (((↑n:Int) - 0).tdiv 4))) (tO (An.val (ZV (((↑n:Int) - 0).tdiv 4*1))) (tO (An.val (ZV (0+((↑n:Int) - 0).tdiv 4*1))) (tO (An.val (ZV (((↑n:Int) - 0).tdiv 4))) (tO (An.val (ZV (((↑n:Int) - 0).tdiv 4*2))) (tO (An.val (ZV (0+((↑n:Int) - 0).tdiv 4*2))) (tO (An.val (ZV (((↑n:Int)
 - 0).tdiv 4))) (tO (An.val (ZV (((↑n:Int) - 0).tdiv 4*3))) (tO (An.val (ZV (0+((↑n:Int) - 0).tdiv 4*3))) (tO Rk (tA 1 ((tA 1 (Tr.cm (Cm.mk [dY kk n,ZV (0+((↑n:Int) - 0).tdiv 4*1),bz,gE] vj 1 1 YC YC 1) Unit Yy (fun(x:Unit)=>ZV (0+((↑n:Int) - 0).tdiv 4*1)) rK (fun(x:Unit)=>ZV (0+((↑n:Int) - 0).tdiv 4*1)) rK (fD z) (fC zn) fun(x:Unit)=>Tr.cm (Cm.mk [dY kk n,ZV (0+((↑n:Int) - 0).tdiv 4*2),bz,gE] vj 1 1 YC YC 1) Unit Yy (fun(x:Unit)=>ZV (0+((↑n:Int) - 0).tdiv 4*2)) rK (fun(x:Unit)=>ZV (0+((↑n:Int) - 0).tdiv 4*2)) rK (fD z) (fC zn) fun(x:Unit)=>Tr.cm (Cm.mk [dY kk n,ZV (0+((↑n:Int) - 0).tdiv 4*3),bz,gE] vj 1 1 YC YC 1) Unit Yy (fun(x:Unit)=>ZV (0+((↑n:Int) - 0).tdiv 4*3)) rK (fun(x:Unit)=>ZV (0+((↑n:Int) - 0).tdiv 4*3)) rK (fD z) (fC zn) fun(x:Unit)=>Tr.cm (Cm.mk [dY kk n,ZV (0+((↑n:Int) - 0).tdiv 4*1),ZV (0+((↑n:Int) - 0).tdiv 4*2),ZV (0+((↑n:Int) - 0).tdiv 4*3),bz,gE] vj 1 1 YC YC 1) Unit Yy (fun(x:Unit)=>ZV (0+((↑n:Int) - 0).tdiv 4*2)) rK (fun(x:Unit)=>ZV (0+((↑n:Int) - 0).tdiv 4*2)) rK (fD z) (fC zn) fun(x:Unit)=>tA 3 (tR [] [] (TP [ZV (0+((↑n:Int) - 0).tdiv 4*2),I 1]) [] 1 z zn))).fork (tA 1 (Tr.cm (Cm.mk [dY kk n,ZV (0+((↑n:Int) - 0).tdiv 4*1),ZV (0+((↑n:Int) - 0).tdiv 4*2),ZV (0+((↑n:Int) - 0).tdiv 4*3),bz,gE] vj 1 1 YC YC 1) Unit Yy (fun(x:Unit)=>ZV (0+((↑n:Int) - 0).tdiv 4*2)) rK (fun(x:Unit)=>ZV (0+((↑n:Int) - 0).tdiv 4*2)) rK (fD z) (fC zn) fun(x:Unit)=>tA 3 (tR [] [] (TP [ZV (0+((↑n:Int) - 0).tdiv 4*2),I 1]) [] 1 z zn))))))))))))))))
end
noncomputable section
abbrev TX(kk n i:Nat):List (Nat × Value):=[(0,dY kk n),(1,YM),(2,IV n),(3,gE),(8,IV i)]
noncomputable abbrev Qw:Code:=ah (ag f215) 0
theorem ji1(z:T aa)(zn kk n i j:Nat)(kb:aY)(x y:ae)(Q:QL)(hyp:Br (decide ((↑(j+1):Int)>0)) (Rf (↑(j+1):Int)/\j+1<n/\iG kk/\iF z kk kb/\aC prog kb 82 (0+(j+1)*4)=some (Ma y)/\WQ1 ((↑(j+1):Int) - 1)/\(↑(j+1):Int) - 1=(↑j:Int)/\j<n/\iG kk/\iF z kk kb/\DN kb j x/\Rf z/\Xs y x/\Value.bool (decide (qw y.fz1 y.aq y.aH x.fz1 x.aq x.aH<0))=F0/\E6 53 z zn (R5 (dY kk n) YM (IV n) gE (IV i) (Q Y7 (TX kk n i) [] 0 z zn))) (E6 53 z zn (R5 (dY kk n) YM (IV n) gE (IV i) (Q Y7 (TX kk n i) [] 0 z zn)))):dP prog gS z (ah Qw 0) 53 (Ep (tb kk n n) n i (j+1)) z [] 0 zn 0 Q:=K1t hyp ((tA 4 (tO (An.idx (j+1)) (tA 1 (tO (An.ld kk kb (AG y.row)) (tA 3 (tO (An.val (ZV ((↑(j+1):Int) - 1))) (tA 1 (tO (Yj j) (tA 1 (tO (An.ld kk kb (AG x.row)) (tA 1 (tO (Xr y x) (tA 1 (tO FZ (tA 2 (tE [] [] (TX kk n i) [] 0 z zn)))))))))))))))).fork (tA 14 (tE [] [] (TX kk n i) [] 0 z zn)))
theorem ji0(z:T aa)(zn kk n i:Nat)(Q:QL)(hyp:Br (decide ((↑i:Int)<(↑n:Int))) (Y9/\ai prog (ah Qw 0) 0 53 (Ep (tb kk n n) n i i) [] 0 z zn (alt True (aw.mk Y7 (po (tb kk n n) n i) [] 0 z zn) Al.nil).R/\E6 53 z zn (R6 (dY kk n) YM (IV n) gE (IV i) (IV i) (∀(x:Unit),True->ZV (IntKind.i64.wrap ((↑i:Int)+1))=IV (i+1)/\E6 53 z zn (R5 (dY kk n) YM (IV n) gE (IV (i+1)) (Q aN [(0,dY kk n),(1,YM),(2,IV n),(3,gE),Fq i] [] 0 z zn))))) (E6 53 z zn (Q YO [] [] 0 z zn))):dP prog gS z Qw 53 (po (tb kk n n) n i) z [] 0 zn 0 Q:=K1t hyp ((tA 1 (Tr.lp 0 53 [] [] (Ep (tb kk n n) n i i) [] 0 z zn (Al.cons Unit Yy (fun(x:Unit)=>aw.mk Y7 (po (tb kk n n) n i) [] 0 z zn) (fun(x:Unit)=>tO (Ym i) (tE [] [] [(0,dY kk n),(1,YM),(2,IV n),(3,gE),Fq i] [] 0 z zn)) Al.nil))).fork (Qk z zn))
theorem WC(z:T aa)(zn:Nat)(Q:QL)(hyp:E6 53 z zn (Q YO [] [] 0 z zn)):dP prog gS z Qw 53 (po az 0 1) z [] 0 zn 0 Q:=K1t hyp (tA 2 (tE [] [] [] [] 0 z zn))
noncomputable abbrev Tn(z:T aa)(zn:Nat):Unit->Tr:=fun(x:Unit)=>tR [] [] nw [] 0 z zn
theorem ji(z:T aa)(zn kk n:Nat)(Q:QF)(hyp:Y9/\ai prog Qw 0 53 (po (tb kk n n) n 1) [] 0 z zn (UF z zn)/\E6 53 z zn (R5 (dY kk n) YM (IV n) gE (I 1) (∀(x:Unit),True->E6 53 z zn (lQ/\Q nw [] 0 z zn)))):dM prog gS z f215 [tb kk n n,YM,iv n,im] z [] 0 zn Q:=K1t hyp (tA 1 (Tr.lp 0 53 [] [] (po (tb kk n n) n 1) [] 0 z zn (Al.cons Unit Yy (Qj z zn) (Tn z zn) Al.nil)))
theorem jiz(z:T aa)(zn:Nat)(Q:QF)(hyp:Y9/\ai prog Qw 0 53 (po az 0 1) [] 0 z zn (UF z zn)/\E6 53 z zn (R5 Y4 YM YM gE (I 1) (∀(x:Unit),True->E6 53 z zn (lQ/\Q nw [] 0 z zn)))):dM prog gS z f215 [az,YM,iv 0,im] z [] 0 zn Q:=K1t hyp (tA 1 (Tr.lp 0 53 [] [] (po az 0 1) [] 0 z zn (Al.cons Unit Yy (Qj z zn) (Tn z zn) Al.nil)))
noncomputable abbrev TW:Code:=ah (ag f220) 0
theorem Zr(z:T aa)(zn kk n i:Nat)(kb:aY)(x y:ae)(Q:QL)(hyp:Br (decide ((↑(i+1):Int)<(↑n:Int))) (Rf (↑(i+1):Int)/\i+1<n/\iG kk/\iF z kk kb/\aC prog kb 82 (0+(i+1)*4)=some (Ma y)/\WQ1 ((↑(i+1):Int) - 1)/\(↑(i+1):Int) - 1=(↑i:Int)/\i<n/\iG kk/\iF z kk kb/\DN kb i x/\Rf z/\Xs y x/\Value.bool (decide (qw y.fz1 y.aq y.aH x.fz1 x.aq x.aH<0))=F0/\ZV (IntKind.i64.wrap ((↑(i+1):Int)+1))=IV (i+1+1)/\E6 141 z zn (R6 (dY kk n) YM (IV n) gE (IV (i+1+1)) YM (Q aN [(0,dY kk n),(1,YM),(2,IV n),(3,gE),(9,IV (i+1+1)),(10,YM)] [] 0 z zn))) (E6 141 z zn (R6 (dY kk n) YM (IV n) gE (IV (i+1)) YM (Q Y7 [(0,dY kk n),(1,YM),(2,IV n),(3,gE),Fu i,(10,YM)] [] 0 z zn)))):dP prog gS z (ah TW 0) 141 (jm kk n (i+1) 0) z [] 0 zn 0 Q:=K1t hyp ((tA 4 (tO (An.idx (i+1)) (tA 1 (tO (An.ld kk kb (AG y.row)) (tA 3 (tO (An.val (ZV ((↑(i+1):Int) - 1))) (tA 1 (tO (Yj i) (tA 1 (tO (An.ld kk kb (AG x.row)) (tA 1 (tO (Xr y x) (tA 1 (tO FZ (tA 3 (tO (An.val (IV (i+1+1))) (tE [] [] [(0,dY kk n),(1,YM),(2,IV n),(3,gE),(9,IV (i+1+1)),(10,YM)] [] 0 z zn))))))))))))))))).fork (tA 15 (tE [] [] [(0,dY kk n),(1,YM),(2,IV n),(3,gE),Fu i,(10,YM)] [] 0 z zn)))
theorem jq0(z:T aa)(zn kk n:Nat)(Q:QL)(hyp:Y9/\ai prog (ah TW 0) 0 141 (jm kk n 1 0) [] 0 z zn (alt True (aw.mk Y7 (jm kk n n 0) [] 0 z zn) Al.nil).R/\E6 141 z zn (R6 (dY kk n) YM (IV n) gE (I 1) YM (∀(x:Unit),True->Value.bool ((↑n:Int)==(↑n:Int))=T1/\E6 141 z zn (YA/\Q af.ret [(8,T1)] [] 0 z zn)))):dP prog gS z TW 141 (jm kk n 1 0) z [] 0 zn 0 Q:=K1t hyp (tA 2 (Tr.lp 0 141 [] [] (jm kk n 1 0) [] 0 z zn (Al.cons Unit Yy (fun(x:Unit)=>aw.mk Y7 (jm kk n n 0) [] 0 z zn) (fun(x:Unit)=>tO Rk (tA 1 (tE [] [] [(8,T1)] [] 0 z zn))) Al.nil)))
theorem jq(z:T aa)(zn kk n:Nat)(Q:QF)(hyp:Y9/\ai prog TW 0 141 (jm kk n 1 0) [] 0 z zn (alt True (aw.mk af.ret [(8,T1)] [] 0 z zn) Al.nil).R/\E6 141 z zn (R6 (dY kk n) YM (IV n) gE (I 1) YM (∀(x:Unit),True->E6 141 z zn (YA/\Q T1 [] 0 z zn)))):dM prog gS z f220 [tb kk n n,YM,iv n,im] z [] 0 zn Q:=K1t hyp (tA 1 (Tr.lp 0 141 [] [] (jm kk n 1 0) [] 0 z zn (Al.cons Unit Yy (fun(x:Unit)=>aw.mk af.ret [(8,T1)] [] 0 z zn) (fun(x:Unit)=>tR [] [] T1 [] 0 z zn) Al.nil)))
abbrev L5(kk n:Nat):List Value:=[dY kk n,YM,IV n,gE]
noncomputable abbrev TV:Code:=ah (ag f184) 0
theorem jp0(z:T aa)(zn kk n l p:Nat)(Q:QL)(hyp:WQ1 ((↑n:Int) - 0)/\Br (decide ((↑n:Int) - 0<=12)) (aQ prog z zn 215 (L5 kk n) [] 0 0 Yy lP cX/\Rs (L5 kk n)/\ ∀(x:Unit),True->lQ/\E6 148 z zn (Q af.ret [] [] 0 z zn)) (Value.bool ((↑l:Int)==0)=F0/\aQ prog z zn 218 (L5 kk n) [] 0 1 Yy (fun(x:Unit)=>TP [iv p,I 1]) cX/\Rs (L5 kk n)/\ ∀(x:Unit),True->Rs (TP [IV p,I 1])/\aQ prog z zn 220 (L5 kk n) [] 0 0 Yy (fun(x:Unit)=>T1) cX/\Rs (L5 kk n)/\ ∀(x:Unit),True->YA/\E6 148 z zn (Q af.ret [] [] 0 z zn))):dP prog gS z TV 148 (tP (tb kk n n) n l) z [] 0 zn 0 Q:=K1t hyp (tO (An.val (ZV ((↑n:Int) - 0))) ((tA 1 (Tr.cm (Cm.mk (L5 kk n) [] 0 0 [] [] 0) Unit Yy lP cX lP cX (fD z) (fC zn) fun(x:Unit)=>tE [] [] [] [] 0 z zn)).fork (tA 1 (tO FZ (tA 2 (Tr.cm (Cm.mk (L5 kk n) [] 0 1 [] YC 1) Unit Yy (fun(x:Unit)=>TP [iv p,I 1]) cX (fun(x:Unit)=>TP [IV p,I 1]) cX (fD z) (fC zn) fun(x:Unit)=>tA 9 (Tr.cm (Cm.mk (L5 kk n) [] 0 0 [] [] 1) Unit Yy (fun(x:Unit)=>T1) cX (fun(x:Unit)=>T1) cX (fD z) (fC zn) fun(x:Unit)=>Qk z zn)))))))
theorem Wz(z:T aa)(zn l:Nat)(Q:QL)(hyp:aQ prog z zn 215 [Y4,YM,YM,gE] [] 0 0 Yy lP cX/\Rs [Y4,YM,YM,gE]/\ ∀(x:Unit),True->lQ/\E6 148 z zn (Q af.ret [] [] 0 z zn)):dP prog gS z TV 148 (tP az 0 l) z [] 0 zn 0 Q:=K1t hyp (tA 3 (Tr.cm (Cm.mk [Y4,YM,YM,gE] [] 0 0 [] [] 0) Unit Yy lP cX lP cX (fD z) (fC zn) fun(x:Unit)=>tE [] [] [] [] 0 z zn))
noncomputable abbrev Z2(z:T aa)(zn:Nat):Al:=Al.cons Unit Yy (fun(x:Unit)=>aw.mk af.ret [] [] 0 z zn) (Tn z zn) Al.nil
theorem jp(z:T aa)(zn n l kk:Nat)(Q:QF)(hyp:Y9/\ai prog TV 0 148 (tP (tb kk n n) n l) [] 0 z zn (alt True (aw.mk af.ret [] [] 0 z zn) Al.nil).R/\E6 148 z zn (R7 (dY kk n) YM (IV n) (IV l) gE T1 T1 (∀(x:Unit),True->E6 148 z zn (lQ/\Q nw [] 0 z zn)))):dM prog gS z f184 [tb kk n n,YM,iv n,iv l,im] z [] 0 zn Q:=K1t hyp (Tr.lp 0 148 [] [] (tP (tb kk n n) n l) [] 0 z zn (Z2 z zn))
theorem jpz(z:T aa)(zn l:Nat)(Q:QF)(hyp:Y9/\ai prog TV 0 148 (tP az 0 l) [] 0 z zn (alt True (aw.mk af.ret [] [] 0 z zn) Al.nil).R/\E6 148 z zn (R7 Y4 YM YM (IV l) gE T1 T1 (∀(x:Unit),True->E6 148 z zn (lQ/\Q nw [] 0 z zn)))):dM prog gS z f184 [az,YM,iv 0,iv l,im] z [] 0 zn Q:=K1t hyp (Tr.lp 0 148 [] [] (tP az 0 l) [] 0 z zn (Z2 z zn))
abbrev Xo(n:Nat):List Value:=[Value.int IntKind.u64 (IntKind.u64.wrap (↑n:Int))]
theorem js(z:T aa)(zn kk n l:Nat)(Q:QF)(hyp:aQ prog z zn 108 (Xo n) [] 0 0 Yy (QU l) cX/\Rs (Xo n)/\ ∀(x:Unit),True->Rs (IV l)/\aQ prog z zn 184 [dY kk n,YM,IV n,IV l,gE] [] 0 0 Yy lP cX/\Rs [dY kk n,YM,IV n,IV l,gE]/\ ∀(x:Unit),True->lQ/\E6 14 z zn (lQ/\Q nw [] 0 z zn)):dM prog gS z f125 [tb kk n n,im] z [] 0 zn Q:=K1t hyp (Tr.cm (Cm.mk (Xo n) [] 0 0 [] [] 0) Unit Yy (QU l) cX (fun(x:Unit)=>IV l) cX (fD z) (fC zn) fun(x:Unit)=>Tr.cm (Cm.mk [dY kk n,YM,IV n,IV l,gE] [] 0 0 [] [] 0) Unit Yy lP cX lP cX (fD z) (fC zn) (Tn z zn))
abbrev Xn:List Value:=[Value.int IntKind.u64 0]
theorem jsz(z:T aa)(zn l:Nat)(Q:QF)(hyp:aQ prog z zn 108 Xn [] 0 0 Yy (QU l) cX/\Rs Xn/\ ∀(x:Unit),True->Rs (IV l)/\aQ prog z zn 184 [Y4,YM,YM,IV l,gE] [] 0 0 Yy lP cX/\Rs [Y4,YM,YM,IV l,gE]/\ ∀(x:Unit),True->lQ/\E6 14 z zn (lQ/\Q nw [] 0 z zn)):dM prog gS z f125 [az,im] z [] 0 zn Q:=K1t hyp (Tr.cm (Cm.mk Xn [] 0 0 [] [] 0) Unit Yy (QU l) cX (fun(x:Unit)=>IV l) cX (fD z) (fC zn) fun(x:Unit)=>Tr.cm (Cm.mk [Y4,YM,YM,IV l,gE] [] 0 0 [] [] 0) Unit Yy lP cX lP cX (fD z) (fC zn) (Tn z zn))
end
noncomputable section
abbrev Xm(N:aJ):List (Nat × aa):=[(0,N.cf az N.l0),nK,(2,bd [])]
theorem ruz(z:T aa)(zn:Nat)(N:aJ)(Q:QL)(hyp:E6 96 z zn (jx/\sr/\Q YO eN [pS] 3 z zn)):dP prog gP z UX 96 Eh z (Xm N) 3 zn 3 Q:=K1t hyp (tA 2 (tE gy [] eN [pS] 3 z zn))
theorem fuz(z:T aa)(zn:Nat)(N:aJ)(Q:QF)(hyp:Be/\ai prog UX 3 96 Eh (Xm N) 3 z zn (alt True (aw.mk YO [(2,ip 1)] [nK] 3 z zn) Al.nil).R/\E6 96 z zn (R6 bz fB (MP 2) Y4 YM YM (KO vn (BQ [A0 N,AZ N,Y4,TD N,Qe N,Jy N,ZV N.d,ZV N.w,ZV N.c] 9 1 31)/\sr/\Ys/\ ∀(x:Unit),True->E6 96 z zn (Rs w7/\Q w7 [] 0 z zn)))):dM prog gP z f26 [AG (N.dR az N.l0)] z [] 0 zn Q:=K1t hyp (tA 4 (Tr.lp 3 96 Bf [] Eh (Xm N) 3 z zn (Al.cons Unit Yy (fun(x:Unit)=>aw.mk YO [(2,ip 1)] [nK] 3 z zn) (UW z zn) Al.nil)))
end
end Go.Proofs.Nw
namespace Go.Proofs.Nw
open Go.RowKit Tryz
set_option maxRecDepth 1000000
theorem Di(s:ByteArray)(k:Nat)(h:k<s.size):(s.data.toList.drop k).all lG=(lG (s[k]'h) && (s.data.toList.drop (k+1)).all lG):=by
 have e:s.data.toList.drop k=(s[k]'h)::s.data.toList.drop (k+1):=by rw[List.drop_eq_getElem_cons (by simpa using h)];rfl
 rw[e];rfl
theorem Ht(s:ByteArray)(k:Nat)(h:s.size<=k):(s.data.toList.drop k).all lG=true:=by
 rw[List.drop_of_length_le (by simpa using h)];rfl
theorem fg(c:UInt8):lG c=true↔((97<=c.toNat/\c.toNat<=122)\/(65<=c.toNat/\c.toNat<=90)\/(48<=c.toNat/\c.toNat<=57)\/c.toNat=45\/c.toNat=95\/c.toNat=46):=by
 simp[lG,or_assoc]
theorem c7(c:UInt8):lG c=false↔ ¬((97<=c.toNat/\c.toNat<=122)\/(65<=c.toNat/\c.toNat<=90)\/(48<=c.toNat/\c.toNat<=57)\/c.toNat=45\/c.toNat=95\/c.toNat=46):=by
 rw[←fg];simp
set_option maxHeartbeats 8000000 in
theorem NL(s:ByteArray)(w:World)(hs:s.size<=9223372036854775807):Calls prog 53 #[.string s] w fun e w'=>e= .returned (.bool (bM s))/\w=w':=by
 go_enter func53,ntmps53
 go_wp2
 go_loop [3] (fun i=> ∃k:Nat,k<=s.size/\i= .int .i64 k/\(s.data.toList.drop k).all lG=s.data.toList.all lG) (fun i=>s.size - (intOf i).toNat)
 case atStart=>exact⟨0,Nat.zero_le _,rfl,rfl⟩
 case round=>
  obtain⟨k,hk,rfl,hv⟩:=hrel
  have HV:=Lib.hid hv
  clear hv
  by_cases hlt:k<s.size
  ·have HD:=Lib.hid (Di s k hlt)
   have hb:(s[k]'hlt).toNat<256:=(s[k]'hlt).toNat_lt
   have hcat:(0<=(s[k]'hlt).toNat/\(s[k]'hlt).toNat<=44)\/(45<=(s[k]'hlt).toNat/\(s[k]'hlt).toNat<=45)\/(46<=(s[k]'hlt).toNat/\(s[k]'hlt).toNat<=46)\/(47<=(s[k]'hlt).toNat/\(s[k]'hlt).toNat<=47)\/(48<=(s[k]'hlt).toNat/\(s[k]'hlt).toNat<=57)\/(58<=(s[k]'hlt).toNat/\(s[k]'hlt).toNat<=64)\/(65<=(s[k]'hlt).toNat/\(s[k]'hlt).toNat<=90)\/(91<=(s[k]'hlt).toNat/\(s[k]'hlt).toNat<=94)\/(95<=(s[k]'hlt).toNat/\(s[k]'hlt).toNat<=95)\/(96<=(s[k]'hlt).toNat/\(s[k]'hlt).toNat<=96)\/(97<=(s[k]'hlt).toNat/\(s[k]'hlt).toNat<=122)\/(123<=(s[k]'hlt).toNat/\(s[k]'hlt).toNat<=255):=by omega
   rcases hcat with hcat|hcat|hcat|hcat|hcat|hcat|hcat|hcat|hcat|hcat|hcat|hcat
   ·have x0: ¬97<=(s[k]'hlt).toNat:=by omega
    have y0: ¬(97:Int)<=(((s[k]'hlt).toNat:Nat):Int):=by omega
    have x1: ¬65<=(s[k]'hlt).toNat:=by omega
    have y1: ¬(65:Int)<=(((s[k]'hlt).toNat:Nat):Int):=by omega
    have x2: ¬48<=(s[k]'hlt).toNat:=by omega
    have y2: ¬(48:Int)<=(((s[k]'hlt).toNat:Nat):Int):=by omega
    have e45: ¬(s[k]'hlt).toNat=45:=by omega
    have f45: ¬(((s[k]'hlt).toNat:Nat):Int)=45:=by omega
    have e95: ¬(s[k]'hlt).toNat=95:=by omega
    have f95: ¬(((s[k]'hlt).toNat:Nat):Int)=95:=by omega
    have e46: ¬(s[k]'hlt).toNat=46:=by omega
    have f46: ¬(((s[k]'hlt).toNat:Nat):Int)=46:=by omega
    have OK:=Lib.hid (show lG (s[k]'hlt)=false by rw[c7];omega)
    have HR:=Lib.hid (show bM s=false by unfold bM;rw[←HV.out,HD.out,OK.out];simp)
    go_wp2
    go_ret
    exact⟨by rw[HR.out];rfl,rfl⟩
   ·have x0: ¬97<=(s[k]'hlt).toNat:=by omega
    have y0: ¬(97:Int)<=(((s[k]'hlt).toNat:Nat):Int):=by omega
    have x1: ¬65<=(s[k]'hlt).toNat:=by omega
    have y1: ¬(65:Int)<=(((s[k]'hlt).toNat:Nat):Int):=by omega
    have x2: ¬48<=(s[k]'hlt).toNat:=by omega
    have y2: ¬(48:Int)<=(((s[k]'hlt).toNat:Nat):Int):=by omega
    have e45:(s[k]'hlt).toNat=45:=by omega
    have f45:(((s[k]'hlt).toNat:Nat):Int)=45:=by omega
    have e95: ¬(s[k]'hlt).toNat=95:=by omega
    have f95: ¬(((s[k]'hlt).toNat:Nat):Int)=95:=by omega
    have e46: ¬(s[k]'hlt).toNat=46:=by omega
    have f46: ¬(((s[k]'hlt).toNat:Nat):Int)=46:=by omega
    have OK:=Lib.hid (show lG (s[k]'hlt)=true by rw[fg];omega)
    go_wp2
    exact⟨⟨k+1,by omega,by simp,by rw[←HV.out,HD.out,OK.out,Bool.true_and]⟩,by simp[intOf];omega⟩
   ·have x0: ¬97<=(s[k]'hlt).toNat:=by omega
    have y0: ¬(97:Int)<=(((s[k]'hlt).toNat:Nat):Int):=by omega
    have x1: ¬65<=(s[k]'hlt).toNat:=by omega
    have y1: ¬(65:Int)<=(((s[k]'hlt).toNat:Nat):Int):=by omega
    have x2: ¬48<=(s[k]'hlt).toNat:=by omega
    have y2: ¬(48:Int)<=(((s[k]'hlt).toNat:Nat):Int):=by omega
    have e45: ¬(s[k]'hlt).toNat=45:=by omega
    have f45: ¬(((s[k]'hlt).toNat:Nat):Int)=45:=by omega
    have e95: ¬(s[k]'hlt).toNat=95:=by omega
    have f95: ¬(((s[k]'hlt).toNat:Nat):Int)=95:=by omega
    have e46:(s[k]'hlt).toNat=46:=by omega
    have f46:(((s[k]'hlt).toNat:Nat):Int)=46:=by omega
    have OK:=Lib.hid (show lG (s[k]'hlt)=true by rw[fg];omega)
    go_wp2
    exact⟨⟨k+1,by omega,by simp,by rw[←HV.out,HD.out,OK.out,Bool.true_and]⟩,by simp[intOf];omega⟩
   ·have x0: ¬97<=(s[k]'hlt).toNat:=by omega
    have y0: ¬(97:Int)<=(((s[k]'hlt).toNat:Nat):Int):=by omega
    have x1: ¬65<=(s[k]'hlt).toNat:=by omega
    have y1: ¬(65:Int)<=(((s[k]'hlt).toNat:Nat):Int):=by omega
    have x2: ¬48<=(s[k]'hlt).toNat:=by omega
    have y2: ¬(48:Int)<=(((s[k]'hlt).toNat:Nat):Int):=by omega
    have e45: ¬(s[k]'hlt).toNat=45:=by omega
    have f45: ¬(((s[k]'hlt).toNat:Nat):Int)=45:=by omega
    have e95: ¬(s[k]'hlt).toNat=95:=by omega
    have f95: ¬(((s[k]'hlt).toNat:Nat):Int)=95:=by omega
    have e46: ¬(s[k]'hlt).toNat=46:=by omega
    have f46: ¬(((s[k]'hlt).toNat:Nat):Int)=46:=by omega
    have OK:=Lib.hid (show lG (s[k]'hlt)=false by rw[c7];omega)
    have HR:=Lib.hid (show bM s=false by unfold bM;rw[←HV.out,HD.out,OK.out];simp)
    go_wp2
    go_ret
    exact⟨by rw[HR.out];rfl,rfl⟩
   ·have x0: ¬97<=(s[k]'hlt).toNat:=by omega
    have y0: ¬(97:Int)<=(((s[k]'hlt).toNat:Nat):Int):=by omega
    have x1: ¬65<=(s[k]'hlt).toNat:=by omega
    have y1: ¬(65:Int)<=(((s[k]'hlt).toNat:Nat):Int):=by omega
    have x2:48<=(s[k]'hlt).toNat:=by omega
    have y2:(48:Int)<=(((s[k]'hlt).toNat:Nat):Int):=by omega
    have x3:(s[k]'hlt).toNat<=57:=by omega
    have y3:(((s[k]'hlt).toNat:Nat):Int)<=(57:Int):=by omega
    have OK:=Lib.hid (show lG (s[k]'hlt)=true by rw[fg];omega)
    go_wp2
    exact⟨⟨k+1,by omega,by simp,by rw[←HV.out,HD.out,OK.out,Bool.true_and]⟩,by simp[intOf];omega⟩
   ·have x0: ¬97<=(s[k]'hlt).toNat:=by omega
    have y0: ¬(97:Int)<=(((s[k]'hlt).toNat:Nat):Int):=by omega
    have x1: ¬65<=(s[k]'hlt).toNat:=by omega
    have y1: ¬(65:Int)<=(((s[k]'hlt).toNat:Nat):Int):=by omega
    have x2:48<=(s[k]'hlt).toNat:=by omega
    have y2:(48:Int)<=(((s[k]'hlt).toNat:Nat):Int):=by omega
    have x3: ¬(s[k]'hlt).toNat<=57:=by omega
    have y3: ¬(((s[k]'hlt).toNat:Nat):Int)<=(57:Int):=by omega
    have e45: ¬(s[k]'hlt).toNat=45:=by omega
    have f45: ¬(((s[k]'hlt).toNat:Nat):Int)=45:=by omega
    have e95: ¬(s[k]'hlt).toNat=95:=by omega
    have f95: ¬(((s[k]'hlt).toNat:Nat):Int)=95:=by omega
    have e46: ¬(s[k]'hlt).toNat=46:=by omega
    have f46: ¬(((s[k]'hlt).toNat:Nat):Int)=46:=by omega
    have OK:=Lib.hid (show lG (s[k]'hlt)=false by rw[c7];omega)
    have HR:=Lib.hid (show bM s=false by unfold bM;rw[←HV.out,HD.out,OK.out];simp)
    go_wp2
    go_ret
    exact⟨by rw[HR.out];rfl,rfl⟩
   ·have x0: ¬97<=(s[k]'hlt).toNat:=by omega
    have y0: ¬(97:Int)<=(((s[k]'hlt).toNat:Nat):Int):=by omega
    have x1:65<=(s[k]'hlt).toNat:=by omega
    have y1:(65:Int)<=(((s[k]'hlt).toNat:Nat):Int):=by omega
    have x2:(s[k]'hlt).toNat<=90:=by omega
    have y2:(((s[k]'hlt).toNat:Nat):Int)<=(90:Int):=by omega
    have OK:=Lib.hid (show lG (s[k]'hlt)=true by rw[fg];omega)
    go_wp2
    exact⟨⟨k+1,by omega,by simp,by rw[←HV.out,HD.out,OK.out,Bool.true_and]⟩,by simp[intOf];omega⟩
   ·have x0: ¬97<=(s[k]'hlt).toNat:=by omega
    have y0: ¬(97:Int)<=(((s[k]'hlt).toNat:Nat):Int):=by omega
    have x1:65<=(s[k]'hlt).toNat:=by omega
    have y1:(65:Int)<=(((s[k]'hlt).toNat:Nat):Int):=by omega
    have x2: ¬(s[k]'hlt).toNat<=90:=by omega
    have y2: ¬(((s[k]'hlt).toNat:Nat):Int)<=(90:Int):=by omega
    have x3:48<=(s[k]'hlt).toNat:=by omega
    have y3:(48:Int)<=(((s[k]'hlt).toNat:Nat):Int):=by omega
    have x4: ¬(s[k]'hlt).toNat<=57:=by omega
    have y4: ¬(((s[k]'hlt).toNat:Nat):Int)<=(57:Int):=by omega
    have e45: ¬(s[k]'hlt).toNat=45:=by omega
    have f45: ¬(((s[k]'hlt).toNat:Nat):Int)=45:=by omega
    have e95: ¬(s[k]'hlt).toNat=95:=by omega
    have f95: ¬(((s[k]'hlt).toNat:Nat):Int)=95:=by omega
    have e46: ¬(s[k]'hlt).toNat=46:=by omega
    have f46: ¬(((s[k]'hlt).toNat:Nat):Int)=46:=by omega
    have OK:=Lib.hid (show lG (s[k]'hlt)=false by rw[c7];omega)
    have HR:=Lib.hid (show bM s=false by unfold bM;rw[←HV.out,HD.out,OK.out];simp)
    go_wp2
    go_ret
    exact⟨by rw[HR.out];rfl,rfl⟩
   ·have x0: ¬97<=(s[k]'hlt).toNat:=by omega
    have y0: ¬(97:Int)<=(((s[k]'hlt).toNat:Nat):Int):=by omega
    have x1:65<=(s[k]'hlt).toNat:=by omega
    have y1:(65:Int)<=(((s[k]'hlt).toNat:Nat):Int):=by omega
    have x2: ¬(s[k]'hlt).toNat<=90:=by omega
    have y2: ¬(((s[k]'hlt).toNat:Nat):Int)<=(90:Int):=by omega
    have x3:48<=(s[k]'hlt).toNat:=by omega
    have y3:(48:Int)<=(((s[k]'hlt).toNat:Nat):Int):=by omega
    have x4: ¬(s[k]'hlt).toNat<=57:=by omega
    have y4: ¬(((s[k]'hlt).toNat:Nat):Int)<=(57:Int):=by omega
    have e45: ¬(s[k]'hlt).toNat=45:=by omega
    have f45: ¬(((s[k]'hlt).toNat:Nat):Int)=45:=by omega
    have e95:(s[k]'hlt).toNat=95:=by omega
    have f95:(((s[k]'hlt).toNat:Nat):Int)=95:=by omega
    have e46: ¬(s[k]'hlt).toNat=46:=by omega
    have f46: ¬(((s[k]'hlt).toNat:Nat):Int)=46:=by omega
    have OK:=Lib.hid (show lG (s[k]'hlt)=true by rw[fg];omega)
    go_wp2
    exact⟨⟨k+1,by omega,by simp,by rw[←HV.out,HD.out,OK.out,Bool.true_and]⟩,by simp[intOf];omega⟩
   ·have x0: ¬97<=(s[k]'hlt).toNat:=by omega
    have y0: ¬(97:Int)<=(((s[k]'hlt).toNat:Nat):Int):=by omega
    have x1:65<=(s[k]'hlt).toNat:=by omega
    have y1:(65:Int)<=(((s[k]'hlt).toNat:Nat):Int):=by omega
    have x2: ¬(s[k]'hlt).toNat<=90:=by omega
    have y2: ¬(((s[k]'hlt).toNat:Nat):Int)<=(90:Int):=by omega
    have x3:48<=(s[k]'hlt).toNat:=by omega
    have y3:(48:Int)<=(((s[k]'hlt).toNat:Nat):Int):=by omega
    have x4: ¬(s[k]'hlt).toNat<=57:=by omega
    have y4: ¬(((s[k]'hlt).toNat:Nat):Int)<=(57:Int):=by omega
    have e45: ¬(s[k]'hlt).toNat=45:=by omega
    have f45: ¬(((s[k]'hlt).toNat:Nat):Int)=45:=by omega
    have e95: ¬(s[k]'hlt).toNat=95:=by omega
    have f95: ¬(((s[k]'hlt).toNat:Nat):Int)=95:=by omega
    have e46: ¬(s[k]'hlt).toNat=46:=by omega
    have f46: ¬(((s[k]'hlt).toNat:Nat):Int)=46:=by omega
    have OK:=Lib.hid (show lG (s[k]'hlt)=false by rw[c7];omega)
    have HR:=Lib.hid (show bM s=false by unfold bM;rw[←HV.out,HD.out,OK.out];simp)
    go_wp2
    go_ret
    exact⟨by rw[HR.out];rfl,rfl⟩
   ·have x0:97<=(s[k]'hlt).toNat:=by omega
    have y0:(97:Int)<=(((s[k]'hlt).toNat:Nat):Int):=by omega
    have x1:(s[k]'hlt).toNat<=122:=by omega
    have y1:(((s[k]'hlt).toNat:Nat):Int)<=(122:Int):=by omega
    have OK:=Lib.hid (show lG (s[k]'hlt)=true by rw[fg];omega)
    go_wp2
    exact⟨⟨k+1,by omega,by simp,by rw[←HV.out,HD.out,OK.out,Bool.true_and]⟩,by simp[intOf];omega⟩
   ·have x0:97<=(s[k]'hlt).toNat:=by omega
    have y0:(97:Int)<=(((s[k]'hlt).toNat:Nat):Int):=by omega
    have x1: ¬(s[k]'hlt).toNat<=122:=by omega
    have y1: ¬(((s[k]'hlt).toNat:Nat):Int)<=(122:Int):=by omega
    have x2:65<=(s[k]'hlt).toNat:=by omega
    have y2:(65:Int)<=(((s[k]'hlt).toNat:Nat):Int):=by omega
    have x3: ¬(s[k]'hlt).toNat<=90:=by omega
    have y3: ¬(((s[k]'hlt).toNat:Nat):Int)<=(90:Int):=by omega
    have x4:48<=(s[k]'hlt).toNat:=by omega
    have y4:(48:Int)<=(((s[k]'hlt).toNat:Nat):Int):=by omega
    have x5: ¬(s[k]'hlt).toNat<=57:=by omega
    have y5: ¬(((s[k]'hlt).toNat:Nat):Int)<=(57:Int):=by omega
    have e45: ¬(s[k]'hlt).toNat=45:=by omega
    have f45: ¬(((s[k]'hlt).toNat:Nat):Int)=45:=by omega
    have e95: ¬(s[k]'hlt).toNat=95:=by omega
    have f95: ¬(((s[k]'hlt).toNat:Nat):Int)=95:=by omega
    have e46: ¬(s[k]'hlt).toNat=46:=by omega
    have f46: ¬(((s[k]'hlt).toNat:Nat):Int)=46:=by omega
    have OK:=Lib.hid (show lG (s[k]'hlt)=false by rw[c7];omega)
    have HR:=Lib.hid (show bM s=false by unfold bM;rw[←HV.out,HD.out,OK.out];simp)
    go_wp2
    go_ret
    exact⟨by rw[HR.out];rfl,rfl⟩
  ·have he:s.data.toList.all lG=true:=by rw[←HV.out];exact Ht s k (by omega)
   by_cases h0:0<s.size
   ·by_cases h1:s.size<=32
    ·have HR:=Lib.hid (show bM s=true by unfold bM;rw[he];simp[h0,h1])
     clear he
     have h0':(0:Int)<(s.size:Int):=by omega
     have h1':(s.size:Int)<=32:=by omega
     go_wp2
     go_ret
     exact⟨by rw[HR.out];rfl,rfl⟩
    ·have HR:=Lib.hid (show bM s=false by unfold bM;rw[he];simp[h0,h1])
     clear he
     have h0':(0:Int)<(s.size:Int):=by omega
     have h1': ¬(s.size:Int)<=32:=by omega
     go_wp2
     go_ret
     exact⟨by rw[HR.out];rfl,rfl⟩
   ·have HR:=Lib.hid (show bM s=false by unfold bM;rw[he];simp[h0])
    clear he
    have h0': ¬(0:Int)<(s.size:Int):=by omega
    go_wp2
    go_ret
    exact⟨by rw[HR.out];rfl,rfl⟩
set_option maxHeartbeats 8000000 in
theorem NK(s:ByteArray)(w:World)(hs:s.size<=9223372036854775807):Calls prog 62 #[.string s] w fun e w'=>e= .returned (.bool (bM s))/\w=w':=by
 by_cases h0:0<s.size
 case neg=>
  have HR:=Lib.hid (show bM s=false by unfold bM;simp[h0])
  have h0':(s.size:Int)<1:=by omega
  go_enter func62,ntmps62
  go_wp2
  go_ret
  exact⟨by rw[HR.out];rfl,rfl⟩
 by_cases h1:s.size<=32
 case neg=>
  have HR:=Lib.hid (show bM s=false by unfold bM;simp[h1])
  have h0': ¬(s.size:Int)<1:=by omega
  have h1':(32:Int)<(s.size:Int):=by omega
  go_enter func62,ntmps62
  go_wp2
  go_ret
  exact⟨by rw[HR.out];rfl,rfl⟩
 have h0': ¬(s.size:Int)<1:=by omega
 have h1': ¬(32:Int)<(s.size:Int):=by omega
 go_enter func62,ntmps62
 go_wp2
 go_loop [3] (fun i=> ∃k:Nat,k<=s.size/\i= .int .i64 k/\(s.data.toList.drop k).all lG=s.data.toList.all lG) (fun i=>s.size - (intOf i).toNat)
 case atStart=>exact⟨0,Nat.zero_le _,rfl,rfl⟩
 case round=>
  obtain⟨k,hk,rfl,hv⟩:=hrel
  have HV:=Lib.hid hv
  clear hv
  by_cases hlt:k<s.size
  ·have HD:=Lib.hid (Di s k hlt)
   have hb:(s[k]'hlt).toNat<256:=(s[k]'hlt).toNat_lt
   have hcat:(0<=(s[k]'hlt).toNat/\(s[k]'hlt).toNat<=44)\/(45<=(s[k]'hlt).toNat/\(s[k]'hlt).toNat<=45)\/(46<=(s[k]'hlt).toNat/\(s[k]'hlt).toNat<=46)\/(47<=(s[k]'hlt).toNat/\(s[k]'hlt).toNat<=47)\/(48<=(s[k]'hlt).toNat/\(s[k]'hlt).toNat<=57)\/(58<=(s[k]'hlt).toNat/\(s[k]'hlt).toNat<=64)\/(65<=(s[k]'hlt).toNat/\(s[k]'hlt).toNat<=90)\/(91<=(s[k]'hlt).toNat/\(s[k]'hlt).toNat<=94)\/(95<=(s[k]'hlt).toNat/\(s[k]'hlt).toNat<=95)\/(96<=(s[k]'hlt).toNat/\(s[k]'hlt).toNat<=96)\/(97<=(s[k]'hlt).toNat/\(s[k]'hlt).toNat<=122)\/(123<=(s[k]'hlt).toNat/\(s[k]'hlt).toNat<=255):=by omega
   rcases hcat with hcat|hcat|hcat|hcat|hcat|hcat|hcat|hcat|hcat|hcat|hcat|hcat
   ·have x0: ¬97<=(s[k]'hlt).toNat:=by omega
    have y0: ¬(97:Int)<=(((s[k]'hlt).toNat:Nat):Int):=by omega
    have x1: ¬65<=(s[k]'hlt).toNat:=by omega
    have y1: ¬(65:Int)<=(((s[k]'hlt).toNat:Nat):Int):=by omega
    have x2: ¬48<=(s[k]'hlt).toNat:=by omega
    have y2: ¬(48:Int)<=(((s[k]'hlt).toNat:Nat):Int):=by omega
    have e45: ¬(s[k]'hlt).toNat=45:=by omega
    have f45: ¬(((s[k]'hlt).toNat:Nat):Int)=45:=by omega
    have g45:((((s[k]'hlt).toNat:Nat):Int) !=45)=true:=by rw[bne_iff_ne];exact f45
    have e95: ¬(s[k]'hlt).toNat=95:=by omega
    have f95: ¬(((s[k]'hlt).toNat:Nat):Int)=95:=by omega
    have g95:((((s[k]'hlt).toNat:Nat):Int) !=95)=true:=by rw[bne_iff_ne];exact f95
    have e46: ¬(s[k]'hlt).toNat=46:=by omega
    have f46: ¬(((s[k]'hlt).toNat:Nat):Int)=46:=by omega
    have g46:((((s[k]'hlt).toNat:Nat):Int) !=46)=true:=by rw[bne_iff_ne];exact f46
    have OK:=Lib.hid (show lG (s[k]'hlt)=false by rw[c7];omega)
    have HR:=Lib.hid (show bM s=false by unfold bM;rw[←HV.out,HD.out,OK.out];simp)
    go_wp2
    go_ret
    exact⟨by rw[HR.out];rfl,rfl⟩
   ·have x0: ¬97<=(s[k]'hlt).toNat:=by omega
    have y0: ¬(97:Int)<=(((s[k]'hlt).toNat:Nat):Int):=by omega
    have x1: ¬65<=(s[k]'hlt).toNat:=by omega
    have y1: ¬(65:Int)<=(((s[k]'hlt).toNat:Nat):Int):=by omega
    have x2: ¬48<=(s[k]'hlt).toNat:=by omega
    have y2: ¬(48:Int)<=(((s[k]'hlt).toNat:Nat):Int):=by omega
    have e45:(s[k]'hlt).toNat=45:=by omega
    have f45:(((s[k]'hlt).toNat:Nat):Int)=45:=by omega
    have g45:((((s[k]'hlt).toNat:Nat):Int) !=45)=false:=by rw[f45];rfl
    have e95: ¬(s[k]'hlt).toNat=95:=by omega
    have f95: ¬(((s[k]'hlt).toNat:Nat):Int)=95:=by omega
    have g95:((((s[k]'hlt).toNat:Nat):Int) !=95)=true:=by rw[bne_iff_ne];exact f95
    have e46: ¬(s[k]'hlt).toNat=46:=by omega
    have f46: ¬(((s[k]'hlt).toNat:Nat):Int)=46:=by omega
    have g46:((((s[k]'hlt).toNat:Nat):Int) !=46)=true:=by rw[bne_iff_ne];exact f46
    have OK:=Lib.hid (show lG (s[k]'hlt)=true by rw[fg];omega)
    go_wp2
    exact⟨⟨k+1,by omega,by simp,by rw[←HV.out,HD.out,OK.out,Bool.true_and]⟩,by simp[intOf];omega⟩
   ·have x0: ¬97<=(s[k]'hlt).toNat:=by omega
    have y0: ¬(97:Int)<=(((s[k]'hlt).toNat:Nat):Int):=by omega
    have x1: ¬65<=(s[k]'hlt).toNat:=by omega
    have y1: ¬(65:Int)<=(((s[k]'hlt).toNat:Nat):Int):=by omega
    have x2: ¬48<=(s[k]'hlt).toNat:=by omega
    have y2: ¬(48:Int)<=(((s[k]'hlt).toNat:Nat):Int):=by omega
    have e45: ¬(s[k]'hlt).toNat=45:=by omega
    have f45: ¬(((s[k]'hlt).toNat:Nat):Int)=45:=by omega
    have g45:((((s[k]'hlt).toNat:Nat):Int) !=45)=true:=by rw[bne_iff_ne];exact f45
    have e95: ¬(s[k]'hlt).toNat=95:=by omega
    have f95: ¬(((s[k]'hlt).toNat:Nat):Int)=95:=by omega
    have g95:((((s[k]'hlt).toNat:Nat):Int) !=95)=true:=by rw[bne_iff_ne];exact f95
    have e46:(s[k]'hlt).toNat=46:=by omega
    have f46:(((s[k]'hlt).toNat:Nat):Int)=46:=by omega
    have g46:((((s[k]'hlt).toNat:Nat):Int) !=46)=false:=by rw[f46];rfl
    have OK:=Lib.hid (show lG (s[k]'hlt)=true by rw[fg];omega)
    go_wp2
    exact⟨⟨k+1,by omega,by simp,by rw[←HV.out,HD.out,OK.out,Bool.true_and]⟩,by simp[intOf];omega⟩
   ·have x0: ¬97<=(s[k]'hlt).toNat:=by omega
    have y0: ¬(97:Int)<=(((s[k]'hlt).toNat:Nat):Int):=by omega
    have x1: ¬65<=(s[k]'hlt).toNat:=by omega
    have y1: ¬(65:Int)<=(((s[k]'hlt).toNat:Nat):Int):=by omega
    have x2: ¬48<=(s[k]'hlt).toNat:=by omega
    have y2: ¬(48:Int)<=(((s[k]'hlt).toNat:Nat):Int):=by omega
    have e45: ¬(s[k]'hlt).toNat=45:=by omega
    have f45: ¬(((s[k]'hlt).toNat:Nat):Int)=45:=by omega
    have g45:((((s[k]'hlt).toNat:Nat):Int) !=45)=true:=by rw[bne_iff_ne];exact f45
    have e95: ¬(s[k]'hlt).toNat=95:=by omega
    have f95: ¬(((s[k]'hlt).toNat:Nat):Int)=95:=by omega
    have g95:((((s[k]'hlt).toNat:Nat):Int) !=95)=true:=by rw[bne_iff_ne];exact f95
    have e46: ¬(s[k]'hlt).toNat=46:=by omega
    have f46: ¬(((s[k]'hlt).toNat:Nat):Int)=46:=by omega
    have g46:((((s[k]'hlt).toNat:Nat):Int) !=46)=true:=by rw[bne_iff_ne];exact f46
    have OK:=Lib.hid (show lG (s[k]'hlt)=false by rw[c7];omega)
    have HR:=Lib.hid (show bM s=false by unfold bM;rw[←HV.out,HD.out,OK.out];simp)
    go_wp2
    go_ret
    exact⟨by rw[HR.out];rfl,rfl⟩
   ·have x0: ¬97<=(s[k]'hlt).toNat:=by omega
    have y0: ¬(97:Int)<=(((s[k]'hlt).toNat:Nat):Int):=by omega
    have x1: ¬65<=(s[k]'hlt).toNat:=by omega
    have y1: ¬(65:Int)<=(((s[k]'hlt).toNat:Nat):Int):=by omega
    have x2:48<=(s[k]'hlt).toNat:=by omega
    have y2:(48:Int)<=(((s[k]'hlt).toNat:Nat):Int):=by omega
    have x3:(s[k]'hlt).toNat<=57:=by omega
    have y3:(((s[k]'hlt).toNat:Nat):Int)<=(57:Int):=by omega
    have OK:=Lib.hid (show lG (s[k]'hlt)=true by rw[fg];omega)
    go_wp2
    exact⟨⟨k+1,by omega,by simp,by rw[←HV.out,HD.out,OK.out,Bool.true_and]⟩,by simp[intOf];omega⟩
   ·have x0: ¬97<=(s[k]'hlt).toNat:=by omega
    have y0: ¬(97:Int)<=(((s[k]'hlt).toNat:Nat):Int):=by omega
    have x1: ¬65<=(s[k]'hlt).toNat:=by omega
    have y1: ¬(65:Int)<=(((s[k]'hlt).toNat:Nat):Int):=by omega
    have x2:48<=(s[k]'hlt).toNat:=by omega
    have y2:(48:Int)<=(((s[k]'hlt).toNat:Nat):Int):=by omega
    have x3: ¬(s[k]'hlt).toNat<=57:=by omega
    have y3: ¬(((s[k]'hlt).toNat:Nat):Int)<=(57:Int):=by omega
    have e45: ¬(s[k]'hlt).toNat=45:=by omega
    have f45: ¬(((s[k]'hlt).toNat:Nat):Int)=45:=by omega
    have g45:((((s[k]'hlt).toNat:Nat):Int) !=45)=true:=by rw[bne_iff_ne];exact f45
    have e95: ¬(s[k]'hlt).toNat=95:=by omega
    have f95: ¬(((s[k]'hlt).toNat:Nat):Int)=95:=by omega
    have g95:((((s[k]'hlt).toNat:Nat):Int) !=95)=true:=by rw[bne_iff_ne];exact f95
    have e46: ¬(s[k]'hlt).toNat=46:=by omega
    have f46: ¬(((s[k]'hlt).toNat:Nat):Int)=46:=by omega
    have g46:((((s[k]'hlt).toNat:Nat):Int) !=46)=true:=by rw[bne_iff_ne];exact f46
    have OK:=Lib.hid (show lG (s[k]'hlt)=false by rw[c7];omega)
    have HR:=Lib.hid (show bM s=false by unfold bM;rw[←HV.out,HD.out,OK.out];simp)
    go_wp2
    go_ret
    exact⟨by rw[HR.out];rfl,rfl⟩
   ·have x0: ¬97<=(s[k]'hlt).toNat:=by omega
    have y0: ¬(97:Int)<=(((s[k]'hlt).toNat:Nat):Int):=by omega
    have x1:65<=(s[k]'hlt).toNat:=by omega
    have y1:(65:Int)<=(((s[k]'hlt).toNat:Nat):Int):=by omega
    have x2:(s[k]'hlt).toNat<=90:=by omega
    have y2:(((s[k]'hlt).toNat:Nat):Int)<=(90:Int):=by omega
    have OK:=Lib.hid (show lG (s[k]'hlt)=true by rw[fg];omega)
    go_wp2
    exact⟨⟨k+1,by omega,by simp,by rw[←HV.out,HD.out,OK.out,Bool.true_and]⟩,by simp[intOf];omega⟩
   ·have x0: ¬97<=(s[k]'hlt).toNat:=by omega
    have y0: ¬(97:Int)<=(((s[k]'hlt).toNat:Nat):Int):=by omega
    have x1:65<=(s[k]'hlt).toNat:=by omega
    have y1:(65:Int)<=(((s[k]'hlt).toNat:Nat):Int):=by omega
    have x2: ¬(s[k]'hlt).toNat<=90:=by omega
    have y2: ¬(((s[k]'hlt).toNat:Nat):Int)<=(90:Int):=by omega
    have x3:48<=(s[k]'hlt).toNat:=by omega
    have y3:(48:Int)<=(((s[k]'hlt).toNat:Nat):Int):=by omega
    have x4: ¬(s[k]'hlt).toNat<=57:=by omega
    have y4: ¬(((s[k]'hlt).toNat:Nat):Int)<=(57:Int):=by omega
    have e45: ¬(s[k]'hlt).toNat=45:=by omega
    have f45: ¬(((s[k]'hlt).toNat:Nat):Int)=45:=by omega
    have g45:((((s[k]'hlt).toNat:Nat):Int) !=45)=true:=by rw[bne_iff_ne];exact f45
    have e95: ¬(s[k]'hlt).toNat=95:=by omega
    have f95: ¬(((s[k]'hlt).toNat:Nat):Int)=95:=by omega
    have g95:((((s[k]'hlt).toNat:Nat):Int) !=95)=true:=by rw[bne_iff_ne];exact f95
    have e46: ¬(s[k]'hlt).toNat=46:=by omega
    have f46: ¬(((s[k]'hlt).toNat:Nat):Int)=46:=by omega
    have g46:((((s[k]'hlt).toNat:Nat):Int) !=46)=true:=by rw[bne_iff_ne];exact f46
    have OK:=Lib.hid (show lG (s[k]'hlt)=false by rw[c7];omega)
    have HR:=Lib.hid (show bM s=false by unfold bM;rw[←HV.out,HD.out,OK.out];simp)
    go_wp2
    go_ret
    exact⟨by rw[HR.out];rfl,rfl⟩
   ·have x0: ¬97<=(s[k]'hlt).toNat:=by omega
    have y0: ¬(97:Int)<=(((s[k]'hlt).toNat:Nat):Int):=by omega
    have x1:65<=(s[k]'hlt).toNat:=by omega
    have y1:(65:Int)<=(((s[k]'hlt).toNat:Nat):Int):=by omega
    have x2: ¬(s[k]'hlt).toNat<=90:=by omega
    have y2: ¬(((s[k]'hlt).toNat:Nat):Int)<=(90:Int):=by omega
    have x3:48<=(s[k]'hlt).toNat:=by omega
    have y3:(48:Int)<=(((s[k]'hlt).toNat:Nat):Int):=by omega
    have x4: ¬(s[k]'hlt).toNat<=57:=by omega
    have y4: ¬(((s[k]'hlt).toNat:Nat):Int)<=(57:Int):=by omega
    have e45: ¬(s[k]'hlt).toNat=45:=by omega
    have f45: ¬(((s[k]'hlt).toNat:Nat):Int)=45:=by omega
    have g45:((((s[k]'hlt).toNat:Nat):Int) !=45)=true:=by rw[bne_iff_ne];exact f45
    have e95:(s[k]'hlt).toNat=95:=by omega
    have f95:(((s[k]'hlt).toNat:Nat):Int)=95:=by omega
    have g95:((((s[k]'hlt).toNat:Nat):Int) !=95)=false:=by rw[f95];rfl
    have e46: ¬(s[k]'hlt).toNat=46:=by omega
    have f46: ¬(((s[k]'hlt).toNat:Nat):Int)=46:=by omega
    have g46:((((s[k]'hlt).toNat:Nat):Int) !=46)=true:=by rw[bne_iff_ne];exact f46
    have OK:=Lib.hid (show lG (s[k]'hlt)=true by rw[fg];omega)
    go_wp2
    exact⟨⟨k+1,by omega,by simp,by rw[←HV.out,HD.out,OK.out,Bool.true_and]⟩,by simp[intOf];omega⟩
   ·have x0: ¬97<=(s[k]'hlt).toNat:=by omega
    have y0: ¬(97:Int)<=(((s[k]'hlt).toNat:Nat):Int):=by omega
    have x1:65<=(s[k]'hlt).toNat:=by omega
    have y1:(65:Int)<=(((s[k]'hlt).toNat:Nat):Int):=by omega
    have x2: ¬(s[k]'hlt).toNat<=90:=by omega
    have y2: ¬(((s[k]'hlt).toNat:Nat):Int)<=(90:Int):=by omega
    have x3:48<=(s[k]'hlt).toNat:=by omega
    have y3:(48:Int)<=(((s[k]'hlt).toNat:Nat):Int):=by omega
    have x4: ¬(s[k]'hlt).toNat<=57:=by omega
    have y4: ¬(((s[k]'hlt).toNat:Nat):Int)<=(57:Int):=by omega
    have e45: ¬(s[k]'hlt).toNat=45:=by omega
    have f45: ¬(((s[k]'hlt).toNat:Nat):Int)=45:=by omega
    have g45:((((s[k]'hlt).toNat:Nat):Int) !=45)=true:=by rw[bne_iff_ne];exact f45
    have e95: ¬(s[k]'hlt).toNat=95:=by omega
    have f95: ¬(((s[k]'hlt).toNat:Nat):Int)=95:=by omega
    have g95:((((s[k]'hlt).toNat:Nat):Int) !=95)=true:=by rw[bne_iff_ne];exact f95
    have e46: ¬(s[k]'hlt).toNat=46:=by omega
    have f46: ¬(((s[k]'hlt).toNat:Nat):Int)=46:=by omega
    have g46:((((s[k]'hlt).toNat:Nat):Int) !=46)=true:=by rw[bne_iff_ne];exact f46
    have OK:=Lib.hid (show lG (s[k]'hlt)=false by rw[c7];omega)
    have HR:=Lib.hid (show bM s=false by unfold bM;rw[←HV.out,HD.out,OK.out];simp)
    go_wp2
    go_ret
    exact⟨by rw[HR.out];rfl,rfl⟩
   ·have x0:97<=(s[k]'hlt).toNat:=by omega
    have y0:(97:Int)<=(((s[k]'hlt).toNat:Nat):Int):=by omega
    have x1:(s[k]'hlt).toNat<=122:=by omega
    have y1:(((s[k]'hlt).toNat:Nat):Int)<=(122:Int):=by omega
    have OK:=Lib.hid (show lG (s[k]'hlt)=true by rw[fg];omega)
    go_wp2
    exact⟨⟨k+1,by omega,by simp,by rw[←HV.out,HD.out,OK.out,Bool.true_and]⟩,by simp[intOf];omega⟩
   ·have x0:97<=(s[k]'hlt).toNat:=by omega
    have y0:(97:Int)<=(((s[k]'hlt).toNat:Nat):Int):=by omega
    have x1: ¬(s[k]'hlt).toNat<=122:=by omega
    have y1: ¬(((s[k]'hlt).toNat:Nat):Int)<=(122:Int):=by omega
    have x2:65<=(s[k]'hlt).toNat:=by omega
    have y2:(65:Int)<=(((s[k]'hlt).toNat:Nat):Int):=by omega
    have x3: ¬(s[k]'hlt).toNat<=90:=by omega
    have y3: ¬(((s[k]'hlt).toNat:Nat):Int)<=(90:Int):=by omega
    have x4:48<=(s[k]'hlt).toNat:=by omega
    have y4:(48:Int)<=(((s[k]'hlt).toNat:Nat):Int):=by omega
    have x5: ¬(s[k]'hlt).toNat<=57:=by omega
    have y5: ¬(((s[k]'hlt).toNat:Nat):Int)<=(57:Int):=by omega
    have e45: ¬(s[k]'hlt).toNat=45:=by omega
    have f45: ¬(((s[k]'hlt).toNat:Nat):Int)=45:=by omega
    have g45:((((s[k]'hlt).toNat:Nat):Int) !=45)=true:=by rw[bne_iff_ne];exact f45
    have e95: ¬(s[k]'hlt).toNat=95:=by omega
    have f95: ¬(((s[k]'hlt).toNat:Nat):Int)=95:=by omega
    have g95:((((s[k]'hlt).toNat:Nat):Int) !=95)=true:=by rw[bne_iff_ne];exact f95
    have e46: ¬(s[k]'hlt).toNat=46:=by omega
    have f46: ¬(((s[k]'hlt).toNat:Nat):Int)=46:=by omega
    have g46:((((s[k]'hlt).toNat:Nat):Int) !=46)=true:=by rw[bne_iff_ne];exact f46
    have OK:=Lib.hid (show lG (s[k]'hlt)=false by rw[c7];omega)
    have HR:=Lib.hid (show bM s=false by unfold bM;rw[←HV.out,HD.out,OK.out];simp)
    go_wp2
    go_ret
    exact⟨by rw[HR.out];rfl,rfl⟩
  ·have he:s.data.toList.all lG=true:=by rw[←HV.out];exact Ht s k (by omega)
   have HR:=Lib.hid (show bM s=true by unfold bM;rw[he];simp[h0,h1])
   clear he
   go_wp2
   go_ret
   exact⟨by rw[HR.out];rfl,rfl⟩
end Go.Proofs.Nw
namespace Go.Proofs.Nw
open Go Go.AV Tryz
set_option maxRecDepth 100000
def dS(l:List bH)(i:Nat):Option Int:=match l[i]? with
 |some x=>if bM x.id=false then some 12 else if (l.take i).any (fun y=>y.id.data==x.id.data) then some 6 else if x.aO<0\/16<=x.aO\/x.change<0\/3600<x.change then some 2 else none
 |none=>none
def cF(l:List bH):Int × Int:=if 64<l.length then (0,5) else scan (dS l) l.length 0
structure bW(z:T aa)(k:Nat)(rows:List (List Value)):Prop where
 here:rows≠[]-> ∃e,z.get k=some (.ak (bc e rows.flatten))
 size: ∀r∈rows,∀s:ByteArray,Value.string s∈r->s.size<=9223372036854775807
theorem bW.sz{z:T aa}{k:Nat}{rows:List (List Value)}(h:bW z k rows){i:Nat}{r:List Value}{s:ByteArray}(hr:rows[i]? =some r)(hs:Value.string s∈r):s.size<=9223372036854775807:=h.size r (List.mem_of_getElem? hr) s hs
theorem bW.ak{z:T aa}{k i:Nat}{rows:List (List Value)}(h:bW z k rows)(hi:i<rows.length): ∃e,z.get k=some (.ak (bc e rows.flatten)):=
 h.here (fun e=>by rw[e] at hi;simp at hi)
theorem aM{α:Type}{row:α->List Value}{sz:Nat}(l:List α)(h: ∀x,(row x).length=sz): ∀r∈l.map row,r.length=sz:=by
 intro r hr
 obtain⟨y,_,rfl⟩:=List.mem_map.1 hr
 exact h y
theorem bK{n:Nat}(h:n<1000000000):Value.int .i64 (IntKind.i64.wrap ((n:Int)+1))=Value.int .i64 ((n+1:Nat):Int):=by
 have:IntKind.i64.wrap ((n:Int)+1)=(n:Int)+1:=by
  simp only[IntKind.wrap,IntKind.signed,IntKind.bits]
  simp
  omega
 rw[this];rfl
theorem tK{s:ByteArray}{l:List ByteArray}:Value.string s∈l.map Value.string↔s∈l:=by
 rw[List.mem_map]
 exact⟨fun⟨x,h1,h2⟩=>by cases h2;exact h1,fun h=>⟨s,h,rfl⟩⟩
section
variable{z:T aa}{zn:Nat}
theorem Ks(hz:ax z zn)(hg:eO prog z gP)(l:List bH)(cp:Nat)(ht:bW z 2 (l.map bH.row))(hl:l.length<100000)(r:Int × Int)(hr:scan (dS l) l.length 0=r):
 ai prog (ah (ag f22) 0) 1 54 (GP l.length cp 0) [(0,bd [])] 1 z zn (Al.R (RU z zn l.length cp r.1 r.2).l):=by
 refine an hD hg (α:=Nat) 1 54 1 (fun i=>i<=l.length/\scan (dS l) (l.length - i) i=r) (fun i=>GP l.length cp i) (fun i=>[(0,bd (((l.take i).map bH.id).map .string))]) (fun _=>z) (fun _=>zn) (fun i=>l.length - i) _ (fun i hI=>?_) 0 ⟨Nat.zero_le _,hr⟩
 obtain⟨h1,h2⟩:=hI
 by_cases hi:i<l.length
 ·obtain⟨e,he⟩:=ht.ak (i:=i) (by simpa using hi)
  obtain⟨x,hx⟩: ∃x,l[i]? =some x:=⟨l[i],List.getElem?_eq_getElem hi⟩
  have hid:=TQ (ht.sz (i:=i) (r:=x.row) (s:=x.id) (by rw[List.getElem?_map,hx];rfl) (by simp))
  have hrow:aC prog (bc e (l.map bH.row).flatten) 78 (0+i*4)=some (.agg ⟨x.row⟩):=bC (P:=prog) (e:=e) (t:=78) (k:=i) (r:=x.row) (sz:=4) underlying78 rfl rfl (aM (row:=bH.row) l fun _=>rfl) (by rw[List.getElem?_map,hx];rfl)
  have hk:=BZ x.id ((l.take i).map bH.id)
  have hps:=nY ((l.take i).map bH.id)
  have hany:Value.string x.id∈((l.take i).map bH.id).map Value.string↔(l.take i).any (fun y=>y.id.data==x.id.data)=true:=by
   rw[tK,List.any_eq_true,List.mem_map]
   exact⟨fun⟨y,q1,q2⟩=>⟨y,q1,by rw[q2];exact(jt _ _).2 rfl⟩,fun⟨y,q1,q2⟩=>⟨y,q1,(jt _ _).1 q2⟩⟩
  have hc:decide ((i:Int)<(l.length:Int))=true:=by simp;omega
  have ret: ∀e:Int,dS l i=some e->Al.R (RU z zn l.length cp r.1 r.2).l ⟨.ret,[(2,iv i),(3,zv e)],[],1,z,zn⟩:=fun e h=>by
   have:r=((i:Int),e):=by rw[←h2,c9 hi h]
   rw[this];exact bw trivial
  refine t100 (XV z zn i l.length cp (bc e (l.map bH.row).flatten) x (((l.take i).map bH.id).map .string) (aj _ _ _ _ _ _ _ _ _) ⟨fun _=>?_,fun h=>by rw[hc] at h;cases h⟩)
  (repeat' first|(with_reducible first|exact rfl|assumption|apply And.intro|exact hk.no|exact hk.ex|exact gZ _ hps rfl|exact bK (by omega))|intro hq)
  all_goals try (have hm:=hk.Dk (by with_reducible assumption);rw[hany] at hm)
  all_goals try (have hm:=hk.Jk (by with_reducible assumption);rw[hany] at hm)
  all_goals clear hk hps hrow hany he ht hz hr
  all_goals first
   |(refine ret _ ?_;clear ret h2;simp only[dS,hx];simp_all;done)
   |(refine ret _ ?_;clear ret h2;simp only[dS,hx];simp_all;omega)
   |with_reducible assumption
   |skip
  have hb:dS l i=none:=by
   clear ret h2
   simp only[dS,hx]
   rw[if_neg (by simp_all),if_neg hm,if_neg (by simp only[decide_eq_false_iff_not] at*;omega)]
  refine⟨i+1,rfl,?_,rfl,rfl,rfl,⟨hi,by rw[←cI hi hb];exact h2⟩,by show l.length - (i+1)<l.length - i;omega⟩
  rw[ff]
  show _=[(0,bd (((l.take (i+1)).map bH.id).map .string))]
  rw[List.take_add_one,hx]
  simp
 ·have hc:decide ((i:Int)<(l.length:Int))=false:=by simp;omega
  refine t100 (XV z zn i l.length cp ⟨[],0,0,0,true,true,0,true⟩ ⟨⟨#[]⟩,0,true,0⟩ (((l.take i).map bH.id).map .string) (aj _ _ _ _ _ _ _ _ _) ⟨nC1 hc,fun _=>?_⟩)
  (repeat' first|(with_reducible first|exact rfl|assumption|apply And.intro))
  refine du (bw ?_)
  rw[dy (by omega)] at h2
  rw[←h2]
  exact⟨rfl,rfl⟩
theorem PC(hz:ax z zn)(hg:eO prog z gP)(l:List bH)(cp:Nat)(ht:bW z 2 (l.map bH.row)):
 A1 z zn 22 [tb 2 l.length cp] [] 0 0 (.tuple ⟨[zv (cF l).1,zv (cF l).2]⟩) []:=by
 refine cS hg (fn:=f22) (by kernel_rfl) (by kernel_rfl) hz ⟨by decide,by decide⟩ rfl (WW z zn l.length cp (cF l).1 (cF l).2 _ ?_)
 by_cases h:64<l.length
 ·have hr:cF l=(0,5):=if_pos h
  have hc:decide ((l.length:Int)>64)=true:=by simp;omega
  rw[hr]
  refine⟨fun _=>?_,nC1 hc⟩
  (repeat' first|(with_reducible first|exact rfl|assumption|apply And.intro))
  exact q1
 ·have hr:cF l=scan (dS l) l.length 0:=if_neg h
  have hc:decide ((l.length:Int)>64)=false:=by simp;omega
  have hL:=Ks hz hg l cp ht (by omega) (cF l) hr.symm
  refine⟨nC1 hc,fun _=>?_⟩
  (repeat' first|(with_reducible first|exact rfl|assumption|apply And.intro)|exact hL|intro hq)
  ·exact q1
  ·rw[hq.1,hq.2];exact q1
theorem LB(hz:ax z zn)(hg:eO prog z gP):A1 z zn 22 [az] [] 0 0 (.tuple ⟨[I 0,I 0]⟩) []:=by
 have hL:ai prog (ah (ag f22) 0) 1 54 vR [(0,bd [])] 1 z zn (Al.R (RT z zn).l):=by
  refine an hD hg (α:=Unit) 1 54 1 (fun _=>True) (fun _=>vR) (fun _=>[(0,bd [])]) (fun _=>z) (fun _=>zn) (fun _=>0) _ (fun i hI=>?_) () trivial
  refine t100 (Vr z zn (aj _ _ _ _ _ _ _ _ _) ?_)
  (repeat' first|(with_reducible first|exact rfl|assumption|apply And.intro))
  exact bw trivial
 refine cS hg (fn:=f22) (by kernel_rfl) (by kernel_rfl) hz ⟨by decide,by decide⟩ rfl (WV z zn _ ?_)
 (repeat' first|(with_reducible first|exact rfl|assumption|apply And.intro|exact q1)|exact hL|intro hq)
end
theorem ju{α:Type}{p:α->Bool}{l:List α}{k:Nat}{y:α}(h:l[k]? =some y):(l.take (k+1)).any p=((l.take k).any p||p y):=by
 rw[List.take_add_one,h,List.any_append];simp
theorem any_true{α:Type}{p:α->Bool}{l:List α}{i k:Nat}{y:α}(h:l[k]? =some y)(hk:k<i)(hp:p y=true):(l.take i).any p=true:=by
 rw[List.any_eq_true]
 exact⟨y,List.mem_of_getElem? (by rw[List.getElem?_take,if_pos hk,h]),hp⟩
theorem ez{α:Type}{l:List α}{i:Nat}(h:i<l.length): ∃x,l[i]? =some x:=⟨l[i],List.getElem?_eq_getElem h⟩
theorem oC(a b:ByteArray):(a.toList==b.toList)=(a.data==b.data):=by
 rw[ByteArray.toList_eq,ByteArray.toList_eq]
 cases h:(a.data==b.data) with
 |true=>have:=(jt a b).1 h;subst this;simp
 |false=>
  cases h2:(a.data.toList==b.data.toList) with
  |false=>rfl
  |true=>
   have h3:a.data.toList=b.data.toList:=by simpa using h2
   have:a.data=b.data:=by cases ha:a.data;cases hb:b.data;rw[ha,hb] at h3;simp at h3;rw[h3]
   rw[this] at h;simp at h
section
variable{z:T aa}{zn:Nat}
theorem GX(hz:ax z zn)(hg:eO prog z gP)(l:List bH)(cp:Nat)(e:TypeId)(he:z.get 2=some (.ak (bc e (l.map bH.row).flatten)))(hl:l.length<100000)(i:Nat)(x:bH)(hx:l[i]? =some x)(b:Bool)(hb:b=(l.take i).any fun y=>y.id.data==x.id.data):
 ai prog (ah (ah (ag f32) 0) 0) 0 57 (vV l.length cp i 0) [] 0 z zn (Al.R (R9 z zn l.length cp i b).l):=by
 have hil:i<l.length:=(List.getElem?_eq_some_iff.1 hx).1
 refine an hD hg (α:=Nat) 0 57 0 (fun k=>k<=i/\((l.take k).any fun y=>y.id.data==x.id.data)=false) (fun k=>vV l.length cp i k) (fun _=>[]) (fun _=>z) (fun _=>zn) (fun k=>i - k) _ (fun k hI=>?_) 0 ⟨Nat.zero_le _,rfl⟩
 obtain⟨h1,h2⟩:=hI
 have hlen:=aM (row:=bH.row) (sz:=4) l fun _=>rfl
 have rx:aC prog (bc e (l.map bH.row).flatten) 9 (0+i*4+0)=some (.string x.id):=aX (r:=x.row) (j:=0) underlying9 rfl hlen (by rw[List.getElem?_map,hx];rfl) rfl
 by_cases hk:k<i
 ·obtain⟨y,hy⟩:=ez (l:=l) (i:=k) (by omega)
  have ry:aC prog (bc e (l.map bH.row).flatten) 9 (0+k*4+0)=some (.string y.id):=aX (r:=y.row) (j:=0) underlying9 rfl hlen (by rw[List.getElem?_map,hy];rfl) rfl
  have hc:decide ((k:Int)<(i:Int))=true:=by simp;omega
  refine t100 (RA z zn i k l.length cp (bc e (l.map bH.row).flatten) x y (aj _ _ _ _ _ _ _ _ _) ⟨fun _=>?_,nC1 hc⟩)
  (repeat' first|(with_reducible first|exact rfl|assumption|apply And.intro|exact(by omega:k<l.length)|exact bK (by omega))|intro hq)
  ·rw[oC] at hq
   exact bw (by rw[hb];exact any_true hy hk hq)
  ·rw[oC] at hq
   exact⟨k+1,rfl,rfl,rfl,rfl,rfl,⟨hk,by rw[ju hy,h2,hq];rfl⟩,by show i - (k+1)<i - k;omega⟩
 ·have hc:decide ((k:Int)<(i:Int))=false:=by simp;omega
  refine t100 (RA z zn i k l.length cp (bc e (l.map bH.row).flatten) x x (aj _ _ _ _ _ _ _ _ _) ⟨nC1 hc,fun _=>?_⟩)
  (repeat' first|(with_reducible first|exact rfl|assumption|apply And.intro))
  refine du (bw ?_)
  rw[hb,←h2,show k=i by omega]
theorem Kw(hz:ax z zn)(hg:eO prog z gP)(l:List bH)(cp:Nat)(ht:bW z 2 (l.map bH.row))(hl:l.length<100000)(r:Int × Int)(hr:scan (dS l) l.length 0=r):
 ai prog (ah (ag f32) 0) 0 57 (xC l.length cp 0) [] 0 z zn (Al.R (Sa z zn l.length cp r.1 r.2).l):=by
 refine an hD hg (α:=Nat) 0 57 0 (fun i=>i<=l.length/\scan (dS l) (l.length - i) i=r) (fun i=>xC l.length cp i) (fun i=>[]) (fun _=>z) (fun _=>zn) (fun i=>l.length - i) _ (fun i hI=>?_) 0 ⟨Nat.zero_le _,hr⟩
 obtain⟨h1,h2⟩:=hI
 by_cases hi:i<l.length
 ·obtain⟨e,he⟩:=ht.ak (i:=i) (by simpa using hi)
  obtain⟨x,hx⟩:=ez hi
  have hid:=TO (ht.sz (i:=i) (r:=x.row) (s:=x.id) (by rw[List.getElem?_map,hx];rfl) (by simp))
  have hlen:=aM (row:=bH.row) (sz:=4) l fun _=>rfl
  have hr:(l.map bH.row)[i]? =some x.row:=by rw[List.getElem?_map,hx];rfl
  have r0:aC prog (bc e (l.map bH.row).flatten) 9 (0+i*4+0)=some (.string x.id):=aX (j:=0) underlying9 rfl hlen hr rfl
  have r1:aC prog (bc e (l.map bH.row).flatten) 3 (0+i*4+1)=some (zv x.aO):=aX (j:=1) underlying3 rfl hlen hr rfl
  have r3:aC prog (bc e (l.map bH.row).flatten) 3 (0+i*4+3)=some (zv x.change):=aX (j:=3) underlying3 rfl hlen hr rfl
  have hL:=GX hz hg l cp e he hl i x hx _ rfl
  generalize hb:((l.take i).any fun y=>y.id.data==x.id.data)=b at hL
  have hc:decide ((i:Int)<(l.length:Int))=true:=by simp;omega
  have ret: ∀e:Int,dS l i=some e->Al.R (Sa z zn l.length cp r.1 r.2).l ⟨.ret,[(2,iv i),(3,zv e)],[],0,z,zn⟩:=fun e h=>by
   have:r=((i:Int),e):=by rw[←h2,c9 hi h]
   rw[this];exact bw trivial
  have hbad:dS l i=if bM x.id=false then some 12 else if b=true then some 6 else if x.aO<0\/16<=x.aO\/x.change<0\/3600<x.change then some 2 else none:=by
   simp only[dS,hx,hb]
  refine t100 (X4 z zn i l.length cp (bc e (l.map bH.row).flatten) x b (aj _ _ _ _ _ _ _ _ _) ⟨fun _=>?_,nC1 hc⟩)
  (repeat' first|(with_reducible first|exact rfl|assumption|apply And.intro|exact bK (by omega))|exact(rfl:gP _ _=_)|exact hL|intro hq)
  all_goals clear hL r0 r1 r3 hr hlen he ht hz
  all_goals first
   |with_reducible assumption
   |rfl
   |(refine ret _ ?_;clear ret h2;rw[hbad];simp_all;done)
   |(refine ret _ ?_;clear ret h2;rw[hbad];simp_all;omega)
   |(have hb0:dS l i=none:=by
      clear ret h2
      rw[hbad,if_neg (by simp_all),if_neg (by simp_all),if_neg (by simp only[bS1] at*;omega)]
     exact⟨i+1,rfl,rfl,rfl,rfl,rfl,⟨hi,by rw[←cI hi hb0];exact h2⟩,by show l.length - (i+1)<l.length - i;omega⟩)
 ·have hc:decide ((i:Int)<(l.length:Int))=false:=by simp;omega
  refine t100 (X4 z zn i l.length cp ⟨[],0,0,0,true,true,0,true⟩ ⟨⟨#[]⟩,0,true,0⟩ true (aj _ _ _ _ _ _ _ _ _) ⟨nC1 hc,fun _=>?_⟩)
  (repeat' first|(with_reducible first|exact rfl|assumption|apply And.intro))
  refine du (bw ?_)
  rw[dy (by omega)] at h2
  rw[←h2]
  exact⟨rfl,rfl⟩
theorem Is(hz:ax z zn)(hg:eO prog z gP)(l:List bH)(cp:Nat)(ht:bW z 2 (l.map bH.row)):
 A1 z zn 32 [tb 2 l.length cp] [] 0 0 (.tuple ⟨[zv (cF l).1,zv (cF l).2]⟩) []:=by
 refine cS hg (fn:=f32) (by kernel_rfl) (by kernel_rfl) hz ⟨by decide,by decide⟩ rfl (Qs z zn l.length cp (cF l).1 (cF l).2 _ ?_)
 by_cases h:64<l.length
 ·have hr:cF l=(0,5):=if_pos h
  have hc:decide ((l.length:Int)>64)=true:=by simp;omega
  rw[hr]
  refine⟨fun _=>?_,nC1 hc⟩
  (repeat' first|(with_reducible first|exact rfl|assumption|apply And.intro))
  exact q1
 ·have hr:cF l=scan (dS l) l.length 0:=if_neg h
  have hc:decide ((l.length:Int)>64)=false:=by simp;omega
  have hL:=Kw hz hg l cp ht (by omega) (cF l) hr.symm
  refine⟨nC1 hc,fun _=>?_⟩
  (repeat' first|(with_reducible first|exact rfl|assumption|apply And.intro)|exact hL|intro hq)
  ·exact q1
  ·rw[hq.1,hq.2];exact q1
end
def db(l:List aV)(i:Nat):Option Int:=match l[i]? with
 |some x=>if bM x.id=false then some 12 else if (l.take i).any (fun y=>y.id.data==x.id.data) then some 6 else if x.mode<0\/8<=x.mode then some 2 else none
 |none=>none
def cu(l:List aV):Int × Int:=if 64<l.length then (0,5) else scan (db l) l.length 0
section
variable{z:T aa}{zn:Nat}
theorem Kv(hz:ax z zn)(hg:eO prog z gP)(l:List aV)(cp:Nat)(ht:bW z 3 (l.map aV.row))(hl:l.length<100000)(r:Int × Int)(hr:scan (db l) l.length 0=r):
 ai prog (ah (ag f23) 0) 1 37 (GQ l.length cp 0) [(0,bd [])] 1 z zn (Al.R (RZ z zn l.length cp r.1 r.2).l):=by
 refine an hD hg (α:=Nat) 1 37 1 (fun i=>i<=l.length/\scan (db l) (l.length - i) i=r) (fun i=>GQ l.length cp i) (fun i=>[(0,bd (((l.take i).map aV.id).map .string))]) (fun _=>z) (fun _=>zn) (fun i=>l.length - i) _ (fun i hI=>?_) 0 ⟨Nat.zero_le _,hr⟩
 obtain⟨h1,h2⟩:=hI
 by_cases hi:i<l.length
 ·obtain⟨e,he⟩:=ht.ak (i:=i) (by simpa using hi)
  obtain⟨x,hx⟩: ∃x,l[i]? =some x:=⟨l[i],List.getElem?_eq_getElem hi⟩
  have hid:=TQ (ht.sz (i:=i) (r:=x.row) (s:=x.id) (by rw[List.getElem?_map,hx];rfl) (by simp))
  have hrow:aC prog (bc e (l.map aV.row).flatten) 80 (0+i*3)=some (.agg ⟨x.row⟩):=bC (P:=prog) (e:=e) (t:=80) (k:=i) (r:=x.row) (sz:=3) underlying80 rfl rfl (aM (row:=aV.row) l fun _=>rfl) (by rw[List.getElem?_map,hx];rfl)
  have hk:=BZ x.id ((l.take i).map aV.id)
  have hps:=nY ((l.take i).map aV.id)
  have hany:Value.string x.id∈((l.take i).map aV.id).map Value.string↔(l.take i).any (fun y=>y.id.data==x.id.data)=true:=by
   rw[tK,List.any_eq_true,List.mem_map]
   exact⟨fun⟨y,q1,q2⟩=>⟨y,q1,by rw[q2];exact(jt _ _).2 rfl⟩,fun⟨y,q1,q2⟩=>⟨y,q1,(jt _ _).1 q2⟩⟩
  have hc:decide ((i:Int)<(l.length:Int))=true:=by simp;omega
  have ret: ∀e:Int,db l i=some e->Al.R (RZ z zn l.length cp r.1 r.2).l ⟨.ret,[(2,iv i),(3,zv e)],[],1,z,zn⟩:=fun e h=>by
   have:r=((i:Int),e):=by rw[←h2,c9 hi h]
   rw[this];exact bw trivial
  refine t100 (X3 z zn i l.length cp (bc e (l.map aV.row).flatten) x (((l.take i).map aV.id).map .string) (aj _ _ _ _ _ _ _ _ _) ⟨fun _=>?_,fun h=>by rw[hc] at h;cases h⟩)
  (repeat' first|(with_reducible first|exact rfl|assumption|apply And.intro|exact hk.no|exact hk.ex|exact gZ _ hps rfl|exact bK (by omega))|exact(rfl:gP _ _=_)|intro hq)
  all_goals try (have hm:=hk.Dk (by with_reducible assumption);rw[hany] at hm)
  all_goals try (have hm:=hk.Jk (by with_reducible assumption);rw[hany] at hm)
  all_goals clear hk hps hrow hany he ht hz hr
  all_goals first
   |(refine ret _ ?_;clear ret h2;simp only[db,hx];simp_all;done)
   |(refine ret _ ?_;clear ret h2;simp only[db,hx];simp_all;omega)
   |with_reducible assumption
   |rfl
   |skip
  have hb:db l i=none:=by
   clear ret h2
   simp only[db,hx]
   rw[if_neg (by simp_all),if_neg hm,if_neg (by simp only[bS1] at*;omega)]
  refine⟨i+1,rfl,?_,rfl,rfl,rfl,⟨hi,by rw[←cI hi hb];exact h2⟩,by show l.length - (i+1)<l.length - i;omega⟩
  rw[ff]
  show _=[(0,bd (((l.take (i+1)).map aV.id).map .string))]
  rw[List.take_add_one,hx]
  simp
 ·have hc:decide ((i:Int)<(l.length:Int))=false:=by simp;omega
  refine t100 (X3 z zn i l.length cp ⟨[],0,0,0,true,true,0,true⟩ ⟨⟨#[]⟩,0,true⟩ (((l.take i).map aV.id).map .string) (aj _ _ _ _ _ _ _ _ _) ⟨nC1 hc,fun _=>?_⟩)
  (repeat' first|(with_reducible first|exact rfl|assumption|apply And.intro))
  refine du (bw ?_)
  rw[dy (by omega)] at h2
  rw[←h2]
  exact⟨rfl,rfl⟩
theorem LH(hz:ax z zn)(hg:eO prog z gP)(l:List aV)(cp:Nat)(ht:bW z 3 (l.map aV.row)):
 A1 z zn 23 [tb 3 l.length cp] [] 0 0 (.tuple ⟨[zv (cu l).1,zv (cu l).2]⟩) []:=by
 refine cS hg (fn:=f23) (by kernel_rfl) (by kernel_rfl) hz ⟨by decide,by decide⟩ rfl (W0 z zn l.length cp (cu l).1 (cu l).2 _ ?_)
 by_cases h:64<l.length
 ·have hr:cu l=(0,5):=if_pos h
  have hc:decide ((l.length:Int)>64)=true:=by simp;omega
  rw[hr]
  refine⟨fun _=>?_,nC1 hc⟩
  (repeat' first|(with_reducible first|exact rfl|assumption|apply And.intro))
  exact q1
 ·have hr:cu l=scan (db l) l.length 0:=if_neg h
  have hc:decide ((l.length:Int)>64)=false:=by simp;omega
  have hL:=Kv hz hg l cp ht (by omega) (cu l) hr.symm
  refine⟨nC1 hc,fun _=>?_⟩
  (repeat' first|(with_reducible first|exact rfl|assumption|apply And.intro)|exact hL|intro hq)
  ·exact q1
  ·rw[hq.1,hq.2];exact q1
theorem Iu(hz:ax z zn)(hg:eO prog z gP):A1 z zn 23 [az] [] 0 0 (.tuple ⟨[I 0,I 0]⟩) []:=by
 have hL:ai prog (ah (ag f23) 0) 1 37 vU [(0,bd [])] 1 z zn (Al.R (RY z zn).l):=by
  refine an hD hg (α:=Unit) 1 37 1 (fun _=>True) (fun _=>vU) (fun _=>[(0,bd [])]) (fun _=>z) (fun _=>zn) (fun _=>0) _ (fun i hI=>?_) () trivial
  refine t100 (Vv z zn (aj _ _ _ _ _ _ _ _ _) ?_)
  (repeat' first|(with_reducible first|exact rfl|assumption|apply And.intro))
  exact bw trivial
 refine cS hg (fn:=f23) (by kernel_rfl) (by kernel_rfl) hz ⟨by decide,by decide⟩ rfl (WZ z zn _ ?_)
 (repeat' first|(with_reducible first|exact rfl|assumption|apply And.intro|exact q1)|exact hL|intro hq)
end
section
variable{z:T aa}{zn:Nat}
theorem G2(hz:ax z zn)(hg:eO prog z gP)(l:List aV)(cp:Nat)(e:TypeId)(he:z.get 3=some (.ak (bc e (l.map aV.row).flatten)))(hl:l.length<100000)(i:Nat)(x:aV)(hx:l[i]? =some x)(b:Bool)(hb:b=(l.take i).any fun y=>y.id.data==x.id.data):
 ai prog (ah (ah (ag f33) 0) 0) 0 48 (vW l.length cp i 0) [] 0 z zn (Al.R (Sb z zn l.length cp i b).l):=by
 have hil:i<l.length:=(List.getElem?_eq_some_iff.1 hx).1
 refine an hD hg (α:=Nat) 0 48 0 (fun k=>k<=i/\((l.take k).any fun y=>y.id.data==x.id.data)=false) (fun k=>vW l.length cp i k) (fun _=>[]) (fun _=>z) (fun _=>zn) (fun k=>i - k) _ (fun k hI=>?_) 0 ⟨Nat.zero_le _,rfl⟩
 obtain⟨h1,h2⟩:=hI
 have hlen:=aM (row:=aV.row) (sz:=3) l fun _=>rfl
 have rx:aC prog (bc e (l.map aV.row).flatten) 9 (0+i*3+0)=some (.string x.id):=aX (r:=x.row) (j:=0) underlying9 rfl hlen (by rw[List.getElem?_map,hx];rfl) rfl
 by_cases hk:k<i
 ·obtain⟨y,hy⟩:=ez (l:=l) (i:=k) (by omega)
  have ry:aC prog (bc e (l.map aV.row).flatten) 9 (0+k*3+0)=some (.string y.id):=aX (r:=y.row) (j:=0) underlying9 rfl hlen (by rw[List.getElem?_map,hy];rfl) rfl
  have hc:decide ((k:Int)<(i:Int))=true:=by simp;omega
  refine t100 (RB z zn i k l.length cp (bc e (l.map aV.row).flatten) x y (aj _ _ _ _ _ _ _ _ _) ⟨fun _=>?_,nC1 hc⟩)
  (repeat' first|(with_reducible first|exact rfl|assumption|apply And.intro|exact(by omega:k<l.length)|exact bK (by omega))|intro hq)
  ·rw[oC] at hq
   exact bw (by rw[hb];exact any_true hy hk hq)
  ·rw[oC] at hq
   exact⟨k+1,rfl,rfl,rfl,rfl,rfl,⟨hk,by rw[ju hy,h2,hq];rfl⟩,by show i - (k+1)<i - k;omega⟩
 ·have hc:decide ((k:Int)<(i:Int))=false:=by simp;omega
  refine t100 (RB z zn i k l.length cp (bc e (l.map aV.row).flatten) x x (aj _ _ _ _ _ _ _ _ _) ⟨nC1 hc,fun _=>?_⟩)
  (repeat' first|(with_reducible first|exact rfl|assumption|apply And.intro))
  refine du (bw ?_)
  rw[hb,←h2,show k=i by omega]
theorem Kx(hz:ax z zn)(hg:eO prog z gP)(l:List aV)(cp:Nat)(ht:bW z 3 (l.map aV.row))(hl:l.length<100000)(r:Int × Int)(hr:scan (db l) l.length 0=r):
 ai prog (ah (ag f33) 0) 0 48 (xD l.length cp 0) [] 0 z zn (Al.R (Sc z zn l.length cp r.1 r.2).l):=by
 refine an hD hg (α:=Nat) 0 48 0 (fun i=>i<=l.length/\scan (db l) (l.length - i) i=r) (fun i=>xD l.length cp i) (fun i=>[]) (fun _=>z) (fun _=>zn) (fun i=>l.length - i) _ (fun i hI=>?_) 0 ⟨Nat.zero_le _,hr⟩
 obtain⟨h1,h2⟩:=hI
 by_cases hi:i<l.length
 ·obtain⟨e,he⟩:=ht.ak (i:=i) (by simpa using hi)
  obtain⟨x,hx⟩:=ez hi
  have hid:=TO (ht.sz (i:=i) (r:=x.row) (s:=x.id) (by rw[List.getElem?_map,hx];rfl) (by simp))
  have hlen:=aM (row:=aV.row) (sz:=3) l fun _=>rfl
  have hr:(l.map aV.row)[i]? =some x.row:=by rw[List.getElem?_map,hx];rfl
  have r0:aC prog (bc e (l.map aV.row).flatten) 9 (0+i*3+0)=some (.string x.id):=aX (j:=0) underlying9 rfl hlen hr rfl
  have r1:aC prog (bc e (l.map aV.row).flatten) 3 (0+i*3+1)=some (zv x.mode):=aX (j:=1) underlying3 rfl hlen hr rfl
  have hL:=G2 hz hg l cp e he hl i x hx _ rfl
  generalize hb:((l.take i).any fun y=>y.id.data==x.id.data)=b at hL
  have hc:decide ((i:Int)<(l.length:Int))=true:=by simp;omega
  have ret: ∀e:Int,db l i=some e->Al.R (Sc z zn l.length cp r.1 r.2).l ⟨.ret,[(2,iv i),(3,zv e)],[],0,z,zn⟩:=fun e h=>by
   have:r=((i:Int),e):=by rw[←h2,c9 hi h]
   rw[this];exact bw trivial
  have hbad:db l i=if bM x.id=false then some 12 else if b=true then some 6 else if x.mode<0\/8<=x.mode then some 2 else none:=by
   simp only[db,hx,hb]
  refine t100 (X5 z zn i l.length cp (bc e (l.map aV.row).flatten) x b (aj _ _ _ _ _ _ _ _ _) ⟨fun _=>?_,nC1 hc⟩)
  (repeat' first|(with_reducible first|exact rfl|assumption|apply And.intro|exact bK (by omega))|exact(rfl:gP _ _=_)|exact hL|intro hq)
  all_goals clear hL r0 r1 hr hlen he ht hz
  all_goals first
   |with_reducible assumption
   |rfl
   |(refine ret _ ?_;clear ret h2;rw[hbad];simp_all;done)
   |(refine ret _ ?_;clear ret h2;rw[hbad];simp_all;omega)
   |(have hb0:db l i=none:=by
      clear ret h2
      rw[hbad,if_neg (by simp_all),if_neg (by simp_all),if_neg (by simp only[bS1] at*;omega)]
     exact⟨i+1,rfl,rfl,rfl,rfl,rfl,⟨hi,by rw[←cI hi hb0];exact h2⟩,by show l.length - (i+1)<l.length - i;omega⟩)
 ·have hc:decide ((i:Int)<(l.length:Int))=false:=by simp;omega
  refine t100 (X5 z zn i l.length cp ⟨[],0,0,0,true,true,0,true⟩ ⟨⟨#[]⟩,0,true⟩ true (aj _ _ _ _ _ _ _ _ _) ⟨nC1 hc,fun _=>?_⟩)
  (repeat' first|(with_reducible first|exact rfl|assumption|apply And.intro))
  refine du (bw ?_)
  rw[dy (by omega)] at h2
  rw[←h2]
  exact⟨rfl,rfl⟩
theorem E0(hz:ax z zn)(hg:eO prog z gP)(l:List aV)(cp:Nat)(ht:bW z 3 (l.map aV.row)):
 A1 z zn 33 [tb 3 l.length cp] [] 0 0 (.tuple ⟨[zv (cu l).1,zv (cu l).2]⟩) []:=by
 refine cS hg (fn:=f33) (by kernel_rfl) (by kernel_rfl) hz ⟨by decide,by decide⟩ rfl (frr z zn l.length cp (cu l).1 (cu l).2 _ ?_)
 by_cases h:64<l.length
 ·have hr:cu l=(0,5):=if_pos h
  have hc:decide ((l.length:Int)>64)=true:=by simp;omega
  rw[hr]
  refine⟨fun _=>?_,nC1 hc⟩
  (repeat' first|(with_reducible first|exact rfl|assumption|apply And.intro))
  exact q1
 ·have hr:cu l=scan (db l) l.length 0:=if_neg h
  have hc:decide ((l.length:Int)>64)=false:=by simp;omega
  have hL:=Kx hz hg l cp ht (by omega) (cu l) hr.symm
  refine⟨nC1 hc,fun _=>?_⟩
  (repeat' first|(with_reducible first|exact rfl|assumption|apply And.intro)|exact hL|intro hq)
  ·exact q1
  ·rw[hq.1,hq.2];exact q1
end
def yu(n a b:Int):Bool:=decide (a<=n) && decide (n<=b)
theorem fold(n a b:Int):(decide (a<=n) && decide (n<=b))=yu n a b:=rfl
def dU(l:List bE)(i:Nat):Option Int:=match l[i]? with
 |some x=>if bM x.id=false then some 12 else if (l.take i).any (fun y=>y.id.data==x.id.data) then some 6 else if (yu x.cd 0 1000000 && yu x.bZ 1 8 && yu x.bY 1 16 && yu x.aH 0 86400 && yu x.lH 1 255)=false then some 2 else none
 |none=>none
def eV(d w c:Int):Bool:=yu d 0 1000000 && yu w 0 86400 && yu c 0 1000000
def bt(d w c:Int)(l:List bE):Int × Int:=if eV d w c=false then (-1,2) else if 16<l.length then (0,5) else scan (dU l) l.length 0
section
variable{z:T aa}{zn:Nat}
theorem KE(hz:ax z zn)(hg:eO prog z gP)(l:List bE)(cp:Nat)(ht:bW z 5 (l.map bE.row))(hl:l.length<100000)(r:Int × Int)(hr:scan (dU l) l.length 0=r):
 ai prog (ah (ag f28) 0) 2 79 (Ek l.length cp 0) [(1,bd [])] 2 z zn (Al.R (Sl z zn l.length cp r.1 r.2).l):=by
 refine an hD hg (α:=Nat) 2 79 2 (fun i=>i<=l.length/\scan (dU l) (l.length - i) i=r) (fun i=>Ek l.length cp i) (fun i=>[(1,bd (((l.take i).map bE.id).map .string))]) (fun _=>z) (fun _=>zn) (fun i=>l.length - i) _ (fun i hI=>?_) 0 ⟨Nat.zero_le _,hr⟩
 obtain⟨h1,h2⟩:=hI
 by_cases hi:i<l.length
 ·obtain⟨e,he⟩:=ht.ak (i:=i) (by simpa using hi)
  obtain⟨x,hx⟩: ∃x,l[i]? =some x:=⟨l[i],List.getElem?_eq_getElem hi⟩
  have hid:=TQ (ht.sz (i:=i) (r:=x.row) (s:=x.id) (by rw[List.getElem?_map,hx];rfl) (by simp))
  have hrow:aC prog (bc e (l.map bE.row).flatten) 84 (0+i*6)=some (.agg ⟨x.row⟩):=bC (P:=prog) (e:=e) (t:=84) (k:=i) (r:=x.row) (sz:=6) underlying84 rfl rfl (aM (row:=bE.row) l fun _=>rfl) (by rw[List.getElem?_map,hx];rfl)
  have hk:=BZ x.id ((l.take i).map bE.id)
  have hps:=nY ((l.take i).map bE.id)
  have hany:Value.string x.id∈((l.take i).map bE.id).map Value.string↔(l.take i).any (fun y=>y.id.data==x.id.data)=true:=by
   rw[tK,List.any_eq_true,List.mem_map]
   exact⟨fun⟨y,q1,q2⟩=>⟨y,q1,by rw[q2];exact(jt _ _).2 rfl⟩,fun⟨y,q1,q2⟩=>⟨y,q1,(jt _ _).1 q2⟩⟩
  have hc:decide ((i:Int)<(l.length:Int))=true:=by simp;omega
  have ret: ∀e:Int,dU l i=some e->Al.R (Sl z zn l.length cp r.1 r.2).l ⟨.ret,[(2,iv i),(3,zv e)],[],2,z,zn⟩:=fun e h=>by
   have:r=((i:Int),e):=by rw[←h2,c9 hi h]
   rw[this];exact bw trivial
  refine t100 (X9 z zn i l.length cp (bc e (l.map bE.row).flatten) x (((l.take i).map bE.id).map .string) (aj _ _ _ _ _ _ _ _ _) ⟨fun _=>?_,fun h=>by rw[hc] at h;cases h⟩)
  (repeat' first|(with_reducible first|exact rfl|assumption|apply And.intro|exact hk.no|exact hk.ex|exact gZ _ hps rfl|exact bK (by omega))|exact(rfl:gP _ _=_)|intro hq)
  all_goals try (have hm:=hk.Dk (by with_reducible assumption);rw[hany] at hm)
  all_goals try (have hm:=hk.Jk (by with_reducible assumption);rw[hany] at hm)
  all_goals clear hk hps hrow hany he ht hz hr
  all_goals first
   |(refine ret _ ?_;clear ret h2;simp only[dU,hx];(try simp only[fold] at*);simp_all;done)
   |(refine ret _ ?_;clear ret h2;simp only[dU,hx];(try simp only[fold] at*);simp_all;omega)
   |with_reducible assumption
   |rfl
   |skip
  have hb:dU l i=none:=by
   clear ret h2
   simp only[dU,hx]
   rw[if_neg (by simp_all),if_neg hm,if_neg (by(try simp only[fold] at*);simp_all;done)]
  refine⟨i+1,rfl,?_,rfl,rfl,rfl,⟨hi,by rw[←cI hi hb];exact h2⟩,by show l.length - (i+1)<l.length - i;omega⟩
  rw[ff]
  show _=[(1,bd (((l.take (i+1)).map bE.id).map .string))]
  rw[List.take_add_one,hx]
  simp
 ·have hc:decide ((i:Int)<(l.length:Int))=false:=by simp;omega
  refine t100 (X9 z zn i l.length cp ⟨[],0,0,0,true,true,0,true⟩ ⟨⟨#[]⟩,0,0,0,0,0⟩ (((l.take i).map bE.id).map .string) (aj _ _ _ _ _ _ _ _ _) ⟨nC1 hc,fun _=>?_⟩)
  (repeat' first|(with_reducible first|exact rfl|assumption|apply And.intro))
  refine du (bw ?_)
  rw[dy (by omega)] at h2
  rw[←h2]
  exact⟨rfl,rfl⟩
theorem PI(hz:ax z zn)(hg:eO prog z gP)(l:List bE)(cp:Nat)(ht:bW z 5 (l.map bE.row))(d w c:Int):
 A1 z zn 28 [.agg ⟨[tb 5 l.length cp,zv d,zv w,zv c]⟩] [] 0 0 (.tuple ⟨[zv (bt d w c l).1,zv (bt d w c l).2]⟩) []:=by
 refine cS hg (fn:=f28) (by kernel_rfl) (by kernel_rfl) hz ⟨by decide,by decide⟩ rfl (W7 z zn l.length cp (bt d w c l).1 (bt d w c l).2 d w c _ ?_)
 cases hf:eV d w c with
 |false=>
  have hr:bt d w c l=(-1,2):=if_pos hf
  rw[hr]
  unfold eV at hf
  (repeat' first|(with_reducible first|exact rfl|assumption|apply And.intro|exact q1)|exact(rfl:gP _ _=_)|exact q1|intro hq)
  all_goals (exfalso;(try simp only[fold] at*);simp_all;done)
 |true=>
  by_cases h:16<l.length
  ·have hr:bt d w c l=(0,5):=by unfold bt;rw[if_neg (by simp[hf]),if_pos h]
   have hc:decide ((l.length:Int)>16)=true:=by simp;omega
   rw[hr]
   unfold eV at hf
   (repeat' first|(with_reducible first|exact rfl|assumption|apply And.intro|exact q1)|exact(rfl:gP _ _=_)|exact q1|intro hq)
   all_goals (exfalso;(try simp only[fold] at*);simp_all;done)
  ·have hr:bt d w c l=scan (dU l) l.length 0:=by unfold bt;rw[if_neg (by simp[hf]),if_neg h]
   have hc:decide ((l.length:Int)>16)=false:=by simp;omega
   have hL:=KE hz hg l cp ht (by omega) (bt d w c l) hr.symm
   unfold eV at hf
   (repeat' first|(with_reducible first|exact rfl|assumption|apply And.intro|exact q1)|exact(rfl:gP _ _=_)|exact hL|intro hq)
   all_goals first|(rw[hq.1,hq.2];exact q1)|(exfalso;(try simp only[fold] at*);simp_all;done)|trace_state
end
def gY(p:Option bm)(x:bm):Bool:=match p with|some p=>decide (p.stop=x.stop)|none=>false
def early(p:Option bm)(x:bm):Bool:=match p with|some p=>decide (x.arr<p.dep)|none=>false
def bb(p:Option bm)(x:bm)(s lo hi:Int):Int:=
 if x.stop<0\/s<=x.stop then 9 else if gY p x=true then 13 else if x.arr<lo\/x.dep<x.arr\/hi<x.dep\/early p x=true then 10 else 0
def prev(l:List bm)(i:Nat):Option bm:=if i=0 then none else l[i - 1]?
def fN(l:List bm)(s lo hi:Int)(i:Nat):Option Int:=match l[i]? with
 |some x=>if bb (prev l i) x s lo hi=0 then none else some (bb (prev l i) x s lo hi)
 |none=>none
def bD(l:List bm)(s lo hi:Int):Int × Int:=if l.length<2\/32<l.length then (0,5) else scan (fN l s lo hi) l.length 0
theorem Mp{i:Nat}(h0:0<i)(h:i<1000000000):Value.int .i64 (IntKind.i64.wrap ((i:Int) - 1))=Value.int .i64 ((i:Int) - 1):=by
 have:IntKind.i64.wrap ((i:Int) - 1)=(i:Int) - 1:=by
  simp only[IntKind.wrap,IntKind.signed,IntKind.bits]
  simp
  omega
 rw[this]
theorem qg(σ:bk)(k n c:Nat):aT (ay σ []) (tb k n c)=some (tb k n c):=by
 have:ay σ [] (256*k+510)=some (256*k+510):=by
  rw[iJ (by unfold cC;omega)];rfl
 simp only[aT,this]
section
variable{z:T aa}{zn:Nat}
theorem S7(hz:ax z zn)(hg:eO prog z gP)(k:Nat)(l:List bm)(cp:Nat)(ht:bW z k (l.map bm.row))(hl:l.length<100000)(s lo hi:Int)(i:Nat)(x:bm)(hx:l[i]? =some x):
 A1 z zn 88 [tb k l.length cp,iv i,zv s,zv lo,zv hi] [] 0 0 (zv (bb (prev l i) x s lo hi)) []:=by
 have hil:i<l.length:=(List.getElem?_eq_some_iff.1 hx).1
 obtain⟨e,he⟩:=ht.ak (i:=i) (by simpa using hil)
 have hlen:=aM (row:=bm.row) (sz:=5) l fun _=>rfl
 have hrow:aC prog (bc e (l.map bm.row).flatten) 76 (0+i*5)=some (.agg ⟨x.row⟩):=bC (r:=x.row) (sz:=5) underlying76 rfl rfl hlen (by rw[List.getElem?_map,hx];rfl)
 obtain⟨p,hp0,hp⟩: ∃p:bm,(0<i->prev l i=some p)/\(0<i->l[i - 1]? =some p):=by
  by_cases h:0<i
  ·obtain⟨p,hp⟩:=ez (l:=l) (i:=i - 1) (by omega)
   exact⟨p,fun _=>by unfold prev;rw[if_neg (by omega),hp],fun _=>hp⟩
  ·exact⟨x,fun h'=>(h h').elim,fun h'=>(h h').elim⟩
 refine cS hg (fn:=f88) (by kernel_rfl) (by kernel_rfl) hz ⟨by decide,by decide⟩ rfl (W8 z zn k i l.length cp s lo hi (bc e (l.map bm.row).flatten) x p _ ?_)
 rcases Nat.eq_zero_or_pos i with h0|h0
 ·have hpr:prev l i=none:=if_pos h0
  have hc:decide ((i:Int)>0)=false:=by simp;omega
  (repeat' first|(with_reducible first|exact rfl|assumption|apply And.intro)|intro hq)
  all_goals first
   |(exfalso;simp_all;done)
   |omega
   |(rw[hc];done)
   |(have hv:bb (prev l i) x s lo hi=9:=by rw[hpr];simp only[bb,gY,early];simp_all;(try omega)
     rw[hv];exact q1)
   |(have hv:bb (prev l i) x s lo hi=13:=by rw[hpr];simp only[bb,gY,early];simp_all;(try omega)
     rw[hv];exact q1)
   |(have hv:bb (prev l i) x s lo hi=10:=by rw[hpr];simp only[bb,gY,early];simp_all;(try omega)
     rw[hv];exact q1)
   |(have hv:bb (prev l i) x s lo hi=0:=by rw[hpr];simp only[bb,gY,early];simp_all;(try omega)
     rw[hv];exact q1)
 ·have hpr:=hp0 h0
  have r0:aC prog (bc e (l.map bm.row).flatten) 3 (0+(i - 1)*5+0)=some (zv p.stop):=aX (r:=p.row) (j:=0) underlying3 rfl hlen (by rw[List.getElem?_map,hp h0];rfl) rfl
  have r2:aC prog (bc e (l.map bm.row).flatten) 3 (0+(i - 1)*5+2)=some (zv p.dep):=aX (r:=p.row) (j:=2) underlying3 rfl hlen (by rw[List.getElem?_map,hp h0];rfl) rfl
  have hc:decide ((i:Int)>0)=true:=by simp;omega
  (repeat' first|(with_reducible first|exact rfl|assumption|apply And.intro|exact(by omega:i - 1<l.length))|intro hq)
  all_goals first
   |(exfalso;simp_all;done)
   |exact Mp h0 (by omega)
   |omega
   |(rw[hc];done)
   |(have hv:bb (prev l i) x s lo hi=9:=by rw[hpr];simp only[bb,gY,early];simp_all;(try omega)
     rw[hv];exact q1)
   |(have hv:bb (prev l i) x s lo hi=13:=by rw[hpr];simp only[bb,gY,early];simp_all;(try omega)
     rw[hv];exact q1)
   |(have hv:bb (prev l i) x s lo hi=10:=by rw[hpr];simp only[bb,gY,early];simp_all;(try omega)
     rw[hv];exact q1)
   |(have hv:bb (prev l i) x s lo hi=0:=by rw[hpr];simp only[bb,gY,early];simp_all;(try omega)
     rw[hv];exact q1)
theorem pJ{l:List bm}{s lo hi:Int}{i:Nat}{x:bm}(hx:l[i]? =some x){e:Int}(he:bb (prev l i) x s lo hi=e)(h0:e≠0):fN l s lo hi i=some e:=by
 simp only[fN,hx,he];rw[if_neg h0]
theorem pK{l:List bm}{s lo hi:Int}{i:Nat}{x:bm}(hx:l[i]? =some x)(he:bb (prev l i) x s lo hi=0):fN l s lo hi i=none:=by
 simp only[fN,hx,he];rfl
theorem KN(hz:ax z zn)(hg:eO prog z gP)(k:Nat)(l:List bm)(cp:Nat)(ht:bW z k (l.map bm.row))(hl:l.length<100000)(s lo hi:Int)(r:Int × Int)(hr:scan (fN l s lo hi) l.length 0=r):
 ai prog (ah (ag f55) 0) 0 36 (Er k l.length cp s lo hi 0) [] 0 z zn (Al.R (Wr z zn k l.length cp s lo hi r.1 r.2).l):=by
 refine an hD hg (α:=Nat) 0 36 0 (fun i=>i<=l.length/\scan (fN l s lo hi) (l.length - i) i=r) (fun i=>Er k l.length cp s lo hi i) (fun _=>[]) (fun _=>z) (fun _=>zn) (fun i=>l.length - i) _ (fun i hI=>?_) 0 ⟨Nat.zero_le _,hr⟩
 obtain⟨h1,h2⟩:=hI
 by_cases hi':i<l.length
 ·obtain⟨x,hx⟩:=ez hi'
  have hone:=S7 hz hg k l cp ht hl s lo hi i x hx
  generalize he:bb (prev l i) x s lo hi=e at hone
  have hc:decide ((i:Int)<(l.length:Int))=true:=by simp;omega
  refine t100 (Zf z zn k i l.length cp s lo hi e (aj _ _ _ _ _ _ _ _ _) ⟨fun _=>?_,nC1 hc⟩)
  (repeat' first|(with_reducible first|exact rfl|assumption|apply And.intro|exact bK (by omega))|intro hq)
  ·have h0:e≠0:=by simpa using hq
   have:r=((i:Int),e):=by rw[←h2,c9 hi' (pJ hx he h0)]
   rw[this];exact bw trivial
  ·have h0:e=0:=by simpa using hq
   exact⟨i+1,rfl,rfl,rfl,rfl,rfl,⟨hi',by rw[←cI hi' (pK hx (he.trans h0))];exact h2⟩,by show l.length - (i+1)<l.length - i;omega⟩
 ·have hc:decide ((i:Int)<(l.length:Int))=false:=by simp;omega
  refine t100 (Zf z zn k i l.length cp s lo hi 0 (aj _ _ _ _ _ _ _ _ _) ⟨nC1 hc,fun _=>?_⟩)
  (repeat' first|(with_reducible first|exact rfl|assumption|apply And.intro))
  refine du (bw ?_)
  rw[dy (by omega)] at h2
  rw[←h2]
  exact⟨rfl,rfl⟩
theorem LU(hz:ax z zn)(hg:eO prog z gP)(k:Nat)(l:List bm)(cp:Nat)(ht:bW z k (l.map bm.row))(s lo hi:Int):
 A1 z zn 55 [tb k l.length cp,zv s,zv lo,zv hi] [] 0 0 (.tuple ⟨[zv (bD l s lo hi).1,zv (bD l s lo hi).2]⟩) []:=by
 refine cS hg (fn:=f55) (by kernel_rfl) (by kernel_rfl) hz ⟨by decide,by decide⟩ rfl (fck z zn k l.length cp s lo hi (bD l s lo hi).1 (bD l s lo hi).2 _ ?_)
 by_cases h:l.length<2\/32<l.length
 ·have hr:bD l s lo hi=(0,5):=if_pos h
  rw[hr]
  (repeat' first|(with_reducible first|exact rfl|assumption|apply And.intro|exact q1)|exact q1|intro hq)
  all_goals first|(exfalso;simp_all;done)|(exfalso;simp_all;omega)
 ·have hr:bD l s lo hi=scan (fN l s lo hi) l.length 0:=if_neg h
  have hL:=KN hz hg k l cp ht (by omega) s lo hi (bD l s lo hi) hr.symm
  (repeat' first|(with_reducible first|exact rfl|assumption|apply And.intro|exact q1)|exact hL|intro hq)
  all_goals first
   |(exfalso;simp_all;done)
   |(exfalso;simp_all;omega)
   |(rw[hq.1,hq.2];exact q1)
theorem KB(hz:ax z zn)(hg:eO prog z gP)(k:Nat)(l:List bm)(cp:Nat)(ht:bW z k (l.map bm.row))(hl:l.length<100000)(s lo hi:Int)(r:Int × Int)(hr:scan (fN l s lo hi) l.length 0=r):
 ai prog (ah (ag f64) 0) 0 83 (zJ k l.length cp s lo hi 0) [] 0 z zn (Al.R (Oy z zn k l.length cp s lo hi r.2).l):=by
 refine an hD hg (α:=Nat) 0 83 0 (fun i=>i<=l.length/\scan (fN l s lo hi) (l.length - i) i=r) (fun i=>zJ k l.length cp s lo hi i) (fun _=>[]) (fun _=>z) (fun _=>zn) (fun i=>l.length - i) _ (fun i hI=>?_) 0 ⟨Nat.zero_le _,hr⟩
 obtain⟨h1,h2⟩:=hI
 by_cases hil:i<l.length
 ·obtain⟨e,he⟩:=ht.ak (i:=i) (by simpa using hil)
  obtain⟨x,hx⟩:=ez hil
  have hlen:=aM (row:=bm.row) (sz:=5) l fun _=>rfl
  have hrow:aC prog (bc e (l.map bm.row).flatten) 76 (0+i*5)=some (.agg ⟨x.row⟩):=bC (r:=x.row) (sz:=5) underlying76 rfl rfl hlen (by rw[List.getElem?_map,hx];rfl)
  obtain⟨p,hp0,hp⟩: ∃p:bm,(0<i->prev l i=some p)/\(0<i->l[i - 1]? =some p):=by
   by_cases h:0<i
   ·obtain⟨p,hp⟩:=ez (l:=l) (i:=i - 1) (by omega)
    exact⟨p,fun _=>by unfold prev;rw[if_neg (by omega),hp],fun _=>hp⟩
   ·exact⟨x,fun h'=>(h h').elim,fun h'=>(h h').elim⟩
  have hc':decide ((i:Int)<(l.length:Int))=true:=by simp;omega
  have ret: ∀e:Int,bb (prev l i) x s lo hi=e->e≠0->Al.R (Oy z zn k l.length cp s lo hi r.2).l ⟨.ret,[(8,zv e)],[],0,z,zn⟩:=fun e he h0=>by
   have:r=((i:Int),e):=by rw[←h2,c9 hil (pJ hx he h0)]
   rw[this];exact bw trivial
  have jC:bb (prev l i) x s lo hi=0->aj (fun i=>i<=l.length/\scan (fN l s lo hi) (l.length - i) i=r) (fun i=>zJ k l.length cp s lo hi i) (fun _=>[]) 0 (fun _=>z) (fun _=>zn) (fun i=>l.length - i) (Al.R (Oy z zn k l.length cp s lo hi r.2).l) i .normal (zJ k l.length cp s lo hi (i+1)) [] 0 z zn:=fun h0=>
   ⟨i+1,rfl,rfl,rfl,rfl,rfl,⟨hil,by rw[←cI hil (pK hx h0)];exact h2⟩,by show l.length - (i+1)<l.length - i;omega⟩
  refine t100 (X8 z zn k i l.length cp s lo hi (bc e (l.map bm.row).flatten) x p (aj _ _ _ _ _ _ _ _ _) ⟨fun _=>?_,fun h=>(by rw[hc'] at h;cases h)⟩)
  clear h2
  rcases Nat.eq_zero_or_pos i with h0|h0
  ·have hpr:prev l i=none:=if_pos h0
   have hc:decide ((i:Int)>0)=false:=by simp;omega
   (repeat' first|(with_reducible first|exact rfl|assumption|apply And.intro|exact bK (by omega))|intro hq)
   all_goals first
    |(exfalso;clear ret jC;simp_all;done)
    |omega
    |(rw[hc];done)
    |(have hv:bb (prev l i) x s lo hi=9:=by clear ret jC;rw[hpr];simp only[bb,gY,early];simp_all;(try omega)
      exact ret _ hv (by decide))
    |(have hv:bb (prev l i) x s lo hi=13:=by clear ret jC;rw[hpr];simp only[bb,gY,early];simp_all;(try omega)
      exact ret _ hv (by decide))
    |(have hv:bb (prev l i) x s lo hi=10:=by clear ret jC;rw[hpr];simp only[bb,gY,early];simp_all;(try omega)
      exact ret _ hv (by decide))
    |(have hv:bb (prev l i) x s lo hi=0:=by clear ret jC;rw[hpr];simp only[bb,gY,early];simp_all;(try omega)
      exact jC hv)
  ·have hpr:=hp0 h0
   have r0:aC prog (bc e (l.map bm.row).flatten) 3 (0+(i - 1)*5+0)=some (zv p.stop):=aX (r:=p.row) (j:=0) underlying3 rfl hlen (by rw[List.getElem?_map,hp h0];rfl) rfl
   have r2:aC prog (bc e (l.map bm.row).flatten) 3 (0+(i - 1)*5+2)=some (zv p.dep):=aX (r:=p.row) (j:=2) underlying3 rfl hlen (by rw[List.getElem?_map,hp h0];rfl) rfl
   have hc:decide ((i:Int)>0)=true:=by simp;omega
   (repeat' first|(with_reducible first|exact rfl|assumption|apply And.intro|exact(by omega:i - 1<l.length)|exact bK (by omega))|intro hq)
   all_goals first
    |(exfalso;clear ret jC;simp_all;done)
    |exact Mp h0 (by omega)
    |omega
    |(rw[hc];done)
    |(have hv:bb (prev l i) x s lo hi=9:=by clear ret jC;rw[hpr];simp only[bb,gY,early];simp_all;(try omega)
      exact ret _ hv (by decide))
    |(have hv:bb (prev l i) x s lo hi=13:=by clear ret jC;rw[hpr];simp only[bb,gY,early];simp_all;(try omega)
      exact ret _ hv (by decide))
    |(have hv:bb (prev l i) x s lo hi=10:=by clear ret jC;rw[hpr];simp only[bb,gY,early];simp_all;(try omega)
      exact ret _ hv (by decide))
    |(have hv:bb (prev l i) x s lo hi=0:=by clear ret jC;rw[hpr];simp only[bb,gY,early];simp_all;(try omega)
      exact jC hv)
 ·have hc:decide ((i:Int)<(l.length:Int))=false:=by simp;omega
  refine t100 (X8 z zn k i l.length cp s lo hi ⟨[],0,0,0,true,true,0,true⟩ ⟨0,0,0,true,true⟩ ⟨0,0,0,true,true⟩ (aj _ _ _ _ _ _ _ _ _) ⟨nC1 hc,fun _=>?_⟩)
  (repeat' first|(with_reducible first|exact rfl|assumption|apply And.intro))
  refine du (bw ?_)
  rw[dy (by omega)] at h2
  rw[←h2]
theorem Iz(hz:ax z zn)(hg:eO prog z gP)(k:Nat)(l:List bm)(cp:Nat)(ht:bW z k (l.map bm.row))(s lo hi:Int):
 A1 z zn 64 [tb k l.length cp,zv s,zv lo,zv hi] [] 0 0 (zv (bD l s lo hi).2) []:=by
 refine cS hg (fn:=f64) (by kernel_rfl) (by kernel_rfl) hz ⟨by decide,by decide⟩ rfl (frc z zn k l.length cp s lo hi (bD l s lo hi).2 _ ?_)
 by_cases h:l.length<2\/32<l.length
 ·have hr:bD l s lo hi=(0,5):=if_pos h
  rw[hr]
  (repeat' first|(with_reducible first|exact rfl|assumption|apply And.intro|exact q1)|exact q1|intro hq)
  all_goals first|(exfalso;simp_all;done)|(exfalso;simp_all;omega)
 ·have hr:bD l s lo hi=scan (fN l s lo hi) l.length 0:=if_neg h
  have hL:=KB hz hg k l cp ht (by omega) s lo hi (bD l s lo hi) hr.symm
  (repeat' first|(with_reducible first|exact rfl|assumption|apply And.intro|exact q1)|exact hL|intro hq)
  all_goals first
   |(exfalso;simp_all;done)
   |(exfalso;simp_all;omega)
   |(rw[hq];exact q1)
end
theorem prun_bind{α β:Type}{P:Program}(f:α->Sem β): ∀s:Sem α,prun P (s>>=f)=(prun P s).bind fun a=>prun P (f a)
 | .pure a=>rfl
 | .program k=>prun_bind f (k P)
 | .mark m k=>prun_bind f k
 | .load _ _ _=>rfl
 | .store _ _ _ _=>rfl
 | .new _ _=>rfl
 | .shape _ _=>rfl
 | .freeze _ _ _=>rfl
 | .frozen _ _=>rfl
 | .getObj _ _=>rfl
 | .setObj _ _ _=>rfl
 | .choose _ _=>rfl
 | .sys _ _=>rfl
 | .halt _=>rfl
theorem prun_pure{α:Type}{P:Program}(a:α):prun P (pure a:Sem α)=some a:=rfl
theorem y9{α:Type}{P:Program}(c:Prop)[Decidable c](s t:Sem α):prun P (if c then s else t)=if c then prun P s else prun P t:=by split<;>rfl
theorem lY{P:Program}(d:Nat)(t:TypeId)(xs ys:Array Value)(fs:Array Field)(ht:prun P (underlying t)=some (.struct fs))(hp:P.stoodInHeld t=false):
 prun P (Op.equalIn (d+1) t (.agg xs) (.agg ys))=prun P (Op.eqFields d xs ys fs.toList):=by
 have hprog:prun P (program:Sem Program)=some P:=rfl
 simp only[Op.equalIn,prun_bind,ht,Option.bind_some,hprog,hp,Bool.false_eq_true,if_false]
 rw[←Array.forIn_toList]
 generalize fs.toList=fs
 clear ht
 induction fs with
 |nil=>simp[Op.eqFields,prun_pure]
 |cons f fs ih=>
  simp only[List.forIn_cons,Op.eqFields,prun_bind,y9]
  split
  ·cases prun P (part f.type xs f.offset) with
   |none=>rfl
   |some a=>
    simp only[Option.bind_some]
    cases prun P (part f.type ys f.offset) with
    |none=>rfl
    |some b=>
     simp only[Option.bind_some]
     cases prun P (Op.equalIn d f.type a b) with
     |none=>rfl
     |some r=>
      cases r
      ·simp only[Option.bind_some,Bool.not_false,if_true,prun_pure]
      ·simp only[Option.bind_some,Bool.not_true,Bool.false_eq_true,if_false,prun_pure]
       exact ih
  ·simp only[prun_pure,Option.bind_some]
   exact ih
theorem za{P:Program}{d:Nat}{xs ys:Array Value}{f:Field}{fs:List Field}{a b:Value}{r:Bool}(hn:f.name≠ "_")(ha:prun P (part f.type xs f.offset)=some a)(hb:prun P (part f.type ys f.offset)=some b)(hr:prun P (Op.equalIn d f.type a b)=some r):
 prun P (Op.eqFields d xs ys (f::fs))=if r=true then prun P (Op.eqFields d xs ys fs) else some false:=by
 simp only[Op.eqFields,if_pos hn,prun_bind,ha,hb,hr,Option.bind_some]
 cases r<;>rfl
def fx(f:Field):Bool × TypeId × Nat:=(decide (f.name≠ "_"),f.type,f.offset)
theorem SN{f:Field}{t o:Nat}(h:fx f=(true,t,o)):f.name≠ "_" /\f.type=t/\f.offset=o:=by
 unfold fx at h
 simp only[Prod.mk.injEq,decide_eq_true_eq] at h
 exact h
theorem step_eq{P:Program}{d:Nat}{xs ys:Array Value}{f:Field}{fs:List Field}{t o:Nat}{a b:Value}{r:Bool}(hf:fx f=(true,t,o))(ha:prun P (part t xs o)=some a)(hb:prun P (part t ys o)=some b)(hr:prun P (Op.equalIn d t a b)=some r):
 prun P (Op.eqFields d xs ys (f::fs))=if r=true then prun P (Op.eqFields d xs ys fs) else some false:=by
 obtain⟨h1,h2,h3⟩:=SN hf
 subst h2 h3
 exact za h1 ha hb hr
theorem MI{α β:Type}{g:α->β}{l:List α}{a b c:β}(h:l.map g=[a,b,c]): ∃x y z,l=[x,y,z]/\g x=a/\g y=b/\g z=c:=by
 match l,h with
 |[x,y,z],h=>simp at h;exact⟨x,y,z,rfl,h.1,h.2.1,h.2.2⟩
theorem SC{α β:Type}{g:α->β}{l:List α}{a b c d:β}(h:l.map g=[a,b,c,d]): ∃x y z u,l=[x,y,z,u]/\g x=a/\g y=b/\g z=c/\g u=d:=by
 match l,h with
 |[x,y,z,u],h=>simp at h;exact⟨x,y,z,u,rfl,h.1,h.2.1,h.2.2.1,h.2.2.2⟩
theorem HY(a b:Int):prun prog (Op.equalIn 9999 3 (zv a) (zv b))=some (decide (a=b)):=by kernel_rfl
theorem eqS(a b:ByteArray):prun prog (Op.equalIn 9999 9 (.string a) (.string b))=some (a.data==b.data):=by kernel_rfl
theorem ML(a b:Bool):prun prog (Op.equalIn 9999 4 (.bool a) (.bool b))=some (a==b):=by kernel_rfl
theorem OZ(a b:ByteArray)(x y u w:Int):prun prog (Op.equal 119 (.agg ⟨[.string a,zv x,zv y]⟩) (.agg ⟨[.string b,zv u,zv w]⟩))=some ((a.data==b.data) && (decide (x=u) && decide (y=w))):=by
 have hm:(prog.fieldsOf 119).toList.map fx=[(true,9,0),(true,3,1),(true,3,2)]:=by kernel_rfl
 obtain⟨f0,f1,f2,hl,h0,h1,h2⟩:=MI hm
 have hs:prun prog (underlying 119)=some (.struct (prog.fieldsOf 119)):=by kernel_rfl
 show prun _ (Op.equalIn (9999+1) _ _ _)=_
 rw[lY _ _ _ _ _ hs (by kernel_rfl),hl,step_eq h0 (by kernel_rfl) (by kernel_rfl) (eqS a b),step_eq h1 (by kernel_rfl) (by kernel_rfl) (HY x u),step_eq h2 (by kernel_rfl) (by kernel_rfl) (HY y w)]
 cases (a.data==b.data)<;>cases decide (x=u)<;>cases decide (y=w)<;>rfl
theorem HP(a b c x y z:Int)(d w:Bool):prun prog (Op.equal 82 (.agg ⟨[zv a,zv b,zv c, .bool d]⟩) (.agg ⟨[zv x,zv y,zv z, .bool w]⟩))=some (decide (a=x) && (decide (b=y) && (decide (c=z) && (d==w)))):=by
 have hm:(prog.fieldsOf 82).toList.map fx=[(true,3,0),(true,3,1),(true,3,2),(true,4,3)]:=by kernel_rfl
 obtain⟨f0,f1,f2,f3,hl,h0,h1,h2,h3⟩:=SC hm
 have hs:prun prog (underlying 82)=some (.struct (prog.fieldsOf 82)):=by kernel_rfl
 show prun _ (Op.equalIn (9999+1) _ _ _)=_
 rw[lY _ _ _ _ _ hs (by kernel_rfl),hl,step_eq h0 (by kernel_rfl) (by kernel_rfl) (HY a x),step_eq h1 (by kernel_rfl) (by kernel_rfl) (HY b y),step_eq h2 (by kernel_rfl) (by kernel_rfl) (HY c z),step_eq h3 (by kernel_rfl) (by kernel_rfl) (ML d w)]
 cases decide (a=x)<;>cases decide (b=y)<;>cases decide (c=z)<;>cases (d==w)<;>rfl
theorem HQ(a b x y:Int)(d w:Bool):prun prog (Op.equal 217 (.agg ⟨[zv a,zv b, .bool d]⟩) (.agg ⟨[zv x,zv y, .bool w]⟩))=some (decide (a=x) && (decide (b=y) && (d==w))):=by
 have hm:(prog.fieldsOf 217).toList.map fx=[(true,3,0),(true,3,1),(true,4,2)]:=by kernel_rfl
 obtain⟨f0,f1,f3,hl,h0,h1,h3⟩:=MI hm
 have hs:prun prog (underlying 217)=some (.struct (prog.fieldsOf 217)):=by kernel_rfl
 show prun _ (Op.equalIn (9999+1) _ _ _)=_
 rw[lY _ _ _ _ _ hs (by kernel_rfl),hl,step_eq h0 (by kernel_rfl) (by kernel_rfl) (HY a x),step_eq h1 (by kernel_rfl) (by kernel_rfl) (HY b y),step_eq h3 (by kernel_rfl) (by kernel_rfl) (ML d w)]
 cases decide (a=x)<;>cases decide (b=y)<;>cases (d==w)<;>rfl
end Go.Proofs.Nw
namespace Go.Proofs.Nw
open Go Go.AV Tryz Go.iO
set_option maxRecDepth 100000
theorem By{P:Program}(d:Nat)(e sz:Nat)(xs ys:Array Value): ∀is:List Nat,
 prun P (Op.eqItems d e sz xs ys is)=match is with
  |[]=>some true
  |i::l=>(prun P (part e xs (i*sz))).bind fun a=>(prun P (part e ys (i*sz))).bind fun b=>(prun P (Op.equalIn d e a b)).bind fun r=>if r=true then prun P (Op.eqItems d e sz xs ys l) else some false
 |[]=>rfl
 |i::l=>by
  simp only[Op.eqItems,prun_bind]
  congr 1;funext a;congr 1;funext b;congr 1;funext r
  cases r<;>rfl
theorem Bz{P:Program}(d:Nat)(t:TypeId)(xs ys:Array Value)(n e sz:Nat)(ht:prun P (underlying t)=some (.array n e))(hs:prun P (sizeOf e)=some sz):
 prun P (Op.equalIn (d+1) t (.agg xs) (.agg ys))=prun P (Op.eqItems d e sz xs ys (List.range n)):=by
 simp only[Op.equalIn,prun_bind,ht,hs,Option.bind_some]
 simp only[Std.Legacy.Range.forIn_eq_forIn_range',Std.Legacy.Range.size,Nat.sub_zero,Nat.add_one_sub_one,Nat.div_one,List.range_eq_range']
 generalize List.range' 0 n 1=is
 induction is with
 |nil=>simp[Op.eqItems,prun_pure]
 |cons i is ih=>
  simp only[List.forIn_cons,Op.eqItems,prun_bind,y9]
  cases prun P (part e xs (i*sz)) with
  |none=>rfl
  |some a=>
   simp only[Option.bind_some]
   cases prun P (part e ys (i*sz)) with
   |none=>rfl
   |some b=>
    simp only[Option.bind_some]
    cases prun P (Op.equalIn d e a b) with
    |none=>rfl
    |some r=>
     cases r
     ·simp only[Option.bind_some,Bool.not_false,if_true,prun_pure]
     ·simp only[Option.bind_some,Bool.not_true,Bool.false_eq_true,if_false,prun_pure]
      exact ih
theorem O2(a b c d x y u w:Int):prun prog (Op.equal 72 (.agg ⟨[zv a,zv b,zv c,zv d]⟩) (.agg ⟨[zv x,zv y,zv u,zv w]⟩))=some (decide (a=x) && (decide (b=y) && (decide (c=u) && decide (d=w)))):=by
 have ht:prun prog (underlying 72)=some (.array 4 3):=by kernel_rfl
 have hs:prun prog (sizeOf 3)=some 1:=by kernel_rfl
 have p0: ∀a b c d:Int,prun prog (part 3 ⟨[zv a,zv b,zv c,zv d]⟩ (0*1))=some (zv a):=fun a b c d=>by kernel_rfl
 have p1: ∀a b c d:Int,prun prog (part 3 ⟨[zv a,zv b,zv c,zv d]⟩ (1*1))=some (zv b):=fun a b c d=>by kernel_rfl
 have p2: ∀a b c d:Int,prun prog (part 3 ⟨[zv a,zv b,zv c,zv d]⟩ (2*1))=some (zv c):=fun a b c d=>by kernel_rfl
 have p3: ∀a b c d:Int,prun prog (part 3 ⟨[zv a,zv b,zv c,zv d]⟩ (3*1))=some (zv d):=fun a b c d=>by kernel_rfl
 show prun _ (Op.equalIn (9999+1) _ _ _)=_
 rw[Bz _ _ _ _ _ _ _ ht hs,show List.range 4=[0,1,2,3] from rfl]
 simp only[By,p0,p1,p2,p3,HY,Option.bind_some,decide_eq_true_eq]
 by_cases h1:a=x<;>by_cases h2:b=y<;>by_cases h3:c=u<;>by_cases h4:d=w<;>simp[h1,h2,h3,h4]
abbrev jL(x:aE):Value:= .agg ⟨[zv x.fz1,zv x.fc,zv x.aq,zv x.tc]⟩
def lF(x y:aE):Bool:=decide (y.fz1=x.fz1) && (decide (y.fc=x.fc) && (decide (y.aq=x.aq) && decide (y.tc=x.tc)))
theorem SE(x:aE)(l:List aE):kE 72 (jL x) (l.map jL):=⟨fun k' hk'=>by
 obtain⟨y,_,rfl⟩:=List.mem_map.1 hk'
 refine⟨rfl,_,O2 _ _ _ _ _ _ _ _,?_⟩
 simp only[Bool.and_eq_true,decide_eq_true_eq,jL,Value.agg.injEq,Array.mk.injEq,List.cons.injEq,Value.int.injEq,true_and,and_true]⟩
theorem GM(x:aE)(l:List aE):jL x∈l.map jL↔l.any (lF x)=true:=by
 rw[List.mem_map,List.any_eq_true]
 simp only[lF,Bool.and_eq_true,decide_eq_true_eq,jL,Value.agg.injEq,Array.mk.injEq,List.cons.injEq,Value.int.injEq,true_and,and_true]
theorem Gx(l:List aE): ∀k,k∈l.map jL->au k=true:=fun k hk=>by
 obtain⟨t,_,rfl⟩:=List.mem_map.1 hk
 rfl
theorem OJ(a:Int)(l:List Int):kE 3 (zv a) (l.map fun x=>zv x):=⟨fun k' hk'=>by
 obtain⟨y,_,rfl⟩:=List.mem_map.1 hk'
 exact⟨rfl,_,HW _ _,by simp⟩⟩
theorem Db(a:Int)(l:List Int):zv a∈(l.map fun x=>zv x)↔a∈l:=by
 rw[List.mem_map]
 constructor
 ·rintro⟨y,h1,h2⟩;injection h2 with _ h2;rw[←h2];exact h1
 ·intro h;exact⟨a,h,rfl⟩
theorem Ea(l:List Int): ∀k,k∈(l.map fun x=>zv x)->au k=true:=fun k hk=>by
 obtain⟨t,_,rfl⟩:=List.mem_map.1 hk
 rfl
theorem Av: ∀(l m:List (Int × Int)) (i:Nat),iA i (l++m)=iA i l++iA (i+l.length) m
 |[],m,i=>rfl
 |(a,b)::l,m,i=>by
  simp only[List.cons_append,iA,Av l m (i+1),List.length_cons]
  rw[show i+1+l.length=i+(l.length+1) by omega]
theorem vQ(l:List (Int × Int))(a b:Int):aa.map (iA 0 l++[{key:=zv a,val:=zv b,born:=l.length}]) (l.length+1)=tN (l++[(a,b)]):=by
 unfold tN
 rw[Av,List.length_append]
 simp[iA]
theorem uj(σ:Nat->Option Nat): ∀(l:List (Int × Int)) (i:Nat),gp σ (iA i l)=some (iA i l)
 |[],_=>rfl
 |(a,b)::l,i=>by simp only[iA,gp,aT,uj σ l (i+1)]
theorem zD(σ:Nat->Option Nat)(l:List (Int × Int)):aG σ (tN l)=some (tN l):=by simp only[aG,uj]
def nq:List (Int × Int)->Int->Option Int
 |[],_=>none
 |(a,b)::l,x=>if x=a then some b else nq l x
theorem MK: ∀(l:List (Int × Int)) (i j:Nat) (a:Int),∃r:Option (Nat × Int),aA prog 3 (zv a) (iA j l) i=some (r.map fun p=>(p.1,zv p.2))/\r.map (·.2)=nq l a
 |[],i,j,a=>⟨none,rfl,rfl⟩
 |(x,b)::l,i,j,a=>by
  simp only[iA,aA,HW,nq]
  by_cases h:a=x
  ·simp only[h,decide_true,if_pos]
   exact⟨some (i,b),rfl,rfl⟩
  ·simp only[h,decide_false,if_neg,if_false]
   exact MK l (i+1) (j+1) a
theorem ED(l:List (Int × Int))(F T:Int)(h:nq l F=none):nq (l++[(F,T)])=ins (nq l) F T:=by
 funext x
 induction l with
 |nil=>rfl
 |cons p l ih=>
  obtain⟨a,b⟩:=p
  simp only[nq] at h
  split at h
  ·cases h
  ·rename_i hne
   simp only[List.cons_append,nq,ih h,ins]
   by_cases hx:x=a
   ·subst hx;simp[Ne.symm hne]
   ·simp[hx]
theorem Wd(l:List (Int × Int)):uQ (iA 0 l) (nq l):=⟨fun a=>MK l 0 0 a,fun σ c=>by simp only[aG,uj]⟩
end Go.Proofs.Nw
namespace Go.Proofs.Nw
open Go Go.AV Tryz
set_option maxHeartbeats 4000000
set_option maxRecDepth 100000
def Bi(k:Nat)(a:Option Addr)(n c len:Nat):Prop:=(a=none/\n=0/\c=0/\len=0)\/(a=some ⟨256*k+510,0,none⟩/\n=len)
def Rl(k:Nat)(a:Option Addr)(n c len:Nat):Prop:=Bi k a n c len\/((∃b o s,a=some ⟨b,o,some s⟩)/\n=0/\c=0/\len=0)
structure RunT where
 v:iM
 calls:List bm
def sameKey(y x:RunT):Bool:=(y.v.id.data==x.v.id.data) && (decide (y.v.day=x.v.day) && decide (y.v.inst=x.v.inst))
def Bt(ns:Nat)(x:RunT):Int:=(bD x.calls ns 0 3155932800).2
def dq(ns nr:Nat)(l:List RunT)(i:Nat):Option Int:=match l[i]? with
 |some x=>if bM x.v.id=false then some 12 else if x.v.u4< -1\/x.v.inst<0 then some 2 else if x.v.day<0\/36524<x.v.day then some 11
  else if x.v.je<0\/(nr:Int)<=x.v.je then some 9 else if Bt ns x≠0 then some (Bt ns x) else if (l.take i).any (fun y=>sameKey y x)=true then some 6 else none
 |none=>none
structure pT(z:T aa)(l:List RunT):Prop where
 JG:bW z 1 (l.map fun r=>r.v.row)
 sl: ∀(j:Nat)(r:RunT),l[j]? =some r->Rl (6+j) r.v.ca r.v.cn r.v.cc r.calls.length
 calls: ∀(j:Nat)(r:RunT),l[j]? =some r->bW z (6+j) (r.calls.map bm.row)
section
variable{z:T aa}{zn:Nat}
theorem IL(hz:ax z zn)(hg:eO prog z gP)(k:Nat)(l:List bm){a:Option Addr}{n c:Nat}(hs:Rl k a n c l.length)(ht:bW z k (l.map bm.row))(s lo hi:Int):
 A1 z zn 55 [.slice a n c,zv s,zv lo,zv hi] [] 0 0 (.tuple ⟨[zv (bD l s lo hi).1,zv (bD l s lo hi).2]⟩) []:=by
 rcases hs with (⟨rfl,rfl,rfl,h⟩|⟨rfl,rfl⟩)|⟨⟨b,o,sp,rfl⟩,rfl,rfl,h⟩
 rotate_left 2
 ·have hr:bD l s lo hi=(0,5):=if_pos (by omega)
  rw[hr]
  refine cS hg (fn:=f55) (by kernel_rfl) (by kernel_rfl) hz ⟨by decide,by decide⟩ rfl (Xd z zn b o sp s lo hi _ ?_)
  (repeat' first|(with_reducible first|exact rfl|assumption|apply And.intro)|exact q1)
 ·have hr:bD l s lo hi=(0,5):=if_pos (by omega)
  rw[hr]
  refine cS hg (fn:=f55) (by kernel_rfl) (by kernel_rfl) hz ⟨by decide,by decide⟩ rfl (Xc z zn s lo hi _ ?_)
  (repeat' first|(with_reducible first|exact rfl|assumption|apply And.intro)|exact q1)
 ·exact LU hz hg k l c ht s lo hi
theorem E7(hz:ax z zn)(hg:eO prog z gP)(k:Nat)(l:List bm){a:Option Addr}{n c:Nat}(hs:Rl k a n c l.length)(ht:bW z k (l.map bm.row))(s lo hi:Int):
 A1 z zn 64 [.slice a n c,zv s,zv lo,zv hi] [] 0 0 (zv (bD l s lo hi).2) []:=by
 rcases hs with (⟨rfl,rfl,rfl,h⟩|⟨rfl,rfl⟩)|⟨⟨b,o,sp,rfl⟩,rfl,rfl,h⟩
 rotate_left 2
 ·have hr:bD l s lo hi=(0,5):=if_pos (by omega)
  rw[hr]
  refine cS hg (fn:=f64) (by kernel_rfl) (by kernel_rfl) hz ⟨by decide,by decide⟩ rfl (W5 z zn b o sp s lo hi _ ?_)
  (repeat' first|(with_reducible first|exact rfl|assumption|apply And.intro)|exact q1)
 ·have hr:bD l s lo hi=(0,5):=if_pos (by omega)
  rw[hr]
  refine cS hg (fn:=f64) (by kernel_rfl) (by kernel_rfl) hz ⟨by decide,by decide⟩ rfl (W4 z zn s lo hi _ ?_)
  (repeat' first|(with_reducible first|exact rfl|assumption|apply And.intro)|exact q1)
 ·exact Iz hz hg k l c ht s lo hi
theorem Bi.FD{k:Nat}{a:Option Addr}{n c len:Nat}(h:Bi k a n c len)(σ:bk):aT (ay σ []) (.slice a n c)=some (.slice a n c):=by
 rcases h with ⟨rfl,rfl,rfl,_⟩|⟨rfl,_⟩
 ·rfl
 ·exact qg σ k n c
theorem Rl.FD{k:Nat}{a:Option Addr}{n c len:Nat}(h:Rl k a n c len)(σ:bk):aT (ay σ []) (.slice a n c)=some (.slice a n c):=by
 rcases h with h|⟨⟨b,o,s,rfl⟩,rfl,rfl,_⟩
 ·exact h.FD σ
 ·rfl
theorem kP{σ:Nat->Option Nat}{v:Value}{l:List Value}(h:aT σ v=some v)(k:br σ l=some l):br σ (v::l)=some (v::l):=by simp only[br,h,k]
theorem OI(x:RunT)(l:List RunT):kE 119 x.v.key (l.map fun y=>y.v.key):=⟨fun k' hk'=>by
 obtain⟨y,_,rfl⟩:=List.mem_map.1 hk'
 refine⟨rfl,_,OZ _ _ _ _ _ _,?_⟩
 simp only[Bool.and_eq_true,decide_eq_true_eq,jt]
 constructor
 ·rintro⟨h1,h2,h3⟩
  show Value.agg _=Value.agg _
  rw[h1,h2,h3]
 ·intro h
  have h:iM.key x.v=iM.key y.v:=h
  simp only[iM.key,Value.agg.injEq,Array.mk.injEq,List.cons.injEq,Value.string.injEq,Value.int.injEq,true_and,and_true] at h
  exact h⟩
theorem mem_keys(x:RunT)(l:List RunT):x.v.key∈(l.map fun y=>y.v.key)↔l.any (fun y=>sameKey y x)=true:=by
 rw[List.mem_map,List.any_eq_true]
 constructor
 ·rintro⟨y,h1,h2⟩
  refine⟨y,h1,?_⟩
  have h:iM.key y.v=iM.key x.v:=h2
  simp only[iM.key,Value.agg.injEq,Array.mk.injEq,List.cons.injEq,Value.string.injEq,Value.int.injEq,true_and,and_true] at h
  simp only[sameKey,Bool.and_eq_true,decide_eq_true_eq,jt]
  exact h
 ·rintro⟨y,h1,h2⟩
  refine⟨y,h1,?_⟩
  simp only[sameKey,Bool.and_eq_true,decide_eq_true_eq,jt] at h2
  show Value.agg _=Value.agg _
  rw[h2.1,h2.2.1,h2.2.2]
theorem BA(l:List RunT): ∀k,k∈(l.map fun y=>y.v.key)->au k=true:=fun k hk=>by
 obtain⟨t,_,rfl⟩:=List.mem_map.1 hk
 rfl
theorem OF(hz:ax z zn)(hg:eO prog z gP)(N:aJ)(l:List RunT)(hl:l.length<100000)(hN:N.nu=l.length)(hZ:pT z l)(hnet: ∀σ:bk,aG (ay σ []) N.jr=some N.jr)(r:Int × Int)(hr:scan (dq N.ns N.nr l) l.length 0=r):
 ai prog (ah (ag f26) 0) 3 96 (Qr N.nu N.uc 0) [(0,N.jr),(1,cW 0 0 0),(2,bd [])] 3 z zn (Al.R (Zn z zn N (if r.2=0 then 0 else 2) r.1 r.2).l):=by
 refine an hD hg (α:=Nat) 3 96 3 (fun i=>i<=l.length/\scan (dq N.ns N.nr l) (l.length - i) i=r) (fun i=>Qr N.nu N.uc i) (fun i=>[(0,N.jr),(1,cW 0 0 0),(2,bd ((l.take i).map fun y=>y.v.key))]) (fun _=>z) (fun _=>zn) (fun i=>l.length - i) _ (fun i hI=>?_) 0 ⟨Nat.zero_le _,hr⟩
 obtain⟨h1,h2⟩:=hI
 by_cases hi:i<l.length
 ·obtain⟨e,he⟩:=hZ.JG.ak (i:=i) (by simpa using hi)
  obtain⟨x,hx⟩:=ez hi
  have hid:=TQ (hZ.JG.sz (i:=i) (r:=x.v.row) (s:=x.v.id) (by rw[List.getElem?_map,hx];rfl) (by simp))
  have hlen:=aM (row:=fun r:RunT=>r.v.row) (sz:=8) l fun _=>rfl
  have hrow:aC prog (bc e (l.map fun r=>r.v.row).flatten) 38 (0+i*8)=some (.agg ⟨x.v.row⟩):=bC (r:=x.v.row) (sz:=8) underlying38 rfl rfl hlen (by rw[List.getElem?_map,hx];rfl)
  have hk:=OI x (l.take i)
  have hps:=BA (l.take i)
  have hany:=mem_keys x (l.take i)
  have hsl:=(hZ.sl i x hx).FD
  have hcalls:=IL hz hg (6+i) x.calls (hZ.sl i x hx) (hZ.calls i x hx) N.ns 0 3155932800
  have hargs:br (sig []) [.slice x.v.ca x.v.cn x.v.cc,iv N.ns,I 0,I 3155932800]=some [.slice x.v.ca x.v.cn x.v.cc,iv N.ns,I 0,I 3155932800]:=by
   have:=hsl []
   rw[yJ] at this
   exact kP this rfl
  have hbad:dq N.ns N.nr l i=if bM x.v.id=false then some 12 else if x.v.u4< -1\/x.v.inst<0 then some 2 else if x.v.day<0\/36524<x.v.day then some 11
   else if x.v.je<0\/(N.nr:Int)<=x.v.je then some 9 else if (bD x.calls N.ns 0 3155932800).2≠0 then some (bD x.calls N.ns 0 3155932800).2 else if (l.take i).any (fun y=>sameKey y x)=true then some 6 else none:=by
   unfold dq;rw[hx];rfl
  have hc:decide ((i:Int)<(N.nu:Int))=true:=by simp;omega
  have ret: ∀e:Int,dq N.ns N.nr l i=some e->e≠0->Al.R (Zn z zn N (if r.2=0 then 0 else 2) r.1 r.2).l ⟨.ret,[(2,ip 1)],[(1,cW 2 i e)],3,z,zn⟩:=fun e h h0=>by
   have:r=((i:Int),e):=by rw[←h2,c9 hi h]
   rw[this]
   simp only[if_neg h0]
   exact bw trivial
  refine t100 (ru z zn i N (bc e (l.map fun r=>r.v.row).flatten) x.v ((l.take i).map fun y=>y.v.key) (bD x.calls N.ns 0 3155932800).1 (bD x.calls N.ns 0 3155932800).2 (aj _ _ _ _ _ _ _ _ _) ⟨fun _=>?_,nC1 hc⟩)
  (repeat' first|(with_reducible first|exact rfl|assumption|apply And.intro|exact(by omega:i<N.nu)|exact hk.no|exact hk.ex|exact gZ _ hps rfl|exact bK (by omega))|exact(rfl:gP _ _=_)|exact hcalls|exact hnet _|intro hq)
  all_goals try (have hm:=hk.Dk (by with_reducible assumption);rw[hany] at hm)
  all_goals try (have hm:=hk.Jk (by with_reducible assumption);rw[hany] at hm)
  all_goals clear hk hps hrow hany he hz hr hnet hZ hargs hsl hlen
  all_goals first
   |(refine ret _ ?_ (by decide);clear ret h2 hcalls;rw[hbad];clear hbad;(repeat' split)<;>first|rfl|(exfalso;simp only[decide_eq_true_eq,decide_eq_false_iff_not,Bool.not_eq_true',Bool.not_eq_false',bS2] at*;omega)|(exfalso;simp_all;done))
   |(refine ret _ ?_ (by simpa using hq);clear ret h2 hcalls;rw[hbad];clear hbad;(repeat' split)<;>first|rfl|(exfalso;simp only[decide_eq_true_eq,decide_eq_false_iff_not,Bool.not_eq_true',Bool.not_eq_false',bS2] at*;omega)|(exfalso;simp_all;done))
   |(have hb:dq N.ns N.nr l i=none:=by
      clear ret h2 hcalls
      rw[hbad,if_neg (by simp_all),if_neg (by simp only[decide_eq_false_iff_not] at*;omega),if_neg (by simp only[decide_eq_false_iff_not] at*;omega),if_neg (by simp only[decide_eq_false_iff_not] at*;omega),if_neg (by simp_all),if_neg hm]
     refine⟨i+1,rfl,?_,rfl,rfl,rfl,⟨hi,by rw[←cI hi hb];exact h2⟩,by show l.length - (i+1)<l.length - i;omega⟩
     rw[ff]
     show _=[(0,N.jr),(1,cW 0 0 0),(2,bd ((l.take (i+1)).map fun y=>y.v.key))]
     rw[List.take_add_one,hx]
     simp)
 ·have hc:decide ((i:Int)<(N.nu:Int))=false:=by simp;omega
  refine t100 (ru z zn i N ⟨[],0,0,0,true,true,0,true⟩ ⟨0,0,0,⟨#[]⟩,0,true,true,none,0,0⟩ ((l.take i).map fun y=>y.v.key) 0 0 (aj _ _ _ _ _ _ _ _ _) ⟨nC1 hc,fun _=>?_⟩)
  (repeat' first|(with_reducible first|exact rfl|assumption|apply And.intro))
  rw[dy (by omega)] at h2
  refine du (bw ?_)
  rw[←h2]
  exact⟨rfl,rfl,rfl⟩
def cY(ns nr:Nat)(l:List RunT):Int × Int:=if 1024<l.length then (0,5) else scan (dq ns nr l) l.length 0
theorem PF(hz:ax z zn)(hg:eO prog z gP)(N:aJ)(l:List RunT)(hN:N.nu=l.length)(hZ:pT z l)(hnet: ∀σ:bk,aG (ay σ []) N.jr=some N.jr):
 A1 z zn 26 [.agg ⟨N.uu⟩] [] 0 0 (.agg ⟨[zv (if (cY N.ns N.nr l).2=0 then 0 else 2),zv (cY N.ns N.nr l).1,zv (cY N.ns N.nr l).2]⟩) []:=by
 refine cS hg (fn:=f26) (by kernel_rfl) (by kernel_rfl) hz ⟨by decide,by decide⟩ rfl (fu z zn N (if (cY N.ns N.nr l).2=0 then 0 else 2) (cY N.ns N.nr l).1 (cY N.ns N.nr l).2 _ ?_)
 by_cases h:1024<l.length
 ·have hr:cY N.ns N.nr l=(0,5):=if_pos h
  have hc:decide ((N.nu:Int)>1024)=true:=by simp;omega
  rw[hr]
  refine⟨fun _=>?_,nC1 hc⟩
  (repeat' first|(with_reducible first|exact rfl|assumption|apply And.intro)|exact(rfl:gP _ _=_)|exact q1)
 ·have hr:cY N.ns N.nr l=scan (dq N.ns N.nr l) l.length 0:=if_neg h
  have hc:decide ((N.nu:Int)>1024)=false:=by simp;omega
  have hL:=OF hz hg N l (by omega) hN hZ hnet (cY N.ns N.nr l) hr.symm
  refine⟨nC1 hc,fun _=>?_⟩
  (repeat' first|(with_reducible first|exact rfl|assumption|apply And.intro|exact q1)|exact hL|exact hnet _|intro hq)
  all_goals first|(rw[hq.1,hq.2.1,hq.2.2];exact q1)|trace_state
end
theorem yO{σ:Nat->Option Nat}(x:iM)(h:aT σ (.slice x.ca x.cn x.cc)=some (.slice x.ca x.cn x.cc)):aG σ (oT x)=some (oT x):=by
 have hr:br σ x.row=some x.row:=by
  unfold iM.row
  repeat (first|exact kP h rfl|refine kP rfl ?_)
 simp only[aG,hr]
section
variable{z:T aa}{zn:Nat}
theorem Kz(hz:ax z zn)(hg:eO prog z gP)(N:aJ)(l:List RunT)(hl:l.length<100000)(hN:N.nu=l.length)(hZ:pT z l)(hnet: ∀σ:bk,aG (ay σ []) N.jr=some N.jr)(i:Nat)(x:RunT)(hx:l[i]? =some x)(b:Bool)(hb:b=(l.take i).any fun y=>sameKey y x):
 ai prog (ah (ag f34) 0) 2 79 (zI i 0) [(0,N.jr),(1,oT x.v)] 2 z zn (Al.R (Sd z zn i N x.v b).l):=by
 have hil:i<l.length:=(List.getElem?_eq_some_iff.1 hx).1
 have hsl:=(hZ.sl i x hx).FD
 have hrun: ∀σ:bk,aG (ay σ []) (oT x.v)=some (oT x.v):=fun σ=>yO x.v (hsl σ)
 refine an hD hg (α:=Nat) 2 79 2 (fun k=>k<=i/\((l.take k).any fun y=>sameKey y x)=false) (fun k=>zI i k) (fun _=>[(0,N.jr),(1,oT x.v)]) (fun _=>z) (fun _=>zn) (fun k=>i - k) _ (fun k hI=>?_) 0 ⟨Nat.zero_le _,rfl⟩
 obtain⟨h1,h2⟩:=hI
 by_cases hk:k<i
 ·obtain⟨e,he⟩:=hZ.JG.ak (i:=k) (by simp;omega)
  obtain⟨y,hy⟩:=ez (l:=l) (i:=k) (by omega)
  have hlen:=aM (row:=fun r:RunT=>r.v.row) (sz:=8) l fun _=>rfl
  have hrow:aC prog (bc e (l.map fun r=>r.v.row).flatten) 38 (0+k*8)=some (.agg ⟨y.v.row⟩):=bC (r:=y.v.row) (sz:=8) underlying38 rfl rfl hlen (by rw[List.getElem?_map,hy];rfl)
  have hc:decide ((k:Int)<(i:Int))=true:=by simp;omega
  have hsame:sameKey y x=((y.v.id.toList==x.v.id.toList) && ((y.v.day==x.v.day) && (y.v.inst==x.v.inst))):=by
   rw[oC];rfl
  have jC:sameKey y x=false->aj (fun k=>k<=i/\((l.take k).any fun y=>sameKey y x)=false) (fun k=>zI i k) (fun _=>[(0,N.jr),(1,oT x.v)]) 2 (fun _=>z) (fun _=>zn) (fun k=>i - k) (Al.R (Sd z zn i N x.v b).l) k .normal (zI i (k+1)) [(0,N.jr),(1,oT x.v)] 2 z zn:=fun h=>
   ⟨k+1,rfl,rfl,rfl,rfl,rfl,⟨hk,by rw[ju hy,h2,h];rfl⟩,by show i - (k+1)<i - k;omega⟩
  refine t100 (X6 z zn i k N (bc e (l.map fun r=>r.v.row).flatten) x.v y.v (aj _ _ _ _ _ _ _ _ _) ⟨fun _=>?_,nC1 hc⟩)
  (repeat' first|(with_reducible first|exact rfl|assumption|apply And.intro|exact(by omega:k<N.nu)|exact bK (by omega))|exact hnet _|exact hrun _|intro hq)
  all_goals first
   |(refine jC ?_;rw[hsame];simp_all;done)
   |(refine bw ?_;rw[hb];refine any_true hy hk ?_;rw[hsame];simp_all;done)
 ·have hc:decide ((k:Int)<(i:Int))=false:=by simp;omega
  refine t100 (X6 z zn i k N ⟨[],0,0,0,true,true,0,true⟩ x.v x.v (aj _ _ _ _ _ _ _ _ _) ⟨nC1 hc,fun _=>?_⟩)
  (repeat' first|(with_reducible first|exact rfl|assumption|apply And.intro))
  refine du (bw ?_)
  rw[hb,←h2,show k=i by omega]
theorem PG(hz:ax z zn)(hg:eO prog z gP)(N:aJ)(l:List RunT)(hl:l.length<100000)(hN:N.nu=l.length)(hZ:pT z l)(hnet: ∀σ:bk,aG (ay σ []) N.jr=some N.jr)(i:Nat)(hi:i<l.length):
 A1 z zn 34 [.agg ⟨N.uu⟩,iv i] [] 0 0 (zv ((dq N.ns N.nr l i).getD 0)) []:=by
 obtain⟨e,he⟩:=hZ.JG.ak (i:=i) (by simpa using hi)
 obtain⟨x,hx⟩:=ez hi
 have hid:=TO (hZ.JG.sz (i:=i) (r:=x.v.row) (s:=x.v.id) (by rw[List.getElem?_map,hx];rfl) (by simp))
 have hlen:=aM (row:=fun r:RunT=>r.v.row) (sz:=8) l fun _=>rfl
 have hrow:aC prog (bc e (l.map fun r=>r.v.row).flatten) 38 (0+i*8)=some (.agg ⟨x.v.row⟩):=bC (r:=x.v.row) (sz:=8) underlying38 rfl rfl hlen (by rw[List.getElem?_map,hx];rfl)
 have hsl:=(hZ.sl i x hx).FD
 have hrun: ∀σ:bk,aG (ay σ []) (oT x.v)=some (oT x.v):=fun σ=>yO x.v (hsl σ)
 have hcalls:=E7 hz hg (6+i) x.calls (hZ.sl i x hx) (hZ.calls i x hx) N.ns 0 3155932800
 have hargs:br (sig []) [.slice x.v.ca x.v.cn x.v.cc,iv N.ns,I 0,I 3155932800]=some [.slice x.v.ca x.v.cn x.v.cc,iv N.ns,I 0,I 3155932800]:=by
  have:=hsl []
  rw[yJ] at this
  exact kP this rfl
 have hL:=Kz hz hg N l hl hN hZ hnet i x hx _ rfl
 have hbad:dq N.ns N.nr l i=if bM x.v.id=false then some 12 else if x.v.u4< -1\/x.v.inst<0 then some 2 else if x.v.day<0\/36524<x.v.day then some 11
  else if x.v.je<0\/(N.nr:Int)<=x.v.je then some 9 else if (bD x.calls N.ns 0 3155932800).2≠0 then some (bD x.calls N.ns 0 3155932800).2 else if (l.take i).any (fun y=>sameKey y x)=true then some 6 else none:=by
  unfold dq;rw[hx];rfl
 generalize ((l.take i).any fun y=>sameKey y x)=b at hL hbad
 generalize (bD x.calls N.ns 0 3155932800).2=ce at hcalls hbad
 refine cS hg (fn:=f34) (by kernel_rfl) (by kernel_rfl) hz ⟨by decide,by decide⟩ rfl (WY z zn i N (bc e (l.map fun r=>r.v.row).flatten) x.v ce b _ ?_)
 (repeat' first|(with_reducible first|exact rfl|assumption|apply And.intro|exact(by omega:i<N.nu))|exact(rfl:gP _ _=_)|exact hcalls|exact hL|exact hnet _|exact hrun _|intro hq)
 all_goals clear hL hcalls hrow he hz hnet hZ hargs hsl hlen hrun
 all_goals first
  |(have hv:(dq N.ns N.nr l i).getD 0=12:=by(rw[hbad];clear hbad;(repeat' split)<;>first|rfl|(exfalso;simp only[bS1,bS2] at*;omega)|(exfalso;simp_all;done))
    rw[hv];exact q1)
  |(have hv:(dq N.ns N.nr l i).getD 0=2:=by(rw[hbad];clear hbad;(repeat' split)<;>first|rfl|(exfalso;simp only[bS1,bS2] at*;omega)|(exfalso;simp_all;done))
    rw[hv];exact q1)
  |(have hv:(dq N.ns N.nr l i).getD 0=11:=by(rw[hbad];clear hbad;(repeat' split)<;>first|rfl|(exfalso;simp only[bS1,bS2] at*;omega)|(exfalso;simp_all;done))
    rw[hv];exact q1)
  |(have hv:(dq N.ns N.nr l i).getD 0=9:=by(rw[hbad];clear hbad;(repeat' split)<;>first|rfl|(exfalso;simp only[bS1,bS2] at*;omega)|(exfalso;simp_all;done))
    rw[hv];exact q1)
  |(have hv:(dq N.ns N.nr l i).getD 0=6:=by(rw[hbad];clear hbad;(repeat' split)<;>first|rfl|(exfalso;simp only[bS1,bS2] at*;omega)|(exfalso;simp_all;done))
    rw[hv];exact q1)
  |(have hv:(dq N.ns N.nr l i).getD 0=0:=by(rw[hbad];clear hbad;(repeat' split)<;>first|rfl|(exfalso;simp only[bS1,bS2] at*;omega)|(exfalso;simp_all;done))
    rw[hv];exact q1)
  |(have hv:(dq N.ns N.nr l i).getD 0=ce:=by(rw[hbad];clear hbad;(repeat' split)<;>first|rfl|(exfalso;simp only[bS1,bS2] at*;omega)|(exfalso;simp_all;done))
    rw[hv];exact q1)
end
end Go.Proofs.Nw
namespace Go.Proofs.Nw
open Go Go.AV Tryz Go.iO
set_option maxRecDepth 100000
def stays(l:List aE):List (Int × Int):=(l.filter (·.stay)).map fun x=>(x.fz1,x.aq)
def Ce(x y:aE):Bool:=y.stay && ((y.fz1==x.fz1)||(y.aq==x.aq))
def ja(U:List RunT)(f:Int):Nat:=match U[f.toNat]? with|some r=>r.calls.length|none=>0
def kg(U:List RunT)(f c:Int):Int:=match U[f.toNat]? with|some r=>(match r.calls[c.toNat]? with|some x=>x.stop|none=>0)|none=>0
def ib(U:List RunT)(L:List aE)(i:Nat)(x:aE):Int:=
 if x.fz1<0\/(U.length:Int)<=x.fz1\/x.aq<0\/(U.length:Int)<=x.aq\/x.fz1=x.aq then 9
 else if x.fc<0\/(ja U x.fz1:Int)<=x.fc\/x.tc<0\/(ja U x.aq:Int)<=x.tc then 9
 else if kg U x.fz1 x.fc≠kg U x.aq x.tc then 13
 else if x.stay=true/\(x.fc+1≠ja U x.fz1\/x.tc≠0) then 19
 else if x.stay=true/\(L.take i).any (Ce x)=true then 19
 else if x.stay=true/\dz (gb (stays (L.take i))) x.fz1 (i+1) x.aq=true then 19
 else if (L.take i).any (lF x)=true then 6 else 0
def eJ(U:List RunT)(L:List aE)(i:Nat):Option Int:=match L[i]? with
 |some x=>if ib U L i x=0 then none else some (ib U L i x)
 |none=>none
def bF(U:List RunT)(L:List aE):Int × Int:=if 1024<L.length then (0,5) else scan (eJ U L) L.length 0
theorem kH(l:List aE)(x:aE):stays (l++[x])=if x.stay=true then stays l++[(x.fz1,x.aq)] else stays l:=by
 unfold stays
 rw[List.filter_append]
 cases h:x.stay<;>simp[h]
theorem EF{l:List (Int × Int)}{a:Int}:nq l a=none↔ ∀p∈l,p.1≠a:=by
 induction l with
 |nil=>simp[nq]
 |cons p l ih=>
  obtain⟨x,b⟩:=p
  simp only[nq]
  by_cases h:a=x
  ·simp[h]
  ·simp only[if_neg h,ih,List.mem_cons,forall_eq_or_imp]
   exact⟨fun k=>⟨fun e=>h e.symm,k⟩,fun k=>k.2⟩
theorem DG(l:List aE)(x:aE):l.any (Ce x)=false↔nq (stays l) x.fz1=none/\x.aq ∉ (stays l).map (·.2):=by
 rw[EF]
 unfold stays
 simp only[List.any_eq_false,Ce,Bool.and_eq_true,Bool.or_eq_true,beq_iff_eq,List.mem_map,List.mem_filter,not_and,not_or,not_exists,forall_exists_index,and_imp]
 constructor
 ·intro h
  exact⟨fun p y h1 h2 h3 e=>(h y h1 h2).1 (by subst h3;exact e),fun p y h1 h2 h3 e=>(h y h1 h2).2 (by subst h3;exact e)⟩
 ·rintro⟨h1,h2⟩ y hy hs
  exact⟨fun e=>h1 _ y hy hs rfl e,fun e=>h2 _ y hy hs rfl e⟩
structure ym(l:List aE):Prop where
 eq:nq (stays l)=gb (stays l)
 dep: ∀f,∃d,vp (gb (stays l)) f d
 pos: ∀p∈stays l,0<=p.1
theorem GF:ym []:=⟨rfl,fun f=>⟨0, .nil rfl⟩,fun p hp=>by cases hp⟩
theorem ym.neg{l:List aE}(h:ym l):gb (stays l) (-1)=none:=by
 cases hc:gb (stays l) (-1) with
 |none=>rfl
 |some a=>have:=h.pos _ (vK hc);simp at this
theorem DZ(l:List aE):(stays l).length<=l.length:=by
 unfold stays;rw[List.length_map];exact List.length_filter_le _ _
theorem ym.leads{l:List aE}(h:ym l){a b:Int}(hb:0<=b){n:Nat}(hn:l.length<=n):dz (gb (stays l)) b (n+1) a=true↔jy (gb (stays l)) b a:=by
 obtain⟨d,hd⟩:=h.dep a
 refine BX hb h.neg hd _ ?_
 have:=hd.KU ((stays l).map (·.1)) fun x hx=>Ka hx
 rw[List.length_map] at this
 have:=DZ l
 omega
theorem ym.snoc{l:List aE}(h:ym l){U:List RunT}{L:List aE}{i:Nat}{x:aE}(hl:l=L.take i)(hi:i<=L.length)(he:ib U L i x=0):ym (l++[x]):=by
 cases hs:x.stay with
 |false=>
  have e:stays (l++[x])=stays l:=by rw[kH,hs];rfl
  exact⟨by rw[e];exact h.eq,by rw[e];exact h.dep,by rw[e];exact h.pos⟩
 |true=>
  have e:stays (l++[x])=stays l++[(x.fz1,x.aq)]:=by rw[kH,hs];rfl
  unfold ib at he
  split at he
  ·cases he
  rename_i c1
  split at he
  ·cases he
  rename_i c2
  split at he
  ·cases he
  split at he
  ·cases he
  split at he
  ·cases he
  rename_i c5
  split at he
  ·cases he
  rename_i c6
  rw[hs] at c5 c6
  have c5:(L.take i).any (Ce x)=false:=by simpa using c5
  rw[←hl] at c5 c6
  obtain⟨h1,h2⟩:=(DG l x).1 c5
  have hn:gb (stays l) x.fz1=none:=by rw[←h.eq];exact h1
  have hlen:l.length<=i:=by rw[hl,List.length_take];omega
  have hnl: ¬jy (gb (stays l)) x.fz1 x.aq:=fun k=>c6 ⟨rfl,(h.leads (by omega) hlen).2 k⟩
  refine⟨?_,?_,?_⟩
  ·rw[e,ED _ _ _ h1,mT,h.eq]
  ·rw[e,mT]
   exact Ln h.dep hn (by omega) hnl
  ·rw[e]
   intro p hp
   rcases List.mem_append.1 hp with q|q
   ·exact h.pos p q
   ·simp at q;subst q;simp;omega
theorem vJ(U:List RunT)(L:List aE): ∀k,k<=L.length->(∀j,j<k->eJ U L j=none)->ym (L.take k)
 |0,_,_=>GF
 |k+1,hk,h=>by
  obtain⟨x,hx⟩:=ez (l:=L) (i:=k) (by omega)
  rw[List.take_add_one,hx]
  refine(vJ U L k (by omega) fun j hj=>h j (by omega)).snoc (U:=U) rfl (by omega) ?_
  have:=h k (by omega)
  unfold eJ at this
  rw[hx] at this
  simpa using this
end Go.Proofs.Nw
namespace Go.Proofs.Nw
open Go Go.AV Tryz Go.iO
set_option maxHeartbeats 4000000
set_option maxRecDepth 100000
def A9(L:List aE)(k:Nat)(f:Int):Int:=(gb (stays (L.take k)) f).getD (-1)
theorem GJ{L:List aE}{k:Nat}{y:aE}(hy:L[k]? =some y)(f:Int):A9 L (k+1) f=if y.stay=true/\y.fz1=f then y.aq else A9 L k f:=by
 unfold A9
 rw[List.take_add_one,hy]
 show(gb (stays (L.take k++[y])) f).getD (-1)=_
 rw[kH]
 cases hs:y.stay with
 |false=>simp
 |true=>
  simp only[if_true,mT,ins]
  by_cases h:f=y.fz1
  ·simp[h]
  ·simp[h,Ne.symm h]
section
variable{z:T aa}{zn:Nat}
theorem G3(hz:ax z zn)(hg:eO prog z gP)(N:aJ)(L:List aE)(hl:L.length<100000)(hN:N.nl=L.length)(hL:bW z 0 (L.map aE.row))(hnet: ∀σ:bk,aG (ay σ []) (N.cf N.u0 N.l1)=some (N.cf N.u0 N.l1))(i j:Nat)(hi:i<=L.length)(f tt:Int):
 ai prog (ah (ah (ag f65) 0) 0) 1 48 (qT i f tt j (-1) 0) [(0,N.cf N.u0 N.l1)] 1 z zn (Al.R (MH z zn N i f tt j (A9 L i f) (-1)).l):=by
 refine an hD hg (α:=Nat) 1 48 1 (fun k=>k<=i) (fun k=>qT i f tt j (A9 L k f) k) (fun _=>[(0,N.cf N.u0 N.l1)]) (fun _=>z) (fun _=>zn) (fun k=>i - k) _ (fun k hk=>?_) 0 (Nat.zero_le _)
 by_cases h:k<i
 ·obtain⟨e,he⟩:=hL.ak (i:=k) (by simp;omega)
  obtain⟨y,hy⟩:=ez (l:=L) (i:=k) (by omega)
  have hlen:=aM (row:=aE.row) (sz:=5) L fun _=>rfl
  have hrow:(L.map aE.row)[k]? =some y.row:=by rw[List.getElem?_map,hy];rfl
  have r4:aC prog (bc e (L.map aE.row).flatten) 4 (0+k*5+4)=some (.bool y.stay):=aX underlying4 rfl hlen hrow rfl
  have r0:aC prog (bc e (L.map aE.row).flatten) 3 (0+k*5+0)=some (zv y.fz1):=aX underlying3 rfl hlen hrow rfl
  have r2:aC prog (bc e (L.map aE.row).flatten) 3 (0+k*5+2)=some (zv y.aq):=aX underlying3 rfl hlen hrow rfl
  have hn:=GJ hy f
  have hc:decide ((k:Int)<(i:Int))=true:=by simp;omega
  have jC: ∀m:Int,A9 L (k+1) f=m->aj (fun k=>k<=i) (fun k=>qT i f tt j (A9 L k f) k) (fun _=>[(0,N.cf N.u0 N.l1)]) 1 (fun _=>z) (fun _=>zn) (fun k=>i - k) (Al.R (MH z zn N i f tt j (A9 L i f) (-1)).l) k .normal (qT i f tt j m (k+1)) [(0,N.cf N.u0 N.l1)] 1 z zn:=fun m hm=>
   ⟨k+1,by rw[←hm],rfl,rfl,rfl,rfl,(by omega:k+1<=i),by show i - (k+1)<i - k;omega⟩
  refine t100 (Za z zn i k j N (bc e (L.map aE.row).flatten) y f tt (A9 L k f) (aj _ _ _ _ _ _ _ _ _) ⟨fun _=>?_,nC1 hc⟩)
  (repeat' first|(with_reducible first|exact rfl|assumption|apply And.intro|exact(by omega:k<N.nl)|exact bK (by omega))|exact hnet _|intro hq)
  all_goals (refine jC _ ?_;rw[hn];simp_all;done)
 ·have hc:decide ((k:Int)<(i:Int))=false:=by simp;omega
  refine t100 (Za z zn i k j N ⟨[],0,0,0,true,true,0,true⟩ ⟨0,0,0,0,true⟩ f tt (A9 L k f) (aj _ _ _ _ _ _ _ _ _) ⟨nC1 hc,fun _=>?_⟩)
  (repeat' first|(with_reducible first|exact rfl|assumption|apply And.intro)|exact hnet _)
  rw[show k=i by omega]
  exact bw trivial
theorem Hj(nx:Int->Option Int)(t:Int): ∀(n:Nat)(f:Int),dz nx t (n+1) f=if (nx f).getD (-1)=t then true else dz nx t n ((nx f).getD (-1)):=fun _ _=>rfl
theorem Ky(hz:ax z zn)(hg:eO prog z gP)(N:aJ)(L:List aE)(hl:L.length<100000)(hN:N.nl=L.length)(hL:bW z 0 (L.map aE.row))(hnet: ∀σ:bk,aG (ay σ []) (N.cf N.u0 N.l1)=some (N.cf N.u0 N.l1))(i:Nat)(hi:i<=L.length)(f tt:Int)(b:Bool)(hb:b=dz (gb (stays (L.take i))) tt (i+1) f):
 ai prog (ah (ag f65) 0) 1 48 (Ej i f tt 0) [(0,N.cf N.u0 N.l1)] 1 z zn (Al.R (Wh z zn N i f tt b).l):=by
 refine an hD hg (α:=Nat × Int) 1 48 1 (fun x=>x.1<=i+1/\b=dz (gb (stays (L.take i))) tt (i+1 - x.1) x.2) (fun x=>Ej i x.2 tt x.1) (fun _=>[(0,N.cf N.u0 N.l1)]) (fun _=>z) (fun _=>zn) (fun x=>i+1 - x.1) _ (fun x hx=>?_) (0,f) ⟨Nat.zero_le _,hb⟩
 obtain⟨j,f⟩:=x
 obtain⟨h1,h2⟩:=hx
 simp only at h1 h2
 by_cases h:j<=i
 ·have hc:decide ((j:Int)<=(i:Int))=true:=by simp;omega
  have hin:=G3 hz hg N L hl hN hL hnet i j hi f tt
  rw[show i+1 - j=(i - j)+1 by omega,Hj] at h2
  refine t100 (Zb z zn i j N (A9 L i f) f tt (aj _ _ _ _ _ _ _ _ _) ⟨fun _=>?_,nC1 hc⟩)
  (repeat' first|(with_reducible first|exact rfl|assumption|apply And.intro|exact bK (by omega))|exact hin|exact hnet _|intro hq)
  all_goals first
   |(refine bw ?_
     have e:A9 L i f=tt:=by simp_all
     unfold A9 at e
     rw[h2,if_pos e];done)
   |(have e:A9 L i f≠tt:=by simp_all
     unfold A9 at e
     rw[if_neg e] at h2
     exact⟨(j+1,A9 L i f),rfl,rfl,rfl,rfl,rfl,⟨by show j+1<=i+1;omega,by show b=dz _ _ (i+1 - (j+1)) _;rw[h2,show i+1 - (j+1)=i - j by omega];rfl⟩,by show i+1 - (j+1)<i+1 - j;omega⟩)
 ·have hc:decide ((j:Int)<=(i:Int))=false:=by simp;omega
  refine t100 (Zb z zn i j N 0 f tt (aj _ _ _ _ _ _ _ _ _) ⟨nC1 hc,fun _=>?_⟩)
  (repeat' first|(with_reducible first|exact rfl|assumption|apply And.intro))
  refine du (bw ?_)
  rw[h2,show i+1 - j=0 by omega];rfl
theorem Iw(hz:ax z zn)(hg:eO prog z gP)(N:aJ)(L:List aE)(hl:L.length<100000)(hN:N.nl=L.length)(hL:bW z 0 (L.map aE.row))(hnet: ∀σ:bk,aG (ay σ []) (N.cf N.u0 N.l1)=some (N.cf N.u0 N.l1))(i:Nat)(hi:i<=L.length)(f tt:Int):
 A1 z zn 65 [.agg ⟨N.dR N.u0 N.l1⟩,iv i,zv f,zv tt] [] 0 0 (.bool (dz (gb (stays (L.take i))) tt (i+1) f)) []:=by
 have h:=Ky hz hg N L hl hN hL hnet i hi f tt _ rfl
 refine cS hg (fn:=f65) (by kernel_rfl) (by kernel_rfl) hz ⟨by decide,by decide⟩ rfl (frl z zn i N f tt (dz (gb (stays (L.take i))) tt (i+1) f) _ ?_)
 (repeat' first|(with_reducible first|exact rfl|assumption|apply And.intro)|exact h|exact hnet _|intro hq)
 all_goals first
  |(have e:dz (gb (stays (L.take i))) tt (i+1) f=true:=by assumption
    rw[e];exact q1)
  |(have e:dz (gb (stays (L.take i))) tt (i+1) f=false:=by assumption
    rw[e];exact q1)
end
theorem F2{n:Nat}(h:n<1000000000):Value.int .i64 (IntKind.i64.wrap ((n:Int) - 1))=Value.int .i64 ((n:Int) - 1):=by
 have:IntKind.i64.wrap ((n:Int) - 1)=(n:Int) - 1:=by
  simp only[IntKind.wrap,IntKind.signed,IntKind.bits]
  simp
  omega
 rw[this]
theorem yW{z:T aa}{zn ey:Nat}{v v':Value}{zo:bO}(h:v'=v):Q1 z zn ey v zo v' zo ey z zn:=by subst h;exact q1
structure mG(U:List RunT):Prop where
 len:U.length<=1024
 calls: ∀r,r∈U->2<=r.calls.length/\r.calls.length<=32
section
variable{z:T aa}{zn:Nat}
theorem xk{U:List RunT}(hZ:pT z U)(hU:mG U)(e0:TypeId)(y:Int): ∃(ca:Nat)(kb:aY),0<=y->y<U.length->aC prog (bc e0 (U.map fun r=>r.v.row).flatten) 36 (0+y.toNat*8+7)=some (tb (6+y.toNat) (ja U y) ca)/\z.get (6+y.toNat)=some (.ak kb)
 /\ ∀c:Int,0<=c->c<ja U y->aC prog kb 3 (0+c.toNat*5+0)=some (zv (kg U y c)):=by
 by_cases h:0<=y/\y<U.length
 ·obtain⟨r,hr⟩:=ez (l:=U) (i:=y.toNat) (by omega)
  have hc:=hU.calls r (List.mem_of_getElem? hr)
  have hu:ja U y=r.calls.length:=by unfold ja;rw[hr]
  obtain⟨e,he⟩:=(hZ.calls _ r hr).ak (i:=0) (by simp;omega)
  have hs:r.v.ca=some ⟨256*(6+y.toNat)+510,0,none⟩/\r.v.cn=r.calls.length:=by
   rcases hZ.sl _ r hr with (⟨_,_,_,h4⟩|h)|⟨_,_,_,h4⟩
   ·omega
   ·exact h
   ·omega
  refine⟨r.v.cc,_,fun _ _=>⟨?_,he,fun c h0 h1=>?_⟩⟩
  ·have hlen:=aM (row:=fun r:RunT=>r.v.row) (sz:=8) U fun _=>rfl
   have:=aX (P:=prog) (e:=e0) (t:=36) (k:=y.toNat) (j:=7) (r:=r.v.row) (v:= .slice r.v.ca r.v.cn r.v.cc) underlying36 rfl hlen (by rw[List.getElem?_map,hr];rfl) rfl
   rw[this,hs.1,hs.2,hu]
  ·obtain⟨x,hx⟩:=ez (l:=r.calls) (i:=c.toNat) (by omega)
   have hst:kg U y c=x.stop:=by unfold kg;rw[hr];simp only;rw[hx]
   rw[hst]
   exact aX underlying3 rfl (aM (row:=bm.row) (sz:=5) r.calls fun _=>rfl) (by rw[List.getElem?_map,hx];rfl) rfl
 ·exact⟨0,⟨[],0,0,0,true,true,0,true⟩,fun h1 h2=>(h ⟨h1,h2⟩).elim⟩
theorem G9(hz:ax z zn)(hg:eO prog z gP)(N:aJ)(L:List aE)(hl:L.length<100000)(hN:N.nl=L.length)(hL:bW z 0 (L.map aE.row))(hnet: ∀σ:bk,aG (ay σ []) (N.cf N.u1 N.l1)=some (N.cf N.u1 N.l1))(i:Nat)(hi:i<=L.length)(x:aE)(b:Bool)(hb:b=(x.stay && (L.take i).any (Ce x))):
 ai prog (ah (ag f35) 0) 2 177 (xF i 0) [(0,N.cf N.u1 N.l1),(1,FF x)] 2 z zn (Al.R (Sp z zn N i x b).l):=by
 refine an hD hg (α:=Nat) 2 177 2 (fun k=>k<=i/\(x.stay && (L.take k).any (Ce x))=false) (fun k=>xF i k) (fun _=>[(0,N.cf N.u1 N.l1),(1,FF x)]) (fun _=>z) (fun _=>zn) (fun k=>i - k) _ (fun k hI=>?_) 0 ⟨Nat.zero_le _,by simp⟩
 obtain⟨h1,h2⟩:=hI
 by_cases hk:k<i
 ·obtain⟨e,he⟩:=hL.ak (i:=k) (by simp;omega)
  obtain⟨y,hy⟩:=ez (l:=L) (i:=k) (by omega)
  have hlen:=aM (row:=aE.row) (sz:=5) L fun _=>rfl
  have hrow:aC prog (bc e (L.map aE.row).flatten) 124 (0+k*5)=some (.agg ⟨y.row⟩):=bC (r:=y.row) (sz:=5) underlying124 rfl rfl hlen (by rw[List.getElem?_map,hy];rfl)
  have hc:decide ((k:Int)<(i:Int))=true:=by simp;omega
  have jC:(x.stay && Ce x y)=false->aj (fun k=>k<=i/\(x.stay && (L.take k).any (Ce x))=false) (fun k=>xF i k) (fun _=>[(0,N.cf N.u1 N.l1),(1,FF x)]) 2 (fun _=>z) (fun _=>zn) (fun k=>i - k) (Al.R (Sp z zn N i x b).l) k .normal (xF i (k+1)) [(0,N.cf N.u1 N.l1),(1,FF x)] 2 z zn:=fun h=>
   ⟨k+1,rfl,rfl,rfl,rfl,rfl,⟨hk,by rw[ju hy];cases hs:x.stay<;>simp_all⟩,by show i - (k+1)<i - k;omega⟩
  refine t100 (RE z zn i k N (bc e (L.map aE.row).flatten) x y (aj _ _ _ _ _ _ _ _ _) ⟨fun _=>?_,nC1 hc⟩)
  (repeat' first|(with_reducible first|exact rfl|assumption|apply And.intro|exact(by omega:k<N.nl)|exact bK (by omega))|exact hnet _|intro hq)
  all_goals clear hnet hL hrow he hz hlen
  all_goals first
   |(refine jC ?_;unfold Ce;simp_all;done)
   |(refine bw ?_;rw[hb]
     have:(L.take i).any (Ce x)=true:=any_true hy hk (by unfold Ce;simp_all)
     rw[this];simp_all;done)
 ·have hc:decide ((k:Int)<(i:Int))=false:=by simp;omega
  refine t100 (RE z zn i k N ⟨[],0,0,0,true,true,0,true⟩ x x (aj _ _ _ _ _ _ _ _ _) ⟨nC1 hc,fun _=>?_⟩)
  (repeat' first|(with_reducible first|exact rfl|assumption|apply And.intro)|exact hnet _)
  refine du (bw ?_)
  rw[hb,←h2,show k=i by omega]
theorem G8(hz:ax z zn)(hg:eO prog z gP)(N:aJ)(L:List aE)(hl:L.length<100000)(hN:N.nl=L.length)(hL:bW z 0 (L.map aE.row))(hnet: ∀σ:bk,aG (ay σ []) (N.cf N.u1 N.l1)=some (N.cf N.u1 N.l1))(i:Nat)(hi:i<=L.length)(x:aE)(b:Bool)(hb:b=(L.take i).any (lF x)):
 ai prog (ah (ag f35) 1) 2 177 (zL i 0) [(0,N.cf N.u1 N.l1),(1,FF x)] 2 z zn (Al.R (So z zn N i x b).l):=by
 refine an hD hg (α:=Nat) 2 177 2 (fun k=>k<=i/\(L.take k).any (lF x)=false) (fun k=>zL i k) (fun _=>[(0,N.cf N.u1 N.l1),(1,FF x)]) (fun _=>z) (fun _=>zn) (fun k=>i - k) _ (fun k hI=>?_) 0 ⟨Nat.zero_le _,by simp⟩
 obtain⟨h1,h2⟩:=hI
 by_cases hk:k<i
 ·obtain⟨e,he⟩:=hL.ak (i:=k) (by simp;omega)
  obtain⟨y,hy⟩:=ez (l:=L) (i:=k) (by omega)
  have hlen:=aM (row:=aE.row) (sz:=5) L fun _=>rfl
  have hrow:aC prog (bc e (L.map aE.row).flatten) 124 (0+k*5)=some (.agg ⟨y.row⟩):=bC (r:=y.row) (sz:=5) underlying124 rfl rfl hlen (by rw[List.getElem?_map,hy];rfl)
  have hc:decide ((k:Int)<(i:Int))=true:=by simp;omega
  have jC:lF x y=false->aj (fun k=>k<=i/\(L.take k).any (lF x)=false) (fun k=>zL i k) (fun _=>[(0,N.cf N.u1 N.l1),(1,FF x)]) 2 (fun _=>z) (fun _=>zn) (fun k=>i - k) (Al.R (So z zn N i x b).l) k .normal (zL i (k+1)) [(0,N.cf N.u1 N.l1),(1,FF x)] 2 z zn:=fun h=>
   ⟨k+1,rfl,rfl,rfl,rfl,rfl,⟨hk,by rw[ju hy,h2,h];rfl⟩,by show i - (k+1)<i - k;omega⟩
  refine t100 (RD z zn i k N (bc e (L.map aE.row).flatten) x y (aj _ _ _ _ _ _ _ _ _) ⟨fun _=>?_,nC1 hc⟩)
  (repeat' first|(with_reducible first|exact rfl|assumption|apply And.intro|exact(by omega:k<N.nl)|exact bK (by omega))|exact hnet _|intro hq)
  all_goals clear hnet hL hrow he hz hlen
  all_goals first
   |(refine jC ?_;unfold lF;simp_all;done)
   |(refine bw ?_;rw[hb]
     exact any_true hy hk (by unfold lF;simp_all))
 ·have hc:decide ((k:Int)<(i:Int))=false:=by simp;omega
  refine t100 (RD z zn i k N ⟨[],0,0,0,true,true,0,true⟩ x x (aj _ _ _ _ _ _ _ _ _) ⟨nC1 hc,fun _=>?_⟩)
  (repeat' first|(with_reducible first|exact rfl|assumption|apply And.intro))
  refine du (bw ?_)
  rw[hb,←h2,show k=i by omega]
theorem LI(hz:ax z zn)(hg:eO prog z gP)(N:aJ)(U:List RunT)(L:List aE)(hl:L.length<100000)(hNu:N.nu=U.length)(hN:N.nl=L.length)(hL:bW z 0 (L.map aE.row))(hZ:pT z U)(hU:mG U)(hnet: ∀σ:bk,aG (ay σ []) (N.cf N.u1 N.l1)=some (N.cf N.u1 N.l1))(hv:br (sig []) [.agg ⟨N.dR N.u1 N.l1⟩]=some [.agg ⟨N.dR N.u1 N.l1⟩])(i:Nat)(x:aE)(hx:L[i]? =some x):
 A1 z zn 35 [.agg ⟨N.dR N.u1 N.l1⟩,iv i] [] 0 0 (zv (ib U L i x)) []:=by
 have hi:i<L.length:=(List.getElem?_eq_some_iff.1 hx).1
 obtain⟨el,hel⟩:=hL.ak (i:=i) (by simp;omega)
 have hlen:=aM (row:=aE.row) (sz:=5) L fun _=>rfl
 have hrow:aC prog (bc el (L.map aE.row).flatten) 124 (0+i*5)=some (.agg ⟨x.row⟩):=bC (r:=x.row) (sz:=5) underlying124 rfl rfl hlen (by rw[List.getElem?_map,hx];rfl)
 have hu0: ∃eu:TypeId,0<U.length->z.get 1=some (.ak (bc eu (U.map fun r=>r.v.row).flatten)):=by
  by_cases h:0<U.length
  ·obtain⟨e,he⟩:=hZ.JG.ak (i:=0) (by simpa using h)
   exact⟨e,fun _=>he⟩
  ·exact⟨0,fun k=>(h k).elim⟩
 obtain⟨eu,heu⟩:=hu0
 obtain⟨ca,ka,hA⟩:=xk hZ hU eu x.fz1
 obtain⟨cb,kb,hB⟩:=xk hZ hU eu x.aq
 have hla:ja U x.fz1<1000000000:=by
  unfold ja
  split
  ·rename_i r hr;have:=(hU.calls r (List.mem_of_getElem? hr)).2;omega
  ·omega
 have hlb:ja U x.aq<1000000000:=by
  unfold ja
  split
  ·rename_i r hr;have:=(hU.calls r (List.mem_of_getElem? hr)).2;omega
  ·omega
 have hl3:=Iw hz hg {N with ua:=some ⟨766,0,none⟩} L hl hN hL hnet i (by omega) x.aq x.fz1
 have hla3:br (sig []) [.agg ⟨N.dR N.u1 N.l1⟩,iv i,zv x.aq,zv x.fz1]=some [.agg ⟨N.dR N.u1 N.l1⟩,iv i,zv x.aq,zv x.fz1]:=by
  have hv2:aT (sig []) (.agg ⟨N.dR N.u1 N.l1⟩)=some (.agg ⟨N.dR N.u1 N.l1⟩):=by
   simp only[br] at hv
   split at hv
   ·rename_i u hu;simp only[Option.some.injEq,List.cons.injEq,and_true] at hv;rw[hu,hv]
   ·cases hv
  exact kP hv2 rfl
 have ha:=G9 hz hg N L hl hN hL hnet i (by omega) x _ rfl
 have hb:=G8 hz hg N L hl hN hL hnet i (by omega) x _ rfl
 have hlk:ib U L i x=if x.fz1<0\/(U.length:Int)<=x.fz1\/x.aq<0\/(U.length:Int)<=x.aq\/x.fz1=x.aq then 9
  else if x.fc<0\/(ja U x.fz1:Int)<=x.fc\/x.tc<0\/(ja U x.aq:Int)<=x.tc then 9
  else if kg U x.fz1 x.fc≠kg U x.aq x.tc then 13
  else if x.stay=true/\(x.fc+1≠ja U x.fz1\/x.tc≠0) then 19
  else if (x.stay && (L.take i).any (Ce x))=true then 19
  else if x.stay=true/\dz (gb (stays (L.take i))) x.fz1 (i+1) x.aq=true then 19
  else if (L.take i).any (lF x)=true then 6 else 0:=by
  unfold ib;simp only[Bool.and_eq_true]
 generalize (x.stay && (L.take i).any (Ce x))=va at ha hlk
 generalize ((L.take i).any (lF x))=vb at hb hlk
 generalize dz (gb (stays (L.take i))) x.fz1 (i+1) x.aq=lb at hl3 hlk
 have heu':0<N.nu->z.get 1=some (.ak (bc eu (U.map fun r=>r.v.row).flatten)):=fun h=>heu (by omega)
 have hA1: ∀h0:0<=x.fz1,x.fz1<N.nu->_:=fun h0 h1=>hA h0 (by omega)
 have hB1: ∀h0:0<=x.aq,x.aq<N.nu->_:=fun h0 h1=>hB h0 (by omega)
 rw[←hNu] at hlk
 refine cS hg (fn:=f35) (by kernel_rfl) (by kernel_rfl) hz ⟨by decide,by decide⟩ rfl (flk z zn i N (bc el (L.map aE.row).flatten) (bc eu (U.map fun r=>r.v.row).flatten) ka kb x x.fz1.toNat x.aq.toNat x.fc.toNat x.tc.toNat (ja U x.fz1) ca (ja U x.aq) cb (kg U x.fz1 x.fc) (kg U x.aq x.tc) lb va vb _ ?_)
 have hnu:N.nu<1000000000:=by have:=hU.len;omega
 (repeat' first|(with_reducible first|exact rfl|assumption|apply And.intro|exact(by omega:i<N.nl)|exact F2 hnu|exact F2 hla|exact F2 hlb)|exact(rfl:gP _ _=_)|exact ha|exact hb|exact hnet _|intro hq)
 all_goals clear hla3 hl3 ha hb hel hrow hnet hv hz hL hZ hU hA hB heu
 all_goals first
  |(refine yW (congrArg (Value.int .i64) ?_)
    clear hA1 hB1 heu'
    rw[hlk]
    clear hlk
    (repeat' split)<;>first|rfl|(exfalso;simp only[bS1,bS2,bS3] at*;omega)|(exfalso;simp_all;done)|(exfalso;simp_all;omega)|trace_state)
  |exact congrArg Value.bool (by assumption)
  |exact heu' (by simp only[bS1,bS2,bS3] at*;omega)
  |exact(hA1 (by simp only[bS1,bS2,bS3] at*;omega) (by simp only[bS1,bS2,bS3] at*;omega)).1
  |exact(hA1 (by simp only[bS1,bS2,bS3] at*;omega) (by simp only[bS1,bS2,bS3] at*;omega)).2.1
  |exact(hA1 (by simp only[bS1,bS2,bS3] at*;omega) (by simp only[bS1,bS2,bS3] at*;omega)).2.2 _ (by simp only[bS1,bS2,bS3] at*;omega) (by simp only[bS1,bS2,bS3] at*;omega)
  |exact(hB1 (by simp only[bS1,bS2,bS3] at*;omega) (by simp only[bS1,bS2,bS3] at*;omega)).1
  |exact(hB1 (by simp only[bS1,bS2,bS3] at*;omega) (by simp only[bS1,bS2,bS3] at*;omega)).2.1
  |exact(hB1 (by simp only[bS1,bS2,bS3] at*;omega) (by simp only[bS1,bS2,bS3] at*;omega)).2.2 _ (by simp only[bS1,bS2,bS3] at*;omega) (by simp only[bS1,bS2,bS3] at*;omega)
  |(clear hA1 hB1 heu' hlk;simp only[bS1,bS2,bS3] at*;omega)
end
end Go.Proofs.Nw
namespace Go.Proofs.Nw
open Go Go.AV Tryz Go.iO
set_option maxHeartbeats 8000000
set_option maxRecDepth 100000
abbrev OL(ps:List (Int × Int)):List Value:=(ps.map (·.2)).map fun x=>zv x
theorem Eg(σ:Nat->Option Nat)(l:List (Int × Int))(a b:Int):aG σ (aa.map (iA 0 l++[{key:=zv a,val:=zv b,born:=l.length}]) (l.length+1))=some (aa.map (iA 0 l++[{key:=zv a,val:=zv b,born:=l.length}]) (l.length+1)):=by
 rw[vQ];exact zD _ _
theorem Rq{a:Int}(h0:0<=a)(h:a<1000000000):Value.int .i64 (IntKind.i64.wrap (a+1))=Value.int .i64 (a+1):=by
 have:IntKind.i64.wrap (a+1)=a+1:=by
  simp only[IntKind.wrap,IntKind.signed,IntKind.bits]
  simp
  omega
 rw[this]
theorem JF{U:List RunT}(hU:mG U)(y:Int):(ja U y:Int)<=32:=by
 unfold ja
 split
 ·rename_i r hr;have:=(hU.calls r (List.mem_of_getElem? hr)).2;omega
 ·omega
section
variable{z:T aa}{zn:Nat}
theorem OG(hz:ax z zn)(hg:eO prog z gP)(N:aJ)(U:List RunT)(L:List aE)(hl:L.length<100000)(hNu:N.nu=U.length)(hN:N.nl=L.length)(hL:bW z 0 (L.map aE.row))(hZ:pT z U)(hU:mG U)(hnet: ∀σ:bk,aG (ay σ []) (N.cf N.u1 N.l1)=some (N.cf N.u1 N.l1))(r:Int × Int)(hr:scan (eJ U L) L.length 0=r):
 ai prog (ah (ag f27) 0) 5 171 (Eo N.nl N.lc 0) [(0,N.cf N.u1 N.l1),(1,cW 0 0 0),(2, .map [] 0),(3,bd []),(4,bd [])] 5 z zn (Al.R (TL z zn N N.u1 (if r.2=0 then 0 else 3) r.1 r.2).l):=by
 refine an hD hg (α:=Nat) 5 171 5 (fun i=>i<=L.length/\scan (eJ U L) (L.length - i) i=r/\ ∀j,j<i->eJ U L j=none) (fun i=>Eo N.nl N.lc i) (fun i=>[(0,N.cf N.u1 N.l1),(1,cW 0 0 0),(2,tN (stays (L.take i))),(3,bd (OL (stays (L.take i)))),(4,bd ((L.take i).map jL))]) (fun _=>z) (fun _=>zn) (fun i=>L.length - i) _ (fun i hI=>?_) 0 ⟨Nat.zero_le _,hr,fun j hj=>by omega⟩
 obtain⟨h1,h2,h3⟩:=hI
 by_cases hi:i<L.length
 ·obtain⟨x,hx⟩:=ez hi
  obtain⟨el,hel⟩:=hL.ak (i:=i) (by simp;omega)
  have hlen:=aM (row:=aE.row) (sz:=5) L fun _=>rfl
  have hrow:aC prog (bc el (L.map aE.row).flatten) 124 (0+i*5)=some (.agg ⟨x.row⟩):=bC (r:=x.row) (sz:=5) underlying124 rfl rfl hlen (by rw[List.getElem?_map,hx];rfl)
  have hu0: ∃eu:TypeId,0<U.length->z.get 1=some (.ak (bc eu (U.map fun r=>r.v.row).flatten)):=by
   by_cases h:0<U.length
   ·obtain⟨e,he⟩:=hZ.JG.ak (i:=0) (by simpa using h)
    exact⟨e,fun _=>he⟩
   ·exact⟨0,fun k=>(h k).elim⟩
  obtain⟨eu,heu⟩:=hu0
  obtain⟨ca,ka,hA⟩:=xk hZ hU eu x.fz1
  obtain⟨cb,kb,hB⟩:=xk hZ hU eu x.aq
  have heu':0<N.nu->z.get 1=some (.ak (bc eu (U.map fun r=>r.v.row).flatten)):=fun h=>heu (by omega)
  have hA1: ∀h0:0<=x.fz1,x.fz1<N.nu->_:=fun h0 h1=>hA h0 (by omega)
  have hB1: ∀h0:0<=x.aq,x.aq<N.nu->_:=fun h0 h1=>hB h0 (by omega)
  have hla:=JF hU x.fz1
  have ok:=vJ U L i h1 h3
  have hm:=Wd (stays (L.take i))
  have hk:=SE x (L.take i)
  have hps:=Gx (L.take i)
  have hi2:=OJ x.aq ((stays (L.take i)).map (·.2))
  have hpi:=Ea ((stays (L.take i)).map (·.2))
  have hcf:=DG (L.take i) x
  have hlds:0<=x.fz1->A1 z zn 57 [mp 0,zv x.aq,zv x.fz1] [(0,tN (stays (L.take i)))] 1 1 (.bool (dz (gb (stays (L.take i))) x.fz1 (i+1) x.aq)) [(0,tN (stays (L.take i)))]:=fun h0=>
   LO hz hm (by rw[ok.eq];exact ok.dep) x.aq x.fz1 _ (by rw[ok.eq];exact ok.leads h0 (by rw[List.length_take];omega))
  have hlk:ib U L i x=if x.fz1<0\/(U.length:Int)<=x.fz1\/x.aq<0\/(U.length:Int)<=x.aq\/x.fz1=x.aq then 9
   else if x.fc<0\/(ja U x.fz1:Int)<=x.fc\/x.tc<0\/(ja U x.aq:Int)<=x.tc then 9
   else if kg U x.fz1 x.fc≠kg U x.aq x.tc then 13
   else if x.stay=true/\(x.fc+1≠ja U x.fz1\/x.tc≠0) then 19
   else if x.stay=true/\(L.take i).any (Ce x)=true then 19
   else if x.stay=true/\dz (gb (stays (L.take i))) x.fz1 (i+1) x.aq=true then 19
   else if (L.take i).any (lF x)=true then 6 else 0:=rfl
  have ret: ∀e:Int,e=ib U L i x->e≠0->Al.R (TL z zn N N.u1 (if r.2=0 then 0 else 3) r.1 r.2).l ⟨.ret,[(2,ip 1)],[(1,cW 3 i e)],5,z,zn⟩:=fun e h h0=>by
   have hb:eJ U L i=some e:=by unfold eJ;rw[hx];simp only;rw[←h,if_neg h0]
   have:r=((i:Int),e):=by rw[←h2,c9 hi hb]
   rw[this]
   simp only[if_neg h0]
   exact bw trivial
  have htk:L.take (i+1)=L.take i++[x]:=by rw[List.take_add_one,hx];rfl
  have jC:ib U L i x=0->aj (fun i=>i<=L.length/\scan (eJ U L) (L.length - i) i=r/\ ∀j,j<i->eJ U L j=none) (fun i=>Eo N.nl N.lc i) (fun i=>[(0,N.cf N.u1 N.l1),(1,cW 0 0 0),(2,tN (stays (L.take i))),(3,bd (OL (stays (L.take i)))),(4,bd ((L.take i).map jL))]) 5 (fun _=>z) (fun _=>zn) (fun i=>L.length - i) (Al.R (TL z zn N N.u1 (if r.2=0 then 0 else 3) r.1 r.2).l) i .normal (Eo N.nl N.lc (i+1))
   [(0,N.cf N.u1 N.l1),(1,cW 0 0 0),(2,tN (if x.stay=true then stays (L.take i)++[(x.fz1,x.aq)] else stays (L.take i))),(3,bd (OL (if x.stay=true then stays (L.take i)++[(x.fz1,x.aq)] else stays (L.take i)))),(4,bd ((L.take i).map jL++[jL x]))] 5 z zn:=fun h0=>by
   have hb:eJ U L i=none:=by unfold eJ;rw[hx];simp only;rw[if_pos h0]
   refine⟨i+1,rfl,?_,rfl,rfl,rfl,⟨hi,by rw[←cI hi hb];exact h2,fun j hj=>?_⟩,by show L.length - (i+1)<L.length - i;omega⟩
   ·show _=[(0,N.cf N.u1 N.l1),(1,cW 0 0 0),(2,tN (stays (L.take (i+1)))),(3,bd (OL (stays (L.take (i+1))))),(4,bd ((L.take (i+1)).map jL))]
    rw[htk,kH,List.map_append];rfl
   ·by_cases e:j=i
    ·subst e;exact hb
    ·exact h3 j (by omega)
  have hc:decide ((i:Int)<(N.nl:Int))=true:=by simp;omega
  rw[←hNu] at hlk
  generalize (L.take i).any (Ce x)=va at hlk hcf
  generalize dz (gb (stays (L.take i))) x.fz1 (i+1) x.aq=lb at hlk hlds
  have hv0:nq (stays (L.take i)) x.fz1=none->x.aq ∉ (stays (L.take i)).map (·.2)->va=false:=fun h k=>hcf.2 ⟨h,k⟩
  have hv1: ∀b,nq (stays (L.take i)) x.fz1=some b->va=true:=fun b h=>by
   cases hva:va with
   |true=>rfl
   |false=>(have:=(hcf.1 hva).1;rw[h] at this;cases this)
  have hv2:x.aq∈(stays (L.take i)).map (·.2)->va=true:=fun h=>by
   cases hva:va with
   |true=>rfl
   |false=>exact((hcf.1 hva).2 h).elim
  refine t100 (rk z zn i N (bc el (L.map aE.row).flatten) (bc eu (U.map fun r=>r.v.row).flatten) ka kb x x.fz1.toNat x.aq.toNat x.fc.toNat x.tc.toNat (ja U x.fz1) ca (ja U x.aq) cb (kg U x.fz1 x.fc) (kg U x.aq x.tc) lb (stays (L.take i)) (OL (stays (L.take i))) ((L.take i).map jL) (aj _ _ _ _ _ _ _ _ _) ⟨fun _=>?_,nC1 hc⟩)
  (repeat' first|(with_reducible first|exact rfl|assumption|apply And.intro|exact(by omega:i<N.nl)|exact hm.no _|exact hm.ex _|exact hk.no|exact hk.ex|exact hi2.no|exact hi2.ex|exact gZ _ hps rfl|exact gZ _ hpi rfl|exact yS hpi|exact zD _ _|exact Eg _ _ _ _|exact bK (by omega))|exact(rfl:gP _ _=_)|exact hnet _|intro hq)
  all_goals clear hnet hrow hel hz hL hZ hU hA hB heu hlen hps hpi
  all_goals try (have hm1:=hk.Dk (by with_reducible assumption);rw[GM] at hm1)
  all_goals try (have hm1:=hk.Jk (by with_reducible assumption);rw[GM] at hm1)
  all_goals try (have hm2:=hi2.Dk (by with_reducible assumption);rw[Db] at hm2)
  all_goals try (have hm2:=hi2.Jk (by with_reducible assumption);rw[Db] at hm2)
  all_goals try (have hm3:=hm.Dk (by with_reducible assumption))
  all_goals try (have hm3:=hm.none (by with_reducible assumption))
  all_goals clear hm hk hi2
  all_goals try (have hv:=hv0 hm3 hm2)
  all_goals try (have hv:=hv1 _ hm3)
  all_goals try (have hv:=hv2 hm2)
  all_goals clear hv0 hv1 hv2
  all_goals clear hcf
  all_goals first
   |(refine ret _ ?_ (by decide)
     clear ret jC hlds hA1 hB1 heu' h2 h3 hr
     rw[hlk]
     clear hlk
     (repeat' split)<;>first|rfl|(exfalso;simp only[bS1,bS2,bS3] at*;omega)|(exfalso;simp_all;done)|(exfalso;simp_all;omega))
   |(have h0:ib U L i x=0:=by
      clear ret jC hlds hA1 hB1 heu' h2 h3 hr
      rw[hlk]
      clear hlk
      (repeat' split)<;>first|rfl|(exfalso;simp only[bS1,bS2,bS3] at*;omega)|(exfalso;simp_all;done)|(exfalso;simp_all;omega)
     have q:=jC h0
     rw[ff]
     first
      |(have hs:x.stay=true:=by assumption
        simp only[hs,if_true] at q
        rw[vQ,ff]
        simp only[OL,List.map_append,List.map_cons,List.map_nil] at q ⊢
        exact q)
      |(have hs:x.stay=false:=by assumption
        simp only[hs,Bool.false_eq_true,if_false] at q
        exact q))
   |exact congrArg Value.bool (by assumption)
   |exact heu' (by simp only[bS1,bS2,bS3] at*;omega)
   |exact(hA1 (by simp only[bS1,bS2,bS3] at*;omega) (by simp only[bS1,bS2,bS3] at*;omega)).1
   |exact(hA1 (by simp only[bS1,bS2,bS3] at*;omega) (by simp only[bS1,bS2,bS3] at*;omega)).2.1
   |exact(hA1 (by simp only[bS1,bS2,bS3] at*;omega) (by simp only[bS1,bS2,bS3] at*;omega)).2.2 _ (by simp only[bS1,bS2,bS3] at*;omega) (by simp only[bS1,bS2,bS3] at*;omega)
   |exact(hB1 (by simp only[bS1,bS2,bS3] at*;omega) (by simp only[bS1,bS2,bS3] at*;omega)).1
   |exact(hB1 (by simp only[bS1,bS2,bS3] at*;omega) (by simp only[bS1,bS2,bS3] at*;omega)).2.1
   |exact(hB1 (by simp only[bS1,bS2,bS3] at*;omega) (by simp only[bS1,bS2,bS3] at*;omega)).2.2 _ (by simp only[bS1,bS2,bS3] at*;omega) (by simp only[bS1,bS2,bS3] at*;omega)
   |exact hlds (by simp only[bS1,bS2,bS3] at*;omega)
   |exact Rq (by simp only[bS1,bS2,bS3] at*;omega) (by simp only[bS1,bS2,bS3] at*;omega)
   |(clear hA1 hB1 heu' hlk hlds jC ret;simp only[bS1,bS2,bS3] at*;omega)
 ·have hc:decide ((i:Int)<(N.nl:Int))=false:=by simp;omega
  refine t100 (rk z zn i N ⟨[],0,0,0,true,true,0,true⟩ ⟨[],0,0,0,true,true,0,true⟩ ⟨[],0,0,0,true,true,0,true⟩ ⟨[],0,0,0,true,true,0,true⟩ ⟨0,0,0,0,true⟩ 0 0 0 0 0 0 0 0 0 0 true (stays (L.take i)) (OL (stays (L.take i))) ((L.take i).map jL) (aj _ _ _ _ _ _ _ _ _) ⟨nC1 hc,fun _=>?_⟩)
  (repeat' first|(with_reducible first|exact rfl|assumption|apply And.intro))
  rw[dy (by omega)] at h2
  refine du (bw ?_)
  rw[←h2]
  exact⟨rfl,rfl,rfl⟩
theorem LN(hz:ax z zn)(hg:eO prog z gP)(N:aJ)(U:List RunT)(L:List aE)(hNu:N.nu=U.length)(hN:N.nl=L.length)(hL:bW z 0 (L.map aE.row))(hZ:pT z U)(hU:mG U)(hnet: ∀σ:bk,aG (ay σ []) (N.cf N.u1 N.l1)=some (N.cf N.u1 N.l1)):
 A1 z zn 27 [.agg ⟨N.dR N.u1 N.l1⟩] [] 0 0 (.agg ⟨[zv (if (bF U L).2=0 then 0 else 3),zv (bF U L).1,zv (bF U L).2]⟩) []:=by
 refine cS hg (fn:=f27) (by kernel_rfl) (by kernel_rfl) hz ⟨by decide,by decide⟩ rfl (fk z zn N N.u1 (if (bF U L).2=0 then 0 else 3) (bF U L).1 (bF U L).2 _ ?_)
 by_cases h:1024<L.length
 ·have hr:bF U L=(0,5):=if_pos h
  have hc:decide ((N.nl:Int)>1024)=true:=by simp;omega
  rw[hr]
  refine⟨fun _=>?_,nC1 hc⟩
  (repeat' first|(with_reducible first|exact rfl|assumption|apply And.intro)|exact(rfl:gP _ _=_)|exact q1)
 ·have hr:bF U L=scan (eJ U L) L.length 0:=if_neg h
  have hc:decide ((N.nl:Int)>1024)=false:=by simp;omega
  have hK:=OG hz hg N U L (by omega) hNu hN hL hZ hU hnet (bF U L) hr.symm
  refine⟨nC1 hc,fun _=>?_⟩
  (repeat' first|(with_reducible first|exact rfl|assumption|apply And.intro|exact q1)|exact hK|exact hnet _|intro hq)
  all_goals first|(rw[hq.1,hq.2.1,hq.2.2];exact q1)|trace_state
theorem KI(hz:ax z zn)(hg:eO prog z gP)(N:aJ)(L:List aE)(hl:L.length<100000)(hN:N.nl=L.length)(hL:bW z 0 (L.map aE.row))(hnet: ∀σ:bk,aG (ay σ []) (N.cf az N.l1)=some (N.cf az N.l1))(r:Int × Int)(hr:scan (eJ [] L) L.length 0=r):
 ai prog (ah (ag f27) 0) 5 171 (Eo N.nl N.lc 0) [(0,N.cf az N.l1),(1,cW 0 0 0),(2, .map [] 0),(3,bd []),(4,bd [])] 5 z zn (Al.R (TL z zn N az (if r.2=0 then 0 else 3) r.1 r.2).l):=by
 refine an hD hg (α:=Nat) 5 171 5 (fun i=>i=0) (fun i=>Eo N.nl N.lc i) (fun i=>[(0,N.cf az N.l1),(1,cW 0 0 0),(2, .map [] 0),(3,bd []),(4,bd [])]) (fun _=>z) (fun _=>zn) (fun i=>1) _ (fun i hI=>?_) 0 rfl
 subst hI
 by_cases hi:0<L.length
 ·obtain⟨x,hx⟩:=ez hi
  obtain⟨el,hel⟩:=hL.ak (i:=0) (by simp;omega)
  have hlen:=aM (row:=aE.row) (sz:=5) L fun _=>rfl
  have hrow:aC prog (bc el (L.map aE.row).flatten) 124 (0+0*5)=some (.agg ⟨x.row⟩):=bC (r:=x.row) (sz:=5) underlying124 rfl rfl hlen (by rw[List.getElem?_map,hx];rfl)
  have hb:eJ [] L 0=some 9:=by
   unfold eJ;rw[hx];simp only
   have:ib [] L 0 x=9:=by unfold ib;rw[if_pos (by simp;omega)]
   rw[this];rfl
  have hrr:r=(0,9):=by rw[←hr];exact c9 hi hb
  have hwf:gP 56 [zv x.fz1,I 0]=some (.bool false):=by
   show some (Value.bool (decide (0<=x.fz1) && decide (x.fz1<0)))=_
   have:(decide (0<=x.fz1) && decide (x.fz1<0))=false:=by simp
   rw[this]
  have hc:decide (((0:Nat):Int)<(N.nl:Int))=true:=by simp;omega
  refine t100 (Zc z zn 0 N (bc el (L.map aE.row).flatten) x (aj _ _ _ _ _ _ _ _ _) ⟨fun _=>?_,nC1 hc⟩)
  (repeat' first|(with_reducible first|exact rfl|assumption|apply And.intro|exact(by omega:0<N.nl))|exact(rfl:gP _ _=_))
  all_goals first
   |(rw[hrr];exact bw trivial)
 ·have hc:decide (((0:Nat):Int)<(N.nl:Int))=false:=by simp;omega
  refine t100 (Zc z zn 0 N ⟨[],0,0,0,true,true,0,true⟩ ⟨0,0,0,0,true⟩ (aj _ _ _ _ _ _ _ _ _) ⟨nC1 hc,fun _=>?_⟩)
  (repeat' first|(with_reducible first|exact rfl|assumption|apply And.intro))
  have e:L.length=0:=by omega
  rw[e] at hr
  refine du (bw ?_)
  rw[←hr]
  exact⟨rfl,rfl,rfl⟩
theorem IF(hz:ax z zn)(hg:eO prog z gP)(N:aJ)(L:List aE)(hN:N.nl=L.length)(hL:bW z 0 (L.map aE.row))(hnet: ∀σ:bk,aG (ay σ []) (N.cf az N.l1)=some (N.cf az N.l1)):
 A1 z zn 27 [.agg ⟨N.dR az N.l1⟩] [] 0 0 (.agg ⟨[zv (if (bF [] L).2=0 then 0 else 3),zv (bF [] L).1,zv (bF [] L).2]⟩) []:=by
 refine cS hg (fn:=f27) (by kernel_rfl) (by kernel_rfl) hz ⟨by decide,by decide⟩ rfl (fkn z zn N az (if (bF [] L).2=0 then 0 else 3) (bF [] L).1 (bF [] L).2 _ ?_)
 by_cases h:1024<L.length
 ·have hr:bF [] L=(0,5):=if_pos h
  have hc:decide ((N.nl:Int)>1024)=true:=by simp;omega
  rw[hr]
  refine⟨fun _=>?_,nC1 hc⟩
  (repeat' first|(with_reducible first|exact rfl|assumption|apply And.intro)|exact(rfl:gP _ _=_)|exact q1)
 ·have hr:bF [] L=scan (eJ [] L) L.length 0:=if_neg h
  have hc:decide ((N.nl:Int)>1024)=false:=by simp;omega
  have hK:=KI hz hg N L (by omega) hN hL hnet (bF [] L) hr.symm
  refine⟨nC1 hc,fun _=>?_⟩
  (repeat' first|(with_reducible first|exact rfl|assumption|apply And.intro|exact q1)|exact hK|exact hnet _|intro hq)
  all_goals first|(rw[hq.1,hq.2.1,hq.2.2];exact q1)|trace_state
theorem IE(hz:ax z zn)(hg:eO prog z gP)(N:aJ)(hnet: ∀σ:bk,aG (ay σ []) (N.cf N.u0 az)=some (N.cf N.u0 az)):
 A1 z zn 27 [.agg ⟨N.dR N.u0 az⟩] [] 0 0 (.agg ⟨[I 0,I 0,I 0]⟩) []:=by
 have hL:ai prog (ah (ag f27) 0) 5 171 En [(0,N.cf N.u0 az),(1,cW 0 0 0),(2, .map [] 0),(3,bd []),(4,bd [])] 5 z zn (Al.R (Wm z zn N).l):=by
  refine an hD hg (α:=Nat) 5 171 5 (fun i=>i=0) (fun i=>En) (fun i=>[(0,N.cf N.u0 az),(1,cW 0 0 0),(2, .map [] 0),(3,bd []),(4,bd [])]) (fun _=>z) (fun _=>zn) (fun i=>1) _ (fun i hI=>?_) 0 rfl
  refine t100 (rkz z zn N (aj _ _ _ _ _ _ _ _ _) ?_)
  (repeat' first|(with_reducible first|exact rfl|assumption|apply And.intro))
  all_goals first|exact bw trivial|trace_state
 refine cS hg (fn:=f27) (by kernel_rfl) (by kernel_rfl) hz ⟨by decide,by decide⟩ rfl (fkz z zn N _ ?_)
 (repeat' first|(with_reducible first|exact rfl|assumption|apply And.intro|exact q1)|exact hL|exact hnet _|intro hq)
end
end Go.Proofs.Nw
namespace Go.Proofs.Nw
open Go Go.AV Tryz Go.iO
set_option maxRecDepth 100000
def bR(x y:ae):Bool:=decide (y.fz1=x.fz1) && (decide (y.aq=x.aq) && (y.sf==x.sf))
def fq(n:Int)(l:List ae)(i:Nat)(x:ae):Int:=
 if x.fz1<0\/n<=x.fz1\/x.aq<0\/n<=x.aq\/x.fz1=x.aq then 9 else if x.aH<1\/14400<x.aH then 2 else if (l.take i).any (bR x)=true then 6 else 0
def cG(n:Int)(l:List ae)(i:Nat):Option Int:=match l[i]? with
 |some x=>if fq n l i x=0 then none else some (fq n l i x)
 |none=>none
def aP(n:Int)(l:List ae):Int × Int:=scan (cG n l) l.length 0
theorem pf: ∀(M:Nat)(l:List Nat),l.Nodup->(∀x∈l,x<M)->l.length<=M
 |0,l,_,h=>by
  cases l with
  |nil=>simp
  |cons a l=>have:=h a (by simp);omega
 |M+1,l,hn,h=>by
  have h1:=pf M (l.erase M) (hn.erase M) fun x hx=>by
   have:=h x (List.mem_of_mem_erase hx)
   have hne:x≠M:=fun e=>by subst e;exact hn.not_mem_erase hx
   omega
  by_cases hm:M∈l
  ·rw[List.length_erase_of_mem hm] at h1;omega
  ·rw[List.erase_of_not_mem hm] at h1;omega
def xQ(x:ae):Nat:=x.fz1.toNat*128+x.aq.toNat*2+(if x.sf=true then 1 else 0)
theorem Az(n:Int)(hn:n<=64)(l:List ae): ∀k,k<=l.length->(∀j,j<k->cG n l j=none)->((l.take k).map xQ).Nodup/\ ∀y∈l.take k,0<=y.fz1/\y.fz1<64/\0<=y.aq/\y.aq<64
 |0,_,_=>by simp
 |k+1,hk,h=>by
  obtain⟨h1,h2⟩:=Az n hn l k (by omega) fun j hj=>h j (by omega)
  obtain⟨x,hx⟩:=ez (l:=l) (i:=k) (by omega)
  have hb:=h k (by omega)
  unfold cG at hb
  rw[hx] at hb
  have he:fq n l k x=0:=by simpa using hb
  unfold fq at he
  split at he
  ·cases he
  rename_i c1
  split at he
  ·cases he
  split at he
  ·cases he
  rename_i c3
  have c3: ∀y∈l.take k,bR x y=false:=by simpa using c3
  have ht:l.take (k+1)=l.take k++[x]:=by rw[List.take_add_one,hx];rfl
  rw[ht]
  constructor
  ·rw[List.map_append,List.nodup_append]
   refine⟨h1,by simp,fun a ha b hb=>?_⟩
   obtain⟨y,hy,rfl⟩:=List.mem_map.1 ha
   have hb:b=xQ x:=by simpa using hb
   subst hb
   intro e
   have hs:=c3 y hy
   obtain⟨g1,g2,g3,g4⟩:=h2 y hy
   unfold xQ at e
   simp only[bR,Bool.and_eq_false_iff,decide_eq_false_iff_not,beq_eq_false_iff_ne] at hs
   have e1:y.fz1=x.fz1:=by(repeat' split at e)<;>omega
   have e2:y.aq=x.aq:=by(repeat' split at e)<;>omega
   have e3:y.sf=x.sf:=by
    cases hy1:y.sf<;>cases hx1:x.sf<;>rw[hy1,hx1] at e<;>first|rfl|(exfalso;simp only[if_true,if_false,Bool.false_eq_true] at e;omega)
   rcases hs with q|q|q
   ·exact q e1
   ·exact q e2
   ·exact q e3
  ·intro y hy
   rcases List.mem_append.1 hy with q|q
   ·exact h2 y q
   ·have:y=x:=by simpa using q
    subst this;omega
theorem CV{n:Int}(hn:n<=64){l:List ae}{k:Nat}(hk:k<=l.length)(h: ∀j,j<k->cG n l j=none):k<=8192:=by
 obtain⟨h1,h2⟩:=Az n hn l k hk h
 have:=pf 8192 _ h1 fun c hc=>by
  obtain⟨y,hy,rfl⟩:=List.mem_map.1 hc
  obtain⟨g1,g2,g3,g4⟩:=h2 y hy
  unfold xQ
  split<;>omega
 simpa[List.length_take,Nat.min_eq_left hk] using this
abbrev fG(x:ae):Value:= .agg ⟨[zv x.fz1,zv x.aq, .bool x.sf]⟩
abbrev fF(x:ae):Value:= .agg ⟨[zv x.fz1,zv x.aq,zv 0, .bool x.sf]⟩
theorem Wy(x:ae)(l:List ae):kE 217 (fG x) (l.map fG):=⟨fun k' hk'=>by
 obtain⟨y,_,rfl⟩:=List.mem_map.1 hk'
 refine⟨rfl,_,HQ _ _ _ _ _ _,?_⟩
 simp only[Bool.and_eq_true,decide_eq_true_eq,beq_iff_eq,Value.agg.injEq,Array.mk.injEq,List.cons.injEq,Value.int.injEq,Value.bool.injEq,true_and,and_true]⟩
theorem Wx(x:ae)(l:List ae):kE 82 (fF x) (l.map fF):=⟨fun k' hk'=>by
 obtain⟨y,_,rfl⟩:=List.mem_map.1 hk'
 refine⟨rfl,_,HP _ _ _ _ _ _ _ _,?_⟩
 simp only[Bool.and_eq_true,decide_eq_true_eq,beq_iff_eq,Value.agg.injEq,Array.mk.injEq,List.cons.injEq,Value.int.injEq,Value.bool.injEq,true_and,and_true]⟩
theorem zA(x:ae)(l:List ae):fG x∈l.map fG↔l.any (bR x)=true:=by
 rw[List.mem_map,List.any_eq_true]
 simp only[bR,Bool.and_eq_true,decide_eq_true_eq,beq_iff_eq,Value.agg.injEq,Array.mk.injEq,List.cons.injEq,Value.int.injEq,Value.bool.injEq,true_and,and_true]
theorem zy(x:ae)(l:List ae):fF x∈l.map fF↔l.any (bR x)=true:=by
 rw[List.mem_map,List.any_eq_true]
 simp only[bR,Bool.and_eq_true,decide_eq_true_eq,beq_iff_eq,Value.agg.injEq,Array.mk.injEq,List.cons.injEq,Value.int.injEq,Value.bool.injEq,true_and,and_true]
theorem J9(l:List ae): ∀k,k∈l.map fG->au k=true:=fun k hk=>by
 obtain⟨t,_,rfl⟩:=List.mem_map.1 hk
 rfl
theorem J8(l:List ae): ∀k,k∈l.map fF->au k=true:=fun k hk=>by
 obtain⟨t,_,rfl⟩:=List.mem_map.1 hk
 rfl
end Go.Proofs.Nw
namespace Go.Proofs.Nw
open Go Go.AV Tryz Go.iO
set_option maxHeartbeats 8000000
set_option maxRecDepth 100000
section
variable{z:T aa}{zn:Nat}
theorem Kt(hz:ax z zn)(hg:eO prog z gP)(n:Int)(hn:n<=64)(l:List ae)(cp:Nat)(hL:bW z 4 (l.map ae.row))(r:Int × Int)(hr:scan (cG n l) l.length 0=r):
 ai prog (ah (ag f89) 0) 1 62 (zF n l.length cp 0) [(0,bd [])] 1 z zn (Al.R (Ot z zn l.length cp n r.1 r.2).l):=by
 refine an hD hg (α:=Nat) 1 62 1 (fun i=>i<=l.length/\scan (cG n l) (l.length - i) i=r/\ ∀j,j<i->cG n l j=none) (fun i=>zF n l.length cp i) (fun i=>[(0,bd ((l.take i).map fG))]) (fun _=>z) (fun _=>zn) (fun i=>l.length - i) _ (fun i hI=>?_) 0 ⟨Nat.zero_le _,hr,fun j hj=>by omega⟩
 obtain⟨h1,h2,h3⟩:=hI
 have hle:=CV hn h1 h3
 by_cases hi:i<l.length
 ·obtain⟨x,hx⟩:=ez hi
  obtain⟨el,hel⟩:=hL.ak (i:=i) (by simp;omega)
  have hlen:=aM (row:=ae.row) (sz:=4) l fun _=>rfl
  have hrow:aC prog (bc el (l.map ae.row).flatten) 82 (0+i*4)=some (.agg ⟨x.row⟩):=bC (r:=x.row) (sz:=4) underlying82 rfl rfl hlen (by rw[List.getElem?_map,hx];rfl)
  have hk:=Wy x (l.take i)
  have hkT:x.sf=true->kE 217 (.agg ⟨[zv x.fz1,zv x.aq,T1]⟩) ((l.take i).map fG):=fun h=>by unfold fG at hk;rw[h] at hk;exact hk
  have hkF:x.sf=false->kE 217 (.agg ⟨[zv x.fz1,zv x.aq,F0]⟩) ((l.take i).map fG):=fun h=>by unfold fG at hk;rw[h] at hk;exact hk
  have hmT:x.sf=true->((.agg ⟨[zv x.fz1,zv x.aq,T1]⟩:Value)∈((l.take i).map fG)↔(l.take i).any (bR x)=true):=fun h=>by have:=zA x (l.take i);unfold fG at this;rw[h] at this;exact this
  have hmF:x.sf=false->((.agg ⟨[zv x.fz1,zv x.aq,F0]⟩:Value)∈((l.take i).map fG)↔(l.take i).any (bR x)=true):=fun h=>by have:=zA x (l.take i);unfold fG at this;rw[h] at this;exact this
  have hps:=J9 (l.take i)
  have hlk:fq n l i x=if x.fz1<0\/n<=x.fz1\/x.aq<0\/n<=x.aq\/x.fz1=x.aq then 9 else if x.aH<1\/14400<x.aH then 2 else if (l.take i).any (bR x)=true then 6 else 0:=rfl
  have ret: ∀e:Int,e=fq n l i x->e≠0->Al.R (Ot z zn l.length cp n r.1 r.2).l ⟨.ret,[(4,iv i),(5,zv e)],[],1,z,zn⟩:=fun e h h0=>by
   have hb:cG n l i=some e:=by unfold cG;rw[hx];simp only;rw[←h,if_neg h0]
   have:r=((i:Int),e):=by rw[←h2,c9 hi hb]
   rw[this]
   exact bw trivial
  have htk:l.take (i+1)=l.take i++[x]:=by rw[List.take_add_one,hx];rfl
  have jC:fq n l i x=0->aj (fun i=>i<=l.length/\scan (cG n l) (l.length - i) i=r/\ ∀j,j<i->cG n l j=none) (fun i=>zF n l.length cp i) (fun i=>[(0,bd ((l.take i).map fG))]) 1 (fun _=>z) (fun _=>zn) (fun i=>l.length - i) (Al.R (Ot z zn l.length cp n r.1 r.2).l) i .normal (zF n l.length cp (i+1)) [(0,bd ((l.take i).map fG++[fG x]))] 1 z zn:=fun h0=>by
   have hb:cG n l i=none:=by unfold cG;rw[hx];simp only;rw[if_pos h0]
   refine⟨i+1,rfl,?_,rfl,rfl,rfl,⟨hi,by rw[←cI hi hb];exact h2,fun j hj=>?_⟩,by show l.length - (i+1)<l.length - i;omega⟩
   ·show _=[(0,bd ((l.take (i+1)).map fG))]
    rw[htk,List.map_append];rfl
   ·by_cases e:j=i
    ·subst e;exact hb
    ·exact h3 j (by omega)
  have hc:decide ((i:Int)<(l.length:Int))=true:=by simp;omega
  refine t100 (XW z zn i l.length cp n (bc el (l.map ae.row).flatten) x ((l.take i).map fG) (aj _ _ _ _ _ _ _ _ _) ⟨fun _=>?_,nC1 hc⟩)
  (repeat' first|(with_reducible first|exact rfl|assumption|apply And.intro|exact(hkT (by assumption)).no|exact(hkF (by assumption)).no|exact(hkT (by assumption)).ex|exact(hkF (by assumption)).ex|exact gZ _ hps rfl|exact bK (by omega))|intro hq)
  all_goals clear hrow hel hz hL hlen hps
  all_goals try (have hm1:=(hmT (by assumption)).1 ((hkT (by assumption)).Dk (by with_reducible assumption)))
  all_goals try (have hm1:=(hmF (by assumption)).1 ((hkF (by assumption)).Dk (by with_reducible assumption)))
  all_goals try (have hm1:=fun h=>(hkT (by assumption)).Jk (by with_reducible assumption) ((hmT (by assumption)).2 h))
  all_goals try (have hm1:=fun h=>(hkF (by assumption)).Jk (by with_reducible assumption) ((hmF (by assumption)).2 h))
  all_goals clear hk hkT hkF hmT hmF
  all_goals first
   |(refine ret _ ?_ (by decide)
     clear ret jC h2 h3 hr
     rw[hlk]
     clear hlk
     (repeat' split)<;>first|rfl|(exfalso;simp only[bS1,bS2,bS3] at*;omega)|(exfalso;simp_all;done))
   |(have h0:fq n l i x=0:=by
      clear ret jC h2 h3 hr
      rw[hlk]
      clear hlk
      (repeat' split)<;>first|rfl|(exfalso;simp only[bS1,bS2,bS3] at*;omega)|(exfalso;simp_all;done)
     have q:=jC h0
     unfold fG at q
     rw[show x.sf=_ by assumption] at q
     rw[ff]
     exact q)
 ·have hc:decide ((i:Int)<(l.length:Int))=false:=by simp;omega
  refine t100 (XW z zn i l.length cp n ⟨[],0,0,0,true,true,0,true⟩ ⟨0,0,0,true⟩ ((l.take i).map fG) (aj _ _ _ _ _ _ _ _ _) ⟨nC1 hc,fun _=>?_⟩)
  (repeat' first|(with_reducible first|exact rfl|assumption|apply And.intro))
  rw[dy (by omega)] at h2
  refine du (bw ?_)
  rw[←h2]
  exact⟨rfl,rfl⟩
theorem LC(hz:ax z zn)(hg:eO prog z gP)(n:Int)(hn:n<=64)(l:List ae)(cp:Nat)(hL:bW z 4 (l.map ae.row)):
 A1 z zn 89 [tb 4 l.length cp,zv n] [] 0 0 (.tuple ⟨[zv (aP n l).1,zv (aP n l).2]⟩) []:=by
 have hK:=Kt hz hg n hn l cp hL (aP n l) rfl
 refine cS hg (fn:=f89) (by kernel_rfl) (by kernel_rfl) hz ⟨by decide,by decide⟩ rfl (fso z zn l.length cp n (aP n l).1 (aP n l).2 _ ?_)
 (repeat' first|(with_reducible first|exact rfl|assumption|apply And.intro|exact q1)|exact hK|intro hq)
 all_goals first|(rw[hq.1,hq.2];exact q1)|trace_state
theorem Ir(hz:ax z zn)(hg:eO prog z gP)(n:Int):
 A1 z zn 89 [az,zv n] [] 0 0 (.tuple ⟨[zv 0,zv 0]⟩) []:=by
 have hL:ai prog (ah (ag f89) 0) 1 62 (vS n) [(0,bd [])] 1 z zn (Al.R (RV z zn n).l):=by
  refine an hD hg (α:=Nat) 1 62 1 (fun i=>i=0) (fun i=>vS n) (fun i=>[(0,bd [])]) (fun _=>z) (fun _=>zn) (fun i=>1) _ (fun i hI=>?_) 0 rfl
  refine t100 (Vs z zn n (aj _ _ _ _ _ _ _ _ _) ?_)
  (repeat' first|(with_reducible first|exact rfl|assumption|apply And.intro))
  all_goals first|exact bw trivial|trace_state
 refine cS hg (fn:=f89) (by kernel_rfl) (by kernel_rfl) hz ⟨by decide,by decide⟩ rfl (WX z zn n _ ?_)
 (repeat' first|(with_reducible first|exact rfl|assumption|apply And.intro)|exact hL|exact q1|intro hq)
end
section
variable{z:T aa}{zn:Nat}
theorem KM(hz:ax z zn)(hg:eO prog z gP)(N:aJ)(hn:N.ns<=64)(l:List ae)(hN:N.np=l.length)(hnet: ∀σ:bk,aG (ay σ []) (N.bT N.p1)=some (N.bT N.p1))(hL:bW z 4 (l.map ae.row))(r:Int × Int)(hr:scan (cG N.ns l) l.length 0=r):
 ai prog (ah (ag f29) 0) 3 78 (zO N.np N.pc 0) [(0,N.bT N.p1),(1,cW 0 0 0),(2,bd [])] 3 z zn (Al.R (OD z zn N (if r.2=0 then 0 else 4) r.1 r.2).l):=by
 refine an hD hg (α:=Nat) 3 78 3 (fun i=>i<=l.length/\scan (cG N.ns l) (l.length - i) i=r/\ ∀j,j<i->cG N.ns l j=none) (fun i=>zO N.np N.pc i) (fun i=>[(0,N.bT N.p1),(1,cW 0 0 0),(2,bd ((l.take i).map fF))]) (fun _=>z) (fun _=>zn) (fun i=>l.length - i) _ (fun i hI=>?_) 0 ⟨Nat.zero_le _,hr,fun j hj=>by omega⟩
 obtain⟨h1,h2,h3⟩:=hI
 have hle:=CV (by omega:(N.ns:Int)<=64) h1 h3
 by_cases hi:i<l.length
 ·obtain⟨x,hx⟩:=ez hi
  obtain⟨el,hel⟩:=hL.ak (i:=i) (by simp;omega)
  have hlen:=aM (row:=ae.row) (sz:=4) l fun _=>rfl
  have hrow:aC prog (bc el (l.map ae.row).flatten) 82 (0+i*4)=some (.agg ⟨x.row⟩):=bC (r:=x.row) (sz:=4) underlying82 rfl rfl hlen (by rw[List.getElem?_map,hx];rfl)
  have hk:=Wx x (l.take i)
  have hkT:x.sf=true->kE 82 (.agg ⟨[zv x.fz1,zv x.aq,I 0,T1]⟩) ((l.take i).map fF):=fun h=>by unfold fF at hk;rw[h] at hk;exact hk
  have hkF:x.sf=false->kE 82 (.agg ⟨[zv x.fz1,zv x.aq,I 0,F0]⟩) ((l.take i).map fF):=fun h=>by unfold fF at hk;rw[h] at hk;exact hk
  have hmT:x.sf=true->((.agg ⟨[zv x.fz1,zv x.aq,I 0,T1]⟩:Value)∈((l.take i).map fF)↔(l.take i).any (bR x)=true):=fun h=>by have:=zy x (l.take i);unfold fF at this;rw[h] at this;exact this
  have hmF:x.sf=false->((.agg ⟨[zv x.fz1,zv x.aq,I 0,F0]⟩:Value)∈((l.take i).map fF)↔(l.take i).any (bR x)=true):=fun h=>by have:=zy x (l.take i);unfold fF at this;rw[h] at this;exact this
  have hps:=J8 (l.take i)
  have hlk:fq N.ns l i x=if x.fz1<0\/(N.ns:Int)<=x.fz1\/x.aq<0\/(N.ns:Int)<=x.aq\/x.fz1=x.aq then 9 else if x.aH<1\/14400<x.aH then 2 else if (l.take i).any (bR x)=true then 6 else 0:=rfl
  have ret: ∀e:Int,e=fq N.ns l i x->e≠0->Al.R (OD z zn N (if r.2=0 then 0 else 4) r.1 r.2).l ⟨.ret,[(2,ip 1)],[(1,cW 4 i e)],3,z,zn⟩:=fun e h h0=>by
   have hb:cG N.ns l i=some e:=by unfold cG;rw[hx];simp only;rw[←h,if_neg h0]
   have:r=((i:Int),e):=by rw[←h2,c9 hi hb]
   rw[this]
   simp only[if_neg h0]
   exact bw (by decide)
  have htk:l.take (i+1)=l.take i++[x]:=by rw[List.take_add_one,hx];rfl
  have jC:fq N.ns l i x=0->aj (fun i=>i<=l.length/\scan (cG N.ns l) (l.length - i) i=r/\ ∀j,j<i->cG N.ns l j=none) (fun i=>zO N.np N.pc i) (fun i=>[(0,N.bT N.p1),(1,cW 0 0 0),(2,bd ((l.take i).map fF))]) 3 (fun _=>z) (fun _=>zn) (fun i=>l.length - i) (Al.R (OD z zn N (if r.2=0 then 0 else 4) r.1 r.2).l) i .normal (zO N.np N.pc (i+1)) [(0,N.bT N.p1),(1,cW 0 0 0),(2,bd ((l.take i).map fF++[fF x]))] 3 z zn:=fun h0=>by
   have hb:cG N.ns l i=none:=by unfold cG;rw[hx];simp only;rw[if_pos h0]
   refine⟨i+1,rfl,?_,rfl,rfl,rfl,⟨hi,by rw[←cI hi hb];exact h2,fun j hj=>?_⟩,by show l.length - (i+1)<l.length - i;omega⟩
   ·show _=[(0,N.bT N.p1),(1,cW 0 0 0),(2,bd ((l.take (i+1)).map fF))]
    rw[htk,List.map_append];rfl
   ·by_cases e:j=i
    ·subst e;exact hb
    ·exact h3 j (by omega)
  have hc:decide ((i:Int)<(N.np:Int))=true:=by simp;omega
  refine t100 (Ze z zn i N (bc el (l.map ae.row).flatten) x ((l.take i).map fF) (aj _ _ _ _ _ _ _ _ _) ⟨fun _=>?_,nC1 hc⟩)
  (repeat' first|(with_reducible first|exact rfl|assumption|apply And.intro|exact(by omega:i<N.np)|exact(hkT (by assumption)).no|exact(hkF (by assumption)).no|exact(hkT (by assumption)).ex|exact(hkF (by assumption)).ex|exact gZ _ hps rfl|exact bK (by omega))|exact(rfl:gP _ _=_)|exact hnet _|intro hq)
  all_goals clear hrow hel hz hL hlen hps
  all_goals try (have hm1:=(hmT (by assumption)).1 ((hkT (by assumption)).Dk (by with_reducible assumption)))
  all_goals try (have hm1:=(hmF (by assumption)).1 ((hkF (by assumption)).Dk (by with_reducible assumption)))
  all_goals try (have hm1:=fun h=>(hkT (by assumption)).Jk (by with_reducible assumption) ((hmT (by assumption)).2 h))
  all_goals try (have hm1:=fun h=>(hkF (by assumption)).Jk (by with_reducible assumption) ((hmF (by assumption)).2 h))
  all_goals clear hk hkT hkF hmT hmF
  all_goals first
   |(refine ret _ ?_ (by decide)
     clear ret jC h2 h3 hr
     rw[hlk]
     clear hlk
     (repeat' split)<;>first|rfl|(exfalso;simp only[bS1,bS2,bS3] at*;omega)|(exfalso;simp_all;done))
   |(have h0:fq N.ns l i x=0:=by
      clear ret jC h2 h3 hr
      rw[hlk]
      clear hlk
      (repeat' split)<;>first|rfl|(exfalso;simp only[bS1,bS2,bS3] at*;omega)|(exfalso;simp_all;done)
     have q:=jC h0
     unfold fF at q
     rw[show x.sf=_ by assumption] at q
     rw[ff]
     exact q)
 ·have hc:decide ((i:Int)<(N.np:Int))=false:=by simp;omega
  refine t100 (Ze z zn i N ⟨[],0,0,0,true,true,0,true⟩ ⟨0,0,0,true⟩ ((l.take i).map fF) (aj _ _ _ _ _ _ _ _ _) ⟨nC1 hc,fun _=>?_⟩)
  (repeat' first|(with_reducible first|exact rfl|assumption|apply And.intro)|exact hnet _)
  rw[dy (by omega)] at h2
  refine du (bw ?_)
  rw[←h2]
  rfl
theorem LM(hz:ax z zn)(hg:eO prog z gP)(N:aJ)(hn:N.ns<=64)(l:List ae)(hN:N.np=l.length)(hnet: ∀σ:bk,aG (ay σ []) (N.bT N.p1)=some (N.bT N.p1))(hL:bW z 4 (l.map ae.row))(cl:Bool)(hcl:(aP N.ns l).2=0->A1 z zn 59 [N.p1,iv N.ns] [] 0 0 (.bool cl) [])(r:Int × Int × Int)
 (hr:r=if (aP N.ns l).2≠0 then (4,aP N.ns l) else if cl=true then (0,0,0) else (4,0,18)):
 A1 z zn 29 [.agg ⟨N.gQ N.p1⟩] [] 0 0 (.agg ⟨[zv r.1,zv r.2.1,zv r.2.2]⟩) []:=by
 have hcl':(if (aP N.ns l).2=0 then (0:Int) else 4)=0->A1 z zn 59 [N.p1,iv N.ns] [] 0 0 (.bool cl) []:=fun h=>hcl (by
  split at h
  ·assumption
  ·cases h)
 have hK:=KM hz hg N hn l hN hnet hL (aP N.ns l) rfl
 refine cS hg (fn:=f29) (by kernel_rfl) (by kernel_rfl) hz ⟨by decide,by decide⟩ rfl (fcp z zn N (if (aP N.ns l).2=0 then 0 else 4) (aP N.ns l).1 (aP N.ns l).2 cl _ ?_)
 (repeat' first|(with_reducible first|exact rfl|assumption|apply And.intro|exact hcl' ‹_›)|exact(rfl:gP _ _=_)|exact hK|exact hnet _|intro hq)
 all_goals first
  |(refine yW ?_
    rw[hr]
    by_cases h:(aP N.ns l).2=0<;>simp_all;done)
theorem IB(hz:ax z zn)(hg:eO prog z gP)(N:aJ)(hnet: ∀σ:bk,aG (ay σ []) (N.bT az)=some (N.bT az))(cl:Bool)(hcl:A1 z zn 59 [az,iv N.ns] [] 0 0 (.bool cl) [])(r:Int × Int × Int)
 (hr:r=if cl=true then (0,0,0) else (4,0,18)):
 A1 z zn 29 [.agg ⟨N.gQ az⟩] [] 0 0 (.agg ⟨[zv r.1,zv r.2.1,zv r.2.2]⟩) []:=by
 have hL:ai prog (ah (ag f29) 0) 3 78 wa [(0,N.bT az),(1,cW 0 0 0),(2,bd [])] 3 z zn (Al.R (Sv z zn N).l):=by
  refine an hD hg (α:=Nat) 3 78 3 (fun i=>i=0) (fun i=>wa) (fun i=>[(0,N.bT az),(1,cW 0 0 0),(2,bd [])]) (fun _=>z) (fun _=>zn) (fun i=>1) _ (fun i hI=>?_) 0 rfl
  refine t100 (VH z zn N (aj _ _ _ _ _ _ _ _ _) ?_)
  (repeat' first|(with_reducible first|exact rfl|assumption|apply And.intro)|exact hnet _)
  all_goals first|exact bw trivial|trace_state
 refine cS hg (fn:=f29) (by kernel_rfl) (by kernel_rfl) hz ⟨by decide,by decide⟩ rfl (Xb z zn N cl _ ?_)
 (repeat' first|(with_reducible first|exact rfl|assumption|apply And.intro)|exact(rfl:gP _ _=_)|exact hL|exact hnet _|intro hq)
 all_goals first
  |(refine yW ?_
    rw[hr]
    simp_all;done)
end
end Go.Proofs.Nw
namespace Go.Proofs.Nw
open Go Go.AV Tryz
set_option maxRecDepth 100000
section
variable{z:T aa}{zn:Nat}
theorem G4(d w c:Int)(hz:ax z zn)(hg:eO prog z gP)(l:List bE)(cp:Nat)(e:TypeId)(he:z.get 5=some (.ak (bc e (l.map bE.row).flatten)))(hl:l.length<100000)(i:Nat)(x:bE)(hx:l[i]? =some x)(b:Bool)(hb:b=(l.take i).any fun y=>y.id.data==x.id.data):
 ai prog (ah (ah (ag f37) 0) 0) 2 88 (vX i 0) [(0,ve (tb 5 l.length cp) d w c),(1,J7 x)] 2 z zn (Al.R (Se z zn i (ve (tb 5 l.length cp) d w c) x b).l):=by
 have hil:i<l.length:=(List.getElem?_eq_some_iff.1 hx).1
 refine an hD hg (α:=Nat) 2 88 2 (fun k=>k<=i/\((l.take k).any fun y=>y.id.data==x.id.data)=false) (fun k=>vX i k) (fun _=>[(0,ve (tb 5 l.length cp) d w c),(1,J7 x)]) (fun _=>z) (fun _=>zn) (fun k=>i - k) _ (fun k hI=>?_) 0 ⟨Nat.zero_le _,rfl⟩
 obtain⟨h1,h2⟩:=hI
 have hlen:=aM (row:=bE.row) (sz:=6) l fun _=>rfl
 have rx:aC prog (bc e (l.map bE.row).flatten) 9 (0+i*6+0)=some (.string x.id):=aX (r:=x.row) (j:=0) underlying9 rfl hlen (by rw[List.getElem?_map,hx];rfl) rfl
 by_cases hk:k<i
 ·obtain⟨y,hy⟩:=ez (l:=l) (i:=k) (by omega)
  have ry:aC prog (bc e (l.map bE.row).flatten) 9 (0+k*6+0)=some (.string y.id):=aX (r:=y.row) (j:=0) underlying9 rfl hlen (by rw[List.getElem?_map,hy];rfl) rfl
  have hc:decide ((k:Int)<(i:Int))=true:=by simp;omega
  refine t100 (RC z zn i k l.length cp (bc e (l.map bE.row).flatten) x y d w c (aj _ _ _ _ _ _ _ _ _) ⟨fun _=>?_,nC1 hc⟩)
  (repeat' first|(with_reducible first|exact rfl|assumption|apply And.intro|exact(by omega:k<l.length)|exact bK (by omega))|intro hq)
  ·rw[oC] at hq
   exact bw (by rw[hb];exact any_true hy hk hq)
  ·rw[oC] at hq
   exact⟨k+1,rfl,rfl,rfl,rfl,rfl,⟨hk,by rw[ju hy,h2,hq];rfl⟩,by show i - (k+1)<i - k;omega⟩
 ·have hc:decide ((k:Int)<(i:Int))=false:=by simp;omega
  refine t100 (RC z zn i k l.length cp (bc e (l.map bE.row).flatten) x x d w c (aj _ _ _ _ _ _ _ _ _) ⟨nC1 hc,fun _=>?_⟩)
  (repeat' first|(with_reducible first|exact rfl|assumption|apply And.intro))
  refine du (bw ?_)
  rw[hb,←h2,show k=i by omega]
theorem KA(d w c:Int)(hz:ax z zn)(hg:eO prog z gP)(l:List bE)(cp:Nat)(ht:bW z 5 (l.map bE.row))(hl:l.length<100000)(r:Int × Int)(hr:scan (dU l) l.length 0=r):
 ai prog (ah (ag f37) 0) 1 88 (rF 0) [(0,ve (tb 5 l.length cp) d w c)] 1 z zn (Al.R (Sf z zn (ve (tb 5 l.length cp) d w c) r.1 r.2).l):=by
 refine an hD hg (α:=Nat) 1 88 1 (fun i=>i<=l.length/\scan (dU l) (l.length - i) i=r) (fun i=>rF i) (fun i=>[(0,ve (tb 5 l.length cp) d w c)]) (fun _=>z) (fun _=>zn) (fun i=>l.length - i) _ (fun i hI=>?_) 0 ⟨Nat.zero_le _,hr⟩
 obtain⟨h1,h2⟩:=hI
 by_cases hi:i<l.length
 ·obtain⟨e,he⟩:=ht.ak (i:=i) (by simpa using hi)
  obtain⟨x,hx⟩:=ez hi
  have hid:=TO (ht.sz (i:=i) (r:=x.row) (s:=x.id) (by rw[List.getElem?_map,hx];rfl) (by simp))
  have hlen:=aM (row:=bE.row) (sz:=6) l fun _=>rfl
  have hr:(l.map bE.row)[i]? =some x.row:=by rw[List.getElem?_map,hx];rfl
  have r0:aC prog (bc e (l.map bE.row).flatten) 84 (0+i*6)=some (.agg ⟨x.row⟩):=bC (r:=x.row) (sz:=6) underlying84 rfl rfl hlen hr
  have hL:=G4 d w c hz hg l cp e he hl i x hx _ rfl
  generalize hb:((l.take i).any fun y=>y.id.data==x.id.data)=b at hL
  have hc:decide ((i:Int)<(l.length:Int))=true:=by simp;omega
  have ret: ∀e:Int,dU l i=some e->Al.R (Sf z zn (ve (tb 5 l.length cp) d w c) r.1 r.2).l ⟨.ret,[(2,iv i),(3,zv e)],[],1,z,zn⟩:=fun e h=>by
   have:r=((i:Int),e):=by rw[←h2,c9 hi h]
   rw[this];exact bw trivial
  have hbad:dU l i=if bM x.id=false then some 12 else if b=true then some 6 else if (yu x.cd 0 1000000 && yu x.bZ 1 8 && yu x.bY 1 16 && yu x.aH 0 86400 && yu x.lH 1 255)=false then some 2 else none:=by
   simp only[dU,hx,hb]
  refine t100 (X7 z zn i l.length cp (bc e (l.map bE.row).flatten) x b d w c (aj _ _ _ _ _ _ _ _ _) ⟨fun _=>?_,nC1 hc⟩)
  (repeat' first|(with_reducible first|exact rfl|assumption|apply And.intro|exact bK (by omega))|exact(rfl:gP _ _=_)|exact hL|intro hq)
  all_goals clear hL r0 hr hlen he ht hz
  all_goals first
   |with_reducible assumption
   |rfl
   |(refine ret _ ?_;clear ret h2;rw[hbad];(try simp only[fold] at*);simp_all;done)
   |(refine ret _ ?_;clear ret h2;rw[hbad];(try simp only[fold] at*);simp_all;omega)
   |(have hb0:dU l i=none:=by
      clear ret h2
      rw[hbad,if_neg (by simp_all),if_neg (by simp_all),if_neg (by(try simp only[fold] at*);simp_all;done)]
     exact⟨i+1,rfl,rfl,rfl,rfl,rfl,⟨hi,by rw[←cI hi hb0];exact h2⟩,by show l.length - (i+1)<l.length - i;omega⟩)
 ·have hc:decide ((i:Int)<(l.length:Int))=false:=by simp;omega
  refine t100 (X7 z zn i l.length cp ⟨[],0,0,0,true,true,0,true⟩ ⟨⟨#[]⟩,0,0,0,0,0⟩ true d w c (aj _ _ _ _ _ _ _ _ _) ⟨nC1 hc,fun _=>?_⟩)
  (repeat' first|(with_reducible first|exact rfl|assumption|apply And.intro))
  refine du (bw ?_)
  rw[dy (by omega)] at h2
  rw[←h2]
  exact⟨rfl,rfl⟩
theorem Ix(hz:ax z zn)(hg:eO prog z gP)(l:List bE)(cp:Nat)(ht:bW z 5 (l.map bE.row))(d w c:Int):
 A1 z zn 37 [.agg ⟨[tb 5 l.length cp,zv d,zv w,zv c]⟩] [] 0 0 (.tuple ⟨[zv (bt d w c l).1,zv (bt d w c l).2]⟩) []:=by
 refine cS hg (fn:=f37) (by kernel_rfl) (by kernel_rfl) hz ⟨by decide,by decide⟩ rfl (frf z zn l.length cp (bt d w c l).1 (bt d w c l).2 d w c _ ?_)
 cases hf:eV d w c with
 |false=>
  have hr:bt d w c l=(-1,2):=if_pos hf
  rw[hr]
  unfold eV at hf
  (repeat' first|(with_reducible first|exact rfl|assumption|apply And.intro|exact q1)|exact(rfl:gP _ _=_)|exact q1|intro hq)
  all_goals (exfalso;(try simp only[fold] at*);simp_all;done)
 |true=>
  by_cases h:16<l.length
  ·have hr:bt d w c l=(0,5):=by unfold bt;rw[if_neg (by simp[hf]),if_pos h]
   have hc:decide ((l.length:Int)>16)=true:=by simp;omega
   rw[hr]
   unfold eV at hf
   (repeat' first|(with_reducible first|exact rfl|assumption|apply And.intro|exact q1)|exact(rfl:gP _ _=_)|exact q1|intro hq)
   all_goals (exfalso;(try simp only[fold] at*);simp_all;done)
  ·have hr:bt d w c l=scan (dU l) l.length 0:=by unfold bt;rw[if_neg (by simp[hf]),if_neg h]
   have hc:decide ((l.length:Int)>16)=false:=by simp;omega
   have hL:=KA d w c hz hg l cp ht (by omega) (bt d w c l) hr.symm
   unfold eV at hf
   (repeat' first|(with_reducible first|exact rfl|assumption|apply And.intro|exact q1)|exact(rfl:gP _ _=_)|exact hL|intro hq)
   all_goals first|(rw[hq.1,hq.2];exact q1)|(exfalso;(try simp only[fold] at*);simp_all;done)|trace_state
end
end Go.Proofs.Nw
namespace Go.Proofs.Nw
open Go Go.AV Tryz
set_option maxHeartbeats 4000000
set_option maxRecDepth 100000
section
variable{z:T aa}{zn:Nat}
theorem EZ(hz:ax z zn)(hg:eO prog z gP):A1 z zn 32 [az] [] 0 0 (.tuple ⟨[I 0,I 0]⟩) []:=by
 have hL:ai prog (ah (ag f32) 0) 0 57 tQ [] 0 z zn (Al.R (Sn z zn 57).l):=by
  refine an hD hg (α:=Unit) 0 57 0 (fun _=>True) (fun _=>tQ) (fun _=>[]) (fun _=>z) (fun _=>zn) (fun _=>0) _ (fun i hI=>?_) () trivial
  refine t100 (Vw z zn (aj _ _ _ _ _ _ _ _ _) ?_)
  (repeat' first|(with_reducible first|exact rfl|assumption|apply And.intro))
  exact bw trivial
 refine cS hg (fn:=f32) (by kernel_rfl) (by kernel_rfl) hz ⟨by decide,by decide⟩ rfl (W1 z zn _ ?_)
 (repeat' first|(with_reducible first|exact rfl|assumption|apply And.intro|exact q1)|exact hL|intro hq)
theorem Ci(hz:ax z zn)(hg:eO prog z gP):A1 z zn 33 [az] [] 0 0 (.tuple ⟨[I 0,I 0]⟩) []:=by
 have hL:ai prog (ah (ag f33) 0) 0 48 tQ [] 0 z zn (Al.R (Sn z zn 48).l):=by
  refine an hD hg (α:=Unit) 0 48 0 (fun _=>True) (fun _=>tQ) (fun _=>[]) (fun _=>z) (fun _=>zn) (fun _=>0) _ (fun i hI=>?_) () trivial
  refine t100 (Vx z zn (aj _ _ _ _ _ _ _ _ _) ?_)
  (repeat' first|(with_reducible first|exact rfl|assumption|apply And.intro))
  exact bw trivial
 refine cS hg (fn:=f33) (by kernel_rfl) (by kernel_rfl) hz ⟨by decide,by decide⟩ rfl (W2 z zn _ ?_)
 (repeat' first|(with_reducible first|exact rfl|assumption|apply And.intro|exact q1)|exact hL|intro hq)
theorem LL(hz:ax z zn)(hg:eO prog z gP)(d w c:Int):A1 z zn 28 [.agg ⟨[az,zv d,zv w,zv c]⟩] [] 0 0 (.tuple ⟨[zv (bt d w c []).1,zv (bt d w c []).2]⟩) []:=by
 have hL:ai prog (ah (ag f28) 0) 2 79 vY [(1,bd [])] 2 z zn (Al.R (Sk z zn).l):=by
  refine an hD hg (α:=Unit) 2 79 2 (fun _=>True) (fun _=>vY) (fun _=>[(1,bd [])]) (fun _=>z) (fun _=>zn) (fun _=>0) _ (fun i hI=>?_) () trivial
  refine t100 (Vz z zn (aj _ _ _ _ _ _ _ _ _) ?_)
  (repeat' first|(with_reducible first|exact rfl|assumption|apply And.intro))
  exact bw trivial
 refine cS hg (fn:=f28) (by kernel_rfl) (by kernel_rfl) hz ⟨by decide,by decide⟩ rfl (W6 z zn d w c _ ?_)
 (repeat' first|(with_reducible first|exact rfl|assumption|apply And.intro)|exact(rfl:gP _ _=_)|exact hL|intro hq)
 all_goals first
  |(have hf:eV d w c=false:=by(simp only[Bool.not_eq_true',Bool.not_eq_false'] at*;simp only[eV,yu, *,Bool.false_and,Bool.and_false,Bool.true_and,Bool.and_true])
    have hr:bt d w c []=(-1,2):=if_pos hf
    rw[hr];exact q1)
  |(have hf:eV d w c=true:=by(simp only[Bool.not_eq_true',Bool.not_eq_false'] at*;simp only[eV,yu, *,Bool.false_and,Bool.and_false,Bool.true_and,Bool.and_true])
    have hr:bt d w c []=(0,0):=by unfold bt;rw[if_neg (by simp[hf]),if_neg (by simp)];rfl
    rw[hr];exact q1)
theorem E2(hz:ax z zn)(hg:eO prog z gP)(d w c:Int):A1 z zn 37 [.agg ⟨[az,zv d,zv w,zv c]⟩] [] 0 0 (.tuple ⟨[zv (bt d w c []).1,zv (bt d w c []).2]⟩) []:=by
 have hL:ai prog (ah (ag f37) 0) 1 88 (rF 0) [(0,ve az d w c)] 1 z zn (Al.R (Wo z zn d w c).l):=by
  refine an hD hg (α:=Unit) 1 88 1 (fun _=>True) (fun _=>rF 0) (fun _=>[(0,ve az d w c)]) (fun _=>z) (fun _=>zn) (fun _=>0) _ (fun i hI=>?_) () trivial
  refine t100 (Vy z zn d w c (aj _ _ _ _ _ _ _ _ _) ?_)
  (repeat' first|(with_reducible first|exact rfl|assumption|apply And.intro))
  exact bw trivial
 refine cS hg (fn:=f37) (by kernel_rfl) (by kernel_rfl) hz ⟨by decide,by decide⟩ rfl (W3 z zn d w c _ ?_)
 (repeat' first|(with_reducible first|exact rfl|assumption|apply And.intro)|exact(rfl:gP _ _=_)|exact hL|intro hq)
 all_goals first
  |(have hf:eV d w c=false:=by(simp only[Bool.not_eq_true',Bool.not_eq_false'] at*;simp only[eV,yu, *,Bool.false_and,Bool.and_false,Bool.true_and,Bool.and_true])
    have hr:bt d w c []=(-1,2):=if_pos hf
    rw[hr];exact q1)
  |(have hf:eV d w c=true:=by(simp only[Bool.not_eq_true',Bool.not_eq_false'] at*;simp only[eV,yu, *,Bool.false_and,Bool.and_false,Bool.true_and,Bool.and_true])
    have hr:bt d w c []=(0,0):=by unfold bt;rw[if_neg (by simp[hf]),if_neg (by simp)];rfl
    rw[hr];exact q1)
end
section
variable{z:T aa}{zn:Nat}
theorem LP(hz:ax z zn)(hg:eO prog z gP)(a b c d e f:Int):
 A1 z zn 24 [.slice (some ⟨0,0,none⟩) 2 2] [(0,Ji a b c d e f)] 1 1 (.agg ⟨[zv (pk c f a d),zv (pk c f b e),zv (pk c f c f)]⟩) []:=by
 have hL:ai prog (ah (ag f24) 0) 2 17 (zM 0) [(0,Ji a b c d e f),(1,cW 0 0 0)] 2 z zn (Al.R (Wq z zn a b c d e f (pk c f a d) (pk c f b e) (pk c f c f)).l):=by
  refine an hD hg (α:=Nat) 2 17 2 (fun i=>i<=2/\(0<i->c=0)/\(1<i->f=0)) (fun i=>zM i) (fun _=>[(0,Ji a b c d e f),(1,cW 0 0 0)]) (fun _=>z) (fun _=>zn) (fun i=>2 - i) _ (fun i hI=>?_) 0 ⟨by omega,fun h=>by omega,fun h=>by omega⟩
  obtain⟨h1,h2,h3⟩:=hI
  match i,h1 with
  |0,_=>
   refine t100 (VF z zn 0 a b c d e f 0 0 0 (aj _ _ _ _ _ _ _ _ _) ?_)
   (repeat' first|(with_reducible first|exact rfl|assumption|apply And.intro)|intro hq)
   all_goals first
    |(have h:c≠0:=by simpa using hq
      have ea:pk c f a d=a:=if_pos h
      have eb:pk c f b e=b:=if_pos h
      have ec:pk c f c f=c:=if_pos h
      rw[ea,eb,ec]
      exact bw ⟨ea.symm,eb.symm,ec.symm⟩)
    |(have h:c=0:=by simpa using hq
      exact⟨1,rfl,rfl,rfl,rfl,rfl,⟨by omega,fun _=>h,fun h=>by omega⟩,by decide⟩)
  |1,_=>
   have h0:=h2 (by omega)
   refine t100 (VE z zn 0 a b c d e f 0 0 0 (aj _ _ _ _ _ _ _ _ _) ?_)
   (repeat' first|(with_reducible first|exact rfl|assumption|apply And.intro)|intro hq)
   all_goals first
    |(have h:f≠0:=by simpa using hq
      have ea:pk c f a d=d:=by unfold pk;rw[if_neg (by simp[h0]),if_pos h]
      have eb:pk c f b e=e:=by unfold pk;rw[if_neg (by simp[h0]),if_pos h]
      have ec:pk c f c f=f:=by unfold pk;rw[if_neg (by simp[h0]),if_pos h]
      rw[ea,eb,ec]
      exact bw ⟨ea.symm,eb.symm,ec.symm⟩)
    |(have h:f=0:=by simpa using hq
      exact⟨2,rfl,rfl,rfl,rfl,rfl,⟨by omega,fun _=>h0,fun _=>h⟩,by decide⟩)
  |2,_=>
   refine t100 (VD z zn 0 a b c d e f 0 0 0 (aj _ _ _ _ _ _ _ _ _) ?_)
   (repeat' first|(with_reducible first|exact rfl|assumption|apply And.intro))
   all_goals first|exact du (bw ⟨h2 (by omega),h3 (by omega)⟩)|trace_state
 refine cS hg (fn:=f24) (by kernel_rfl) (by kernel_rfl) hz ⟨by decide,by decide⟩ rfl (ffi z zn 0 a b c d e f (pk c f a d) (pk c f b e) (pk c f c f) _ ?_)
 (repeat' first|(with_reducible first|exact rfl|assumption|apply And.intro)|exact hL|intro hq)
 all_goals first
  |(obtain⟨e1,e2,e3⟩:=hq
    exact q1)
  |(obtain⟨e1,e2⟩:=hq
    refine yW ?_
    simp[pk,e1,e2];done)
def iB(s r:Int × Int)(u k p:Int × Int × Int)(f:Int × Int):Int × Int × Int:=
 if s.2≠0 then (0,s.1,s.2) else if r.2≠0 then (1,r.1,r.2) else if u.2.2≠0 then u else if k.2.2≠0 then k else if p.2.2≠0 then p else if f.2≠0 then (5,f.1,f.2) else (0,0,0)
theorem LR(hz:ax z zn)(hg:eO prog z gP)(N:aJ)(s r:Int × Int)(u k p:Int × Int × Int)(f:Int × Int)(hnet:br (sig []) [.agg ⟨N.cells⟩]=some [.agg ⟨N.cells⟩])
 (hs1:br (sig []) [.slice N.sa N.ns N.sc]=some [.slice N.sa N.ns N.sc]) (hr1:br (sig []) [.slice N.ra N.nr N.rc]=some [.slice N.ra N.nr N.rc]) (hf1:br (sig []) [.agg ⟨[.slice N.fa N.nf N.fc,zv N.d,zv N.w,zv N.c]⟩]=some [.agg ⟨[.slice N.fa N.nf N.fc,zv N.d,zv N.w,zv N.c]⟩])
 (hs:A1 z zn 22 [.slice N.sa N.ns N.sc] [] 0 0 (.tuple ⟨[zv s.1,zv s.2]⟩) [])
 (hr:A1 z zn 23 [.slice N.ra N.nr N.rc] [] 0 0 (.tuple ⟨[zv r.1,zv r.2]⟩) [])
 (hu:s.2=0->r.2=0->A1 z zn 26 [.agg ⟨N.cells⟩] [] 0 0 (.agg ⟨[zv u.1,zv u.2.1,zv u.2.2]⟩) [])
 (hk:s.2=0->r.2=0->u.2.2=0->A1 z zn 27 [.agg ⟨N.cells⟩] [] 0 0 (.agg ⟨[zv k.1,zv k.2.1,zv k.2.2]⟩) [])
 (hp:s.2=0->r.2=0->u.2.2=0->k.2.2=0->A1 z zn 29 [.agg ⟨N.cells⟩] [] 0 0 (.agg ⟨[zv p.1,zv p.2.1,zv p.2.2]⟩) [])
 (hf:A1 z zn 28 [.agg ⟨[.slice N.fa N.nf N.fc,zv N.d,zv N.w,zv N.c]⟩] [] 0 0 (.tuple ⟨[zv f.1,zv f.2]⟩) []):
 A1 z zn 10 [.agg ⟨N.cells⟩] [] 0 0 (.tuple ⟨[zv (iB s r u k p f).1,zv (iB s r u k p f).2.1,zv (iB s r u k p f).2.2]⟩) []:=by
 have pk0: ∀{c f:Int},(pk c f c f==0)=true->c=0/\f=0:=fun {c f} h=>by
  unfold pk at h
  split at h
  ·rename_i h1;exact(h1 (by simpa using h)).elim
  ·rename_i h1
   split at h
   ·rename_i h2;exact(h2 (by simpa using h)).elim
   ·rename_i h2;exact⟨by simpa using h1,by simpa using h2⟩
 have pk1: ∀{c f:Int},(pk c f c f==0)=false-> ¬(c=0/\f=0):=fun {c f} h ⟨h1,h2⟩=>by
  subst h1 h2;simp[pk] at h
 refine cS hg (fn:=f10) (by kernel_rfl) (by kernel_rfl) hz ⟨by decide,by decide⟩ rfl (Xe z zn N s.1 s.2 r.1 r.2 f.1 f.2 u.1 u.2.1 u.2.2 k.1 k.2.1 k.2.2 p.1 p.2.1 p.2.2 _ ?_)
 (repeat' first|(with_reducible first|exact rfl|assumption|apply And.intro)|exact(rfl:gP _ _=_)|exact LP hz hg _ _ _ _ _ _|intro hq)
 all_goals try (have e1:=pk0 (by with_reducible assumption);obtain⟨e1,e2⟩:=e1)
 all_goals try (have e1:=pk1 (by with_reducible assumption))
 all_goals clear pk1
 all_goals try (have e3:u.2.2=0:=by simpa using (by assumption:(u.2.2==0)=true))
 all_goals try (have e4:k.2.2=0:=by simpa using (by assumption:(k.2.2==0)=true))
 all_goals first
  |exact congrArg Value.bool (by assumption)
  |exact hu e1 e2
  |exact hk e1 e2 e3
  |exact hp e1 e2 e3 e4
  |(refine yW ?_
    clear hs hr hu hk hp hf hs1 hr1 hf1 hnet pk0
    simp only[pk,iB]
    (repeat' split)<;>first|rfl|(exfalso;simp_all;done))
end
def pM(er:Nat->Int)(i:Nat):Option Int:=if er i=0 then none else some (er i)
theorem jV{x:Int}(h:(x !=0)=false):x=0:=by simpa using h
section
variable{z:T aa}{zn:Nat}
theorem KQ(hz:ax z zn)(hg:eO prog z gP)(N:aJ)(hl:N.nu<100000)(er:Nat->Int)(hnet: ∀σ:bk,aG (ay σ []) N.box=some N.box)(hv:aT (sig []) (.agg ⟨N.cells⟩)=some (.agg ⟨N.cells⟩))
 (hc: ∀i,i<N.nu->(∀j,j<i->er j=0)->A1 z zn 34 [.agg ⟨N.cells⟩,iv i] [] 0 0 (zv (er i)) []) (r:Int × Int) (hr:scan (pM er) N.nu 0=r):
 ai prog (ah (ag f13) 0) 1 84 (BL 0) [(0,N.box)] 1 z zn (Al.R (Sh z zn N r.1 r.2).l):=by
 refine an hD hg (α:=Nat) 1 84 1 (fun i=>i<=N.nu/\scan (pM er) (N.nu - i) i=r/\ ∀j,j<i->er j=0) (fun i=>BL i) (fun i=>[(0,N.box)]) (fun _=>z) (fun _=>zn) (fun i=>N.nu - i) _ (fun i hI=>?_) 0 ⟨Nat.zero_le _,hr,fun j hj=>by omega⟩
 obtain⟨h1,h2,h3⟩:=hI
 by_cases hi:i<N.nu
 ·have hdc:decide ((i:Int)<(N.nu:Int))=true:=by simp;omega
  have hcc:=hc i hi h3
  have ha:br (sig []) [.agg ⟨N.cells⟩,iv i]=some [.agg ⟨N.cells⟩,iv i]:=kP hv rfl
  refine t100 (Zh z zn i N (er i) (aj _ _ _ _ _ _ _ _ _) ⟨fun _=>?_,nC1 hdc⟩)
  (repeat' first|(with_reducible first|exact rfl|assumption|apply And.intro|exact bK (by omega))|exact hnet _|intro hq)
  all_goals first
   |(have h:er i≠0:=by simpa using (by assumption:(er i !=0)=true)
     have hb:pM er i=some (er i):=if_neg h
     have e:r=((i:Int),er i):=by rw[←h2,c9 hi hb]
     rw[e]
     exact bw h)
   |(have h:er i=0:=by simpa using (by assumption:(er i !=0)=false)
     have hb:pM er i=none:=if_pos h
     refine⟨i+1,rfl,rfl,rfl,rfl,rfl,⟨hi,by rw[←cI hi hb];exact h2,fun j hj=>?_⟩,by show N.nu - (i+1)<N.nu - i;omega⟩
     by_cases e:j=i
     ·subst e;exact h
     ·exact h3 j (by omega))
 ·have hdc:decide ((i:Int)<(N.nu:Int))=false:=by simp;omega
  refine t100 (Zh z zn i N 0 (aj _ _ _ _ _ _ _ _ _) ⟨nC1 hdc,fun _=>?_⟩)
  (repeat' first|(with_reducible first|exact rfl|assumption|apply And.intro)|exact hnet _)
  rw[dy (by omega)] at h2
  refine du (bw ?_)
  rw[←h2]
theorem KP(hz:ax z zn)(hg:eO prog z gP)(N:aJ)(hl:N.nl<100000)(er:Nat->Int)(hnet: ∀σ:bk,aG (ay σ []) N.box=some N.box)(hv:aT (sig []) (.agg ⟨N.cells⟩)=some (.agg ⟨N.cells⟩))
 (hc: ∀i,i<N.nl->(∀j,j<i->er j=0)->A1 z zn 35 [.agg ⟨N.cells⟩,iv i] [] 0 0 (zv (er i)) []) (r:Int × Int) (hr:scan (pM er) N.nl 0=r):
 ai prog (ah (ag f13) 1) 1 84 (BK 0) [(0,N.box)] 1 z zn (Al.R (Sg z zn N r.1 r.2).l):=by
 refine an hD hg (α:=Nat) 1 84 1 (fun i=>i<=N.nl/\scan (pM er) (N.nl - i) i=r/\ ∀j,j<i->er j=0) (fun i=>BK i) (fun i=>[(0,N.box)]) (fun _=>z) (fun _=>zn) (fun i=>N.nl - i) _ (fun i hI=>?_) 0 ⟨Nat.zero_le _,hr,fun j hj=>by omega⟩
 obtain⟨h1,h2,h3⟩:=hI
 by_cases hi:i<N.nl
 ·have hdc:decide ((i:Int)<(N.nl:Int))=true:=by simp;omega
  have hcc:=hc i hi h3
  have ha:br (sig []) [.agg ⟨N.cells⟩,iv i]=some [.agg ⟨N.cells⟩,iv i]:=kP hv rfl
  refine t100 (Zg z zn i N (er i) (aj _ _ _ _ _ _ _ _ _) ⟨fun _=>?_,nC1 hdc⟩)
  (repeat' first|(with_reducible first|exact rfl|assumption|apply And.intro|exact bK (by omega))|exact hnet _|intro hq)
  all_goals first
   |(have h:er i≠0:=by simpa using (by assumption:(er i !=0)=true)
     have hb:pM er i=some (er i):=if_neg h
     have e:r=((i:Int),er i):=by rw[←h2,c9 hi hb]
     rw[e]
     exact bw h)
   |(have h:er i=0:=by simpa using (by assumption:(er i !=0)=false)
     have hb:pM er i=none:=if_pos h
     refine⟨i+1,rfl,rfl,rfl,rfl,rfl,⟨hi,by rw[←cI hi hb];exact h2,fun j hj=>?_⟩,by show N.nl - (i+1)<N.nl - i;omega⟩
     by_cases e:j=i
     ·subst e;exact h
     ·exact h3 j (by omega))
 ·have hdc:decide ((i:Int)<(N.nl:Int))=false:=by simp;omega
  refine t100 (Zg z zn i N 0 (aj _ _ _ _ _ _ _ _ _) ⟨nC1 hdc,fun _=>?_⟩)
  (repeat' first|(with_reducible first|exact rfl|assumption|apply And.intro)|exact hnet _)
  rw[dy (by omega)] at h2
  refine du (bw ?_)
  rw[←h2]
theorem Iy(hz:ax z zn)(hg:eO prog z gP)(N:aJ)(s r p f u k:Int × Int)(eu el:Nat->Int)(hnet: ∀σ:bk,aG (ay σ []) N.box=some N.box)(hv:aT (sig []) (.agg ⟨N.cells⟩)=some (.agg ⟨N.cells⟩))
 (hs1:br (sig []) [.slice N.sa N.ns N.sc]=some [.slice N.sa N.ns N.sc]) (hr1:br (sig []) [.slice N.ra N.nr N.rc]=some [.slice N.ra N.nr N.rc]) (hf1:br (sig []) [.agg ⟨[.slice N.fa N.nf N.fc,zv N.d,zv N.w,zv N.c]⟩]=some [.agg ⟨[.slice N.fa N.nf N.fc,zv N.d,zv N.w,zv N.c]⟩])
 (hs:A1 z zn 32 [.slice N.sa N.ns N.sc] [] 0 0 (.tuple ⟨[zv s.1,zv s.2]⟩) [])
 (hr:A1 z zn 33 [.slice N.ra N.nr N.rc] [] 0 0 (.tuple ⟨[zv r.1,zv r.2]⟩) [])
 (hu:s.2=0->r.2=0->N.nu<=1024-> ∀i,i<N.nu->(∀j,j<i->eu j=0)->A1 z zn 34 [.agg ⟨N.cells⟩,iv i] [] 0 0 (zv (eu i)) [])
 (hur:u=if 1024<N.nu then (0,5) else scan (pM eu) N.nu 0)
 (hk:s.2=0->r.2=0->u.2=0->N.nl<=1024-> ∀i,i<N.nl->(∀j,j<i->el j=0)->A1 z zn 35 [.agg ⟨N.cells⟩,iv i] [] 0 0 (zv (el i)) [])
 (hkr:k=if 1024<N.nl then (0,5) else scan (pM el) N.nl 0)
 (hp:s.2=0->r.2=0->u.2=0->k.2=0->A1 z zn 36 [.agg ⟨N.cells⟩] [] 0 0 (.tuple ⟨[zv p.1,zv p.2]⟩) [])
 (hf:A1 z zn 37 [.agg ⟨[.slice N.fa N.nf N.fc,zv N.d,zv N.w,zv N.c]⟩] [] 0 0 (.tuple ⟨[zv f.1,zv f.2]⟩) []):
 A1 z zn 13 [.agg ⟨N.cells⟩] [] 0 0 (.tuple ⟨[zv (iB s r (2,u) (3,k) (4,p) f).1,zv (iB s r (2,u) (3,k) (4,p) f).2.1,zv (iB s r (2,u) (3,k) (4,p) f).2.2]⟩) []:=by
 have hv1:br (sig []) [.agg ⟨N.cells⟩]=some [.agg ⟨N.cells⟩]:=kP hv rfl
 have hL7:s.2=0->r.2=0->decide ((N.nu:Int)>1024)=false->ai prog (ah (ag f13) 0) 1 84 (BL 0) [(0,N.box)] 1 z zn (Al.R (Sh z zn N u.1 u.2).l):=fun h1 h2 h3=>by
  have h3: ¬1024<N.nu:=by simp at h3;omega
  rw[if_neg h3] at hur
  exact KQ hz hg N (by omega) eu hnet hv (hu h1 h2 (by omega)) u hur.symm
 have hL8:s.2=0->r.2=0->u.2=0->decide ((N.nl:Int)>1024)=false->ai prog (ah (ag f13) 1) 1 84 (BK 0) [(0,N.box)] 1 z zn (Al.R (Sg z zn N k.1 k.2).l):=fun h1 h2 h3 h4=>by
  have h4: ¬1024<N.nl:=by simp at h4;omega
  rw[if_neg h4] at hkr
  exact KP hz hg N (by omega) el hnet hv (hk h1 h2 h3 (by omega)) k hkr.symm
 refine cS hg (fn:=f13) (by kernel_rfl) (by kernel_rfl) hz ⟨by decide,by decide⟩ rfl (SO z zn N s.1 s.2 r.1 r.2 u.1 u.2 k.1 k.2 p.1 p.2 f.1 f.2 _ ?_)
 have hu5:decide ((N.nu:Int)>1024)=true->u=(0,5):=fun h=>by rw[hur,if_pos (by simp at h;omega)]
 have hk5:decide ((N.nl:Int)>1024)=true->k=(0,5):=fun h=>by rw[hkr,if_pos (by simp at h;omega)]
 (repeat' first|(with_reducible first|exact rfl|assumption|apply And.intro|exact hp (jV (by assumption)) (jV (by assumption)) (by assumption) (by assumption))|exact hnet _|exact hL7 (jV (by assumption)) (jV (by assumption)) (by assumption)|exact hL8 (jV (by assumption)) (jV (by assumption)) (by assumption) (by assumption)|intro hq)
 all_goals try (have e1:s.2=0:=jV (by assumption))
 all_goals try (have e2:r.2=0:=jV (by assumption))
 all_goals try (have e3:p.2=0:=jV (by assumption))
 all_goals try (have e3:f.2=0:=jV (by assumption))
 all_goals try (have e4:=hu5 (by assumption))
 all_goals try (have e4:=hk5 (by assumption))
 all_goals clear hs hr hu hk hp hf hs1 hr1 hf1 hnet hv hv1 hL7 hL8 hu5 hk5 hur hkr
 all_goals first
  |(refine yW ?_
    simp only[iB]
    (repeat' split)<;>first|rfl|(exfalso;simp_all;done)|(simp_all;done))
end
end Go.Proofs.Nw
namespace Go.Proofs.Nw
open Go Go.AV Tryz
set_option maxRecDepth 100000
theorem jX:ax (T.leaf:T aa) 0:=fun k o h=>by cases h
theorem mh{zg:T aa}:eO prog zg (fun _ _=>none):=fun _ _ _ h=>by cases h
theorem cz{z:T aa}{f:Nat}{args:List Value}{u:Value}(h:A1 .leaf 0 f args [] 0 0 u [])(hp:au u=true)(ha:bA args=true):pX prog z f args u:=by
 obtain⟨h1,h2⟩:=wP h (fun _ _=>rfl) hp (fun k o hk=>by cases hk) (fun σ _=>eS ha)
 exact⟨h1,fun ρ W args' hz hv=>h2 ρ W args' (fun k o hk=>by cases hk) hv⟩
theorem F1{z:T aa}(a b:Int):pX prog z 56 [zv a,zv b] (.bool (decide (0<=a) && decide (a<b))):=by
 refine cz ?_ rfl rfl
 refine aK1 (mh (zg:= .leaf)) (fn:=f56) jX (gwi .leaf 0 a b _ ?_)
 (repeat' first|(with_reducible first|exact rfl|apply And.intro|exact jX)|intro hq)
 all_goals (refine yW ?_;simp_all;try (intros;omega))
theorem Vi{z:T aa}(n a b:Int):pX prog z 63 [zv n,zv a,zv b] (.bool (decide (a<=n) && decide (n<=b))):=by
 refine cz ?_ rfl rfl
 refine aK1 (mh (zg:= .leaf)) (fn:=f63) jX (gin .leaf 0 n a b _ ?_)
 (repeat' first|(with_reducible first|exact rfl|apply And.intro|exact jX)|intro hq)
 all_goals (refine yW ?_;simp_all;try (intros;omega))
theorem Vf{z:T aa}(n a b:Int):pX prog z 58 [zv n,zv a,zv b] (.bool (decide (a<=n) && decide (n<=b))):=by
 refine cz ?_ rfl rfl
 refine aK1 (mh (zg:= .leaf)) (fn:=f58) jX (gpw .leaf 0 n a b _ ?_)
 (repeat' first|(with_reducible first|exact rfl|apply And.intro|exact jX)|intro hq)
 all_goals (refine yW ?_;simp_all;try (intros;omega))
theorem JD{z:T aa}(n:Int):pX prog z 54 [zv n] (.bool (decide (0<=n) && decide (n<8))):=by
 refine cz ?_ rfl rfl
 refine aK1 (mh (zg:= .leaf)) (fn:=f54) jX (gkn .leaf 0 n _ ?_)
 (repeat' first|(with_reducible first|exact rfl|apply And.intro|exact jX)|intro hq)
 all_goals (refine yW ?_;simp_all;try (intros;omega))
theorem Vh{z:T aa}(a b c:Int):pX prog z 25 [zv a,zv b,zv c] (.agg ⟨[zv a,zv b,zv c]⟩):=by
 refine cz ?_ rfl rfl
 refine aK1 (mh (zg:= .leaf)) (fn:=f25) jX (gof .leaf 0 a b c _ ?_)
 (repeat' first|(with_reducible first|exact rfl|apply And.intro|exact jX))
 all_goals (exact q1)
theorem yE{s:ByteArray}{ρ:Ren}{args':List Value}(h:cP ρ [.string s] args'):args'=[.string s]:=by
 cases h with
 |cons _ _ _ _ h1 h2=>
  cases h2
  cases h1 with
  |sc _ _=>rfl
theorem fA(z:T aa):eO prog z gP:=by
 intro f args v h
 unfold gP at h
 split at h
 ·split at h
  ·rename_i s hs
   cases h
   refine⟨rfl,fun ρ W args' _ ha=>?_⟩
   rw[yE ha]
   exact(NL _ W (Nat.le_of_ble_eq_true hs)).mono fun e w' ⟨h1,h2⟩=>⟨h1,by subst h2;exact Go.RowKit.Below.refl _ _⟩
  ·cases h
 ·split at h
  ·rename_i s hs
   cases h
   refine⟨rfl,fun ρ W args' _ ha=>?_⟩
   rw[yE ha]
   exact(NK _ W (Nat.le_of_ble_eq_true hs)).mono fun e w' ⟨h1,h2⟩=>⟨h1,by subst h2;exact Go.RowKit.Below.refl _ _⟩
  ·cases h
 ·cases h;exact JD _
 ·cases h;exact Vf _ _ _
 ·cases h;exact Vh _ _ _
 ·cases h;exact F1 _ _
 ·cases h;exact Vi _ _ _
 ·cases h
end Go.Proofs.Nw
namespace Go.AV
open Go.RowKit
def A2(P:Program)(f:Nat)(args:List Value)(v:Value):Prop:= ∀w,Calls P f ⟨args⟩ w fun e w'=>e= .returned v/\Below w.heap.size w w'
section
variable{P:Program}
theorem yZ{c:cy}(hc:dr P c){f:Nat}{args:List Value}{v:Value}{nx:Nat}(hp:bA args=true)(hv:au v=true)
 (hr:(c f args {heap:= .leaf,next:=nx,log:=[]}).map (·.1)=some v):A2 P f args v:=by
 cases he:c f args {heap:= .leaf,next:=nx,log:=[]} with
 |none=>rw[he] at hr;cases hr
 |some x=>
  obtain⟨v0,h'⟩:=x
  rw[he] at hr
  simp only[Option.map_some,Option.some.injEq] at hr
  subst hr
  intro w
  have hh:aF zj (T.leaf:T aa).get w:=⟨fun b o hb=>absurd hb (by rw[T.dA];simp),fun i j oi oj Li Lj hi=>absurd hi (by rw[T.dA];simp)⟩
  have hk:=(hc _ _ _ _ _ he).2 zj w args 0 (cP.aW hp) hh (fun _ _ _=>rfl)
  refine Calls.mono (hk.calls fun _=>room_wide _) fun e w' hg=>?_
  obtain⟨ρ',v',rfl,h1,h2,h3⟩:=hg
  have e1:=h1.plain hv
  subst e1
  exact⟨rfl,h3.os,h3.tape,h3.output,h3.size,fun r hr=>h3.same r hr fun b o L hb=>absurd hb (by rw[T.dA];simp)⟩
end
end Go.AV
namespace Go.Proofs.Nw
open Go Go.AV Tryz
set_option maxHeartbeats 1000000
set_option maxRecDepth 100000
section
variable{z:T aa}{zn:Nat}
theorem Ta(hz:ax z zn)(a:Int):A1 z zn 185 [zv a] [] 0 0 F0 []:=by
 refine aK1 (mh (zg:=z)) (fn:=f185) hz (N:=100) ?_
 refine WB z zn a _ ?_
 (repeat' first|(with_reducible first|exact rfl|assumption|apply And.intro)|intro hq)
 all_goals first|exact q1|(simp at hq;done)
theorem Te(hz:ax z zn)(a b:Int):A1 z zn 128 [zv a,zv b] [] 0 0 (zv (AB a b)) []:=by
 refine aK1 (mh (zg:=z)) (fn:=f128) hz (N:=100) ?_
 refine WD z zn a b _ ?_
 (repeat' first|(with_reducible first|exact rfl|assumption|apply And.intro|exact Ta hz _)|intro hq)
 all_goals (refine yW ?_;simp only[decide_eq_true_eq,decide_eq_false_iff_not] at*;unfold AB;(repeat' split)<;>first|rfl|(exfalso;omega))
theorem KF(hz:ax z zn)(kb:aY)(hkb:z.get 0=some (.ak kb))(c:Nat->Int)(hc: ∀i,i<3->aC prog kb 3 (0+i*1)=some (zv (c i))):
 ai prog (ah (ag f127) 0) 0 18 (El 0) [] 0 z zn (Al.R (Wi z zn (Jj (c 0) (c 1) (c 2))).l):=by
 refine an hD (mh (zg:=z)) (α:=Nat) 0 18 0 (fun i=>i<=3/\ ∀j,j<i->c j=0) (fun i=>El i) (fun _=>[]) (fun _=>z) (fun _=>zn) (fun i=>3 - i) _ (fun i hI=>?_) 0 ⟨by omega,fun j h=>by omega⟩
 obtain⟨h1,h2⟩:=hI
 have orE: ∀i,i<3->(∀j,j<i->c j=0)->c i≠0->Jj (c 0) (c 1) (c 2)=c i:=fun i hi h hn=>by
  unfold Jj
  match i,hi with
  |0,_=>rw[if_pos hn]
  |1,_=>rw[if_neg (by simpa using h 0 (by omega)),if_pos hn]
  |2,_=>rw[if_neg (by simpa using h 0 (by omega)),if_neg (by simpa using h 1 (by omega))]
 refine t100 (WA z zn i kb (c i) 0 (aj _ _ _ _ _ _ _ _ _) ?_)
 by_cases hi:i<3
 ·have d1:decide ((i:Int)<3)=true:=by simp;omega
  have hr:=hc i hi
  refine⟨fun _=>?_,nC1 d1⟩
  (repeat' first|(with_reducible first|exact rfl|assumption|apply And.intro|exact bK (by omega))|intro hq)
  all_goals first
   |(have h:c i≠0:=by simpa using (by assumption:(c i !=0)=true)
     have e:=orE i hi h2 h
     rw[e]
     exact bw h)
   |(have h:c i=0:=by simpa using (by assumption:(c i !=0)=false)
     exact⟨i+1,rfl,rfl,rfl,rfl,rfl,⟨hi,fun j hj=>by
      by_cases e:j=i
      ·subst e;exact h
      ·exact h2 j (by omega)⟩,by show 3 - (i+1)<3 - i;omega⟩)
 ·have d1:decide ((i:Int)<3)=false:=by simp;omega
  refine⟨nC1 d1,fun _=>?_⟩
  (repeat' first|(with_reducible first|exact rfl|assumption|apply And.intro))
  refine du (bw ?_)
  unfold Jj
  rw[if_neg (by simpa using h2 0 (by omega)),if_neg (by simpa using h2 1 (by omega))]
  exact h2 2 (by omega)
theorem Xi(hz:ax z zn)(kb:aY)(hkb:z.get 0=some (.ak kb))(c:Nat->Int)(hc: ∀i,i<3->aC prog kb 3 (0+i*1)=some (zv (c i))):
 A1 z zn 127 [tb 0 3 3] [] 0 0 (zv (Jj (c 0) (c 1) (c 2))) []:=by
 have hL:=KF hz kb hkb c hc
 refine aK1 (mh (zg:=z)) (fn:=f127) hz (N:=100) ?_
 refine jor z zn (Jj (c 0) (c 1) (c 2)) _ ?_
 (repeat' first|(with_reducible first|exact rfl|assumption|apply And.intro)|exact hL|intro hq)
 all_goals first
  |exact q1
  |(refine yW ?_;simp_all;done)
end
def zT(e:TypeId)(x y w:Int):T aa:=(T.leaf:T aa).set 0 (.ak (bc e [zv x,zv y,zv w]))
theorem xf(e:TypeId)(x y w:Int)(k:Nat):(zT e x y w).get k=if k=0 then some (.ak (bc e [zv x,zv y,zv w])) else none:=by
 unfold zT;rw[T.aK];split<;>simp[T.dA]
theorem NI(e:TypeId)(x y w:Int):ax (zT e x y w) 1:=fun k o h=>by
 rw[xf] at h
 split at h
 ·rename_i hk;subst hk;cases h
  exact⟨by decide,fun σ _=>rfl⟩
 ·cases h
theorem Vg(e:TypeId)(x y w:Int):pX prog (zT e x y w) 127 [tb 0 3 3] (zv (Jj x y w)):=by
 have h:=Xi (z:=zT e x y w) (zn:=1) (NI e x y w) (bc e [zv x,zv y,zv w]) (by rw[xf,if_pos rfl]) (fun i=>match i with|0=>x|1=>y|_=>w) (fun i hi=>by
  match i,hi with
  |0,_=>rfl
  |1,_=>rfl
  |2,_=>rfl)
 exact wP h (fun _ _=>rfl) rfl (fun k o hk=>by
  rw[xf] at hk
  split at hk
  ·cases hk;rfl
  ·cases hk) (fun σ hσ=>by
  have:=hσ 0 (by decide)
  simp only[br,aT,this])
theorem Rp(a b:Int):pX prog (T.leaf:T aa) 128 [zv a,zv b] (zv (AB a b)):=cz (Te jX a b) rfl rfl
def Ip:cy:=fun f args h=>match f,args with
 |128,[.int .i64 a, .int .i64 b]=>some (zv (AB a b),h)
 |127,[.slice (some ⟨b,0,none⟩) 3 3]=>match h.heap.get b with
  |some (.ak ⟨[.int .i64 x, .int .i64 y, .int .i64 w],_,_,_,true,_,_,_⟩)=>some (zv (Jj x y w),h)
  |_=>none
 |_,_=>none
theorem Ah{ρ:Ren}{h:Hs}{w w':World}{v:Value}(hv:au v=true)(hh:aF ρ h.heap.get w)(hb:Go.RowKit.Below w.heap.size w w'):Mk ρ h w v h (.returned v) w':=by
 refine⟨ρ,v,rfl,VR.aW hv,⟨fun b o ho=>?_,hh.inj⟩,⟨hb.os,hb.tape,hb.output,hb.size,fun r hr _=>hb.block r hr,fun b o L h1 h2 h3=> .inl ⟨b,o,L,h1,h2,h3,rfl⟩,fun b o L h1 h3=> .inl ⟨b,o,L,h1,h3,rfl⟩,Ren.le.refl _,fun _ _=>rfl⟩⟩
 obtain⟨L,x,a1,a2,a3⟩:=hh.obj b o ho
 exact⟨L,x,a1,by rw[hb.block _ (Array.getElem?_eq_some_iff.1 a2).1];exact a2,a3⟩
theorem Io:dr prog Ip:=by
 intro f args h v h' he
 unfold Ip at he
 split at he
 ·rename_i a b
  cases he
  refine⟨Mod.refl _,fun ρ w args' n hargs hh hf=>callsIn_wide.2 ?_⟩
  have e:=hargs.plain rfl
  subst e
  exact((Rp a b).2 zj w _ (fun k o hk=>by cases hk) (cP.aW rfl)).mono fun e w' ⟨h1,hb⟩=>by rw[h1];exact Ah rfl hh hb
 ·rename_i b
  split at he
  ·rename_i x y u cap iU el wh fz ow hb0
   cases he
   refine⟨Mod.refl _,fun ρ w args' n hargs hh hf=>callsIn_wide.2 ?_⟩
   obtain⟨L,o,k1,k2,k3⟩:=hh.obj b _ hb0
   cases o<;>simp only[OR] at k3
   rename_i c el' fr
   have hψ:=k3.exact rfl
   have ha:args'=[.slice (some ⟨L.φ,L.δ+0,none⟩) 3 (3+L.ψ)]:=by
    cases hargs with
    |cons _ _ _ _ h1 h2=>
     cases h2
     cases h1 with
     |sc _ h=>simp[simple] at h
     |sl _ _ _ _ L' h=>rw[k1] at h;cases h;rfl
   let ρ2:Ren:=fun i=>if i=510 then some L else none
   have hv:cP ρ2 [tb 0 3 3] args':=by
    rw[ha]
    exact .cons _ _ _ _ (.sl (256*0+510) 0 3 3 L (if_pos rfl)) .nil
   have hfz:Ml (zT el x y u) ρ2 w:=fun k o hk=>by
    rw[xf] at hk
    split at hk
    ·rename_i hk0
     subst hk0;cases hk
     refine⟨L,_,if_pos rfl,k2,?_⟩
     refine⟨k3.elem,Nat.le_refl _,fun hh=>(by cases hh),fun i v hv=>?_,fun _=>hψ,fun hh=>(by cases hh),fun hh=>(by cases hh),fun hh=>(by cases hh)⟩
     obtain⟨v',q1,q2⟩:=k3.cell i v hv
     have hp:au v=true:=by
      match i,hv with
      |0,hv=>cases hv;rfl
      |1,hv=>cases hv;rfl
      |2,hv=>cases hv;rfl
     have:=q2.plain hp
     subst this
     exact⟨v',q1,VR.aW hp⟩
    ·cases hk
   exact((Vg el x y u).2 ρ2 w args' hfz hv).mono fun e w' ⟨h1,hb⟩=>by rw[h1];exact Ah rfl hh hb
  ·cases he
 ·cases he
theorem V5(a b c d e f:Int)(s t:Bool):A2 prog 126 [.agg ⟨[.int .i64 a, .int .i64 b, .int .i64 c, .bool s]⟩, .agg ⟨[.int .i64 d, .int .i64 e, .int .i64 f, .bool t]⟩] (zv (qw a b c d e f)):=
 yZ (c:=wQ prog (pz prog Ip 300) (fun _ _ _=>none)) (uw (uh hD Io 300)) (by kernel_rfl) (by kernel_rfl) (nx:=6) (by kernel_rfl)
theorem lL(z:T aa):eO prog z gS:=by
 intro f args v h
 unfold gS at h
 split at h
 ·cases h
  refine⟨rfl,fun ρ W args' _ ha=>?_⟩
  have e:=ha.plain rfl
  subst e
  exact V5 _ _ _ _ _ _ _ _ W
 ·cases h
end Go.Proofs.Nw
namespace Go.Proofs.Nw
open Go Go.AV Tryz
set_option maxHeartbeats 4000000
set_option maxRecDepth 100000
theorem nR{b c:Nat->Option Int}: ∀(m i:Nat),(∀j,i<=j->j<i+m->b j=c j)->scan b m i=scan c m i
 |0,_,_=>rfl
 |m+1,i,h=>by
  simp only[scan]
  rw[h i (Nat.le_refl _) (by omega),nR m (i+1) fun j h1 h2=>h j (by omega) (by omega)]
theorem DE{b:Nat->Option Int}(h: ∀i,b i≠some 0)(i:Nat):pM (fun i=>(b i).getD 0) i=b i:=by
 unfold pM
 cases hb:b i with
 |none=>simp[hb]
 |some e=>
  have:e≠0:=fun h0=>h i (by rw[hb,h0])
  simp[hb,this]
theorem wV(ns nr:Nat)(l:List RunT)(i:Nat):dq ns nr l i≠some 0:=by
 unfold dq
 cases l[i]? with
 |none=>simp
 |some x=>
  simp only
  (repeat' split)<;>first|(simp;done)|(intro h;simp_all;done)
theorem IX(U:List RunT)(L:List aE)(i:Nat):eJ U L i≠some 0:=by
 unfold eJ
 cases L[i]? with
 |none=>simp
 |some x=>
  simp only
  split
  ·simp
  ·rename_i h;intro e;exact h (by simpa using e)
theorem N1(ns nr:Nat)(l:List RunT):cY ns nr l=if 1024<l.length then (0,5) else scan (pM fun i=>(dq ns nr l i).getD 0) l.length 0:=by
 unfold cY
 split
 ·rfl
 ·exact nR _ _ fun j _ _=>(DE (wV ns nr l) j).symm
theorem KT(U:List RunT)(L:List aE):bF U L=if 1024<L.length then (0,5) else scan (pM fun i=>(eJ U L i).getD 0) L.length 0:=by
 unfold bF
 split
 ·rfl
 ·exact nR _ _ fun j _ _=>(DE (IX U L) j).symm
theorem kj{b:Nat->Option Int}(hb: ∀i,b i≠some 0): ∀(m i:Nat),(scan b m i).2=0-> ∀j,i<=j->j<i+m->b j=none
 |0,i,_,j,h1,h2=>by omega
 |m+1,i,h,j,h1,h2=>by
  simp only[scan] at h
  cases hc:b i with
  |some e=>
   rw[hc] at h
   exact(hb i (by rw[hc];exact congrArg some h)).elim
  |none=>
   rw[hc] at h
   by_cases e:j=i
   ·subst e;exact hc
   ·exact kj hb m (i+1) h j (by omega) (by omega)
theorem vB{ns nr:Nat}{l:List RunT}(h:(cY ns nr l).2=0):mG l:=by
 unfold cY at h
 split at h
 ·cases h
 rename_i hl
 refine⟨by omega,fun r hr=>?_⟩
 obtain⟨i,hi⟩:=List.mem_iff_getElem?.1 hr
 have hlt:=(List.getElem?_eq_some_iff.1 hi).1
 have:=kj (wV ns nr l) _ _ h i (Nat.zero_le _) (by omega)
 unfold dq at this
 rw[hi] at this
 simp only at this
 by_cases hc:r.calls.length<2\/32<r.calls.length
 ·have he:(bD r.calls ns 0 3155932800).2=5:=by unfold bD;rw[if_pos hc]
  have hr5:Bt ns r=5:=he
  rw[hr5] at this
  (repeat' split at this)<;>simp_all
 ·omega
section
variable{z:T aa}{zn:Nat}
theorem Iv(hz:ax z zn)(hg:eO prog z gP)(N:aJ)(L:List aE)(hN:N.nl=L.length)(hL:bW z 0 (L.map aE.row))(i:Nat)(x:aE)(hx:L[i]? =some x):
 A1 z zn 35 [.agg ⟨N.dR az N.l1⟩,iv i] [] 0 0 (zv (ib [] L i x)) []:=by
 have hi:i<L.length:=(List.getElem?_eq_some_iff.1 hx).1
 obtain⟨el,hel⟩:=hL.ak (i:=i) (by simp;omega)
 have hlen:=aM (row:=aE.row) (sz:=5) L fun _=>rfl
 have hrow:aC prog (bc el (L.map aE.row).flatten) 124 (0+i*5)=some (.agg ⟨x.row⟩):=bC (r:=x.row) (sz:=5) underlying124 rfl rfl hlen (by rw[List.getElem?_map,hx];rfl)
 have he:ib [] L i x=9:=by unfold ib;rw[if_pos (by simp;omega)]
 have hin:gP 63 [zv x.fz1, .int .i64 0, .int .i64 (-1)]=some (.bool false):=by
  show some (Value.bool (decide (0<=x.fz1) && decide (x.fz1<= -1)))=_
  have:(decide (0<=x.fz1) && decide (x.fz1<= -1))=false:=by simp;omega
  rw[this]
 rw[he]
 refine cS hg (fn:=f35) (by kernel_rfl) (by kernel_rfl) hz ⟨by decide,by decide⟩ rfl (Xa z zn i N (bc el (L.map aE.row).flatten) x _ ?_)
 (repeat' first|(with_reducible first|exact rfl|assumption|apply And.intro|exact(by omega:i<N.nl))|exact hin|exact q1)
end
end Go.Proofs.Nw
namespace Go.Proofs.Nw
open Go Go.AV Tryz Go.iO
theorem qP{P:Program}{k k':aY}(h:k.cells=k'.cells)(t:TypeId)(off:Nat):aC P k t off=aC P k' t off:=by
 unfold aC;rw[h]
theorem gL{P:Program}{k:aY}{rows:List (List Value)}(hk:k.cells=rows.flatten){t:TypeId}{d:TypeDesc}{sz:Nat}(hd:P.underlying t=some d)(ha:kV d=true)(hi:(P.info? t).map (·.size)=some sz)(hl: ∀r∈rows,r.length=sz)
 {i:Nat} {r:List Value} (h:rows[i]? =some r):aC P k t (0+i*sz)=some (.agg ⟨r⟩):=by
 rw[qP (k':=bc 0 rows.flatten) hk];exact bC hd ha hi hl h
theorem Bw{P:Program}{k:aY}{rows:List (List Value)}(hk:k.cells=rows.flatten){t:TypeId}{d:TypeDesc}{sz:Nat}(hd:P.underlying t=some d)(ha:kV d=false)(hl: ∀r∈rows,r.length=sz)
 {i j:Nat} {r:List Value} {v:Value} (h:rows[i]? =some r) (hj:r[j]? =some v):aC P k t (0+i*sz+j)=some v:=by
 rw[qP (k':=bc 0 rows.flatten) hk];exact aX hd ha hl h hj
theorem iR{P:Program}{k:aY}{t:TypeId}{d:TypeDesc}(hd:P.underlying t=some d)(ha:kV d=false){i:Nat}{v:Value}(h:k.cells[i]? =some v):aC P k t (0+i*1)=some v:=by
 unfold aC
 simp only[hd,ha]
 rw[qo,Nat.zero_add,Nat.mul_one,h]
theorem kx{sz:Nat}: ∀{rows:List (List Value)},(∀r∈rows,r.length=sz)->rows.flatten.length=rows.length*sz
 |[],_=>by simp
 |r::l,h=>by
  rw[List.flatten_cons,List.length_append,kx (rows:=l) fun x hx=>h x (List.mem_cons_of_mem _ hx),h r (List.mem_cons_self ..),List.length_cons,Nat.succ_mul];omega
theorem tx: ∀(a:List Value) {b c vs:List Value} {n:Nat},overwrite b n vs=some c->overwrite (a++b) (a.length+n) vs=some (a++c)
 |[],b,c,vs,n,h=>by simpa using h
 |x::a,b,c,vs,n,h=>by
  have:=tx a h
  have e:(x::a).length+n=(a.length+n)+1:=by simp;omega
  rw[e,List.cons_append]
  cases vs with
  |nil=>simp only[overwrite,this];rfl
  |cons v vs=>simp only[overwrite,this];rfl
theorem qm: ∀(r r' b:List Value),r.length=r'.length->overwrite (r++b) 0 r'=some (r'++b)
 |[],[],b,_=>by cases b<;>rfl
 |x::r,y::r',b,h=>by
  simp only[List.cons_append,overwrite]
  rw[qm r r' b (by simpa using h)]
theorem tw{sz:Nat}{rows:List (List Value)}(hl: ∀r∈rows,r.length=sz){i:Nat}(hi:i<rows.length){r':List Value}(hr:r'.length=sz):overwrite rows.flatten (0+i*sz) r'=some (rows.set i r').flatten:=by
 have e1:rows=rows.take i++rows[i]::rows.drop (i+1):=by
  rw[List.getElem_cons_drop,List.take_append_drop]
 have e2:rows.set i r'=rows.take i++r'::rows.drop (i+1):=List.set_eq_take_append_cons_drop.trans (by rw[if_pos hi])
 have hlen:(rows.take i).flatten.length=i*sz:=by
  rw[kx (fun r hr=>hl r (List.mem_of_mem_take hr)),List.length_take,Nat.min_eq_left (by omega)]
 rw[e2]
 conv=>lhs;rw[e1]
 rw[List.flatten_append,List.flatten_append,List.flatten_cons,List.flatten_cons,Nat.zero_add,←hlen]
 exact tx _ (qm _ _ _ (by rw[hl _ (List.getElem_mem hi),hr]))
theorem o9{cs:List Value}{i:Nat}(hi:i<cs.length)(v:Value):overwrite cs (0+i*1) [v]=some (cs.set i v):=by
 have e1:cs=cs.take i++cs[i]::cs.drop (i+1):=by
  rw[List.getElem_cons_drop,List.take_append_drop]
 have e2:cs.set i v=cs.take i++v::cs.drop (i+1):=List.set_eq_take_append_cons_drop.trans (by rw[if_pos hi])
 rw[e2]
 conv=>lhs;rw[e1]
 have hlen:(cs.take i).length=i:=by rw[List.length_take,Nat.min_eq_left (by omega)]
 have:=tx (cs.take i) (qm [cs[i]] [v] (cs.drop (i+1)) rfl)
 rw[hlen] at this
 rw[Nat.zero_add,Nat.mul_one]
 exact this
theorem kS{α:Type}(row:α->List Value)(l:List α)(i:Nat)(x:α):(l.map row).set i (row x)=(l.set i x).map row:=by
 rw[List.map_set]
theorem cQ: ∀{l:List Value},bA l=true↔ ∀v∈l,au v=true
 |[]=>by simp[bA]
 |v::l=>by
  simp only[bA]
  cases hv:au v with
  |false=>simp[hv]
  |true=>simp[hv,cQ (l:=l)]
theorem kQ{α:Type}{row:α->List Value}(h: ∀x,bA (row x)=true)(l:List α):bA (l.map row).flatten=true:=by
 rw[cQ]
 intro v hv
 obtain⟨r,hr,hv⟩:=List.mem_flatten.1 hv
 obtain⟨x,_,rfl⟩:=List.mem_map.1 hr
 exact cQ.1 (h x) v hv
theorem cN{σ:Nat->Option Nat}{k:aY}(h:bA k.cells=true):aG σ (.ak k)=some (.ak k):=by
 simp only[aG,eS h]
theorem iY{x:Int}(h1: -4611686018427387904<=x)(h2:x<=4611686018427387904):Value.int .i64 (IntKind.i64.wrap x)=Value.int .i64 x:=by
 have:IntKind.i64.wrap x=x:=by
  simp only[IntKind.wrap,IntKind.signed,IntKind.bits]
  simp
  omega
 rw[this]
def Q2{α:Type}(ey:Nat)(φ:α->Prop)(v:α->Value)(zo:α->bO)(zz:α->T aa)(zn':α->Nat):Value->bO->Nat->T aa->Nat->Prop:=Jf ey φ v zo zz zn'
theorem fJ{z zg:T aa}{zn:Nat}{g:Nat->List Value->Option Value}(hg:eO prog zg g){f:Nat}{fn:Func}(hfn:prog.funcs[f]? =some fn)(hb:fn.body=some (ag fn)){args:List Value}{aO:bO}(hz:ax z zn){nx ey:Nat}(hnx:nx<=ey/\ey<=cC){α:Type}{φ:α->Prop}{v:α->Value}{zo:α->bO}{zz:α->T aa}{zn':α->Nat}
 (hlow: ∀x,φ x->BT (zo x)=true/\zn<=zn' x/\ax (zz x) (zn' x)) {N:Nat}
 (h: ∃t,ft prog g zg N (ag fn) (wB fn args) (fy z aO nx) zn (D5 prog nx fn (Q2 ey φ v zo zz zn')) t):bB prog z zn f args aO nx ey φ v zo zz zn':=by
 obtain⟨t,ht⟩:=h
 exact AI hD hg hfn hb hz nx ey hnx _ _ _ _ _ (fun x hx=>⟨rZ (hlow x hx).1,(hlow x hx).2.1,(hlow x hx).2.2⟩) ht
theorem q2{α:Type}{ey:Nat}{φ:α->Prop}{v:α->Value}{zo:α->bO}{zz:α->T aa}{zn':α->Nat}(x:α)(h:φ x){u:Value}{aO:bO}{n:Nat}{z':T aa}{m:Nat}(h1:n=ey)(h2:u=v x)(h3:aO=zo x)(h4:z'=zz x)(h5:m=zn' x):Q2 ey φ v zo zz zn' u aO n z' m:=⟨h1,x,h,h2,h3,h4,h5⟩
theorem Cs{α:Type}{φ:α->Prop}{F:α->aw}{k:α->Tr}{l:Al}(x:α)(h:φ x){o:aw}(ho:o=F x):Al.R (.cons α φ F k l) o:= .inl ⟨x,h,ho⟩
end Go.Proofs.Nw
namespace Go.iO
variable{α:Type}
def gg(f:Nat->α)(n:Nat)(x:α):Prop:= ∃i,i<n/\f i=x
def swp(f:Nat->α)(i j:Nat):Nat->α:=fun k=>if k=i then f j else if k=j then f i else f k
theorem sH{f:Nat->α}{n i j:Nat}(hi:i<n)(hj:j<n)(x:α):gg (swp f i j) n x↔gg f n x:=by
 constructor
 ·rintro⟨k,hk,rfl⟩
  unfold swp
  split
  ·exact⟨j,hj,rfl⟩
  ·split
   ·exact⟨i,hi,rfl⟩
   ·exact⟨k,hk,rfl⟩
 ·rintro⟨k,hk,rfl⟩
  by_cases h1:k=i
  ·subst h1
   by_cases h2:j=k
   ·subst h2;exact⟨j,hj,by simp[swp]⟩
   ·exact⟨j,hj,by simp[swp,h2]⟩
  ·by_cases h2:k=j
   ·subst h2;exact⟨i,hi,by simp[swp]⟩
   ·exact⟨k,hk,by simp[swp,h1,h2]⟩
structure Ord(lt:α->α->Bool):Prop where
 asymm: ∀a b,lt a b=true->lt b a=false
 trans: ∀a b c,lt b a=false->lt c b=false->lt c a=false
def mL(lt:α->α->Bool)(f:Nat->α)(n:Nat):Prop:= ∀k,0<k->k<n->lt (f k) (f ((k - 1) / 2))=false
theorem Hv{lt:α->α->Bool}(o:Ord lt){f:Nat->α}{n:Nat}(h:mL lt f n): ∀k,k<n->lt (f k) (f 0)=false:=by
 intro k
 induction k using Nat.strongRecOn with
 |ind k ih=>
  intro hk
  by_cases h0:k=0
  ·subst h0
   cases hc:lt (f 0) (f 0) with
   |false=>rfl
   |true=>have:=o.asymm _ _ hc;rw[hc] at this;cases this
  ·exact o.trans _ _ _ (ih ((k - 1) / 2) (by omega) (by omega)) (h k (by omega) hk)
def JC(lt:α->α->Bool)(f:Nat->α)(n i:Nat):Prop:=
 (∀k,0<k->k<n->k≠i->lt (f k) (f ((k - 1) / 2))=false)/\
 (∀k,0<k->k<n->(k - 1) / 2=i->0<i->lt (f k) (f ((i - 1) / 2))=false)
theorem CC{lt:α->α->Bool}{f:Nat->α}{n i:Nat}(h:JC lt f n i)(hi:i=0\/lt (f i) (f ((i - 1) / 2))=false):mL lt f n:=by
 intro k h0 hk
 by_cases hki:k=i
 ·subst hki
  rcases hi with rfl|hi
  ·omega
  ·exact hi
 ·exact h.1 k h0 hk hki
theorem CB{lt:α->α->Bool}(o:Ord lt){f:Nat->α}{n i:Nat}(h:JC lt f n i)(h0:0<i)(hi:i<n)(hl:lt (f i) (f ((i - 1) / 2))=true):
 JC lt (swp f i ((i - 1) / 2)) n ((i - 1) / 2):=by
 have hp:(i - 1) / 2<i:=by omega
 have hpi:(i - 1) / 2≠i:=by omega
 have e1:swp f i ((i - 1) / 2) i=f ((i - 1) / 2):=by simp[swp]
 have e2:swp f i ((i - 1) / 2) ((i - 1) / 2)=f i:=by simp[swp,hpi]
 have e3: ∀k,k≠i->k≠(i - 1) / 2->swp f i ((i - 1) / 2) k=f k:=fun k a b=>by simp[swp,a,b]
 refine⟨fun k k0 kn kne=>?_,fun k k0 kn kp p0=>?_⟩
 ·by_cases hki:k=i
  ·subst hki
   rw[e1,e2];exact o.asymm _ _ hl
  ·rw[e3 k hki kne]
   by_cases hpar:(k - 1) / 2=i
   ·rw[hpar,e1];exact h.2 k k0 kn hpar h0
   ·by_cases hpp:(k - 1) / 2=(i - 1) / 2
    ·rw[hpp,e2]
     have:=h.1 k k0 kn hki
     rw[hpp] at this
     exact o.trans _ _ _ (o.asymm _ _ hl) this
    ·rw[e3 _ hpar hpp];exact h.1 k k0 kn hki
 ·have hg:((i - 1) / 2 - 1) / 2≠i:=by omega
  have hg2:((i - 1) / 2 - 1) / 2≠(i - 1) / 2:=by omega
  rw[e3 _ hg hg2]
  have hpg:=h.1 ((i - 1) / 2) p0 (by omega) hpi
  by_cases hki:k=i
  ·subst hki;rw[e1];exact hpg
  ·have hkp:k≠(i - 1) / 2:=by omega
   rw[e3 k hki hkp]
   have:=h.1 k k0 kn hki
   rw[kp] at this
   exact o.trans _ _ _ hpg this
def pV(lt:α->α->Bool)(f:Nat->α)(n i:Nat):Prop:=
 (∀k,0<k->k<n->(k - 1) / 2≠i->lt (f k) (f ((k - 1) / 2))=false)/\
 (∀k,0<k->k<n->(k - 1) / 2=i->0<i->lt (f k) (f ((i - 1) / 2))=false)
theorem ES{lt:α->α->Bool}{f:Nat->α}{n i:Nat}(h:pV lt f n i)(hc: ∀k,k<n->0<k->(k - 1) / 2=i->lt (f k) (f i)=false):mL lt f n:=by
 intro k h0 hk
 by_cases hp:(k - 1) / 2=i
 ·rw[hp];exact hc k hk h0 hp
 ·exact h.1 k h0 hk hp
theorem EP{lt:α->α->Bool}(o:Ord lt){f:Nat->α}{n i c:Nat}(h:pV lt f n i)(h0:0<c)(hc:c<n)(hp:(c - 1) / 2=i)(hl:lt (f c) (f i)=true)
 (hmin: ∀k,k<n->0<k->(k - 1) / 2=i->lt (f k) (f c)=false):
 pV lt (swp f i c) n c:=by
 have hci:c≠i:=by omega
 have e1:swp f i c i=f c:=by simp[swp]
 have e2:swp f i c c=f i:=by simp[swp,hci]
 have e3: ∀k,k≠i->k≠c->swp f i c k=f k:=fun k a b=>by simp[swp,a,b]
 refine⟨fun k k0 kn kne=>?_,fun k k0 kn kp p0=>?_⟩
 ·by_cases hkc:k=c
  ·subst hkc
   rw[e2,hp,e1];exact o.asymm _ _ hl
  ·by_cases hki:k=i
   ·subst hki
    have hne:(k - 1) / 2≠k:=by omega
    rw[e1,e3 _ hne kne]
    exact h.2 c h0 hc hp k0
   ·rw[e3 k hki hkc]
    by_cases hpar:(k - 1) / 2=i
    ·rw[hpar,e1];exact hmin k kn k0 hpar
    ·rw[e3 _ hpar kne];exact h.1 k k0 kn hpar
 ·have hki:k≠i:=by omega
  have hkc:k≠c:=by omega
  rw[e3 k hki hkc,hp,e1]
  have:=h.1 k k0 kn (by omega)
  rw[kp] at this
  exact this
theorem B9{lt:α->α->Bool}{f:Nat->α}{n:Nat}(h:mL lt f (n+1)):pV lt (swp f 0 n) n 0:=by
 refine⟨fun k k0 kn kne=>?_,fun k k0 kn kp p0=>by omega⟩
 have e3: ∀k,k≠0->k≠n->swp f 0 n k=f k:=fun k a b=>by simp[swp,a,b]
 rw[e3 k (by omega) (by omega),e3 _ kne (by omega)]
 exact h k k0 (by omega)
theorem F4{f:Nat->α}{n:Nat}(x:α):gg (swp f 0 n) n x↔ ∃i,0<i/\i<n+1/\f i=x:=by
 constructor
 ·rintro⟨k,hk,rfl⟩
  unfold swp
  split
  ·exact⟨n,by omega,by omega,rfl⟩
  ·split
   ·omega
   ·exact⟨k,by omega,by omega,rfl⟩
 ·rintro⟨k,k0,hk,rfl⟩
  by_cases h:k=n
  ·subst h;exact⟨0,k0,by simp[swp]⟩
  ·exact⟨k,by omega,by simp[swp,h,Nat.ne_of_gt k0]⟩
theorem yC{lt:α->α->Bool}{f:Nat->α}{n:Nat}(h:mL lt f n)(x:α):JC lt (fun k=>if k=n then x else f k) (n+1) n:=by
 refine⟨fun k k0 kn kne=>?_,fun k k0 kn kp p0=>by omega⟩
 simp only
 rw[if_neg kne,if_neg (by omega)]
 exact h k k0 (by omega)
end Go.iO
namespace Go.Proofs.Nw
open Go Go.AV Tryz Go.iO
set_option maxHeartbeats 4000000
set_option maxRecDepth 100000
def nd0:bU:=⟨⟨0,0,0⟩,0⟩
def hf(ms:List bU)(k:Nat):bU:=ms[k]?.getD nd0
def yr(ms:List bU)(i k:Nat):List bU:=(ms.set i (hf ms k)).set k (hf ms i)
theorem OO{ms:List bU}{k:Nat}(h:k<ms.length):ms[k]? =some (hf ms k):=by
 unfold hf;rw[List.getElem?_eq_getElem h];rfl
theorem kG(ms:List bU)(i k:Nat):(yr ms i k).length=ms.length:=by simp[yr]
theorem mg{ms:List bU}{i k:Nat}(hi:i<ms.length)(hk:k<ms.length):hf (yr ms i k)=swp (hf ms) i k:=by
 funext j
 unfold swp hf yr
 rw[List.getElem?_set,List.getElem?_set,List.length_set]
 by_cases h1:k=j
 ·subst h1
  by_cases h2:k=i
  ·subst h2;simp[hk,hf]
  ·simp[h2,hk,hf]
 ·have h1': ¬j=k:=fun e=>h1 e.symm
  by_cases h2:i=j
  ·subst h2;simp[h1,hi];rfl
  ·have h2': ¬j=i:=fun e=>h2 e.symm
   simp[h1,h1',h2,h2']
theorem wm(a b:cH):nH a b=true↔a.len<b.len\/(a.len=b.len/\a.fM<b.fM):=by
 unfold nH;simp
theorem mA(a b:bU):dC a b=true↔a.x.len<b.x.len\/(a.x.len=b.x.len/\(a.x.fM<b.x.fM\/(a.x.fM=b.x.fM/\a.num<b.num))):=by
 unfold dC
 rw[Bool.or_eq_true,Bool.and_eq_true,wm,Bool.not_eq_true',decide_eq_true_eq]
 have h:nH b.x a.x=false↔ ¬(b.x.len<a.x.len\/(b.x.len=a.x.len/\b.x.fM<a.x.fM)):=by
  rw[←wm];simp
 rw[h]
 omega
theorem ir:Ord dC:=by
 refine⟨fun a b h=>?_,fun a b c h1 h2=>?_⟩
 ·rw[mA] at h
  cases hc:dC b a with
  |false=>rfl
  |true=>rw[mA] at hc;omega
 ·cases hc:dC c a with
  |false=>rfl
  |true=>
   have n1: ¬dC b a=true:=by rw[h1];simp
   have n2: ¬dC c b=true:=by rw[h2];simp
   rw[mA] at n1 n2 hc
   omega
theorem sX(ms:List bU): ∀r∈ms.map bU.row,r.length=4:=aM ms fun _=>rfl
theorem mO(ms:List bU):(aD ms).length=ms.length*4:=by rw[kx (sX ms),List.length_map]
theorem qN(ms:List bU):bA (aD ms)=true:=kQ (fun _=>rfl) ms
theorem N3{σ:Nat->Option Nat}(ms:List bU)(c:Nat):aG σ (dI (aD ms) c)=some (dI (aD ms) c):=cN (qN ms)
theorem b9{σ:Nat->Option Nat}(ms:List bU)(c:Nat):aG σ (aa.ak (aY.mk (aD ms) c 4 329 false false 0 true))=some (aa.ak (aY.mk (aD ms) c 4 329 false false 0 true)):=cN (qN ms)
theorem Mw{ms:List bU}{i:Nat}(h:i<ms.length)(c:Nat):aC prog (aY.mk (aD ms) c 4 329 false false 0 true) 329 (0+i*4)=some (.agg ⟨(hf ms i).row⟩):=
 gL (rows:=ms.map bU.row) rfl underlying329 rfl rfl (sX ms) (by rw[List.getElem?_map,OO h];rfl)
theorem GB{ms:List bU}{i:Nat}(h:i<ms.length)(a:bU):overwrite (aD ms) (0+i*4) a.row=some (aD (ms.set i a)):=by
 have:=tw (sX ms) (i:=i) (by simpa using h) (r':=a.row) rfl
 rw[kS] at this
 exact this
theorem cO(z:T aa):eO prog z gH:=by
 intro f args v h
 unfold gH at h
 split at h
 ·rename_i a b c d e f
  cases h
  refine cz ?_ rfl rfl
  refine aK1 (mh (zg:= .leaf)) (fn:=f236) jX (SK .leaf 0 ⟨a,b,c⟩ ⟨d,e,f⟩ _ ?_)
  (repeat' first|(with_reducible first|exact rfl|apply And.intro|exact jX)|intro hq)
  all_goals (refine yW ?_;unfold nH;simp_all)
 ·cases h
section
variable{z:T aa}{zn:Nat}
theorem S9(hz:ax z zn):A1 z zn 235 [Hg] [] 0 1 (ip 0) [(0,dV az 0)]:=by
 refine aK1 (OQ (z:=z)) (fn:=f235) hz (oe z zn _ ?_)
 (repeat' first|(with_reducible first|exact rfl|assumption|apply And.intro)|exact q1)
theorem ux(hz:ax z zn)(ms:List bU)(i k n c cc:Nat)(p:Int)(hi:i<n)(hk:k<n)(hn:n<=ms.length):
 A1 z zn 246 [ip 0,iv i,iv k] [(0,dV (aU 1 n c) p),(1,dI (aD ms) cc)] 2 2 (.bool (dC (hf ms i) (hf ms k))) [(0,dV (aU 1 n c) p),(1,dI (aD ms) cc)]:=by
 refine aK1 (cO z) (fn:=f246) hz (WN z zn i k n c cc p (hf ms i) (hf ms k) (aD ms) _ ?_)
 (repeat' first|(with_reducible first|exact rfl|assumption|apply And.intro|exact Mw (by omega) _|exact b9 _ _)|exact(rfl:gH _ _=_)|intro hq)
 all_goals first
  |(refine yW ?_
    unfold dC
    simp_all;done)
theorem xT(hz:ax z zn)(ms:List bU)(i k n c cc:Nat)(p:Int)(hi:i<n)(hk:k<n)(hn:n<=ms.length)(hc:ms.length*4<=cc):
 A1 z zn 247 [ip 0,iv i,iv k] [(0,dV (aU 1 n c) p),(1,dI (aD ms) cc)] 2 2 (.tuple ⟨[]⟩) [(0,dV (aU 1 n c) p),(1,dI (aD (yr ms i k)) cc)]:=by
 have h1:=GB (ms:=ms) (i:=i) (by omega) (hf ms k)
 have h2:=GB (ms:=ms.set i (hf ms k)) (i:=k) (by simp;omega) (hf ms i)
 have l1:(aD (ms.set i (hf ms k))).length<=cc:=by rw[mO];simp;exact hc
 have l2:(aD (yr ms i k)).length<=cc:=by rw[mO,kG];exact hc
 refine aK1 (cO z) (fn:=f247) hz (WH z zn i k n c cc p (hf ms i) (hf ms k) (aD ms) (aD (ms.set i (hf ms k))) (aD (yr ms i k)) _ ?_)
 (repeat' first|(with_reducible first|exact rfl|assumption|apply And.intro|exact Mw (by omega) _|exact b9 _ _)|exact h2|exact q1)
end
def upφ(ms:List bU)(m:Nat)(ms':List bU):Prop:=ms'.length=ms.length/\mL dC (hf ms') m/\ ∀v,gg (hf ms') m v↔gg (hf ms) m v
theorem Mr{i:Nat}(h:0<i):((i:Int) - 1).tdiv 2=(((i - 1) / 2:Nat):Int):=by
 rw[show(i:Int) - 1=((i - 1:Nat):Int) by omega]
 rw[Int.tdiv_eq_ediv_of_nonneg (by omega)]
 omega
section
variable{z:T aa}{zn:Nat}
theorem zR(hz:ax z zn)(ms:List bU)(m i c cc:Nat)(p:Int)(hi:i<m)(hm:m<=ms.length)(hc:ms.length*4<=cc)(hs:m<100000000)(hU:JC dC (hf ms) m i):
 ai prog (ah (ag f237) 0) 4 54 (qs i) [(0,dV (aU 4 m c) p),(4,dI (aD ms) cc)] (4+1) z zn (Al.R (Kp z zn 4 i m c cc p (aD ms) (upφ ms m)).l):=by
 refine an hD (cO z) (α:=Nat × List bU) 4 54 (4+1) (fun x=>x.1<m/\x.2.length=ms.length/\JC dC (hf x.2) m x.1/\ ∀v,gg (hf x.2) m v↔gg (hf ms) m v) (fun x=>qs x.1) (fun x=>[(0,dV (aU 4 m c) p),(4,dI (aD x.2) cc)]) (fun _=>z) (fun _=>zn) (fun x=>x.1) _ (fun x hI=>?_) (i,ms) ⟨hi,rfl,hU,fun _=>Iff.rfl⟩
 obtain⟨i,ms'⟩:=x
 obtain⟨h1,h2,h3,h4⟩:=hI
 simp only at h1 h2 h3 h4 ⊢
 have out:(i=0\/dC (hf ms' i) (hf ms' ((i - 1) / 2))=false)->Al.R (Kp z zn 4 i m c cc p (aD ms) (upφ ms m)).l ⟨.exit 0,[(0,ip 0)],[(0,dV (aU 4 m c) p),(4,dI (aD ms') cc)],4+1,z,zn⟩:=fun h=>Cs ms' ⟨h2,CC h3 h,h4⟩ rfl
 by_cases h0:0<i
 ·have hlt:(i - 1) / 2<i:=by omega
  have b1:=ux hz ms' i ((i - 1) / 2) m c cc p h1 (by omega) (by omega)
  have s1:=xT hz ms' i ((i - 1) / 2) m c cc p h1 (by omega) (by omega) (by omega)
  have e1:=b9 (σ:=sig [(0,0),(1,4)]) ms' cc
  have w1:Value.int .i64 (IntKind.i64.wrap ((i:Int) - 1))=Value.int .i64 ((i:Int) - 1):=iY (by omega) (by omega)
  have w2:Value.int .i64 (IntKind.i64.wrap (((i - 1) / 2:Nat):Int))=Value.int .i64 (((i - 1) / 2:Nat):Int):=iY (by omega) (by omega)
  refine t100 (SH z zn i m c cc p (fun x y=>dC (hf ms' x.toNat) (hf ms' y.toNat)) (fun x y=>aD (yr ms' x.toNat y.toNat)) (aD ms') (aj _ _ _ _ _ _ _ _ _) ?_)
  rw[Mr h0]
  have hc0:decide ((i:Int)>0)=true:=by simp;omega
  refine⟨fun _=>?_,nC1 hc0⟩
  simp only[Int.toNat_natCast]
  (repeat' first|(with_reducible first|exact rfl|exact True.intro|assumption|apply And.intro|exact b9 _ _)|exact b1|exact s1|intro hq)
  ·refine⟨((i - 1) / 2,yr ms' i ((i - 1) / 2)),rfl,rfl,rfl,rfl,rfl,⟨by simp only;omega,by simp only[kG];exact h2,?_,fun v=>?_⟩,hlt⟩
   ·simp only
    rw[mg (by omega) (by omega)]
    exact CB ir h3 h0 h1 (by assumption)
   ·simp only
    rw[mg (by omega) (by omega),sH h1 (by omega)]
    exact h4 v
  ·exact out (.inr (by with_reducible assumption))
 ·have hi0:i=0:=by omega
  subst hi0
  refine t100 (SH z zn 0 m c cc p (fun x y=>false) (fun x y=>[]) (aD ms') (aj _ _ _ _ _ _ _ _ _) ⟨fun h=>(by simp at h),fun _=>?_⟩)
  (repeat' first|(with_reducible first|exact rfl|assumption|apply And.intro|exact b9 _ _))
  ·exact out (.inl rfl)
theorem GW(hz:ax z zn)(ms:List bU)(m i c cc:Nat)(p:Int)(hi:i<m)(hm:m<=ms.length)(hc:ms.length*4<=cc)(hs:m<100000000)(hU:JC dC (hf ms) m i):
 ai prog (ah (ag f237) 0) 5 54 (qs i) [(0,dV (aU 5 m c) p),(5,dI (aD ms) cc)] (5+1) z zn (Al.R (Kp z zn 5 i m c cc p (aD ms) (upφ ms m)).l):=by
 refine an hD (cO z) (α:=Nat × List bU) 5 54 (5+1) (fun x=>x.1<m/\x.2.length=ms.length/\JC dC (hf x.2) m x.1/\ ∀v,gg (hf x.2) m v↔gg (hf ms) m v) (fun x=>qs x.1) (fun x=>[(0,dV (aU 5 m c) p),(5,dI (aD x.2) cc)]) (fun _=>z) (fun _=>zn) (fun x=>x.1) _ (fun x hI=>?_) (i,ms) ⟨hi,rfl,hU,fun _=>Iff.rfl⟩
 obtain⟨i,ms'⟩:=x
 obtain⟨h1,h2,h3,h4⟩:=hI
 simp only at h1 h2 h3 h4 ⊢
 have out:(i=0\/dC (hf ms' i) (hf ms' ((i - 1) / 2))=false)->Al.R (Kp z zn 5 i m c cc p (aD ms) (upφ ms m)).l ⟨.exit 0,[(0,ip 0)],[(0,dV (aU 5 m c) p),(5,dI (aD ms') cc)],5+1,z,zn⟩:=fun h=>Cs ms' ⟨h2,CC h3 h,h4⟩ rfl
 by_cases h0:0<i
 ·have hlt:(i - 1) / 2<i:=by omega
  have b1:=ux hz ms' i ((i - 1) / 2) m c cc p h1 (by omega) (by omega)
  have s1:=xT hz ms' i ((i - 1) / 2) m c cc p h1 (by omega) (by omega) (by omega)
  have e1:=b9 (σ:=sig [(0,0),(1,5)]) ms' cc
  have w1:Value.int .i64 (IntKind.i64.wrap ((i:Int) - 1))=Value.int .i64 ((i:Int) - 1):=iY (by omega) (by omega)
  have w2:Value.int .i64 (IntKind.i64.wrap (((i - 1) / 2:Nat):Int))=Value.int .i64 (((i - 1) / 2:Nat):Int):=iY (by omega) (by omega)
  refine t100 (SG z zn i m c cc p (fun x y=>dC (hf ms' x.toNat) (hf ms' y.toNat)) (fun x y=>aD (yr ms' x.toNat y.toNat)) (aD ms') (aj _ _ _ _ _ _ _ _ _) ?_)
  rw[Mr h0]
  have hc0:decide ((i:Int)>0)=true:=by simp;omega
  refine⟨fun _=>?_,nC1 hc0⟩
  simp only[Int.toNat_natCast]
  (repeat' first|(with_reducible first|exact rfl|exact True.intro|assumption|apply And.intro|exact b9 _ _)|exact b1|exact s1|intro hq)
  ·refine⟨((i - 1) / 2,yr ms' i ((i - 1) / 2)),rfl,rfl,rfl,rfl,rfl,⟨by simp only;omega,by simp only[kG];exact h2,?_,fun v=>?_⟩,hlt⟩
   ·simp only
    rw[mg (by omega) (by omega)]
    exact CB ir h3 h0 h1 (by assumption)
   ·simp only
    rw[mg (by omega) (by omega),sH h1 (by omega)]
    exact h4 v
  ·exact out (.inr (by with_reducible assumption))
 ·have hi0:i=0:=by omega
  subst hi0
  refine t100 (SG z zn 0 m c cc p (fun x y=>false) (fun x y=>[]) (aD ms') (aj _ _ _ _ _ _ _ _ _) ⟨fun h=>(by simp at h),fun _=>?_⟩)
  (repeat' first|(with_reducible first|exact rfl|assumption|apply And.intro|exact b9 _ _))
  ·exact out (.inl rfl)
def pushφ(s:pZ)(x:cH)(ms':List bU):Prop:=s.n+1<=ms'.length/\ms'.length<=s.ms.length+1/\mL dC (hf ms') (s.n+1)/\ ∀v,gg (hf ms') (s.n+1) v↔v=⟨x,s.p⟩\/gg (hf s.ms) s.n v
structure uR(s:pZ):Prop where
 len:s.n<=s.ms.length
 heap:mL dC (hf s.ms) s.n
 p0:0<=s.p
 pb:s.p<=1000000
 lp:(s.ms.length:Int)<=s.p
theorem CA{f g:Nat->bU}{n:Nat}{x:bU}(h: ∀k,k<n->g k=f k)(hn:g n=x)(v:bU):gg g (n+1) v↔v=x\/gg f n v:=by
 constructor
 ·rintro⟨k,hk,rfl⟩
  by_cases e:k=n
  ·subst e;exact .inl hn
  ·exact .inr ⟨k,by omega,(h k (by omega)).symm⟩
 ·rintro (rfl|⟨k,hk,rfl⟩)
  ·exact⟨n,by omega,hn⟩
  ·exact⟨k,by omega,h k hk⟩
theorem LJ(hz:ax z zn)(x:cH):A1 z zn 237 [ip 0, .agg ⟨x.row⟩] [(0,dV az 0)] 1 2 (.tuple ⟨[]⟩) [(0,dV (aU 1 1 1) 1),(1,dI (bU.row ⟨x,0⟩) 4)]:=by
 have hK:=zR hz [⟨x,0⟩] 1 0 1 4 1 (by omega) (by simp) (by simp) (by omega) ⟨fun k h0 hk=>by omega,fun k h0 hk=>by omega⟩
 have w1:Value.int .i64 (IntKind.i64.wrap ((0:Int)+1))=Value.int .i64 ((0:Int)+1):=iY (by omega) (by omega)
 refine aK1 (cO z) (fn:=f237) hz (WM z zn x 0 (upφ [⟨x,0⟩] 1) _ ?_)
 (repeat' first|(with_reducible first|exact rfl|assumption|apply And.intro|exact b9 _ _)|exact hK|intro hq)
 all_goals
  rename_i ms
  obtain⟨k1,k2,k3⟩:=hq
  obtain⟨j,hj,hv⟩:=(k3 ⟨x,0⟩).2 ⟨0,by omega,rfl⟩
  have hj0:j=0:=by omega
  subst hj0
  have:ms=[⟨x,0⟩]:=by
   match ms,k1 with
   |[a],_=>exact congrArg (fun y=>[y]) hv
  subst this
  exact q1
theorem LK(hz:ax z zn)(n:Nat)(ms:List bU)(p:Int)(hs:uR ⟨n,ms,p⟩)(h1:1<=ms.length)(hp:p+1<=1000000)(x:cH):
 aQ prog z zn 237 [ip 0, .agg ⟨x.row⟩] [(0,dV (aU 1 n ms.length) p),(1,dI (aD ms) (ms.length*4))] 2 3 (pushφ ⟨n,ms,p⟩ x) (fun _=> .tuple ⟨[]⟩) (fun ms=>[(0,dV (aU 2 (n+1) ms.length) (p+1)),(2,dI (aD ms) (ms.length*4))]):=by
 obtain⟨q1,q2',q3,q4,q5⟩:=hs
 simp only at q1 q2' q3 q4 q5
 have w1:Value.int .i64 (IntKind.i64.wrap (p+1))=Value.int .i64 (p+1):=iY (by omega) (by omega)
 have w2:Value.int .i64 (IntKind.i64.wrap ((↑(n+1):Int) - 1))=Value.int .i64 ((↑(n+1):Int) - 1):=iY (by omega) (by omega)
 have w3:(some (Value.int IntKind.i64 (↑n:Int)):Option Value)=some (Value.int IntKind.i64 ((↑(n+1):Int) - 1)):=by congr 2;omega
 have low: ∀ms':List bU,pushφ ⟨n,ms,p⟩ x ms'->BT [(0,dV (aU 2 (n+1) ms'.length) (p+1)),(2,dI (aD ms') (ms'.length*4))]=true/\zn<=zn/\ax z zn:=fun _ _=>⟨rfl,Nat.le_refl _,hz⟩
 by_cases hlt:n<ms.length
 ·
  have hset: ∀k,hf (ms.set n ⟨x,p⟩) k=if k=n then ⟨x,p⟩ else hf ms k:=fun k=>by
   unfold hf
   rw[List.getElem?_set]
   by_cases e:n=k
   ·subst e;simp[hlt]
   ·have e': ¬k=n:=fun h=>e h.symm
    simp[e,e']
  have hU:JC dC (hf (ms.set n ⟨x,p⟩)) (n+1) n:=by
   rw[show hf (ms.set n ⟨x,p⟩)=fun k=>if k=n then ⟨x,p⟩ else hf ms k from funext hset]
   exact yC q2' _
  have hK:=zR hz (ms.set n ⟨x,p⟩) (n+1) n ms.length (ms.length*4) (p+1) (by omega) (by simp;omega) (by simp) (by omega) (by exact hU)
  have o1:=GB (i:=n) hlt ⟨x,p⟩
  have l1:(aD (ms.set n ⟨x,p⟩)).length<=ms.length*4:=by rw[mO];simp
  refine fJ (cO z) (fn:=f237) (by kernel_rfl) (by kernel_rfl) hz ⟨by decide,by decide⟩ low (N:=100) ?_
  refine WL z zn n ms.length (ms.length*4) x p (aD ms) (aD (ms.set n ⟨x,p⟩)) (upφ (ms.set n ⟨x,p⟩) (n+1)) _ ?_
  (repeat' first|(with_reducible first|exact rfl|assumption|apply And.intro|exact b9 _ _|exact(by omega:n+1<=ms.length))|exact hK|intro hq)
  all_goals
   rename_i ms'
   obtain⟨k1,k2,k3⟩:=hq
   rw[List.length_set] at k1
   have hv: ∀v,gg (hf ms') (n+1) v↔v=⟨x,p⟩\/gg (hf ms) n v:=fun v=>(k3 v).trans (CA (fun k hk=>by rw[hset,if_neg (by omega)]) (by rw[hset,if_pos rfl]) v)
   exact q2 ms' ⟨by show n+1<=ms'.length;omega,by show ms'.length<=ms.length+1;omega,k2,hv⟩ rfl rfl (by rw[←k1];rfl) rfl rfl
 ·have hn:n=ms.length:=by omega
  have hset: ∀k,hf (ms++[⟨x,p⟩]) k=if k=n then ⟨x,p⟩ else hf ms k:=fun k=>by
   unfold hf
   rw[List.getElem?_append]
   by_cases e:k=n
   ·subst e;rw[if_neg (by omega),if_pos rfl,hn];simp
   ·rw[if_neg e]
    by_cases e2:k<ms.length
    ·rw[if_pos e2]
    ·rw[if_neg e2,List.getElem?_eq_none (by omega:ms.length<=k),List.getElem?_eq_none (by simp;omega)]
  have hU:JC dC (hf (ms++[⟨x,p⟩])) (n+1) n:=by
   rw[show hf (ms++[⟨x,p⟩])=fun k=>if k=n then ⟨x,p⟩ else hf ms k from funext hset]
   exact yC q2' _
  have hK:=GW hz (ms++[⟨x,p⟩]) (n+1) n (n+1) ((n+1)*4) (p+1) (by omega) (by simp;omega) (by simp;omega) (by omega) (by exact hU)
  have o1:aD ms++bU.row ⟨x,p⟩=aD (ms++[⟨x,p⟩]):=by
   show _=((ms++[(⟨x,p⟩:bU)]).map bU.row).flatten
   rw[List.map_append,List.flatten_append];rfl
  rw[←o1] at hK
  have l1:(aD ms).length=n*4:=by rw[mO,hn]
  have l2:ms.length*4=n*4:=by rw[hn]
  have r1:=b9 (σ:=ay [(0,0),(5,4)] []) (ms++[⟨x,p⟩]) ((n+1)*4)
  rw[←o1] at r1
  rw[show dV (aU 1 n ms.length) p=dV (aU 1 n n) p by rw[←hn]]
  refine fJ (cO z) (fn:=f237) (by kernel_rfl) (by kernel_rfl) hz ⟨by decide,by decide⟩ low (N:=100) ?_
  refine WK z zn n (ms.length*4) x p (aD ms) (upφ (ms++[⟨x,p⟩]) (n+1)) _ ?_
  (repeat' first|(with_reducible first|exact rfl|assumption|apply And.intro|exact b9 _ _|exact(by omega:n+1<=1048576))|exact hK|intro hq)
  all_goals
   rename_i ms'
   obtain⟨k1,k2,k3⟩:=hq
   rw[List.length_append,List.length_singleton,←hn] at k1
   have hv: ∀v,gg (hf ms') (n+1) v↔v=⟨x,p⟩\/gg (hf ms) n v:=fun v=>(k3 v).trans (CA (fun k hk=>by rw[hset,if_neg (by omega)]) (by rw[hset,if_pos rfl]) v)
   exact q2 ms' ⟨by show n+1<=ms'.length;omega,by show ms'.length<=ms.length+1;omega,k2,hv⟩ rfl rfl (by rw[←k1];rfl) rfl rfl
theorem PH(hz:ax z zn)(s:pZ)(hs:uR s)(h1:1<=s.ms.length)(hp:s.p+1<=1000000)(x:cH):
 aQ prog z zn 237 [ip 0, .agg ⟨x.row⟩] [(0,wy 1 s),(1,vL s)] 2 3 (pushφ s x) (fun _=> .tuple ⟨[]⟩) (fun ms=>[(0,dV (aU 2 (s.n+1) ms.length) (s.p+1)),(2,dI (aD ms) (ms.length*4))]):=LK hz s.n s.ms s.p hs h1 hp x
end
def skφ(ms:List bU)(n:Nat)(ms':List bU):Prop:=ms'.length=ms.length/\mL dC (hf ms') n/\ ∀v,gg (hf ms') n v↔gg (hf ms) n v
theorem WE(a:bU):dC a a=false:=by
 cases h:dC a a with
 |false=>rfl
 |true=>rw[mA] at h;omega
section
variable{z:T aa}{zn:Nat}
theorem Tc(hz:ax z zn)(n c cc:Nat)(p:Int)(ms:List bU):A1 z zn 251 [ip 0] [(0,dV (aU 1 n c) p),(1,dI (aD ms) cc)] 2 2 (iv n) [(0,dV (aU 1 n c) p),(1,dI (aD ms) cc)]:=by
 refine aK1 (cO z) (fn:=f251) hz (N:=100) ?_
 refine hlen z zn n c cc p (aD ms) _ ?_
 (repeat' first|(with_reducible first|exact rfl|assumption|apply And.intro|exact b9 _ _)|exact q1)
theorem RG{ms:List bU}(h:0<ms.length)(c:Nat):aC prog (aY.mk (aD ms) c 4 329 false false 0 true) 315 0=some (.agg ⟨(hf ms 0).x.row⟩):=by
 cases ms with
 |nil=>simp at h
 |cons a l=>rfl
theorem IA(hz:ax z zn)(n c cc:Nat)(p:Int)(ms:List bU)(hn:n<=ms.length)(a:cH)(ha:a=if n=0 then ⟨0,0,0⟩ else (hf ms 0).x):A1 z zn 248 [ip 0] [(0,dV (aU 1 n c) p),(1,dI (aD ms) cc)] 2 2 (.tuple ⟨[.agg ⟨a.row⟩, .bool (decide (0<n))]⟩) [(0,dV (aU 1 n c) p),(1,dI (aD ms) cc)]:=by
 have hl:=Tc hz n c cc p ms
 refine aK1 (cO z) (fn:=f248) hz (N:=100) ?_
 refine hpk z zn n c cc p a (aD ms) _ ?_
 by_cases h0:n=0
 ·subst h0
  have hc:(((0:Nat):Int)==0)=true:=rfl
  (repeat' first|(with_reducible first|exact rfl|assumption|apply And.intro|exact b9 _ _)|exact(rfl:Int.ofNat _=_)|exact hl|intro hq)
  all_goals first
   |(rw[hc] at hq;cases hq;done)
   |(refine yW ?_
     rw[ha,if_pos rfl];rfl)
 ·have hc:((n:Int)==0)=false:=by simp;omega
  have hr:a=(hf ms 0).x:=by rw[ha,if_neg h0]
  have r3:=RG (ms:=ms) (by omega) cc
  rw[←hr] at r3
  (repeat' first|(with_reducible first|exact rfl|assumption|apply And.intro|exact b9 _ _|exact(by omega:0<n))|exact(rfl:Int.ofNat _=_)|exact hl|intro hq)
  all_goals first
   |(rw[hc] at hq;cases hq;done)
   |(refine yW ?_
     rw[show decide (0<n)=true by simp;omega];done)
   |skip
theorem Ku(hz:ax z zn)(ms:List bU)(n c cc:Nat)(p:Int)(hn:n<=ms.length)(hc:ms.length*4<=cc)(hs:n<100000000)(hU:pV dC (hf ms) n 0):
 ai prog (ah (ag f249) 0) 2 41 (zG 0) [(0,dV (aU 1 n c) p),(1,dI (aD ms) cc)] 2 z zn (Al.R (Ou z zn 0 n c cc p (aD ms) (skφ ms n)).l):=by
 refine an hD (cO z) (α:=Nat × List bU) 2 41 2 (fun x=>(x.1<n\/(x.1=0/\n=0))/\x.2.length=ms.length/\pV dC (hf x.2) n x.1/\ ∀v,gg (hf x.2) n v↔gg (hf ms) n v) (fun x=>zG x.1) (fun x=>[(0,dV (aU 1 n c) p),(1,dI (aD x.2) cc)]) (fun _=>z) (fun _=>zn) (fun x=>n - x.1) _ (fun x hI=>?_) (0,ms) ⟨by show 0<n\/(0=0/\n=0);omega,rfl,hU,fun _=>Iff.rfl⟩
 obtain⟨i,ms'⟩:=x
 obtain⟨h1,h2,h3,h4⟩:=hI
 simp only at h1 h2 h3 h4 ⊢
 have out:(∀k,k<n->0<k->(k - 1) / 2=i->dC (hf ms' k) (hf ms' i)=false)->Al.R (Ou z zn 0 n c cc p (aD ms) (skφ ms n)).l ⟨.ret,[(0,ip 0)],[(0,dV (aU 1 n c) p),(1,dI (aD ms') cc)],2,z,zn⟩:=fun h=>Cs ms' ⟨h2,ES h3 h,h4⟩ rfl
 have w1:Value.int .i64 (IntKind.i64.wrap (2*(i:Int)))=Value.int .i64 (2*(i:Int)):=iY (by omega) (by omega)
 have w2:Value.int .i64 (IntKind.i64.wrap (2*(i:Int)+1))=Value.int .i64 (2*(i:Int)+1):=iY (by omega) (by omega)
 have w3:Value.int .i64 (IntKind.i64.wrap (2*(i:Int)+1+1))=Value.int .i64 (2*(i:Int)+1+1):=iY (by omega) (by omega)
 have e1:(2*(i:Int)+1)=((2*i+1:Nat):Int):=by omega
 have e2:(2*(i:Int)+1+1)=((2*i+2:Nat):Int):=by omega
 have jC: ∀k,0<k->k<n->(k - 1) / 2=i->dC (hf ms' k) (hf ms' i)=true->(∀j,j<n->0<j->(j - 1) / 2=i->dC (hf ms' j) (hf ms' k)=false)->
  aj (fun x:Nat × List bU=>(x.1<n\/(x.1=0/\n=0))/\x.2.length=ms.length/\pV dC (hf x.2) n x.1/\ ∀v,gg (hf x.2) n v↔gg (hf ms) n v) (fun x=>zG x.1) (fun x=>[(0,dV (aU 1 n c) p),(1,dI (aD x.2) cc)]) 2 (fun _=>z) (fun _=>zn) (fun x=>n - x.1) (Al.R (Ou z zn 0 n c cc p (aD ms) (skφ ms n)).l) (i,ms') .normal (zG k) [(0,dV (aU 1 n c) p),(1,dI (aD (yr ms' i k)) cc)] 2 z zn:=fun k k0 kn kp kb km=>by
  refine⟨(k,yr ms' i k),rfl,rfl,rfl,rfl,rfl,⟨.inl kn,by simp only[kG];exact h2,?_,fun v=>?_⟩,by simp only;omega⟩
  ·simp only
   rw[mg (by omega) (by omega)]
   exact EP ir h3 k0 kn kp kb km
  ·simp only
   rw[mg (by omega) (by omega),sH (by omega) kn]
   exact h4 v
 refine t100 (WI z zn i n c cc p (fun x y=>dC (hf ms' x.toNat) (hf ms' y.toNat)) (fun x y=>aD (yr ms' x.toNat y.toNat)) (aD ms') (aj _ _ _ _ _ _ _ _ _) ?_)
 by_cases hA:n<=2*i+1
 ·have d1:decide ((2*(i:Int)+1)>=(n:Int))=true:=by simp;omega
  refine⟨w1,w2,fun _=>?_,nC1 d1⟩
  (repeat' first|(with_reducible first|exact rfl|assumption|apply And.intro|exact b9 _ _))
  exact out fun k kn k0 kp=>by omega
 ·have d1:decide ((2*(i:Int)+1)>=(n:Int))=false:=by simp;omega
  refine⟨w1,w2,nC1 d1,fun _=>?_⟩
  have g: ∀a b,a<n->b<n->_:=fun a b ha hb=>ux hz ms' a b n c cc p ha hb (by omega)
  have s: ∀a b,a<n->b<n->_:=fun a b ha hb=>xT hz ms' a b n c cc p ha hb (by omega) (by omega)
  have gA:=g (2*i+1) i (by omega) (by omega)
  have sA:=s i (2*i+1) (by omega) (by omega)
  rw[e1,e2] at*
  by_cases hB:2*i+2<n
  ·have gB:=g (2*i+2) (2*i+1) hB (by omega)
   have gC:=g (2*i+2) i hB (by omega)
   have sC:=s i (2*i+2) (by omega) hB
   have d2:decide (((2*i+2:Nat):Int)<(n:Int))=true:=by simp;omega
   simp only[Int.toNat_natCast]
   (repeat' first|(with_reducible first|exact rfl|exact True.intro|assumption|apply And.intro|exact b9 _ _)|exact w3|exact gA|exact gB|exact gC|exact sA|exact sC|intro hq)
   all_goals try (exfalso;have h':decide (((2*i+2:Nat):Int)<(n:Int))=false:=(by with_reducible assumption);rw[d2] at h';cases h';done)
   all_goals simp only[Bool.not_eq_true',Bool.not_eq_false'] at*
   ·have f1:dC (hf ms' (2*i+2)) (hf ms' (2*i+1))=true:=by with_reducible assumption
    have f2:dC (hf ms' (2*i+2)) (hf ms' i)=false:=by with_reducible assumption
    exact out fun k kn k0 kp=>by
     have:k=2*i+1\/k=2*i+2:=by omega
     rcases this with rfl|rfl
     ·exact ir.trans _ _ _ f2 (ir.asymm _ _ f1)
     ·exact f2
   ·have f1:dC (hf ms' (2*i+2)) (hf ms' (2*i+1))=true:=by with_reducible assumption
    have f2:dC (hf ms' (2*i+2)) (hf ms' i)=true:=by with_reducible assumption
    exact jC (2*i+2) (by omega) hB (by omega) f2 fun k kn k0 kp=>by
     have:k=2*i+1\/k=2*i+2:=by omega
     rcases this with rfl|rfl
     ·exact ir.asymm _ _ f1
     ·exact WE _
   ·have f1:dC (hf ms' (2*i+2)) (hf ms' (2*i+1))=false:=by with_reducible assumption
    have f2:dC (hf ms' (2*i+1)) (hf ms' i)=false:=by with_reducible assumption
    exact out fun k kn k0 kp=>by
     have:k=2*i+1\/k=2*i+2:=by omega
     rcases this with rfl|rfl
     ·exact f2
     ·exact ir.trans _ _ _ f2 f1
   ·have f1:dC (hf ms' (2*i+2)) (hf ms' (2*i+1))=false:=by with_reducible assumption
    have f2:dC (hf ms' (2*i+1)) (hf ms' i)=true:=by with_reducible assumption
    exact jC (2*i+1) (by omega) (by omega) (by omega) f2 fun k kn k0 kp=>by
     have:k=2*i+1\/k=2*i+2:=by omega
     rcases this with rfl|rfl
     ·exact WE _
     ·exact f1
  ·have d2:decide (((2*i+2:Nat):Int)<(n:Int))=false:=by simp;omega
   simp only[Int.toNat_natCast]
   (repeat' first|(with_reducible first|exact rfl|exact True.intro|assumption|apply And.intro|exact b9 _ _)|exact w3|exact gA|exact sA|intro hq)
   all_goals try (exfalso;have h':decide (((2*i+2:Nat):Int)<(n:Int))=true:=(by with_reducible assumption);rw[d2] at h';cases h';done)
   all_goals simp only[Bool.not_eq_true',Bool.not_eq_false'] at*
   ·have f2:dC (hf ms' (2*i+1)) (hf ms' i)=false:=by with_reducible assumption
    exact out fun k kn k0 kp=>by
     have:k=2*i+1:=by omega
     subst this;exact f2
   ·have f2:dC (hf ms' (2*i+1)) (hf ms' i)=true:=by with_reducible assumption
    exact jC (2*i+1) (by omega) (by omega) (by omega) f2 fun k kn k0 kp=>by
     have:k=2*i+1:=by omega
     subst this;exact WE _
theorem PE(hz:ax z zn)(ms:List bU)(n c cc:Nat)(p:Int)(hn:n<=ms.length)(hc:ms.length*4<=cc)(hs:n<100000000)(hU:pV dC (hf ms) n 0):
 aQ prog z zn 249 [ip 0] [(0,dV (aU 1 n c) p),(1,dI (aD ms) cc)] 2 2 (skφ ms n) (fun _=> .tuple ⟨[]⟩) (fun ms=>[(0,dV (aU 1 n c) p),(1,dI (aD ms) cc)]):=by
 have hK:=Ku hz ms n c cc p hn hc hs hU
 refine fJ (cO z) (fn:=f249) (by kernel_rfl) (by kernel_rfl) hz ⟨by decide,by decide⟩ (fun _ _=>⟨rfl,Nat.le_refl _,hz⟩) (N:=100) ?_
 refine SI z zn n c cc p (aD ms) (skφ ms n) _ ?_
 (repeat' first|(with_reducible first|exact rfl|assumption|apply And.intro|exact b9 _ _)|exact hK|intro hq)
 all_goals
  rename_i ms'
  exact q2 ms' hq rfl rfl rfl rfl rfl
def popφ(ms:List bU)(n:Nat)(ms':List bU):Prop:=ms'.length=ms.length/\mL dC (hf ms') (n - 1)/\ ∀v,gg (hf ms') (n - 1) v↔ ∃i,0<i/\i<n/\hf ms i=v
theorem S5(hz:ax z zn)(ms:List bU)(n c cc:Nat)(p:Int)(h0:0<n)(hn:n<=ms.length)(hcn:n<=c)(hc:ms.length*4<=cc)(hs:n<100000000)(hU:mL dC (hf ms) n):
 aQ prog z zn 238 [ip 0] [(0,dV (aU 1 n c) p),(1,dI (aD ms) cc)] 2 2 (popφ ms n) (fun _=> .tuple ⟨[.agg ⟨(hf ms 0).x.row⟩,T1]⟩) (fun ms=>[(0,dV (aU 1 (n - 1) c) p),(1,dI (aD ms) cc)]):=by
 have hk:=IA hz n c cc p ms hn (hf ms 0).x (by rw[if_neg (by omega)])
 rw[show decide (0<n)=true by simp;omega] at hk
 have hw:=xT hz ms 0 (n - 1) n c cc p h0 (by omega) hn hc
 have hd:pV dC (hf (yr ms 0 (n - 1))) (n - 1) 0:=by
  rw[mg (by omega) (by omega)]
  obtain⟨m,rfl⟩: ∃m,n=m+1:=⟨n - 1,by omega⟩
  exact B9 hU
 have WI:=PE hz (yr ms 0 (n - 1)) (n - 1) c cc p (by rw[kG];omega) (by rw[kG];exact hc) (by omega) (by exact hd)
 have e1:(n:Int) - 1=((n - 1:Nat):Int):=by omega
 have w1:Value.int .i64 (IntKind.i64.wrap ((n:Int) - 1))=Value.int .i64 ((n:Int) - 1):=iY (by omega) (by omega)
 refine fJ (cO z) (fn:=f238) (by kernel_rfl) (by kernel_rfl) hz ⟨by decide,by decide⟩ (fun _ _=>⟨rfl,Nat.le_refl _,hz⟩) (N:=100) ?_
 refine Hu z zn n c cc p (hf ms 0).x (fun x y=>aD (yr ms x.toNat y.toNat)) (aD ms) (skφ (yr ms 0 (n - 1)) (n - 1)) _ ?_
 rw[e1] at w1 ⊢
 simp only[Int.toNat_natCast,Int.toNat_zero]
 (repeat' first|(with_reducible first|exact rfl|exact True.intro|assumption|apply And.intro|exact Nat.zero_le _|exact b9 _ _|exact(by omega:n - 1<=c)|exact(by omega:0<c))|exact hk|exact hw|exact WI|intro hq)
 all_goals
  rename_i ms'
  obtain⟨k1,k2,k3⟩:=hq
  rw[kG] at k1
  refine q2 ms' ⟨k1,k2,fun v=>(k3 v).trans ?_⟩ rfl rfl rfl rfl rfl
  rw[mg (by omega) (by omega)]
  obtain⟨m,rfl⟩: ∃m,n=m+1:=⟨n - 1,by omega⟩
  exact F4 v
theorem PJ(hz:ax z zn)(ms:List bU)(c cc:Nat)(p:Int):
 A1 z zn 238 [ip 0] [(0,dV (aU 1 0 c) p),(1,dI (aD ms) cc)] 2 2 (.tuple ⟨[.agg ⟨[I 0,I 0,I 0]⟩,F0]⟩) [(0,dV (aU 1 0 c) p),(1,dI (aD ms) cc)]:=by
 have hk:=IA hz 0 c cc p ms (Nat.zero_le _) ⟨0,0,0⟩ (by rw[if_pos rfl])
 refine aK1 (cO z) (fn:=f238) hz (N:=100) ?_
 refine SJ z zn 0 c cc p (aD ms) (fun _=>True) _ ?_
 (repeat' first|(with_reducible first|exact rfl|assumption|apply And.intro|exact b9 _ _)|exact hk|exact q1|intro hq)
end
end Go.Proofs.Nw
namespace Go.iO
abbrev bP:=Nat->Nat->Nat->Prop
inductive Wk (E:bP)(k:Nat):Nat->Nat->Nat->Prop where
 |my {i j w:Nat} (h:E i j w):Wk E k i j w
 |cons {i m j w L:Nat} (h:E i m w) (hm:m<k) (t:Wk E k m j L):Wk E k i j (w+L)
theorem Wk.split{E:bP}{k i j L:Nat}(t:Wk E (k+1) i j L):Wk E k i j L\/ ∃a b,Wk E k i k a/\Wk E k k j b/\a+b<=L:=by
 induction t with
 |my h=>exact .inl (.my h)
 | @cons i m j w L h hm t ih=>
   by_cases hk:m<k
   ·rcases ih with ih|⟨a,b,h1,h2,h3⟩
    ·exact .inl (.cons h hk ih)
    ·exact .inr ⟨w+a,b, .cons h hk h1,h2,by omega⟩
   ·have:m=k:=by omega
    subst this
    rcases ih with ih|⟨a,b,h1,h2,h3⟩
    ·exact .inr ⟨w,L, .my h,ih,by omega⟩
    ·exact .inr ⟨w,b, .my h,h2,by omega⟩
theorem Wk.append{E:bP}{k i m j a b:Nat}(s:Wk E k i m a)(hm:m<k)(t:Wk E k m j b):Wk E k i j (a+b):=by
 induction s with
 |my h=>exact .cons h hm t
 |cons h1 h2 _ ih=>rw[Nat.add_assoc];exact .cons h1 h2 (ih hm t)
theorem Wk.mono{E E':bP}{k i j L:Nat}(h: ∀a b w,E a b w-> ∃w',w'<=w/\E' a b w')(t:Wk E k i j L): ∃L',L'<=L/\Wk E' k i j L':=by
 induction t with
 |my h1=>obtain⟨w',a,b⟩:=h _ _ _ h1;exact⟨w',a, .my b⟩
 |cons h1 h2 _ ih=>
  obtain⟨w',a,b⟩:=h _ _ _ h1
  obtain⟨L',c,d⟩:=ih
  exact⟨w'+L',by omega, .cons b h2 d⟩
def Real(E:bP)(n iW:Nat)(d:Nat->Nat->Int):Prop:= ∀i j,i<n->j<n->0<=d i j/\(d i j<iW->Wk E n i j (d i j).toNat)
def Rm(E:bP)(k:Nat)(d:Nat->Nat->Int)(i j:Nat):Prop:= ∀L,Wk E k i j L->d i j<=(L:Int)
def nB(d:Nat->Nat->Int)(i j:Nat)(v:Int):Nat->Nat->Int:=fun a b=>if a=i/\b=j then v else d a b
structure Ql(E:bP)(n iW k i j:Nat)(d:Nat->Nat->Int):Prop where
 real:Real E n iW d
 low: ∀a b,a<n->b<n->Rm E k d a b
 done: ∀a b,a<n->b<n->(a<i\/a=i/\b<j)->Rm E (k+1) d a b
theorem Rm.le{E:bP}{k:Nat}{d d':Nat->Nat->Int}{i j:Nat}(h:Rm E k d i j)(hd:d' i j<=d i j):Rm E k d' i j:=fun L t=>Int.le_trans hd (h L t)
theorem GL{E:bP}{n iW k i j:Nat}{d:Nat->Nat->Int}(h:Ql E n iW k i j d)(hk:k<n)(hi:i<n)(hj:j<n):
 Ql E n iW k i (j+1) (nB d i j (min (d i j) (d i k+d k j))):=by
 have hle: ∀a b,(nB d i j (min (d i j) (d i k+d k j))) a b<=d a b:=fun a b=>by
  unfold nB;split
  ·rename_i hc;rw[hc.1,hc.2];omega
  ·omega
 refine⟨fun a b ha hb=>?_,fun a b ha hb=>(h.low a b ha hb).le (hle a b),fun a b ha hb hab=>?_⟩
 ·unfold nB
  split
  ·rename_i hc
   obtain⟨rfl,rfl⟩:=hc
   obtain⟨p1,q1⟩:=h.real a b ha hb
   obtain⟨p2,q2⟩:=h.real a k ha hk
   obtain⟨p3,q3⟩:=h.real k b hk hb
   refine⟨by omega,fun hlt=>?_⟩
   by_cases hm:d a b<=d a k+d k b
   ·rw[Int.min_eq_left hm] at hlt ⊢;exact q1 hlt
   ·rw[Int.min_eq_right (by omega)] at hlt ⊢
    have:=(q2 (by omega)).append hk (q3 (by omega))
    rw[show(d a k+d k b).toNat=(d a k).toNat+(d k b).toNat by omega]
    exact this
  ·exact h.real a b ha hb
 ·by_cases hc:a=i/\b=j
  ·obtain⟨rfl,rfl⟩:=hc
   intro L t
   unfold nB
   rw[if_pos ⟨rfl,rfl⟩]
   rcases t.split with t|⟨x,y,t1,t2,hs⟩
   ·have:=h.low a b ha hb _ t;omega
   ·have e1:=h.low a k ha hk _ t1
    have e2:=h.low k b hk hb _ t2
    omega
  ·exact(h.done a b ha hb (by omega)).le (hle a b)
theorem Kj{E:bP}{n iW k i:Nat}{d:Nat->Nat->Int}(h:Ql E n iW k i n d):Ql E n iW k (i+1) 0 d:=
 ⟨h.real,h.low,fun a b ha hb hab=>h.done a b ha hb (by omega)⟩
structure Head(E:bP)(n iW k:Nat)(d:Nat->Nat->Int):Prop where
 real:Real E n iW d
 low: ∀a b,a<n->b<n->Rm E k d a b
theorem Ef{E:bP}{n iW k:Nat}{d:Nat->Nat->Int}(h:Head E n iW k d):Ql E n iW k 0 0 d:=
 ⟨h.real,h.low,fun a b ha hb hab=>by omega⟩
theorem Kk{E:bP}{n iW k:Nat}{d:Nat->Nat->Int}(h:Ql E n iW k n 0 d):Head E n iW (k+1) d:=
 ⟨h.real,fun a b ha hb=>h.done a b ha hb (.inl ha)⟩
def A5(E:bP)(n iW i j:Nat)(v:Int):Prop:=0<=v/\(v<iW->Wk E n i j v.toNat)/\ ∀L:Nat,Wk E n i j L->v<=L
theorem Hw{E:bP}{n iW:Nat}{d:Nat->Nat->Int}(h:Head E n iW n d){i j:Nat}(hi:i<n)(hj:j<n):A5 E n iW i j (d i j):=
 ⟨(h.real i j hi hj).1,(h.real i j hi hj).2,h.low i j hi hj⟩
def cT(l:List (Nat × Nat × Nat)):bP:=fun a b w=>(a,b,w)∈l
theorem wk0{E:bP}{i j L:Nat}(t:Wk E 0 i j L):E i j L:=by
 cases t with
 |my h=>exact h
 |cons _ h _=>omega
def A4(l:List (Nat × Nat × Nat))(n iW:Nat)(d:Nat->Nat->Int):Prop:= ∀i j,i<n->j<n->0<=d i j/\d i j<=iW/\(d i j<iW->(i,j,(d i j).toNat)∈l)/\ ∀w,(i,j,w)∈l->d i j<=(w:Int)
theorem Ez(n iW:Nat):A4 [] n iW (fun _ _=>(iW:Int)):=fun i j _ _=>⟨Int.natCast_nonneg _,Int.le_refl _,fun h=>absurd h (Int.lt_irrefl _),fun w h=>by simp at h⟩
theorem BV{l:List (Nat × Nat × Nat)}{n iW:Nat}{d:Nat->Nat->Int}(h:A4 l n iW d)(a b w:Nat):
 A4 (l++[(a,b,w)]) n iW (nB d a b (min (d a b) w)):=by
 intro i j hi hj
 obtain⟨h1,h2,h3,h4⟩:=h i j hi hj
 unfold nB
 split
 ·rename_i hc
  obtain⟨rfl,rfl⟩:=hc
  refine⟨by omega,by omega,fun hlt=>?_,fun x hx=>?_⟩
  ·by_cases hm:d i j<=w
   ·rw[Int.min_eq_left hm] at hlt ⊢;exact List.mem_append_left _ (h3 hlt)
   ·rw[Int.min_eq_right (by omega)];simp
  ·rcases List.mem_append.1 hx with hx|hx
   ·have:=h4 x hx;omega
   ·simp at hx;subst hx;omega
 ·rename_i hc
  refine⟨h1,h2,fun hlt=>List.mem_append_left _ (h3 hlt),fun x hx=>?_⟩
  rcases List.mem_append.1 hx with hx|hx
  ·exact h4 x hx
  ·simp at hx;exact(hc ⟨hx.1,hx.2.1⟩).elim
theorem BW{l:List (Nat × Nat × Nat)}{n iW:Nat}{d:Nat->Nat->Int}(h:A4 l n iW d):Head (cT l) n iW 0 d:=
 ⟨fun i j hi hj=>⟨(h i j hi hj).1,fun hlt=> .my ((h i j hi hj).2.2.1 hlt)⟩,fun a b ha hb L t=>(h a b ha hb).2.2.2 L (wk0 t)⟩
end Go.iO
