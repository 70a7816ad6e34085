/-
  A part of the proof: lemmas of my own.
-/
import Derived.Test.YtaoccildanienaaGreatWcz
import Derived.KernelRfl
set_option linter.unusedVariables false
set_option linter.unusedSimpArgs false
namespace Go.Proofs.Wc
open Go Go.AV
set_option linter.unusedVariables false

set_option maxRecDepth 1000000 in
theorem l6n (z : T AObj) (g : Nat → List Value → Option Value) (Q : Value → Zone → Nat → Prop) (hyp :
   true = true ∧ 10 = 10 ∧ true = true ∧ z = z ∧ some (I 0) = some (I 0) ∧ Q (I 0) [] 0) : ∃ t, codeT Tryz.prog g z 100 (bodyOf Tryz.f6) (fr0 Tryz.f6 [.pointer none]) (mkHs z [] 0) (retK Tryz.prog z 0 Tryz.f6 Q) t := ⟨ Tr.auto 2 (Tr.ret [] (I 0) [] 0),
 Eq.mp (by kernel_rfl) hyp⟩

set_option maxRecDepth 1000000 in
theorem l6 (z : T AObj) (g : Nat → List Value → Option Value) (last : Nat) (c : Nat) (es : List MapEntry) (Q : Value → Zone → Nat → Prop) (hyp :
   true = true ∧ 10 = 10 ∧ true = true ∧ z = z ∧ some (AObj.blk (Blk.mk [Value.int IntKind.i64 (↑last : Int), Value.map (some 1)] 2 1 62 true true 0
 true)) = some (AObj.blk (Blk.mk [Value.int IntKind.i64 (↑last : Int), Value.map (some 1)] 2 1 62 true true 0 true)) ∧ renO (sig [(0, 0), (1, 1)])
 (AObj.map es c) = some (AObj.map es c) ∧ some (Value.int IntKind.i64 (↑es.length : Int)) = some (Value.int IntKind.i64 (↑es.length : Int)) ∧ Q
 (Value.int IntKind.i64 (↑es.length : Int)) [(0, AObj.blk (Blk.mk [Value.int IntKind.i64 (↑last : Int), Value.map (some 1)] 2 1 62 true true 0 true)),
 (1, AObj.map es c)] 2) : ∃ t, codeT Tryz.prog g z 100 (bodyOf Tryz.f6) (fr0 Tryz.f6 [ip 0]) (mkHs z [(0, wst last 1), (1, .map es c)] 2) (retK Tryz.prog z 2 Tryz.f6 Q) t := ⟨ Tr.auto 3 (Tr.ret [(0, 0), (1, 1)] (Value.int IntKind.i64 (↑es.length : Int)) [(0, AObj.blk (Blk.mk [Value.int IntKind.i64 (↑last : Int), Value.map
 (some 1)] 2 1 62 true true 0 true)), (1, AObj.map es c)] 2),
 Eq.mp (by kernel_rfl) hyp⟩

set_option maxRecDepth 1000000 in
theorem l14 (z : T AObj) (g : Nat → List Value → Option Value) (last : Nat) (c : Nat) (es : List MapEntry) (Q : Value → Zone → Nat → Prop) (hyp :
   Value.int IntKind.i64 (IntKind.i64.wrap ((↑last : Int) + 1)) = Value.int IntKind.i64 (↑(last + 1) : Int) ∧ true = true ∧ 14 = 14 ∧ true = true ∧ z = z
 ∧ some (AObj.blk (Blk.mk [Value.int IntKind.i64 (↑(last + 1) : Int), Value.map (some 1)] 2 1 62 true true 0 true)) = some (AObj.blk (Blk.mk [Value.int
 IntKind.i64 (↑(last + 1) : Int), Value.map (some 1)] 2 1 62 true true 0 true)) ∧ renO (sig [(0, 0), (1, 1)]) (AObj.map es c) = some (AObj.map es c) ∧
 some (Value.int IntKind.i64 (↑(last + 1) : Int)) = some (Value.int IntKind.i64 (↑(last + 1) : Int)) ∧ Q (Value.int IntKind.i64 (↑(last + 1) : Int))
 [(0, AObj.blk (Blk.mk [Value.int IntKind.i64 (↑(last + 1) : Int), Value.map (some 1)] 2 1 62 true true 0 true)), (1, AObj.map es c)] 2) : ∃ t, codeT Tryz.prog g z 100 (bodyOf Tryz.f14) (fr0 Tryz.f14 [ip 0]) (mkHs z [(0, wst last 1), (1, .map es c)] 2) (retK Tryz.prog z 2 Tryz.f14 Q) t := ⟨ Tr.auto 1 (Tr.one (An.val (Value.int IntKind.i64 (↑(last + 1) : Int))) (Tr.auto 2 (Tr.ret [(0, 0), (1, 1)] (Value.int IntKind.i64 (↑(last + 1) : Int))
 [(0, AObj.blk (Blk.mk [Value.int IntKind.i64 (↑(last + 1) : Int), Value.map (some 1)] 2 1 62 true true 0 true)), (1, AObj.map es c)] 2))),
 Eq.mp (by kernel_rfl) hyp⟩

set_option maxRecDepth 1000000 in
theorem l10 (z : T AObj) (g : Nat → List Value → Option Value) (Q : Value → Zone → Nat → Prop) (hyp :
   true = true ∧ 4 = 4 ∧ true = true ∧ z = z ∧ some (AObj.blk (Blk.mk [I 0, Value.map (some 0)] 2 1 62 true true 0 true)) = some (AObj.blk (Blk.mk [I 0,
 Value.map (some 0)] 2 1 62 true true 0 true)) ∧ some (AObj.map [] 0) = some (AObj.map [] 0) ∧ some (Value.pointer (some (Addr.mk 1 0 none))) = some
 (Value.pointer (some (Addr.mk 1 0 none))) ∧ Q (Value.pointer (some (Addr.mk 0 0 none))) [(0, AObj.blk (Blk.mk [I 0, Value.map (some 1)] 2 1 62 true
 true 0 true)), (1, AObj.map [] 0)] 2) : ∃ t, codeT Tryz.prog g z 100 (bodyOf Tryz.f10) (fr0 Tryz.f10 []) (mkHs z [] 0) (retK Tryz.prog z 0 Tryz.f10 Q) t := ⟨ Tr.ret [(0, 1), (1, 0)] (Value.pointer (some (Addr.mk 0 0 none))) [(0, AObj.blk (Blk.mk [I 0, Value.map (some 1)] 2 1 62 true true 0 true)), (1,
 AObj.map [] 0)] 2,
 Eq.mp (by kernel_rfl) hyp⟩

set_option maxRecDepth 1000000 in
theorem l15 (z : T AObj) (g : Nat → List Value → Option Value) (Q : Value → Zone → Nat → Prop) (hyp :
   true = true ∧ 9 = 9 ∧ true = true ∧ z = z ∧ some jV = some jV ∧ Q jV [] 0) : ∃ t, codeT Tryz.prog g z 100 (bodyOf Tryz.f15) (fr0 Tryz.f15 [jV]) (mkHs z [] 0) (retK Tryz.prog z 0 Tryz.f15 Q) t := ⟨ Tr.auto 3 (Tr.ret [] jV [] 0),
 Eq.mp (by kernel_rfl) hyp⟩

set_option maxRecDepth 1000000 in
theorem l4n (z : T AObj) (g : Nat → List Value → Option Value) (Q : Value → Zone → Nat → Prop) (hyp :
   true = true ∧ 46 = 46 ∧ true = true ∧ z = z ∧ some (Value.tuple (Array.mk [I 0, I 40])) = some (Value.tuple (Array.mk [I 0, I 40])) ∧ Q (Value.tuple
 (Array.mk [I 0, I 40])) [] 0) : ∃ t, codeT Tryz.prog g z 100 (bodyOf Tryz.f4) (fr0 Tryz.f4 [.pointer none, .agg ⟨[nilS, nilS, nilS, nilS, nilS, nilS, I 0, I 0, I 0]⟩, .agg ⟨[I 0, I 0, I 0, F0, I 0, I 0, F0, F0, I 0, F0]⟩, jV]) (mkHs z [] 0) (retK Tryz.prog z 0 Tryz.f4 Q) t := ⟨ Tr.auto 2 (Tr.ret [] (Value.tuple (Array.mk [I 0, I 40])) [] 0),
 Eq.mp (by kernel_rfl) hyp⟩

set_option maxRecDepth 1000000 in
theorem l5n (z : T AObj) (g : Nat → List Value → Option Value) (Q : Value → Zone → Nat → Prop) (hyp :
   true = true ∧ 25 = 25 ∧ true = true ∧ z = z ∧ some (I 40) = some (I 40) ∧ Q (I 40) [] 0) : ∃ t, codeT Tryz.prog g z 100 (bodyOf Tryz.f5) (fr0 Tryz.f5 [.pointer none, I 1]) (mkHs z [] 0) (retK Tryz.prog z 0 Tryz.f5 Q) t := ⟨ Tr.auto 2 (Tr.ret [] (I 40) [] 0),
 Eq.mp (by kernel_rfl) hyp⟩

set_option maxRecDepth 1000000 in
theorem l9n (z : T AObj) (g : Nat → List Value → Option Value) (Q : Value → Zone → Nat → Prop) (hyp :
   true = true ∧ 24 = 24 ∧ true = true ∧ z = z ∧ some (Value.tuple (Array.mk [Value.agg (Array.mk [Value.slice none 0 0]), F0])) = some (Value.tuple
 (Array.mk [Value.agg (Array.mk [Value.slice none 0 0]), F0])) ∧ Q (Value.tuple (Array.mk [Value.agg (Array.mk [Value.slice none 0 0]), F0])) [] 0) : ∃ t, codeT Tryz.prog g z 100 (bodyOf Tryz.f9) (fr0 Tryz.f9 [.pointer none, I 1]) (mkHs z [] 0) (retK Tryz.prog z 0 Tryz.f9 Q) t := ⟨ Tr.auto 3 (Tr.ret [] (Value.tuple (Array.mk [Value.agg (Array.mk [Value.slice none 0 0]), F0])) [] 0),
 Eq.mp (by kernel_rfl) hyp⟩

set_option maxRecDepth 1000000 in
theorem l7n (z : T AObj) (g : Nat → List Value → Option Value) (Q : Value → Zone → Nat → Prop) (hyp :
   true = true ∧ 58 = 58 ∧ true = true ∧ z = z ∧ some nb0 = some nb0 ∧ some nb1 = some nb1 ∧ some (nb2 0) = some (nb2 0) ∧ some nb3 = some nb3 ∧ some nb4
 = some nb4 ∧ some nb5 = some nb5 ∧ some nb6 = some nb6 ∧ some nb7 = some nb7 ∧ some (Value.slice none 0 0) = some (Value.slice none 0 0) ∧ Q
 (Value.slice none 0 0) [(0, nb0), (1, nb1), (2, nb2 0), (3, nb3), (4, nb4), (5, nb5), (6, nb6), (7, nb7)] 8) : ∃ t, codeT Tryz.prog g z 100 (bodyOf Tryz.f7) (fr0 Tryz.f7 [.pointer none, nV 0, I 5]) (mkHs z (nZ 0) 8) (retK Tryz.prog z 8 Tryz.f7 Q) t := ⟨ Tr.auto 9 (Tr.ret [(0, 0), (1, 1), (2, 2), (3, 3), (4, 4), (5, 5), (6, 6), (7, 7)] (Value.slice none 0 0) [(0, nb0), (1, nb1), (2, nb2 0), (3, nb3),
 (4, nb4), (5, nb5), (6, nb6), (7, nb7)] 8),
 Eq.mp (by kernel_rfl) hyp⟩

set_option maxRecDepth 1000000 in
theorem l4 (z : T AObj) (g : Nat → List Value → Option Value) (last : Nat) (c : Nat) (es : List MapEntry) (Q : Value → Zone → Nat → Prop) (hyp :
   z = z ∧ (CallA Tryz.prog z 12 [nV 0, qV] [(0, nb0), (1, nb1), (2, nb2 0), (3, nb3), (4, nb4), (5, nb5), (6, nb6), (7, nb7)] 8 8 (fun (x : Unit) =>
 True) (fun (x : Unit) => I 0) fun (x : Unit) => [(0, nb0), (1, nb1), (2, nb2 0), (3, nb3), (4, nb4), (5, nb5), (6, nb6), (7, nb7)]) ∧ some [nV 2, qV] =
 some [nV 2, qV] ∧ some nb0 = some nb0 ∧ some nb1 = some nb1 ∧ some (nb2 2) = some (nb2 2) ∧ some nb3 = some nb3 ∧ some nb4 = some nb4 ∧ some nb5 = some
 nb5 ∧ some nb6 = some nb6 ∧ some nb7 = some nb7 ∧ ∀ (x : Unit), True → some (I 0) = some (I 0) ∧ some nb0 = some nb0 ∧ some nb1 = some nb1 ∧ some (nb2
 0) = some (nb2 0) ∧ some nb3 = some nb3 ∧ some nb4 = some nb4 ∧ some nb5 = some nb5 ∧ some nb6 = some nb6 ∧ some nb7 = some nb7 ∧ z = z ∧ (CallA
 Tryz.prog z 13 [nV 0, qV, Value.agg (Array.mk [Value.slice none 0 0])] [(0, nb0), (1, nb1), (2, nb2 0), (3, nb3), (4, nb4), (5, nb5), (6, nb6), (7,
 nb7)] 8 8 (fun (x : Unit) => True) (fun (x : Unit) => Value.tuple (Array.mk [I 0, I 0])) fun (x : Unit) => [(0, nb0), (1, nb1), (2, nb2 0), (3, nb3),
 (4, nb4), (5, nb5), (6, nb6), (7, nb7)]) ∧ some [nV 2, qV, Value.agg (Array.mk [Value.slice none 0 0])] = some [nV 2, qV, Value.agg (Array.mk
 [Value.slice none 0 0])] ∧ some nb0 = some nb0 ∧ some nb1 = some nb1 ∧ some (nb2 2) = some (nb2 2) ∧ some nb3 = some nb3 ∧ some nb4 = some nb4 ∧ some
 nb5 = some nb5 ∧ some nb6 = some nb6 ∧ some nb7 = some nb7 ∧ ∀ (x : Unit), True → some (Value.tuple (Array.mk [I 0, I 0])) = some (Value.tuple
 (Array.mk [I 0, I 0])) ∧ some nb0 = some nb0 ∧ some nb1 = some nb1 ∧ some (nb2 0) = some (nb2 0) ∧ some nb3 = some nb3 ∧ some nb4 = some nb4 ∧ some nb5
 = some nb5 ∧ some nb6 = some nb6 ∧ some nb7 = some nb7 ∧ z = z ∧ (CallA Tryz.prog z 14 [Value.pointer (some (Addr.mk 0 0 none))] [(0, AObj.blk (Blk.mk
 [Value.int IntKind.i64 (↑last : Int), Value.map (some 1)] 2 1 62 true true 0 true)), (1, AObj.map es c)] 2 2 (fun (x : Unit) => True) (fun (x : Unit)
 => iv (last + 1)) fun (x : Unit) => [(0, wst (last + 1) 1), (1, AObj.map es c)]) ∧ some [Value.pointer (some (Addr.mk 0 0 none))] = some [Value.pointer
 (some (Addr.mk 0 0 none))] ∧ some (AObj.blk (Blk.mk [Value.int IntKind.i64 (↑last : Int), Value.map (some 1)] 2 1 62 true true 0 true)) = some
 (AObj.blk (Blk.mk [Value.int IntKind.i64 (↑last : Int), Value.map (some 1)] 2 1 62 true true 0 true)) ∧ renO (sig [(0, 0), (1, 1)]) (AObj.map es c) =
 some (AObj.map es c) ∧ ∀ (x : Unit), True → some (Value.int IntKind.i64 (↑(last + 1) : Int)) = some (Value.int IntKind.i64 (↑(last + 1) : Int)) ∧ some
 (AObj.blk (Blk.mk [Value.int IntKind.i64 (↑(last + 1) : Int), Value.map (some 1)] 2 1 62 true true 0 true)) = some (AObj.blk (Blk.mk [Value.int
 IntKind.i64 (↑(last + 1) : Int), Value.map (some 1)] 2 1 62 true true 0 true)) ∧ renO (sig [(0, 0), (1, 1)]) (AObj.map es c) = some (AObj.map es c) ∧ z
 = z ∧ g 15 [Value.agg (Array.mk [Value.slice none 0 0])] = some (Value.agg (Array.mk [Value.slice none 0 0])) ∧ findE Tryz.prog 3 (Value.int
 IntKind.i64 (↑(last + 1) : Int)) es 0 = some none ∧ true = true ∧ 46 = 46 ∧ true = true ∧ z = z ∧ some (AObj.blk (Blk.mk [Value.int IntKind.i64 (↑(last
 + 1) : Int), Value.map (some 1)] 2 1 62 true true 0 true)) = some (AObj.blk (Blk.mk [Value.int IntKind.i64 (↑(last + 1) : Int), Value.map (some 1)] 2 1
 62 true true 0 true)) ∧ renO (sig [(0, 0), (1, 1), (2, 2), (3, 3), (4, 4), (5, 5), (6, 6), (7, 7), (8, 8), (9, 9)]) (AObj.map (es ++ [MapEntry.mk
 (Value.int IntKind.i64 (↑(last + 1) : Int)) fV c]) (c + 1)) = some (AObj.map (es ++ [MapEntry.mk (Value.int IntKind.i64 (↑(last + 1) : Int)) fV c]) (c
 + 1)) ∧ some nb0 = some nb0 ∧ some nb1 = some nb1 ∧ some (nb2 2) = some (nb2 2) ∧ some nb3 = some nb3 ∧ some nb4 = some nb4 ∧ some nb5 = some nb5 ∧
 some nb6 = some nb6 ∧ some nb7 = some nb7 ∧ some (Value.tuple (Array.mk [Value.int IntKind.i64 (↑(last + 1) : Int), I 0])) = some (Value.tuple
 (Array.mk [Value.int IntKind.i64 (↑(last + 1) : Int), I 0])) ∧ Q (Value.tuple (Array.mk [Value.int IntKind.i64 (↑(last + 1) : Int), I 0])) [(0,
 AObj.blk (Blk.mk [Value.int IntKind.i64 (↑(last + 1) : Int), Value.map (some 1)] 2 1 62 true true 0 true)), (1, AObj.map (es ++ [MapEntry.mk (Value.int
 IntKind.i64 (↑(last + 1) : Int)) fV c]) (c + 1)), (2, nb0), (3, nb1), (4, nb2 2), (5, nb3), (6, nb4), (7, nb5), (8, nb6), (9, nb7)] 10) : ∃ t, codeT Tryz.prog g z 100 (bodyOf Tryz.f4) (fr0 Tryz.f4 [ip 0, nV 2, qV, jV]) (mkHs z ((0, wst last 1) :: (1, .map es c) :: nZ 2) 10) (retK Tryz.prog z 10 Tryz.f4 Q) t := ⟨ Tr.auto 4 (Tr.cm (Cm.mk [nV 0, qV] [(0, nb0), (1, nb1), (2, nb2 0), (3, nb3), (4, nb4), (5, nb5), (6, nb6), (7, nb7)] 8 8 [(0, 2), (1, 3), (2, 4), (3,
 5), (4, 6), (5, 7), (6, 8), (7, 9)] [(2, 0), (3, 1), (4, 2), (5, 3), (6, 4), (7, 5), (8, 6), (9, 7)] 13) Unit (fun (x : Unit) => True) (fun (x : Unit)
 => I 0) (fun (x : Unit) => [(0, nb0), (1, nb1), (2, nb2 0), (3, nb3), (4, nb4), (5, nb5), (6, nb6), (7, nb7)]) (fun (x : Unit) => I 0) (fun (x : Unit)
 => [(2, nb0), (3, nb1), (4, nb2 2), (5, nb3), (6, nb4), (7, nb5), (8, nb6), (9, nb7)]) fun (x : Unit) => Tr.auto 7 (Tr.cm (Cm.mk [nV 0, qV, Value.agg
 (Array.mk [Value.slice none 0 0])] [(0, nb0), (1, nb1), (2, nb2 0), (3, nb3), (4, nb4), (5, nb5), (6, nb6), (7, nb7)] 8 8 [(0, 2), (1, 3), (2, 4), (3,
 5), (4, 6), (5, 7), (6, 8), (7, 9)] [(2, 0), (3, 1), (4, 2), (5, 3), (6, 4), (7, 5), (8, 6), (9, 7)] 13) Unit (fun (x : Unit) => True) (fun (x : Unit)
 => Value.tuple (Array.mk [I 0, I 0])) (fun (x : Unit) => [(0, nb0), (1, nb1), (2, nb2 0), (3, nb3), (4, nb4), (5, nb5), (6, nb6), (7, nb7)]) (fun (x :
 Unit) => Value.tuple (Array.mk [I 0, I 0])) (fun (x : Unit) => [(2, nb0), (3, nb1), (4, nb2 2), (5, nb3), (6, nb4), (7, nb5), (8, nb6), (9, nb7)]) fun
 (x : Unit) => Tr.auto 2 (Tr.cm (Cm.mk [Value.pointer (some (Addr.mk 0 0 none))] [(0, AObj.blk (Blk.mk [Value.int IntKind.i64 (↑last : Int), Value.map
 (some 1)] 2 1 62 true true 0 true)), (1, AObj.map es c)] 2 2 [(0, 0), (1, 1)] [(0, 0), (1, 1)] 13) Unit (fun (x : Unit) => True) (fun (x : Unit) => iv
 (last + 1)) (fun (x : Unit) => [(0, wst (last + 1) 1), (1, AObj.map es c)]) (fun (x : Unit) => Value.int IntKind.i64 (↑(last + 1) : Int)) (fun (x :
 Unit) => [(0, AObj.blk (Blk.mk [Value.int IntKind.i64 (↑(last + 1) : Int), Value.map (some 1)] 2 1 62 true true 0 true)), (1, AObj.map es c)]) fun (x :
 Unit) => Tr.auto 3 (Tr.one (An.cl (Value.agg (Array.mk [Value.slice none 0 0]))) (Tr.one (An.fno none) (Tr.ret [(0, 0), (1, 1), (2, 2), (3, 3), (4, 4),
 (5, 5), (6, 6), (7, 7), (8, 8), (9, 9)] (Value.tuple (Array.mk [Value.int IntKind.i64 (↑(last + 1) : Int), I 0])) [(0, AObj.blk (Blk.mk [Value.int
 IntKind.i64 (↑(last + 1) : Int), Value.map (some 1)] 2 1 62 true true 0 true)), (1, AObj.map (es ++ [MapEntry.mk (Value.int IntKind.i64 (↑(last + 1) :
 Int)) fV c]) (c + 1)), (2, nb0), (3, nb1), (4, nb2 2), (5, nb3), (6, nb4), (7, nb5), (8, nb6), (9, nb7)] 10)))))),
 Eq.mp (by kernel_rfl) hyp⟩

set_option maxRecDepth 1000000 in
theorem l5 (z : T AObj) (g : Nat → List Value → Option Value) (last : Nat) (c : Nat) (es : List MapEntry) (v : Int) (Q : Value → Zone → Nat → Prop) (hyp :
   findE Tryz.prog 3 (Value.int IntKind.i64 v) es 0 ≠ none ∧ (∀ (p : Nat × Value), findE Tryz.prog 3 (Value.int IntKind.i64 v) es 0 = some (some p) → ∃
 (x : Nat), p = (x, fV)) ∧ (∀ (i : Nat), findE Tryz.prog 3 (Value.int IntKind.i64 v) es 0 = some (some (i, fV)) → findE Tryz.prog 3 (Value.int
 IntKind.i64 v) es 0 = some (some (i, fV)) ∧ dropAt i es = dropAt i es ∧ true = true ∧ 25 = 25 ∧ true = true ∧ z = z ∧ some (AObj.blk (Blk.mk [Value.int
 IntKind.i64 (↑last : Int), Value.map (some 1)] 2 1 62 true true 0 true)) = some (AObj.blk (Blk.mk [Value.int IntKind.i64 (↑last : Int), Value.map (some
 1)] 2 1 62 true true 0 true)) ∧ renO (sig [(0, 0), (1, 1)]) (AObj.map (dropAt i es) c) = some (AObj.map (dropAt i es) c) ∧ some (I 0) = some (I 0) ∧ Q
 (I 0) [(0, AObj.blk (Blk.mk [Value.int IntKind.i64 (↑last : Int), Value.map (some 1)] 2 1 62 true true 0 true)), (1, AObj.map (dropAt i es) c)] 2) ∧
 (findE Tryz.prog 3 (Value.int IntKind.i64 v) es 0 = some none → true = true ∧ 25 = 25 ∧ true = true ∧ z = z ∧ some (AObj.blk (Blk.mk [Value.int
 IntKind.i64 (↑last : Int), Value.map (some 1)] 2 1 62 true true 0 true)) = some (AObj.blk (Blk.mk [Value.int IntKind.i64 (↑last : Int), Value.map (some
 1)] 2 1 62 true true 0 true)) ∧ renO (sig [(0, 0), (1, 1)]) (AObj.map es c) = some (AObj.map es c) ∧ some (I 7) = some (I 7) ∧ Q (I 7) [(0, AObj.blk
 (Blk.mk [Value.int IntKind.i64 (↑last : Int), Value.map (some 1)] 2 1 62 true true 0 true)), (1, AObj.map es c)] 2)) : ∃ t, codeT Tryz.prog g z 100 (bodyOf Tryz.f5) (fr0 Tryz.f5 [ip 0, .int .i64 v]) (mkHs z [(0, wst last 1), (1, .map es c)] 2) (retK Tryz.prog z 2 Tryz.f5 Q) t := ⟨ Tr.auto 3 (Tr.find Nat (fun (i : Nat) => (i, fV)) (fun (i : Nat) => Tr.auto 3 (Tr.x (AnX.del (some (i, fV)) (dropAt i es)) (Tr.ret [(0, 0), (1, 1)] (I
 0) [(0, AObj.blk (Blk.mk [Value.int IntKind.i64 (↑last : Int), Value.map (some 1)] 2 1 62 true true 0 true)), (1, AObj.map (dropAt i es) c)] 2)))
 (Tr.auto 2 (Tr.ret [(0, 0), (1, 1)] (I 7) [(0, AObj.blk (Blk.mk [Value.int IntKind.i64 (↑last : Int), Value.map (some 1)] 2 1 62 true true 0 true)),
 (1, AObj.map es c)] 2))),
 Eq.mp (by kernel_rfl) hyp⟩

set_option maxRecDepth 1000000 in
theorem l7b (z : T AObj) (g : Nat → List Value → Option Value) (last : Nat) (c : Nat) (es : List MapEntry) (Q : Value → Zone → Nat → Prop) (hyp :
   z = z ∧ (CallA Tryz.prog z 16 [bV 0] [(0, bb)] 1 1 (fun (x : Unit) => True) (fun (x : Unit) => Value.tuple (Array.mk [I 2, I 0, I 12])) fun (x : Unit)
 => [(0, bb)]) ∧ some [bV 2] = some [bV 2] ∧ some bb = some bb ∧ ∀ (x : Unit), True → some (Value.tuple (Array.mk [I 2, I 0, I 12])) = some (Value.tuple
 (Array.mk [I 2, I 0, I 12])) ∧ some bb = some bb ∧ true = true ∧ 58 = 58 ∧ true = true ∧ z = z ∧ some (AObj.blk (Blk.mk [Value.int IntKind.i64 (↑last :
 Int), Value.map (some 1)] 2 1 62 true true 0 true)) = some (AObj.blk (Blk.mk [Value.int IntKind.i64 (↑last : Int), Value.map (some 1)] 2 1 62 true true
 0 true)) ∧ renO (sig [(0, 0), (1, 1), (2, 2)]) (AObj.map es c) = some (AObj.map es c) ∧ some bb = some bb ∧ some (Value.slice none 0 0) = some
 (Value.slice none 0 0) ∧ Q (Value.slice none 0 0) [(0, AObj.blk (Blk.mk [Value.int IntKind.i64 (↑last : Int), Value.map (some 1)] 2 1 62 true true 0
 true)), (1, AObj.map es c), (2, bb)] 3) : ∃ t, codeT Tryz.prog g z 100 (bodyOf Tryz.f7) (fr0 Tryz.f7 [ip 0, bV 2, I 5]) (mkHs z ((0, wst last 1) :: (1, .map es c) :: bZ 2) 3) (retK Tryz.prog z 3 Tryz.f7 Q) t := ⟨ Tr.auto 14 (Tr.cm (Cm.mk [bV 0] [(0, bb)] 1 1 [(0, 2)] [(2, 0)] 6) Unit (fun (x : Unit) => True) (fun (x : Unit) => Value.tuple (Array.mk [I 2, I 0, I
 12])) (fun (x : Unit) => [(0, bb)]) (fun (x : Unit) => Value.tuple (Array.mk [I 2, I 0, I 12])) (fun (x : Unit) => [(2, bb)]) fun (x : Unit) => Tr.auto
 2 (Tr.ret [(0, 0), (1, 1), (2, 2)] (Value.slice none 0 0) [(0, AObj.blk (Blk.mk [Value.int IntKind.i64 (↑last : Int), Value.map (some 1)] 2 1 62 true
 true 0 true)), (1, AObj.map es c), (2, bb)] 3)),
 Eq.mp (by kernel_rfl) hyp⟩

set_option maxRecDepth 1000000 in
theorem l7m (z : T AObj) (g : Nat → List Value → Option Value) (last : Nat) (c : Nat) (es : List MapEntry) (Q : Value → Zone → Nat → Prop) (hyp :
   true = true ∧ 58 = 58 ∧ true = true ∧ z = z ∧ some (AObj.blk (Blk.mk [Value.int IntKind.i64 (↑last : Int), Value.map (some 1)] 2 1 62 true true 0
 true)) = some (AObj.blk (Blk.mk [Value.int IntKind.i64 (↑last : Int), Value.map (some 1)] 2 1 62 true true 0 true)) ∧ renO (sig [(0, 0), (1, 1), (2,
 2), (3, 3), (4, 4), (5, 5), (6, 6), (7, 7), (8, 8), (9, 9)]) (AObj.map es c) = some (AObj.map es c) ∧ some nb0 = some nb0 ∧ some nb1 = some nb1 ∧ some
 (nb2 2) = some (nb2 2) ∧ some nb3 = some nb3 ∧ some nb4 = some nb4 ∧ some nb5 = some nb5 ∧ some nb6 = some nb6 ∧ some nb7 = some nb7 ∧ some
 (Value.slice none 0 0) = some (Value.slice none 0 0) ∧ Q (Value.slice none 0 0) [(0, AObj.blk (Blk.mk [Value.int IntKind.i64 (↑last : Int), Value.map
 (some 1)] 2 1 62 true true 0 true)), (1, AObj.map es c), (2, nb0), (3, nb1), (4, nb2 2), (5, nb3), (6, nb4), (7, nb5), (8, nb6), (9, nb7)] 10) : ∃ t, codeT Tryz.prog g z 100 (bodyOf Tryz.f7) (fr0 Tryz.f7 [ip 0, nV 2, J 0]) (mkHs z ((0, wst last 1) :: (1, .map es c) :: nZ 2) 10) (retK Tryz.prog z 10 Tryz.f7 Q) t := ⟨ Tr.auto 11 (Tr.ret [(0, 0), (1, 1), (2, 2), (3, 3), (4, 4), (5, 5), (6, 6), (7, 7), (8, 8), (9, 9)] (Value.slice none 0 0) [(0, AObj.blk (Blk.mk
 [Value.int IntKind.i64 (↑last : Int), Value.map (some 1)] 2 1 62 true true 0 true)), (1, AObj.map es c), (2, nb0), (3, nb1), (4, nb2 2), (5, nb3), (6,
 nb4), (7, nb5), (8, nb6), (9, nb7)] 10),
 Eq.mp (by kernel_rfl) hyp⟩

set_option maxRecDepth 1000000 in
theorem l17n (z : T AObj) (g : Nat → List Value → Option Value) (d : Nat) (last : Nat) (c : Nat) (i : Nat) (es : List MapEntry) (Q : Value → Zone → Nat → Prop) (hyp :
   z = z ∧ (CallA Tryz.prog z 18 [nV 0, fV, I 5] [(0, nb0), (1, nb1), (2, nb2 0), (3, nb3), (4, nb4), (5, nb5), (6, nb6), (7, nb7)] 8 8 (fun (x : Unit)
 => True) (fun (x : Unit) => Value.tuple (Array.mk [I 4, fV])) fun (x : Unit) => [(0, nb0), (1, nb1), (2, nb2 0), (3, nb3), (4, nb4), (5, nb5), (6,
 nb6), (7, nb7)]) ∧ some [nV 1, fV, I 5] = some [nV 1, fV, I 5] ∧ some nb0 = some nb0 ∧ some nb1 = some nb1 ∧ some (nb2 1) = some (nb2 1) ∧ some nb3 =
 some nb3 ∧ some nb4 = some nb4 ∧ some nb5 = some nb5 ∧ some nb6 = some nb6 ∧ some nb7 = some nb7 ∧ ∀ (x : Unit), True → some (Value.tuple (Array.mk [I
 4, fV])) = some (Value.tuple (Array.mk [I 4, fV])) ∧ some nb0 = some nb0 ∧ some nb1 = some nb1 ∧ some (nb2 0) = some (nb2 0) ∧ some nb3 = some nb3 ∧
 some nb4 = some nb4 ∧ some nb5 = some nb5 ∧ some nb6 = some nb6 ∧ some nb7 = some nb7 ∧ findE Tryz.prog 3 (Value.int IntKind.i64 (↑d : Int)) es 0 =
 some (some (i, fV)) ∧ dropAt i es = dropAt i es ∧ true = true ∧ 40 = 40 ∧ true = true ∧ z = z ∧ some (nBox 1) = some (nBox 1) ∧ some nb0 = some nb0 ∧
 some nb1 = some nb1 ∧ some (nb2 1) = some (nb2 1) ∧ some nb3 = some nb3 ∧ some nb4 = some nb4 ∧ some nb5 = some nb5 ∧ some nb6 = some nb6 ∧ some nb7 =
 some nb7 ∧ some (AObj.blk (Blk.mk [I 5] 1 1 3 true true 0 true)) = some (AObj.blk (Blk.mk [I 5] 1 1 3 true true 0 true)) ∧ some (AObj.blk (Blk.mk
 [Value.slice (some (Addr.mk 17 0 none)) 1 1] 1 1 44 true true 0 true)) = some (AObj.blk (Blk.mk [Value.slice (some (Addr.mk 17 0 none)) 1 1] 1 1 44
 true true 0 true)) ∧ some (AObj.blk (Blk.mk [Value.pointer (some (Addr.mk 12 0 none))] 1 1 23 true true 0 true)) = some (AObj.blk (Blk.mk
 [Value.pointer (some (Addr.mk 12 0 none))] 1 1 23 true true 0 true)) ∧ some (AObj.blk (Blk.mk [Value.int IntKind.i64 (↑last : Int), Value.map (some
 13)] 2 1 62 true true 0 true)) = some (AObj.blk (Blk.mk [Value.int IntKind.i64 (↑last : Int), Value.map (some 13)] 2 1 62 true true 0 true)) ∧ renO
 (sig [(0, 0), (1, 1), (2, 2), (3, 3), (4, 4), (5, 5), (6, 6), (7, 7), (8, 8), (9, 9), (10, 10), (11, 11), (12, 12), (13, 13), (14, 17)]) (AObj.map
 (dropAt i es) c) = some (AObj.map (dropAt i es) c) ∧ some (AObj.blk (Blk.mk [Value.int IntKind.i64 (↑d : Int), I 4] 2 2 55 false false 0 true)) = some
 (AObj.blk (Blk.mk [Value.int IntKind.i64 (↑d : Int), I 4] 2 2 55 false false 0 true)) ∧ some (Value.tuple (Array.mk [])) = some (Value.tuple (Array.mk
 [])) ∧ Q (Value.tuple (Array.mk [])) [(0, nBox 1), (1, nb0), (2, nb1), (3, nb2 1), (4, nb3), (5, nb4), (6, nb5), (7, nb6), (8, nb7), (9, AObj.blk
 (Blk.mk [I 5] 1 1 3 true true 0 true)), (10, AObj.blk (Blk.mk [Value.slice (some (Addr.mk 14 0 none)) 1 1] 1 1 44 true true 0 true)), (11, AObj.blk
 (Blk.mk [Value.pointer (some (Addr.mk 12 0 none))] 1 1 23 true true 0 true)), (12, AObj.blk (Blk.mk [Value.int IntKind.i64 (↑last : Int), Value.map
 (some 13)] 2 1 62 true true 0 true)), (13, AObj.map (dropAt i es) c), (14, AObj.blk (Blk.mk [Value.int IntKind.i64 (↑d : Int), I 4] 2 2 55 false false
 0 true))] 15) : ∃ t, codeT Tryz.prog g z 100 (bodyOf Tryz.f17) (fr0 Tryz.f17 [iv d, fV, ip 0, ip 9, ip 10, ip 11]) (mkHs z (s17n last c es) 14) (retK Tryz.prog z 14 Tryz.f17 Q) t := ⟨ Tr.auto 3 (Tr.cm (Cm.mk [nV 0, fV, I 5] [(0, nb0), (1, nb1), (2, nb2 0), (3, nb3), (4, nb4), (5, nb5), (6, nb6), (7, nb7)] 8 8 [(0, 1), (1, 2), (2,
 3), (3, 4), (4, 5), (5, 6), (6, 7), (7, 8)] [(1, 0), (2, 1), (3, 2), (4, 3), (5, 4), (6, 5), (7, 6), (8, 7)] 15) Unit (fun (x : Unit) => True) (fun (x
 : Unit) => Value.tuple (Array.mk [I 4, fV])) (fun (x : Unit) => [(0, nb0), (1, nb1), (2, nb2 0), (3, nb3), (4, nb4), (5, nb5), (6, nb6), (7, nb7)])
 (fun (x : Unit) => Value.tuple (Array.mk [I 4, fV])) (fun (x : Unit) => [(1, nb0), (2, nb1), (3, nb2 1), (4, nb3), (5, nb4), (6, nb5), (7, nb6), (8,
 nb7)]) fun (x : Unit) => Tr.auto 12 (Tr.x (AnX.del (some (i, fV)) (dropAt i es)) (Tr.ret [(0, 0), (1, 1), (2, 2), (3, 3), (4, 4), (5, 5), (6, 6), (7,
 7), (8, 8), (9, 9), (10, 10), (11, 11), (12, 12), (13, 13), (14, 17)] (Value.tuple (Array.mk [])) [(0, nBox 1), (1, nb0), (2, nb1), (3, nb2 1), (4,
 nb3), (5, nb4), (6, nb5), (7, nb6), (8, nb7), (9, AObj.blk (Blk.mk [I 5] 1 1 3 true true 0 true)), (10, AObj.blk (Blk.mk [Value.slice (some (Addr.mk 14
 0 none)) 1 1] 1 1 44 true true 0 true)), (11, AObj.blk (Blk.mk [Value.pointer (some (Addr.mk 12 0 none))] 1 1 23 true true 0 true)), (12, AObj.blk
 (Blk.mk [Value.int IntKind.i64 (↑last : Int), Value.map (some 13)] 2 1 62 true true 0 true)), (13, AObj.map (dropAt i es) c), (14, AObj.blk (Blk.mk
 [Value.int IntKind.i64 (↑d : Int), I 4] 2 2 55 false false 0 true))] 15))),
 Eq.mp (by kernel_rfl) hyp⟩

set_option maxRecDepth 1000000 in
theorem l17r (z : T AObj) (g : Nat → List Value → Option Value) (d : Nat) (last : Nat) (c : Nat) (i : Nat) (es : List MapEntry) (l : List Nat) (Q : Value → Zone → Nat → Prop) (hyp :
   z = z ∧ (CallA Tryz.prog z 18 [nV 0, fV, I 5] [(0, nb0), (1, nb1), (2, nb2 0), (3, nb3), (4, nb4), (5, nb5), (6, nb6), (7, nb7)] 8 8 (fun (x : Unit)
 => True) (fun (x : Unit) => Value.tuple (Array.mk [I 4, fV])) fun (x : Unit) => [(0, nb0), (1, nb1), (2, nb2 0), (3, nb3), (4, nb4), (5, nb5), (6,
 nb6), (7, nb7)]) ∧ some [nV 1, fV, I 5] = some [nV 1, fV, I 5] ∧ some nb0 = some nb0 ∧ some nb1 = some nb1 ∧ some (nb2 1) = some (nb2 1) ∧ some nb3 =
 some nb3 ∧ some nb4 = some nb4 ∧ some nb5 = some nb5 ∧ some nb6 = some nb6 ∧ some nb7 = some nb7 ∧ ∀ (x : Unit), True → some (Value.tuple (Array.mk [I
 4, fV])) = some (Value.tuple (Array.mk [I 4, fV])) ∧ some nb0 = some nb0 ∧ some nb1 = some nb1 ∧ some (nb2 0) = some (nb2 0) ∧ some nb3 = some nb3 ∧
 some nb4 = some nb4 ∧ some nb5 = some nb5 ∧ some nb6 = some nb6 ∧ some nb7 = some nb7 ∧ some [Value.int IntKind.i64 (↑d : Int), I 4] = some [Value.int
 IntKind.i64 (↑d : Int), I 4] ∧ l.length = l.length ∧ (chg l).length = l.length * 2 ∧ l.length * 2 = l.length * 2 ∧ l.length + 1 ≤ 1048576 ∧ findE
 Tryz.prog 3 (Value.int IntKind.i64 (↑d : Int)) es 0 = some (some (i, fV)) ∧ dropAt i es = dropAt i es ∧ true = true ∧ 40 = 40 ∧ true = true ∧ z = z ∧
 some (nBox 1) = some (nBox 1) ∧ some nb0 = some nb0 ∧ some nb1 = some nb1 ∧ some (nb2 1) = some (nb2 1) ∧ some nb3 = some nb3 ∧ some nb4 = some nb4 ∧
 some nb5 = some nb5 ∧ some nb6 = some nb6 ∧ some nb7 = some nb7 ∧ some (AObj.blk (Blk.mk [I 5] 1 1 3 true true 0 true)) = some (AObj.blk (Blk.mk [I 5]
 1 1 3 true true 0 true)) ∧ some (AObj.blk (Blk.mk [Value.slice (some (Addr.mk 18 0 none)) (l.length + 1) (l.length + 1)] 1 1 44 true true 0 true)) =
 some (AObj.blk (Blk.mk [Value.slice (some (Addr.mk 18 0 none)) (l.length + 1) (l.length + 1)] 1 1 44 true true 0 true)) ∧ some (AObj.blk (Blk.mk
 [Value.pointer (some (Addr.mk 13 0 none))] 1 1 23 true true 0 true)) = some (AObj.blk (Blk.mk [Value.pointer (some (Addr.mk 13 0 none))] 1 1 23 true
 true 0 true)) ∧ some (AObj.blk (Blk.mk [Value.int IntKind.i64 (↑last : Int), Value.map (some 14)] 2 1 62 true true 0 true)) = some (AObj.blk (Blk.mk
 [Value.int IntKind.i64 (↑last : Int), Value.map (some 14)] 2 1 62 true true 0 true)) ∧ renO (sig [(0, 0), (1, 1), (2, 2), (3, 3), (4, 4), (5, 5), (6,
 6), (7, 7), (8, 8), (9, 9), (10, 10), (12, 12), (13, 13), (14, 14), (15, 18)]) (AObj.map (dropAt i es) c) = some (AObj.map (dropAt i es) c) ∧ renO (sig
 [(0, 0), (1, 1), (2, 2), (3, 3), (4, 4), (5, 5), (6, 6), (7, 7), (8, 8), (9, 9), (10, 10), (12, 12), (13, 13), (14, 14), (15, 18)]) (AObj.blk (Blk.mk
 (chg l ++ [Value.int IntKind.i64 (↑d : Int), I 4]) ((l.length + 1) * 2) 2 55 false false 0 true)) = some (AObj.blk (Blk.mk (chg l ++ [Value.int
 IntKind.i64 (↑d : Int), I 4]) ((l.length + 1) * 2) 2 55 false false 0 true)) ∧ some (Value.tuple (Array.mk [])) = some (Value.tuple (Array.mk [])) ∧ Q
 (Value.tuple (Array.mk [])) [(0, nBox 1), (1, nb0), (2, nb1), (3, nb2 1), (4, nb3), (5, nb4), (6, nb5), (7, nb6), (8, nb7), (9, AObj.blk (Blk.mk [I 5]
 1 1 3 true true 0 true)), (10, AObj.blk (Blk.mk [Value.slice (some (Addr.mk 15 0 none)) (l.length + 1) (l.length + 1)] 1 1 44 true true 0 true)), (12,
 AObj.blk (Blk.mk [Value.pointer (some (Addr.mk 13 0 none))] 1 1 23 true true 0 true)), (13, AObj.blk (Blk.mk [Value.int IntKind.i64 (↑last : Int),
 Value.map (some 14)] 2 1 62 true true 0 true)), (14, AObj.map (dropAt i es) c), (15, AObj.blk (Blk.mk (chg l ++ [Value.int IntKind.i64 (↑d : Int), I
 4]) ((l.length + 1) * 2) 2 55 false false 0 true))] 16) : ∃ t, codeT Tryz.prog g z 100 (bodyOf Tryz.f17) (fr0 Tryz.f17 [iv d, fV, ip 0, ip 9, ip 10, ip 12]) (mkHs z (s17r l last c es) 15) (retK Tryz.prog z 15 Tryz.f17 Q) t := ⟨ Tr.auto 3 (Tr.cm (Cm.mk [nV 0, fV, I 5] [(0, nb0), (1, nb1), (2, nb2 0), (3, nb3), (4, nb4), (5, nb5), (6, nb6), (7, nb7)] 8 8 [(0, 1), (1, 2), (2,
 3), (3, 4), (4, 5), (5, 6), (6, 7), (7, 8)] [(1, 0), (2, 1), (3, 2), (4, 3), (5, 4), (6, 5), (7, 6), (8, 7)] 16) Unit (fun (x : Unit) => True) (fun (x
 : Unit) => Value.tuple (Array.mk [I 4, fV])) (fun (x : Unit) => [(0, nb0), (1, nb1), (2, nb2 0), (3, nb3), (4, nb4), (5, nb5), (6, nb6), (7, nb7)])
 (fun (x : Unit) => Value.tuple (Array.mk [I 4, fV])) (fun (x : Unit) => [(1, nb0), (2, nb1), (3, nb2 1), (4, nb3), (5, nb4), (6, nb5), (7, nb6), (8,
 nb7)]) fun (x : Unit) => Tr.auto 4 (Tr.x (AnX.grow 1 [Value.int IntKind.i64 (↑d : Int), I 4]) (Tr.auto 7 (Tr.x (AnX.del (some (i, fV)) (dropAt i es))
 (Tr.ret [(0, 0), (1, 1), (2, 2), (3, 3), (4, 4), (5, 5), (6, 6), (7, 7), (8, 8), (9, 9), (10, 10), (12, 12), (13, 13), (14, 14), (15, 18)] (Value.tuple
 (Array.mk [])) [(0, nBox 1), (1, nb0), (2, nb1), (3, nb2 1), (4, nb3), (5, nb4), (6, nb5), (7, nb6), (8, nb7), (9, AObj.blk (Blk.mk [I 5] 1 1 3 true
 true 0 true)), (10, AObj.blk (Blk.mk [Value.slice (some (Addr.mk 15 0 none)) (l.length + 1) (l.length + 1)] 1 1 44 true true 0 true)), (12, AObj.blk
 (Blk.mk [Value.pointer (some (Addr.mk 13 0 none))] 1 1 23 true true 0 true)), (13, AObj.blk (Blk.mk [Value.int IntKind.i64 (↑last : Int), Value.map
 (some 14)] 2 1 62 true true 0 true)), (14, AObj.map (dropAt i es) c), (15, AObj.blk (Blk.mk (chg l ++ [Value.int IntKind.i64 (↑d : Int), I 4])
 ((l.length + 1) * 2) 2 55 false false 0 true))] 16))))),
 Eq.mp (by kernel_rfl) hyp⟩

set_option maxRecDepth 1000000 in
theorem r7n (z : T AObj) (g : Nat → List Value → Option Value) (d : Nat) (last : Nat) (c : Nat) (es : List MapEntry) (Q : AExit → Live → Zone → Nat → Prop) (hyp :
   (decide ((↑d : Int) ≤ (↑last : Int)) = true → findE Tryz.prog 3 (Value.int IntKind.i64 (↑d : Int)) es 0 ≠ none ∧ (∀ (p : Nat × Value), findE Tryz.prog
 3 (Value.int IntKind.i64 (↑d : Int)) es 0 = some (some p) → ∃ (x : Unit), p = (0, fV)) ∧ (∀ (i : Unit), findE Tryz.prog 3 (Value.int IntKind.i64 (↑d :
 Int)) es 0 = some (some (0, fV)) → z = z ∧ (CallA Tryz.prog z 17 [Value.int IntKind.i64 (↑d : Int), fV, Value.pointer (some (Addr.mk 0 0 none)),
 Value.pointer (some (Addr.mk 9 0 none)), Value.pointer (some (Addr.mk 10 0 none)), Value.pointer (some (Addr.mk 11 0 none))] [(0, nBox 1), (1, nb0),
 (2, nb1), (3, nb2 1), (4, nb3), (5, nb4), (6, nb5), (7, nb6), (8, nb7), (9, AObj.blk (Blk.mk [I 5] 1 1 3 true true 0 true)), (10, AObj.blk (Blk.mk
 [Value.slice none 0 0] 1 1 44 true true 0 true)), (11, AObj.blk (Blk.mk [Value.pointer (some (Addr.mk 12 0 none))] 1 1 23 true true 0 true)), (12,
 AObj.blk (Blk.mk [Value.int IntKind.i64 (↑last : Int), Value.map (some 13)] 2 1 62 true true 0 true)), (13, AObj.map es c)] 14 15 (fun (x : Unit) =>
 True) (fun (x : Unit) => Value.tuple (Array.mk [])) fun (x : Unit) => s17n' d last c (dropAt 0 es)) ∧ some [Value.int IntKind.i64 (↑d : Int), fV,
 Value.pointer (some (Addr.mk 11 0 none)), Value.pointer (some (Addr.mk 12 0 none)), Value.pointer (some (Addr.mk 13 0 none)), Value.pointer (some
 (Addr.mk 10 0 none))] = some [Value.int IntKind.i64 (↑d : Int), fV, Value.pointer (some (Addr.mk 11 0 none)), Value.pointer (some (Addr.mk 12 0 none)),
 Value.pointer (some (Addr.mk 13 0 none)), Value.pointer (some (Addr.mk 10 0 none))] ∧ some (nBox 2) = some (nBox 2) ∧ some nb0 = some nb0 ∧ some nb1 =
 some nb1 ∧ some (nb2 2) = some (nb2 2) ∧ some nb3 = some nb3 ∧ some nb4 = some nb4 ∧ some nb5 = some nb5 ∧ some nb6 = some nb6 ∧ some nb7 = some nb7 ∧
 some (AObj.blk (Blk.mk [I 5] 1 1 3 true true 0 true)) = some (AObj.blk (Blk.mk [I 5] 1 1 3 true true 0 true)) ∧ some (AObj.blk (Blk.mk [Value.slice
 none 0 0] 1 1 44 true true 0 true)) = some (AObj.blk (Blk.mk [Value.slice none 0 0] 1 1 44 true true 0 true)) ∧ some (AObj.blk (Blk.mk [Value.pointer
 (some (Addr.mk 0 0 none))] 1 1 23 true true 0 true)) = some (AObj.blk (Blk.mk [Value.pointer (some (Addr.mk 0 0 none))] 1 1 23 true true 0 true)) ∧
 some (AObj.blk (Blk.mk [Value.int IntKind.i64 (↑last : Int), Value.map (some 1)] 2 1 62 true true 0 true)) = some (AObj.blk (Blk.mk [Value.int
 IntKind.i64 (↑last : Int), Value.map (some 1)] 2 1 62 true true 0 true)) ∧ renO (sig [(0, 11), (1, 2), (2, 3), (3, 4), (4, 5), (5, 6), (6, 7), (7, 8),
 (8, 9), (9, 12), (10, 13), (11, 10), (12, 0), (13, 1)]) (AObj.map es c) = some (AObj.map es c) ∧ ∀ (x : Unit), True → some (Value.tuple (Array.mk []))
 = some (Value.tuple (Array.mk [])) ∧ some (nBox 1) = some (nBox 1) ∧ some nb0 = some nb0 ∧ some nb1 = some nb1 ∧ some (nb2 1) = some (nb2 1) ∧ some nb3
 = some nb3 ∧ some nb4 = some nb4 ∧ some nb5 = some nb5 ∧ some nb6 = some nb6 ∧ some nb7 = some nb7 ∧ some (AObj.blk (Blk.mk [I 5] 1 1 3 true true 0
 true)) = some (AObj.blk (Blk.mk [I 5] 1 1 3 true true 0 true)) ∧ some (AObj.blk (Blk.mk [Value.slice (some (Addr.mk 14 0 none)) 1 1] 1 1 44 true true 0
 true)) = some (AObj.blk (Blk.mk [Value.slice (some (Addr.mk 14 0 none)) 1 1] 1 1 44 true true 0 true)) ∧ some (AObj.blk (Blk.mk [Value.pointer (some
 (Addr.mk 12 0 none))] 1 1 23 true true 0 true)) = some (AObj.blk (Blk.mk [Value.pointer (some (Addr.mk 12 0 none))] 1 1 23 true true 0 true)) ∧ some
 (AObj.blk (Blk.mk [Value.int IntKind.i64 (↑last : Int), Value.map (some 13)] 2 1 62 true true 0 true)) = some (AObj.blk (Blk.mk [Value.int IntKind.i64
 (↑last : Int), Value.map (some 13)] 2 1 62 true true 0 true)) ∧ renO (sig [(11, 0), (2, 1), (3, 2), (4, 3), (5, 4), (6, 5), (7, 6), (8, 7), (9, 8),
 (12, 9), (13, 10), (10, 11), (0, 12), (1, 13), (16, 14)]) (AObj.map (dropAt 0 es) c) = some (AObj.map (dropAt 0 es) c) ∧ some (AObj.blk (Blk.mk
 [Value.int IntKind.i64 (↑d : Int), I 4] 2 2 55 false false 0 true)) = some (AObj.blk (Blk.mk [Value.int IntKind.i64 (↑d : Int), I 4] 2 2 55 false false
 0 true)) ∧ Value.int IntKind.i64 (IntKind.i64.wrap ((↑d : Int) + 1)) = Value.int IntKind.i64 (↑(d + 1) : Int) ∧ true = true ∧ 58 = 58 ∧ true = true ∧ z
 = z ∧ some (Value.pointer (some (Addr.mk 10 0 none))) = some (Value.pointer (some (Addr.mk 10 0 none))) ∧ some (Value.pointer (some (Addr.mk 13 0
 none))) = some (Value.pointer (some (Addr.mk 13 0 none))) ∧ some (Value.func (Fn.func 17) (Array.mk []) (Array.mk [Value.pointer (some (Addr.mk 11 0
 none)), Value.pointer (some (Addr.mk 12 0 none)), Value.pointer (some (Addr.mk 13 0 none)), Value.pointer (some (Addr.mk 10 0 none))])) = some
 (Value.func (Fn.func 17) (Array.mk []) (Array.mk [Value.pointer (some (Addr.mk 11 0 none)), Value.pointer (some (Addr.mk 12 0 none)), Value.pointer
 (some (Addr.mk 13 0 none)), Value.pointer (some (Addr.mk 10 0 none))])) ∧ some (Value.int IntKind.i64 (↑(d + 1) : Int)) = some (Value.int IntKind.i64
 (↑(d + 1) : Int)) ∧ some (AObj.blk (Blk.mk [Value.int IntKind.i64 (↑last : Int), Value.map (some 1)] 2 1 62 true true 0 true)) = some (AObj.blk (Blk.mk
 [Value.int IntKind.i64 (↑last : Int), Value.map (some 1)] 2 1 62 true true 0 true)) ∧ renO (sig [(0, 0), (1, 1), (2, 2), (3, 3), (4, 4), (5, 5), (6,
 6), (7, 7), (8, 8), (9, 9), (10, 10), (11, 11), (12, 12), (13, 13), (14, 16)]) (AObj.map (dropAt 0 es) c) = some (AObj.map (dropAt 0 es) c) ∧ some nb0
 = some nb0 ∧ some nb1 = some nb1 ∧ some (nb2 2) = some (nb2 2) ∧ some nb3 = some nb3 ∧ some nb4 = some nb4 ∧ some nb5 = some nb5 ∧ some nb6 = some nb6
 ∧ some nb7 = some nb7 ∧ some (AObj.blk (Blk.mk [Value.pointer (some (Addr.mk 0 0 none))] 1 1 23 true true 0 true)) = some (AObj.blk (Blk.mk
 [Value.pointer (some (Addr.mk 0 0 none))] 1 1 23 true true 0 true)) ∧ some (nBox 2) = some (nBox 2) ∧ some (AObj.blk (Blk.mk [I 5] 1 1 3 true true 0
 true)) = some (AObj.blk (Blk.mk [I 5] 1 1 3 true true 0 true)) ∧ some (AObj.blk (Blk.mk [Value.slice (some (Addr.mk 16 0 none)) 1 1] 1 1 44 true true 0
 true)) = some (AObj.blk (Blk.mk [Value.slice (some (Addr.mk 16 0 none)) 1 1] 1 1 44 true true 0 true)) ∧ some (AObj.blk (Blk.mk [Value.int IntKind.i64
 (↑d : Int), I 4] 2 2 55 false false 0 true)) = some (AObj.blk (Blk.mk [Value.int IntKind.i64 (↑d : Int), I 4] 2 2 55 false false 0 true)) ∧ Q
 AExit.normal [(3, Value.pointer (some (Addr.mk 10 0 none))), (10, Value.pointer (some (Addr.mk 13 0 none))), (11, Value.func (Fn.func 17) (Array.mk [])
 (Array.mk [Value.pointer (some (Addr.mk 11 0 none)), Value.pointer (some (Addr.mk 12 0 none)), Value.pointer (some (Addr.mk 13 0 none)), Value.pointer
 (some (Addr.mk 10 0 none))])), (12, Value.int IntKind.i64 (↑(d + 1) : Int))] [(0, AObj.blk (Blk.mk [Value.int IntKind.i64 (↑last : Int), Value.map
 (some 1)] 2 1 62 true true 0 true)), (1, AObj.map (dropAt 0 es) c), (2, nb0), (3, nb1), (4, nb2 2), (5, nb3), (6, nb4), (7, nb5), (8, nb6), (9, nb7),
 (10, AObj.blk (Blk.mk [Value.pointer (some (Addr.mk 0 0 none))] 1 1 23 true true 0 true)), (11, nBox 2), (12, AObj.blk (Blk.mk [I 5] 1 1 3 true true 0
 true)), (13, AObj.blk (Blk.mk [Value.slice (some (Addr.mk 14 0 none)) 1 1] 1 1 44 true true 0 true)), (14, AObj.blk (Blk.mk [Value.int IntKind.i64 (↑d
 : Int), I 4] 2 2 55 false false 0 true))] 15) ∧ (findE Tryz.prog 3 (Value.int IntKind.i64 (↑d : Int)) es 0 = some none → Value.int IntKind.i64
 (IntKind.i64.wrap ((↑d : Int) + 1)) = Value.int IntKind.i64 (↑(d + 1) : Int) ∧ true = true ∧ 58 = 58 ∧ true = true ∧ z = z ∧ some (Value.pointer (some
 (Addr.mk 10 0 none))) = some (Value.pointer (some (Addr.mk 10 0 none))) ∧ some (Value.pointer (some (Addr.mk 13 0 none))) = some (Value.pointer (some
 (Addr.mk 13 0 none))) ∧ some (Value.func (Fn.func 17) (Array.mk []) (Array.mk [Value.pointer (some (Addr.mk 11 0 none)), Value.pointer (some (Addr.mk
 12 0 none)), Value.pointer (some (Addr.mk 13 0 none)), Value.pointer (some (Addr.mk 10 0 none))])) = some (Value.func (Fn.func 17) (Array.mk [])
 (Array.mk [Value.pointer (some (Addr.mk 11 0 none)), Value.pointer (some (Addr.mk 12 0 none)), Value.pointer (some (Addr.mk 13 0 none)), Value.pointer
 (some (Addr.mk 10 0 none))])) ∧ some (Value.int IntKind.i64 (↑(d + 1) : Int)) = some (Value.int IntKind.i64 (↑(d + 1) : Int)) ∧ some (AObj.blk (Blk.mk
 [Value.int IntKind.i64 (↑last : Int), Value.map (some 1)] 2 1 62 true true 0 true)) = some (AObj.blk (Blk.mk [Value.int IntKind.i64 (↑last : Int),
 Value.map (some 1)] 2 1 62 true true 0 true)) ∧ renO (sig [(0, 0), (1, 1), (2, 2), (3, 3), (4, 4), (5, 5), (6, 6), (7, 7), (8, 8), (9, 9), (10, 10),
 (11, 11), (12, 12), (13, 13)]) (AObj.map es c) = some (AObj.map es c) ∧ some nb0 = some nb0 ∧ some nb1 = some nb1 ∧ some (nb2 2) = some (nb2 2) ∧ some
 nb3 = some nb3 ∧ some nb4 = some nb4 ∧ some nb5 = some nb5 ∧ some nb6 = some nb6 ∧ some nb7 = some nb7 ∧ some (AObj.blk (Blk.mk [Value.pointer (some
 (Addr.mk 0 0 none))] 1 1 23 true true 0 true)) = some (AObj.blk (Blk.mk [Value.pointer (some (Addr.mk 0 0 none))] 1 1 23 true true 0 true)) ∧ some
 (nBox 2) = some (nBox 2) ∧ some (AObj.blk (Blk.mk [I 5] 1 1 3 true true 0 true)) = some (AObj.blk (Blk.mk [I 5] 1 1 3 true true 0 true)) ∧ some
 (AObj.blk (Blk.mk [Value.slice none 0 0] 1 1 44 true true 0 true)) = some (AObj.blk (Blk.mk [Value.slice none 0 0] 1 1 44 true true 0 true)) ∧ Q
 AExit.normal [(3, Value.pointer (some (Addr.mk 10 0 none))), (10, Value.pointer (some (Addr.mk 13 0 none))), (11, Value.func (Fn.func 17) (Array.mk [])
 (Array.mk [Value.pointer (some (Addr.mk 11 0 none)), Value.pointer (some (Addr.mk 12 0 none)), Value.pointer (some (Addr.mk 13 0 none)), Value.pointer
 (some (Addr.mk 10 0 none))])), (12, Value.int IntKind.i64 (↑(d + 1) : Int))] [(0, AObj.blk (Blk.mk [Value.int IntKind.i64 (↑last : Int), Value.map
 (some 1)] 2 1 62 true true 0 true)), (1, AObj.map es c), (2, nb0), (3, nb1), (4, nb2 2), (5, nb3), (6, nb4), (7, nb5), (8, nb6), (9, nb7), (10,
 AObj.blk (Blk.mk [Value.pointer (some (Addr.mk 0 0 none))] 1 1 23 true true 0 true)), (11, nBox 2), (12, AObj.blk (Blk.mk [I 5] 1 1 3 true true 0
 true)), (13, AObj.blk (Blk.mk [Value.slice none 0 0] 1 1 44 true true 0 true))] 15)) ∧ (decide ((↑d : Int) ≤ (↑last : Int)) = false → true = true ∧ 58
 = 58 ∧ true = true ∧ z = z ∧ some (Value.pointer (some (Addr.mk 10 0 none))) = some (Value.pointer (some (Addr.mk 10 0 none))) ∧ some (Value.pointer
 (some (Addr.mk 13 0 none))) = some (Value.pointer (some (Addr.mk 13 0 none))) ∧ some (AObj.blk (Blk.mk [Value.int IntKind.i64 (↑last : Int), Value.map
 (some 1)] 2 1 62 true true 0 true)) = some (AObj.blk (Blk.mk [Value.int IntKind.i64 (↑last : Int), Value.map (some 1)] 2 1 62 true true 0 true)) ∧ renO
 (sig [(0, 0), (1, 1), (2, 2), (3, 3), (4, 4), (5, 5), (6, 6), (7, 7), (8, 8), (9, 9), (10, 10), (11, 11), (12, 12), (13, 13)]) (AObj.map es c) = some
 (AObj.map es c) ∧ some nb0 = some nb0 ∧ some nb1 = some nb1 ∧ some (nb2 2) = some (nb2 2) ∧ some nb3 = some nb3 ∧ some nb4 = some nb4 ∧ some nb5 = some
 nb5 ∧ some nb6 = some nb6 ∧ some nb7 = some nb7 ∧ some (AObj.blk (Blk.mk [Value.pointer (some (Addr.mk 0 0 none))] 1 1 23 true true 0 true)) = some
 (AObj.blk (Blk.mk [Value.pointer (some (Addr.mk 0 0 none))] 1 1 23 true true 0 true)) ∧ some (nBox 2) = some (nBox 2) ∧ some (AObj.blk (Blk.mk [I 5] 1
 1 3 true true 0 true)) = some (AObj.blk (Blk.mk [I 5] 1 1 3 true true 0 true)) ∧ some (AObj.blk (Blk.mk [Value.slice none 0 0] 1 1 44 true true 0
 true)) = some (AObj.blk (Blk.mk [Value.slice none 0 0] 1 1 44 true true 0 true)) ∧ Q (AExit.exit 0) [(3, Value.pointer (some (Addr.mk 10 0 none))),
 (10, Value.pointer (some (Addr.mk 13 0 none)))] [(0, AObj.blk (Blk.mk [Value.int IntKind.i64 (↑last : Int), Value.map (some 1)] 2 1 62 true true 0
 true)), (1, AObj.map es c), (2, nb0), (3, nb1), (4, nb2 2), (5, nb3), (6, nb4), (7, nb5), (8, nb6), (9, nb7), (10, AObj.blk (Blk.mk [Value.pointer
 (some (Addr.mk 0 0 none))] 1 1 23 true true 0 true)), (11, nBox 2), (12, AObj.blk (Blk.mk [I 5] 1 1 3 true true 0 true)), (13, AObj.blk (Blk.mk
 [Value.slice none 0 0] 1 1 44 true true 0 true))] 15)) : ∃ t, codeT Tryz.prog g z 100 (loopN (bodyOf Tryz.f7) 0) (mkFr 58 (lv7 d)) (mkHs z (zn7n last c es) 15) (finK z 14 58 Q) t := ⟨ Tr.auto 2 ((Tr.auto 3 (Tr.find Unit (fun (x : Unit) => (0, fV)) (fun (i : Unit) => Tr.auto 3 (Tr.cm (Cm.mk [Value.int IntKind.i64 (↑d : Int), fV,
 Value.pointer (some (Addr.mk 0 0 none)), Value.pointer (some (Addr.mk 9 0 none)), Value.pointer (some (Addr.mk 10 0 none)), Value.pointer (some
 (Addr.mk 11 0 none))] [(0, nBox 1), (1, nb0), (2, nb1), (3, nb2 1), (4, nb3), (5, nb4), (6, nb5), (7, nb6), (8, nb7), (9, AObj.blk (Blk.mk [I 5] 1 1 3
 true true 0 true)), (10, AObj.blk (Blk.mk [Value.slice none 0 0] 1 1 44 true true 0 true)), (11, AObj.blk (Blk.mk [Value.pointer (some (Addr.mk 12 0
 none))] 1 1 23 true true 0 true)), (12, AObj.blk (Blk.mk [Value.int IntKind.i64 (↑last : Int), Value.map (some 13)] 2 1 62 true true 0 true)), (13,
 AObj.map es c)] 14 15 [(0, 11), (1, 2), (2, 3), (3, 4), (4, 5), (5, 6), (6, 7), (7, 8), (8, 9), (9, 12), (10, 13), (11, 10), (12, 0), (13, 1)] [(11,
 0), (2, 1), (3, 2), (4, 3), (5, 4), (6, 5), (7, 6), (8, 7), (9, 8), (12, 9), (13, 10), (10, 11), (0, 12), (1, 13), (16, 14)] 17) Unit (fun (x : Unit)
 => True) (fun (x : Unit) => Value.tuple (Array.mk [])) (fun (x : Unit) => s17n' d last c (dropAt 0 es)) (fun (x : Unit) => Value.tuple (Array.mk []))
 (fun (x : Unit) => [(11, nBox 2), (2, nb0), (3, nb1), (4, nb2 2), (5, nb3), (6, nb4), (7, nb5), (8, nb6), (9, nb7), (12, AObj.blk (Blk.mk [I 5] 1 1 3
 true true 0 true)), (13, AObj.blk (Blk.mk [Value.slice (some (Addr.mk 16 0 none)) 1 1] 1 1 44 true true 0 true)), (10, AObj.blk (Blk.mk [Value.pointer
 (some (Addr.mk 0 0 none))] 1 1 23 true true 0 true)), (0, AObj.blk (Blk.mk [Value.int IntKind.i64 (↑last : Int), Value.map (some 1)] 2 1 62 true true 0
 true)), (1, AObj.map (dropAt 0 es) c), (16, AObj.blk (Blk.mk [Value.int IntKind.i64 (↑d : Int), I 4] 2 2 55 false false 0 true))]) fun (x : Unit) =>
 Tr.one (An.val (Value.int IntKind.i64 (↑(d + 1) : Int))) (Tr.fin [(0, 0), (1, 1), (2, 2), (3, 3), (4, 4), (5, 5), (6, 6), (7, 7), (8, 8), (9, 9), (10,
 10), (11, 11), (12, 12), (13, 13), (14, 16)] [(3, Value.pointer (some (Addr.mk 10 0 none))), (10, Value.pointer (some (Addr.mk 13 0 none))), (11,
 Value.func (Fn.func 17) (Array.mk []) (Array.mk [Value.pointer (some (Addr.mk 11 0 none)), Value.pointer (some (Addr.mk 12 0 none)), Value.pointer
 (some (Addr.mk 13 0 none)), Value.pointer (some (Addr.mk 10 0 none))])), (12, Value.int IntKind.i64 (↑(d + 1) : Int))] [(0, AObj.blk (Blk.mk [Value.int
 IntKind.i64 (↑last : Int), Value.map (some 1)] 2 1 62 true true 0 true)), (1, AObj.map (dropAt 0 es) c), (2, nb0), (3, nb1), (4, nb2 2), (5, nb3), (6,
 nb4), (7, nb5), (8, nb6), (9, nb7), (10, AObj.blk (Blk.mk [Value.pointer (some (Addr.mk 0 0 none))] 1 1 23 true true 0 true)), (11, nBox 2), (12,
 AObj.blk (Blk.mk [I 5] 1 1 3 true true 0 true)), (13, AObj.blk (Blk.mk [Value.slice (some (Addr.mk 14 0 none)) 1 1] 1 1 44 true true 0 true)), (14,
 AObj.blk (Blk.mk [Value.int IntKind.i64 (↑d : Int), I 4] 2 2 55 false false 0 true))] 15))) (Tr.auto 2 (Tr.one (An.val (Value.int IntKind.i64 (↑(d + 1)
 : Int))) (Tr.fin [(0, 0), (1, 1), (2, 2), (3, 3), (4, 4), (5, 5), (6, 6), (7, 7), (8, 8), (9, 9), (10, 10), (11, 11), (12, 12), (13, 13)] [(3,
 Value.pointer (some (Addr.mk 10 0 none))), (10, Value.pointer (some (Addr.mk 13 0 none))), (11, Value.func (Fn.func 17) (Array.mk []) (Array.mk
 [Value.pointer (some (Addr.mk 11 0 none)), Value.pointer (some (Addr.mk 12 0 none)), Value.pointer (some (Addr.mk 13 0 none)), Value.pointer (some
 (Addr.mk 10 0 none))])), (12, Value.int IntKind.i64 (↑(d + 1) : Int))] [(0, AObj.blk (Blk.mk [Value.int IntKind.i64 (↑last : Int), Value.map (some 1)]
 2 1 62 true true 0 true)), (1, AObj.map es c), (2, nb0), (3, nb1), (4, nb2 2), (5, nb3), (6, nb4), (7, nb5), (8, nb6), (9, nb7), (10, AObj.blk (Blk.mk
 [Value.pointer (some (Addr.mk 0 0 none))] 1 1 23 true true 0 true)), (11, nBox 2), (12, AObj.blk (Blk.mk [I 5] 1 1 3 true true 0 true)), (13, AObj.blk
 (Blk.mk [Value.slice none 0 0] 1 1 44 true true 0 true))] 15))))).fork (Tr.auto 1 (Tr.fin [(0, 0), (1, 1), (2, 2), (3, 3), (4, 4), (5, 5), (6, 6), (7,
 7), (8, 8), (9, 9), (10, 10), (11, 11), (12, 12), (13, 13)] [(3, Value.pointer (some (Addr.mk 10 0 none))), (10, Value.pointer (some (Addr.mk 13 0
 none)))] [(0, AObj.blk (Blk.mk [Value.int IntKind.i64 (↑last : Int), Value.map (some 1)] 2 1 62 true true 0 true)), (1, AObj.map es c), (2, nb0), (3,
 nb1), (4, nb2 2), (5, nb3), (6, nb4), (7, nb5), (8, nb6), (9, nb7), (10, AObj.blk (Blk.mk [Value.pointer (some (Addr.mk 0 0 none))] 1 1 23 true true 0
 true)), (11, nBox 2), (12, AObj.blk (Blk.mk [I 5] 1 1 3 true true 0 true)), (13, AObj.blk (Blk.mk [Value.slice none 0 0] 1 1 44 true true 0 true))]
 15))),
 Eq.mp (by kernel_rfl) hyp⟩

set_option maxRecDepth 1000000 in
theorem r7r (z : T AObj) (g : Nat → List Value → Option Value) (d : Nat) (last : Nat) (c : Nat) (es : List MapEntry) (l : List Nat) (Q : AExit → Live → Zone → Nat → Prop) (hyp :
   (decide ((↑d : Int) ≤ (↑last : Int)) = true → findE Tryz.prog 3 (Value.int IntKind.i64 (↑d : Int)) es 0 ≠ none ∧ (∀ (p : Nat × Value), findE Tryz.prog
 3 (Value.int IntKind.i64 (↑d : Int)) es 0 = some (some p) → ∃ (x : Unit), p = (0, fV)) ∧ (∀ (i : Unit), findE Tryz.prog 3 (Value.int IntKind.i64 (↑d :
 Int)) es 0 = some (some (0, fV)) → z = z ∧ (CallA Tryz.prog z 17 [Value.int IntKind.i64 (↑d : Int), fV, Value.pointer (some (Addr.mk 0 0 none)),
 Value.pointer (some (Addr.mk 9 0 none)), Value.pointer (some (Addr.mk 10 0 none)), Value.pointer (some (Addr.mk 12 0 none))] [(0, nBox 1), (1, nb0),
 (2, nb1), (3, nb2 1), (4, nb3), (5, nb4), (6, nb5), (7, nb6), (8, nb7), (9, AObj.blk (Blk.mk [I 5] 1 1 3 true true 0 true)), (10, AObj.blk (Blk.mk
 [Value.slice (some (Addr.mk 11 0 none)) l.length l.length] 1 1 44 true true 0 true)), (11, AObj.blk (Blk.mk (chg l) (l.length * 2) 2 55 false false 0
 true)), (12, AObj.blk (Blk.mk [Value.pointer (some (Addr.mk 13 0 none))] 1 1 23 true true 0 true)), (13, AObj.blk (Blk.mk [Value.int IntKind.i64 (↑last
 : Int), Value.map (some 14)] 2 1 62 true true 0 true)), (14, AObj.map es c)] 15 16 (fun (x : Unit) => True) (fun (x : Unit) => Value.tuple (Array.mk
 [])) fun (x : Unit) => s17r' d l last c (dropAt 0 es)) ∧ some [Value.int IntKind.i64 (↑d : Int), fV, Value.pointer (some (Addr.mk 11 0 none)),
 Value.pointer (some (Addr.mk 12 0 none)), Value.pointer (some (Addr.mk 13 0 none)), Value.pointer (some (Addr.mk 10 0 none))] = some [Value.int
 IntKind.i64 (↑d : Int), fV, Value.pointer (some (Addr.mk 11 0 none)), Value.pointer (some (Addr.mk 12 0 none)), Value.pointer (some (Addr.mk 13 0
 none)), Value.pointer (some (Addr.mk 10 0 none))] ∧ some (nBox 2) = some (nBox 2) ∧ some nb0 = some nb0 ∧ some nb1 = some nb1 ∧ some (nb2 2) = some
 (nb2 2) ∧ some nb3 = some nb3 ∧ some nb4 = some nb4 ∧ some nb5 = some nb5 ∧ some nb6 = some nb6 ∧ some nb7 = some nb7 ∧ some (AObj.blk (Blk.mk [I 5] 1
 1 3 true true 0 true)) = some (AObj.blk (Blk.mk [I 5] 1 1 3 true true 0 true)) ∧ some (AObj.blk (Blk.mk [Value.slice (some (Addr.mk 14 0 none))
 l.length l.length] 1 1 44 true true 0 true)) = some (AObj.blk (Blk.mk [Value.slice (some (Addr.mk 14 0 none)) l.length l.length] 1 1 44 true true 0
 true)) ∧ renO (sig [(0, 11), (1, 2), (2, 3), (3, 4), (4, 5), (5, 6), (6, 7), (7, 8), (8, 9), (9, 12), (10, 13), (11, 14), (12, 10), (13, 0), (14, 1)])
 (AObj.blk (Blk.mk (chg l) (l.length * 2) 2 55 false false 0 true)) = some (AObj.blk (Blk.mk (chg l) (l.length * 2) 2 55 false false 0 true)) ∧ some
 (AObj.blk (Blk.mk [Value.pointer (some (Addr.mk 0 0 none))] 1 1 23 true true 0 true)) = some (AObj.blk (Blk.mk [Value.pointer (some (Addr.mk 0 0
 none))] 1 1 23 true true 0 true)) ∧ some (AObj.blk (Blk.mk [Value.int IntKind.i64 (↑last : Int), Value.map (some 1)] 2 1 62 true true 0 true)) = some
 (AObj.blk (Blk.mk [Value.int IntKind.i64 (↑last : Int), Value.map (some 1)] 2 1 62 true true 0 true)) ∧ renO (sig [(0, 11), (1, 2), (2, 3), (3, 4), (4,
 5), (5, 6), (6, 7), (7, 8), (8, 9), (9, 12), (10, 13), (11, 14), (12, 10), (13, 0), (14, 1)]) (AObj.map es c) = some (AObj.map es c) ∧ ∀ (x : Unit),
 True → some (Value.tuple (Array.mk [])) = some (Value.tuple (Array.mk [])) ∧ some (nBox 1) = some (nBox 1) ∧ some nb0 = some nb0 ∧ some nb1 = some nb1
 ∧ some (nb2 1) = some (nb2 1) ∧ some nb3 = some nb3 ∧ some nb4 = some nb4 ∧ some nb5 = some nb5 ∧ some nb6 = some nb6 ∧ some nb7 = some nb7 ∧ some
 (AObj.blk (Blk.mk [I 5] 1 1 3 true true 0 true)) = some (AObj.blk (Blk.mk [I 5] 1 1 3 true true 0 true)) ∧ some (AObj.blk (Blk.mk [Value.slice (some
 (Addr.mk 15 0 none)) (l.length + 1) (l.length + 1)] 1 1 44 true true 0 true)) = some (AObj.blk (Blk.mk [Value.slice (some (Addr.mk 15 0 none))
 (l.length + 1) (l.length + 1)] 1 1 44 true true 0 true)) ∧ some (AObj.blk (Blk.mk [Value.pointer (some (Addr.mk 13 0 none))] 1 1 23 true true 0 true))
 = some (AObj.blk (Blk.mk [Value.pointer (some (Addr.mk 13 0 none))] 1 1 23 true true 0 true)) ∧ some (AObj.blk (Blk.mk [Value.int IntKind.i64 (↑last :
 Int), Value.map (some 14)] 2 1 62 true true 0 true)) = some (AObj.blk (Blk.mk [Value.int IntKind.i64 (↑last : Int), Value.map (some 14)] 2 1 62 true
 true 0 true)) ∧ renO (sig [(11, 0), (2, 1), (3, 2), (4, 3), (5, 4), (6, 5), (7, 6), (8, 7), (9, 8), (12, 9), (13, 10), (14, 11), (10, 12), (0, 13), (1,
 14), (16, 15)]) (AObj.map (dropAt 0 es) c) = some (AObj.map (dropAt 0 es) c) ∧ renO (sig [(11, 0), (2, 1), (3, 2), (4, 3), (5, 4), (6, 5), (7, 6), (8,
 7), (9, 8), (12, 9), (13, 10), (14, 11), (10, 12), (0, 13), (1, 14), (16, 15)]) (AObj.blk (Blk.mk (chg l ++ [Value.int IntKind.i64 (↑d : Int), I 4])
 ((l.length + 1) * 2) 2 55 false false 0 true)) = some (AObj.blk (Blk.mk (chg l ++ [Value.int IntKind.i64 (↑d : Int), I 4]) ((l.length + 1) * 2) 2 55
 false false 0 true)) ∧ Value.int IntKind.i64 (IntKind.i64.wrap ((↑d : Int) + 1)) = Value.int IntKind.i64 (↑(d + 1) : Int) ∧ true = true ∧ 58 = 58 ∧
 true = true ∧ z = z ∧ some (Value.pointer (some (Addr.mk 10 0 none))) = some (Value.pointer (some (Addr.mk 10 0 none))) ∧ some (Value.pointer (some
 (Addr.mk 13 0 none))) = some (Value.pointer (some (Addr.mk 13 0 none))) ∧ some (Value.func (Fn.func 17) (Array.mk []) (Array.mk [Value.pointer (some
 (Addr.mk 11 0 none)), Value.pointer (some (Addr.mk 12 0 none)), Value.pointer (some (Addr.mk 13 0 none)), Value.pointer (some (Addr.mk 10 0 none))])) =
 some (Value.func (Fn.func 17) (Array.mk []) (Array.mk [Value.pointer (some (Addr.mk 11 0 none)), Value.pointer (some (Addr.mk 12 0 none)),
 Value.pointer (some (Addr.mk 13 0 none)), Value.pointer (some (Addr.mk 10 0 none))])) ∧ some (Value.int IntKind.i64 (↑(d + 1) : Int)) = some (Value.int
 IntKind.i64 (↑(d + 1) : Int)) ∧ some (AObj.blk (Blk.mk [Value.int IntKind.i64 (↑last : Int), Value.map (some 1)] 2 1 62 true true 0 true)) = some
 (AObj.blk (Blk.mk [Value.int IntKind.i64 (↑last : Int), Value.map (some 1)] 2 1 62 true true 0 true)) ∧ renO (sig [(0, 0), (1, 1), (2, 2), (3, 3), (4,
 4), (5, 5), (6, 6), (7, 7), (8, 8), (9, 9), (10, 10), (11, 11), (12, 12), (13, 13), (14, 16)]) (AObj.map (dropAt 0 es) c) = some (AObj.map (dropAt 0
 es) c) ∧ some nb0 = some nb0 ∧ some nb1 = some nb1 ∧ some (nb2 2) = some (nb2 2) ∧ some nb3 = some nb3 ∧ some nb4 = some nb4 ∧ some nb5 = some nb5 ∧
 some nb6 = some nb6 ∧ some nb7 = some nb7 ∧ some (AObj.blk (Blk.mk [Value.pointer (some (Addr.mk 0 0 none))] 1 1 23 true true 0 true)) = some (AObj.blk
 (Blk.mk [Value.pointer (some (Addr.mk 0 0 none))] 1 1 23 true true 0 true)) ∧ some (nBox 2) = some (nBox 2) ∧ some (AObj.blk (Blk.mk [I 5] 1 1 3 true
 true 0 true)) = some (AObj.blk (Blk.mk [I 5] 1 1 3 true true 0 true)) ∧ some (AObj.blk (Blk.mk [Value.slice (some (Addr.mk 16 0 none)) (l.length + 1)
 (l.length + 1)] 1 1 44 true true 0 true)) = some (AObj.blk (Blk.mk [Value.slice (some (Addr.mk 16 0 none)) (l.length + 1) (l.length + 1)] 1 1 44 true
 true 0 true)) ∧ renO (sig [(0, 0), (1, 1), (2, 2), (3, 3), (4, 4), (5, 5), (6, 6), (7, 7), (8, 8), (9, 9), (10, 10), (11, 11), (12, 12), (13, 13), (14,
 16)]) (AObj.blk (Blk.mk (chg l ++ [Value.int IntKind.i64 (↑d : Int), I 4]) ((l.length + 1) * 2) 2 55 false false 0 true)) = some (AObj.blk (Blk.mk (chg
 l ++ [Value.int IntKind.i64 (↑d : Int), I 4]) ((l.length + 1) * 2) 2 55 false false 0 true)) ∧ Q AExit.normal [(3, Value.pointer (some (Addr.mk 10 0
 none))), (10, Value.pointer (some (Addr.mk 13 0 none))), (11, Value.func (Fn.func 17) (Array.mk []) (Array.mk [Value.pointer (some (Addr.mk 11 0
 none)), Value.pointer (some (Addr.mk 12 0 none)), Value.pointer (some (Addr.mk 13 0 none)), Value.pointer (some (Addr.mk 10 0 none))])), (12, Value.int
 IntKind.i64 (↑(d + 1) : Int))] [(0, AObj.blk (Blk.mk [Value.int IntKind.i64 (↑last : Int), Value.map (some 1)] 2 1 62 true true 0 true)), (1, AObj.map
 (dropAt 0 es) c), (2, nb0), (3, nb1), (4, nb2 2), (5, nb3), (6, nb4), (7, nb5), (8, nb6), (9, nb7), (10, AObj.blk (Blk.mk [Value.pointer (some (Addr.mk
 0 0 none))] 1 1 23 true true 0 true)), (11, nBox 2), (12, AObj.blk (Blk.mk [I 5] 1 1 3 true true 0 true)), (13, AObj.blk (Blk.mk [Value.slice (some
 (Addr.mk 14 0 none)) (l.length + 1) (l.length + 1)] 1 1 44 true true 0 true)), (14, AObj.blk (Blk.mk (chg l ++ [Value.int IntKind.i64 (↑d : Int), I 4])
 ((l.length + 1) * 2) 2 55 false false 0 true))] 15) ∧ (findE Tryz.prog 3 (Value.int IntKind.i64 (↑d : Int)) es 0 = some none → Value.int IntKind.i64
 (IntKind.i64.wrap ((↑d : Int) + 1)) = Value.int IntKind.i64 (↑(d + 1) : Int) ∧ true = true ∧ 58 = 58 ∧ true = true ∧ z = z ∧ some (Value.pointer (some
 (Addr.mk 10 0 none))) = some (Value.pointer (some (Addr.mk 10 0 none))) ∧ some (Value.pointer (some (Addr.mk 13 0 none))) = some (Value.pointer (some
 (Addr.mk 13 0 none))) ∧ some (Value.func (Fn.func 17) (Array.mk []) (Array.mk [Value.pointer (some (Addr.mk 11 0 none)), Value.pointer (some (Addr.mk
 12 0 none)), Value.pointer (some (Addr.mk 13 0 none)), Value.pointer (some (Addr.mk 10 0 none))])) = some (Value.func (Fn.func 17) (Array.mk [])
 (Array.mk [Value.pointer (some (Addr.mk 11 0 none)), Value.pointer (some (Addr.mk 12 0 none)), Value.pointer (some (Addr.mk 13 0 none)), Value.pointer
 (some (Addr.mk 10 0 none))])) ∧ some (Value.int IntKind.i64 (↑(d + 1) : Int)) = some (Value.int IntKind.i64 (↑(d + 1) : Int)) ∧ some (AObj.blk (Blk.mk
 [Value.int IntKind.i64 (↑last : Int), Value.map (some 1)] 2 1 62 true true 0 true)) = some (AObj.blk (Blk.mk [Value.int IntKind.i64 (↑last : Int),
 Value.map (some 1)] 2 1 62 true true 0 true)) ∧ renO (sig [(0, 0), (1, 1), (2, 2), (3, 3), (4, 4), (5, 5), (6, 6), (7, 7), (8, 8), (9, 9), (10, 10),
 (11, 11), (12, 12), (13, 13), (14, 14)]) (AObj.map es c) = some (AObj.map es c) ∧ some nb0 = some nb0 ∧ some nb1 = some nb1 ∧ some (nb2 2) = some (nb2
 2) ∧ some nb3 = some nb3 ∧ some nb4 = some nb4 ∧ some nb5 = some nb5 ∧ some nb6 = some nb6 ∧ some nb7 = some nb7 ∧ some (AObj.blk (Blk.mk
 [Value.pointer (some (Addr.mk 0 0 none))] 1 1 23 true true 0 true)) = some (AObj.blk (Blk.mk [Value.pointer (some (Addr.mk 0 0 none))] 1 1 23 true true
 0 true)) ∧ some (nBox 2) = some (nBox 2) ∧ some (AObj.blk (Blk.mk [I 5] 1 1 3 true true 0 true)) = some (AObj.blk (Blk.mk [I 5] 1 1 3 true true 0
 true)) ∧ some (AObj.blk (Blk.mk [Value.slice (some (Addr.mk 14 0 none)) l.length l.length] 1 1 44 true true 0 true)) = some (AObj.blk (Blk.mk
 [Value.slice (some (Addr.mk 14 0 none)) l.length l.length] 1 1 44 true true 0 true)) ∧ renO (sig [(0, 0), (1, 1), (2, 2), (3, 3), (4, 4), (5, 5), (6,
 6), (7, 7), (8, 8), (9, 9), (10, 10), (11, 11), (12, 12), (13, 13), (14, 14)]) (AObj.blk (Blk.mk (chg l) (l.length * 2) 2 55 false false 0 true)) =
 some (AObj.blk (Blk.mk (chg l) (l.length * 2) 2 55 false false 0 true)) ∧ Q AExit.normal [(3, Value.pointer (some (Addr.mk 10 0 none))), (10,
 Value.pointer (some (Addr.mk 13 0 none))), (11, Value.func (Fn.func 17) (Array.mk []) (Array.mk [Value.pointer (some (Addr.mk 11 0 none)),
 Value.pointer (some (Addr.mk 12 0 none)), Value.pointer (some (Addr.mk 13 0 none)), Value.pointer (some (Addr.mk 10 0 none))])), (12, Value.int
 IntKind.i64 (↑(d + 1) : Int))] [(0, AObj.blk (Blk.mk [Value.int IntKind.i64 (↑last : Int), Value.map (some 1)] 2 1 62 true true 0 true)), (1, AObj.map
 es c), (2, nb0), (3, nb1), (4, nb2 2), (5, nb3), (6, nb4), (7, nb5), (8, nb6), (9, nb7), (10, AObj.blk (Blk.mk [Value.pointer (some (Addr.mk 0 0
 none))] 1 1 23 true true 0 true)), (11, nBox 2), (12, AObj.blk (Blk.mk [I 5] 1 1 3 true true 0 true)), (13, AObj.blk (Blk.mk [Value.slice (some
 (Addr.mk 14 0 none)) l.length l.length] 1 1 44 true true 0 true)), (14, AObj.blk (Blk.mk (chg l) (l.length * 2) 2 55 false false 0 true))] 15)) ∧
 (decide ((↑d : Int) ≤ (↑last : Int)) = false → true = true ∧ 58 = 58 ∧ true = true ∧ z = z ∧ some (Value.pointer (some (Addr.mk 10 0 none))) = some
 (Value.pointer (some (Addr.mk 10 0 none))) ∧ some (Value.pointer (some (Addr.mk 13 0 none))) = some (Value.pointer (some (Addr.mk 13 0 none))) ∧ some
 (AObj.blk (Blk.mk [Value.int IntKind.i64 (↑last : Int), Value.map (some 1)] 2 1 62 true true 0 true)) = some (AObj.blk (Blk.mk [Value.int IntKind.i64
 (↑last : Int), Value.map (some 1)] 2 1 62 true true 0 true)) ∧ renO (sig [(0, 0), (1, 1), (2, 2), (3, 3), (4, 4), (5, 5), (6, 6), (7, 7), (8, 8), (9,
 9), (10, 10), (11, 11), (12, 12), (13, 13), (14, 14)]) (AObj.map es c) = some (AObj.map es c) ∧ some nb0 = some nb0 ∧ some nb1 = some nb1 ∧ some (nb2
 2) = some (nb2 2) ∧ some nb3 = some nb3 ∧ some nb4 = some nb4 ∧ some nb5 = some nb5 ∧ some nb6 = some nb6 ∧ some nb7 = some nb7 ∧ some (AObj.blk
 (Blk.mk [Value.pointer (some (Addr.mk 0 0 none))] 1 1 23 true true 0 true)) = some (AObj.blk (Blk.mk [Value.pointer (some (Addr.mk 0 0 none))] 1 1 23
 true true 0 true)) ∧ some (nBox 2) = some (nBox 2) ∧ some (AObj.blk (Blk.mk [I 5] 1 1 3 true true 0 true)) = some (AObj.blk (Blk.mk [I 5] 1 1 3 true
 true 0 true)) ∧ some (AObj.blk (Blk.mk [Value.slice (some (Addr.mk 14 0 none)) l.length l.length] 1 1 44 true true 0 true)) = some (AObj.blk (Blk.mk
 [Value.slice (some (Addr.mk 14 0 none)) l.length l.length] 1 1 44 true true 0 true)) ∧ renO (sig [(0, 0), (1, 1), (2, 2), (3, 3), (4, 4), (5, 5), (6,
 6), (7, 7), (8, 8), (9, 9), (10, 10), (11, 11), (12, 12), (13, 13), (14, 14)]) (AObj.blk (Blk.mk (chg l) (l.length * 2) 2 55 false false 0 true)) =
 some (AObj.blk (Blk.mk (chg l) (l.length * 2) 2 55 false false 0 true)) ∧ Q (AExit.exit 0) [(3, Value.pointer (some (Addr.mk 10 0 none))), (10,
 Value.pointer (some (Addr.mk 13 0 none)))] [(0, AObj.blk (Blk.mk [Value.int IntKind.i64 (↑last : Int), Value.map (some 1)] 2 1 62 true true 0 true)),
 (1, AObj.map es c), (2, nb0), (3, nb1), (4, nb2 2), (5, nb3), (6, nb4), (7, nb5), (8, nb6), (9, nb7), (10, AObj.blk (Blk.mk [Value.pointer (some
 (Addr.mk 0 0 none))] 1 1 23 true true 0 true)), (11, nBox 2), (12, AObj.blk (Blk.mk [I 5] 1 1 3 true true 0 true)), (13, AObj.blk (Blk.mk [Value.slice
 (some (Addr.mk 14 0 none)) l.length l.length] 1 1 44 true true 0 true)), (14, AObj.blk (Blk.mk (chg l) (l.length * 2) 2 55 false false 0 true))] 15)) : ∃ t, codeT Tryz.prog g z 100 (loopN (bodyOf Tryz.f7) 0) (mkFr 58 (lv7 d)) (mkHs z (zn7r l last c es) 15) (finK z 14 58 Q) t := ⟨ Tr.auto 2 ((Tr.auto 3 (Tr.find Unit (fun (x : Unit) => (0, fV)) (fun (i : Unit) => Tr.auto 3 (Tr.cm (Cm.mk [Value.int IntKind.i64 (↑d : Int), fV,
 Value.pointer (some (Addr.mk 0 0 none)), Value.pointer (some (Addr.mk 9 0 none)), Value.pointer (some (Addr.mk 10 0 none)), Value.pointer (some
 (Addr.mk 12 0 none))] [(0, nBox 1), (1, nb0), (2, nb1), (3, nb2 1), (4, nb3), (5, nb4), (6, nb5), (7, nb6), (8, nb7), (9, AObj.blk (Blk.mk [I 5] 1 1 3
 true true 0 true)), (10, AObj.blk (Blk.mk [Value.slice (some (Addr.mk 11 0 none)) l.length l.length] 1 1 44 true true 0 true)), (11, AObj.blk (Blk.mk
 (chg l) (l.length * 2) 2 55 false false 0 true)), (12, AObj.blk (Blk.mk [Value.pointer (some (Addr.mk 13 0 none))] 1 1 23 true true 0 true)), (13,
 AObj.blk (Blk.mk [Value.int IntKind.i64 (↑last : Int), Value.map (some 14)] 2 1 62 true true 0 true)), (14, AObj.map es c)] 15 16 [(0, 11), (1, 2), (2,
 3), (3, 4), (4, 5), (5, 6), (6, 7), (7, 8), (8, 9), (9, 12), (10, 13), (11, 14), (12, 10), (13, 0), (14, 1)] [(11, 0), (2, 1), (3, 2), (4, 3), (5, 4),
 (6, 5), (7, 6), (8, 7), (9, 8), (12, 9), (13, 10), (14, 11), (10, 12), (0, 13), (1, 14), (16, 15)] 17) Unit (fun (x : Unit) => True) (fun (x : Unit) =>
 Value.tuple (Array.mk [])) (fun (x : Unit) => s17r' d l last c (dropAt 0 es)) (fun (x : Unit) => Value.tuple (Array.mk [])) (fun (x : Unit) => [(11,
 nBox 2), (2, nb0), (3, nb1), (4, nb2 2), (5, nb3), (6, nb4), (7, nb5), (8, nb6), (9, nb7), (12, AObj.blk (Blk.mk [I 5] 1 1 3 true true 0 true)), (13,
 AObj.blk (Blk.mk [Value.slice (some (Addr.mk 16 0 none)) (l.length + 1) (l.length + 1)] 1 1 44 true true 0 true)), (10, AObj.blk (Blk.mk [Value.pointer
 (some (Addr.mk 0 0 none))] 1 1 23 true true 0 true)), (0, AObj.blk (Blk.mk [Value.int IntKind.i64 (↑last : Int), Value.map (some 1)] 2 1 62 true true 0
 true)), (1, AObj.map (dropAt 0 es) c), (16, AObj.blk (Blk.mk (chg l ++ [Value.int IntKind.i64 (↑d : Int), I 4]) ((l.length + 1) * 2) 2 55 false false 0
 true))]) fun (x : Unit) => Tr.one (An.val (Value.int IntKind.i64 (↑(d + 1) : Int))) (Tr.fin [(0, 0), (1, 1), (2, 2), (3, 3), (4, 4), (5, 5), (6, 6),
 (7, 7), (8, 8), (9, 9), (10, 10), (11, 11), (12, 12), (13, 13), (14, 16)] [(3, Value.pointer (some (Addr.mk 10 0 none))), (10, Value.pointer (some
 (Addr.mk 13 0 none))), (11, Value.func (Fn.func 17) (Array.mk []) (Array.mk [Value.pointer (some (Addr.mk 11 0 none)), Value.pointer (some (Addr.mk 12
 0 none)), Value.pointer (some (Addr.mk 13 0 none)), Value.pointer (some (Addr.mk 10 0 none))])), (12, Value.int IntKind.i64 (↑(d + 1) : Int))] [(0,
 AObj.blk (Blk.mk [Value.int IntKind.i64 (↑last : Int), Value.map (some 1)] 2 1 62 true true 0 true)), (1, AObj.map (dropAt 0 es) c), (2, nb0), (3,
 nb1), (4, nb2 2), (5, nb3), (6, nb4), (7, nb5), (8, nb6), (9, nb7), (10, AObj.blk (Blk.mk [Value.pointer (some (Addr.mk 0 0 none))] 1 1 23 true true 0
 true)), (11, nBox 2), (12, AObj.blk (Blk.mk [I 5] 1 1 3 true true 0 true)), (13, AObj.blk (Blk.mk [Value.slice (some (Addr.mk 14 0 none)) (l.length +
 1) (l.length + 1)] 1 1 44 true true 0 true)), (14, AObj.blk (Blk.mk (chg l ++ [Value.int IntKind.i64 (↑d : Int), I 4]) ((l.length + 1) * 2) 2 55 false
 false 0 true))] 15))) (Tr.auto 2 (Tr.one (An.val (Value.int IntKind.i64 (↑(d + 1) : Int))) (Tr.fin [(0, 0), (1, 1), (2, 2), (3, 3), (4, 4), (5, 5), (6,
 6), (7, 7), (8, 8), (9, 9), (10, 10), (11, 11), (12, 12), (13, 13), (14, 14)] [(3, Value.pointer (some (Addr.mk 10 0 none))), (10, Value.pointer (some
 (Addr.mk 13 0 none))), (11, Value.func (Fn.func 17) (Array.mk []) (Array.mk [Value.pointer (some (Addr.mk 11 0 none)), Value.pointer (some (Addr.mk 12
 0 none)), Value.pointer (some (Addr.mk 13 0 none)), Value.pointer (some (Addr.mk 10 0 none))])), (12, Value.int IntKind.i64 (↑(d + 1) : Int))] [(0,
 AObj.blk (Blk.mk [Value.int IntKind.i64 (↑last : Int), Value.map (some 1)] 2 1 62 true true 0 true)), (1, AObj.map es c), (2, nb0), (3, nb1), (4, nb2
 2), (5, nb3), (6, nb4), (7, nb5), (8, nb6), (9, nb7), (10, AObj.blk (Blk.mk [Value.pointer (some (Addr.mk 0 0 none))] 1 1 23 true true 0 true)), (11,
 nBox 2), (12, AObj.blk (Blk.mk [I 5] 1 1 3 true true 0 true)), (13, AObj.blk (Blk.mk [Value.slice (some (Addr.mk 14 0 none)) l.length l.length] 1 1 44
 true true 0 true)), (14, AObj.blk (Blk.mk (chg l) (l.length * 2) 2 55 false false 0 true))] 15))))).fork (Tr.auto 1 (Tr.fin [(0, 0), (1, 1), (2, 2),
 (3, 3), (4, 4), (5, 5), (6, 6), (7, 7), (8, 8), (9, 9), (10, 10), (11, 11), (12, 12), (13, 13), (14, 14)] [(3, Value.pointer (some (Addr.mk 10 0
 none))), (10, Value.pointer (some (Addr.mk 13 0 none)))] [(0, AObj.blk (Blk.mk [Value.int IntKind.i64 (↑last : Int), Value.map (some 1)] 2 1 62 true
 true 0 true)), (1, AObj.map es c), (2, nb0), (3, nb1), (4, nb2 2), (5, nb3), (6, nb4), (7, nb5), (8, nb6), (9, nb7), (10, AObj.blk (Blk.mk
 [Value.pointer (some (Addr.mk 0 0 none))] 1 1 23 true true 0 true)), (11, nBox 2), (12, AObj.blk (Blk.mk [I 5] 1 1 3 true true 0 true)), (13, AObj.blk
 (Blk.mk [Value.slice (some (Addr.mk 14 0 none)) l.length l.length] 1 1 44 true true 0 true)), (14, AObj.blk (Blk.mk (chg l) (l.length * 2) 2 55 false
 false 0 true))] 15))),
 Eq.mp (by kernel_rfl) hyp⟩

end Go.Proofs.Wc
