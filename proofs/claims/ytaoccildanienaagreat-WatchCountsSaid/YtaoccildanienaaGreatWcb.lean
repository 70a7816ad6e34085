/-
  A part of the proof: lemmas of my own.
-/
import Derived.Test.YtaoccildanienaaGreatWcz
import Derived.KernelRfl
set_option linter.unusedVariables false
set_option linter.unusedSimpArgs false
namespace Go.Proofs.Wc
open Go Go.AV
set_option linter.unusedVariables false

set_option maxRecDepth 1000000 in
theorem rCn (z : T AObj) (g : Nat → List Value → Option Value) (n : Nat) (cp : Nat) (last : Nat) (i : Nat) (Q : AExit → Live → Zone → Nat → Prop) (hyp :
   true = true ∧ 202 = 202 ∧ true = true ∧ z = z ∧ some (Value.slice (some (Addr.mk 510 0 none)) n cp) = some (Value.slice (some (Addr.mk 510 0 none)) n
 cp) ∧ some (Value.pointer (some (Addr.mk 9 0 none))) = some (Value.pointer (some (Addr.mk 9 0 none))) ∧ some (Value.pointer (some (Addr.mk 19 0 none)))
 = some (Value.pointer (some (Addr.mk 19 0 none))) ∧ some (Value.int IntKind.i64 (↑(last + 1) : Int)) = some (Value.int IntKind.i64 (↑(last + 1) : Int))
 ∧ some (Value.int IntKind.i64 (↑i : Int)) = some (Value.int IntKind.i64 (↑i : Int)) ∧ some (AObj.blk (Blk.mk [Value.int IntKind.i64 (↑last : Int),
 Value.map (some 10)] 2 1 62 true true 0 true)) = some (AObj.blk (Blk.mk [Value.int IntKind.i64 (↑last : Int), Value.map (some 10)] 2 1 62 true true 0
 true)) ∧ some (AObj.map [] last) = some (AObj.map [] last) ∧ some nb0 = some nb0 ∧ some nb1 = some nb1 ∧ some (nb2 11) = some (nb2 11) ∧ some nb3 =
 some nb3 ∧ some nb4 = some nb4 ∧ some nb5 = some nb5 ∧ some nb6 = some nb6 ∧ some nb7 = some nb7 ∧ some (nBox 11) = some (nBox 11) ∧ Q (AExit.exit 5)
 [(0, Value.slice (some (Addr.mk 510 0 none)) n cp), (8, Value.pointer (some (Addr.mk 9 0 none))), (9, Value.pointer (some (Addr.mk 19 0 none))), (11,
 Value.int IntKind.i64 (↑(last + 1) : Int)), (12, Value.int IntKind.i64 (↑i : Int))] [(9, AObj.blk (Blk.mk [Value.int IntKind.i64 (↑last : Int),
 Value.map (some 10)] 2 1 62 true true 0 true)), (10, AObj.map [] last), (11, nb0), (12, nb1), (13, nb2 11), (14, nb3), (15, nb4), (16, nb5), (17, nb6),
 (18, nb7), (19, nBox 11)] 22) : ∃ t, codeT Tryz.prog g z 100 (loopN (loopN (bodyOf Tryz.f3) 0) 0) (mkFr 202 (lvC n cp nilS nilS last i 0)) (mkHs z (zn3 last []) 22) (finK z 22 202 Q) t := ⟨ Tr.auto 2 (Tr.fin [(9, 9), (10, 10), (11, 11), (12, 12), (13, 13), (14, 14), (15, 15), (16, 16), (17, 17), (18, 18), (19, 19)] [(0, Value.slice (some
 (Addr.mk 510 0 none)) n cp), (8, Value.pointer (some (Addr.mk 9 0 none))), (9, Value.pointer (some (Addr.mk 19 0 none))), (11, Value.int IntKind.i64
 (↑(last + 1) : Int)), (12, Value.int IntKind.i64 (↑i : Int))] [(9, AObj.blk (Blk.mk [Value.int IntKind.i64 (↑last : Int), Value.map (some 10)] 2 1 62
 true true 0 true)), (10, AObj.map [] last), (11, nb0), (12, nb1), (13, nb2 11), (14, nb3), (15, nb4), (16, nb5), (17, nb6), (18, nb7), (19, nBox 11)]
 22),
 Eq.mp (by kernel_rfl) hyp⟩

set_option maxRecDepth 1000000 in
theorem rCr (z : T AObj) (g : Nat → List Value → Option Value) (n : Nat) (cp : Nat) (last : Nat) (i : Nat) (k : Nat) (d : Nat) (ids : List Nat) (Q : AExit → Live → Zone → Nat → Prop) (hyp :
   (decide ((↑k : Int) < (↑ids.length : Int)) = true → (↑k : Int) = (↑k : Int) ∧ k < ids.length ∧ readB Tryz.prog (Blk.mk (chg ids) (ids.length * 2) 2 55
 false false 0 true) 55 (0 + k * 2) = some (Value.agg (Array.mk [Value.int IntKind.i64 (↑d : Int), I 4])) ∧ (↑k : Int) = (↑k : Int) ∧ k < ids.length ∧
 readB Tryz.prog (Blk.mk (List.map iv ids) (ids.length * 1) 1 3 false false 0 true) 3 (0 + k * 1) = some (Value.int IntKind.i64 (↑d : Int)) ∧ binP
 Tryz.prog BinOp.neq 55 (Operand.tmp 189) (Operand.tmp 194) (Value.agg (Array.mk [Value.int IntKind.i64 (↑d : Int), I 4])) (Value.agg (Array.mk
 [Value.int IntKind.i64 (↑d : Int), I 4])) F0 ∧ Value.int IntKind.i64 (IntKind.i64.wrap ((↑k : Int) + 1)) = Value.int IntKind.i64 (↑(k + 1) : Int) ∧
 true = true ∧ 202 = 202 ∧ true = true ∧ z = z ∧ some (Value.slice (some (Addr.mk 510 0 none)) n cp) = some (Value.slice (some (Addr.mk 510 0 none)) n
 cp) ∧ some (Value.pointer (some (Addr.mk 9 0 none))) = some (Value.pointer (some (Addr.mk 9 0 none))) ∧ some (Value.pointer (some (Addr.mk 19 0 none)))
 = some (Value.pointer (some (Addr.mk 19 0 none))) ∧ some (Value.slice (some (Addr.mk 20 0 none)) ids.length ids.length) = some (Value.slice (some
 (Addr.mk 20 0 none)) ids.length ids.length) ∧ some (Value.int IntKind.i64 (↑(last + 1) : Int)) = some (Value.int IntKind.i64 (↑(last + 1) : Int)) ∧
 some (Value.int IntKind.i64 (↑i : Int)) = some (Value.int IntKind.i64 (↑i : Int)) ∧ some (Value.slice (some (Addr.mk 22 0 none)) ids.length ids.length)
 = some (Value.slice (some (Addr.mk 22 0 none)) ids.length ids.length) ∧ some (Value.int IntKind.i64 (↑(k + 1) : Int)) = some (Value.int IntKind.i64
 (↑(k + 1) : Int)) ∧ some (AObj.blk (Blk.mk [Value.int IntKind.i64 (↑last : Int), Value.map (some 10)] 2 1 62 true true 0 true)) = some (AObj.blk
 (Blk.mk [Value.int IntKind.i64 (↑last : Int), Value.map (some 10)] 2 1 62 true true 0 true)) ∧ some (AObj.map [] last) = some (AObj.map [] last) ∧ some
 nb0 = some nb0 ∧ some nb1 = some nb1 ∧ some (nb2 11) = some (nb2 11) ∧ some nb3 = some nb3 ∧ some nb4 = some nb4 ∧ some nb5 = some nb5 ∧ some nb6 =
 some nb6 ∧ some nb7 = some nb7 ∧ some (nBox 11) = some (nBox 11) ∧ renO (sig [(9, 9), (10, 10), (11, 11), (12, 12), (13, 13), (14, 14), (15, 15), (16,
 16), (17, 17), (18, 18), (19, 19), (20, 20), (22, 22)]) (AObj.blk (Blk.mk (List.map iv ids) (ids.length * 1) 1 3 false false 0 true)) = some (AObj.blk
 (Blk.mk (List.map iv ids) (ids.length * 1) 1 3 false false 0 true)) ∧ renO (sig [(9, 9), (10, 10), (11, 11), (12, 12), (13, 13), (14, 14), (15, 15),
 (16, 16), (17, 17), (18, 18), (19, 19), (20, 20), (22, 22)]) (AObj.blk (Blk.mk (chg ids) (ids.length * 2) 2 55 false false 0 true)) = some (AObj.blk
 (Blk.mk (chg ids) (ids.length * 2) 2 55 false false 0 true)) ∧ Q AExit.normal [(0, Value.slice (some (Addr.mk 510 0 none)) n cp), (8, Value.pointer
 (some (Addr.mk 9 0 none))), (9, Value.pointer (some (Addr.mk 19 0 none))), (10, Value.slice (some (Addr.mk 20 0 none)) ids.length ids.length), (11,
 Value.int IntKind.i64 (↑(last + 1) : Int)), (12, Value.int IntKind.i64 (↑i : Int)), (15, Value.slice (some (Addr.mk 22 0 none)) ids.length ids.length),
 (16, Value.int IntKind.i64 (↑(k + 1) : Int))] [(9, AObj.blk (Blk.mk [Value.int IntKind.i64 (↑last : Int), Value.map (some 10)] 2 1 62 true true 0
 true)), (10, AObj.map [] last), (11, nb0), (12, nb1), (13, nb2 11), (14, nb3), (15, nb4), (16, nb5), (17, nb6), (18, nb7), (19, nBox 11), (20, AObj.blk
 (Blk.mk (List.map iv ids) (ids.length * 1) 1 3 false false 0 true)), (22, AObj.blk (Blk.mk (chg ids) (ids.length * 2) 2 55 false false 0 true))] 23) ∧
 (decide ((↑k : Int) < (↑ids.length : Int)) = false → true = true ∧ 202 = 202 ∧ true = true ∧ z = z ∧ some (Value.slice (some (Addr.mk 510 0 none)) n
 cp) = some (Value.slice (some (Addr.mk 510 0 none)) n cp) ∧ some (Value.pointer (some (Addr.mk 9 0 none))) = some (Value.pointer (some (Addr.mk 9 0
 none))) ∧ some (Value.pointer (some (Addr.mk 19 0 none))) = some (Value.pointer (some (Addr.mk 19 0 none))) ∧ some (Value.int IntKind.i64 (↑(last + 1)
 : Int)) = some (Value.int IntKind.i64 (↑(last + 1) : Int)) ∧ some (Value.int IntKind.i64 (↑i : Int)) = some (Value.int IntKind.i64 (↑i : Int)) ∧ some
 (AObj.blk (Blk.mk [Value.int IntKind.i64 (↑last : Int), Value.map (some 10)] 2 1 62 true true 0 true)) = some (AObj.blk (Blk.mk [Value.int IntKind.i64
 (↑last : Int), Value.map (some 10)] 2 1 62 true true 0 true)) ∧ some (AObj.map [] last) = some (AObj.map [] last) ∧ some nb0 = some nb0 ∧ some nb1 =
 some nb1 ∧ some (nb2 11) = some (nb2 11) ∧ some nb3 = some nb3 ∧ some nb4 = some nb4 ∧ some nb5 = some nb5 ∧ some nb6 = some nb6 ∧ some nb7 = some nb7
 ∧ some (nBox 11) = some (nBox 11) ∧ Q (AExit.exit 5) [(0, Value.slice (some (Addr.mk 510 0 none)) n cp), (8, Value.pointer (some (Addr.mk 9 0 none))),
 (9, Value.pointer (some (Addr.mk 19 0 none))), (11, Value.int IntKind.i64 (↑(last + 1) : Int)), (12, Value.int IntKind.i64 (↑i : Int))] [(9, AObj.blk
 (Blk.mk [Value.int IntKind.i64 (↑last : Int), Value.map (some 10)] 2 1 62 true true 0 true)), (10, AObj.map [] last), (11, nb0), (12, nb1), (13, nb2
 11), (14, nb3), (15, nb4), (16, nb5), (17, nb6), (18, nb7), (19, nBox 11)] 23)) : ∃ t, codeT Tryz.prog g z 100 (loopN (loopN (bodyOf Tryz.f3) 0) 0) (mkFr 202 (lvC n cp (sl 20 ids.length) (sl 22 ids.length) last i k)) (mkHs z (znC last ids) 23) (finK z 23 202 Q) t := ⟨ (Tr.auto 1 (Tr.one (An.idx k) (Tr.one (An.ldo (Value.agg (Array.mk [iv d, I 4]))) (Tr.one (An.idx k) (Tr.one (An.ldo (iv d)) (Tr.x (AnX.bin F0)
 (Tr.auto 1 (Tr.one (An.val (Value.int IntKind.i64 (↑(k + 1) : Int))) (Tr.fin [(9, 9), (10, 10), (11, 11), (12, 12), (13, 13), (14, 14), (15, 15), (16,
 16), (17, 17), (18, 18), (19, 19), (20, 20), (22, 22)] [(0, Value.slice (some (Addr.mk 510 0 none)) n cp), (8, Value.pointer (some (Addr.mk 9 0
 none))), (9, Value.pointer (some (Addr.mk 19 0 none))), (10, Value.slice (some (Addr.mk 20 0 none)) ids.length ids.length), (11, Value.int IntKind.i64
 (↑(last + 1) : Int)), (12, Value.int IntKind.i64 (↑i : Int)), (15, Value.slice (some (Addr.mk 22 0 none)) ids.length ids.length), (16, Value.int
 IntKind.i64 (↑(k + 1) : Int))] [(9, AObj.blk (Blk.mk [Value.int IntKind.i64 (↑last : Int), Value.map (some 10)] 2 1 62 true true 0 true)), (10,
 AObj.map [] last), (11, nb0), (12, nb1), (13, nb2 11), (14, nb3), (15, nb4), (16, nb5), (17, nb6), (18, nb7), (19, nBox 11), (20, AObj.blk (Blk.mk
 (List.map iv ids) (ids.length * 1) 1 3 false false 0 true)), (22, AObj.blk (Blk.mk (chg ids) (ids.length * 2) 2 55 false false 0 true))]
 23))))))))).fork (Tr.auto 1 (Tr.fin [(9, 9), (10, 10), (11, 11), (12, 12), (13, 13), (14, 14), (15, 15), (16, 16), (17, 17), (18, 18), (19, 19)] [(0,
 Value.slice (some (Addr.mk 510 0 none)) n cp), (8, Value.pointer (some (Addr.mk 9 0 none))), (9, Value.pointer (some (Addr.mk 19 0 none))), (11,
 Value.int IntKind.i64 (↑(last + 1) : Int)), (12, Value.int IntKind.i64 (↑i : Int))] [(9, AObj.blk (Blk.mk [Value.int IntKind.i64 (↑last : Int),
 Value.map (some 10)] 2 1 62 true true 0 true)), (10, AObj.map [] last), (11, nb0), (12, nb1), (13, nb2 11), (14, nb3), (15, nb4), (16, nb5), (17, nb6),
 (18, nb7), (19, nBox 11)] 23)),
 Eq.mp (by kernel_rfl) hyp⟩

set_option maxRecDepth 1000000 in
theorem rLn (z : T AObj) (g : Nat → List Value → Option Value) (n : Nat) (cp : Nat) (last : Nat) (i : Nat) (Q : AExit → Live → Zone → Nat → Prop) (hyp :
   true = true ∧ 202 = 202 ∧ true = true ∧ z = z ∧ some (Value.slice (some (Addr.mk 510 0 none)) n cp) = some (Value.slice (some (Addr.mk 510 0 none)) n
 cp) ∧ some (Value.pointer (some (Addr.mk 9 0 none))) = some (Value.pointer (some (Addr.mk 9 0 none))) ∧ some (Value.pointer (some (Addr.mk 19 0 none)))
 = some (Value.pointer (some (Addr.mk 19 0 none))) ∧ some (Value.slice none 0 0) = some (Value.slice none 0 0) ∧ some (Value.int IntKind.i64 (↑(last +
 1) : Int)) = some (Value.int IntKind.i64 (↑(last + 1) : Int)) ∧ some (Value.int IntKind.i64 (↑i : Int)) = some (Value.int IntKind.i64 (↑i : Int)) ∧
 some (Value.slice none 0 0) = some (Value.slice none 0 0) ∧ some (AObj.blk (Blk.mk [Value.int IntKind.i64 (↑last : Int), Value.map (some 10)] 2 1 62
 true true 0 true)) = some (AObj.blk (Blk.mk [Value.int IntKind.i64 (↑last : Int), Value.map (some 10)] 2 1 62 true true 0 true)) ∧ some (AObj.map []
 last) = some (AObj.map [] last) ∧ some nb0 = some nb0 ∧ some nb1 = some nb1 ∧ some (nb2 11) = some (nb2 11) ∧ some nb3 = some nb3 ∧ some nb4 = some nb4
 ∧ some nb5 = some nb5 ∧ some nb6 = some nb6 ∧ some nb7 = some nb7 ∧ some (nBox 11) = some (nBox 11) ∧ Q (AExit.exit 3) [(0, Value.slice (some (Addr.mk
 510 0 none)) n cp), (8, Value.pointer (some (Addr.mk 9 0 none))), (9, Value.pointer (some (Addr.mk 19 0 none))), (10, Value.slice none 0 0), (11,
 Value.int IntKind.i64 (↑(last + 1) : Int)), (12, Value.int IntKind.i64 (↑i : Int)), (17, Value.slice none 0 0)] [(9, AObj.blk (Blk.mk [Value.int
 IntKind.i64 (↑last : Int), Value.map (some 10)] 2 1 62 true true 0 true)), (10, AObj.map [] last), (11, nb0), (12, nb1), (13, nb2 11), (14, nb3), (15,
 nb4), (16, nb5), (17, nb6), (18, nb7), (19, nBox 11)] 21) : ∃ t, codeT Tryz.prog g z 100 (loopN (loopN (bodyOf Tryz.f3) 0) 1) (mkFr 202 (lvL n cp nilS nilS last i 0)) (mkHs z (zn3 last []) 21) (finK z 21 202 Q) t := ⟨ Tr.auto 2 (Tr.fin [(9, 9), (10, 10), (11, 11), (12, 12), (13, 13), (14, 14), (15, 15), (16, 16), (17, 17), (18, 18), (19, 19)] [(0, Value.slice (some
 (Addr.mk 510 0 none)) n cp), (8, Value.pointer (some (Addr.mk 9 0 none))), (9, Value.pointer (some (Addr.mk 19 0 none))), (10, Value.slice none 0 0),
 (11, Value.int IntKind.i64 (↑(last + 1) : Int)), (12, Value.int IntKind.i64 (↑i : Int)), (17, Value.slice none 0 0)] [(9, AObj.blk (Blk.mk [Value.int
 IntKind.i64 (↑last : Int), Value.map (some 10)] 2 1 62 true true 0 true)), (10, AObj.map [] last), (11, nb0), (12, nb1), (13, nb2 11), (14, nb3), (15,
 nb4), (16, nb5), (17, nb6), (18, nb7), (19, nBox 11)] 21),
 Eq.mp (by kernel_rfl) hyp⟩

set_option maxRecDepth 1000000 in
theorem rLr (z : T AObj) (g : Nat → List Value → Option Value) (n : Nat) (cp : Nat) (last : Nat) (i : Nat) (k : Nat) (d : Nat) (ids : List Nat) (y : Int) (kl : Blk) (Q : AExit → Live → Zone → Nat → Prop) (hyp :
   (decide ((↑k : Int) < (↑ids.length : Int)) = true → (↑k : Int) = (↑k : Int) ∧ k < ids.length ∧ readB Tryz.prog (Blk.mk (List.map iv ids) (ids.length *
 1) 1 3 false false 0 true) 3 (0 + k * 1) = some (Value.int IntKind.i64 (↑d : Int)) ∧ (↑i : Int) = (↑i : Int) ∧ i < n ∧ 510 = 510 ∧ z.get 0 = some
 (AObj.blk kl) ∧ readB Tryz.prog kl 3 (0 + i * 1) = some (Value.int IntKind.i64 y) ∧ (((↑d : Int) != y) = true → (↑k : Int) = (↑k : Int) ∧ k <
 ids.length ∧ readB Tryz.prog (Blk.mk (List.map iv ids) (ids.length * 1) 1 3 false false 0 true) 3 (0 + k * 1) = some (Value.int IntKind.i64 (↑d : Int))
 ∧ Value.int IntKind.i64 (IntKind.i64.wrap ((↑k : Int) + 1)) = Value.int IntKind.i64 (↑(k + 1) : Int) ∧ true = true ∧ 202 = 202 ∧ true = true ∧ z = z ∧
 some (Value.slice (some (Addr.mk 510 0 none)) n cp) = some (Value.slice (some (Addr.mk 510 0 none)) n cp) ∧ some (Value.pointer (some (Addr.mk 9 0
 none))) = some (Value.pointer (some (Addr.mk 9 0 none))) ∧ some (Value.pointer (some (Addr.mk 19 0 none))) = some (Value.pointer (some (Addr.mk 19 0
 none))) ∧ some (Value.slice (some (Addr.mk 20 0 none)) ids.length ids.length) = some (Value.slice (some (Addr.mk 20 0 none)) ids.length ids.length) ∧
 some (Value.int IntKind.i64 (↑(last + 1) : Int)) = some (Value.int IntKind.i64 (↑(last + 1) : Int)) ∧ some (Value.int IntKind.i64 (↑i : Int)) = some
 (Value.int IntKind.i64 (↑i : Int)) ∧ some (Value.slice (some (Addr.mk 23 0 none)) 1 1) = some (Value.slice (some (Addr.mk 23 0 none)) 1 1) ∧ some
 (Value.int IntKind.i64 (↑(k + 1) : Int)) = some (Value.int IntKind.i64 (↑(k + 1) : Int)) ∧ some (AObj.blk (Blk.mk [Value.int IntKind.i64 (↑last : Int),
 Value.map (some 10)] 2 1 62 true true 0 true)) = some (AObj.blk (Blk.mk [Value.int IntKind.i64 (↑last : Int), Value.map (some 10)] 2 1 62 true true 0
 true)) ∧ renO (sig [(9, 9), (10, 10), (11, 11), (12, 12), (13, 13), (14, 14), (15, 15), (16, 16), (17, 17), (18, 18), (19, 19), (20, 20), (21, 23)])
 (AObj.map (ents ids) last) = some (AObj.map (ents ids) last) ∧ some nb0 = some nb0 ∧ some nb1 = some nb1 ∧ some (nb2 11) = some (nb2 11) ∧ some nb3 =
 some nb3 ∧ some nb4 = some nb4 ∧ some nb5 = some nb5 ∧ some nb6 = some nb6 ∧ some nb7 = some nb7 ∧ some (nBox 11) = some (nBox 11) ∧ renO (sig [(9, 9),
 (10, 10), (11, 11), (12, 12), (13, 13), (14, 14), (15, 15), (16, 16), (17, 17), (18, 18), (19, 19), (20, 20), (21, 23)]) (AObj.blk (Blk.mk (List.map iv
 ids) (ids.length * 1) 1 3 false false 0 true)) = some (AObj.blk (Blk.mk (List.map iv ids) (ids.length * 1) 1 3 false false 0 true)) ∧ some (AObj.blk
 (Blk.mk [Value.int IntKind.i64 (↑d : Int)] 1 1 3 false false 0 true)) = some (AObj.blk (Blk.mk [Value.int IntKind.i64 (↑d : Int)] 1 1 3 false false 0
 true)) ∧ Q AExit.normal [(0, Value.slice (some (Addr.mk 510 0 none)) n cp), (8, Value.pointer (some (Addr.mk 9 0 none))), (9, Value.pointer (some
 (Addr.mk 19 0 none))), (10, Value.slice (some (Addr.mk 20 0 none)) ids.length ids.length), (11, Value.int IntKind.i64 (↑(last + 1) : Int)), (12,
 Value.int IntKind.i64 (↑i : Int)), (17, Value.slice (some (Addr.mk 21 0 none)) 1 1), (18, Value.int IntKind.i64 (↑(k + 1) : Int))] [(9, AObj.blk
 (Blk.mk [Value.int IntKind.i64 (↑last : Int), Value.map (some 10)] 2 1 62 true true 0 true)), (10, AObj.map (ents ids) last), (11, nb0), (12, nb1),
 (13, nb2 11), (14, nb3), (15, nb4), (16, nb5), (17, nb6), (18, nb7), (19, nBox 11), (20, AObj.blk (Blk.mk (List.map iv ids) (ids.length * 1) 1 3 false
 false 0 true)), (21, AObj.blk (Blk.mk [Value.int IntKind.i64 (↑d : Int)] 1 1 3 false false 0 true))] 22) ∧ (((↑d : Int) != y) = false → Value.int
 IntKind.i64 (IntKind.i64.wrap ((↑k : Int) + 1)) = Value.int IntKind.i64 (↑(k + 1) : Int) ∧ true = true ∧ 202 = 202 ∧ true = true ∧ z = z ∧ some
 (Value.slice (some (Addr.mk 510 0 none)) n cp) = some (Value.slice (some (Addr.mk 510 0 none)) n cp) ∧ some (Value.pointer (some (Addr.mk 9 0 none))) =
 some (Value.pointer (some (Addr.mk 9 0 none))) ∧ some (Value.pointer (some (Addr.mk 19 0 none))) = some (Value.pointer (some (Addr.mk 19 0 none))) ∧
 some (Value.slice (some (Addr.mk 20 0 none)) ids.length ids.length) = some (Value.slice (some (Addr.mk 20 0 none)) ids.length ids.length) ∧ some
 (Value.int IntKind.i64 (↑(last + 1) : Int)) = some (Value.int IntKind.i64 (↑(last + 1) : Int)) ∧ some (Value.int IntKind.i64 (↑i : Int)) = some
 (Value.int IntKind.i64 (↑i : Int)) ∧ some (Value.slice none 0 0) = some (Value.slice none 0 0) ∧ some (Value.int IntKind.i64 (↑(k + 1) : Int)) = some
 (Value.int IntKind.i64 (↑(k + 1) : Int)) ∧ some (AObj.blk (Blk.mk [Value.int IntKind.i64 (↑last : Int), Value.map (some 10)] 2 1 62 true true 0 true))
 = some (AObj.blk (Blk.mk [Value.int IntKind.i64 (↑last : Int), Value.map (some 10)] 2 1 62 true true 0 true)) ∧ renO (sig [(9, 9), (10, 10), (11, 11),
 (12, 12), (13, 13), (14, 14), (15, 15), (16, 16), (17, 17), (18, 18), (19, 19), (20, 20)]) (AObj.map (ents ids) last) = some (AObj.map (ents ids) last)
 ∧ some nb0 = some nb0 ∧ some nb1 = some nb1 ∧ some (nb2 11) = some (nb2 11) ∧ some nb3 = some nb3 ∧ some nb4 = some nb4 ∧ some nb5 = some nb5 ∧ some
 nb6 = some nb6 ∧ some nb7 = some nb7 ∧ some (nBox 11) = some (nBox 11) ∧ renO (sig [(9, 9), (10, 10), (11, 11), (12, 12), (13, 13), (14, 14), (15, 15),
 (16, 16), (17, 17), (18, 18), (19, 19), (20, 20)]) (AObj.blk (Blk.mk (List.map iv ids) (ids.length * 1) 1 3 false false 0 true)) = some (AObj.blk
 (Blk.mk (List.map iv ids) (ids.length * 1) 1 3 false false 0 true)) ∧ Q AExit.normal [(0, Value.slice (some (Addr.mk 510 0 none)) n cp), (8,
 Value.pointer (some (Addr.mk 9 0 none))), (9, Value.pointer (some (Addr.mk 19 0 none))), (10, Value.slice (some (Addr.mk 20 0 none)) ids.length
 ids.length), (11, Value.int IntKind.i64 (↑(last + 1) : Int)), (12, Value.int IntKind.i64 (↑i : Int)), (17, Value.slice none 0 0), (18, Value.int
 IntKind.i64 (↑(k + 1) : Int))] [(9, AObj.blk (Blk.mk [Value.int IntKind.i64 (↑last : Int), Value.map (some 10)] 2 1 62 true true 0 true)), (10,
 AObj.map (ents ids) last), (11, nb0), (12, nb1), (13, nb2 11), (14, nb3), (15, nb4), (16, nb5), (17, nb6), (18, nb7), (19, nBox 11), (20, AObj.blk
 (Blk.mk (List.map iv ids) (ids.length * 1) 1 3 false false 0 true))] 22)) ∧ (decide ((↑k : Int) < (↑ids.length : Int)) = false → true = true ∧ 202 =
 202 ∧ true = true ∧ z = z ∧ some (Value.slice (some (Addr.mk 510 0 none)) n cp) = some (Value.slice (some (Addr.mk 510 0 none)) n cp) ∧ some
 (Value.pointer (some (Addr.mk 9 0 none))) = some (Value.pointer (some (Addr.mk 9 0 none))) ∧ some (Value.pointer (some (Addr.mk 19 0 none))) = some
 (Value.pointer (some (Addr.mk 19 0 none))) ∧ some (Value.slice (some (Addr.mk 20 0 none)) ids.length ids.length) = some (Value.slice (some (Addr.mk 20
 0 none)) ids.length ids.length) ∧ some (Value.int IntKind.i64 (↑(last + 1) : Int)) = some (Value.int IntKind.i64 (↑(last + 1) : Int)) ∧ some (Value.int
 IntKind.i64 (↑i : Int)) = some (Value.int IntKind.i64 (↑i : Int)) ∧ some (Value.slice none 0 0) = some (Value.slice none 0 0) ∧ some (AObj.blk (Blk.mk
 [Value.int IntKind.i64 (↑last : Int), Value.map (some 10)] 2 1 62 true true 0 true)) = some (AObj.blk (Blk.mk [Value.int IntKind.i64 (↑last : Int),
 Value.map (some 10)] 2 1 62 true true 0 true)) ∧ renO (sig [(9, 9), (10, 10), (11, 11), (12, 12), (13, 13), (14, 14), (15, 15), (16, 16), (17, 17),
 (18, 18), (19, 19), (20, 20)]) (AObj.map (ents ids) last) = some (AObj.map (ents ids) last) ∧ some nb0 = some nb0 ∧ some nb1 = some nb1 ∧ some (nb2 11)
 = some (nb2 11) ∧ some nb3 = some nb3 ∧ some nb4 = some nb4 ∧ some nb5 = some nb5 ∧ some nb6 = some nb6 ∧ some nb7 = some nb7 ∧ some (nBox 11) = some
 (nBox 11) ∧ renO (sig [(9, 9), (10, 10), (11, 11), (12, 12), (13, 13), (14, 14), (15, 15), (16, 16), (17, 17), (18, 18), (19, 19), (20, 20)]) (AObj.blk
 (Blk.mk (List.map iv ids) (ids.length * 1) 1 3 false false 0 true)) = some (AObj.blk (Blk.mk (List.map iv ids) (ids.length * 1) 1 3 false false 0
 true)) ∧ Q (AExit.exit 3) [(0, Value.slice (some (Addr.mk 510 0 none)) n cp), (8, Value.pointer (some (Addr.mk 9 0 none))), (9, Value.pointer (some
 (Addr.mk 19 0 none))), (10, Value.slice (some (Addr.mk 20 0 none)) ids.length ids.length), (11, Value.int IntKind.i64 (↑(last + 1) : Int)), (12,
 Value.int IntKind.i64 (↑i : Int)), (17, Value.slice none 0 0)] [(9, AObj.blk (Blk.mk [Value.int IntKind.i64 (↑last : Int), Value.map (some 10)] 2 1 62
 true true 0 true)), (10, AObj.map (ents ids) last), (11, nb0), (12, nb1), (13, nb2 11), (14, nb3), (15, nb4), (16, nb5), (17, nb6), (18, nb7), (19,
 nBox 11), (20, AObj.blk (Blk.mk (List.map iv ids) (ids.length * 1) 1 3 false false 0 true))] 22)) : ∃ t, codeT Tryz.prog g z 100 (loopN (loopN (bodyOf Tryz.f3) 0) 1) (mkFr 202 (lvL n cp (sl 20 ids.length) nilS last i k)) (mkHs z (zn3r last ids) 22) (finK z 21 202 Q) t := ⟨ (Tr.auto 1 (Tr.one (An.idx k) (Tr.one (An.ldo (iv d)) (Tr.one (An.idx i) (Tr.one (An.ld 0 kl (Value.int IntKind.i64 y)) ((Tr.auto 1 (Tr.one (An.idx k)
 (Tr.one (An.ldo (iv d)) (Tr.auto 1 (Tr.one (An.val (Value.int IntKind.i64 (↑(k + 1) : Int))) (Tr.fin [(9, 9), (10, 10), (11, 11), (12, 12), (13, 13),
 (14, 14), (15, 15), (16, 16), (17, 17), (18, 18), (19, 19), (20, 20), (21, 23)] [(0, Value.slice (some (Addr.mk 510 0 none)) n cp), (8, Value.pointer
 (some (Addr.mk 9 0 none))), (9, Value.pointer (some (Addr.mk 19 0 none))), (10, Value.slice (some (Addr.mk 20 0 none)) ids.length ids.length), (11,
 Value.int IntKind.i64 (↑(last + 1) : Int)), (12, Value.int IntKind.i64 (↑i : Int)), (17, Value.slice (some (Addr.mk 21 0 none)) 1 1), (18, Value.int
 IntKind.i64 (↑(k + 1) : Int))] [(9, AObj.blk (Blk.mk [Value.int IntKind.i64 (↑last : Int), Value.map (some 10)] 2 1 62 true true 0 true)), (10,
 AObj.map (ents ids) last), (11, nb0), (12, nb1), (13, nb2 11), (14, nb3), (15, nb4), (16, nb5), (17, nb6), (18, nb7), (19, nBox 11), (20, AObj.blk
 (Blk.mk (List.map iv ids) (ids.length * 1) 1 3 false false 0 true)), (21, AObj.blk (Blk.mk [Value.int IntKind.i64 (↑d : Int)] 1 1 3 false false 0
 true))] 22)))))).fork (Tr.auto 1 (Tr.one (An.val (Value.int IntKind.i64 (↑(k + 1) : Int))) (Tr.fin [(9, 9), (10, 10), (11, 11), (12, 12), (13, 13),
 (14, 14), (15, 15), (16, 16), (17, 17), (18, 18), (19, 19), (20, 20)] [(0, Value.slice (some (Addr.mk 510 0 none)) n cp), (8, Value.pointer (some
 (Addr.mk 9 0 none))), (9, Value.pointer (some (Addr.mk 19 0 none))), (10, Value.slice (some (Addr.mk 20 0 none)) ids.length ids.length), (11, Value.int
 IntKind.i64 (↑(last + 1) : Int)), (12, Value.int IntKind.i64 (↑i : Int)), (17, Value.slice none 0 0), (18, Value.int IntKind.i64 (↑(k + 1) : Int))]
 [(9, AObj.blk (Blk.mk [Value.int IntKind.i64 (↑last : Int), Value.map (some 10)] 2 1 62 true true 0 true)), (10, AObj.map (ents ids) last), (11, nb0),
 (12, nb1), (13, nb2 11), (14, nb3), (15, nb4), (16, nb5), (17, nb6), (18, nb7), (19, nBox 11), (20, AObj.blk (Blk.mk (List.map iv ids) (ids.length * 1)
 1 3 false false 0 true))] 22))))))))).fork (Tr.auto 1 (Tr.fin [(9, 9), (10, 10), (11, 11), (12, 12), (13, 13), (14, 14), (15, 15), (16, 16), (17, 17),
 (18, 18), (19, 19), (20, 20)] [(0, Value.slice (some (Addr.mk 510 0 none)) n cp), (8, Value.pointer (some (Addr.mk 9 0 none))), (9, Value.pointer (some
 (Addr.mk 19 0 none))), (10, Value.slice (some (Addr.mk 20 0 none)) ids.length ids.length), (11, Value.int IntKind.i64 (↑(last + 1) : Int)), (12,
 Value.int IntKind.i64 (↑i : Int)), (17, Value.slice none 0 0)] [(9, AObj.blk (Blk.mk [Value.int IntKind.i64 (↑last : Int), Value.map (some 10)] 2 1 62
 true true 0 true)), (10, AObj.map (ents ids) last), (11, nb0), (12, nb1), (13, nb2 11), (14, nb3), (15, nb4), (16, nb5), (17, nb6), (18, nb7), (19,
 nBox 11), (20, AObj.blk (Blk.mk (List.map iv ids) (ids.length * 1) 1 3 false false 0 true))] 22)),
 Eq.mp (by kernel_rfl) hyp⟩

set_option maxRecDepth 1000000 in
theorem rLm (z : T AObj) (g : Nat → List Value → Option Value) (n : Nat) (cp : Nat) (last : Nat) (i : Nat) (k : Nat) (d : Nat) (ids : List Nat) (m : List Nat) (y : Int) (kl : Blk) (Q : AExit → Live → Zone → Nat → Prop) (hyp :
   (decide ((↑k : Int) < (↑ids.length : Int)) = true → (↑k : Int) = (↑k : Int) ∧ k < ids.length ∧ readB Tryz.prog (Blk.mk (List.map iv ids) (ids.length *
 1) 1 3 false false 0 true) 3 (0 + k * 1) = some (Value.int IntKind.i64 (↑d : Int)) ∧ (↑i : Int) = (↑i : Int) ∧ i < n ∧ 510 = 510 ∧ z.get 0 = some
 (AObj.blk kl) ∧ readB Tryz.prog kl 3 (0 + i * 1) = some (Value.int IntKind.i64 y) ∧ (((↑d : Int) != y) = true → (↑k : Int) = (↑k : Int) ∧ k <
 ids.length ∧ readB Tryz.prog (Blk.mk (List.map iv ids) (ids.length * 1) 1 3 false false 0 true) 3 (0 + k * 1) = some (Value.int IntKind.i64 (↑d : Int))
 ∧ some [Value.int IntKind.i64 (↑d : Int)] = some [Value.int IntKind.i64 (↑d : Int)] ∧ m.length = m.length ∧ (List.map iv m).length = m.length * 1 ∧
 m.length * 1 = m.length * 1 ∧ m.length + 1 ≤ 1048576 ∧ Value.int IntKind.i64 (IntKind.i64.wrap ((↑k : Int) + 1)) = Value.int IntKind.i64 (↑(k + 1) :
 Int) ∧ true = true ∧ 202 = 202 ∧ true = true ∧ z = z ∧ some (Value.slice (some (Addr.mk 510 0 none)) n cp) = some (Value.slice (some (Addr.mk 510 0
 none)) n cp) ∧ some (Value.pointer (some (Addr.mk 9 0 none))) = some (Value.pointer (some (Addr.mk 9 0 none))) ∧ some (Value.pointer (some (Addr.mk 19
 0 none))) = some (Value.pointer (some (Addr.mk 19 0 none))) ∧ some (Value.slice (some (Addr.mk 20 0 none)) ids.length ids.length) = some (Value.slice
 (some (Addr.mk 20 0 none)) ids.length ids.length) ∧ some (Value.int IntKind.i64 (↑(last + 1) : Int)) = some (Value.int IntKind.i64 (↑(last + 1) : Int))
 ∧ some (Value.int IntKind.i64 (↑i : Int)) = some (Value.int IntKind.i64 (↑i : Int)) ∧ some (Value.slice (some (Addr.mk 23 0 none)) (m.length + 1)
 (m.length + 1)) = some (Value.slice (some (Addr.mk 23 0 none)) (m.length + 1) (m.length + 1)) ∧ some (Value.int IntKind.i64 (↑(k + 1) : Int)) = some
 (Value.int IntKind.i64 (↑(k + 1) : Int)) ∧ some (AObj.blk (Blk.mk [Value.int IntKind.i64 (↑last : Int), Value.map (some 10)] 2 1 62 true true 0 true))
 = some (AObj.blk (Blk.mk [Value.int IntKind.i64 (↑last : Int), Value.map (some 10)] 2 1 62 true true 0 true)) ∧ renO (sig [(9, 9), (10, 10), (11, 11),
 (12, 12), (13, 13), (14, 14), (15, 15), (16, 16), (17, 17), (18, 18), (19, 19), (20, 20), (21, 23)]) (AObj.map (ents ids) last) = some (AObj.map (ents
 ids) last) ∧ some nb0 = some nb0 ∧ some nb1 = some nb1 ∧ some (nb2 11) = some (nb2 11) ∧ some nb3 = some nb3 ∧ some nb4 = some nb4 ∧ some nb5 = some
 nb5 ∧ some nb6 = some nb6 ∧ some nb7 = some nb7 ∧ some (nBox 11) = some (nBox 11) ∧ renO (sig [(9, 9), (10, 10), (11, 11), (12, 12), (13, 13), (14,
 14), (15, 15), (16, 16), (17, 17), (18, 18), (19, 19), (20, 20), (21, 23)]) (AObj.blk (Blk.mk (List.map iv ids) (ids.length * 1) 1 3 false false 0
 true)) = some (AObj.blk (Blk.mk (List.map iv ids) (ids.length * 1) 1 3 false false 0 true)) ∧ renO (sig [(9, 9), (10, 10), (11, 11), (12, 12), (13,
 13), (14, 14), (15, 15), (16, 16), (17, 17), (18, 18), (19, 19), (20, 20), (21, 23)]) (AObj.blk (Blk.mk (List.map iv m ++ [Value.int IntKind.i64 (↑d :
 Int)]) ((m.length + 1) * 1) 1 3 false false 0 true)) = some (AObj.blk (Blk.mk (List.map iv m ++ [Value.int IntKind.i64 (↑d : Int)]) ((m.length + 1) *
 1) 1 3 false false 0 true)) ∧ Q AExit.normal [(0, Value.slice (some (Addr.mk 510 0 none)) n cp), (8, Value.pointer (some (Addr.mk 9 0 none))), (9,
 Value.pointer (some (Addr.mk 19 0 none))), (10, Value.slice (some (Addr.mk 20 0 none)) ids.length ids.length), (11, Value.int IntKind.i64 (↑(last + 1)
 : Int)), (12, Value.int IntKind.i64 (↑i : Int)), (17, Value.slice (some (Addr.mk 21 0 none)) (m.length + 1) (m.length + 1)), (18, Value.int IntKind.i64
 (↑(k + 1) : Int))] [(9, AObj.blk (Blk.mk [Value.int IntKind.i64 (↑last : Int), Value.map (some 10)] 2 1 62 true true 0 true)), (10, AObj.map (ents ids)
 last), (11, nb0), (12, nb1), (13, nb2 11), (14, nb3), (15, nb4), (16, nb5), (17, nb6), (18, nb7), (19, nBox 11), (20, AObj.blk (Blk.mk (List.map iv
 ids) (ids.length * 1) 1 3 false false 0 true)), (21, AObj.blk (Blk.mk (List.map iv m ++ [Value.int IntKind.i64 (↑d : Int)]) ((m.length + 1) * 1) 1 3
 false false 0 true))] 22) ∧ (((↑d : Int) != y) = false → Value.int IntKind.i64 (IntKind.i64.wrap ((↑k : Int) + 1)) = Value.int IntKind.i64 (↑(k + 1) :
 Int) ∧ true = true ∧ 202 = 202 ∧ true = true ∧ z = z ∧ some (Value.slice (some (Addr.mk 510 0 none)) n cp) = some (Value.slice (some (Addr.mk 510 0
 none)) n cp) ∧ some (Value.pointer (some (Addr.mk 9 0 none))) = some (Value.pointer (some (Addr.mk 9 0 none))) ∧ some (Value.pointer (some (Addr.mk 19
 0 none))) = some (Value.pointer (some (Addr.mk 19 0 none))) ∧ some (Value.slice (some (Addr.mk 20 0 none)) ids.length ids.length) = some (Value.slice
 (some (Addr.mk 20 0 none)) ids.length ids.length) ∧ some (Value.int IntKind.i64 (↑(last + 1) : Int)) = some (Value.int IntKind.i64 (↑(last + 1) : Int))
 ∧ some (Value.int IntKind.i64 (↑i : Int)) = some (Value.int IntKind.i64 (↑i : Int)) ∧ some (Value.slice (some (Addr.mk 21 0 none)) m.length m.length) =
 some (Value.slice (some (Addr.mk 21 0 none)) m.length m.length) ∧ some (Value.int IntKind.i64 (↑(k + 1) : Int)) = some (Value.int IntKind.i64 (↑(k + 1)
 : Int)) ∧ some (AObj.blk (Blk.mk [Value.int IntKind.i64 (↑last : Int), Value.map (some 10)] 2 1 62 true true 0 true)) = some (AObj.blk (Blk.mk
 [Value.int IntKind.i64 (↑last : Int), Value.map (some 10)] 2 1 62 true true 0 true)) ∧ renO (sig [(9, 9), (10, 10), (11, 11), (12, 12), (13, 13), (14,
 14), (15, 15), (16, 16), (17, 17), (18, 18), (19, 19), (20, 20), (21, 21)]) (AObj.map (ents ids) last) = some (AObj.map (ents ids) last) ∧ some nb0 =
 some nb0 ∧ some nb1 = some nb1 ∧ some (nb2 11) = some (nb2 11) ∧ some nb3 = some nb3 ∧ some nb4 = some nb4 ∧ some nb5 = some nb5 ∧ some nb6 = some nb6
 ∧ some nb7 = some nb7 ∧ some (nBox 11) = some (nBox 11) ∧ renO (sig [(9, 9), (10, 10), (11, 11), (12, 12), (13, 13), (14, 14), (15, 15), (16, 16), (17,
 17), (18, 18), (19, 19), (20, 20), (21, 21)]) (AObj.blk (Blk.mk (List.map iv ids) (ids.length * 1) 1 3 false false 0 true)) = some (AObj.blk (Blk.mk
 (List.map iv ids) (ids.length * 1) 1 3 false false 0 true)) ∧ renO (sig [(9, 9), (10, 10), (11, 11), (12, 12), (13, 13), (14, 14), (15, 15), (16, 16),
 (17, 17), (18, 18), (19, 19), (20, 20), (21, 21)]) (AObj.blk (Blk.mk (List.map iv m) (m.length * 1) 1 3 false false 0 true)) = some (AObj.blk (Blk.mk
 (List.map iv m) (m.length * 1) 1 3 false false 0 true)) ∧ Q AExit.normal [(0, Value.slice (some (Addr.mk 510 0 none)) n cp), (8, Value.pointer (some
 (Addr.mk 9 0 none))), (9, Value.pointer (some (Addr.mk 19 0 none))), (10, Value.slice (some (Addr.mk 20 0 none)) ids.length ids.length), (11, Value.int
 IntKind.i64 (↑(last + 1) : Int)), (12, Value.int IntKind.i64 (↑i : Int)), (17, Value.slice (some (Addr.mk 21 0 none)) m.length m.length), (18,
 Value.int IntKind.i64 (↑(k + 1) : Int))] [(9, AObj.blk (Blk.mk [Value.int IntKind.i64 (↑last : Int), Value.map (some 10)] 2 1 62 true true 0 true)),
 (10, AObj.map (ents ids) last), (11, nb0), (12, nb1), (13, nb2 11), (14, nb3), (15, nb4), (16, nb5), (17, nb6), (18, nb7), (19, nBox 11), (20, AObj.blk
 (Blk.mk (List.map iv ids) (ids.length * 1) 1 3 false false 0 true)), (21, AObj.blk (Blk.mk (List.map iv m) (m.length * 1) 1 3 false false 0 true))]
 22)) ∧ (decide ((↑k : Int) < (↑ids.length : Int)) = false → true = true ∧ 202 = 202 ∧ true = true ∧ z = z ∧ some (Value.slice (some (Addr.mk 510 0
 none)) n cp) = some (Value.slice (some (Addr.mk 510 0 none)) n cp) ∧ some (Value.pointer (some (Addr.mk 9 0 none))) = some (Value.pointer (some
 (Addr.mk 9 0 none))) ∧ some (Value.pointer (some (Addr.mk 19 0 none))) = some (Value.pointer (some (Addr.mk 19 0 none))) ∧ some (Value.slice (some
 (Addr.mk 20 0 none)) ids.length ids.length) = some (Value.slice (some (Addr.mk 20 0 none)) ids.length ids.length) ∧ some (Value.int IntKind.i64 (↑(last
 + 1) : Int)) = some (Value.int IntKind.i64 (↑(last + 1) : Int)) ∧ some (Value.int IntKind.i64 (↑i : Int)) = some (Value.int IntKind.i64 (↑i : Int)) ∧
 some (Value.slice (some (Addr.mk 21 0 none)) m.length m.length) = some (Value.slice (some (Addr.mk 21 0 none)) m.length m.length) ∧ some (AObj.blk
 (Blk.mk [Value.int IntKind.i64 (↑last : Int), Value.map (some 10)] 2 1 62 true true 0 true)) = some (AObj.blk (Blk.mk [Value.int IntKind.i64 (↑last :
 Int), Value.map (some 10)] 2 1 62 true true 0 true)) ∧ renO (sig [(9, 9), (10, 10), (11, 11), (12, 12), (13, 13), (14, 14), (15, 15), (16, 16), (17,
 17), (18, 18), (19, 19), (20, 20), (21, 21)]) (AObj.map (ents ids) last) = some (AObj.map (ents ids) last) ∧ some nb0 = some nb0 ∧ some nb1 = some nb1
 ∧ some (nb2 11) = some (nb2 11) ∧ some nb3 = some nb3 ∧ some nb4 = some nb4 ∧ some nb5 = some nb5 ∧ some nb6 = some nb6 ∧ some nb7 = some nb7 ∧ some
 (nBox 11) = some (nBox 11) ∧ renO (sig [(9, 9), (10, 10), (11, 11), (12, 12), (13, 13), (14, 14), (15, 15), (16, 16), (17, 17), (18, 18), (19, 19),
 (20, 20), (21, 21)]) (AObj.blk (Blk.mk (List.map iv ids) (ids.length * 1) 1 3 false false 0 true)) = some (AObj.blk (Blk.mk (List.map iv ids)
 (ids.length * 1) 1 3 false false 0 true)) ∧ renO (sig [(9, 9), (10, 10), (11, 11), (12, 12), (13, 13), (14, 14), (15, 15), (16, 16), (17, 17), (18,
 18), (19, 19), (20, 20), (21, 21)]) (AObj.blk (Blk.mk (List.map iv m) (m.length * 1) 1 3 false false 0 true)) = some (AObj.blk (Blk.mk (List.map iv m)
 (m.length * 1) 1 3 false false 0 true)) ∧ Q (AExit.exit 3) [(0, Value.slice (some (Addr.mk 510 0 none)) n cp), (8, Value.pointer (some (Addr.mk 9 0
 none))), (9, Value.pointer (some (Addr.mk 19 0 none))), (10, Value.slice (some (Addr.mk 20 0 none)) ids.length ids.length), (11, Value.int IntKind.i64
 (↑(last + 1) : Int)), (12, Value.int IntKind.i64 (↑i : Int)), (17, Value.slice (some (Addr.mk 21 0 none)) m.length m.length)] [(9, AObj.blk (Blk.mk
 [Value.int IntKind.i64 (↑last : Int), Value.map (some 10)] 2 1 62 true true 0 true)), (10, AObj.map (ents ids) last), (11, nb0), (12, nb1), (13, nb2
 11), (14, nb3), (15, nb4), (16, nb5), (17, nb6), (18, nb7), (19, nBox 11), (20, AObj.blk (Blk.mk (List.map iv ids) (ids.length * 1) 1 3 false false 0
 true)), (21, AObj.blk (Blk.mk (List.map iv m) (m.length * 1) 1 3 false false 0 true))] 22)) : ∃ t, codeT Tryz.prog g z 100 (loopN (loopN (bodyOf Tryz.f3) 0) 1) (mkFr 202 (lvL n cp (sl 20 ids.length) (sl 21 m.length) last i k)) (mkHs z (znL last ids m) 22) (finK z 21 202 Q) t := ⟨ (Tr.auto 1 (Tr.one (An.idx k) (Tr.one (An.ldo (iv d)) (Tr.one (An.idx i) (Tr.one (An.ld 0 kl (Value.int IntKind.i64 y)) ((Tr.auto 1 (Tr.one (An.idx k)
 (Tr.one (An.ldo (iv d)) (Tr.x (AnX.grow 1 [Value.int IntKind.i64 (↑d : Int)]) (Tr.one (An.val (Value.int IntKind.i64 (↑(k + 1) : Int))) (Tr.fin [(9,
 9), (10, 10), (11, 11), (12, 12), (13, 13), (14, 14), (15, 15), (16, 16), (17, 17), (18, 18), (19, 19), (20, 20), (21, 23)] [(0, Value.slice (some
 (Addr.mk 510 0 none)) n cp), (8, Value.pointer (some (Addr.mk 9 0 none))), (9, Value.pointer (some (Addr.mk 19 0 none))), (10, Value.slice (some
 (Addr.mk 20 0 none)) ids.length ids.length), (11, Value.int IntKind.i64 (↑(last + 1) : Int)), (12, Value.int IntKind.i64 (↑i : Int)), (17, Value.slice
 (some (Addr.mk 21 0 none)) (m.length + 1) (m.length + 1)), (18, Value.int IntKind.i64 (↑(k + 1) : Int))] [(9, AObj.blk (Blk.mk [Value.int IntKind.i64
 (↑last : Int), Value.map (some 10)] 2 1 62 true true 0 true)), (10, AObj.map (ents ids) last), (11, nb0), (12, nb1), (13, nb2 11), (14, nb3), (15,
 nb4), (16, nb5), (17, nb6), (18, nb7), (19, nBox 11), (20, AObj.blk (Blk.mk (List.map iv ids) (ids.length * 1) 1 3 false false 0 true)), (21, AObj.blk
 (Blk.mk (List.map iv m ++ [Value.int IntKind.i64 (↑d : Int)]) ((m.length + 1) * 1) 1 3 false false 0 true))] 22)))))).fork (Tr.auto 1 (Tr.one (An.val
 (Value.int IntKind.i64 (↑(k + 1) : Int))) (Tr.fin [(9, 9), (10, 10), (11, 11), (12, 12), (13, 13), (14, 14), (15, 15), (16, 16), (17, 17), (18, 18),
 (19, 19), (20, 20), (21, 21)] [(0, Value.slice (some (Addr.mk 510 0 none)) n cp), (8, Value.pointer (some (Addr.mk 9 0 none))), (9, Value.pointer (some
 (Addr.mk 19 0 none))), (10, Value.slice (some (Addr.mk 20 0 none)) ids.length ids.length), (11, Value.int IntKind.i64 (↑(last + 1) : Int)), (12,
 Value.int IntKind.i64 (↑i : Int)), (17, Value.slice (some (Addr.mk 21 0 none)) m.length m.length), (18, Value.int IntKind.i64 (↑(k + 1) : Int))] [(9,
 AObj.blk (Blk.mk [Value.int IntKind.i64 (↑last : Int), Value.map (some 10)] 2 1 62 true true 0 true)), (10, AObj.map (ents ids) last), (11, nb0), (12,
 nb1), (13, nb2 11), (14, nb3), (15, nb4), (16, nb5), (17, nb6), (18, nb7), (19, nBox 11), (20, AObj.blk (Blk.mk (List.map iv ids) (ids.length * 1) 1 3
 false false 0 true)), (21, AObj.blk (Blk.mk (List.map iv m) (m.length * 1) 1 3 false false 0 true))] 22))))))))).fork (Tr.auto 1 (Tr.fin [(9, 9), (10,
 10), (11, 11), (12, 12), (13, 13), (14, 14), (15, 15), (16, 16), (17, 17), (18, 18), (19, 19), (20, 20), (21, 21)] [(0, Value.slice (some (Addr.mk 510
 0 none)) n cp), (8, Value.pointer (some (Addr.mk 9 0 none))), (9, Value.pointer (some (Addr.mk 19 0 none))), (10, Value.slice (some (Addr.mk 20 0
 none)) ids.length ids.length), (11, Value.int IntKind.i64 (↑(last + 1) : Int)), (12, Value.int IntKind.i64 (↑i : Int)), (17, Value.slice (some (Addr.mk
 21 0 none)) m.length m.length)] [(9, AObj.blk (Blk.mk [Value.int IntKind.i64 (↑last : Int), Value.map (some 10)] 2 1 62 true true 0 true)), (10,
 AObj.map (ents ids) last), (11, nb0), (12, nb1), (13, nb2 11), (14, nb3), (15, nb4), (16, nb5), (17, nb6), (18, nb7), (19, nBox 11), (20, AObj.blk
 (Blk.mk (List.map iv ids) (ids.length * 1) 1 3 false false 0 true)), (21, AObj.blk (Blk.mk (List.map iv m) (m.length * 1) 1 3 false false 0 true))]
 22)),
 Eq.mp (by kernel_rfl) hyp⟩

end Go.Proofs.Wc
