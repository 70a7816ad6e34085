/-
  A part of the proof: lemmas of my own.
-/
import Derived.Test.YtaoccildanienaaGreatWcz
import Derived.KernelRfl
set_option linter.unusedVariables false
set_option linter.unusedSimpArgs false
namespace Go.Proofs.Wc
open Go Go.AV
set_option linter.unusedVariables false

set_option maxRecDepth 1000000 in
theorem r3n (z : T AObj) (g : Nat → List Value → Option Value) (n : Nat) (cp : Nat) (last : Nat) (i : Nat) (y : Int) (kl : Blk) (Q : AExit → Live → Zone → Nat → Prop) (hyp :
   (decide ((↑i : Int) < (↑n : Int)) = true → (↑i : Int) = (↑i : Int) ∧ i < n ∧ 510 = 510 ∧ z.get 0 = some (AObj.blk kl) ∧ readB Tryz.prog kl 3 (0 + i *
 1) = some (Value.int IntKind.i64 y) ∧ ((y == 0) = true → z = z ∧ (CallA Tryz.prog z 4 [Value.pointer (some (Addr.mk 0 0 none)), nV 2, Value.agg
 (Array.mk [I 1, I 1, I 0, F0, I 0, I 0, F0, F0, I 0, F0]), Value.agg (Array.mk [Value.slice none 0 0])] [(0, AObj.blk (Blk.mk [Value.int IntKind.i64
 (↑last : Int), Value.map (some 1)] 2 1 62 true true 0 true)), (1, AObj.map [] last), (2, nb0), (3, nb1), (4, nb2 2), (5, nb3), (6, nb4), (7, nb5), (8,
 nb6), (9, nb7)] 10 10 (fun (x : Unit) => True) (fun (x : Unit) => Value.tuple (Array.mk [iv (last + 1), I 0])) fun (x : Unit) => (0, wst (last + 1) 1)
 :: (1, AObj.map (ents ([] ++ [last + 1])) (last + 1)) :: nZ 2) ∧ some [Value.pointer (some (Addr.mk 9 0 none)), nV 11, Value.agg (Array.mk [I 1, I 1, I
 0, F0, I 0, I 0, F0, F0, I 0, F0]), Value.agg (Array.mk [Value.slice none 0 0])] = some [Value.pointer (some (Addr.mk 9 0 none)), nV 11, Value.agg
 (Array.mk [I 1, I 1, I 0, F0, I 0, I 0, F0, F0, I 0, F0]), Value.agg (Array.mk [Value.slice none 0 0])] ∧ some (AObj.blk (Blk.mk [Value.int IntKind.i64
 (↑last : Int), Value.map (some 10)] 2 1 62 true true 0 true)) = some (AObj.blk (Blk.mk [Value.int IntKind.i64 (↑last : Int), Value.map (some 10)] 2 1
 62 true true 0 true)) ∧ some (AObj.map [] last) = some (AObj.map [] last) ∧ some nb0 = some nb0 ∧ some nb1 = some nb1 ∧ some (nb2 11) = some (nb2 11) ∧
 some nb3 = some nb3 ∧ some nb4 = some nb4 ∧ some nb5 = some nb5 ∧ some nb6 = some nb6 ∧ some nb7 = some nb7 ∧ ∀ (x : Unit), True → some (Value.tuple
 (Array.mk [Value.int IntKind.i64 (↑(last + 1) : Int), I 0])) = some (Value.tuple (Array.mk [Value.int IntKind.i64 (↑(last + 1) : Int), I 0])) ∧ some
 (AObj.blk (Blk.mk [Value.int IntKind.i64 (↑(last + 1) : Int), Value.map (some 1)] 2 1 62 true true 0 true)) = some (AObj.blk (Blk.mk [Value.int
 IntKind.i64 (↑(last + 1) : Int), Value.map (some 1)] 2 1 62 true true 0 true)) ∧ some (AObj.map [MapEntry.mk (Value.int IntKind.i64 (↑(last + 1) :
 Int)) fV (last + 1 - 1)] (last + 1)) = some (AObj.map [MapEntry.mk (Value.int IntKind.i64 (↑(last + 1) : Int)) fV (last + 1 - 1)] (last + 1)) ∧ some
 nb0 = some nb0 ∧ some nb1 = some nb1 ∧ some (nb2 2) = some (nb2 2) ∧ some nb3 = some nb3 ∧ some nb4 = some nb4 ∧ some nb5 = some nb5 ∧ some nb6 = some
 nb6 ∧ some nb7 = some nb7 ∧ (((↑(last + 1) : Int) != (↑(last + 1) : Int)) = true → true = true ∧ 202 = 202 ∧ true = true ∧ z = z ∧ some F0 = some F0 ∧
 some (AObj.blk (Blk.mk [Value.int IntKind.i64 (↑(last + 1) : Int), Value.map (some 10)] 2 1 62 true true 0 true)) = some (AObj.blk (Blk.mk [Value.int
 IntKind.i64 (↑(last + 1) : Int), Value.map (some 10)] 2 1 62 true true 0 true)) ∧ some (AObj.map [MapEntry.mk (Value.int IntKind.i64 (↑(last + 1) :
 Int)) fV (last + 1 - 1)] (last + 1)) = some (AObj.map [MapEntry.mk (Value.int IntKind.i64 (↑(last + 1) : Int)) fV (last + 1 - 1)] (last + 1)) ∧ some
 nb0 = some nb0 ∧ some nb1 = some nb1 ∧ some (nb2 11) = some (nb2 11) ∧ some nb3 = some nb3 ∧ some nb4 = some nb4 ∧ some nb5 = some nb5 ∧ some nb6 =
 some nb6 ∧ some nb7 = some nb7 ∧ some (nBox 11) = some (nBox 11) ∧ Q AExit.ret [(2, F0)] [(9, AObj.blk (Blk.mk [Value.int IntKind.i64 (↑(last + 1) :
 Int), Value.map (some 10)] 2 1 62 true true 0 true)), (10, AObj.map [MapEntry.mk (Value.int IntKind.i64 (↑(last + 1) : Int)) fV (last + 1 - 1)] (last +
 1)), (11, nb0), (12, nb1), (13, nb2 11), (14, nb3), (15, nb4), (16, nb5), (17, nb6), (18, nb7), (19, nBox 11)] 21) ∧ (((↑(last + 1) : Int) != (↑(last +
 1) : Int)) = false → Value.int IntKind.i64 (IntKind.i64.wrap ((↑(last + 1) : Int) + 1)) = Value.int IntKind.i64 (↑(last + 1 + 1) : Int) ∧ z = z ∧
 (CallA Tryz.prog z 6 [Value.pointer (some (Addr.mk 0 0 none))] [(0, AObj.blk (Blk.mk [Value.int IntKind.i64 (↑(last + 1) : Int), Value.map (some 1)] 2
 1 62 true true 0 true)), (1, AObj.map [MapEntry.mk (Value.int IntKind.i64 (↑(last + 1) : Int)) fV (last + 1 - 1)] (last + 1))] 2 2 (fun (x : Unit) =>
 True) (fun (x : Unit) => iv [MapEntry.mk (Value.int IntKind.i64 (↑(last + 1) : Int)) fV (last + 1 - 1)].length) fun (x : Unit) => [(0, AObj.blk (Blk.mk
 [Value.int IntKind.i64 (↑(last + 1) : Int), Value.map (some 1)] 2 1 62 true true 0 true)), (1, AObj.map [MapEntry.mk (Value.int IntKind.i64 (↑(last +
 1) : Int)) fV (last + 1 - 1)] (last + 1))]) ∧ some [Value.pointer (some (Addr.mk 9 0 none))] = some [Value.pointer (some (Addr.mk 9 0 none))] ∧ some
 (AObj.blk (Blk.mk [Value.int IntKind.i64 (↑(last + 1) : Int), Value.map (some 10)] 2 1 62 true true 0 true)) = some (AObj.blk (Blk.mk [Value.int
 IntKind.i64 (↑(last + 1) : Int), Value.map (some 10)] 2 1 62 true true 0 true)) ∧ some (AObj.map [MapEntry.mk (Value.int IntKind.i64 (↑(last + 1) :
 Int)) fV (last + 1 - 1)] (last + 1)) = some (AObj.map [MapEntry.mk (Value.int IntKind.i64 (↑(last + 1) : Int)) fV (last + 1 - 1)] (last + 1)) ∧ ∀ (x :
 Unit), True → some (I 1) = some (I 1) ∧ some (AObj.blk (Blk.mk [Value.int IntKind.i64 (↑(last + 1) : Int), Value.map (some 1)] 2 1 62 true true 0
 true)) = some (AObj.blk (Blk.mk [Value.int IntKind.i64 (↑(last + 1) : Int), Value.map (some 1)] 2 1 62 true true 0 true)) ∧ some (AObj.map [MapEntry.mk
 (Value.int IntKind.i64 (↑(last + 1) : Int)) fV (last + 1 - 1)] (last + 1)) = some (AObj.map [MapEntry.mk (Value.int IntKind.i64 (↑(last + 1) : Int)) fV
 (last + 1 - 1)] (last + 1)) ∧ Value.int IntKind.i64 (IntKind.i64.wrap ((↑i : Int) + 1)) = Value.int IntKind.i64 (↑(i + 1) : Int) ∧ true = true ∧ 202 =
 202 ∧ true = true ∧ z = z ∧ some (Value.slice (some (Addr.mk 510 0 none)) n cp) = some (Value.slice (some (Addr.mk 510 0 none)) n cp) ∧ some
 (Value.pointer (some (Addr.mk 9 0 none))) = some (Value.pointer (some (Addr.mk 9 0 none))) ∧ some (Value.pointer (some (Addr.mk 19 0 none))) = some
 (Value.pointer (some (Addr.mk 19 0 none))) ∧ some (Value.slice (some (Addr.mk 22 0 none)) 1 1) = some (Value.slice (some (Addr.mk 22 0 none)) 1 1) ∧
 some (Value.int IntKind.i64 (↑(last + 1 + 1) : Int)) = some (Value.int IntKind.i64 (↑(last + 1 + 1) : Int)) ∧ some (Value.int IntKind.i64 (↑(i + 1) :
 Int)) = some (Value.int IntKind.i64 (↑(i + 1) : Int)) ∧ some (AObj.blk (Blk.mk [Value.int IntKind.i64 (↑(last + 1) : Int), Value.map (some 10)] 2 1 62
 true true 0 true)) = some (AObj.blk (Blk.mk [Value.int IntKind.i64 (↑(last + 1) : Int), Value.map (some 10)] 2 1 62 true true 0 true)) ∧ some (AObj.map
 [MapEntry.mk (Value.int IntKind.i64 (↑(last + 1) : Int)) fV (last + 1 - 1)] (last + 1)) = some (AObj.map [MapEntry.mk (Value.int IntKind.i64 (↑(last +
 1) : Int)) fV (last + 1 - 1)] (last + 1)) ∧ some nb0 = some nb0 ∧ some nb1 = some nb1 ∧ some (nb2 11) = some (nb2 11) ∧ some nb3 = some nb3 ∧ some nb4
 = some nb4 ∧ some nb5 = some nb5 ∧ some nb6 = some nb6 ∧ some nb7 = some nb7 ∧ some (nBox 11) = some (nBox 11) ∧ some (AObj.blk (Blk.mk [Value.int
 IntKind.i64 (↑(last + 1) : Int)] 1 1 3 false false 0 true)) = some (AObj.blk (Blk.mk [Value.int IntKind.i64 (↑(last + 1) : Int)] 1 1 3 false false 0
 true)) ∧ Q AExit.normal [(0, Value.slice (some (Addr.mk 510 0 none)) n cp), (8, Value.pointer (some (Addr.mk 9 0 none))), (9, Value.pointer (some
 (Addr.mk 19 0 none))), (10, Value.slice (some (Addr.mk 20 0 none)) 1 1), (11, Value.int IntKind.i64 (↑(last + 1 + 1) : Int)), (12, Value.int
 IntKind.i64 (↑(i + 1) : Int))] [(9, AObj.blk (Blk.mk [Value.int IntKind.i64 (↑(last + 1) : Int), Value.map (some 10)] 2 1 62 true true 0 true)), (10,
 AObj.map [MapEntry.mk (Value.int IntKind.i64 (↑(last + 1) : Int)) fV (last + 1 - 1)] (last + 1)), (11, nb0), (12, nb1), (13, nb2 11), (14, nb3), (15,
 nb4), (16, nb5), (17, nb6), (18, nb7), (19, nBox 11), (20, AObj.blk (Blk.mk [Value.int IntKind.i64 (↑(last + 1) : Int)] 1 1 3 false false 0 true))]
 21)) ∧ ((y == 0) = false → (↑i : Int) = (↑i : Int) ∧ i < n ∧ 510 = 510 ∧ z.get 0 = some (AObj.blk kl) ∧ readB Tryz.prog kl 3 (0 + i * 1) = some
 (Value.int IntKind.i64 y) ∧ (decide (y < 0) = true → z = z ∧ (CallA Tryz.prog z 7 [Value.pointer (some (Addr.mk 0 0 none)), Value.agg (Array.mk
 [Value.slice none 0 0, Value.slice none 0 0, Value.slice (some (Addr.mk 2 0 none)) 1 1, Value.slice none 0 0, Value.slice none 0 0, Value.slice none 0
 0, I 0, I 0, I 0]), I 5] [(0, AObj.blk (Blk.mk [Value.int IntKind.i64 (↑last : Int), Value.map (some 1)] 2 1 62 true true 0 true)), (1, AObj.map []
 last), (2, AObj.blk (Blk.mk [I 0, I 0, I 0, Value.string (ByteArray.mk #[]), I 0, F0, F0, Value.slice none 0 0] 8 8 53 true true 0 true))] 3 3 (fun (x
 : Unit) => True) (fun (x : Unit) => nilS) fun (x : Unit) => [(0, AObj.blk (Blk.mk [Value.int IntKind.i64 (↑last : Int), Value.map (some 1)] 2 1 62 true
 true 0 true)), (1, AObj.map [] last), (2, AObj.blk (Blk.mk [I 0, I 0, I 0, Value.string (ByteArray.mk #[]), I 0, F0, F0, Value.slice none 0 0] 8 8 53
 true true 0 true))]) ∧ some [Value.pointer (some (Addr.mk 9 0 none)), Value.agg (Array.mk [Value.slice none 0 0, Value.slice none 0 0, Value.slice
 (some (Addr.mk 21 0 none)) 1 1, Value.slice none 0 0, Value.slice none 0 0, Value.slice none 0 0, I 0, I 0, I 0]), I 5] = some [Value.pointer (some
 (Addr.mk 9 0 none)), Value.agg (Array.mk [Value.slice none 0 0, Value.slice none 0 0, Value.slice (some (Addr.mk 21 0 none)) 1 1, Value.slice none 0 0,
 Value.slice none 0 0, Value.slice none 0 0, I 0, I 0, I 0]), I 5] ∧ some (AObj.blk (Blk.mk [Value.int IntKind.i64 (↑last : Int), Value.map (some 10)] 2
 1 62 true true 0 true)) = some (AObj.blk (Blk.mk [Value.int IntKind.i64 (↑last : Int), Value.map (some 10)] 2 1 62 true true 0 true)) ∧ some (AObj.map
 [] last) = some (AObj.map [] last) ∧ some (AObj.blk (Blk.mk [I 0, I 0, I 0, Value.string (ByteArray.mk #[]), I 0, F0, F0, Value.slice none 0 0] 8 8 53
 true true 0 true)) = some (AObj.blk (Blk.mk [I 0, I 0, I 0, Value.string (ByteArray.mk #[]), I 0, F0, F0, Value.slice none 0 0] 8 8 53 true true 0
 true)) ∧ ∀ (x : Unit), True → some (Value.slice none 0 0) = some (Value.slice none 0 0) ∧ some (AObj.blk (Blk.mk [Value.int IntKind.i64 (↑last : Int),
 Value.map (some 1)] 2 1 62 true true 0 true)) = some (AObj.blk (Blk.mk [Value.int IntKind.i64 (↑last : Int), Value.map (some 1)] 2 1 62 true true 0
 true)) ∧ some (AObj.map [] last) = some (AObj.map [] last) ∧ some (AObj.blk (Blk.mk [I 0, I 0, I 0, Value.string (ByteArray.mk #[]), I 0, F0, F0,
 Value.slice none 0 0] 8 8 53 true true 0 true)) = some (AObj.blk (Blk.mk [I 0, I 0, I 0, Value.string (ByteArray.mk #[]), I 0, F0, F0, Value.slice none
 0 0] 8 8 53 true true 0 true)) ∧ z = z ∧ (CallA Tryz.prog z 7 [Value.pointer (some (Addr.mk 0 0 none)), nV 2, J 0] [(0, AObj.blk (Blk.mk [Value.int
 IntKind.i64 (↑last : Int), Value.map (some 1)] 2 1 62 true true 0 true)), (1, AObj.map [] last), (2, nb0), (3, nb1), (4, nb2 2), (5, nb3), (6, nb4),
 (7, nb5), (8, nb6), (9, nb7)] 10 10 (fun (x : Unit) => True) (fun (x : Unit) => nilS) fun (x : Unit) => [(0, AObj.blk (Blk.mk [Value.int IntKind.i64
 (↑last : Int), Value.map (some 1)] 2 1 62 true true 0 true)), (1, AObj.map [] last), (2, nb0), (3, nb1), (4, nb2 2), (5, nb3), (6, nb4), (7, nb5), (8,
 nb6), (9, nb7)]) ∧ some [Value.pointer (some (Addr.mk 9 0 none)), nV 11, J 0] = some [Value.pointer (some (Addr.mk 9 0 none)), nV 11, J 0] ∧ some
 (AObj.blk (Blk.mk [Value.int IntKind.i64 (↑last : Int), Value.map (some 10)] 2 1 62 true true 0 true)) = some (AObj.blk (Blk.mk [Value.int IntKind.i64
 (↑last : Int), Value.map (some 10)] 2 1 62 true true 0 true)) ∧ some (AObj.map [] last) = some (AObj.map [] last) ∧ some nb0 = some nb0 ∧ some nb1 =
 some nb1 ∧ some (nb2 11) = some (nb2 11) ∧ some nb3 = some nb3 ∧ some nb4 = some nb4 ∧ some nb5 = some nb5 ∧ some nb6 = some nb6 ∧ some nb7 = some nb7
 ∧ ∀ (x : Unit), True → some (Value.slice none 0 0) = some (Value.slice none 0 0) ∧ some (AObj.blk (Blk.mk [Value.int IntKind.i64 (↑last : Int),
 Value.map (some 1)] 2 1 62 true true 0 true)) = some (AObj.blk (Blk.mk [Value.int IntKind.i64 (↑last : Int), Value.map (some 1)] 2 1 62 true true 0
 true)) ∧ some (AObj.map [] last) = some (AObj.map [] last) ∧ some nb0 = some nb0 ∧ some nb1 = some nb1 ∧ some (nb2 2) = some (nb2 2) ∧ some nb3 = some
 nb3 ∧ some nb4 = some nb4 ∧ some nb5 = some nb5 ∧ some nb6 = some nb6 ∧ some nb7 = some nb7 ∧ z = z ∧ (CallA Tryz.prog z 6 [Value.pointer (some
 (Addr.mk 0 0 none))] [(0, AObj.blk (Blk.mk [Value.int IntKind.i64 (↑last : Int), Value.map (some 1)] 2 1 62 true true 0 true)), (1, AObj.map [] last)]
 2 2 (fun (x : Unit) => True) (fun (x : Unit) => iv 0) fun (x : Unit) => [(0, AObj.blk (Blk.mk [Value.int IntKind.i64 (↑last : Int), Value.map (some 1)]
 2 1 62 true true 0 true)), (1, AObj.map [] last)]) ∧ some [Value.pointer (some (Addr.mk 9 0 none))] = some [Value.pointer (some (Addr.mk 9 0 none))] ∧
 some (AObj.blk (Blk.mk [Value.int IntKind.i64 (↑last : Int), Value.map (some 10)] 2 1 62 true true 0 true)) = some (AObj.blk (Blk.mk [Value.int
 IntKind.i64 (↑last : Int), Value.map (some 10)] 2 1 62 true true 0 true)) ∧ some (AObj.map [] last) = some (AObj.map [] last) ∧ ∀ (x : Unit), True →
 some (I 0) = some (I 0) ∧ some (AObj.blk (Blk.mk [Value.int IntKind.i64 (↑last : Int), Value.map (some 1)] 2 1 62 true true 0 true)) = some (AObj.blk
 (Blk.mk [Value.int IntKind.i64 (↑last : Int), Value.map (some 1)] 2 1 62 true true 0 true)) ∧ some (AObj.map [] last) = some (AObj.map [] last) ∧ z = z
 ∧ (CallA Tryz.prog z 7 [Value.pointer (some (Addr.mk 0 0 none)), nV 2, I 5] [(0, AObj.blk (Blk.mk [Value.int IntKind.i64 (↑last : Int), Value.map (some
 1)] 2 1 62 true true 0 true)), (1, AObj.map [] last), (2, nb0), (3, nb1), (4, nb2 2), (5, nb3), (6, nb4), (7, nb5), (8, nb6), (9, nb7)] 10 10 (fun (x :
 Unit) => True) (fun (x : Unit) => nilS) fun (x : Unit) => (0, wst last 1) :: (1, AObj.map (ents []) last) :: nZ 2) ∧ some [Value.pointer (some (Addr.mk
 9 0 none)), nV 11, I 5] = some [Value.pointer (some (Addr.mk 9 0 none)), nV 11, I 5] ∧ some (AObj.blk (Blk.mk [Value.int IntKind.i64 (↑last : Int),
 Value.map (some 10)] 2 1 62 true true 0 true)) = some (AObj.blk (Blk.mk [Value.int IntKind.i64 (↑last : Int), Value.map (some 10)] 2 1 62 true true 0
 true)) ∧ some (AObj.map [] last) = some (AObj.map [] last) ∧ some nb0 = some nb0 ∧ some nb1 = some nb1 ∧ some (nb2 11) = some (nb2 11) ∧ some nb3 =
 some nb3 ∧ some nb4 = some nb4 ∧ some nb5 = some nb5 ∧ some nb6 = some nb6 ∧ some nb7 = some nb7 ∧ ∀ (x : Unit), True → some (Value.slice none 0 0) =
 some (Value.slice none 0 0) ∧ some (AObj.blk (Blk.mk [Value.int IntKind.i64 (↑last : Int), Value.map (some 1)] 2 1 62 true true 0 true)) = some
 (AObj.blk (Blk.mk [Value.int IntKind.i64 (↑last : Int), Value.map (some 1)] 2 1 62 true true 0 true)) ∧ some (AObj.map [] last) = some (AObj.map []
 last) ∧ some nb0 = some nb0 ∧ some nb1 = some nb1 ∧ some (nb2 2) = some (nb2 2) ∧ some nb3 = some nb3 ∧ some nb4 = some nb4 ∧ some nb5 = some nb5 ∧
 some nb6 = some nb6 ∧ some nb7 = some nb7 ∧ 22 = 22 ∧ LoopA Tryz.prog z (loopN (loopN (bodyOf Tryz.f3) 0) 0) 22 202 (lvC n cp nilS nilS last i 0) (zn3
 last []) 22 (alt True (AExit.exit 5, lvCo n cp last i, zn3 last [], 22) Al.nil).R ∧ true = true ∧ 202 = 202 ∧ true = true ∧ z = z ∧ some (Value.slice
 (some (Addr.mk 510 0 none)) n cp) = some (Value.slice (some (Addr.mk 510 0 none)) n cp) ∧ some (Value.pointer (some (Addr.mk 9 0 none))) = some
 (Value.pointer (some (Addr.mk 9 0 none))) ∧ some (Value.pointer (some (Addr.mk 19 0 none))) = some (Value.pointer (some (Addr.mk 19 0 none))) ∧ some
 (Value.slice none 0 0) = some (Value.slice none 0 0) ∧ some (Value.int IntKind.i64 (↑(last + 1) : Int)) = some (Value.int IntKind.i64 (↑(last + 1) :
 Int)) ∧ some (Value.int IntKind.i64 (↑i : Int)) = some (Value.int IntKind.i64 (↑i : Int)) ∧ some (Value.slice none 0 0) = some (Value.slice none 0 0) ∧
 some (I 0) = some (I 0) ∧ some (AObj.blk (Blk.mk [Value.int IntKind.i64 (↑last : Int), Value.map (some 10)] 2 1 62 true true 0 true)) = some (AObj.blk
 (Blk.mk [Value.int IntKind.i64 (↑last : Int), Value.map (some 10)] 2 1 62 true true 0 true)) ∧ some (AObj.map [] last) = some (AObj.map [] last) ∧ some
 nb0 = some nb0 ∧ some nb1 = some nb1 ∧ some (nb2 11) = some (nb2 11) ∧ some nb3 = some nb3 ∧ some nb4 = some nb4 ∧ some nb5 = some nb5 ∧ some nb6 =
 some nb6 ∧ some nb7 = some nb7 ∧ some (nBox 11) = some (nBox 11) ∧ ∀ (x : Unit), True → z = z ∧ (CallA Tryz.prog z 6 [Value.pointer (some (Addr.mk 0 0
 none))] [(0, AObj.blk (Blk.mk [Value.int IntKind.i64 (↑last : Int), Value.map (some 1)] 2 1 62 true true 0 true)), (1, AObj.map [] last)] 2 2 (fun (x :
 Unit) => True) (fun (x : Unit) => iv 0) fun (x : Unit) => [(0, AObj.blk (Blk.mk [Value.int IntKind.i64 (↑last : Int), Value.map (some 1)] 2 1 62 true
 true 0 true)), (1, AObj.map [] last)]) ∧ some [Value.pointer (some (Addr.mk 9 0 none))] = some [Value.pointer (some (Addr.mk 9 0 none))] ∧ some
 (AObj.blk (Blk.mk [Value.int IntKind.i64 (↑last : Int), Value.map (some 10)] 2 1 62 true true 0 true)) = some (AObj.blk (Blk.mk [Value.int IntKind.i64
 (↑last : Int), Value.map (some 10)] 2 1 62 true true 0 true)) ∧ some (AObj.map [] last) = some (AObj.map [] last) ∧ ∀ (x : Unit), True → some (I 0) =
 some (I 0) ∧ some (AObj.blk (Blk.mk [Value.int IntKind.i64 (↑last : Int), Value.map (some 1)] 2 1 62 true true 0 true)) = some (AObj.blk (Blk.mk
 [Value.int IntKind.i64 (↑last : Int), Value.map (some 1)] 2 1 62 true true 0 true)) ∧ some (AObj.map [] last) = some (AObj.map [] last) ∧ Value.int
 IntKind.i64 (IntKind.i64.wrap ((↑i : Int) + 1)) = Value.int IntKind.i64 (↑(i + 1) : Int) ∧ true = true ∧ 202 = 202 ∧ true = true ∧ z = z ∧ some
 (Value.slice (some (Addr.mk 510 0 none)) n cp) = some (Value.slice (some (Addr.mk 510 0 none)) n cp) ∧ some (Value.pointer (some (Addr.mk 9 0 none))) =
 some (Value.pointer (some (Addr.mk 9 0 none))) ∧ some (Value.pointer (some (Addr.mk 19 0 none))) = some (Value.pointer (some (Addr.mk 19 0 none))) ∧
 some (Value.slice none 0 0) = some (Value.slice none 0 0) ∧ some (Value.int IntKind.i64 (↑(last + 1) : Int)) = some (Value.int IntKind.i64 (↑(last + 1)
 : Int)) ∧ some (Value.int IntKind.i64 (↑(i + 1) : Int)) = some (Value.int IntKind.i64 (↑(i + 1) : Int)) ∧ some (AObj.blk (Blk.mk [Value.int IntKind.i64
 (↑last : Int), Value.map (some 10)] 2 1 62 true true 0 true)) = some (AObj.blk (Blk.mk [Value.int IntKind.i64 (↑last : Int), Value.map (some 10)] 2 1
 62 true true 0 true)) ∧ some (AObj.map [] last) = some (AObj.map [] last) ∧ some nb0 = some nb0 ∧ some nb1 = some nb1 ∧ some (nb2 11) = some (nb2 11) ∧
 some nb3 = some nb3 ∧ some nb4 = some nb4 ∧ some nb5 = some nb5 ∧ some nb6 = some nb6 ∧ some nb7 = some nb7 ∧ some (nBox 11) = some (nBox 11) ∧ Q
 AExit.normal [(0, Value.slice (some (Addr.mk 510 0 none)) n cp), (8, Value.pointer (some (Addr.mk 9 0 none))), (9, Value.pointer (some (Addr.mk 19 0
 none))), (10, Value.slice none 0 0), (11, Value.int IntKind.i64 (↑(last + 1) : Int)), (12, Value.int IntKind.i64 (↑(i + 1) : Int))] [(9, AObj.blk
 (Blk.mk [Value.int IntKind.i64 (↑last : Int), Value.map (some 10)] 2 1 62 true true 0 true)), (10, AObj.map [] last), (11, nb0), (12, nb1), (13, nb2
 11), (14, nb3), (15, nb4), (16, nb5), (17, nb6), (18, nb7), (19, nBox 11)] 21) ∧ (decide (y < 0) = false → 21 = 21 ∧ LoopA Tryz.prog z (loopN (loopN
 (bodyOf Tryz.f3) 0) 1) 21 202 (lvL n cp nilS nilS last i 0) (zn3 last []) 21 (alt True (AExit.exit 3, lvLo n cp nilS nilS last i, zn3 last [], 21)
 Al.nil).R ∧ true = true ∧ 202 = 202 ∧ true = true ∧ z = z ∧ some (Value.slice (some (Addr.mk 510 0 none)) n cp) = some (Value.slice (some (Addr.mk 510
 0 none)) n cp) ∧ some (Value.pointer (some (Addr.mk 9 0 none))) = some (Value.pointer (some (Addr.mk 9 0 none))) ∧ some (Value.pointer (some (Addr.mk
 19 0 none))) = some (Value.pointer (some (Addr.mk 19 0 none))) ∧ some (Value.slice none 0 0) = some (Value.slice none 0 0) ∧ some (Value.int
 IntKind.i64 (↑(last + 1) : Int)) = some (Value.int IntKind.i64 (↑(last + 1) : Int)) ∧ some (Value.int IntKind.i64 (↑i : Int)) = some (Value.int
 IntKind.i64 (↑i : Int)) ∧ some (Value.slice none 0 0) = some (Value.slice none 0 0) ∧ some (I 0) = some (I 0) ∧ some (AObj.blk (Blk.mk [Value.int
 IntKind.i64 (↑last : Int), Value.map (some 10)] 2 1 62 true true 0 true)) = some (AObj.blk (Blk.mk [Value.int IntKind.i64 (↑last : Int), Value.map
 (some 10)] 2 1 62 true true 0 true)) ∧ some (AObj.map [] last) = some (AObj.map [] last) ∧ some nb0 = some nb0 ∧ some nb1 = some nb1 ∧ some (nb2 11) =
 some (nb2 11) ∧ some nb3 = some nb3 ∧ some nb4 = some nb4 ∧ some nb5 = some nb5 ∧ some nb6 = some nb6 ∧ some nb7 = some nb7 ∧ some (nBox 11) = some
 (nBox 11) ∧ ∀ (x : Unit), True → (↑i : Int) = (↑i : Int) ∧ i < n ∧ 510 = 510 ∧ z.get 0 = some (AObj.blk kl) ∧ readB Tryz.prog kl 3 (0 + i * 1) = some
 (Value.int IntKind.i64 y) ∧ z = z ∧ (CallA Tryz.prog z 5 [Value.pointer (some (Addr.mk 0 0 none)), Value.int IntKind.i64 y] [(0, AObj.blk (Blk.mk
 [Value.int IntKind.i64 (↑last : Int), Value.map (some 1)] 2 1 62 true true 0 true)), (1, AObj.map [] last)] 2 2 (fun (e : Nat) => (e = 0 ∧ ∃ (k : Nat),
 k ∈ [] ∧ (↑k : Int) = y) ∨ e = 7 ∧ ∀ (k : Nat), k ∈ [] → (↑k : Int) ≠ y) (fun (e : Nat) => iv e) fun (x : Nat) => [(0, wst last 1), (1, AObj.map (ents
 (gone y [])) last)]) ∧ some [Value.pointer (some (Addr.mk 9 0 none)), Value.int IntKind.i64 y] = some [Value.pointer (some (Addr.mk 9 0 none)),
 Value.int IntKind.i64 y] ∧ some (AObj.blk (Blk.mk [Value.int IntKind.i64 (↑last : Int), Value.map (some 10)] 2 1 62 true true 0 true)) = some (AObj.blk
 (Blk.mk [Value.int IntKind.i64 (↑last : Int), Value.map (some 10)] 2 1 62 true true 0 true)) ∧ some (AObj.map [] last) = some (AObj.map [] last) ∧ ∀ (x
 : Nat), ((x = 0 ∧ ∃ (k : Nat), k ∈ [] ∧ (↑k : Int) = y) ∨ x = 7 ∧ ∀ (k : Nat), k ∈ [] → (↑k : Int) ≠ y) → some (Value.int IntKind.i64 (↑x : Int)) =
 some (Value.int IntKind.i64 (↑x : Int)) ∧ some (AObj.blk (Blk.mk [Value.int IntKind.i64 (↑last : Int), Value.map (some 1)] 2 1 62 true true 0 true)) =
 some (AObj.blk (Blk.mk [Value.int IntKind.i64 (↑last : Int), Value.map (some 1)] 2 1 62 true true 0 true)) ∧ some (AObj.map [] last) = some (AObj.map
 [] last) ∧ (((↑x : Int) == 0) = true → true = true ∧ 202 = 202 ∧ true = true ∧ z = z ∧ some F0 = some F0 ∧ some (AObj.blk (Blk.mk [Value.int
 IntKind.i64 (↑last : Int), Value.map (some 10)] 2 1 62 true true 0 true)) = some (AObj.blk (Blk.mk [Value.int IntKind.i64 (↑last : Int), Value.map
 (some 10)] 2 1 62 true true 0 true)) ∧ some (AObj.map [] last) = some (AObj.map [] last) ∧ some nb0 = some nb0 ∧ some nb1 = some nb1 ∧ some (nb2 11) =
 some (nb2 11) ∧ some nb3 = some nb3 ∧ some nb4 = some nb4 ∧ some nb5 = some nb5 ∧ some nb6 = some nb6 ∧ some nb7 = some nb7 ∧ some (nBox 11) = some
 (nBox 11) ∧ Q AExit.ret [(2, F0)] [(9, AObj.blk (Blk.mk [Value.int IntKind.i64 (↑last : Int), Value.map (some 10)] 2 1 62 true true 0 true)), (10,
 AObj.map [] last), (11, nb0), (12, nb1), (13, nb2 11), (14, nb3), (15, nb4), (16, nb5), (17, nb6), (18, nb7), (19, nBox 11)] 21) ∧ (((↑x : Int) == 0) =
 false → (((↑x : Int) != 0) = true → (((↑x : Int) != 7) = true → true = true ∧ 202 = 202 ∧ true = true ∧ z = z ∧ some F0 = some F0 ∧ some (AObj.blk
 (Blk.mk [Value.int IntKind.i64 (↑last : Int), Value.map (some 10)] 2 1 62 true true 0 true)) = some (AObj.blk (Blk.mk [Value.int IntKind.i64 (↑last :
 Int), Value.map (some 10)] 2 1 62 true true 0 true)) ∧ some (AObj.map [] last) = some (AObj.map [] last) ∧ some nb0 = some nb0 ∧ some nb1 = some nb1 ∧
 some (nb2 11) = some (nb2 11) ∧ some nb3 = some nb3 ∧ some nb4 = some nb4 ∧ some nb5 = some nb5 ∧ some nb6 = some nb6 ∧ some nb7 = some nb7 ∧ some
 (nBox 11) = some (nBox 11) ∧ Q AExit.ret [(2, F0)] [(9, AObj.blk (Blk.mk [Value.int IntKind.i64 (↑last : Int), Value.map (some 10)] 2 1 62 true true 0
 true)), (10, AObj.map [] last), (11, nb0), (12, nb1), (13, nb2 11), (14, nb3), (15, nb4), (16, nb5), (17, nb6), (18, nb7), (19, nBox 11)] 21) ∧ (((↑x :
 Int) != 7) = false → z = z ∧ (CallA Tryz.prog z 6 [Value.pointer (some (Addr.mk 0 0 none))] [(0, AObj.blk (Blk.mk [Value.int IntKind.i64 (↑last : Int),
 Value.map (some 1)] 2 1 62 true true 0 true)), (1, AObj.map [] last)] 2 2 (fun (x : Unit) => True) (fun (x : Unit) => iv 0) fun (x : Unit) => [(0,
 AObj.blk (Blk.mk [Value.int IntKind.i64 (↑last : Int), Value.map (some 1)] 2 1 62 true true 0 true)), (1, AObj.map [] last)]) ∧ some [Value.pointer
 (some (Addr.mk 9 0 none))] = some [Value.pointer (some (Addr.mk 9 0 none))] ∧ some (AObj.blk (Blk.mk [Value.int IntKind.i64 (↑last : Int), Value.map
 (some 10)] 2 1 62 true true 0 true)) = some (AObj.blk (Blk.mk [Value.int IntKind.i64 (↑last : Int), Value.map (some 10)] 2 1 62 true true 0 true)) ∧
 some (AObj.map [] last) = some (AObj.map [] last) ∧ ∀ (x : Unit), True → some (I 0) = some (I 0) ∧ some (AObj.blk (Blk.mk [Value.int IntKind.i64 (↑last
 : Int), Value.map (some 1)] 2 1 62 true true 0 true)) = some (AObj.blk (Blk.mk [Value.int IntKind.i64 (↑last : Int), Value.map (some 1)] 2 1 62 true
 true 0 true)) ∧ some (AObj.map [] last) = some (AObj.map [] last) ∧ Value.int IntKind.i64 (IntKind.i64.wrap ((↑i : Int) + 1)) = Value.int IntKind.i64
 (↑(i + 1) : Int) ∧ true = true ∧ 202 = 202 ∧ true = true ∧ z = z ∧ some (Value.slice (some (Addr.mk 510 0 none)) n cp) = some (Value.slice (some
 (Addr.mk 510 0 none)) n cp) ∧ some (Value.pointer (some (Addr.mk 9 0 none))) = some (Value.pointer (some (Addr.mk 9 0 none))) ∧ some (Value.pointer
 (some (Addr.mk 19 0 none))) = some (Value.pointer (some (Addr.mk 19 0 none))) ∧ some (Value.slice none 0 0) = some (Value.slice none 0 0) ∧ some
 (Value.int IntKind.i64 (↑(last + 1) : Int)) = some (Value.int IntKind.i64 (↑(last + 1) : Int)) ∧ some (Value.int IntKind.i64 (↑(i + 1) : Int)) = some
 (Value.int IntKind.i64 (↑(i + 1) : Int)) ∧ some (AObj.blk (Blk.mk [Value.int IntKind.i64 (↑last : Int), Value.map (some 10)] 2 1 62 true true 0 true))
 = some (AObj.blk (Blk.mk [Value.int IntKind.i64 (↑last : Int), Value.map (some 10)] 2 1 62 true true 0 true)) ∧ some (AObj.map [] last) = some
 (AObj.map [] last) ∧ some nb0 = some nb0 ∧ some nb1 = some nb1 ∧ some (nb2 11) = some (nb2 11) ∧ some nb3 = some nb3 ∧ some nb4 = some nb4 ∧ some nb5 =
 some nb5 ∧ some nb6 = some nb6 ∧ some nb7 = some nb7 ∧ some (nBox 11) = some (nBox 11) ∧ Q AExit.normal [(0, Value.slice (some (Addr.mk 510 0 none)) n
 cp), (8, Value.pointer (some (Addr.mk 9 0 none))), (9, Value.pointer (some (Addr.mk 19 0 none))), (10, Value.slice none 0 0), (11, Value.int
 IntKind.i64 (↑(last + 1) : Int)), (12, Value.int IntKind.i64 (↑(i + 1) : Int))] [(9, AObj.blk (Blk.mk [Value.int IntKind.i64 (↑last : Int), Value.map
 (some 10)] 2 1 62 true true 0 true)), (10, AObj.map [] last), (11, nb0), (12, nb1), (13, nb2 11), (14, nb3), (15, nb4), (16, nb5), (17, nb6), (18,
 nb7), (19, nBox 11)] 21)) ∧ (((↑x : Int) != 0) = false → z = z ∧ (CallA Tryz.prog z 6 [Value.pointer (some (Addr.mk 0 0 none))] [(0, AObj.blk (Blk.mk
 [Value.int IntKind.i64 (↑last : Int), Value.map (some 1)] 2 1 62 true true 0 true)), (1, AObj.map [] last)] 2 2 (fun (x : Unit) => True) (fun (x :
 Unit) => iv 0) fun (x : Unit) => [(0, AObj.blk (Blk.mk [Value.int IntKind.i64 (↑last : Int), Value.map (some 1)] 2 1 62 true true 0 true)), (1,
 AObj.map [] last)]) ∧ some [Value.pointer (some (Addr.mk 9 0 none))] = some [Value.pointer (some (Addr.mk 9 0 none))] ∧ some (AObj.blk (Blk.mk
 [Value.int IntKind.i64 (↑last : Int), Value.map (some 10)] 2 1 62 true true 0 true)) = some (AObj.blk (Blk.mk [Value.int IntKind.i64 (↑last : Int),
 Value.map (some 10)] 2 1 62 true true 0 true)) ∧ some (AObj.map [] last) = some (AObj.map [] last) ∧ ∀ (x : Unit), True → some (I 0) = some (I 0) ∧
 some (AObj.blk (Blk.mk [Value.int IntKind.i64 (↑last : Int), Value.map (some 1)] 2 1 62 true true 0 true)) = some (AObj.blk (Blk.mk [Value.int
 IntKind.i64 (↑last : Int), Value.map (some 1)] 2 1 62 true true 0 true)) ∧ some (AObj.map [] last) = some (AObj.map [] last) ∧ Value.int IntKind.i64
 (IntKind.i64.wrap ((↑i : Int) + 1)) = Value.int IntKind.i64 (↑(i + 1) : Int) ∧ true = true ∧ 202 = 202 ∧ true = true ∧ z = z ∧ some (Value.slice (some
 (Addr.mk 510 0 none)) n cp) = some (Value.slice (some (Addr.mk 510 0 none)) n cp) ∧ some (Value.pointer (some (Addr.mk 9 0 none))) = some
 (Value.pointer (some (Addr.mk 9 0 none))) ∧ some (Value.pointer (some (Addr.mk 19 0 none))) = some (Value.pointer (some (Addr.mk 19 0 none))) ∧ some
 (Value.slice none 0 0) = some (Value.slice none 0 0) ∧ some (Value.int IntKind.i64 (↑(last + 1) : Int)) = some (Value.int IntKind.i64 (↑(last + 1) :
 Int)) ∧ some (Value.int IntKind.i64 (↑(i + 1) : Int)) = some (Value.int IntKind.i64 (↑(i + 1) : Int)) ∧ some (AObj.blk (Blk.mk [Value.int IntKind.i64
 (↑last : Int), Value.map (some 10)] 2 1 62 true true 0 true)) = some (AObj.blk (Blk.mk [Value.int IntKind.i64 (↑last : Int), Value.map (some 10)] 2 1
 62 true true 0 true)) ∧ some (AObj.map [] last) = some (AObj.map [] last) ∧ some nb0 = some nb0 ∧ some nb1 = some nb1 ∧ some (nb2 11) = some (nb2 11) ∧
 some nb3 = some nb3 ∧ some nb4 = some nb4 ∧ some nb5 = some nb5 ∧ some nb6 = some nb6 ∧ some nb7 = some nb7 ∧ some (nBox 11) = some (nBox 11) ∧ Q
 AExit.normal [(0, Value.slice (some (Addr.mk 510 0 none)) n cp), (8, Value.pointer (some (Addr.mk 9 0 none))), (9, Value.pointer (some (Addr.mk 19 0
 none))), (10, Value.slice none 0 0), (11, Value.int IntKind.i64 (↑(last + 1) : Int)), (12, Value.int IntKind.i64 (↑(i + 1) : Int))] [(9, AObj.blk
 (Blk.mk [Value.int IntKind.i64 (↑last : Int), Value.map (some 10)] 2 1 62 true true 0 true)), (10, AObj.map [] last), (11, nb0), (12, nb1), (13, nb2
 11), (14, nb3), (15, nb4), (16, nb5), (17, nb6), (18, nb7), (19, nBox 11)] 21))))) ∧ (decide ((↑i : Int) < (↑n : Int)) = false → true = true ∧ 202 =
 202 ∧ true = true ∧ z = z ∧ some (AObj.blk (Blk.mk [Value.int IntKind.i64 (↑last : Int), Value.map (some 10)] 2 1 62 true true 0 true)) = some
 (AObj.blk (Blk.mk [Value.int IntKind.i64 (↑last : Int), Value.map (some 10)] 2 1 62 true true 0 true)) ∧ some (AObj.map [] last) = some (AObj.map []
 last) ∧ some nb0 = some nb0 ∧ some nb1 = some nb1 ∧ some (nb2 11) = some (nb2 11) ∧ some nb3 = some nb3 ∧ some nb4 = some nb4 ∧ some nb5 = some nb5 ∧
 some nb6 = some nb6 ∧ some nb7 = some nb7 ∧ some (nBox 11) = some (nBox 11) ∧ Q (AExit.exit 0) [] [(9, AObj.blk (Blk.mk [Value.int IntKind.i64 (↑last :
 Int), Value.map (some 10)] 2 1 62 true true 0 true)), (10, AObj.map [] last), (11, nb0), (12, nb1), (13, nb2 11), (14, nb3), (15, nb4), (16, nb5), (17,
 nb6), (18, nb7), (19, nBox 11)] 21)) : ∃ t, codeT Tryz.prog g z 100 (loopN (bodyOf Tryz.f3) 0) (mkFr 202 (lv3 n cp nilS last i)) (mkHs z (zn3 last []) 21) (finK z 20 202 Q) t := ⟨ (Tr.auto 1 (Tr.one (An.idx i) (Tr.one (An.ld 0 kl (Value.int IntKind.i64 y)) ((Tr.auto 2 (Tr.cm (Cm.mk [Value.pointer (some (Addr.mk 0 0 none)), nV 2,
 Value.agg (Array.mk [I 1, I 1, I 0, F0, I 0, I 0, F0, F0, I 0, F0]), Value.agg (Array.mk [Value.slice none 0 0])] [(0, AObj.blk (Blk.mk [Value.int
 IntKind.i64 (↑last : Int), Value.map (some 1)] 2 1 62 true true 0 true)), (1, AObj.map [] last), (2, nb0), (3, nb1), (4, nb2 2), (5, nb3), (6, nb4),
 (7, nb5), (8, nb6), (9, nb7)] 10 10 [(0, 9), (1, 10), (2, 11), (3, 12), (4, 13), (5, 14), (6, 15), (7, 16), (8, 17), (9, 18)] [(9, 0), (10, 1), (11,
 2), (12, 3), (13, 4), (14, 5), (15, 6), (16, 7), (17, 8), (18, 9)] 21) Unit (fun (x : Unit) => True) (fun (x : Unit) => Value.tuple (Array.mk [iv (last
 + 1), I 0])) (fun (x : Unit) => (0, wst (last + 1) 1) :: (1, AObj.map (ents ([] ++ [last + 1])) (last + 1)) :: nZ 2) (fun (x : Unit) => Value.tuple
 (Array.mk [Value.int IntKind.i64 (↑(last + 1) : Int), I 0])) (fun (x : Unit) => [(9, AObj.blk (Blk.mk [Value.int IntKind.i64 (↑(last + 1) : Int),
 Value.map (some 10)] 2 1 62 true true 0 true)), (10, AObj.map [MapEntry.mk (Value.int IntKind.i64 (↑(last + 1) : Int)) fV (last + 1 - 1)] (last + 1)),
 (11, nb0), (12, nb1), (13, nb2 11), (14, nb3), (15, nb4), (16, nb5), (17, nb6), (18, nb7)]) fun (x : Unit) => (Tr.auto 4 (Tr.fin [(9, 9), (10, 10),
 (11, 11), (12, 12), (13, 13), (14, 14), (15, 15), (16, 16), (17, 17), (18, 18), (19, 19)] [(2, F0)] [(9, AObj.blk (Blk.mk [Value.int IntKind.i64
 (↑(last + 1) : Int), Value.map (some 10)] 2 1 62 true true 0 true)), (10, AObj.map [MapEntry.mk (Value.int IntKind.i64 (↑(last + 1) : Int)) fV (last +
 1 - 1)] (last + 1)), (11, nb0), (12, nb1), (13, nb2 11), (14, nb3), (15, nb4), (16, nb5), (17, nb6), (18, nb7), (19, nBox 11)] 21)).fork (Tr.auto 6
 (Tr.one (An.val (Value.int IntKind.i64 (↑(last + 1 + 1) : Int))) (Tr.cm (Cm.mk [Value.pointer (some (Addr.mk 0 0 none))] [(0, AObj.blk (Blk.mk
 [Value.int IntKind.i64 (↑(last + 1) : Int), Value.map (some 1)] 2 1 62 true true 0 true)), (1, AObj.map [MapEntry.mk (Value.int IntKind.i64 (↑(last +
 1) : Int)) fV (last + 1 - 1)] (last + 1))] 2 2 [(0, 9), (1, 10)] [(9, 0), (10, 1)] 23) Unit (fun (x : Unit) => True) (fun (x : Unit) => iv [MapEntry.mk
 (Value.int IntKind.i64 (↑(last + 1) : Int)) fV (last + 1 - 1)].length) (fun (x : Unit) => [(0, AObj.blk (Blk.mk [Value.int IntKind.i64 (↑(last + 1) :
 Int), Value.map (some 1)] 2 1 62 true true 0 true)), (1, AObj.map [MapEntry.mk (Value.int IntKind.i64 (↑(last + 1) : Int)) fV (last + 1 - 1)] (last +
 1))]) (fun (x : Unit) => I 1) (fun (x : Unit) => [(9, AObj.blk (Blk.mk [Value.int IntKind.i64 (↑(last + 1) : Int), Value.map (some 10)] 2 1 62 true
 true 0 true)), (10, AObj.map [MapEntry.mk (Value.int IntKind.i64 (↑(last + 1) : Int)) fV (last + 1 - 1)] (last + 1))]) fun (x : Unit) => Tr.auto 2
 (Tr.one (An.val (Value.int IntKind.i64 (↑(i + 1) : Int))) (Tr.fin [(9, 9), (10, 10), (11, 11), (12, 12), (13, 13), (14, 14), (15, 15), (16, 16), (17,
 17), (18, 18), (19, 19), (20, 22)] [(0, Value.slice (some (Addr.mk 510 0 none)) n cp), (8, Value.pointer (some (Addr.mk 9 0 none))), (9, Value.pointer
 (some (Addr.mk 19 0 none))), (10, Value.slice (some (Addr.mk 20 0 none)) 1 1), (11, Value.int IntKind.i64 (↑(last + 1 + 1) : Int)), (12, Value.int
 IntKind.i64 (↑(i + 1) : Int))] [(9, AObj.blk (Blk.mk [Value.int IntKind.i64 (↑(last + 1) : Int), Value.map (some 10)] 2 1 62 true true 0 true)), (10,
 AObj.map [MapEntry.mk (Value.int IntKind.i64 (↑(last + 1) : Int)) fV (last + 1 - 1)] (last + 1)), (11, nb0), (12, nb1), (13, nb2 11), (14, nb3), (15,
 nb4), (16, nb5), (17, nb6), (18, nb7), (19, nBox 11), (20, AObj.blk (Blk.mk [Value.int IntKind.i64 (↑(last + 1) : Int)] 1 1 3 false false 0 true))]
 21))))))).fork (Tr.auto 1 (Tr.one (An.idx i) (Tr.one (An.ld 0 kl (Value.int IntKind.i64 y)) ((Tr.auto 1 (Tr.cm (Cm.mk [Value.pointer (some (Addr.mk 0 0
 none)), Value.agg (Array.mk [Value.slice none 0 0, Value.slice none 0 0, Value.slice (some (Addr.mk 2 0 none)) 1 1, Value.slice none 0 0, Value.slice
 none 0 0, Value.slice none 0 0, I 0, I 0, I 0]), I 5] [(0, AObj.blk (Blk.mk [Value.int IntKind.i64 (↑last : Int), Value.map (some 1)] 2 1 62 true true
 0 true)), (1, AObj.map [] last), (2, AObj.blk (Blk.mk [I 0, I 0, I 0, Value.string (ByteArray.mk #[]), I 0, F0, F0, Value.slice none 0 0] 8 8 53 true
 true 0 true))] 3 3 [(0, 9), (1, 10), (2, 21)] [(9, 0), (10, 1), (21, 2)] 22) Unit (fun (x : Unit) => True) (fun (x : Unit) => nilS) (fun (x : Unit) =>
 [(0, AObj.blk (Blk.mk [Value.int IntKind.i64 (↑last : Int), Value.map (some 1)] 2 1 62 true true 0 true)), (1, AObj.map [] last), (2, AObj.blk (Blk.mk
 [I 0, I 0, I 0, Value.string (ByteArray.mk #[]), I 0, F0, F0, Value.slice none 0 0] 8 8 53 true true 0 true))]) (fun (x : Unit) => Value.slice none 0
 0) (fun (x : Unit) => [(9, AObj.blk (Blk.mk [Value.int IntKind.i64 (↑last : Int), Value.map (some 10)] 2 1 62 true true 0 true)), (10, AObj.map []
 last), (21, AObj.blk (Blk.mk [I 0, I 0, I 0, Value.string (ByteArray.mk #[]), I 0, F0, F0, Value.slice none 0 0] 8 8 53 true true 0 true))]) fun (x :
 Unit) => Tr.auto 5 (Tr.cm (Cm.mk [Value.pointer (some (Addr.mk 0 0 none)), nV 2, J 0] [(0, AObj.blk (Blk.mk [Value.int IntKind.i64 (↑last : Int),
 Value.map (some 1)] 2 1 62 true true 0 true)), (1, AObj.map [] last), (2, nb0), (3, nb1), (4, nb2 2), (5, nb3), (6, nb4), (7, nb5), (8, nb6), (9, nb7)]
 10 10 [(0, 9), (1, 10), (2, 11), (3, 12), (4, 13), (5, 14), (6, 15), (7, 16), (8, 17), (9, 18)] [(9, 0), (10, 1), (11, 2), (12, 3), (13, 4), (14, 5),
 (15, 6), (16, 7), (17, 8), (18, 9)] 22) Unit (fun (x : Unit) => True) (fun (x : Unit) => nilS) (fun (x : Unit) => [(0, AObj.blk (Blk.mk [Value.int
 IntKind.i64 (↑last : Int), Value.map (some 1)] 2 1 62 true true 0 true)), (1, AObj.map [] last), (2, nb0), (3, nb1), (4, nb2 2), (5, nb3), (6, nb4),
 (7, nb5), (8, nb6), (9, nb7)]) (fun (x : Unit) => Value.slice none 0 0) (fun (x : Unit) => [(9, AObj.blk (Blk.mk [Value.int IntKind.i64 (↑last : Int),
 Value.map (some 10)] 2 1 62 true true 0 true)), (10, AObj.map [] last), (11, nb0), (12, nb1), (13, nb2 11), (14, nb3), (15, nb4), (16, nb5), (17, nb6),
 (18, nb7)]) fun (x : Unit) => Tr.auto 6 (Tr.cm (Cm.mk [Value.pointer (some (Addr.mk 0 0 none))] [(0, AObj.blk (Blk.mk [Value.int IntKind.i64 (↑last :
 Int), Value.map (some 1)] 2 1 62 true true 0 true)), (1, AObj.map [] last)] 2 2 [(0, 9), (1, 10)] [(9, 0), (10, 1)] 22) Unit (fun (x : Unit) => True)
 (fun (x : Unit) => iv 0) (fun (x : Unit) => [(0, AObj.blk (Blk.mk [Value.int IntKind.i64 (↑last : Int), Value.map (some 1)] 2 1 62 true true 0 true)),
 (1, AObj.map [] last)]) (fun (x : Unit) => I 0) (fun (x : Unit) => [(9, AObj.blk (Blk.mk [Value.int IntKind.i64 (↑last : Int), Value.map (some 10)] 2 1
 62 true true 0 true)), (10, AObj.map [] last)]) fun (x : Unit) => Tr.auto 7 (Tr.cm (Cm.mk [Value.pointer (some (Addr.mk 0 0 none)), nV 2, I 5] [(0,
 AObj.blk (Blk.mk [Value.int IntKind.i64 (↑last : Int), Value.map (some 1)] 2 1 62 true true 0 true)), (1, AObj.map [] last), (2, nb0), (3, nb1), (4,
 nb2 2), (5, nb3), (6, nb4), (7, nb5), (8, nb6), (9, nb7)] 10 10 [(0, 9), (1, 10), (2, 11), (3, 12), (4, 13), (5, 14), (6, 15), (7, 16), (8, 17), (9,
 18)] [(9, 0), (10, 1), (11, 2), (12, 3), (13, 4), (14, 5), (15, 6), (16, 7), (17, 8), (18, 9)] 22) Unit (fun (x : Unit) => True) (fun (x : Unit) =>
 nilS) (fun (x : Unit) => (0, wst last 1) :: (1, AObj.map (ents []) last) :: nZ 2) (fun (x : Unit) => Value.slice none 0 0) (fun (x : Unit) => [(9,
 AObj.blk (Blk.mk [Value.int IntKind.i64 (↑last : Int), Value.map (some 10)] 2 1 62 true true 0 true)), (10, AObj.map [] last), (11, nb0), (12, nb1),
 (13, nb2 11), (14, nb3), (15, nb4), (16, nb5), (17, nb6), (18, nb7)]) fun (x : Unit) => Tr.auto 2 (Tr.lp 22 202 [(9, 9), (19, 19), (10, 10), (11, 11),
 (12, 12), (13, 13), (18, 18), (14, 14), (15, 15), (16, 16), (17, 17)] (lvC n cp nilS nilS last i 0) (zn3 last []) 22 (Al.cons Unit (fun (x : Unit) =>
 True) (fun (x : Unit) => (AExit.exit 5, lvCo n cp last i, zn3 last [], 22)) (fun (x : Unit) => Tr.cm (Cm.mk [Value.pointer (some (Addr.mk 0 0 none))]
 [(0, AObj.blk (Blk.mk [Value.int IntKind.i64 (↑last : Int), Value.map (some 1)] 2 1 62 true true 0 true)), (1, AObj.map [] last)] 2 2 [(0, 9), (1, 10)]
 [(9, 0), (10, 1)] 22) Unit (fun (x : Unit) => True) (fun (x : Unit) => iv 0) (fun (x : Unit) => [(0, AObj.blk (Blk.mk [Value.int IntKind.i64 (↑last :
 Int), Value.map (some 1)] 2 1 62 true true 0 true)), (1, AObj.map [] last)]) (fun (x : Unit) => I 0) (fun (x : Unit) => [(9, AObj.blk (Blk.mk
 [Value.int IntKind.i64 (↑last : Int), Value.map (some 10)] 2 1 62 true true 0 true)), (10, AObj.map [] last)]) fun (x : Unit) => Tr.auto 2 (Tr.one
 (An.val (Value.int IntKind.i64 (↑(i + 1) : Int))) (Tr.fin [(9, 9), (10, 10), (11, 11), (12, 12), (13, 13), (14, 14), (15, 15), (16, 16), (17, 17), (18,
 18), (19, 19)] [(0, Value.slice (some (Addr.mk 510 0 none)) n cp), (8, Value.pointer (some (Addr.mk 9 0 none))), (9, Value.pointer (some (Addr.mk 19 0
 none))), (10, Value.slice none 0 0), (11, Value.int IntKind.i64 (↑(last + 1) : Int)), (12, Value.int IntKind.i64 (↑(i + 1) : Int))] [(9, AObj.blk
 (Blk.mk [Value.int IntKind.i64 (↑last : Int), Value.map (some 10)] 2 1 62 true true 0 true)), (10, AObj.map [] last), (11, nb0), (12, nb1), (13, nb2
 11), (14, nb3), (15, nb4), (16, nb5), (17, nb6), (18, nb7), (19, nBox 11)] 21))) Al.nil))))))).fork (Tr.auto 1 (Tr.lp 21 202 [(9, 9), (19, 19), (10,
 10), (11, 11), (12, 12), (13, 13), (18, 18), (14, 14), (15, 15), (16, 16), (17, 17)] (lvL n cp nilS nilS last i 0) (zn3 last []) 21 (Al.cons Unit (fun
 (x : Unit) => True) (fun (x : Unit) => (AExit.exit 3, lvLo n cp nilS nilS last i, zn3 last [], 21)) (fun (x : Unit) => Tr.one (An.idx i) (Tr.one (An.ld
 0 kl (Value.int IntKind.i64 y)) (Tr.cm (Cm.mk [Value.pointer (some (Addr.mk 0 0 none)), Value.int IntKind.i64 y] [(0, AObj.blk (Blk.mk [Value.int
 IntKind.i64 (↑last : Int), Value.map (some 1)] 2 1 62 true true 0 true)), (1, AObj.map [] last)] 2 2 [(0, 9), (1, 10)] [(9, 0), (10, 1)] 21) Nat (fun
 (e : Nat) => (e = 0 ∧ ∃ (k : Nat), k ∈ [] ∧ (↑k : Int) = y) ∨ e = 7 ∧ ∀ (k : Nat), k ∈ [] → (↑k : Int) ≠ y) (fun (e : Nat) => iv e) (fun (x : Nat) =>
 [(0, wst last 1), (1, AObj.map (ents (gone y [])) last)]) (fun (x : Nat) => Value.int IntKind.i64 (↑x : Int)) (fun (x : Nat) => [(9, AObj.blk (Blk.mk
 [Value.int IntKind.i64 (↑last : Int), Value.map (some 10)] 2 1 62 true true 0 true)), (10, AObj.map [] last)]) fun (x : Nat) => (Tr.auto 8 (Tr.fin [(9,
 9), (10, 10), (11, 11), (12, 12), (13, 13), (14, 14), (15, 15), (16, 16), (17, 17), (18, 18), (19, 19)] [(2, F0)] [(9, AObj.blk (Blk.mk [Value.int
 IntKind.i64 (↑last : Int), Value.map (some 10)] 2 1 62 true true 0 true)), (10, AObj.map [] last), (11, nb0), (12, nb1), (13, nb2 11), (14, nb3), (15,
 nb4), (16, nb5), (17, nb6), (18, nb7), (19, nBox 11)] 21)).fork (Tr.auto 4 ((Tr.auto 3 ((Tr.auto 4 (Tr.fin [(9, 9), (10, 10), (11, 11), (12, 12), (13,
 13), (14, 14), (15, 15), (16, 16), (17, 17), (18, 18), (19, 19)] [(2, F0)] [(9, AObj.blk (Blk.mk [Value.int IntKind.i64 (↑last : Int), Value.map (some
 10)] 2 1 62 true true 0 true)), (10, AObj.map [] last), (11, nb0), (12, nb1), (13, nb2 11), (14, nb3), (15, nb4), (16, nb5), (17, nb6), (18, nb7), (19,
 nBox 11)] 21)).fork (Tr.auto 4 (Tr.cm (Cm.mk [Value.pointer (some (Addr.mk 0 0 none))] [(0, AObj.blk (Blk.mk [Value.int IntKind.i64 (↑last : Int),
 Value.map (some 1)] 2 1 62 true true 0 true)), (1, AObj.map [] last)] 2 2 [(0, 9), (1, 10)] [(9, 0), (10, 1)] 21) Unit (fun (x : Unit) => True) (fun (x
 : Unit) => iv 0) (fun (x : Unit) => [(0, AObj.blk (Blk.mk [Value.int IntKind.i64 (↑last : Int), Value.map (some 1)] 2 1 62 true true 0 true)), (1,
 AObj.map [] last)]) (fun (x : Unit) => I 0) (fun (x : Unit) => [(9, AObj.blk (Blk.mk [Value.int IntKind.i64 (↑last : Int), Value.map (some 10)] 2 1 62
 true true 0 true)), (10, AObj.map [] last)]) fun (x : Unit) => Tr.auto 2 (Tr.one (An.val (Value.int IntKind.i64 (↑(i + 1) : Int))) (Tr.fin [(9, 9),
 (10, 10), (11, 11), (12, 12), (13, 13), (14, 14), (15, 15), (16, 16), (17, 17), (18, 18), (19, 19)] [(0, Value.slice (some (Addr.mk 510 0 none)) n cp),
 (8, Value.pointer (some (Addr.mk 9 0 none))), (9, Value.pointer (some (Addr.mk 19 0 none))), (10, Value.slice none 0 0), (11, Value.int IntKind.i64
 (↑(last + 1) : Int)), (12, Value.int IntKind.i64 (↑(i + 1) : Int))] [(9, AObj.blk (Blk.mk [Value.int IntKind.i64 (↑last : Int), Value.map (some 10)] 2
 1 62 true true 0 true)), (10, AObj.map [] last), (11, nb0), (12, nb1), (13, nb2 11), (14, nb3), (15, nb4), (16, nb5), (17, nb6), (18, nb7), (19, nBox
 11)] 21)))))).fork (Tr.auto 7 (Tr.cm (Cm.mk [Value.pointer (some (Addr.mk 0 0 none))] [(0, AObj.blk (Blk.mk [Value.int IntKind.i64 (↑last : Int),
 Value.map (some 1)] 2 1 62 true true 0 true)), (1, AObj.map [] last)] 2 2 [(0, 9), (1, 10)] [(9, 0), (10, 1)] 21) Unit (fun (x : Unit) => True) (fun (x
 : Unit) => iv 0) (fun (x : Unit) => [(0, AObj.blk (Blk.mk [Value.int IntKind.i64 (↑last : Int), Value.map (some 1)] 2 1 62 true true 0 true)), (1,
 AObj.map [] last)]) (fun (x : Unit) => I 0) (fun (x : Unit) => [(9, AObj.blk (Blk.mk [Value.int IntKind.i64 (↑last : Int), Value.map (some 10)] 2 1 62
 true true 0 true)), (10, AObj.map [] last)]) fun (x : Unit) => Tr.auto 2 (Tr.one (An.val (Value.int IntKind.i64 (↑(i + 1) : Int))) (Tr.fin [(9, 9),
 (10, 10), (11, 11), (12, 12), (13, 13), (14, 14), (15, 15), (16, 16), (17, 17), (18, 18), (19, 19)] [(0, Value.slice (some (Addr.mk 510 0 none)) n cp),
 (8, Value.pointer (some (Addr.mk 9 0 none))), (9, Value.pointer (some (Addr.mk 19 0 none))), (10, Value.slice none 0 0), (11, Value.int IntKind.i64
 (↑(last + 1) : Int)), (12, Value.int IntKind.i64 (↑(i + 1) : Int))] [(9, AObj.blk (Blk.mk [Value.int IntKind.i64 (↑last : Int), Value.map (some 10)] 2
 1 62 true true 0 true)), (10, AObj.map [] last), (11, nb0), (12, nb1), (13, nb2 11), (14, nb3), (15, nb4), (16, nb5), (17, nb6), (18, nb7), (19, nBox
 11)] 21))))))))) Al.nil))))))))))).fork (Tr.auto 1 (Tr.fin [(9, 9), (10, 10), (11, 11), (12, 12), (13, 13), (14, 14), (15, 15), (16, 16), (17, 17),
 (18, 18), (19, 19)] [] [(9, AObj.blk (Blk.mk [Value.int IntKind.i64 (↑last : Int), Value.map (some 10)] 2 1 62 true true 0 true)), (10, AObj.map []
 last), (11, nb0), (12, nb1), (13, nb2 11), (14, nb3), (15, nb4), (16, nb5), (17, nb6), (18, nb7), (19, nBox 11)] 21)),
 Eq.mp (by kernel_rfl) hyp⟩

set_option maxRecDepth 1000000 in
theorem r3r (z : T AObj) (g : Nat → List Value → Option Value) (n : Nat) (cp : Nat) (last : Nat) (i : Nat) (y : Int) (kl : Blk) (ids : List Nat) (Q : AExit → Live → Zone → Nat → Prop) (hyp :
   (decide ((↑i : Int) < (↑n : Int)) = true → (↑i : Int) = (↑i : Int) ∧ i < n ∧ 510 = 510 ∧ z.get 0 = some (AObj.blk kl) ∧ readB Tryz.prog kl 3 (0 + i *
 1) = some (Value.int IntKind.i64 y) ∧ ((y == 0) = true → z = z ∧ (CallA Tryz.prog z 4 [Value.pointer (some (Addr.mk 0 0 none)), nV 2, Value.agg
 (Array.mk [I 1, I 1, I 0, F0, I 0, I 0, F0, F0, I 0, F0]), Value.agg (Array.mk [Value.slice none 0 0])] [(0, AObj.blk (Blk.mk [Value.int IntKind.i64
 (↑last : Int), Value.map (some 1)] 2 1 62 true true 0 true)), (1, AObj.map (ents ids) last), (2, nb0), (3, nb1), (4, nb2 2), (5, nb3), (6, nb4), (7,
 nb5), (8, nb6), (9, nb7)] 10 10 (fun (x : Unit) => True) (fun (x : Unit) => Value.tuple (Array.mk [iv (last + 1), I 0])) fun (x : Unit) => (0, wst
 (last + 1) 1) :: (1, AObj.map (ents (ids ++ [last + 1])) (last + 1)) :: nZ 2) ∧ some [Value.pointer (some (Addr.mk 9 0 none)), nV 11, Value.agg
 (Array.mk [I 1, I 1, I 0, F0, I 0, I 0, F0, F0, I 0, F0]), Value.agg (Array.mk [Value.slice none 0 0])] = some [Value.pointer (some (Addr.mk 9 0
 none)), nV 11, Value.agg (Array.mk [I 1, I 1, I 0, F0, I 0, I 0, F0, F0, I 0, F0]), Value.agg (Array.mk [Value.slice none 0 0])] ∧ some (AObj.blk
 (Blk.mk [Value.int IntKind.i64 (↑last : Int), Value.map (some 10)] 2 1 62 true true 0 true)) = some (AObj.blk (Blk.mk [Value.int IntKind.i64 (↑last :
 Int), Value.map (some 10)] 2 1 62 true true 0 true)) ∧ renO (sig [(0, 9), (1, 10), (2, 11), (3, 12), (4, 13), (5, 14), (6, 15), (7, 16), (8, 17), (9,
 18)]) (AObj.map (ents ids) last) = some (AObj.map (ents ids) last) ∧ some nb0 = some nb0 ∧ some nb1 = some nb1 ∧ some (nb2 11) = some (nb2 11) ∧ some
 nb3 = some nb3 ∧ some nb4 = some nb4 ∧ some nb5 = some nb5 ∧ some nb6 = some nb6 ∧ some nb7 = some nb7 ∧ ∀ (x : Unit), True → some (Value.tuple
 (Array.mk [Value.int IntKind.i64 (↑(last + 1) : Int), I 0])) = some (Value.tuple (Array.mk [Value.int IntKind.i64 (↑(last + 1) : Int), I 0])) ∧ some
 (AObj.blk (Blk.mk [Value.int IntKind.i64 (↑(last + 1) : Int), Value.map (some 1)] 2 1 62 true true 0 true)) = some (AObj.blk (Blk.mk [Value.int
 IntKind.i64 (↑(last + 1) : Int), Value.map (some 1)] 2 1 62 true true 0 true)) ∧ renO (sig [(9, 0), (10, 1), (11, 2), (12, 3), (13, 4), (14, 5), (15,
 6), (16, 7), (17, 8), (18, 9)]) (AObj.map (ents (ids ++ [last + 1])) (last + 1)) = some (AObj.map (ents (ids ++ [last + 1])) (last + 1)) ∧ some nb0 =
 some nb0 ∧ some nb1 = some nb1 ∧ some (nb2 2) = some (nb2 2) ∧ some nb3 = some nb3 ∧ some nb4 = some nb4 ∧ some nb5 = some nb5 ∧ some nb6 = some nb6 ∧
 some nb7 = some nb7 ∧ (((↑(last + 1) : Int) != (↑(last + 1) : Int)) = true → true = true ∧ 202 = 202 ∧ true = true ∧ z = z ∧ some F0 = some F0 ∧ some
 (AObj.blk (Blk.mk [Value.int IntKind.i64 (↑(last + 1) : Int), Value.map (some 10)] 2 1 62 true true 0 true)) = some (AObj.blk (Blk.mk [Value.int
 IntKind.i64 (↑(last + 1) : Int), Value.map (some 10)] 2 1 62 true true 0 true)) ∧ renO (sig [(9, 9), (10, 10), (11, 11), (12, 12), (13, 13), (14, 14),
 (15, 15), (16, 16), (17, 17), (18, 18), (19, 19)]) (AObj.map (ents (ids ++ [last + 1])) (last + 1)) = some (AObj.map (ents (ids ++ [last + 1])) (last +
 1)) ∧ some nb0 = some nb0 ∧ some nb1 = some nb1 ∧ some (nb2 11) = some (nb2 11) ∧ some nb3 = some nb3 ∧ some nb4 = some nb4 ∧ some nb5 = some nb5 ∧
 some nb6 = some nb6 ∧ some nb7 = some nb7 ∧ some (nBox 11) = some (nBox 11) ∧ Q AExit.ret [(2, F0)] [(9, AObj.blk (Blk.mk [Value.int IntKind.i64
 (↑(last + 1) : Int), Value.map (some 10)] 2 1 62 true true 0 true)), (10, AObj.map (ents (ids ++ [last + 1])) (last + 1)), (11, nb0), (12, nb1), (13,
 nb2 11), (14, nb3), (15, nb4), (16, nb5), (17, nb6), (18, nb7), (19, nBox 11)] 21) ∧ (((↑(last + 1) : Int) != (↑(last + 1) : Int)) = false → some
 [Value.int IntKind.i64 (↑(last + 1) : Int)] = some [Value.int IntKind.i64 (↑(last + 1) : Int)] ∧ ids.length = ids.length ∧ (List.map iv ids).length =
 ids.length * 1 ∧ ids.length * 1 = ids.length * 1 ∧ ids.length + 1 ≤ 1048576 ∧ Value.int IntKind.i64 (IntKind.i64.wrap ((↑(last + 1) : Int) + 1)) =
 Value.int IntKind.i64 (↑(last + 1 + 1) : Int) ∧ z = z ∧ (CallA Tryz.prog z 6 [Value.pointer (some (Addr.mk 0 0 none))] [(0, AObj.blk (Blk.mk [Value.int
 IntKind.i64 (↑(last + 1) : Int), Value.map (some 1)] 2 1 62 true true 0 true)), (1, AObj.map (ents (ids ++ [last + 1])) (last + 1))] 2 2 (fun (x :
 Unit) => True) (fun (x : Unit) => iv (ents (ids ++ [last + 1])).length) fun (x : Unit) => [(0, AObj.blk (Blk.mk [Value.int IntKind.i64 (↑(last + 1) :
 Int), Value.map (some 1)] 2 1 62 true true 0 true)), (1, AObj.map (ents (ids ++ [last + 1])) (last + 1))]) ∧ some [Value.pointer (some (Addr.mk 9 0
 none))] = some [Value.pointer (some (Addr.mk 9 0 none))] ∧ some (AObj.blk (Blk.mk [Value.int IntKind.i64 (↑(last + 1) : Int), Value.map (some 10)] 2 1
 62 true true 0 true)) = some (AObj.blk (Blk.mk [Value.int IntKind.i64 (↑(last + 1) : Int), Value.map (some 10)] 2 1 62 true true 0 true)) ∧ renO (sig
 [(0, 9), (1, 10)]) (AObj.map (ents (ids ++ [last + 1])) (last + 1)) = some (AObj.map (ents (ids ++ [last + 1])) (last + 1)) ∧ ∀ (x : Unit), True → some
 (Value.int IntKind.i64 (↑(ents (ids ++ [last + 1])).length : Int)) = some (Value.int IntKind.i64 (↑(ents (ids ++ [last + 1])).length : Int)) ∧ some
 (AObj.blk (Blk.mk [Value.int IntKind.i64 (↑(last + 1) : Int), Value.map (some 1)] 2 1 62 true true 0 true)) = some (AObj.blk (Blk.mk [Value.int
 IntKind.i64 (↑(last + 1) : Int), Value.map (some 1)] 2 1 62 true true 0 true)) ∧ renO (sig [(9, 0), (10, 1)]) (AObj.map (ents (ids ++ [last + 1]))
 (last + 1)) = some (AObj.map (ents (ids ++ [last + 1])) (last + 1)) ∧ (((↑(ents (ids ++ [last + 1])).length : Int) != (↑(ids.length + 1) : Int)) = true
 → true = true ∧ 202 = 202 ∧ true = true ∧ z = z ∧ some F0 = some F0 ∧ some (AObj.blk (Blk.mk [Value.int IntKind.i64 (↑(last + 1) : Int), Value.map
 (some 10)] 2 1 62 true true 0 true)) = some (AObj.blk (Blk.mk [Value.int IntKind.i64 (↑(last + 1) : Int), Value.map (some 10)] 2 1 62 true true 0
 true)) ∧ renO (sig [(9, 9), (10, 10), (11, 11), (12, 12), (13, 13), (14, 14), (15, 15), (16, 16), (17, 17), (18, 18), (19, 19)]) (AObj.map (ents (ids
 ++ [last + 1])) (last + 1)) = some (AObj.map (ents (ids ++ [last + 1])) (last + 1)) ∧ some nb0 = some nb0 ∧ some nb1 = some nb1 ∧ some (nb2 11) = some
 (nb2 11) ∧ some nb3 = some nb3 ∧ some nb4 = some nb4 ∧ some nb5 = some nb5 ∧ some nb6 = some nb6 ∧ some nb7 = some nb7 ∧ some (nBox 11) = some (nBox
 11) ∧ Q AExit.ret [(2, F0)] [(9, AObj.blk (Blk.mk [Value.int IntKind.i64 (↑(last + 1) : Int), Value.map (some 10)] 2 1 62 true true 0 true)), (10,
 AObj.map (ents (ids ++ [last + 1])) (last + 1)), (11, nb0), (12, nb1), (13, nb2 11), (14, nb3), (15, nb4), (16, nb5), (17, nb6), (18, nb7), (19, nBox
 11)] 21) ∧ (((↑(ents (ids ++ [last + 1])).length : Int) != (↑(ids.length + 1) : Int)) = false → Value.int IntKind.i64 (IntKind.i64.wrap ((↑i : Int) +
 1)) = Value.int IntKind.i64 (↑(i + 1) : Int) ∧ true = true ∧ 202 = 202 ∧ true = true ∧ z = z ∧ some (Value.slice (some (Addr.mk 510 0 none)) n cp) =
 some (Value.slice (some (Addr.mk 510 0 none)) n cp) ∧ some (Value.pointer (some (Addr.mk 9 0 none))) = some (Value.pointer (some (Addr.mk 9 0 none))) ∧
 some (Value.pointer (some (Addr.mk 19 0 none))) = some (Value.pointer (some (Addr.mk 19 0 none))) ∧ some (Value.slice (some (Addr.mk 22 0 none))
 (ids.length + 1) (ids.length + 1)) = some (Value.slice (some (Addr.mk 22 0 none)) (ids.length + 1) (ids.length + 1)) ∧ some (Value.int IntKind.i64
 (↑(last + 1 + 1) : Int)) = some (Value.int IntKind.i64 (↑(last + 1 + 1) : Int)) ∧ some (Value.int IntKind.i64 (↑(i + 1) : Int)) = some (Value.int
 IntKind.i64 (↑(i + 1) : Int)) ∧ some (AObj.blk (Blk.mk [Value.int IntKind.i64 (↑(last + 1) : Int), Value.map (some 10)] 2 1 62 true true 0 true)) =
 some (AObj.blk (Blk.mk [Value.int IntKind.i64 (↑(last + 1) : Int), Value.map (some 10)] 2 1 62 true true 0 true)) ∧ renO (sig [(9, 9), (10, 10), (11,
 11), (12, 12), (13, 13), (14, 14), (15, 15), (16, 16), (17, 17), (18, 18), (19, 19), (20, 22)]) (AObj.map (ents (ids ++ [last + 1])) (last + 1)) = some
 (AObj.map (ents (ids ++ [last + 1])) (last + 1)) ∧ some nb0 = some nb0 ∧ some nb1 = some nb1 ∧ some (nb2 11) = some (nb2 11) ∧ some nb3 = some nb3 ∧
 some nb4 = some nb4 ∧ some nb5 = some nb5 ∧ some nb6 = some nb6 ∧ some nb7 = some nb7 ∧ some (nBox 11) = some (nBox 11) ∧ renO (sig [(9, 9), (10, 10),
 (11, 11), (12, 12), (13, 13), (14, 14), (15, 15), (16, 16), (17, 17), (18, 18), (19, 19), (20, 22)]) (AObj.blk (Blk.mk (List.map iv ids ++ [Value.int
 IntKind.i64 (↑(last + 1) : Int)]) ((ids.length + 1) * 1) 1 3 false false 0 true)) = some (AObj.blk (Blk.mk (List.map iv ids ++ [Value.int IntKind.i64
 (↑(last + 1) : Int)]) ((ids.length + 1) * 1) 1 3 false false 0 true)) ∧ Q AExit.normal [(0, Value.slice (some (Addr.mk 510 0 none)) n cp), (8,
 Value.pointer (some (Addr.mk 9 0 none))), (9, Value.pointer (some (Addr.mk 19 0 none))), (10, Value.slice (some (Addr.mk 20 0 none)) (ids.length + 1)
 (ids.length + 1)), (11, Value.int IntKind.i64 (↑(last + 1 + 1) : Int)), (12, Value.int IntKind.i64 (↑(i + 1) : Int))] [(9, AObj.blk (Blk.mk [Value.int
 IntKind.i64 (↑(last + 1) : Int), Value.map (some 10)] 2 1 62 true true 0 true)), (10, AObj.map (ents (ids ++ [last + 1])) (last + 1)), (11, nb0), (12,
 nb1), (13, nb2 11), (14, nb3), (15, nb4), (16, nb5), (17, nb6), (18, nb7), (19, nBox 11), (20, AObj.blk (Blk.mk (List.map iv ids ++ [Value.int
 IntKind.i64 (↑(last + 1) : Int)]) ((ids.length + 1) * 1) 1 3 false false 0 true))] 21))) ∧ ((y == 0) = false → (↑i : Int) = (↑i : Int) ∧ i < n ∧ 510 =
 510 ∧ z.get 0 = some (AObj.blk kl) ∧ readB Tryz.prog kl 3 (0 + i * 1) = some (Value.int IntKind.i64 y) ∧ (decide (y < 0) = true → z = z ∧ (CallA
 Tryz.prog z 7 [Value.pointer (some (Addr.mk 0 0 none)), Value.agg (Array.mk [Value.slice none 0 0, Value.slice none 0 0, Value.slice (some (Addr.mk 2 0
 none)) 1 1, Value.slice none 0 0, Value.slice none 0 0, Value.slice none 0 0, I 0, I 0, I 0]), I 5] [(0, AObj.blk (Blk.mk [Value.int IntKind.i64 (↑last
 : Int), Value.map (some 1)] 2 1 62 true true 0 true)), (1, AObj.map (ents ids) last), (2, AObj.blk (Blk.mk [I 0, I 0, I 0, Value.string (ByteArray.mk
 #[]), I 0, F0, F0, Value.slice none 0 0] 8 8 53 true true 0 true))] 3 3 (fun (x : Unit) => True) (fun (x : Unit) => nilS) fun (x : Unit) => [(0,
 AObj.blk (Blk.mk [Value.int IntKind.i64 (↑last : Int), Value.map (some 1)] 2 1 62 true true 0 true)), (1, AObj.map (ents ids) last), (2, AObj.blk
 (Blk.mk [I 0, I 0, I 0, Value.string (ByteArray.mk #[]), I 0, F0, F0, Value.slice none 0 0] 8 8 53 true true 0 true))]) ∧ some [Value.pointer (some
 (Addr.mk 9 0 none)), Value.agg (Array.mk [Value.slice none 0 0, Value.slice none 0 0, Value.slice (some (Addr.mk 21 0 none)) 1 1, Value.slice none 0 0,
 Value.slice none 0 0, Value.slice none 0 0, I 0, I 0, I 0]), I 5] = some [Value.pointer (some (Addr.mk 9 0 none)), Value.agg (Array.mk [Value.slice
 none 0 0, Value.slice none 0 0, Value.slice (some (Addr.mk 21 0 none)) 1 1, Value.slice none 0 0, Value.slice none 0 0, Value.slice none 0 0, I 0, I 0,
 I 0]), I 5] ∧ some (AObj.blk (Blk.mk [Value.int IntKind.i64 (↑last : Int), Value.map (some 10)] 2 1 62 true true 0 true)) = some (AObj.blk (Blk.mk
 [Value.int IntKind.i64 (↑last : Int), Value.map (some 10)] 2 1 62 true true 0 true)) ∧ renO (sig [(0, 9), (1, 10), (2, 21)]) (AObj.map (ents ids) last)
 = some (AObj.map (ents ids) last) ∧ some (AObj.blk (Blk.mk [I 0, I 0, I 0, Value.string (ByteArray.mk #[]), I 0, F0, F0, Value.slice none 0 0] 8 8 53
 true true 0 true)) = some (AObj.blk (Blk.mk [I 0, I 0, I 0, Value.string (ByteArray.mk #[]), I 0, F0, F0, Value.slice none 0 0] 8 8 53 true true 0
 true)) ∧ ∀ (x : Unit), True → some (Value.slice none 0 0) = some (Value.slice none 0 0) ∧ some (AObj.blk (Blk.mk [Value.int IntKind.i64 (↑last : Int),
 Value.map (some 1)] 2 1 62 true true 0 true)) = some (AObj.blk (Blk.mk [Value.int IntKind.i64 (↑last : Int), Value.map (some 1)] 2 1 62 true true 0
 true)) ∧ renO (sig [(9, 0), (10, 1), (21, 2)]) (AObj.map (ents ids) last) = some (AObj.map (ents ids) last) ∧ some (AObj.blk (Blk.mk [I 0, I 0, I 0,
 Value.string (ByteArray.mk #[]), I 0, F0, F0, Value.slice none 0 0] 8 8 53 true true 0 true)) = some (AObj.blk (Blk.mk [I 0, I 0, I 0, Value.string
 (ByteArray.mk #[]), I 0, F0, F0, Value.slice none 0 0] 8 8 53 true true 0 true)) ∧ z = z ∧ (CallA Tryz.prog z 7 [Value.pointer (some (Addr.mk 0 0
 none)), nV 2, J 0] [(0, AObj.blk (Blk.mk [Value.int IntKind.i64 (↑last : Int), Value.map (some 1)] 2 1 62 true true 0 true)), (1, AObj.map (ents ids)
 last), (2, nb0), (3, nb1), (4, nb2 2), (5, nb3), (6, nb4), (7, nb5), (8, nb6), (9, nb7)] 10 10 (fun (x : Unit) => True) (fun (x : Unit) => nilS) fun (x
 : Unit) => [(0, AObj.blk (Blk.mk [Value.int IntKind.i64 (↑last : Int), Value.map (some 1)] 2 1 62 true true 0 true)), (1, AObj.map (ents ids) last),
 (2, nb0), (3, nb1), (4, nb2 2), (5, nb3), (6, nb4), (7, nb5), (8, nb6), (9, nb7)]) ∧ some [Value.pointer (some (Addr.mk 9 0 none)), nV 11, J 0] = some
 [Value.pointer (some (Addr.mk 9 0 none)), nV 11, J 0] ∧ some (AObj.blk (Blk.mk [Value.int IntKind.i64 (↑last : Int), Value.map (some 10)] 2 1 62 true
 true 0 true)) = some (AObj.blk (Blk.mk [Value.int IntKind.i64 (↑last : Int), Value.map (some 10)] 2 1 62 true true 0 true)) ∧ renO (sig [(0, 9), (1,
 10), (2, 11), (3, 12), (4, 13), (5, 14), (6, 15), (7, 16), (8, 17), (9, 18)]) (AObj.map (ents ids) last) = some (AObj.map (ents ids) last) ∧ some nb0 =
 some nb0 ∧ some nb1 = some nb1 ∧ some (nb2 11) = some (nb2 11) ∧ some nb3 = some nb3 ∧ some nb4 = some nb4 ∧ some nb5 = some nb5 ∧ some nb6 = some nb6
 ∧ some nb7 = some nb7 ∧ ∀ (x : Unit), True → some (Value.slice none 0 0) = some (Value.slice none 0 0) ∧ some (AObj.blk (Blk.mk [Value.int IntKind.i64
 (↑last : Int), Value.map (some 1)] 2 1 62 true true 0 true)) = some (AObj.blk (Blk.mk [Value.int IntKind.i64 (↑last : Int), Value.map (some 1)] 2 1 62
 true true 0 true)) ∧ renO (sig [(9, 0), (10, 1), (11, 2), (12, 3), (13, 4), (14, 5), (15, 6), (16, 7), (17, 8), (18, 9)]) (AObj.map (ents ids) last) =
 some (AObj.map (ents ids) last) ∧ some nb0 = some nb0 ∧ some nb1 = some nb1 ∧ some (nb2 2) = some (nb2 2) ∧ some nb3 = some nb3 ∧ some nb4 = some nb4 ∧
 some nb5 = some nb5 ∧ some nb6 = some nb6 ∧ some nb7 = some nb7 ∧ z = z ∧ (CallA Tryz.prog z 6 [Value.pointer (some (Addr.mk 0 0 none))] [(0, AObj.blk
 (Blk.mk [Value.int IntKind.i64 (↑last : Int), Value.map (some 1)] 2 1 62 true true 0 true)), (1, AObj.map (ents ids) last)] 2 2 (fun (x : Unit) =>
 True) (fun (x : Unit) => iv (ents ids).length) fun (x : Unit) => [(0, AObj.blk (Blk.mk [Value.int IntKind.i64 (↑last : Int), Value.map (some 1)] 2 1 62
 true true 0 true)), (1, AObj.map (ents ids) last)]) ∧ some [Value.pointer (some (Addr.mk 9 0 none))] = some [Value.pointer (some (Addr.mk 9 0 none))] ∧
 some (AObj.blk (Blk.mk [Value.int IntKind.i64 (↑last : Int), Value.map (some 10)] 2 1 62 true true 0 true)) = some (AObj.blk (Blk.mk [Value.int
 IntKind.i64 (↑last : Int), Value.map (some 10)] 2 1 62 true true 0 true)) ∧ renO (sig [(0, 9), (1, 10)]) (AObj.map (ents ids) last) = some (AObj.map
 (ents ids) last) ∧ ∀ (x : Unit), True → some (Value.int IntKind.i64 (↑(ents ids).length : Int)) = some (Value.int IntKind.i64 (↑(ents ids).length :
 Int)) ∧ some (AObj.blk (Blk.mk [Value.int IntKind.i64 (↑last : Int), Value.map (some 1)] 2 1 62 true true 0 true)) = some (AObj.blk (Blk.mk [Value.int
 IntKind.i64 (↑last : Int), Value.map (some 1)] 2 1 62 true true 0 true)) ∧ renO (sig [(9, 0), (10, 1)]) (AObj.map (ents ids) last) = some (AObj.map
 (ents ids) last) ∧ (((↑(ents ids).length : Int) != (↑ids.length : Int)) = true → true = true ∧ 202 = 202 ∧ true = true ∧ z = z ∧ some F0 = some F0 ∧
 some (AObj.blk (Blk.mk [Value.int IntKind.i64 (↑last : Int), Value.map (some 10)] 2 1 62 true true 0 true)) = some (AObj.blk (Blk.mk [Value.int
 IntKind.i64 (↑last : Int), Value.map (some 10)] 2 1 62 true true 0 true)) ∧ renO (sig [(9, 9), (10, 10), (11, 11), (12, 12), (13, 13), (14, 14), (15,
 15), (16, 16), (17, 17), (18, 18), (19, 19)]) (AObj.map (ents ids) last) = some (AObj.map (ents ids) last) ∧ some nb0 = some nb0 ∧ some nb1 = some nb1
 ∧ some (nb2 11) = some (nb2 11) ∧ some nb3 = some nb3 ∧ some nb4 = some nb4 ∧ some nb5 = some nb5 ∧ some nb6 = some nb6 ∧ some nb7 = some nb7 ∧ some
 (nBox 11) = some (nBox 11) ∧ Q AExit.ret [(2, F0)] [(9, AObj.blk (Blk.mk [Value.int IntKind.i64 (↑last : Int), Value.map (some 10)] 2 1 62 true true 0
 true)), (10, AObj.map (ents ids) last), (11, nb0), (12, nb1), (13, nb2 11), (14, nb3), (15, nb4), (16, nb5), (17, nb6), (18, nb7), (19, nBox 11)] 21) ∧
 (((↑(ents ids).length : Int) != (↑ids.length : Int)) = false → z = z ∧ (CallA Tryz.prog z 7 [Value.pointer (some (Addr.mk 0 0 none)), nV 2, I 5] [(0,
 AObj.blk (Blk.mk [Value.int IntKind.i64 (↑last : Int), Value.map (some 1)] 2 1 62 true true 0 true)), (1, AObj.map (ents ids) last), (2, nb0), (3,
 nb1), (4, nb2 2), (5, nb3), (6, nb4), (7, nb5), (8, nb6), (9, nb7)] 10 11 (fun (x : Unit) => True) (fun (x : Unit) => sl 10 ids.length) fun (x : Unit)
 => (0, wst last 1) :: (1, AObj.map (ents []) last) :: nZ 2 ++ [(10, chgB ids)]) ∧ some [Value.pointer (some (Addr.mk 9 0 none)), nV 11, I 5] = some
 [Value.pointer (some (Addr.mk 9 0 none)), nV 11, I 5] ∧ some (AObj.blk (Blk.mk [Value.int IntKind.i64 (↑last : Int), Value.map (some 10)] 2 1 62 true
 true 0 true)) = some (AObj.blk (Blk.mk [Value.int IntKind.i64 (↑last : Int), Value.map (some 10)] 2 1 62 true true 0 true)) ∧ renO (sig [(0, 9), (1,
 10), (2, 11), (3, 12), (4, 13), (5, 14), (6, 15), (7, 16), (8, 17), (9, 18)]) (AObj.map (ents ids) last) = some (AObj.map (ents ids) last) ∧ some nb0 =
 some nb0 ∧ some nb1 = some nb1 ∧ some (nb2 11) = some (nb2 11) ∧ some nb3 = some nb3 ∧ some nb4 = some nb4 ∧ some nb5 = some nb5 ∧ some nb6 = some nb6
 ∧ some nb7 = some nb7 ∧ ∀ (x : Unit), True → some (Value.slice (some (Addr.mk 10 0 none)) ids.length ids.length) = some (Value.slice (some (Addr.mk 10
 0 none)) ids.length ids.length) ∧ some (AObj.blk (Blk.mk [Value.int IntKind.i64 (↑last : Int), Value.map (some 1)] 2 1 62 true true 0 true)) = some
 (AObj.blk (Blk.mk [Value.int IntKind.i64 (↑last : Int), Value.map (some 1)] 2 1 62 true true 0 true)) ∧ some (AObj.map [] last) = some (AObj.map []
 last) ∧ some nb0 = some nb0 ∧ some nb1 = some nb1 ∧ some (nb2 2) = some (nb2 2) ∧ some nb3 = some nb3 ∧ some nb4 = some nb4 ∧ some nb5 = some nb5 ∧
 some nb6 = some nb6 ∧ some nb7 = some nb7 ∧ renO (sig [(9, 0), (10, 1), (11, 2), (12, 3), (13, 4), (14, 5), (15, 6), (16, 7), (17, 8), (18, 9), (22,
 10)]) (AObj.blk (Blk.mk (chg ids) (ids.length * 2) 2 55 false false 0 true)) = some (AObj.blk (Blk.mk (chg ids) (ids.length * 2) 2 55 false false 0
 true)) ∧ (((↑ids.length : Int) != (↑ids.length : Int)) = true → true = true ∧ 202 = 202 ∧ true = true ∧ z = z ∧ some F0 = some F0 ∧ some (AObj.blk
 (Blk.mk [Value.int IntKind.i64 (↑last : Int), Value.map (some 10)] 2 1 62 true true 0 true)) = some (AObj.blk (Blk.mk [Value.int IntKind.i64 (↑last :
 Int), Value.map (some 10)] 2 1 62 true true 0 true)) ∧ some (AObj.map [] last) = some (AObj.map [] last) ∧ some nb0 = some nb0 ∧ some nb1 = some nb1 ∧
 some (nb2 11) = some (nb2 11) ∧ some nb3 = some nb3 ∧ some nb4 = some nb4 ∧ some nb5 = some nb5 ∧ some nb6 = some nb6 ∧ some nb7 = some nb7 ∧ some
 (nBox 11) = some (nBox 11) ∧ Q AExit.ret [(2, F0)] [(9, AObj.blk (Blk.mk [Value.int IntKind.i64 (↑last : Int), Value.map (some 10)] 2 1 62 true true 0
 true)), (10, AObj.map [] last), (11, nb0), (12, nb1), (13, nb2 11), (14, nb3), (15, nb4), (16, nb5), (17, nb6), (18, nb7), (19, nBox 11)] 21) ∧
 (((↑ids.length : Int) != (↑ids.length : Int)) = false → 23 = 23 ∧ LoopA Tryz.prog z (loopN (loopN (bodyOf Tryz.f3) 0) 0) 23 202 (lvC n cp (sl 20
 ids.length) (sl 22 ids.length) last i 0) (znC last ids) 23 (alt True (AExit.exit 5, lvCo n cp last i, zn3 last [], 23) Al.nil).R ∧ true = true ∧ 202 =
 202 ∧ true = true ∧ z = z ∧ some (Value.slice (some (Addr.mk 510 0 none)) n cp) = some (Value.slice (some (Addr.mk 510 0 none)) n cp) ∧ some
 (Value.pointer (some (Addr.mk 9 0 none))) = some (Value.pointer (some (Addr.mk 9 0 none))) ∧ some (Value.pointer (some (Addr.mk 19 0 none))) = some
 (Value.pointer (some (Addr.mk 19 0 none))) ∧ some (Value.slice (some (Addr.mk 20 0 none)) ids.length ids.length) = some (Value.slice (some (Addr.mk 20
 0 none)) ids.length ids.length) ∧ some (Value.int IntKind.i64 (↑(last + 1) : Int)) = some (Value.int IntKind.i64 (↑(last + 1) : Int)) ∧ some (Value.int
 IntKind.i64 (↑i : Int)) = some (Value.int IntKind.i64 (↑i : Int)) ∧ some (Value.slice (some (Addr.mk 22 0 none)) ids.length ids.length) = some
 (Value.slice (some (Addr.mk 22 0 none)) ids.length ids.length) ∧ some (I 0) = some (I 0) ∧ some (AObj.blk (Blk.mk [Value.int IntKind.i64 (↑last : Int),
 Value.map (some 10)] 2 1 62 true true 0 true)) = some (AObj.blk (Blk.mk [Value.int IntKind.i64 (↑last : Int), Value.map (some 10)] 2 1 62 true true 0
 true)) ∧ some (AObj.map [] last) = some (AObj.map [] last) ∧ some nb0 = some nb0 ∧ some nb1 = some nb1 ∧ some (nb2 11) = some (nb2 11) ∧ some nb3 =
 some nb3 ∧ some nb4 = some nb4 ∧ some nb5 = some nb5 ∧ some nb6 = some nb6 ∧ some nb7 = some nb7 ∧ some (nBox 11) = some (nBox 11) ∧ renO (sig [(9, 9),
 (19, 19), (20, 20), (22, 22), (10, 10), (11, 11), (12, 12), (13, 13), (18, 18), (14, 14), (15, 15), (16, 16), (17, 17)]) (AObj.blk (Blk.mk (List.map iv
 ids) (ids.length * 1) 1 3 false false 0 true)) = some (AObj.blk (Blk.mk (List.map iv ids) (ids.length * 1) 1 3 false false 0 true)) ∧ renO (sig [(9,
 9), (19, 19), (20, 20), (22, 22), (10, 10), (11, 11), (12, 12), (13, 13), (18, 18), (14, 14), (15, 15), (16, 16), (17, 17)]) (AObj.blk (Blk.mk (chg
 ids) (ids.length * 2) 2 55 false false 0 true)) = some (AObj.blk (Blk.mk (chg ids) (ids.length * 2) 2 55 false false 0 true)) ∧ ∀ (x : Unit), True → z
 = z ∧ (CallA Tryz.prog z 6 [Value.pointer (some (Addr.mk 0 0 none))] [(0, AObj.blk (Blk.mk [Value.int IntKind.i64 (↑last : Int), Value.map (some 1)] 2
 1 62 true true 0 true)), (1, AObj.map [] last)] 2 2 (fun (x : Unit) => True) (fun (x : Unit) => iv 0) fun (x : Unit) => [(0, AObj.blk (Blk.mk
 [Value.int IntKind.i64 (↑last : Int), Value.map (some 1)] 2 1 62 true true 0 true)), (1, AObj.map [] last)]) ∧ some [Value.pointer (some (Addr.mk 9 0
 none))] = some [Value.pointer (some (Addr.mk 9 0 none))] ∧ some (AObj.blk (Blk.mk [Value.int IntKind.i64 (↑last : Int), Value.map (some 10)] 2 1 62
 true true 0 true)) = some (AObj.blk (Blk.mk [Value.int IntKind.i64 (↑last : Int), Value.map (some 10)] 2 1 62 true true 0 true)) ∧ some (AObj.map []
 last) = some (AObj.map [] last) ∧ ∀ (x : Unit), True → some (I 0) = some (I 0) ∧ some (AObj.blk (Blk.mk [Value.int IntKind.i64 (↑last : Int), Value.map
 (some 1)] 2 1 62 true true 0 true)) = some (AObj.blk (Blk.mk [Value.int IntKind.i64 (↑last : Int), Value.map (some 1)] 2 1 62 true true 0 true)) ∧ some
 (AObj.map [] last) = some (AObj.map [] last) ∧ Value.int IntKind.i64 (IntKind.i64.wrap ((↑i : Int) + 1)) = Value.int IntKind.i64 (↑(i + 1) : Int) ∧
 true = true ∧ 202 = 202 ∧ true = true ∧ z = z ∧ some (Value.slice (some (Addr.mk 510 0 none)) n cp) = some (Value.slice (some (Addr.mk 510 0 none)) n
 cp) ∧ some (Value.pointer (some (Addr.mk 9 0 none))) = some (Value.pointer (some (Addr.mk 9 0 none))) ∧ some (Value.pointer (some (Addr.mk 19 0 none)))
 = some (Value.pointer (some (Addr.mk 19 0 none))) ∧ some (Value.slice none 0 0) = some (Value.slice none 0 0) ∧ some (Value.int IntKind.i64 (↑(last +
 1) : Int)) = some (Value.int IntKind.i64 (↑(last + 1) : Int)) ∧ some (Value.int IntKind.i64 (↑(i + 1) : Int)) = some (Value.int IntKind.i64 (↑(i + 1) :
 Int)) ∧ some (AObj.blk (Blk.mk [Value.int IntKind.i64 (↑last : Int), Value.map (some 10)] 2 1 62 true true 0 true)) = some (AObj.blk (Blk.mk [Value.int
 IntKind.i64 (↑last : Int), Value.map (some 10)] 2 1 62 true true 0 true)) ∧ some (AObj.map [] last) = some (AObj.map [] last) ∧ some nb0 = some nb0 ∧
 some nb1 = some nb1 ∧ some (nb2 11) = some (nb2 11) ∧ some nb3 = some nb3 ∧ some nb4 = some nb4 ∧ some nb5 = some nb5 ∧ some nb6 = some nb6 ∧ some nb7
 = some nb7 ∧ some (nBox 11) = some (nBox 11) ∧ Q AExit.normal [(0, Value.slice (some (Addr.mk 510 0 none)) n cp), (8, Value.pointer (some (Addr.mk 9 0
 none))), (9, Value.pointer (some (Addr.mk 19 0 none))), (10, Value.slice none 0 0), (11, Value.int IntKind.i64 (↑(last + 1) : Int)), (12, Value.int
 IntKind.i64 (↑(i + 1) : Int))] [(9, AObj.blk (Blk.mk [Value.int IntKind.i64 (↑last : Int), Value.map (some 10)] 2 1 62 true true 0 true)), (10,
 AObj.map [] last), (11, nb0), (12, nb1), (13, nb2 11), (14, nb3), (15, nb4), (16, nb5), (17, nb6), (18, nb7), (19, nBox 11)] 21))) ∧ (decide (y < 0) =
 false → 21 = 21 ∧ LoopA Tryz.prog z (loopN (loopN (bodyOf Tryz.f3) 0) 1) 21 202 (lvL n cp (sl 20 ids.length) nilS last i 0) (zn3r last ids) 22 (alt
 (gone y ids = []) (AExit.exit 3, lvLo n cp (sl 20 ids.length) nilS last i, zn3r last ids, 22) (alt (gone y ids ≠ []) (AExit.exit 3, lvLo n cp (sl 20
 ids.length) (sl 21 (gone y ids).length) last i, znL last ids (gone y ids), 22) Al.nil)).R ∧ true = true ∧ 202 = 202 ∧ true = true ∧ z = z ∧ some
 (Value.slice (some (Addr.mk 510 0 none)) n cp) = some (Value.slice (some (Addr.mk 510 0 none)) n cp) ∧ some (Value.pointer (some (Addr.mk 9 0 none))) =
 some (Value.pointer (some (Addr.mk 9 0 none))) ∧ some (Value.pointer (some (Addr.mk 19 0 none))) = some (Value.pointer (some (Addr.mk 19 0 none))) ∧
 some (Value.slice (some (Addr.mk 20 0 none)) ids.length ids.length) = some (Value.slice (some (Addr.mk 20 0 none)) ids.length ids.length) ∧ some
 (Value.int IntKind.i64 (↑(last + 1) : Int)) = some (Value.int IntKind.i64 (↑(last + 1) : Int)) ∧ some (Value.int IntKind.i64 (↑i : Int)) = some
 (Value.int IntKind.i64 (↑i : Int)) ∧ some (Value.slice none 0 0) = some (Value.slice none 0 0) ∧ some (I 0) = some (I 0) ∧ some (AObj.blk (Blk.mk
 [Value.int IntKind.i64 (↑last : Int), Value.map (some 10)] 2 1 62 true true 0 true)) = some (AObj.blk (Blk.mk [Value.int IntKind.i64 (↑last : Int),
 Value.map (some 10)] 2 1 62 true true 0 true)) ∧ renO (sig [(9, 9), (19, 19), (20, 20), (10, 10), (11, 11), (12, 12), (13, 13), (18, 18), (14, 14),
 (15, 15), (16, 16), (17, 17)]) (AObj.map (ents ids) last) = some (AObj.map (ents ids) last) ∧ some nb0 = some nb0 ∧ some nb1 = some nb1 ∧ some (nb2 11)
 = some (nb2 11) ∧ some nb3 = some nb3 ∧ some nb4 = some nb4 ∧ some nb5 = some nb5 ∧ some nb6 = some nb6 ∧ some nb7 = some nb7 ∧ some (nBox 11) = some
 (nBox 11) ∧ renO (sig [(9, 9), (19, 19), (20, 20), (10, 10), (11, 11), (12, 12), (13, 13), (18, 18), (14, 14), (15, 15), (16, 16), (17, 17)]) (AObj.blk
 (Blk.mk (List.map iv ids) (ids.length * 1) 1 3 false false 0 true)) = some (AObj.blk (Blk.mk (List.map iv ids) (ids.length * 1) 1 3 false false 0
 true)) ∧ (∀ (x : Unit), gone y ids = [] → (↑i : Int) = (↑i : Int) ∧ i < n ∧ 510 = 510 ∧ z.get 0 = some (AObj.blk kl) ∧ readB Tryz.prog kl 3 (0 + i * 1)
 = some (Value.int IntKind.i64 y) ∧ z = z ∧ (CallA Tryz.prog z 5 [Value.pointer (some (Addr.mk 0 0 none)), Value.int IntKind.i64 y] [(0, AObj.blk
 (Blk.mk [Value.int IntKind.i64 (↑last : Int), Value.map (some 1)] 2 1 62 true true 0 true)), (1, AObj.map (ents ids) last)] 2 2 (fun (e : Nat) => (e =
 0 ∧ ∃ (k : Nat), k ∈ ids ∧ (↑k : Int) = y) ∨ e = 7 ∧ ∀ (k : Nat), k ∈ ids → (↑k : Int) ≠ y) (fun (e : Nat) => iv e) fun (x : Nat) => [(0, wst last 1),
 (1, AObj.map (ents (gone y ids)) last)]) ∧ some [Value.pointer (some (Addr.mk 9 0 none)), Value.int IntKind.i64 y] = some [Value.pointer (some (Addr.mk
 9 0 none)), Value.int IntKind.i64 y] ∧ some (AObj.blk (Blk.mk [Value.int IntKind.i64 (↑last : Int), Value.map (some 10)] 2 1 62 true true 0 true)) =
 some (AObj.blk (Blk.mk [Value.int IntKind.i64 (↑last : Int), Value.map (some 10)] 2 1 62 true true 0 true)) ∧ renO (sig [(0, 9), (1, 10)]) (AObj.map
 (ents ids) last) = some (AObj.map (ents ids) last) ∧ ∀ (x : Nat), ((x = 0 ∧ ∃ (k : Nat), k ∈ ids ∧ (↑k : Int) = y) ∨ x = 7 ∧ ∀ (k : Nat), k ∈ ids → (↑k
 : Int) ≠ y) → some (Value.int IntKind.i64 (↑x : Int)) = some (Value.int IntKind.i64 (↑x : Int)) ∧ some (AObj.blk (Blk.mk [Value.int IntKind.i64 (↑last
 : Int), Value.map (some 1)] 2 1 62 true true 0 true)) = some (AObj.blk (Blk.mk [Value.int IntKind.i64 (↑last : Int), Value.map (some 1)] 2 1 62 true
 true 0 true)) ∧ renO (sig [(9, 0), (10, 1)]) (AObj.map (ents (gone y ids)) last) = some (AObj.map (ents (gone y ids)) last) ∧ (((↑x : Int) == 0) = true
 → (decide (0 < (↑ids.length : Int)) = true → (((↑x : Int) != 0) = true → (((↑x : Int) != 7) = true → true = true ∧ 202 = 202 ∧ true = true ∧ z = z ∧
 some F0 = some F0 ∧ some (AObj.blk (Blk.mk [Value.int IntKind.i64 (↑last : Int), Value.map (some 10)] 2 1 62 true true 0 true)) = some (AObj.blk
 (Blk.mk [Value.int IntKind.i64 (↑last : Int), Value.map (some 10)] 2 1 62 true true 0 true)) ∧ renO (sig [(9, 9), (10, 10), (11, 11), (12, 12), (13,
 13), (14, 14), (15, 15), (16, 16), (17, 17), (18, 18), (19, 19)]) (AObj.map (ents (gone y ids)) last) = some (AObj.map (ents (gone y ids)) last) ∧ some
 nb0 = some nb0 ∧ some nb1 = some nb1 ∧ some (nb2 11) = some (nb2 11) ∧ some nb3 = some nb3 ∧ some nb4 = some nb4 ∧ some nb5 = some nb5 ∧ some nb6 =
 some nb6 ∧ some nb7 = some nb7 ∧ some (nBox 11) = some (nBox 11) ∧ Q AExit.ret [(2, F0)] [(9, AObj.blk (Blk.mk [Value.int IntKind.i64 (↑last : Int),
 Value.map (some 10)] 2 1 62 true true 0 true)), (10, AObj.map (ents (gone y ids)) last), (11, nb0), (12, nb1), (13, nb2 11), (14, nb3), (15, nb4), (16,
 nb5), (17, nb6), (18, nb7), (19, nBox 11)] 21) ∧ (((↑x : Int) != 7) = false → z = z ∧ (CallA Tryz.prog z 6 [Value.pointer (some (Addr.mk 0 0 none))]
 [(0, AObj.blk (Blk.mk [Value.int IntKind.i64 (↑last : Int), Value.map (some 1)] 2 1 62 true true 0 true)), (1, AObj.map (ents (gone y ids)) last)] 2 2
 (fun (x : Unit) => True) (fun (x : Unit) => iv (ents (gone y ids)).length) fun (x : Unit) => [(0, AObj.blk (Blk.mk [Value.int IntKind.i64 (↑last :
 Int), Value.map (some 1)] 2 1 62 true true 0 true)), (1, AObj.map (ents (gone y ids)) last)]) ∧ some [Value.pointer (some (Addr.mk 9 0 none))] = some
 [Value.pointer (some (Addr.mk 9 0 none))] ∧ some (AObj.blk (Blk.mk [Value.int IntKind.i64 (↑last : Int), Value.map (some 10)] 2 1 62 true true 0 true))
 = some (AObj.blk (Blk.mk [Value.int IntKind.i64 (↑last : Int), Value.map (some 10)] 2 1 62 true true 0 true)) ∧ renO (sig [(0, 9), (1, 10)]) (AObj.map
 (ents (gone y ids)) last) = some (AObj.map (ents (gone y ids)) last) ∧ ∀ (x : Unit), True → some (Value.int IntKind.i64 (↑(ents (gone y ids)).length :
 Int)) = some (Value.int IntKind.i64 (↑(ents (gone y ids)).length : Int)) ∧ some (AObj.blk (Blk.mk [Value.int IntKind.i64 (↑last : Int), Value.map (some
 1)] 2 1 62 true true 0 true)) = some (AObj.blk (Blk.mk [Value.int IntKind.i64 (↑last : Int), Value.map (some 1)] 2 1 62 true true 0 true)) ∧ renO (sig
 [(9, 0), (10, 1)]) (AObj.map (ents (gone y ids)) last) = some (AObj.map (ents (gone y ids)) last) ∧ (((↑(ents (gone y ids)).length : Int) != 0) = true
 → true = true ∧ 202 = 202 ∧ true = true ∧ z = z ∧ some F0 = some F0 ∧ some (AObj.blk (Blk.mk [Value.int IntKind.i64 (↑last : Int), Value.map (some 10)]
 2 1 62 true true 0 true)) = some (AObj.blk (Blk.mk [Value.int IntKind.i64 (↑last : Int), Value.map (some 10)] 2 1 62 true true 0 true)) ∧ renO (sig
 [(9, 9), (10, 10), (11, 11), (12, 12), (13, 13), (14, 14), (15, 15), (16, 16), (17, 17), (18, 18), (19, 19)]) (AObj.map (ents (gone y ids)) last) =
 some (AObj.map (ents (gone y ids)) last) ∧ some nb0 = some nb0 ∧ some nb1 = some nb1 ∧ some (nb2 11) = some (nb2 11) ∧ some nb3 = some nb3 ∧ some nb4 =
 some nb4 ∧ some nb5 = some nb5 ∧ some nb6 = some nb6 ∧ some nb7 = some nb7 ∧ some (nBox 11) = some (nBox 11) ∧ Q AExit.ret [(2, F0)] [(9, AObj.blk
 (Blk.mk [Value.int IntKind.i64 (↑last : Int), Value.map (some 10)] 2 1 62 true true 0 true)), (10, AObj.map (ents (gone y ids)) last), (11, nb0), (12,
 nb1), (13, nb2 11), (14, nb3), (15, nb4), (16, nb5), (17, nb6), (18, nb7), (19, nBox 11)] 21) ∧ (((↑(ents (gone y ids)).length : Int) != 0) = false →
 Value.int IntKind.i64 (IntKind.i64.wrap ((↑i : Int) + 1)) = Value.int IntKind.i64 (↑(i + 1) : Int) ∧ true = true ∧ 202 = 202 ∧ true = true ∧ z = z ∧
 some (Value.slice (some (Addr.mk 510 0 none)) n cp) = some (Value.slice (some (Addr.mk 510 0 none)) n cp) ∧ some (Value.pointer (some (Addr.mk 9 0
 none))) = some (Value.pointer (some (Addr.mk 9 0 none))) ∧ some (Value.pointer (some (Addr.mk 19 0 none))) = some (Value.pointer (some (Addr.mk 19 0
 none))) ∧ some (Value.slice none 0 0) = some (Value.slice none 0 0) ∧ some (Value.int IntKind.i64 (↑(last + 1) : Int)) = some (Value.int IntKind.i64
 (↑(last + 1) : Int)) ∧ some (Value.int IntKind.i64 (↑(i + 1) : Int)) = some (Value.int IntKind.i64 (↑(i + 1) : Int)) ∧ some (AObj.blk (Blk.mk
 [Value.int IntKind.i64 (↑last : Int), Value.map (some 10)] 2 1 62 true true 0 true)) = some (AObj.blk (Blk.mk [Value.int IntKind.i64 (↑last : Int),
 Value.map (some 10)] 2 1 62 true true 0 true)) ∧ renO (sig [(9, 9), (10, 10), (11, 11), (12, 12), (13, 13), (14, 14), (15, 15), (16, 16), (17, 17),
 (18, 18), (19, 19)]) (AObj.map (ents (gone y ids)) last) = some (AObj.map (ents (gone y ids)) last) ∧ some nb0 = some nb0 ∧ some nb1 = some nb1 ∧ some
 (nb2 11) = some (nb2 11) ∧ some nb3 = some nb3 ∧ some nb4 = some nb4 ∧ some nb5 = some nb5 ∧ some nb6 = some nb6 ∧ some nb7 = some nb7 ∧ some (nBox 11)
 = some (nBox 11) ∧ Q AExit.normal [(0, Value.slice (some (Addr.mk 510 0 none)) n cp), (8, Value.pointer (some (Addr.mk 9 0 none))), (9, Value.pointer
 (some (Addr.mk 19 0 none))), (10, Value.slice none 0 0), (11, Value.int IntKind.i64 (↑(last + 1) : Int)), (12, Value.int IntKind.i64 (↑(i + 1) : Int))]
 [(9, AObj.blk (Blk.mk [Value.int IntKind.i64 (↑last : Int), Value.map (some 10)] 2 1 62 true true 0 true)), (10, AObj.map (ents (gone y ids)) last),
 (11, nb0), (12, nb1), (13, nb2 11), (14, nb3), (15, nb4), (16, nb5), (17, nb6), (18, nb7), (19, nBox 11)] 21))) ∧ (((↑x : Int) != 0) = false → z = z ∧
 (CallA Tryz.prog z 6 [Value.pointer (some (Addr.mk 0 0 none))] [(0, AObj.blk (Blk.mk [Value.int IntKind.i64 (↑last : Int), Value.map (some 1)] 2 1 62
 true true 0 true)), (1, AObj.map (ents (gone y ids)) last)] 2 2 (fun (x : Unit) => True) (fun (x : Unit) => iv (ents (gone y ids)).length) fun (x :
 Unit) => [(0, AObj.blk (Blk.mk [Value.int IntKind.i64 (↑last : Int), Value.map (some 1)] 2 1 62 true true 0 true)), (1, AObj.map (ents (gone y ids))
 last)]) ∧ some [Value.pointer (some (Addr.mk 9 0 none))] = some [Value.pointer (some (Addr.mk 9 0 none))] ∧ some (AObj.blk (Blk.mk [Value.int
 IntKind.i64 (↑last : Int), Value.map (some 10)] 2 1 62 true true 0 true)) = some (AObj.blk (Blk.mk [Value.int IntKind.i64 (↑last : Int), Value.map
 (some 10)] 2 1 62 true true 0 true)) ∧ renO (sig [(0, 9), (1, 10)]) (AObj.map (ents (gone y ids)) last) = some (AObj.map (ents (gone y ids)) last) ∧ ∀
 (x : Unit), True → some (Value.int IntKind.i64 (↑(ents (gone y ids)).length : Int)) = some (Value.int IntKind.i64 (↑(ents (gone y ids)).length : Int))
 ∧ some (AObj.blk (Blk.mk [Value.int IntKind.i64 (↑last : Int), Value.map (some 1)] 2 1 62 true true 0 true)) = some (AObj.blk (Blk.mk [Value.int
 IntKind.i64 (↑last : Int), Value.map (some 1)] 2 1 62 true true 0 true)) ∧ renO (sig [(9, 0), (10, 1)]) (AObj.map (ents (gone y ids)) last) = some
 (AObj.map (ents (gone y ids)) last) ∧ (((↑(ents (gone y ids)).length : Int) != 0) = true → true = true ∧ 202 = 202 ∧ true = true ∧ z = z ∧ some F0 =
 some F0 ∧ some (AObj.blk (Blk.mk [Value.int IntKind.i64 (↑last : Int), Value.map (some 10)] 2 1 62 true true 0 true)) = some (AObj.blk (Blk.mk
 [Value.int IntKind.i64 (↑last : Int), Value.map (some 10)] 2 1 62 true true 0 true)) ∧ renO (sig [(9, 9), (10, 10), (11, 11), (12, 12), (13, 13), (14,
 14), (15, 15), (16, 16), (17, 17), (18, 18), (19, 19)]) (AObj.map (ents (gone y ids)) last) = some (AObj.map (ents (gone y ids)) last) ∧ some nb0 =
 some nb0 ∧ some nb1 = some nb1 ∧ some (nb2 11) = some (nb2 11) ∧ some nb3 = some nb3 ∧ some nb4 = some nb4 ∧ some nb5 = some nb5 ∧ some nb6 = some nb6
 ∧ some nb7 = some nb7 ∧ some (nBox 11) = some (nBox 11) ∧ Q AExit.ret [(2, F0)] [(9, AObj.blk (Blk.mk [Value.int IntKind.i64 (↑last : Int), Value.map
 (some 10)] 2 1 62 true true 0 true)), (10, AObj.map (ents (gone y ids)) last), (11, nb0), (12, nb1), (13, nb2 11), (14, nb3), (15, nb4), (16, nb5),
 (17, nb6), (18, nb7), (19, nBox 11)] 21) ∧ (((↑(ents (gone y ids)).length : Int) != 0) = false → Value.int IntKind.i64 (IntKind.i64.wrap ((↑i : Int) +
 1)) = Value.int IntKind.i64 (↑(i + 1) : Int) ∧ true = true ∧ 202 = 202 ∧ true = true ∧ z = z ∧ some (Value.slice (some (Addr.mk 510 0 none)) n cp) =
 some (Value.slice (some (Addr.mk 510 0 none)) n cp) ∧ some (Value.pointer (some (Addr.mk 9 0 none))) = some (Value.pointer (some (Addr.mk 9 0 none))) ∧
 some (Value.pointer (some (Addr.mk 19 0 none))) = some (Value.pointer (some (Addr.mk 19 0 none))) ∧ some (Value.slice none 0 0) = some (Value.slice
 none 0 0) ∧ some (Value.int IntKind.i64 (↑(last + 1) : Int)) = some (Value.int IntKind.i64 (↑(last + 1) : Int)) ∧ some (Value.int IntKind.i64 (↑(i + 1)
 : Int)) = some (Value.int IntKind.i64 (↑(i + 1) : Int)) ∧ some (AObj.blk (Blk.mk [Value.int IntKind.i64 (↑last : Int), Value.map (some 10)] 2 1 62 true
 true 0 true)) = some (AObj.blk (Blk.mk [Value.int IntKind.i64 (↑last : Int), Value.map (some 10)] 2 1 62 true true 0 true)) ∧ renO (sig [(9, 9), (10,
 10), (11, 11), (12, 12), (13, 13), (14, 14), (15, 15), (16, 16), (17, 17), (18, 18), (19, 19)]) (AObj.map (ents (gone y ids)) last) = some (AObj.map
 (ents (gone y ids)) last) ∧ some nb0 = some nb0 ∧ some nb1 = some nb1 ∧ some (nb2 11) = some (nb2 11) ∧ some nb3 = some nb3 ∧ some nb4 = some nb4 ∧
 some nb5 = some nb5 ∧ some nb6 = some nb6 ∧ some nb7 = some nb7 ∧ some (nBox 11) = some (nBox 11) ∧ Q AExit.normal [(0, Value.slice (some (Addr.mk 510
 0 none)) n cp), (8, Value.pointer (some (Addr.mk 9 0 none))), (9, Value.pointer (some (Addr.mk 19 0 none))), (10, Value.slice none 0 0), (11, Value.int
 IntKind.i64 (↑(last + 1) : Int)), (12, Value.int IntKind.i64 (↑(i + 1) : Int))] [(9, AObj.blk (Blk.mk [Value.int IntKind.i64 (↑last : Int), Value.map
 (some 10)] 2 1 62 true true 0 true)), (10, AObj.map (ents (gone y ids)) last), (11, nb0), (12, nb1), (13, nb2 11), (14, nb3), (15, nb4), (16, nb5),
 (17, nb6), (18, nb7), (19, nBox 11)] 21))) ∧ (decide (0 < (↑ids.length : Int)) = false → true = true ∧ 202 = 202 ∧ true = true ∧ z = z ∧ some F0 = some
 F0 ∧ some (AObj.blk (Blk.mk [Value.int IntKind.i64 (↑last : Int), Value.map (some 10)] 2 1 62 true true 0 true)) = some (AObj.blk (Blk.mk [Value.int
 IntKind.i64 (↑last : Int), Value.map (some 10)] 2 1 62 true true 0 true)) ∧ renO (sig [(9, 9), (10, 10), (11, 11), (12, 12), (13, 13), (14, 14), (15,
 15), (16, 16), (17, 17), (18, 18), (19, 19)]) (AObj.map (ents (gone y ids)) last) = some (AObj.map (ents (gone y ids)) last) ∧ some nb0 = some nb0 ∧
 some nb1 = some nb1 ∧ some (nb2 11) = some (nb2 11) ∧ some nb3 = some nb3 ∧ some nb4 = some nb4 ∧ some nb5 = some nb5 ∧ some nb6 = some nb6 ∧ some nb7
 = some nb7 ∧ some (nBox 11) = some (nBox 11) ∧ Q AExit.ret [(2, F0)] [(9, AObj.blk (Blk.mk [Value.int IntKind.i64 (↑last : Int), Value.map (some 10)] 2
 1 62 true true 0 true)), (10, AObj.map (ents (gone y ids)) last), (11, nb0), (12, nb1), (13, nb2 11), (14, nb3), (15, nb4), (16, nb5), (17, nb6), (18,
 nb7), (19, nBox 11)] 21)) ∧ (((↑x : Int) == 0) = false → (decide (0 < (↑ids.length : Int)) = true → true = true ∧ 202 = 202 ∧ true = true ∧ z = z ∧
 some F0 = some F0 ∧ some (AObj.blk (Blk.mk [Value.int IntKind.i64 (↑last : Int), Value.map (some 10)] 2 1 62 true true 0 true)) = some (AObj.blk
 (Blk.mk [Value.int IntKind.i64 (↑last : Int), Value.map (some 10)] 2 1 62 true true 0 true)) ∧ renO (sig [(9, 9), (10, 10), (11, 11), (12, 12), (13,
 13), (14, 14), (15, 15), (16, 16), (17, 17), (18, 18), (19, 19)]) (AObj.map (ents (gone y ids)) last) = some (AObj.map (ents (gone y ids)) last) ∧ some
 nb0 = some nb0 ∧ some nb1 = some nb1 ∧ some (nb2 11) = some (nb2 11) ∧ some nb3 = some nb3 ∧ some nb4 = some nb4 ∧ some nb5 = some nb5 ∧ some nb6 =
 some nb6 ∧ some nb7 = some nb7 ∧ some (nBox 11) = some (nBox 11) ∧ Q AExit.ret [(2, F0)] [(9, AObj.blk (Blk.mk [Value.int IntKind.i64 (↑last : Int),
 Value.map (some 10)] 2 1 62 true true 0 true)), (10, AObj.map (ents (gone y ids)) last), (11, nb0), (12, nb1), (13, nb2 11), (14, nb3), (15, nb4), (16,
 nb5), (17, nb6), (18, nb7), (19, nBox 11)] 21) ∧ (decide (0 < (↑ids.length : Int)) = false → (((↑x : Int) != 0) = true → (((↑x : Int) != 7) = true →
 true = true ∧ 202 = 202 ∧ true = true ∧ z = z ∧ some F0 = some F0 ∧ some (AObj.blk (Blk.mk [Value.int IntKind.i64 (↑last : Int), Value.map (some 10)] 2
 1 62 true true 0 true)) = some (AObj.blk (Blk.mk [Value.int IntKind.i64 (↑last : Int), Value.map (some 10)] 2 1 62 true true 0 true)) ∧ renO (sig [(9,
 9), (10, 10), (11, 11), (12, 12), (13, 13), (14, 14), (15, 15), (16, 16), (17, 17), (18, 18), (19, 19)]) (AObj.map (ents (gone y ids)) last) = some
 (AObj.map (ents (gone y ids)) last) ∧ some nb0 = some nb0 ∧ some nb1 = some nb1 ∧ some (nb2 11) = some (nb2 11) ∧ some nb3 = some nb3 ∧ some nb4 = some
 nb4 ∧ some nb5 = some nb5 ∧ some nb6 = some nb6 ∧ some nb7 = some nb7 ∧ some (nBox 11) = some (nBox 11) ∧ Q AExit.ret [(2, F0)] [(9, AObj.blk (Blk.mk
 [Value.int IntKind.i64 (↑last : Int), Value.map (some 10)] 2 1 62 true true 0 true)), (10, AObj.map (ents (gone y ids)) last), (11, nb0), (12, nb1),
 (13, nb2 11), (14, nb3), (15, nb4), (16, nb5), (17, nb6), (18, nb7), (19, nBox 11)] 21) ∧ (((↑x : Int) != 7) = false → z = z ∧ (CallA Tryz.prog z 6
 [Value.pointer (some (Addr.mk 0 0 none))] [(0, AObj.blk (Blk.mk [Value.int IntKind.i64 (↑last : Int), Value.map (some 1)] 2 1 62 true true 0 true)),
 (1, AObj.map (ents (gone y ids)) last)] 2 2 (fun (x : Unit) => True) (fun (x : Unit) => iv (ents (gone y ids)).length) fun (x : Unit) => [(0, AObj.blk
 (Blk.mk [Value.int IntKind.i64 (↑last : Int), Value.map (some 1)] 2 1 62 true true 0 true)), (1, AObj.map (ents (gone y ids)) last)]) ∧ some
 [Value.pointer (some (Addr.mk 9 0 none))] = some [Value.pointer (some (Addr.mk 9 0 none))] ∧ some (AObj.blk (Blk.mk [Value.int IntKind.i64 (↑last :
 Int), Value.map (some 10)] 2 1 62 true true 0 true)) = some (AObj.blk (Blk.mk [Value.int IntKind.i64 (↑last : Int), Value.map (some 10)] 2 1 62 true
 true 0 true)) ∧ renO (sig [(0, 9), (1, 10)]) (AObj.map (ents (gone y ids)) last) = some (AObj.map (ents (gone y ids)) last) ∧ ∀ (x : Unit), True → some
 (Value.int IntKind.i64 (↑(ents (gone y ids)).length : Int)) = some (Value.int IntKind.i64 (↑(ents (gone y ids)).length : Int)) ∧ some (AObj.blk (Blk.mk
 [Value.int IntKind.i64 (↑last : Int), Value.map (some 1)] 2 1 62 true true 0 true)) = some (AObj.blk (Blk.mk [Value.int IntKind.i64 (↑last : Int),
 Value.map (some 1)] 2 1 62 true true 0 true)) ∧ renO (sig [(9, 0), (10, 1)]) (AObj.map (ents (gone y ids)) last) = some (AObj.map (ents (gone y ids))
 last) ∧ (((↑(ents (gone y ids)).length : Int) != 0) = true → true = true ∧ 202 = 202 ∧ true = true ∧ z = z ∧ some F0 = some F0 ∧ some (AObj.blk (Blk.mk
 [Value.int IntKind.i64 (↑last : Int), Value.map (some 10)] 2 1 62 true true 0 true)) = some (AObj.blk (Blk.mk [Value.int IntKind.i64 (↑last : Int),
 Value.map (some 10)] 2 1 62 true true 0 true)) ∧ renO (sig [(9, 9), (10, 10), (11, 11), (12, 12), (13, 13), (14, 14), (15, 15), (16, 16), (17, 17),
 (18, 18), (19, 19)]) (AObj.map (ents (gone y ids)) last) = some (AObj.map (ents (gone y ids)) last) ∧ some nb0 = some nb0 ∧ some nb1 = some nb1 ∧ some
 (nb2 11) = some (nb2 11) ∧ some nb3 = some nb3 ∧ some nb4 = some nb4 ∧ some nb5 = some nb5 ∧ some nb6 = some nb6 ∧ some nb7 = some nb7 ∧ some (nBox 11)
 = some (nBox 11) ∧ Q AExit.ret [(2, F0)] [(9, AObj.blk (Blk.mk [Value.int IntKind.i64 (↑last : Int), Value.map (some 10)] 2 1 62 true true 0 true)),
 (10, AObj.map (ents (gone y ids)) last), (11, nb0), (12, nb1), (13, nb2 11), (14, nb3), (15, nb4), (16, nb5), (17, nb6), (18, nb7), (19, nBox 11)] 21)
 ∧ (((↑(ents (gone y ids)).length : Int) != 0) = false → Value.int IntKind.i64 (IntKind.i64.wrap ((↑i : Int) + 1)) = Value.int IntKind.i64 (↑(i + 1) :
 Int) ∧ true = true ∧ 202 = 202 ∧ true = true ∧ z = z ∧ some (Value.slice (some (Addr.mk 510 0 none)) n cp) = some (Value.slice (some (Addr.mk 510 0
 none)) n cp) ∧ some (Value.pointer (some (Addr.mk 9 0 none))) = some (Value.pointer (some (Addr.mk 9 0 none))) ∧ some (Value.pointer (some (Addr.mk 19
 0 none))) = some (Value.pointer (some (Addr.mk 19 0 none))) ∧ some (Value.slice none 0 0) = some (Value.slice none 0 0) ∧ some (Value.int IntKind.i64
 (↑(last + 1) : Int)) = some (Value.int IntKind.i64 (↑(last + 1) : Int)) ∧ some (Value.int IntKind.i64 (↑(i + 1) : Int)) = some (Value.int IntKind.i64
 (↑(i + 1) : Int)) ∧ some (AObj.blk (Blk.mk [Value.int IntKind.i64 (↑last : Int), Value.map (some 10)] 2 1 62 true true 0 true)) = some (AObj.blk
 (Blk.mk [Value.int IntKind.i64 (↑last : Int), Value.map (some 10)] 2 1 62 true true 0 true)) ∧ renO (sig [(9, 9), (10, 10), (11, 11), (12, 12), (13,
 13), (14, 14), (15, 15), (16, 16), (17, 17), (18, 18), (19, 19)]) (AObj.map (ents (gone y ids)) last) = some (AObj.map (ents (gone y ids)) last) ∧ some
 nb0 = some nb0 ∧ some nb1 = some nb1 ∧ some (nb2 11) = some (nb2 11) ∧ some nb3 = some nb3 ∧ some nb4 = some nb4 ∧ some nb5 = some nb5 ∧ some nb6 =
 some nb6 ∧ some nb7 = some nb7 ∧ some (nBox 11) = some (nBox 11) ∧ Q AExit.normal [(0, Value.slice (some (Addr.mk 510 0 none)) n cp), (8, Value.pointer
 (some (Addr.mk 9 0 none))), (9, Value.pointer (some (Addr.mk 19 0 none))), (10, Value.slice none 0 0), (11, Value.int IntKind.i64 (↑(last + 1) : Int)),
 (12, Value.int IntKind.i64 (↑(i + 1) : Int))] [(9, AObj.blk (Blk.mk [Value.int IntKind.i64 (↑last : Int), Value.map (some 10)] 2 1 62 true true 0
 true)), (10, AObj.map (ents (gone y ids)) last), (11, nb0), (12, nb1), (13, nb2 11), (14, nb3), (15, nb4), (16, nb5), (17, nb6), (18, nb7), (19, nBox
 11)] 21))) ∧ (((↑x : Int) != 0) = false → z = z ∧ (CallA Tryz.prog z 6 [Value.pointer (some (Addr.mk 0 0 none))] [(0, AObj.blk (Blk.mk [Value.int
 IntKind.i64 (↑last : Int), Value.map (some 1)] 2 1 62 true true 0 true)), (1, AObj.map (ents (gone y ids)) last)] 2 2 (fun (x : Unit) => True) (fun (x
 : Unit) => iv (ents (gone y ids)).length) fun (x : Unit) => [(0, AObj.blk (Blk.mk [Value.int IntKind.i64 (↑last : Int), Value.map (some 1)] 2 1 62 true
 true 0 true)), (1, AObj.map (ents (gone y ids)) last)]) ∧ some [Value.pointer (some (Addr.mk 9 0 none))] = some [Value.pointer (some (Addr.mk 9 0
 none))] ∧ some (AObj.blk (Blk.mk [Value.int IntKind.i64 (↑last : Int), Value.map (some 10)] 2 1 62 true true 0 true)) = some (AObj.blk (Blk.mk
 [Value.int IntKind.i64 (↑last : Int), Value.map (some 10)] 2 1 62 true true 0 true)) ∧ renO (sig [(0, 9), (1, 10)]) (AObj.map (ents (gone y ids)) last)
 = some (AObj.map (ents (gone y ids)) last) ∧ ∀ (x : Unit), True → some (Value.int IntKind.i64 (↑(ents (gone y ids)).length : Int)) = some (Value.int
 IntKind.i64 (↑(ents (gone y ids)).length : Int)) ∧ some (AObj.blk (Blk.mk [Value.int IntKind.i64 (↑last : Int), Value.map (some 1)] 2 1 62 true true 0
 true)) = some (AObj.blk (Blk.mk [Value.int IntKind.i64 (↑last : Int), Value.map (some 1)] 2 1 62 true true 0 true)) ∧ renO (sig [(9, 0), (10, 1)])
 (AObj.map (ents (gone y ids)) last) = some (AObj.map (ents (gone y ids)) last) ∧ (((↑(ents (gone y ids)).length : Int) != 0) = true → true = true ∧ 202
 = 202 ∧ true = true ∧ z = z ∧ some F0 = some F0 ∧ some (AObj.blk (Blk.mk [Value.int IntKind.i64 (↑last : Int), Value.map (some 10)] 2 1 62 true true 0
 true)) = some (AObj.blk (Blk.mk [Value.int IntKind.i64 (↑last : Int), Value.map (some 10)] 2 1 62 true true 0 true)) ∧ renO (sig [(9, 9), (10, 10),
 (11, 11), (12, 12), (13, 13), (14, 14), (15, 15), (16, 16), (17, 17), (18, 18), (19, 19)]) (AObj.map (ents (gone y ids)) last) = some (AObj.map (ents
 (gone y ids)) last) ∧ some nb0 = some nb0 ∧ some nb1 = some nb1 ∧ some (nb2 11) = some (nb2 11) ∧ some nb3 = some nb3 ∧ some nb4 = some nb4 ∧ some nb5
 = some nb5 ∧ some nb6 = some nb6 ∧ some nb7 = some nb7 ∧ some (nBox 11) = some (nBox 11) ∧ Q AExit.ret [(2, F0)] [(9, AObj.blk (Blk.mk [Value.int
 IntKind.i64 (↑last : Int), Value.map (some 10)] 2 1 62 true true 0 true)), (10, AObj.map (ents (gone y ids)) last), (11, nb0), (12, nb1), (13, nb2 11),
 (14, nb3), (15, nb4), (16, nb5), (17, nb6), (18, nb7), (19, nBox 11)] 21) ∧ (((↑(ents (gone y ids)).length : Int) != 0) = false → Value.int IntKind.i64
 (IntKind.i64.wrap ((↑i : Int) + 1)) = Value.int IntKind.i64 (↑(i + 1) : Int) ∧ true = true ∧ 202 = 202 ∧ true = true ∧ z = z ∧ some (Value.slice (some
 (Addr.mk 510 0 none)) n cp) = some (Value.slice (some (Addr.mk 510 0 none)) n cp) ∧ some (Value.pointer (some (Addr.mk 9 0 none))) = some
 (Value.pointer (some (Addr.mk 9 0 none))) ∧ some (Value.pointer (some (Addr.mk 19 0 none))) = some (Value.pointer (some (Addr.mk 19 0 none))) ∧ some
 (Value.slice none 0 0) = some (Value.slice none 0 0) ∧ some (Value.int IntKind.i64 (↑(last + 1) : Int)) = some (Value.int IntKind.i64 (↑(last + 1) :
 Int)) ∧ some (Value.int IntKind.i64 (↑(i + 1) : Int)) = some (Value.int IntKind.i64 (↑(i + 1) : Int)) ∧ some (AObj.blk (Blk.mk [Value.int IntKind.i64
 (↑last : Int), Value.map (some 10)] 2 1 62 true true 0 true)) = some (AObj.blk (Blk.mk [Value.int IntKind.i64 (↑last : Int), Value.map (some 10)] 2 1
 62 true true 0 true)) ∧ renO (sig [(9, 9), (10, 10), (11, 11), (12, 12), (13, 13), (14, 14), (15, 15), (16, 16), (17, 17), (18, 18), (19, 19)])
 (AObj.map (ents (gone y ids)) last) = some (AObj.map (ents (gone y ids)) last) ∧ some nb0 = some nb0 ∧ some nb1 = some nb1 ∧ some (nb2 11) = some (nb2
 11) ∧ some nb3 = some nb3 ∧ some nb4 = some nb4 ∧ some nb5 = some nb5 ∧ some nb6 = some nb6 ∧ some nb7 = some nb7 ∧ some (nBox 11) = some (nBox 11) ∧ Q
 AExit.normal [(0, Value.slice (some (Addr.mk 510 0 none)) n cp), (8, Value.pointer (some (Addr.mk 9 0 none))), (9, Value.pointer (some (Addr.mk 19 0
 none))), (10, Value.slice none 0 0), (11, Value.int IntKind.i64 (↑(last + 1) : Int)), (12, Value.int IntKind.i64 (↑(i + 1) : Int))] [(9, AObj.blk
 (Blk.mk [Value.int IntKind.i64 (↑last : Int), Value.map (some 10)] 2 1 62 true true 0 true)), (10, AObj.map (ents (gone y ids)) last), (11, nb0), (12,
 nb1), (13, nb2 11), (14, nb3), (15, nb4), (16, nb5), (17, nb6), (18, nb7), (19, nBox 11)] 21))))) ∧ ∀ (x : Unit), gone y ids ≠ [] → (↑i : Int) = (↑i :
 Int) ∧ i < n ∧ 510 = 510 ∧ z.get 0 = some (AObj.blk kl) ∧ readB Tryz.prog kl 3 (0 + i * 1) = some (Value.int IntKind.i64 y) ∧ z = z ∧ (CallA Tryz.prog
 z 5 [Value.pointer (some (Addr.mk 0 0 none)), Value.int IntKind.i64 y] [(0, AObj.blk (Blk.mk [Value.int IntKind.i64 (↑last : Int), Value.map (some 1)]
 2 1 62 true true 0 true)), (1, AObj.map (ents ids) last)] 2 2 (fun (e : Nat) => (e = 0 ∧ ∃ (k : Nat), k ∈ ids ∧ (↑k : Int) = y) ∨ e = 7 ∧ ∀ (k : Nat),
 k ∈ ids → (↑k : Int) ≠ y) (fun (e : Nat) => iv e) fun (x : Nat) => [(0, wst last 1), (1, AObj.map (ents (gone y ids)) last)]) ∧ some [Value.pointer
 (some (Addr.mk 9 0 none)), Value.int IntKind.i64 y] = some [Value.pointer (some (Addr.mk 9 0 none)), Value.int IntKind.i64 y] ∧ some (AObj.blk (Blk.mk
 [Value.int IntKind.i64 (↑last : Int), Value.map (some 10)] 2 1 62 true true 0 true)) = some (AObj.blk (Blk.mk [Value.int IntKind.i64 (↑last : Int),
 Value.map (some 10)] 2 1 62 true true 0 true)) ∧ renO (sig [(0, 9), (1, 10)]) (AObj.map (ents ids) last) = some (AObj.map (ents ids) last) ∧ ∀ (x :
 Nat), ((x = 0 ∧ ∃ (k : Nat), k ∈ ids ∧ (↑k : Int) = y) ∨ x = 7 ∧ ∀ (k : Nat), k ∈ ids → (↑k : Int) ≠ y) → some (Value.int IntKind.i64 (↑x : Int)) =
 some (Value.int IntKind.i64 (↑x : Int)) ∧ some (AObj.blk (Blk.mk [Value.int IntKind.i64 (↑last : Int), Value.map (some 1)] 2 1 62 true true 0 true)) =
 some (AObj.blk (Blk.mk [Value.int IntKind.i64 (↑last : Int), Value.map (some 1)] 2 1 62 true true 0 true)) ∧ renO (sig [(9, 0), (10, 1)]) (AObj.map
 (ents (gone y ids)) last) = some (AObj.map (ents (gone y ids)) last) ∧ (((↑x : Int) == 0) = true → (decide ((↑(gone y ids).length : Int) < (↑ids.length
 : Int)) = true → (((↑x : Int) != 0) = true → (((↑x : Int) != 7) = true → true = true ∧ 202 = 202 ∧ true = true ∧ z = z ∧ some F0 = some F0 ∧ some
 (AObj.blk (Blk.mk [Value.int IntKind.i64 (↑last : Int), Value.map (some 10)] 2 1 62 true true 0 true)) = some (AObj.blk (Blk.mk [Value.int IntKind.i64
 (↑last : Int), Value.map (some 10)] 2 1 62 true true 0 true)) ∧ renO (sig [(9, 9), (10, 10), (11, 11), (12, 12), (13, 13), (14, 14), (15, 15), (16,
 16), (17, 17), (18, 18), (19, 19)]) (AObj.map (ents (gone y ids)) last) = some (AObj.map (ents (gone y ids)) last) ∧ some nb0 = some nb0 ∧ some nb1 =
 some nb1 ∧ some (nb2 11) = some (nb2 11) ∧ some nb3 = some nb3 ∧ some nb4 = some nb4 ∧ some nb5 = some nb5 ∧ some nb6 = some nb6 ∧ some nb7 = some nb7
 ∧ some (nBox 11) = some (nBox 11) ∧ Q AExit.ret [(2, F0)] [(9, AObj.blk (Blk.mk [Value.int IntKind.i64 (↑last : Int), Value.map (some 10)] 2 1 62 true
 true 0 true)), (10, AObj.map (ents (gone y ids)) last), (11, nb0), (12, nb1), (13, nb2 11), (14, nb3), (15, nb4), (16, nb5), (17, nb6), (18, nb7), (19,
 nBox 11)] 21) ∧ (((↑x : Int) != 7) = false → z = z ∧ (CallA Tryz.prog z 6 [Value.pointer (some (Addr.mk 0 0 none))] [(0, AObj.blk (Blk.mk [Value.int
 IntKind.i64 (↑last : Int), Value.map (some 1)] 2 1 62 true true 0 true)), (1, AObj.map (ents (gone y ids)) last)] 2 2 (fun (x : Unit) => True) (fun (x
 : Unit) => iv (ents (gone y ids)).length) fun (x : Unit) => [(0, AObj.blk (Blk.mk [Value.int IntKind.i64 (↑last : Int), Value.map (some 1)] 2 1 62 true
 true 0 true)), (1, AObj.map (ents (gone y ids)) last)]) ∧ some [Value.pointer (some (Addr.mk 9 0 none))] = some [Value.pointer (some (Addr.mk 9 0
 none))] ∧ some (AObj.blk (Blk.mk [Value.int IntKind.i64 (↑last : Int), Value.map (some 10)] 2 1 62 true true 0 true)) = some (AObj.blk (Blk.mk
 [Value.int IntKind.i64 (↑last : Int), Value.map (some 10)] 2 1 62 true true 0 true)) ∧ renO (sig [(0, 9), (1, 10)]) (AObj.map (ents (gone y ids)) last)
 = some (AObj.map (ents (gone y ids)) last) ∧ ∀ (x : Unit), True → some (Value.int IntKind.i64 (↑(ents (gone y ids)).length : Int)) = some (Value.int
 IntKind.i64 (↑(ents (gone y ids)).length : Int)) ∧ some (AObj.blk (Blk.mk [Value.int IntKind.i64 (↑last : Int), Value.map (some 1)] 2 1 62 true true 0
 true)) = some (AObj.blk (Blk.mk [Value.int IntKind.i64 (↑last : Int), Value.map (some 1)] 2 1 62 true true 0 true)) ∧ renO (sig [(9, 0), (10, 1)])
 (AObj.map (ents (gone y ids)) last) = some (AObj.map (ents (gone y ids)) last) ∧ (((↑(ents (gone y ids)).length : Int) != (↑(gone y ids).length : Int))
 = true → true = true ∧ 202 = 202 ∧ true = true ∧ z = z ∧ some F0 = some F0 ∧ some (AObj.blk (Blk.mk [Value.int IntKind.i64 (↑last : Int), Value.map
 (some 10)] 2 1 62 true true 0 true)) = some (AObj.blk (Blk.mk [Value.int IntKind.i64 (↑last : Int), Value.map (some 10)] 2 1 62 true true 0 true)) ∧
 renO (sig [(9, 9), (10, 10), (11, 11), (12, 12), (13, 13), (14, 14), (15, 15), (16, 16), (17, 17), (18, 18), (19, 19)]) (AObj.map (ents (gone y ids))
 last) = some (AObj.map (ents (gone y ids)) last) ∧ some nb0 = some nb0 ∧ some nb1 = some nb1 ∧ some (nb2 11) = some (nb2 11) ∧ some nb3 = some nb3 ∧
 some nb4 = some nb4 ∧ some nb5 = some nb5 ∧ some nb6 = some nb6 ∧ some nb7 = some nb7 ∧ some (nBox 11) = some (nBox 11) ∧ Q AExit.ret [(2, F0)] [(9,
 AObj.blk (Blk.mk [Value.int IntKind.i64 (↑last : Int), Value.map (some 10)] 2 1 62 true true 0 true)), (10, AObj.map (ents (gone y ids)) last), (11,
 nb0), (12, nb1), (13, nb2 11), (14, nb3), (15, nb4), (16, nb5), (17, nb6), (18, nb7), (19, nBox 11)] 21) ∧ (((↑(ents (gone y ids)).length : Int) !=
 (↑(gone y ids).length : Int)) = false → Value.int IntKind.i64 (IntKind.i64.wrap ((↑i : Int) + 1)) = Value.int IntKind.i64 (↑(i + 1) : Int) ∧ true =
 true ∧ 202 = 202 ∧ true = true ∧ z = z ∧ some (Value.slice (some (Addr.mk 510 0 none)) n cp) = some (Value.slice (some (Addr.mk 510 0 none)) n cp) ∧
 some (Value.pointer (some (Addr.mk 9 0 none))) = some (Value.pointer (some (Addr.mk 9 0 none))) ∧ some (Value.pointer (some (Addr.mk 19 0 none))) =
 some (Value.pointer (some (Addr.mk 19 0 none))) ∧ some (Value.slice (some (Addr.mk 21 0 none)) (gone y ids).length (gone y ids).length) = some
 (Value.slice (some (Addr.mk 21 0 none)) (gone y ids).length (gone y ids).length) ∧ some (Value.int IntKind.i64 (↑(last + 1) : Int)) = some (Value.int
 IntKind.i64 (↑(last + 1) : Int)) ∧ some (Value.int IntKind.i64 (↑(i + 1) : Int)) = some (Value.int IntKind.i64 (↑(i + 1) : Int)) ∧ some (AObj.blk
 (Blk.mk [Value.int IntKind.i64 (↑last : Int), Value.map (some 10)] 2 1 62 true true 0 true)) = some (AObj.blk (Blk.mk [Value.int IntKind.i64 (↑last :
 Int), Value.map (some 10)] 2 1 62 true true 0 true)) ∧ renO (sig [(9, 9), (10, 10), (11, 11), (12, 12), (13, 13), (14, 14), (15, 15), (16, 16), (17,
 17), (18, 18), (19, 19), (20, 21)]) (AObj.map (ents (gone y ids)) last) = some (AObj.map (ents (gone y ids)) last) ∧ some nb0 = some nb0 ∧ some nb1 =
 some nb1 ∧ some (nb2 11) = some (nb2 11) ∧ some nb3 = some nb3 ∧ some nb4 = some nb4 ∧ some nb5 = some nb5 ∧ some nb6 = some nb6 ∧ some nb7 = some nb7
 ∧ some (nBox 11) = some (nBox 11) ∧ renO (sig [(9, 9), (10, 10), (11, 11), (12, 12), (13, 13), (14, 14), (15, 15), (16, 16), (17, 17), (18, 18), (19,
 19), (20, 21)]) (AObj.blk (Blk.mk (List.map iv (gone y ids)) ((gone y ids).length * 1) 1 3 false false 0 true)) = some (AObj.blk (Blk.mk (List.map iv
 (gone y ids)) ((gone y ids).length * 1) 1 3 false false 0 true)) ∧ Q AExit.normal [(0, Value.slice (some (Addr.mk 510 0 none)) n cp), (8, Value.pointer
 (some (Addr.mk 9 0 none))), (9, Value.pointer (some (Addr.mk 19 0 none))), (10, Value.slice (some (Addr.mk 20 0 none)) (gone y ids).length (gone y
 ids).length), (11, Value.int IntKind.i64 (↑(last + 1) : Int)), (12, Value.int IntKind.i64 (↑(i + 1) : Int))] [(9, AObj.blk (Blk.mk [Value.int
 IntKind.i64 (↑last : Int), Value.map (some 10)] 2 1 62 true true 0 true)), (10, AObj.map (ents (gone y ids)) last), (11, nb0), (12, nb1), (13, nb2 11),
 (14, nb3), (15, nb4), (16, nb5), (17, nb6), (18, nb7), (19, nBox 11), (20, AObj.blk (Blk.mk (List.map iv (gone y ids)) ((gone y ids).length * 1) 1 3
 false false 0 true))] 21))) ∧ (((↑x : Int) != 0) = false → z = z ∧ (CallA Tryz.prog z 6 [Value.pointer (some (Addr.mk 0 0 none))] [(0, AObj.blk (Blk.mk
 [Value.int IntKind.i64 (↑last : Int), Value.map (some 1)] 2 1 62 true true 0 true)), (1, AObj.map (ents (gone y ids)) last)] 2 2 (fun (x : Unit) =>
 True) (fun (x : Unit) => iv (ents (gone y ids)).length) fun (x : Unit) => [(0, AObj.blk (Blk.mk [Value.int IntKind.i64 (↑last : Int), Value.map (some
 1)] 2 1 62 true true 0 true)), (1, AObj.map (ents (gone y ids)) last)]) ∧ some [Value.pointer (some (Addr.mk 9 0 none))] = some [Value.pointer (some
 (Addr.mk 9 0 none))] ∧ some (AObj.blk (Blk.mk [Value.int IntKind.i64 (↑last : Int), Value.map (some 10)] 2 1 62 true true 0 true)) = some (AObj.blk
 (Blk.mk [Value.int IntKind.i64 (↑last : Int), Value.map (some 10)] 2 1 62 true true 0 true)) ∧ renO (sig [(0, 9), (1, 10)]) (AObj.map (ents (gone y
 ids)) last) = some (AObj.map (ents (gone y ids)) last) ∧ ∀ (x : Unit), True → some (Value.int IntKind.i64 (↑(ents (gone y ids)).length : Int)) = some
 (Value.int IntKind.i64 (↑(ents (gone y ids)).length : Int)) ∧ some (AObj.blk (Blk.mk [Value.int IntKind.i64 (↑last : Int), Value.map (some 1)] 2 1 62
 true true 0 true)) = some (AObj.blk (Blk.mk [Value.int IntKind.i64 (↑last : Int), Value.map (some 1)] 2 1 62 true true 0 true)) ∧ renO (sig [(9, 0),
 (10, 1)]) (AObj.map (ents (gone y ids)) last) = some (AObj.map (ents (gone y ids)) last) ∧ (((↑(ents (gone y ids)).length : Int) != (↑(gone y
 ids).length : Int)) = true → true = true ∧ 202 = 202 ∧ true = true ∧ z = z ∧ some F0 = some F0 ∧ some (AObj.blk (Blk.mk [Value.int IntKind.i64 (↑last :
 Int), Value.map (some 10)] 2 1 62 true true 0 true)) = some (AObj.blk (Blk.mk [Value.int IntKind.i64 (↑last : Int), Value.map (some 10)] 2 1 62 true
 true 0 true)) ∧ renO (sig [(9, 9), (10, 10), (11, 11), (12, 12), (13, 13), (14, 14), (15, 15), (16, 16), (17, 17), (18, 18), (19, 19)]) (AObj.map (ents
 (gone y ids)) last) = some (AObj.map (ents (gone y ids)) last) ∧ some nb0 = some nb0 ∧ some nb1 = some nb1 ∧ some (nb2 11) = some (nb2 11) ∧ some nb3 =
 some nb3 ∧ some nb4 = some nb4 ∧ some nb5 = some nb5 ∧ some nb6 = some nb6 ∧ some nb7 = some nb7 ∧ some (nBox 11) = some (nBox 11) ∧ Q AExit.ret [(2,
 F0)] [(9, AObj.blk (Blk.mk [Value.int IntKind.i64 (↑last : Int), Value.map (some 10)] 2 1 62 true true 0 true)), (10, AObj.map (ents (gone y ids))
 last), (11, nb0), (12, nb1), (13, nb2 11), (14, nb3), (15, nb4), (16, nb5), (17, nb6), (18, nb7), (19, nBox 11)] 21) ∧ (((↑(ents (gone y ids)).length :
 Int) != (↑(gone y ids).length : Int)) = false → Value.int IntKind.i64 (IntKind.i64.wrap ((↑i : Int) + 1)) = Value.int IntKind.i64 (↑(i + 1) : Int) ∧
 true = true ∧ 202 = 202 ∧ true = true ∧ z = z ∧ some (Value.slice (some (Addr.mk 510 0 none)) n cp) = some (Value.slice (some (Addr.mk 510 0 none)) n
 cp) ∧ some (Value.pointer (some (Addr.mk 9 0 none))) = some (Value.pointer (some (Addr.mk 9 0 none))) ∧ some (Value.pointer (some (Addr.mk 19 0 none)))
 = some (Value.pointer (some (Addr.mk 19 0 none))) ∧ some (Value.slice (some (Addr.mk 21 0 none)) (gone y ids).length (gone y ids).length) = some
 (Value.slice (some (Addr.mk 21 0 none)) (gone y ids).length (gone y ids).length) ∧ some (Value.int IntKind.i64 (↑(last + 1) : Int)) = some (Value.int
 IntKind.i64 (↑(last + 1) : Int)) ∧ some (Value.int IntKind.i64 (↑(i + 1) : Int)) = some (Value.int IntKind.i64 (↑(i + 1) : Int)) ∧ some (AObj.blk
 (Blk.mk [Value.int IntKind.i64 (↑last : Int), Value.map (some 10)] 2 1 62 true true 0 true)) = some (AObj.blk (Blk.mk [Value.int IntKind.i64 (↑last :
 Int), Value.map (some 10)] 2 1 62 true true 0 true)) ∧ renO (sig [(9, 9), (10, 10), (11, 11), (12, 12), (13, 13), (14, 14), (15, 15), (16, 16), (17,
 17), (18, 18), (19, 19), (20, 21)]) (AObj.map (ents (gone y ids)) last) = some (AObj.map (ents (gone y ids)) last) ∧ some nb0 = some nb0 ∧ some nb1 =
 some nb1 ∧ some (nb2 11) = some (nb2 11) ∧ some nb3 = some nb3 ∧ some nb4 = some nb4 ∧ some nb5 = some nb5 ∧ some nb6 = some nb6 ∧ some nb7 = some nb7
 ∧ some (nBox 11) = some (nBox 11) ∧ renO (sig [(9, 9), (10, 10), (11, 11), (12, 12), (13, 13), (14, 14), (15, 15), (16, 16), (17, 17), (18, 18), (19,
 19), (20, 21)]) (AObj.blk (Blk.mk (List.map iv (gone y ids)) ((gone y ids).length * 1) 1 3 false false 0 true)) = some (AObj.blk (Blk.mk (List.map iv
 (gone y ids)) ((gone y ids).length * 1) 1 3 false false 0 true)) ∧ Q AExit.normal [(0, Value.slice (some (Addr.mk 510 0 none)) n cp), (8, Value.pointer
 (some (Addr.mk 9 0 none))), (9, Value.pointer (some (Addr.mk 19 0 none))), (10, Value.slice (some (Addr.mk 20 0 none)) (gone y ids).length (gone y
 ids).length), (11, Value.int IntKind.i64 (↑(last + 1) : Int)), (12, Value.int IntKind.i64 (↑(i + 1) : Int))] [(9, AObj.blk (Blk.mk [Value.int
 IntKind.i64 (↑last : Int), Value.map (some 10)] 2 1 62 true true 0 true)), (10, AObj.map (ents (gone y ids)) last), (11, nb0), (12, nb1), (13, nb2 11),
 (14, nb3), (15, nb4), (16, nb5), (17, nb6), (18, nb7), (19, nBox 11), (20, AObj.blk (Blk.mk (List.map iv (gone y ids)) ((gone y ids).length * 1) 1 3
 false false 0 true))] 21))) ∧ (decide ((↑(gone y ids).length : Int) < (↑ids.length : Int)) = false → true = true ∧ 202 = 202 ∧ true = true ∧ z = z ∧
 some F0 = some F0 ∧ some (AObj.blk (Blk.mk [Value.int IntKind.i64 (↑last : Int), Value.map (some 10)] 2 1 62 true true 0 true)) = some (AObj.blk
 (Blk.mk [Value.int IntKind.i64 (↑last : Int), Value.map (some 10)] 2 1 62 true true 0 true)) ∧ renO (sig [(9, 9), (10, 10), (11, 11), (12, 12), (13,
 13), (14, 14), (15, 15), (16, 16), (17, 17), (18, 18), (19, 19)]) (AObj.map (ents (gone y ids)) last) = some (AObj.map (ents (gone y ids)) last) ∧ some
 nb0 = some nb0 ∧ some nb1 = some nb1 ∧ some (nb2 11) = some (nb2 11) ∧ some nb3 = some nb3 ∧ some nb4 = some nb4 ∧ some nb5 = some nb5 ∧ some nb6 =
 some nb6 ∧ some nb7 = some nb7 ∧ some (nBox 11) = some (nBox 11) ∧ Q AExit.ret [(2, F0)] [(9, AObj.blk (Blk.mk [Value.int IntKind.i64 (↑last : Int),
 Value.map (some 10)] 2 1 62 true true 0 true)), (10, AObj.map (ents (gone y ids)) last), (11, nb0), (12, nb1), (13, nb2 11), (14, nb3), (15, nb4), (16,
 nb5), (17, nb6), (18, nb7), (19, nBox 11)] 21)) ∧ (((↑x : Int) == 0) = false → (decide ((↑(gone y ids).length : Int) < (↑ids.length : Int)) = true →
 true = true ∧ 202 = 202 ∧ true = true ∧ z = z ∧ some F0 = some F0 ∧ some (AObj.blk (Blk.mk [Value.int IntKind.i64 (↑last : Int), Value.map (some 10)] 2
 1 62 true true 0 true)) = some (AObj.blk (Blk.mk [Value.int IntKind.i64 (↑last : Int), Value.map (some 10)] 2 1 62 true true 0 true)) ∧ renO (sig [(9,
 9), (10, 10), (11, 11), (12, 12), (13, 13), (14, 14), (15, 15), (16, 16), (17, 17), (18, 18), (19, 19)]) (AObj.map (ents (gone y ids)) last) = some
 (AObj.map (ents (gone y ids)) last) ∧ some nb0 = some nb0 ∧ some nb1 = some nb1 ∧ some (nb2 11) = some (nb2 11) ∧ some nb3 = some nb3 ∧ some nb4 = some
 nb4 ∧ some nb5 = some nb5 ∧ some nb6 = some nb6 ∧ some nb7 = some nb7 ∧ some (nBox 11) = some (nBox 11) ∧ Q AExit.ret [(2, F0)] [(9, AObj.blk (Blk.mk
 [Value.int IntKind.i64 (↑last : Int), Value.map (some 10)] 2 1 62 true true 0 true)), (10, AObj.map (ents (gone y ids)) last), (11, nb0), (12, nb1),
 (13, nb2 11), (14, nb3), (15, nb4), (16, nb5), (17, nb6), (18, nb7), (19, nBox 11)] 21) ∧ (decide ((↑(gone y ids).length : Int) < (↑ids.length : Int))
 = false → (((↑x : Int) != 0) = true → (((↑x : Int) != 7) = true → true = true ∧ 202 = 202 ∧ true = true ∧ z = z ∧ some F0 = some F0 ∧ some (AObj.blk
 (Blk.mk [Value.int IntKind.i64 (↑last : Int), Value.map (some 10)] 2 1 62 true true 0 true)) = some (AObj.blk (Blk.mk [Value.int IntKind.i64 (↑last :
 Int), Value.map (some 10)] 2 1 62 true true 0 true)) ∧ renO (sig [(9, 9), (10, 10), (11, 11), (12, 12), (13, 13), (14, 14), (15, 15), (16, 16), (17,
 17), (18, 18), (19, 19)]) (AObj.map (ents (gone y ids)) last) = some (AObj.map (ents (gone y ids)) last) ∧ some nb0 = some nb0 ∧ some nb1 = some nb1 ∧
 some (nb2 11) = some (nb2 11) ∧ some nb3 = some nb3 ∧ some nb4 = some nb4 ∧ some nb5 = some nb5 ∧ some nb6 = some nb6 ∧ some nb7 = some nb7 ∧ some
 (nBox 11) = some (nBox 11) ∧ Q AExit.ret [(2, F0)] [(9, AObj.blk (Blk.mk [Value.int IntKind.i64 (↑last : Int), Value.map (some 10)] 2 1 62 true true 0
 true)), (10, AObj.map (ents (gone y ids)) last), (11, nb0), (12, nb1), (13, nb2 11), (14, nb3), (15, nb4), (16, nb5), (17, nb6), (18, nb7), (19, nBox
 11)] 21) ∧ (((↑x : Int) != 7) = false → z = z ∧ (CallA Tryz.prog z 6 [Value.pointer (some (Addr.mk 0 0 none))] [(0, AObj.blk (Blk.mk [Value.int
 IntKind.i64 (↑last : Int), Value.map (some 1)] 2 1 62 true true 0 true)), (1, AObj.map (ents (gone y ids)) last)] 2 2 (fun (x : Unit) => True) (fun (x
 : Unit) => iv (ents (gone y ids)).length) fun (x : Unit) => [(0, AObj.blk (Blk.mk [Value.int IntKind.i64 (↑last : Int), Value.map (some 1)] 2 1 62 true
 true 0 true)), (1, AObj.map (ents (gone y ids)) last)]) ∧ some [Value.pointer (some (Addr.mk 9 0 none))] = some [Value.pointer (some (Addr.mk 9 0
 none))] ∧ some (AObj.blk (Blk.mk [Value.int IntKind.i64 (↑last : Int), Value.map (some 10)] 2 1 62 true true 0 true)) = some (AObj.blk (Blk.mk
 [Value.int IntKind.i64 (↑last : Int), Value.map (some 10)] 2 1 62 true true 0 true)) ∧ renO (sig [(0, 9), (1, 10)]) (AObj.map (ents (gone y ids)) last)
 = some (AObj.map (ents (gone y ids)) last) ∧ ∀ (x : Unit), True → some (Value.int IntKind.i64 (↑(ents (gone y ids)).length : Int)) = some (Value.int
 IntKind.i64 (↑(ents (gone y ids)).length : Int)) ∧ some (AObj.blk (Blk.mk [Value.int IntKind.i64 (↑last : Int), Value.map (some 1)] 2 1 62 true true 0
 true)) = some (AObj.blk (Blk.mk [Value.int IntKind.i64 (↑last : Int), Value.map (some 1)] 2 1 62 true true 0 true)) ∧ renO (sig [(9, 0), (10, 1)])
 (AObj.map (ents (gone y ids)) last) = some (AObj.map (ents (gone y ids)) last) ∧ (((↑(ents (gone y ids)).length : Int) != (↑(gone y ids).length : Int))
 = true → true = true ∧ 202 = 202 ∧ true = true ∧ z = z ∧ some F0 = some F0 ∧ some (AObj.blk (Blk.mk [Value.int IntKind.i64 (↑last : Int), Value.map
 (some 10)] 2 1 62 true true 0 true)) = some (AObj.blk (Blk.mk [Value.int IntKind.i64 (↑last : Int), Value.map (some 10)] 2 1 62 true true 0 true)) ∧
 renO (sig [(9, 9), (10, 10), (11, 11), (12, 12), (13, 13), (14, 14), (15, 15), (16, 16), (17, 17), (18, 18), (19, 19)]) (AObj.map (ents (gone y ids))
 last) = some (AObj.map (ents (gone y ids)) last) ∧ some nb0 = some nb0 ∧ some nb1 = some nb1 ∧ some (nb2 11) = some (nb2 11) ∧ some nb3 = some nb3 ∧
 some nb4 = some nb4 ∧ some nb5 = some nb5 ∧ some nb6 = some nb6 ∧ some nb7 = some nb7 ∧ some (nBox 11) = some (nBox 11) ∧ Q AExit.ret [(2, F0)] [(9,
 AObj.blk (Blk.mk [Value.int IntKind.i64 (↑last : Int), Value.map (some 10)] 2 1 62 true true 0 true)), (10, AObj.map (ents (gone y ids)) last), (11,
 nb0), (12, nb1), (13, nb2 11), (14, nb3), (15, nb4), (16, nb5), (17, nb6), (18, nb7), (19, nBox 11)] 21) ∧ (((↑(ents (gone y ids)).length : Int) !=
 (↑(gone y ids).length : Int)) = false → Value.int IntKind.i64 (IntKind.i64.wrap ((↑i : Int) + 1)) = Value.int IntKind.i64 (↑(i + 1) : Int) ∧ true =
 true ∧ 202 = 202 ∧ true = true ∧ z = z ∧ some (Value.slice (some (Addr.mk 510 0 none)) n cp) = some (Value.slice (some (Addr.mk 510 0 none)) n cp) ∧
 some (Value.pointer (some (Addr.mk 9 0 none))) = some (Value.pointer (some (Addr.mk 9 0 none))) ∧ some (Value.pointer (some (Addr.mk 19 0 none))) =
 some (Value.pointer (some (Addr.mk 19 0 none))) ∧ some (Value.slice (some (Addr.mk 21 0 none)) (gone y ids).length (gone y ids).length) = some
 (Value.slice (some (Addr.mk 21 0 none)) (gone y ids).length (gone y ids).length) ∧ some (Value.int IntKind.i64 (↑(last + 1) : Int)) = some (Value.int
 IntKind.i64 (↑(last + 1) : Int)) ∧ some (Value.int IntKind.i64 (↑(i + 1) : Int)) = some (Value.int IntKind.i64 (↑(i + 1) : Int)) ∧ some (AObj.blk
 (Blk.mk [Value.int IntKind.i64 (↑last : Int), Value.map (some 10)] 2 1 62 true true 0 true)) = some (AObj.blk (Blk.mk [Value.int IntKind.i64 (↑last :
 Int), Value.map (some 10)] 2 1 62 true true 0 true)) ∧ renO (sig [(9, 9), (10, 10), (11, 11), (12, 12), (13, 13), (14, 14), (15, 15), (16, 16), (17,
 17), (18, 18), (19, 19), (20, 21)]) (AObj.map (ents (gone y ids)) last) = some (AObj.map (ents (gone y ids)) last) ∧ some nb0 = some nb0 ∧ some nb1 =
 some nb1 ∧ some (nb2 11) = some (nb2 11) ∧ some nb3 = some nb3 ∧ some nb4 = some nb4 ∧ some nb5 = some nb5 ∧ some nb6 = some nb6 ∧ some nb7 = some nb7
 ∧ some (nBox 11) = some (nBox 11) ∧ renO (sig [(9, 9), (10, 10), (11, 11), (12, 12), (13, 13), (14, 14), (15, 15), (16, 16), (17, 17), (18, 18), (19,
 19), (20, 21)]) (AObj.blk (Blk.mk (List.map iv (gone y ids)) ((gone y ids).length * 1) 1 3 false false 0 true)) = some (AObj.blk (Blk.mk (List.map iv
 (gone y ids)) ((gone y ids).length * 1) 1 3 false false 0 true)) ∧ Q AExit.normal [(0, Value.slice (some (Addr.mk 510 0 none)) n cp), (8, Value.pointer
 (some (Addr.mk 9 0 none))), (9, Value.pointer (some (Addr.mk 19 0 none))), (10, Value.slice (some (Addr.mk 20 0 none)) (gone y ids).length (gone y
 ids).length), (11, Value.int IntKind.i64 (↑(last + 1) : Int)), (12, Value.int IntKind.i64 (↑(i + 1) : Int))] [(9, AObj.blk (Blk.mk [Value.int
 IntKind.i64 (↑last : Int), Value.map (some 10)] 2 1 62 true true 0 true)), (10, AObj.map (ents (gone y ids)) last), (11, nb0), (12, nb1), (13, nb2 11),
 (14, nb3), (15, nb4), (16, nb5), (17, nb6), (18, nb7), (19, nBox 11), (20, AObj.blk (Blk.mk (List.map iv (gone y ids)) ((gone y ids).length * 1) 1 3
 false false 0 true))] 21))) ∧ (((↑x : Int) != 0) = false → z = z ∧ (CallA Tryz.prog z 6 [Value.pointer (some (Addr.mk 0 0 none))] [(0, AObj.blk (Blk.mk
 [Value.int IntKind.i64 (↑last : Int), Value.map (some 1)] 2 1 62 true true 0 true)), (1, AObj.map (ents (gone y ids)) last)] 2 2 (fun (x : Unit) =>
 True) (fun (x : Unit) => iv (ents (gone y ids)).length) fun (x : Unit) => [(0, AObj.blk (Blk.mk [Value.int IntKind.i64 (↑last : Int), Value.map (some
 1)] 2 1 62 true true 0 true)), (1, AObj.map (ents (gone y ids)) last)]) ∧ some [Value.pointer (some (Addr.mk 9 0 none))] = some [Value.pointer (some
 (Addr.mk 9 0 none))] ∧ some (AObj.blk (Blk.mk [Value.int IntKind.i64 (↑last : Int), Value.map (some 10)] 2 1 62 true true 0 true)) = some (AObj.blk
 (Blk.mk [Value.int IntKind.i64 (↑last : Int), Value.map (some 10)] 2 1 62 true true 0 true)) ∧ renO (sig [(0, 9), (1, 10)]) (AObj.map (ents (gone y
 ids)) last) = some (AObj.map (ents (gone y ids)) last) ∧ ∀ (x : Unit), True → some (Value.int IntKind.i64 (↑(ents (gone y ids)).length : Int)) = some
 (Value.int IntKind.i64 (↑(ents (gone y ids)).length : Int)) ∧ some (AObj.blk (Blk.mk [Value.int IntKind.i64 (↑last : Int), Value.map (some 1)] 2 1 62
 true true 0 true)) = some (AObj.blk (Blk.mk [Value.int IntKind.i64 (↑last : Int), Value.map (some 1)] 2 1 62 true true 0 true)) ∧ renO (sig [(9, 0),
 (10, 1)]) (AObj.map (ents (gone y ids)) last) = some (AObj.map (ents (gone y ids)) last) ∧ (((↑(ents (gone y ids)).length : Int) != (↑(gone y
 ids).length : Int)) = true → true = true ∧ 202 = 202 ∧ true = true ∧ z = z ∧ some F0 = some F0 ∧ some (AObj.blk (Blk.mk [Value.int IntKind.i64 (↑last :
 Int), Value.map (some 10)] 2 1 62 true true 0 true)) = some (AObj.blk (Blk.mk [Value.int IntKind.i64 (↑last : Int), Value.map (some 10)] 2 1 62 true
 true 0 true)) ∧ renO (sig [(9, 9), (10, 10), (11, 11), (12, 12), (13, 13), (14, 14), (15, 15), (16, 16), (17, 17), (18, 18), (19, 19)]) (AObj.map (ents
 (gone y ids)) last) = some (AObj.map (ents (gone y ids)) last) ∧ some nb0 = some nb0 ∧ some nb1 = some nb1 ∧ some (nb2 11) = some (nb2 11) ∧ some nb3 =
 some nb3 ∧ some nb4 = some nb4 ∧ some nb5 = some nb5 ∧ some nb6 = some nb6 ∧ some nb7 = some nb7 ∧ some (nBox 11) = some (nBox 11) ∧ Q AExit.ret [(2,
 F0)] [(9, AObj.blk (Blk.mk [Value.int IntKind.i64 (↑last : Int), Value.map (some 10)] 2 1 62 true true 0 true)), (10, AObj.map (ents (gone y ids))
 last), (11, nb0), (12, nb1), (13, nb2 11), (14, nb3), (15, nb4), (16, nb5), (17, nb6), (18, nb7), (19, nBox 11)] 21) ∧ (((↑(ents (gone y ids)).length :
 Int) != (↑(gone y ids).length : Int)) = false → Value.int IntKind.i64 (IntKind.i64.wrap ((↑i : Int) + 1)) = Value.int IntKind.i64 (↑(i + 1) : Int) ∧
 true = true ∧ 202 = 202 ∧ true = true ∧ z = z ∧ some (Value.slice (some (Addr.mk 510 0 none)) n cp) = some (Value.slice (some (Addr.mk 510 0 none)) n
 cp) ∧ some (Value.pointer (some (Addr.mk 9 0 none))) = some (Value.pointer (some (Addr.mk 9 0 none))) ∧ some (Value.pointer (some (Addr.mk 19 0 none)))
 = some (Value.pointer (some (Addr.mk 19 0 none))) ∧ some (Value.slice (some (Addr.mk 21 0 none)) (gone y ids).length (gone y ids).length) = some
 (Value.slice (some (Addr.mk 21 0 none)) (gone y ids).length (gone y ids).length) ∧ some (Value.int IntKind.i64 (↑(last + 1) : Int)) = some (Value.int
 IntKind.i64 (↑(last + 1) : Int)) ∧ some (Value.int IntKind.i64 (↑(i + 1) : Int)) = some (Value.int IntKind.i64 (↑(i + 1) : Int)) ∧ some (AObj.blk
 (Blk.mk [Value.int IntKind.i64 (↑last : Int), Value.map (some 10)] 2 1 62 true true 0 true)) = some (AObj.blk (Blk.mk [Value.int IntKind.i64 (↑last :
 Int), Value.map (some 10)] 2 1 62 true true 0 true)) ∧ renO (sig [(9, 9), (10, 10), (11, 11), (12, 12), (13, 13), (14, 14), (15, 15), (16, 16), (17,
 17), (18, 18), (19, 19), (20, 21)]) (AObj.map (ents (gone y ids)) last) = some (AObj.map (ents (gone y ids)) last) ∧ some nb0 = some nb0 ∧ some nb1 =
 some nb1 ∧ some (nb2 11) = some (nb2 11) ∧ some nb3 = some nb3 ∧ some nb4 = some nb4 ∧ some nb5 = some nb5 ∧ some nb6 = some nb6 ∧ some nb7 = some nb7
 ∧ some (nBox 11) = some (nBox 11) ∧ renO (sig [(9, 9), (10, 10), (11, 11), (12, 12), (13, 13), (14, 14), (15, 15), (16, 16), (17, 17), (18, 18), (19,
 19), (20, 21)]) (AObj.blk (Blk.mk (List.map iv (gone y ids)) ((gone y ids).length * 1) 1 3 false false 0 true)) = some (AObj.blk (Blk.mk (List.map iv
 (gone y ids)) ((gone y ids).length * 1) 1 3 false false 0 true)) ∧ Q AExit.normal [(0, Value.slice (some (Addr.mk 510 0 none)) n cp), (8, Value.pointer
 (some (Addr.mk 9 0 none))), (9, Value.pointer (some (Addr.mk 19 0 none))), (10, Value.slice (some (Addr.mk 20 0 none)) (gone y ids).length (gone y
 ids).length), (11, Value.int IntKind.i64 (↑(last + 1) : Int)), (12, Value.int IntKind.i64 (↑(i + 1) : Int))] [(9, AObj.blk (Blk.mk [Value.int
 IntKind.i64 (↑last : Int), Value.map (some 10)] 2 1 62 true true 0 true)), (10, AObj.map (ents (gone y ids)) last), (11, nb0), (12, nb1), (13, nb2 11),
 (14, nb3), (15, nb4), (16, nb5), (17, nb6), (18, nb7), (19, nBox 11), (20, AObj.blk (Blk.mk (List.map iv (gone y ids)) ((gone y ids).length * 1) 1 3
 false false 0 true))] 21))))))) ∧ (decide ((↑i : Int) < (↑n : Int)) = false → true = true ∧ 202 = 202 ∧ true = true ∧ z = z ∧ some (AObj.blk (Blk.mk
 [Value.int IntKind.i64 (↑last : Int), Value.map (some 10)] 2 1 62 true true 0 true)) = some (AObj.blk (Blk.mk [Value.int IntKind.i64 (↑last : Int),
 Value.map (some 10)] 2 1 62 true true 0 true)) ∧ renO (sig [(9, 9), (10, 10), (11, 11), (12, 12), (13, 13), (14, 14), (15, 15), (16, 16), (17, 17),
 (18, 18), (19, 19)]) (AObj.map (ents ids) last) = some (AObj.map (ents ids) last) ∧ some nb0 = some nb0 ∧ some nb1 = some nb1 ∧ some (nb2 11) = some
 (nb2 11) ∧ some nb3 = some nb3 ∧ some nb4 = some nb4 ∧ some nb5 = some nb5 ∧ some nb6 = some nb6 ∧ some nb7 = some nb7 ∧ some (nBox 11) = some (nBox
 11) ∧ Q (AExit.exit 0) [] [(9, AObj.blk (Blk.mk [Value.int IntKind.i64 (↑last : Int), Value.map (some 10)] 2 1 62 true true 0 true)), (10, AObj.map
 (ents ids) last), (11, nb0), (12, nb1), (13, nb2 11), (14, nb3), (15, nb4), (16, nb5), (17, nb6), (18, nb7), (19, nBox 11)] 21)) : ∃ t, codeT Tryz.prog g z 100 (loopN (bodyOf Tryz.f3) 0) (mkFr 202 (lv3 n cp (sl 20 ids.length) last i)) (mkHs z (zn3r last ids) 21) (finK z 20 202 Q) t := ⟨ (Tr.auto 1 (Tr.one (An.idx i) (Tr.one (An.ld 0 kl (Value.int IntKind.i64 y)) ((Tr.auto 2 (Tr.cm (Cm.mk [Value.pointer (some (Addr.mk 0 0 none)), nV 2,
 Value.agg (Array.mk [I 1, I 1, I 0, F0, I 0, I 0, F0, F0, I 0, F0]), Value.agg (Array.mk [Value.slice none 0 0])] [(0, AObj.blk (Blk.mk [Value.int
 IntKind.i64 (↑last : Int), Value.map (some 1)] 2 1 62 true true 0 true)), (1, AObj.map (ents ids) last), (2, nb0), (3, nb1), (4, nb2 2), (5, nb3), (6,
 nb4), (7, nb5), (8, nb6), (9, nb7)] 10 10 [(0, 9), (1, 10), (2, 11), (3, 12), (4, 13), (5, 14), (6, 15), (7, 16), (8, 17), (9, 18)] [(9, 0), (10, 1),
 (11, 2), (12, 3), (13, 4), (14, 5), (15, 6), (16, 7), (17, 8), (18, 9)] 21) Unit (fun (x : Unit) => True) (fun (x : Unit) => Value.tuple (Array.mk [iv
 (last + 1), I 0])) (fun (x : Unit) => (0, wst (last + 1) 1) :: (1, AObj.map (ents (ids ++ [last + 1])) (last + 1)) :: nZ 2) (fun (x : Unit) =>
 Value.tuple (Array.mk [Value.int IntKind.i64 (↑(last + 1) : Int), I 0])) (fun (x : Unit) => [(9, AObj.blk (Blk.mk [Value.int IntKind.i64 (↑(last + 1) :
 Int), Value.map (some 10)] 2 1 62 true true 0 true)), (10, AObj.map (ents (ids ++ [last + 1])) (last + 1)), (11, nb0), (12, nb1), (13, nb2 11), (14,
 nb3), (15, nb4), (16, nb5), (17, nb6), (18, nb7)]) fun (x : Unit) => (Tr.auto 4 (Tr.fin [(9, 9), (10, 10), (11, 11), (12, 12), (13, 13), (14, 14), (15,
 15), (16, 16), (17, 17), (18, 18), (19, 19)] [(2, F0)] [(9, AObj.blk (Blk.mk [Value.int IntKind.i64 (↑(last + 1) : Int), Value.map (some 10)] 2 1 62
 true true 0 true)), (10, AObj.map (ents (ids ++ [last + 1])) (last + 1)), (11, nb0), (12, nb1), (13, nb2 11), (14, nb3), (15, nb4), (16, nb5), (17,
 nb6), (18, nb7), (19, nBox 11)] 21)).fork (Tr.auto 5 (Tr.x (AnX.grow 1 [Value.int IntKind.i64 (↑(last + 1) : Int)]) (Tr.one (An.val (Value.int
 IntKind.i64 (↑(last + 1 + 1) : Int))) (Tr.cm (Cm.mk [Value.pointer (some (Addr.mk 0 0 none))] [(0, AObj.blk (Blk.mk [Value.int IntKind.i64 (↑(last + 1)
 : Int), Value.map (some 1)] 2 1 62 true true 0 true)), (1, AObj.map (ents (ids ++ [last + 1])) (last + 1))] 2 2 [(0, 9), (1, 10)] [(9, 0), (10, 1)] 23)
 Unit (fun (x : Unit) => True) (fun (x : Unit) => iv (ents (ids ++ [last + 1])).length) (fun (x : Unit) => [(0, AObj.blk (Blk.mk [Value.int IntKind.i64
 (↑(last + 1) : Int), Value.map (some 1)] 2 1 62 true true 0 true)), (1, AObj.map (ents (ids ++ [last + 1])) (last + 1))]) (fun (x : Unit) => Value.int
 IntKind.i64 (↑(ents (ids ++ [last + 1])).length : Int)) (fun (x : Unit) => [(9, AObj.blk (Blk.mk [Value.int IntKind.i64 (↑(last + 1) : Int), Value.map
 (some 10)] 2 1 62 true true 0 true)), (10, AObj.map (ents (ids ++ [last + 1])) (last + 1))]) fun (x : Unit) => (Tr.auto 1 (Tr.fin [(9, 9), (10, 10),
 (11, 11), (12, 12), (13, 13), (14, 14), (15, 15), (16, 16), (17, 17), (18, 18), (19, 19)] [(2, F0)] [(9, AObj.blk (Blk.mk [Value.int IntKind.i64
 (↑(last + 1) : Int), Value.map (some 10)] 2 1 62 true true 0 true)), (10, AObj.map (ents (ids ++ [last + 1])) (last + 1)), (11, nb0), (12, nb1), (13,
 nb2 11), (14, nb3), (15, nb4), (16, nb5), (17, nb6), (18, nb7), (19, nBox 11)] 21)).fork (Tr.auto 1 (Tr.one (An.val (Value.int IntKind.i64 (↑(i + 1) :
 Int))) (Tr.fin [(9, 9), (10, 10), (11, 11), (12, 12), (13, 13), (14, 14), (15, 15), (16, 16), (17, 17), (18, 18), (19, 19), (20, 22)] [(0, Value.slice
 (some (Addr.mk 510 0 none)) n cp), (8, Value.pointer (some (Addr.mk 9 0 none))), (9, Value.pointer (some (Addr.mk 19 0 none))), (10, Value.slice (some
 (Addr.mk 20 0 none)) (ids.length + 1) (ids.length + 1)), (11, Value.int IntKind.i64 (↑(last + 1 + 1) : Int)), (12, Value.int IntKind.i64 (↑(i + 1) :
 Int))] [(9, AObj.blk (Blk.mk [Value.int IntKind.i64 (↑(last + 1) : Int), Value.map (some 10)] 2 1 62 true true 0 true)), (10, AObj.map (ents (ids ++
 [last + 1])) (last + 1)), (11, nb0), (12, nb1), (13, nb2 11), (14, nb3), (15, nb4), (16, nb5), (17, nb6), (18, nb7), (19, nBox 11), (20, AObj.blk
 (Blk.mk (List.map iv ids ++ [Value.int IntKind.i64 (↑(last + 1) : Int)]) ((ids.length + 1) * 1) 1 3 false false 0 true))] 21))))))))).fork (Tr.auto 1
 (Tr.one (An.idx i) (Tr.one (An.ld 0 kl (Value.int IntKind.i64 y)) ((Tr.auto 1 (Tr.cm (Cm.mk [Value.pointer (some (Addr.mk 0 0 none)), Value.agg
 (Array.mk [Value.slice none 0 0, Value.slice none 0 0, Value.slice (some (Addr.mk 2 0 none)) 1 1, Value.slice none 0 0, Value.slice none 0 0,
 Value.slice none 0 0, I 0, I 0, I 0]), I 5] [(0, AObj.blk (Blk.mk [Value.int IntKind.i64 (↑last : Int), Value.map (some 1)] 2 1 62 true true 0 true)),
 (1, AObj.map (ents ids) last), (2, AObj.blk (Blk.mk [I 0, I 0, I 0, Value.string (ByteArray.mk #[]), I 0, F0, F0, Value.slice none 0 0] 8 8 53 true
 true 0 true))] 3 3 [(0, 9), (1, 10), (2, 21)] [(9, 0), (10, 1), (21, 2)] 22) Unit (fun (x : Unit) => True) (fun (x : Unit) => nilS) (fun (x : Unit) =>
 [(0, AObj.blk (Blk.mk [Value.int IntKind.i64 (↑last : Int), Value.map (some 1)] 2 1 62 true true 0 true)), (1, AObj.map (ents ids) last), (2, AObj.blk
 (Blk.mk [I 0, I 0, I 0, Value.string (ByteArray.mk #[]), I 0, F0, F0, Value.slice none 0 0] 8 8 53 true true 0 true))]) (fun (x : Unit) => Value.slice
 none 0 0) (fun (x : Unit) => [(9, AObj.blk (Blk.mk [Value.int IntKind.i64 (↑last : Int), Value.map (some 10)] 2 1 62 true true 0 true)), (10, AObj.map
 (ents ids) last), (21, AObj.blk (Blk.mk [I 0, I 0, I 0, Value.string (ByteArray.mk #[]), I 0, F0, F0, Value.slice none 0 0] 8 8 53 true true 0 true))])
 fun (x : Unit) => Tr.auto 5 (Tr.cm (Cm.mk [Value.pointer (some (Addr.mk 0 0 none)), nV 2, J 0] [(0, AObj.blk (Blk.mk [Value.int IntKind.i64 (↑last :
 Int), Value.map (some 1)] 2 1 62 true true 0 true)), (1, AObj.map (ents ids) last), (2, nb0), (3, nb1), (4, nb2 2), (5, nb3), (6, nb4), (7, nb5), (8,
 nb6), (9, nb7)] 10 10 [(0, 9), (1, 10), (2, 11), (3, 12), (4, 13), (5, 14), (6, 15), (7, 16), (8, 17), (9, 18)] [(9, 0), (10, 1), (11, 2), (12, 3),
 (13, 4), (14, 5), (15, 6), (16, 7), (17, 8), (18, 9)] 22) Unit (fun (x : Unit) => True) (fun (x : Unit) => nilS) (fun (x : Unit) => [(0, AObj.blk
 (Blk.mk [Value.int IntKind.i64 (↑last : Int), Value.map (some 1)] 2 1 62 true true 0 true)), (1, AObj.map (ents ids) last), (2, nb0), (3, nb1), (4, nb2
 2), (5, nb3), (6, nb4), (7, nb5), (8, nb6), (9, nb7)]) (fun (x : Unit) => Value.slice none 0 0) (fun (x : Unit) => [(9, AObj.blk (Blk.mk [Value.int
 IntKind.i64 (↑last : Int), Value.map (some 10)] 2 1 62 true true 0 true)), (10, AObj.map (ents ids) last), (11, nb0), (12, nb1), (13, nb2 11), (14,
 nb3), (15, nb4), (16, nb5), (17, nb6), (18, nb7)]) fun (x : Unit) => Tr.auto 6 (Tr.cm (Cm.mk [Value.pointer (some (Addr.mk 0 0 none))] [(0, AObj.blk
 (Blk.mk [Value.int IntKind.i64 (↑last : Int), Value.map (some 1)] 2 1 62 true true 0 true)), (1, AObj.map (ents ids) last)] 2 2 [(0, 9), (1, 10)] [(9,
 0), (10, 1)] 22) Unit (fun (x : Unit) => True) (fun (x : Unit) => iv (ents ids).length) (fun (x : Unit) => [(0, AObj.blk (Blk.mk [Value.int IntKind.i64
 (↑last : Int), Value.map (some 1)] 2 1 62 true true 0 true)), (1, AObj.map (ents ids) last)]) (fun (x : Unit) => Value.int IntKind.i64 (↑(ents
 ids).length : Int)) (fun (x : Unit) => [(9, AObj.blk (Blk.mk [Value.int IntKind.i64 (↑last : Int), Value.map (some 10)] 2 1 62 true true 0 true)), (10,
 AObj.map (ents ids) last)]) fun (x : Unit) => Tr.auto 3 ((Tr.auto 2 (Tr.fin [(9, 9), (10, 10), (11, 11), (12, 12), (13, 13), (14, 14), (15, 15), (16,
 16), (17, 17), (18, 18), (19, 19)] [(2, F0)] [(9, AObj.blk (Blk.mk [Value.int IntKind.i64 (↑last : Int), Value.map (some 10)] 2 1 62 true true 0
 true)), (10, AObj.map (ents ids) last), (11, nb0), (12, nb1), (13, nb2 11), (14, nb3), (15, nb4), (16, nb5), (17, nb6), (18, nb7), (19, nBox 11)]
 21)).fork (Tr.auto 3 (Tr.cm (Cm.mk [Value.pointer (some (Addr.mk 0 0 none)), nV 2, I 5] [(0, AObj.blk (Blk.mk [Value.int IntKind.i64 (↑last : Int),
 Value.map (some 1)] 2 1 62 true true 0 true)), (1, AObj.map (ents ids) last), (2, nb0), (3, nb1), (4, nb2 2), (5, nb3), (6, nb4), (7, nb5), (8, nb6),
 (9, nb7)] 10 11 [(0, 9), (1, 10), (2, 11), (3, 12), (4, 13), (5, 14), (6, 15), (7, 16), (8, 17), (9, 18)] [(9, 0), (10, 1), (11, 2), (12, 3), (13, 4),
 (14, 5), (15, 6), (16, 7), (17, 8), (18, 9), (22, 10)] 23) Unit (fun (x : Unit) => True) (fun (x : Unit) => sl 10 ids.length) (fun (x : Unit) => (0,
 wst last 1) :: (1, AObj.map (ents []) last) :: nZ 2 ++ [(10, chgB ids)]) (fun (x : Unit) => Value.slice (some (Addr.mk 22 0 none)) ids.length
 ids.length) (fun (x : Unit) => [(9, AObj.blk (Blk.mk [Value.int IntKind.i64 (↑last : Int), Value.map (some 10)] 2 1 62 true true 0 true)), (10,
 AObj.map [] last), (11, nb0), (12, nb1), (13, nb2 11), (14, nb3), (15, nb4), (16, nb5), (17, nb6), (18, nb7), (22, AObj.blk (Blk.mk (chg ids)
 (ids.length * 2) 2 55 false false 0 true))]) fun (x : Unit) => (Tr.auto 1 (Tr.fin [(9, 9), (10, 10), (11, 11), (12, 12), (13, 13), (14, 14), (15, 15),
 (16, 16), (17, 17), (18, 18), (19, 19)] [(2, F0)] [(9, AObj.blk (Blk.mk [Value.int IntKind.i64 (↑last : Int), Value.map (some 10)] 2 1 62 true true 0
 true)), (10, AObj.map [] last), (11, nb0), (12, nb1), (13, nb2 11), (14, nb3), (15, nb4), (16, nb5), (17, nb6), (18, nb7), (19, nBox 11)] 21)).fork
 (Tr.auto 1 (Tr.lp 23 202 [(9, 9), (19, 19), (20, 20), (22, 22), (10, 10), (11, 11), (12, 12), (13, 13), (18, 18), (14, 14), (15, 15), (16, 16), (17,
 17)] (lvC n cp (sl 20 ids.length) (sl 22 ids.length) last i 0) (znC last ids) 23 (Al.cons Unit (fun (x : Unit) => True) (fun (x : Unit) => (AExit.exit
 5, lvCo n cp last i, zn3 last [], 23)) (fun (x : Unit) => Tr.cm (Cm.mk [Value.pointer (some (Addr.mk 0 0 none))] [(0, AObj.blk (Blk.mk [Value.int
 IntKind.i64 (↑last : Int), Value.map (some 1)] 2 1 62 true true 0 true)), (1, AObj.map [] last)] 2 2 [(0, 9), (1, 10)] [(9, 0), (10, 1)] 23) Unit (fun
 (x : Unit) => True) (fun (x : Unit) => iv 0) (fun (x : Unit) => [(0, AObj.blk (Blk.mk [Value.int IntKind.i64 (↑last : Int), Value.map (some 1)] 2 1 62
 true true 0 true)), (1, AObj.map [] last)]) (fun (x : Unit) => I 0) (fun (x : Unit) => [(9, AObj.blk (Blk.mk [Value.int IntKind.i64 (↑last : Int),
 Value.map (some 10)] 2 1 62 true true 0 true)), (10, AObj.map [] last)]) fun (x : Unit) => Tr.auto 2 (Tr.one (An.val (Value.int IntKind.i64 (↑(i + 1) :
 Int))) (Tr.fin [(9, 9), (10, 10), (11, 11), (12, 12), (13, 13), (14, 14), (15, 15), (16, 16), (17, 17), (18, 18), (19, 19)] [(0, Value.slice (some
 (Addr.mk 510 0 none)) n cp), (8, Value.pointer (some (Addr.mk 9 0 none))), (9, Value.pointer (some (Addr.mk 19 0 none))), (10, Value.slice none 0 0),
 (11, Value.int IntKind.i64 (↑(last + 1) : Int)), (12, Value.int IntKind.i64 (↑(i + 1) : Int))] [(9, AObj.blk (Blk.mk [Value.int IntKind.i64 (↑last :
 Int), Value.map (some 10)] 2 1 62 true true 0 true)), (10, AObj.map [] last), (11, nb0), (12, nb1), (13, nb2 11), (14, nb3), (15, nb4), (16, nb5), (17,
 nb6), (18, nb7), (19, nBox 11)] 21))) Al.nil)))))))))).fork (Tr.auto 1 (Tr.lp 21 202 [(9, 9), (19, 19), (20, 20), (10, 10), (11, 11), (12, 12), (13,
 13), (18, 18), (14, 14), (15, 15), (16, 16), (17, 17)] (lvL n cp (sl 20 ids.length) nilS last i 0) (zn3r last ids) 22 (Al.cons Unit (fun (x : Unit) =>
 gone y ids = []) (fun (x : Unit) => (AExit.exit 3, lvLo n cp (sl 20 ids.length) nilS last i, zn3r last ids, 22)) (fun (x : Unit) => Tr.one (An.idx i)
 (Tr.one (An.ld 0 kl (Value.int IntKind.i64 y)) (Tr.cm (Cm.mk [Value.pointer (some (Addr.mk 0 0 none)), Value.int IntKind.i64 y] [(0, AObj.blk (Blk.mk
 [Value.int IntKind.i64 (↑last : Int), Value.map (some 1)] 2 1 62 true true 0 true)), (1, AObj.map (ents ids) last)] 2 2 [(0, 9), (1, 10)] [(9, 0), (10,
 1)] 22) Nat (fun (e : Nat) => (e = 0 ∧ ∃ (k : Nat), k ∈ ids ∧ (↑k : Int) = y) ∨ e = 7 ∧ ∀ (k : Nat), k ∈ ids → (↑k : Int) ≠ y) (fun (e : Nat) => iv e)
 (fun (x : Nat) => [(0, wst last 1), (1, AObj.map (ents (gone y ids)) last)]) (fun (x : Nat) => Value.int IntKind.i64 (↑x : Int)) (fun (x : Nat) => [(9,
 AObj.blk (Blk.mk [Value.int IntKind.i64 (↑last : Int), Value.map (some 10)] 2 1 62 true true 0 true)), (10, AObj.map (ents (gone y ids)) last)]) fun (x
 : Nat) => ((Tr.auto 3 ((Tr.auto 3 ((Tr.auto 4 (Tr.fin [(9, 9), (10, 10), (11, 11), (12, 12), (13, 13), (14, 14), (15, 15), (16, 16), (17, 17), (18,
 18), (19, 19)] [(2, F0)] [(9, AObj.blk (Blk.mk [Value.int IntKind.i64 (↑last : Int), Value.map (some 10)] 2 1 62 true true 0 true)), (10, AObj.map
 (ents (gone y ids)) last), (11, nb0), (12, nb1), (13, nb2 11), (14, nb3), (15, nb4), (16, nb5), (17, nb6), (18, nb7), (19, nBox 11)] 21)).fork (Tr.auto
 4 (Tr.cm (Cm.mk [Value.pointer (some (Addr.mk 0 0 none))] [(0, AObj.blk (Blk.mk [Value.int IntKind.i64 (↑last : Int), Value.map (some 1)] 2 1 62 true
 true 0 true)), (1, AObj.map (ents (gone y ids)) last)] 2 2 [(0, 9), (1, 10)] [(9, 0), (10, 1)] 22) Unit (fun (x : Unit) => True) (fun (x : Unit) => iv
 (ents (gone y ids)).length) (fun (x : Unit) => [(0, AObj.blk (Blk.mk [Value.int IntKind.i64 (↑last : Int), Value.map (some 1)] 2 1 62 true true 0
 true)), (1, AObj.map (ents (gone y ids)) last)]) (fun (x : Unit) => Value.int IntKind.i64 (↑(ents (gone y ids)).length : Int)) (fun (x : Unit) => [(9,
 AObj.blk (Blk.mk [Value.int IntKind.i64 (↑last : Int), Value.map (some 10)] 2 1 62 true true 0 true)), (10, AObj.map (ents (gone y ids)) last)]) fun (x
 : Unit) => (Tr.auto 1 (Tr.fin [(9, 9), (10, 10), (11, 11), (12, 12), (13, 13), (14, 14), (15, 15), (16, 16), (17, 17), (18, 18), (19, 19)] [(2, F0)]
 [(9, AObj.blk (Blk.mk [Value.int IntKind.i64 (↑last : Int), Value.map (some 10)] 2 1 62 true true 0 true)), (10, AObj.map (ents (gone y ids)) last),
 (11, nb0), (12, nb1), (13, nb2 11), (14, nb3), (15, nb4), (16, nb5), (17, nb6), (18, nb7), (19, nBox 11)] 21)).fork (Tr.auto 1 (Tr.one (An.val
 (Value.int IntKind.i64 (↑(i + 1) : Int))) (Tr.fin [(9, 9), (10, 10), (11, 11), (12, 12), (13, 13), (14, 14), (15, 15), (16, 16), (17, 17), (18, 18),
 (19, 19)] [(0, Value.slice (some (Addr.mk 510 0 none)) n cp), (8, Value.pointer (some (Addr.mk 9 0 none))), (9, Value.pointer (some (Addr.mk 19 0
 none))), (10, Value.slice none 0 0), (11, Value.int IntKind.i64 (↑(last + 1) : Int)), (12, Value.int IntKind.i64 (↑(i + 1) : Int))] [(9, AObj.blk
 (Blk.mk [Value.int IntKind.i64 (↑last : Int), Value.map (some 10)] 2 1 62 true true 0 true)), (10, AObj.map (ents (gone y ids)) last), (11, nb0), (12,
 nb1), (13, nb2 11), (14, nb3), (15, nb4), (16, nb5), (17, nb6), (18, nb7), (19, nBox 11)] 21))))))).fork (Tr.auto 7 (Tr.cm (Cm.mk [Value.pointer (some
 (Addr.mk 0 0 none))] [(0, AObj.blk (Blk.mk [Value.int IntKind.i64 (↑last : Int), Value.map (some 1)] 2 1 62 true true 0 true)), (1, AObj.map (ents
 (gone y ids)) last)] 2 2 [(0, 9), (1, 10)] [(9, 0), (10, 1)] 22) Unit (fun (x : Unit) => True) (fun (x : Unit) => iv (ents (gone y ids)).length) (fun
 (x : Unit) => [(0, AObj.blk (Blk.mk [Value.int IntKind.i64 (↑last : Int), Value.map (some 1)] 2 1 62 true true 0 true)), (1, AObj.map (ents (gone y
 ids)) last)]) (fun (x : Unit) => Value.int IntKind.i64 (↑(ents (gone y ids)).length : Int)) (fun (x : Unit) => [(9, AObj.blk (Blk.mk [Value.int
 IntKind.i64 (↑last : Int), Value.map (some 10)] 2 1 62 true true 0 true)), (10, AObj.map (ents (gone y ids)) last)]) fun (x : Unit) => (Tr.auto 1
 (Tr.fin [(9, 9), (10, 10), (11, 11), (12, 12), (13, 13), (14, 14), (15, 15), (16, 16), (17, 17), (18, 18), (19, 19)] [(2, F0)] [(9, AObj.blk (Blk.mk
 [Value.int IntKind.i64 (↑last : Int), Value.map (some 10)] 2 1 62 true true 0 true)), (10, AObj.map (ents (gone y ids)) last), (11, nb0), (12, nb1),
 (13, nb2 11), (14, nb3), (15, nb4), (16, nb5), (17, nb6), (18, nb7), (19, nBox 11)] 21)).fork (Tr.auto 1 (Tr.one (An.val (Value.int IntKind.i64 (↑(i +
 1) : Int))) (Tr.fin [(9, 9), (10, 10), (11, 11), (12, 12), (13, 13), (14, 14), (15, 15), (16, 16), (17, 17), (18, 18), (19, 19)] [(0, Value.slice (some
 (Addr.mk 510 0 none)) n cp), (8, Value.pointer (some (Addr.mk 9 0 none))), (9, Value.pointer (some (Addr.mk 19 0 none))), (10, Value.slice none 0 0),
 (11, Value.int IntKind.i64 (↑(last + 1) : Int)), (12, Value.int IntKind.i64 (↑(i + 1) : Int))] [(9, AObj.blk (Blk.mk [Value.int IntKind.i64 (↑last :
 Int), Value.map (some 10)] 2 1 62 true true 0 true)), (10, AObj.map (ents (gone y ids)) last), (11, nb0), (12, nb1), (13, nb2 11), (14, nb3), (15,
 nb4), (16, nb5), (17, nb6), (18, nb7), (19, nBox 11)] 21))))))).fork (Tr.auto 7 (Tr.fin [(9, 9), (10, 10), (11, 11), (12, 12), (13, 13), (14, 14), (15,
 15), (16, 16), (17, 17), (18, 18), (19, 19)] [(2, F0)] [(9, AObj.blk (Blk.mk [Value.int IntKind.i64 (↑last : Int), Value.map (some 10)] 2 1 62 true
 true 0 true)), (10, AObj.map (ents (gone y ids)) last), (11, nb0), (12, nb1), (13, nb2 11), (14, nb3), (15, nb4), (16, nb5), (17, nb6), (18, nb7), (19,
 nBox 11)] 21))).fork ((Tr.auto 7 (Tr.fin [(9, 9), (10, 10), (11, 11), (12, 12), (13, 13), (14, 14), (15, 15), (16, 16), (17, 17), (18, 18), (19, 19)]
 [(2, F0)] [(9, AObj.blk (Blk.mk [Value.int IntKind.i64 (↑last : Int), Value.map (some 10)] 2 1 62 true true 0 true)), (10, AObj.map (ents (gone y ids))
 last), (11, nb0), (12, nb1), (13, nb2 11), (14, nb3), (15, nb4), (16, nb5), (17, nb6), (18, nb7), (19, nBox 11)] 21)).fork (Tr.auto 3 ((Tr.auto 3
 ((Tr.auto 4 (Tr.fin [(9, 9), (10, 10), (11, 11), (12, 12), (13, 13), (14, 14), (15, 15), (16, 16), (17, 17), (18, 18), (19, 19)] [(2, F0)] [(9,
 AObj.blk (Blk.mk [Value.int IntKind.i64 (↑last : Int), Value.map (some 10)] 2 1 62 true true 0 true)), (10, AObj.map (ents (gone y ids)) last), (11,
 nb0), (12, nb1), (13, nb2 11), (14, nb3), (15, nb4), (16, nb5), (17, nb6), (18, nb7), (19, nBox 11)] 21)).fork (Tr.auto 4 (Tr.cm (Cm.mk [Value.pointer
 (some (Addr.mk 0 0 none))] [(0, AObj.blk (Blk.mk [Value.int IntKind.i64 (↑last : Int), Value.map (some 1)] 2 1 62 true true 0 true)), (1, AObj.map
 (ents (gone y ids)) last)] 2 2 [(0, 9), (1, 10)] [(9, 0), (10, 1)] 22) Unit (fun (x : Unit) => True) (fun (x : Unit) => iv (ents (gone y ids)).length)
 (fun (x : Unit) => [(0, AObj.blk (Blk.mk [Value.int IntKind.i64 (↑last : Int), Value.map (some 1)] 2 1 62 true true 0 true)), (1, AObj.map (ents (gone
 y ids)) last)]) (fun (x : Unit) => Value.int IntKind.i64 (↑(ents (gone y ids)).length : Int)) (fun (x : Unit) => [(9, AObj.blk (Blk.mk [Value.int
 IntKind.i64 (↑last : Int), Value.map (some 10)] 2 1 62 true true 0 true)), (10, AObj.map (ents (gone y ids)) last)]) fun (x : Unit) => (Tr.auto 1
 (Tr.fin [(9, 9), (10, 10), (11, 11), (12, 12), (13, 13), (14, 14), (15, 15), (16, 16), (17, 17), (18, 18), (19, 19)] [(2, F0)] [(9, AObj.blk (Blk.mk
 [Value.int IntKind.i64 (↑last : Int), Value.map (some 10)] 2 1 62 true true 0 true)), (10, AObj.map (ents (gone y ids)) last), (11, nb0), (12, nb1),
 (13, nb2 11), (14, nb3), (15, nb4), (16, nb5), (17, nb6), (18, nb7), (19, nBox 11)] 21)).fork (Tr.auto 1 (Tr.one (An.val (Value.int IntKind.i64 (↑(i +
 1) : Int))) (Tr.fin [(9, 9), (10, 10), (11, 11), (12, 12), (13, 13), (14, 14), (15, 15), (16, 16), (17, 17), (18, 18), (19, 19)] [(0, Value.slice (some
 (Addr.mk 510 0 none)) n cp), (8, Value.pointer (some (Addr.mk 9 0 none))), (9, Value.pointer (some (Addr.mk 19 0 none))), (10, Value.slice none 0 0),
 (11, Value.int IntKind.i64 (↑(last + 1) : Int)), (12, Value.int IntKind.i64 (↑(i + 1) : Int))] [(9, AObj.blk (Blk.mk [Value.int IntKind.i64 (↑last :
 Int), Value.map (some 10)] 2 1 62 true true 0 true)), (10, AObj.map (ents (gone y ids)) last), (11, nb0), (12, nb1), (13, nb2 11), (14, nb3), (15,
 nb4), (16, nb5), (17, nb6), (18, nb7), (19, nBox 11)] 21))))))).fork (Tr.auto 7 (Tr.cm (Cm.mk [Value.pointer (some (Addr.mk 0 0 none))] [(0, AObj.blk
 (Blk.mk [Value.int IntKind.i64 (↑last : Int), Value.map (some 1)] 2 1 62 true true 0 true)), (1, AObj.map (ents (gone y ids)) last)] 2 2 [(0, 9), (1,
 10)] [(9, 0), (10, 1)] 22) Unit (fun (x : Unit) => True) (fun (x : Unit) => iv (ents (gone y ids)).length) (fun (x : Unit) => [(0, AObj.blk (Blk.mk
 [Value.int IntKind.i64 (↑last : Int), Value.map (some 1)] 2 1 62 true true 0 true)), (1, AObj.map (ents (gone y ids)) last)]) (fun (x : Unit) =>
 Value.int IntKind.i64 (↑(ents (gone y ids)).length : Int)) (fun (x : Unit) => [(9, AObj.blk (Blk.mk [Value.int IntKind.i64 (↑last : Int), Value.map
 (some 10)] 2 1 62 true true 0 true)), (10, AObj.map (ents (gone y ids)) last)]) fun (x : Unit) => (Tr.auto 1 (Tr.fin [(9, 9), (10, 10), (11, 11), (12,
 12), (13, 13), (14, 14), (15, 15), (16, 16), (17, 17), (18, 18), (19, 19)] [(2, F0)] [(9, AObj.blk (Blk.mk [Value.int IntKind.i64 (↑last : Int),
 Value.map (some 10)] 2 1 62 true true 0 true)), (10, AObj.map (ents (gone y ids)) last), (11, nb0), (12, nb1), (13, nb2 11), (14, nb3), (15, nb4), (16,
 nb5), (17, nb6), (18, nb7), (19, nBox 11)] 21)).fork (Tr.auto 1 (Tr.one (An.val (Value.int IntKind.i64 (↑(i + 1) : Int))) (Tr.fin [(9, 9), (10, 10),
 (11, 11), (12, 12), (13, 13), (14, 14), (15, 15), (16, 16), (17, 17), (18, 18), (19, 19)] [(0, Value.slice (some (Addr.mk 510 0 none)) n cp), (8,
 Value.pointer (some (Addr.mk 9 0 none))), (9, Value.pointer (some (Addr.mk 19 0 none))), (10, Value.slice none 0 0), (11, Value.int IntKind.i64 (↑(last
 + 1) : Int)), (12, Value.int IntKind.i64 (↑(i + 1) : Int))] [(9, AObj.blk (Blk.mk [Value.int IntKind.i64 (↑last : Int), Value.map (some 10)] 2 1 62
 true true 0 true)), (10, AObj.map (ents (gone y ids)) last), (11, nb0), (12, nb1), (13, nb2 11), (14, nb3), (15, nb4), (16, nb5), (17, nb6), (18, nb7),
 (19, nBox 11)] 21))))))))))) (Al.cons Unit (fun (x : Unit) => gone y ids ≠ []) (fun (x : Unit) => (AExit.exit 3, lvLo n cp (sl 20 ids.length) (sl 21
 (gone y ids).length) last i, znL last ids (gone y ids), 22)) (fun (x : Unit) => Tr.one (An.idx i) (Tr.one (An.ld 0 kl (Value.int IntKind.i64 y)) (Tr.cm
 (Cm.mk [Value.pointer (some (Addr.mk 0 0 none)), Value.int IntKind.i64 y] [(0, AObj.blk (Blk.mk [Value.int IntKind.i64 (↑last : Int), Value.map (some
 1)] 2 1 62 true true 0 true)), (1, AObj.map (ents ids) last)] 2 2 [(0, 9), (1, 10)] [(9, 0), (10, 1)] 22) Nat (fun (e : Nat) => (e = 0 ∧ ∃ (k : Nat), k
 ∈ ids ∧ (↑k : Int) = y) ∨ e = 7 ∧ ∀ (k : Nat), k ∈ ids → (↑k : Int) ≠ y) (fun (e : Nat) => iv e) (fun (x : Nat) => [(0, wst last 1), (1, AObj.map (ents
 (gone y ids)) last)]) (fun (x : Nat) => Value.int IntKind.i64 (↑x : Int)) (fun (x : Nat) => [(9, AObj.blk (Blk.mk [Value.int IntKind.i64 (↑last : Int),
 Value.map (some 10)] 2 1 62 true true 0 true)), (10, AObj.map (ents (gone y ids)) last)]) fun (x : Nat) => ((Tr.auto 3 ((Tr.auto 3 ((Tr.auto 4 (Tr.fin
 [(9, 9), (10, 10), (11, 11), (12, 12), (13, 13), (14, 14), (15, 15), (16, 16), (17, 17), (18, 18), (19, 19)] [(2, F0)] [(9, AObj.blk (Blk.mk [Value.int
 IntKind.i64 (↑last : Int), Value.map (some 10)] 2 1 62 true true 0 true)), (10, AObj.map (ents (gone y ids)) last), (11, nb0), (12, nb1), (13, nb2 11),
 (14, nb3), (15, nb4), (16, nb5), (17, nb6), (18, nb7), (19, nBox 11)] 21)).fork (Tr.auto 4 (Tr.cm (Cm.mk [Value.pointer (some (Addr.mk 0 0 none))] [(0,
 AObj.blk (Blk.mk [Value.int IntKind.i64 (↑last : Int), Value.map (some 1)] 2 1 62 true true 0 true)), (1, AObj.map (ents (gone y ids)) last)] 2 2 [(0,
 9), (1, 10)] [(9, 0), (10, 1)] 22) Unit (fun (x : Unit) => True) (fun (x : Unit) => iv (ents (gone y ids)).length) (fun (x : Unit) => [(0, AObj.blk
 (Blk.mk [Value.int IntKind.i64 (↑last : Int), Value.map (some 1)] 2 1 62 true true 0 true)), (1, AObj.map (ents (gone y ids)) last)]) (fun (x : Unit)
 => Value.int IntKind.i64 (↑(ents (gone y ids)).length : Int)) (fun (x : Unit) => [(9, AObj.blk (Blk.mk [Value.int IntKind.i64 (↑last : Int), Value.map
 (some 10)] 2 1 62 true true 0 true)), (10, AObj.map (ents (gone y ids)) last)]) fun (x : Unit) => (Tr.auto 1 (Tr.fin [(9, 9), (10, 10), (11, 11), (12,
 12), (13, 13), (14, 14), (15, 15), (16, 16), (17, 17), (18, 18), (19, 19)] [(2, F0)] [(9, AObj.blk (Blk.mk [Value.int IntKind.i64 (↑last : Int),
 Value.map (some 10)] 2 1 62 true true 0 true)), (10, AObj.map (ents (gone y ids)) last), (11, nb0), (12, nb1), (13, nb2 11), (14, nb3), (15, nb4), (16,
 nb5), (17, nb6), (18, nb7), (19, nBox 11)] 21)).fork (Tr.auto 1 (Tr.one (An.val (Value.int IntKind.i64 (↑(i + 1) : Int))) (Tr.fin [(9, 9), (10, 10),
 (11, 11), (12, 12), (13, 13), (14, 14), (15, 15), (16, 16), (17, 17), (18, 18), (19, 19), (20, 21)] [(0, Value.slice (some (Addr.mk 510 0 none)) n cp),
 (8, Value.pointer (some (Addr.mk 9 0 none))), (9, Value.pointer (some (Addr.mk 19 0 none))), (10, Value.slice (some (Addr.mk 20 0 none)) (gone y
 ids).length (gone y ids).length), (11, Value.int IntKind.i64 (↑(last + 1) : Int)), (12, Value.int IntKind.i64 (↑(i + 1) : Int))] [(9, AObj.blk (Blk.mk
 [Value.int IntKind.i64 (↑last : Int), Value.map (some 10)] 2 1 62 true true 0 true)), (10, AObj.map (ents (gone y ids)) last), (11, nb0), (12, nb1),
 (13, nb2 11), (14, nb3), (15, nb4), (16, nb5), (17, nb6), (18, nb7), (19, nBox 11), (20, AObj.blk (Blk.mk (List.map iv (gone y ids)) ((gone y
 ids).length * 1) 1 3 false false 0 true))] 21))))))).fork (Tr.auto 7 (Tr.cm (Cm.mk [Value.pointer (some (Addr.mk 0 0 none))] [(0, AObj.blk (Blk.mk
 [Value.int IntKind.i64 (↑last : Int), Value.map (some 1)] 2 1 62 true true 0 true)), (1, AObj.map (ents (gone y ids)) last)] 2 2 [(0, 9), (1, 10)] [(9,
 0), (10, 1)] 22) Unit (fun (x : Unit) => True) (fun (x : Unit) => iv (ents (gone y ids)).length) (fun (x : Unit) => [(0, AObj.blk (Blk.mk [Value.int
 IntKind.i64 (↑last : Int), Value.map (some 1)] 2 1 62 true true 0 true)), (1, AObj.map (ents (gone y ids)) last)]) (fun (x : Unit) => Value.int
 IntKind.i64 (↑(ents (gone y ids)).length : Int)) (fun (x : Unit) => [(9, AObj.blk (Blk.mk [Value.int IntKind.i64 (↑last : Int), Value.map (some 10)] 2
 1 62 true true 0 true)), (10, AObj.map (ents (gone y ids)) last)]) fun (x : Unit) => (Tr.auto 1 (Tr.fin [(9, 9), (10, 10), (11, 11), (12, 12), (13,
 13), (14, 14), (15, 15), (16, 16), (17, 17), (18, 18), (19, 19)] [(2, F0)] [(9, AObj.blk (Blk.mk [Value.int IntKind.i64 (↑last : Int), Value.map (some
 10)] 2 1 62 true true 0 true)), (10, AObj.map (ents (gone y ids)) last), (11, nb0), (12, nb1), (13, nb2 11), (14, nb3), (15, nb4), (16, nb5), (17,
 nb6), (18, nb7), (19, nBox 11)] 21)).fork (Tr.auto 1 (Tr.one (An.val (Value.int IntKind.i64 (↑(i + 1) : Int))) (Tr.fin [(9, 9), (10, 10), (11, 11),
 (12, 12), (13, 13), (14, 14), (15, 15), (16, 16), (17, 17), (18, 18), (19, 19), (20, 21)] [(0, Value.slice (some (Addr.mk 510 0 none)) n cp), (8,
 Value.pointer (some (Addr.mk 9 0 none))), (9, Value.pointer (some (Addr.mk 19 0 none))), (10, Value.slice (some (Addr.mk 20 0 none)) (gone y
 ids).length (gone y ids).length), (11, Value.int IntKind.i64 (↑(last + 1) : Int)), (12, Value.int IntKind.i64 (↑(i + 1) : Int))] [(9, AObj.blk (Blk.mk
 [Value.int IntKind.i64 (↑last : Int), Value.map (some 10)] 2 1 62 true true 0 true)), (10, AObj.map (ents (gone y ids)) last), (11, nb0), (12, nb1),
 (13, nb2 11), (14, nb3), (15, nb4), (16, nb5), (17, nb6), (18, nb7), (19, nBox 11), (20, AObj.blk (Blk.mk (List.map iv (gone y ids)) ((gone y
 ids).length * 1) 1 3 false false 0 true))] 21))))))).fork (Tr.auto 7 (Tr.fin [(9, 9), (10, 10), (11, 11), (12, 12), (13, 13), (14, 14), (15, 15), (16,
 16), (17, 17), (18, 18), (19, 19)] [(2, F0)] [(9, AObj.blk (Blk.mk [Value.int IntKind.i64 (↑last : Int), Value.map (some 10)] 2 1 62 true true 0
 true)), (10, AObj.map (ents (gone y ids)) last), (11, nb0), (12, nb1), (13, nb2 11), (14, nb3), (15, nb4), (16, nb5), (17, nb6), (18, nb7), (19, nBox
 11)] 21))).fork ((Tr.auto 7 (Tr.fin [(9, 9), (10, 10), (11, 11), (12, 12), (13, 13), (14, 14), (15, 15), (16, 16), (17, 17), (18, 18), (19, 19)] [(2,
 F0)] [(9, AObj.blk (Blk.mk [Value.int IntKind.i64 (↑last : Int), Value.map (some 10)] 2 1 62 true true 0 true)), (10, AObj.map (ents (gone y ids))
 last), (11, nb0), (12, nb1), (13, nb2 11), (14, nb3), (15, nb4), (16, nb5), (17, nb6), (18, nb7), (19, nBox 11)] 21)).fork (Tr.auto 3 ((Tr.auto 3
 ((Tr.auto 4 (Tr.fin [(9, 9), (10, 10), (11, 11), (12, 12), (13, 13), (14, 14), (15, 15), (16, 16), (17, 17), (18, 18), (19, 19)] [(2, F0)] [(9,
 AObj.blk (Blk.mk [Value.int IntKind.i64 (↑last : Int), Value.map (some 10)] 2 1 62 true true 0 true)), (10, AObj.map (ents (gone y ids)) last), (11,
 nb0), (12, nb1), (13, nb2 11), (14, nb3), (15, nb4), (16, nb5), (17, nb6), (18, nb7), (19, nBox 11)] 21)).fork (Tr.auto 4 (Tr.cm (Cm.mk [Value.pointer
 (some (Addr.mk 0 0 none))] [(0, AObj.blk (Blk.mk [Value.int IntKind.i64 (↑last : Int), Value.map (some 1)] 2 1 62 true true 0 true)), (1, AObj.map
 (ents (gone y ids)) last)] 2 2 [(0, 9), (1, 10)] [(9, 0), (10, 1)] 22) Unit (fun (x : Unit) => True) (fun (x : Unit) => iv (ents (gone y ids)).length)
 (fun (x : Unit) => [(0, AObj.blk (Blk.mk [Value.int IntKind.i64 (↑last : Int), Value.map (some 1)] 2 1 62 true true 0 true)), (1, AObj.map (ents (gone
 y ids)) last)]) (fun (x : Unit) => Value.int IntKind.i64 (↑(ents (gone y ids)).length : Int)) (fun (x : Unit) => [(9, AObj.blk (Blk.mk [Value.int
 IntKind.i64 (↑last : Int), Value.map (some 10)] 2 1 62 true true 0 true)), (10, AObj.map (ents (gone y ids)) last)]) fun (x : Unit) => (Tr.auto 1
 (Tr.fin [(9, 9), (10, 10), (11, 11), (12, 12), (13, 13), (14, 14), (15, 15), (16, 16), (17, 17), (18, 18), (19, 19)] [(2, F0)] [(9, AObj.blk (Blk.mk
 [Value.int IntKind.i64 (↑last : Int), Value.map (some 10)] 2 1 62 true true 0 true)), (10, AObj.map (ents (gone y ids)) last), (11, nb0), (12, nb1),
 (13, nb2 11), (14, nb3), (15, nb4), (16, nb5), (17, nb6), (18, nb7), (19, nBox 11)] 21)).fork (Tr.auto 1 (Tr.one (An.val (Value.int IntKind.i64 (↑(i +
 1) : Int))) (Tr.fin [(9, 9), (10, 10), (11, 11), (12, 12), (13, 13), (14, 14), (15, 15), (16, 16), (17, 17), (18, 18), (19, 19), (20, 21)] [(0,
 Value.slice (some (Addr.mk 510 0 none)) n cp), (8, Value.pointer (some (Addr.mk 9 0 none))), (9, Value.pointer (some (Addr.mk 19 0 none))), (10,
 Value.slice (some (Addr.mk 20 0 none)) (gone y ids).length (gone y ids).length), (11, Value.int IntKind.i64 (↑(last + 1) : Int)), (12, Value.int
 IntKind.i64 (↑(i + 1) : Int))] [(9, AObj.blk (Blk.mk [Value.int IntKind.i64 (↑last : Int), Value.map (some 10)] 2 1 62 true true 0 true)), (10,
 AObj.map (ents (gone y ids)) last), (11, nb0), (12, nb1), (13, nb2 11), (14, nb3), (15, nb4), (16, nb5), (17, nb6), (18, nb7), (19, nBox 11), (20,
 AObj.blk (Blk.mk (List.map iv (gone y ids)) ((gone y ids).length * 1) 1 3 false false 0 true))] 21))))))).fork (Tr.auto 7 (Tr.cm (Cm.mk [Value.pointer
 (some (Addr.mk 0 0 none))] [(0, AObj.blk (Blk.mk [Value.int IntKind.i64 (↑last : Int), Value.map (some 1)] 2 1 62 true true 0 true)), (1, AObj.map
 (ents (gone y ids)) last)] 2 2 [(0, 9), (1, 10)] [(9, 0), (10, 1)] 22) Unit (fun (x : Unit) => True) (fun (x : Unit) => iv (ents (gone y ids)).length)
 (fun (x : Unit) => [(0, AObj.blk (Blk.mk [Value.int IntKind.i64 (↑last : Int), Value.map (some 1)] 2 1 62 true true 0 true)), (1, AObj.map (ents (gone
 y ids)) last)]) (fun (x : Unit) => Value.int IntKind.i64 (↑(ents (gone y ids)).length : Int)) (fun (x : Unit) => [(9, AObj.blk (Blk.mk [Value.int
 IntKind.i64 (↑last : Int), Value.map (some 10)] 2 1 62 true true 0 true)), (10, AObj.map (ents (gone y ids)) last)]) fun (x : Unit) => (Tr.auto 1
 (Tr.fin [(9, 9), (10, 10), (11, 11), (12, 12), (13, 13), (14, 14), (15, 15), (16, 16), (17, 17), (18, 18), (19, 19)] [(2, F0)] [(9, AObj.blk (Blk.mk
 [Value.int IntKind.i64 (↑last : Int), Value.map (some 10)] 2 1 62 true true 0 true)), (10, AObj.map (ents (gone y ids)) last), (11, nb0), (12, nb1),
 (13, nb2 11), (14, nb3), (15, nb4), (16, nb5), (17, nb6), (18, nb7), (19, nBox 11)] 21)).fork (Tr.auto 1 (Tr.one (An.val (Value.int IntKind.i64 (↑(i +
 1) : Int))) (Tr.fin [(9, 9), (10, 10), (11, 11), (12, 12), (13, 13), (14, 14), (15, 15), (16, 16), (17, 17), (18, 18), (19, 19), (20, 21)] [(0,
 Value.slice (some (Addr.mk 510 0 none)) n cp), (8, Value.pointer (some (Addr.mk 9 0 none))), (9, Value.pointer (some (Addr.mk 19 0 none))), (10,
 Value.slice (some (Addr.mk 20 0 none)) (gone y ids).length (gone y ids).length), (11, Value.int IntKind.i64 (↑(last + 1) : Int)), (12, Value.int
 IntKind.i64 (↑(i + 1) : Int))] [(9, AObj.blk (Blk.mk [Value.int IntKind.i64 (↑last : Int), Value.map (some 10)] 2 1 62 true true 0 true)), (10,
 AObj.map (ents (gone y ids)) last), (11, nb0), (12, nb1), (13, nb2 11), (14, nb3), (15, nb4), (16, nb5), (17, nb6), (18, nb7), (19, nBox 11), (20,
 AObj.blk (Blk.mk (List.map iv (gone y ids)) ((gone y ids).length * 1) 1 3 false false 0 true))] 21))))))))))) Al.nil)))))))))))).fork (Tr.auto 1
 (Tr.fin [(9, 9), (10, 10), (11, 11), (12, 12), (13, 13), (14, 14), (15, 15), (16, 16), (17, 17), (18, 18), (19, 19)] [] [(9, AObj.blk (Blk.mk
 [Value.int IntKind.i64 (↑last : Int), Value.map (some 10)] 2 1 62 true true 0 true)), (10, AObj.map (ents ids) last), (11, nb0), (12, nb1), (13, nb2
 11), (14, nb3), (15, nb4), (16, nb5), (17, nb6), (18, nb7), (19, nBox 11)] 21)),
 Eq.mp (by kernel_rfl) hyp⟩

set_option maxRecDepth 1000000 in
theorem r3z (z : T AObj) (g : Nat → List Value → Option Value) (Q : AExit → Live → Zone → Nat → Prop) (hyp :
   true = true ∧ 202 = 202 ∧ true = true ∧ z = z ∧ some (AObj.blk (Blk.mk [I 0, Value.map (some 10)] 2 1 62 true true 0 true)) = some (AObj.blk (Blk.mk
 [I 0, Value.map (some 10)] 2 1 62 true true 0 true)) ∧ some (AObj.map [] 0) = some (AObj.map [] 0) ∧ some nb0 = some nb0 ∧ some nb1 = some nb1 ∧ some
 (nb2 11) = some (nb2 11) ∧ some nb3 = some nb3 ∧ some nb4 = some nb4 ∧ some nb5 = some nb5 ∧ some nb6 = some nb6 ∧ some nb7 = some nb7 ∧ some (nBox 11)
 = some (nBox 11) ∧ Q (AExit.exit 0) [] [(9, AObj.blk (Blk.mk [I 0, Value.map (some 10)] 2 1 62 true true 0 true)), (10, AObj.map [] 0), (11, nb0), (12,
 nb1), (13, nb2 11), (14, nb3), (15, nb4), (16, nb5), (17, nb6), (18, nb7), (19, nBox 11)] 21) : ∃ t, codeT Tryz.prog g z 100 (loopN (bodyOf Tryz.f3) 0) (mkFr 202 lv3z) (mkHs z (zn3 0 []) 21) (finK z 20 202 Q) t := ⟨ Tr.auto 2 (Tr.fin [(9, 9), (10, 10), (11, 11), (12, 12), (13, 13), (14, 14), (15, 15), (16, 16), (17, 17), (18, 18), (19, 19)] [] [(9, AObj.blk
 (Blk.mk [I 0, Value.map (some 10)] 2 1 62 true true 0 true)), (10, AObj.map [] 0), (11, nb0), (12, nb1), (13, nb2 11), (14, nb3), (15, nb4), (16, nb5),
 (17, nb6), (18, nb7), (19, nBox 11)] 21),
 Eq.mp (by kernel_rfl) hyp⟩

set_option maxRecDepth 1000000 in
theorem l3 (z : T AObj) (g : Nat → List Value → Option Value) (n : Nat) (cp : Nat) (Q : Value → Zone → Nat → Prop) (hyp :
   z = z ∧ (CallA Tryz.prog z 4 [Value.pointer none, Value.agg (Array.mk [Value.slice none 0 0, Value.slice none 0 0, Value.slice none 0 0, Value.slice
 none 0 0, Value.slice none 0 0, Value.slice none 0 0, I 0, I 0, I 0]), Value.agg (Array.mk [I 0, I 0, I 0, F0, I 0, I 0, F0, F0, I 0, F0]), Value.agg
 (Array.mk [Value.slice none 0 0])] [] 0 0 (fun (x : Unit) => True) (fun (x : Unit) => Value.tuple (Array.mk [I 0, I 40])) fun (x : Unit) => []) ∧ some
 [Value.pointer none, Value.agg (Array.mk [Value.slice none 0 0, Value.slice none 0 0, Value.slice none 0 0, Value.slice none 0 0, Value.slice none 0 0,
 Value.slice none 0 0, I 0, I 0, I 0]), Value.agg (Array.mk [I 0, I 0, I 0, F0, I 0, I 0, F0, F0, I 0, F0]), Value.agg (Array.mk [Value.slice none 0
 0])] = some [Value.pointer none, Value.agg (Array.mk [Value.slice none 0 0, Value.slice none 0 0, Value.slice none 0 0, Value.slice none 0 0,
 Value.slice none 0 0, Value.slice none 0 0, I 0, I 0, I 0]), Value.agg (Array.mk [I 0, I 0, I 0, F0, I 0, I 0, F0, F0, I 0, F0]), Value.agg (Array.mk
 [Value.slice none 0 0])] ∧ ∀ (x : Unit), True → some (Value.tuple (Array.mk [I 0, I 40])) = some (Value.tuple (Array.mk [I 0, I 40])) ∧ z = z ∧ (CallA
 Tryz.prog z 5 [Value.pointer none, I 1] [] 0 0 (fun (x : Unit) => True) (fun (x : Unit) => I 40) fun (x : Unit) => []) ∧ some [Value.pointer none, I 1]
 = some [Value.pointer none, I 1] ∧ ∀ (x : Unit), True → some (I 40) = some (I 40) ∧ z = z ∧ (CallA Tryz.prog z 6 [Value.pointer none] [] 0 0 (fun (x :
 Unit) => True) (fun (x : Unit) => I 0) fun (x : Unit) => []) ∧ some [Value.pointer none] = some [Value.pointer none] ∧ ∀ (x : Unit), True → some (I 0)
 = some (I 0) ∧ z = z ∧ (CallA Tryz.prog z 8 [] [] 0 8 (fun (x : Unit) => True) (fun (x : Unit) => nV 0) fun (x : Unit) => nZ 0) ∧ some nilV = some nilV
 ∧ ∀ (x : Unit), True → some (nV 0) = some (nV 0) ∧ some nb0 = some nb0 ∧ some nb1 = some nb1 ∧ some (nb2 0) = some (nb2 0) ∧ some nb3 = some nb3 ∧ some
 nb4 = some nb4 ∧ some nb5 = some nb5 ∧ some nb6 = some nb6 ∧ some nb7 = some nb7 ∧ z = z ∧ (CallA Tryz.prog z 7 [Value.pointer none, nV 0, I 5] [(0,
 nb0), (1, nb1), (2, nb2 0), (3, nb3), (4, nb4), (5, nb5), (6, nb6), (7, nb7)] 8 8 (fun (x : Unit) => True) (fun (x : Unit) => nilS) fun (x : Unit) =>
 [(0, nb0), (1, nb1), (2, nb2 0), (3, nb3), (4, nb4), (5, nb5), (6, nb6), (7, nb7)]) ∧ some [Value.pointer none, nV 0, I 5] = some [Value.pointer none,
 nV 0, I 5] ∧ some nb0 = some nb0 ∧ some nb1 = some nb1 ∧ some (nb2 0) = some (nb2 0) ∧ some nb3 = some nb3 ∧ some nb4 = some nb4 ∧ some nb5 = some nb5
 ∧ some nb6 = some nb6 ∧ some nb7 = some nb7 ∧ ∀ (x : Unit), True → some (Value.slice none 0 0) = some (Value.slice none 0 0) ∧ some nb0 = some nb0 ∧
 some nb1 = some nb1 ∧ some (nb2 0) = some (nb2 0) ∧ some nb3 = some nb3 ∧ some nb4 = some nb4 ∧ some nb5 = some nb5 ∧ some nb6 = some nb6 ∧ some nb7 =
 some nb7 ∧ z = z ∧ (CallA Tryz.prog z 9 [Value.pointer none, I 1] [] 0 0 (fun (x : Unit) => True) (fun (x : Unit) => Value.tuple (Array.mk [jV, F0]))
 fun (x : Unit) => []) ∧ some [Value.pointer none, I 1] = some [Value.pointer none, I 1] ∧ ∀ (x : Unit), True → some (Value.tuple (Array.mk [Value.agg
 (Array.mk [Value.slice none 0 0]), F0])) = some (Value.tuple (Array.mk [Value.agg (Array.mk [Value.slice none 0 0]), F0])) ∧ z = z ∧ (CallA Tryz.prog z
 10 [] [] 0 2 (fun (x : Unit) => True) (fun (x : Unit) => ip 0) fun (x : Unit) => [(0, wst 0 1), (1, AObj.map [] 0)]) ∧ some nilV = some nilV ∧ ∀ (x :
 Unit), True → some (Value.pointer (some (Addr.mk 0 0 none))) = some (Value.pointer (some (Addr.mk 0 0 none))) ∧ some (AObj.blk (Blk.mk [I 0, Value.map
 (some 1)] 2 1 62 true true 0 true)) = some (AObj.blk (Blk.mk [I 0, Value.map (some 1)] 2 1 62 true true 0 true)) ∧ some (AObj.map [] 0) = some
 (AObj.map [] 0) ∧ (decide ((↑n : Int) > 40) = true → z = z ∧ (CallA Tryz.prog z 11 [] [] 0 0 (fun (x : Unit) => True) (fun (x : Unit) => T1) fun (x :
 Unit) => []) ∧ some nilV = some nilV ∧ ∀ (x : Unit), True → some T1 = some T1 ∧ true = true ∧ 202 = 202 ∧ true = true ∧ z = z ∧ some T1 = some T1 ∧ Q
 T1 [] 0) ∧ (decide ((↑n : Int) > 40) = false → z = z ∧ (CallA Tryz.prog z 8 [] [] 0 8 (fun (x : Unit) => True) (fun (x : Unit) => nV 0) fun (x : Unit)
 => nZ 0) ∧ some nilV = some nilV ∧ ∀ (x : Unit), True → some (nV 0) = some (nV 0) ∧ some nb0 = some nb0 ∧ some nb1 = some nb1 ∧ some (nb2 0) = some
 (nb2 0) ∧ some nb3 = some nb3 ∧ some nb4 = some nb4 ∧ some nb5 = some nb5 ∧ some nb6 = some nb6 ∧ some nb7 = some nb7 ∧ 20 = 20 ∧ LoopA Tryz.prog z
 (loopN (bodyOf Tryz.f3) 0) 20 202 (lv3 n cp nilS 0 0) (zn3 0 []) 21 (Al.cons (Nat × List Nat) (fun (x : Nat × List Nat) => True) (fun (w : Nat × List
 Nat) => (AExit.exit 0, [], zn3 w.fst w.snd, 21)) (fun (x : Nat × List Nat) => Tr.fin [] [] [] 0) Al.nil).R ∧ true = true ∧ 202 = 202 ∧ true = true ∧ z
 = z ∧ some (Value.slice (some (Addr.mk 510 0 none)) n cp) = some (Value.slice (some (Addr.mk 510 0 none)) n cp) ∧ some (Value.pointer (some (Addr.mk 9
 0 none))) = some (Value.pointer (some (Addr.mk 9 0 none))) ∧ some (Value.pointer (some (Addr.mk 19 0 none))) = some (Value.pointer (some (Addr.mk 19 0
 none))) ∧ some (Value.slice none 0 0) = some (Value.slice none 0 0) ∧ some (I 1) = some (I 1) ∧ some (I 0) = some (I 0) ∧ some (AObj.blk (Blk.mk [I 0,
 Value.map (some 10)] 2 1 62 true true 0 true)) = some (AObj.blk (Blk.mk [I 0, Value.map (some 10)] 2 1 62 true true 0 true)) ∧ some (AObj.map [] 0) =
 some (AObj.map [] 0) ∧ some nb0 = some nb0 ∧ some nb1 = some nb1 ∧ some (nb2 11) = some (nb2 11) ∧ some nb3 = some nb3 ∧ some nb4 = some nb4 ∧ some nb5
 = some nb5 ∧ some nb6 = some nb6 ∧ some nb7 = some nb7 ∧ some (nBox 11) = some (nBox 11) ∧ ∀ (x : Nat × List Nat), True → z = z ∧ (CallA Tryz.prog z 11
 [] [] 0 0 (fun (x : Unit) => True) (fun (x : Unit) => T1) fun (x : Unit) => []) ∧ some nilV = some nilV ∧ ∀ (x : Unit), True → some T1 = some T1 ∧ true
 = true ∧ 202 = 202 ∧ true = true ∧ z = z ∧ some T1 = some T1 ∧ Q T1 [] 0)) : ∃ t, codeT Tryz.prog g z 100 (bodyOf Tryz.f3) (fr0 Tryz.f3 [.slice (some ⟨510, 0, none⟩) n cp]) (mkHs z [] 0) (retK Tryz.prog z 0 Tryz.f3 Q) t := ⟨ Tr.cm (Cm.mk [Value.pointer none, Value.agg (Array.mk [Value.slice none 0 0, Value.slice none 0 0, Value.slice none 0 0, Value.slice none 0 0,
 Value.slice none 0 0, Value.slice none 0 0, I 0, I 0, I 0]), Value.agg (Array.mk [I 0, I 0, I 0, F0, I 0, I 0, F0, F0, I 0, F0]), Value.agg (Array.mk
 [Value.slice none 0 0])] [] 0 0 [] [] 0) Unit (fun (x : Unit) => True) (fun (x : Unit) => Value.tuple (Array.mk [I 0, I 40])) (fun (x : Unit) => [])
 (fun (x : Unit) => Value.tuple (Array.mk [I 0, I 40])) (fun (x : Unit) => []) fun (x : Unit) => Tr.auto 3 (Tr.cm (Cm.mk [Value.pointer none, I 1] [] 0
 0 [] [] 0) Unit (fun (x : Unit) => True) (fun (x : Unit) => I 40) (fun (x : Unit) => []) (fun (x : Unit) => I 40) (fun (x : Unit) => []) fun (x : Unit)
 => Tr.auto 5 (Tr.cm (Cm.mk [Value.pointer none] [] 0 0 [] [] 0) Unit (fun (x : Unit) => True) (fun (x : Unit) => I 0) (fun (x : Unit) => []) (fun (x :
 Unit) => I 0) (fun (x : Unit) => []) fun (x : Unit) => Tr.auto 5 (Tr.cm (Cm.mk [] [] 0 8 [] [(0, 0), (1, 1), (2, 2), (3, 3), (4, 4), (5, 5), (6, 6),
 (7, 7)] 8) Unit (fun (x : Unit) => True) (fun (x : Unit) => nV 0) (fun (x : Unit) => nZ 0) (fun (x : Unit) => nV 0) (fun (x : Unit) => [(0, nb0), (1,
 nb1), (2, nb2 0), (3, nb3), (4, nb4), (5, nb5), (6, nb6), (7, nb7)]) fun (x : Unit) => Tr.auto 1 (Tr.cm (Cm.mk [Value.pointer none, nV 0, I 5] [(0,
 nb0), (1, nb1), (2, nb2 0), (3, nb3), (4, nb4), (5, nb5), (6, nb6), (7, nb7)] 8 8 [(0, 0), (1, 1), (2, 2), (3, 3), (4, 4), (5, 5), (6, 6), (7, 7)] [(0,
 0), (1, 1), (2, 2), (3, 3), (4, 4), (5, 5), (6, 6), (7, 7)] 8) Unit (fun (x : Unit) => True) (fun (x : Unit) => nilS) (fun (x : Unit) => [(0, nb0), (1,
 nb1), (2, nb2 0), (3, nb3), (4, nb4), (5, nb5), (6, nb6), (7, nb7)]) (fun (x : Unit) => Value.slice none 0 0) (fun (x : Unit) => [(0, nb0), (1, nb1),
 (2, nb2 0), (3, nb3), (4, nb4), (5, nb5), (6, nb6), (7, nb7)]) fun (x : Unit) => Tr.auto 5 (Tr.cm (Cm.mk [Value.pointer none, I 1] [] 0 0 [] [] 8) Unit
 (fun (x : Unit) => True) (fun (x : Unit) => Value.tuple (Array.mk [jV, F0])) (fun (x : Unit) => []) (fun (x : Unit) => Value.tuple (Array.mk [Value.agg
 (Array.mk [Value.slice none 0 0]), F0])) (fun (x : Unit) => []) fun (x : Unit) => Tr.auto 2 (Tr.cm (Cm.mk [] [] 0 2 [] [(9, 0), (10, 1)] 11) Unit (fun
 (x : Unit) => True) (fun (x : Unit) => ip 0) (fun (x : Unit) => [(0, wst 0 1), (1, AObj.map [] 0)]) (fun (x : Unit) => Value.pointer (some (Addr.mk 9 0
 none))) (fun (x : Unit) => [(9, AObj.blk (Blk.mk [I 0, Value.map (some 10)] 2 1 62 true true 0 true)), (10, AObj.map [] 0)]) fun (x : Unit) => Tr.auto
 4 ((Tr.auto 4 (Tr.cm (Cm.mk [] [] 0 0 [] [] 11) Unit (fun (x : Unit) => True) (fun (x : Unit) => T1) (fun (x : Unit) => []) (fun (x : Unit) => T1) (fun
 (x : Unit) => []) fun (x : Unit) => Tr.auto 1 (Tr.ret [] T1 [] 0))).fork (Tr.auto 2 (Tr.cm (Cm.mk [] [] 0 8 [] [(11, 0), (12, 1), (13, 2), (14, 3),
 (15, 4), (16, 5), (17, 6), (18, 7)] 19) Unit (fun (x : Unit) => True) (fun (x : Unit) => nV 0) (fun (x : Unit) => nZ 0) (fun (x : Unit) => nV 11) (fun
 (x : Unit) => [(11, nb0), (12, nb1), (13, nb2 11), (14, nb3), (15, nb4), (16, nb5), (17, nb6), (18, nb7)]) fun (x : Unit) => Tr.auto 1 (Tr.lp 20 202
 [(9, 9), (19, 19), (10, 10), (11, 11), (12, 12), (13, 13), (18, 18), (14, 14), (15, 15), (16, 16), (17, 17)] (lv3 n cp nilS 0 0) (zn3 0 []) 21 (Al.cons
 (Nat × List Nat) (fun (x : Nat × List Nat) => True) (fun (w : Nat × List Nat) => (AExit.exit 0, [], zn3 w.fst w.snd, 21)) (fun (x : Nat × List Nat) =>
 Tr.cm (Cm.mk [] [] 0 0 [] [] 21) Unit (fun (x : Unit) => True) (fun (x : Unit) => T1) (fun (x : Unit) => []) (fun (x : Unit) => T1) (fun (x : Unit) =>
 []) fun (x : Unit) => Tr.ret [] T1 [] 0) Al.nil))))))))))),
 Eq.mp (by kernel_rfl) hyp⟩

set_option maxRecDepth 1000000 in
theorem l3z (z : T AObj) (g : Nat → List Value → Option Value) (Q : Value → Zone → Nat → Prop) (hyp :
   z = z ∧ (CallA Tryz.prog z 4 [Value.pointer none, Value.agg (Array.mk [Value.slice none 0 0, Value.slice none 0 0, Value.slice none 0 0, Value.slice
 none 0 0, Value.slice none 0 0, Value.slice none 0 0, I 0, I 0, I 0]), Value.agg (Array.mk [I 0, I 0, I 0, F0, I 0, I 0, F0, F0, I 0, F0]), Value.agg
 (Array.mk [Value.slice none 0 0])] [] 0 0 (fun (x : Unit) => True) (fun (x : Unit) => Value.tuple (Array.mk [I 0, I 40])) fun (x : Unit) => []) ∧ some
 [Value.pointer none, Value.agg (Array.mk [Value.slice none 0 0, Value.slice none 0 0, Value.slice none 0 0, Value.slice none 0 0, Value.slice none 0 0,
 Value.slice none 0 0, I 0, I 0, I 0]), Value.agg (Array.mk [I 0, I 0, I 0, F0, I 0, I 0, F0, F0, I 0, F0]), Value.agg (Array.mk [Value.slice none 0
 0])] = some [Value.pointer none, Value.agg (Array.mk [Value.slice none 0 0, Value.slice none 0 0, Value.slice none 0 0, Value.slice none 0 0,
 Value.slice none 0 0, Value.slice none 0 0, I 0, I 0, I 0]), Value.agg (Array.mk [I 0, I 0, I 0, F0, I 0, I 0, F0, F0, I 0, F0]), Value.agg (Array.mk
 [Value.slice none 0 0])] ∧ ∀ (x : Unit), True → some (Value.tuple (Array.mk [I 0, I 40])) = some (Value.tuple (Array.mk [I 0, I 40])) ∧ z = z ∧ (CallA
 Tryz.prog z 5 [Value.pointer none, I 1] [] 0 0 (fun (x : Unit) => True) (fun (x : Unit) => I 40) fun (x : Unit) => []) ∧ some [Value.pointer none, I 1]
 = some [Value.pointer none, I 1] ∧ ∀ (x : Unit), True → some (I 40) = some (I 40) ∧ z = z ∧ (CallA Tryz.prog z 6 [Value.pointer none] [] 0 0 (fun (x :
 Unit) => True) (fun (x : Unit) => I 0) fun (x : Unit) => []) ∧ some [Value.pointer none] = some [Value.pointer none] ∧ ∀ (x : Unit), True → some (I 0)
 = some (I 0) ∧ z = z ∧ (CallA Tryz.prog z 8 [] [] 0 8 (fun (x : Unit) => True) (fun (x : Unit) => nV 0) fun (x : Unit) => nZ 0) ∧ some nilV = some nilV
 ∧ ∀ (x : Unit), True → some (nV 0) = some (nV 0) ∧ some nb0 = some nb0 ∧ some nb1 = some nb1 ∧ some (nb2 0) = some (nb2 0) ∧ some nb3 = some nb3 ∧ some
 nb4 = some nb4 ∧ some nb5 = some nb5 ∧ some nb6 = some nb6 ∧ some nb7 = some nb7 ∧ z = z ∧ (CallA Tryz.prog z 7 [Value.pointer none, nV 0, I 5] [(0,
 nb0), (1, nb1), (2, nb2 0), (3, nb3), (4, nb4), (5, nb5), (6, nb6), (7, nb7)] 8 8 (fun (x : Unit) => True) (fun (x : Unit) => nilS) fun (x : Unit) =>
 [(0, nb0), (1, nb1), (2, nb2 0), (3, nb3), (4, nb4), (5, nb5), (6, nb6), (7, nb7)]) ∧ some [Value.pointer none, nV 0, I 5] = some [Value.pointer none,
 nV 0, I 5] ∧ some nb0 = some nb0 ∧ some nb1 = some nb1 ∧ some (nb2 0) = some (nb2 0) ∧ some nb3 = some nb3 ∧ some nb4 = some nb4 ∧ some nb5 = some nb5
 ∧ some nb6 = some nb6 ∧ some nb7 = some nb7 ∧ ∀ (x : Unit), True → some (Value.slice none 0 0) = some (Value.slice none 0 0) ∧ some nb0 = some nb0 ∧
 some nb1 = some nb1 ∧ some (nb2 0) = some (nb2 0) ∧ some nb3 = some nb3 ∧ some nb4 = some nb4 ∧ some nb5 = some nb5 ∧ some nb6 = some nb6 ∧ some nb7 =
 some nb7 ∧ z = z ∧ (CallA Tryz.prog z 9 [Value.pointer none, I 1] [] 0 0 (fun (x : Unit) => True) (fun (x : Unit) => Value.tuple (Array.mk [jV, F0]))
 fun (x : Unit) => []) ∧ some [Value.pointer none, I 1] = some [Value.pointer none, I 1] ∧ ∀ (x : Unit), True → some (Value.tuple (Array.mk [Value.agg
 (Array.mk [Value.slice none 0 0]), F0])) = some (Value.tuple (Array.mk [Value.agg (Array.mk [Value.slice none 0 0]), F0])) ∧ z = z ∧ (CallA Tryz.prog z
 10 [] [] 0 2 (fun (x : Unit) => True) (fun (x : Unit) => ip 0) fun (x : Unit) => [(0, wst 0 1), (1, AObj.map [] 0)]) ∧ some nilV = some nilV ∧ ∀ (x :
 Unit), True → some (Value.pointer (some (Addr.mk 0 0 none))) = some (Value.pointer (some (Addr.mk 0 0 none))) ∧ some (AObj.blk (Blk.mk [I 0, Value.map
 (some 1)] 2 1 62 true true 0 true)) = some (AObj.blk (Blk.mk [I 0, Value.map (some 1)] 2 1 62 true true 0 true)) ∧ some (AObj.map [] 0) = some
 (AObj.map [] 0) ∧ z = z ∧ (CallA Tryz.prog z 8 [] [] 0 8 (fun (x : Unit) => True) (fun (x : Unit) => nV 0) fun (x : Unit) => nZ 0) ∧ some nilV = some
 nilV ∧ ∀ (x : Unit), True → some (nV 0) = some (nV 0) ∧ some nb0 = some nb0 ∧ some nb1 = some nb1 ∧ some (nb2 0) = some (nb2 0) ∧ some nb3 = some nb3 ∧
 some nb4 = some nb4 ∧ some nb5 = some nb5 ∧ some nb6 = some nb6 ∧ some nb7 = some nb7 ∧ 20 = 20 ∧ LoopA Tryz.prog z (loopN (bodyOf Tryz.f3) 0) 20 202
 lv3z (zn3 0 []) 21 (alt True (AExit.exit 0, [], zn3 0 [], 21) Al.nil).R ∧ true = true ∧ 202 = 202 ∧ true = true ∧ z = z ∧ some (Value.slice none 0 0) =
 some (Value.slice none 0 0) ∧ some (Value.pointer (some (Addr.mk 9 0 none))) = some (Value.pointer (some (Addr.mk 9 0 none))) ∧ some (Value.pointer
 (some (Addr.mk 19 0 none))) = some (Value.pointer (some (Addr.mk 19 0 none))) ∧ some (Value.slice none 0 0) = some (Value.slice none 0 0) ∧ some (I 1)
 = some (I 1) ∧ some (I 0) = some (I 0) ∧ some (AObj.blk (Blk.mk [I 0, Value.map (some 10)] 2 1 62 true true 0 true)) = some (AObj.blk (Blk.mk [I 0,
 Value.map (some 10)] 2 1 62 true true 0 true)) ∧ some (AObj.map [] 0) = some (AObj.map [] 0) ∧ some nb0 = some nb0 ∧ some nb1 = some nb1 ∧ some (nb2
 11) = some (nb2 11) ∧ some nb3 = some nb3 ∧ some nb4 = some nb4 ∧ some nb5 = some nb5 ∧ some nb6 = some nb6 ∧ some nb7 = some nb7 ∧ some (nBox 11) =
 some (nBox 11) ∧ ∀ (x : Unit), True → z = z ∧ (CallA Tryz.prog z 11 [] [] 0 0 (fun (x : Unit) => True) (fun (x : Unit) => T1) fun (x : Unit) => []) ∧
 some nilV = some nilV ∧ ∀ (x : Unit), True → some T1 = some T1 ∧ true = true ∧ 202 = 202 ∧ true = true ∧ z = z ∧ some T1 = some T1 ∧ Q T1 [] 0) : ∃ t, codeT Tryz.prog g z 100 (bodyOf Tryz.f3) (fr0 Tryz.f3 [nilS]) (mkHs z [] 0) (retK Tryz.prog z 0 Tryz.f3 Q) t := ⟨ Tr.cm (Cm.mk [Value.pointer none, Value.agg (Array.mk [Value.slice none 0 0, Value.slice none 0 0, Value.slice none 0 0, Value.slice none 0 0,
 Value.slice none 0 0, Value.slice none 0 0, I 0, I 0, I 0]), Value.agg (Array.mk [I 0, I 0, I 0, F0, I 0, I 0, F0, F0, I 0, F0]), Value.agg (Array.mk
 [Value.slice none 0 0])] [] 0 0 [] [] 0) Unit (fun (x : Unit) => True) (fun (x : Unit) => Value.tuple (Array.mk [I 0, I 40])) (fun (x : Unit) => [])
 (fun (x : Unit) => Value.tuple (Array.mk [I 0, I 40])) (fun (x : Unit) => []) fun (x : Unit) => Tr.auto 3 (Tr.cm (Cm.mk [Value.pointer none, I 1] [] 0
 0 [] [] 0) Unit (fun (x : Unit) => True) (fun (x : Unit) => I 40) (fun (x : Unit) => []) (fun (x : Unit) => I 40) (fun (x : Unit) => []) fun (x : Unit)
 => Tr.auto 5 (Tr.cm (Cm.mk [Value.pointer none] [] 0 0 [] [] 0) Unit (fun (x : Unit) => True) (fun (x : Unit) => I 0) (fun (x : Unit) => []) (fun (x :
 Unit) => I 0) (fun (x : Unit) => []) fun (x : Unit) => Tr.auto 5 (Tr.cm (Cm.mk [] [] 0 8 [] [(0, 0), (1, 1), (2, 2), (3, 3), (4, 4), (5, 5), (6, 6),
 (7, 7)] 8) Unit (fun (x : Unit) => True) (fun (x : Unit) => nV 0) (fun (x : Unit) => nZ 0) (fun (x : Unit) => nV 0) (fun (x : Unit) => [(0, nb0), (1,
 nb1), (2, nb2 0), (3, nb3), (4, nb4), (5, nb5), (6, nb6), (7, nb7)]) fun (x : Unit) => Tr.auto 1 (Tr.cm (Cm.mk [Value.pointer none, nV 0, I 5] [(0,
 nb0), (1, nb1), (2, nb2 0), (3, nb3), (4, nb4), (5, nb5), (6, nb6), (7, nb7)] 8 8 [(0, 0), (1, 1), (2, 2), (3, 3), (4, 4), (5, 5), (6, 6), (7, 7)] [(0,
 0), (1, 1), (2, 2), (3, 3), (4, 4), (5, 5), (6, 6), (7, 7)] 8) Unit (fun (x : Unit) => True) (fun (x : Unit) => nilS) (fun (x : Unit) => [(0, nb0), (1,
 nb1), (2, nb2 0), (3, nb3), (4, nb4), (5, nb5), (6, nb6), (7, nb7)]) (fun (x : Unit) => Value.slice none 0 0) (fun (x : Unit) => [(0, nb0), (1, nb1),
 (2, nb2 0), (3, nb3), (4, nb4), (5, nb5), (6, nb6), (7, nb7)]) fun (x : Unit) => Tr.auto 5 (Tr.cm (Cm.mk [Value.pointer none, I 1] [] 0 0 [] [] 8) Unit
 (fun (x : Unit) => True) (fun (x : Unit) => Value.tuple (Array.mk [jV, F0])) (fun (x : Unit) => []) (fun (x : Unit) => Value.tuple (Array.mk [Value.agg
 (Array.mk [Value.slice none 0 0]), F0])) (fun (x : Unit) => []) fun (x : Unit) => Tr.auto 2 (Tr.cm (Cm.mk [] [] 0 2 [] [(9, 0), (10, 1)] 11) Unit (fun
 (x : Unit) => True) (fun (x : Unit) => ip 0) (fun (x : Unit) => [(0, wst 0 1), (1, AObj.map [] 0)]) (fun (x : Unit) => Value.pointer (some (Addr.mk 9 0
 none))) (fun (x : Unit) => [(9, AObj.blk (Blk.mk [I 0, Value.map (some 10)] 2 1 62 true true 0 true)), (10, AObj.map [] 0)]) fun (x : Unit) => Tr.auto
 7 (Tr.cm (Cm.mk [] [] 0 8 [] [(11, 0), (12, 1), (13, 2), (14, 3), (15, 4), (16, 5), (17, 6), (18, 7)] 19) Unit (fun (x : Unit) => True) (fun (x : Unit)
 => nV 0) (fun (x : Unit) => nZ 0) (fun (x : Unit) => nV 11) (fun (x : Unit) => [(11, nb0), (12, nb1), (13, nb2 11), (14, nb3), (15, nb4), (16, nb5),
 (17, nb6), (18, nb7)]) fun (x : Unit) => Tr.auto 1 (Tr.lp 20 202 [(9, 9), (19, 19), (10, 10), (11, 11), (12, 12), (13, 13), (18, 18), (14, 14), (15,
 15), (16, 16), (17, 17)] lv3z (zn3 0 []) 21 (Al.cons Unit (fun (x : Unit) => True) (fun (x : Unit) => (AExit.exit 0, [], zn3 0 [], 21)) (fun (x : Unit)
 => Tr.cm (Cm.mk [] [] 0 0 [] [] 21) Unit (fun (x : Unit) => True) (fun (x : Unit) => T1) (fun (x : Unit) => []) (fun (x : Unit) => T1) (fun (x : Unit)
 => []) fun (x : Unit) => Tr.ret [] T1 [] 0) Al.nil))))))))),
 Eq.mp (by kernel_rfl) hyp⟩

set_option maxRecDepth 1000000 in
theorem l7e (z : T AObj) (g : Nat → List Value → Option Value) (last : Nat) (Q : Value → Zone → Nat → Prop) (hyp :
   z = z ∧ (CallA Tryz.prog z 16 [nV 0] [(0, nb0), (1, nb1), (2, nb2 0), (3, nb3), (4, nb4), (5, nb5), (6, nb6), (7, nb7)] 8 8 (fun (x : Unit) => True)
 (fun (x : Unit) => Value.tuple (Array.mk [I 0, I 0, I 0])) fun (x : Unit) => [(0, nb0), (1, nb1), (2, nb2 0), (3, nb3), (4, nb4), (5, nb5), (6, nb6),
 (7, nb7)]) ∧ some [nV 2] = some [nV 2] ∧ some nb0 = some nb0 ∧ some nb1 = some nb1 ∧ some (nb2 2) = some (nb2 2) ∧ some nb3 = some nb3 ∧ some nb4 =
 some nb4 ∧ some nb5 = some nb5 ∧ some nb6 = some nb6 ∧ some nb7 = some nb7 ∧ ∀ (x : Unit), True → some (Value.tuple (Array.mk [I 0, I 0, I 0])) = some
 (Value.tuple (Array.mk [I 0, I 0, I 0])) ∧ some nb0 = some nb0 ∧ some nb1 = some nb1 ∧ some (nb2 0) = some (nb2 0) ∧ some nb3 = some nb3 ∧ some nb4 =
 some nb4 ∧ some nb5 = some nb5 ∧ some nb6 = some nb6 ∧ some nb7 = some nb7 ∧ 14 = 14 ∧ LoopA Tryz.prog z (loopN (bodyOf Tryz.f7) 0) 14 58 (lv7 1) (zn7n
 last last (ents [])) 15 (alt7 (zn7n last last (ents []))).R ∧ true = true ∧ 58 = 58 ∧ true = true ∧ z = z ∧ some (Value.pointer (some (Addr.mk 10 0
 none))) = some (Value.pointer (some (Addr.mk 10 0 none))) ∧ some (Value.pointer (some (Addr.mk 13 0 none))) = some (Value.pointer (some (Addr.mk 13 0
 none))) ∧ some (Value.func (Fn.func 17) (Array.mk []) (Array.mk [Value.pointer (some (Addr.mk 11 0 none)), Value.pointer (some (Addr.mk 12 0 none)),
 Value.pointer (some (Addr.mk 13 0 none)), Value.pointer (some (Addr.mk 10 0 none))])) = some (Value.func (Fn.func 17) (Array.mk []) (Array.mk
 [Value.pointer (some (Addr.mk 11 0 none)), Value.pointer (some (Addr.mk 12 0 none)), Value.pointer (some (Addr.mk 13 0 none)), Value.pointer (some
 (Addr.mk 10 0 none))])) ∧ some (I 1) = some (I 1) ∧ some (AObj.blk (Blk.mk [Value.int IntKind.i64 (↑last : Int), Value.map (some 1)] 2 1 62 true true 0
 true)) = some (AObj.blk (Blk.mk [Value.int IntKind.i64 (↑last : Int), Value.map (some 1)] 2 1 62 true true 0 true)) ∧ some (AObj.map [] last) = some
 (AObj.map [] last) ∧ some nb0 = some nb0 ∧ some nb1 = some nb1 ∧ some (nb2 2) = some (nb2 2) ∧ some nb3 = some nb3 ∧ some nb4 = some nb4 ∧ some nb5 =
 some nb5 ∧ some nb6 = some nb6 ∧ some nb7 = some nb7 ∧ some (AObj.blk (Blk.mk [Value.pointer (some (Addr.mk 0 0 none))] 1 1 23 true true 0 true)) =
 some (AObj.blk (Blk.mk [Value.pointer (some (Addr.mk 0 0 none))] 1 1 23 true true 0 true)) ∧ some (nBox 2) = some (nBox 2) ∧ some (AObj.blk (Blk.mk [I
 5] 1 1 3 true true 0 true)) = some (AObj.blk (Blk.mk [I 5] 1 1 3 true true 0 true)) ∧ some (AObj.blk (Blk.mk [Value.slice none 0 0] 1 1 44 true true 0
 true)) = some (AObj.blk (Blk.mk [Value.slice none 0 0] 1 1 44 true true 0 true)) ∧ ∀ (x : Unit), True → true = true ∧ 58 = 58 ∧ true = true ∧ z = z ∧
 some (AObj.blk (Blk.mk [Value.int IntKind.i64 (↑last : Int), Value.map (some 1)] 2 1 62 true true 0 true)) = some (AObj.blk (Blk.mk [Value.int
 IntKind.i64 (↑last : Int), Value.map (some 1)] 2 1 62 true true 0 true)) ∧ some (AObj.map [] last) = some (AObj.map [] last) ∧ some nb0 = some nb0 ∧
 some nb1 = some nb1 ∧ some (nb2 2) = some (nb2 2) ∧ some nb3 = some nb3 ∧ some nb4 = some nb4 ∧ some nb5 = some nb5 ∧ some nb6 = some nb6 ∧ some nb7 =
 some nb7 ∧ some (Value.slice none 0 0) = some (Value.slice none 0 0) ∧ Q (Value.slice none 0 0) [(0, AObj.blk (Blk.mk [Value.int IntKind.i64 (↑last :
 Int), Value.map (some 1)] 2 1 62 true true 0 true)), (1, AObj.map [] last), (2, nb0), (3, nb1), (4, nb2 2), (5, nb3), (6, nb4), (7, nb5), (8, nb6), (9,
 nb7)] 10) : ∃ t, codeT Tryz.prog g z 100 (bodyOf Tryz.f7) (fr0 Tryz.f7 [ip 0, nV 2, I 5]) (mkHs z ((0, wst last 1) :: (1, .map (ents []) last) :: nZ 2) 10) (retK Tryz.prog z 10 Tryz.f7 Q) t := ⟨ Tr.auto 14 (Tr.cm (Cm.mk [nV 0] [(0, nb0), (1, nb1), (2, nb2 0), (3, nb3), (4, nb4), (5, nb5), (6, nb6), (7, nb7)] 8 8 [(0, 2), (1, 3), (2, 4), (3,
 5), (4, 6), (5, 7), (6, 8), (7, 9)] [(2, 0), (3, 1), (4, 2), (5, 3), (6, 4), (7, 5), (8, 6), (9, 7)] 13) Unit (fun (x : Unit) => True) (fun (x : Unit)
 => Value.tuple (Array.mk [I 0, I 0, I 0])) (fun (x : Unit) => [(0, nb0), (1, nb1), (2, nb2 0), (3, nb3), (4, nb4), (5, nb5), (6, nb6), (7, nb7)]) (fun
 (x : Unit) => Value.tuple (Array.mk [I 0, I 0, I 0])) (fun (x : Unit) => [(2, nb0), (3, nb1), (4, nb2 2), (5, nb3), (6, nb4), (7, nb5), (8, nb6), (9,
 nb7)]) fun (x : Unit) => Tr.auto 2 (Tr.lp 14 58 [(10, 10), (13, 13), (11, 11), (12, 12), (0, 0), (2, 2), (3, 3), (4, 4), (9, 9), (1, 1), (5, 5), (6,
 6), (7, 7), (8, 8)] (lv7 1) (zn7n last last (ents [])) 15 (Al.cons Unit (fun (x : Unit) => True) (fun (x : Unit) => (AExit.exit 0, [(3, ip 10), (10, ip
 13)], zn7n last last (ents []), 15)) (fun (x : Unit) => Tr.auto 1 (Tr.ret [(0, 0), (1, 1), (2, 2), (3, 3), (4, 4), (5, 5), (6, 6), (7, 7), (8, 8), (9,
 9)] (Value.slice none 0 0) [(0, AObj.blk (Blk.mk [Value.int IntKind.i64 (↑last : Int), Value.map (some 1)] 2 1 62 true true 0 true)), (1, AObj.map []
 last), (2, nb0), (3, nb1), (4, nb2 2), (5, nb3), (6, nb4), (7, nb5), (8, nb6), (9, nb7)] 10)) Al.nil))),
 Eq.mp (by kernel_rfl) hyp⟩

set_option maxRecDepth 1000000 in
theorem l7f (z : T AObj) (g : Nat → List Value → Option Value) (last : Nat) (ids : List Nat) (Q : Value → Zone → Nat → Prop) (hyp :
   z = z ∧ (CallA Tryz.prog z 16 [nV 0] [(0, nb0), (1, nb1), (2, nb2 0), (3, nb3), (4, nb4), (5, nb5), (6, nb6), (7, nb7)] 8 8 (fun (x : Unit) => True)
 (fun (x : Unit) => Value.tuple (Array.mk [I 0, I 0, I 0])) fun (x : Unit) => [(0, nb0), (1, nb1), (2, nb2 0), (3, nb3), (4, nb4), (5, nb5), (6, nb6),
 (7, nb7)]) ∧ some [nV 2] = some [nV 2] ∧ some nb0 = some nb0 ∧ some nb1 = some nb1 ∧ some (nb2 2) = some (nb2 2) ∧ some nb3 = some nb3 ∧ some nb4 =
 some nb4 ∧ some nb5 = some nb5 ∧ some nb6 = some nb6 ∧ some nb7 = some nb7 ∧ ∀ (x : Unit), True → some (Value.tuple (Array.mk [I 0, I 0, I 0])) = some
 (Value.tuple (Array.mk [I 0, I 0, I 0])) ∧ some nb0 = some nb0 ∧ some nb1 = some nb1 ∧ some (nb2 0) = some (nb2 0) ∧ some nb3 = some nb3 ∧ some nb4 =
 some nb4 ∧ some nb5 = some nb5 ∧ some nb6 = some nb6 ∧ some nb7 = some nb7 ∧ 14 = 14 ∧ LoopA Tryz.prog z (loopN (bodyOf Tryz.f7) 0) 14 58 (lv7 1) (zn7n
 last last (ents ids)) 15 (alt7 (zn7r ids last last (ents []))).R ∧ true = true ∧ 58 = 58 ∧ true = true ∧ z = z ∧ some (Value.pointer (some (Addr.mk 10
 0 none))) = some (Value.pointer (some (Addr.mk 10 0 none))) ∧ some (Value.pointer (some (Addr.mk 13 0 none))) = some (Value.pointer (some (Addr.mk 13 0
 none))) ∧ some (Value.func (Fn.func 17) (Array.mk []) (Array.mk [Value.pointer (some (Addr.mk 11 0 none)), Value.pointer (some (Addr.mk 12 0 none)),
 Value.pointer (some (Addr.mk 13 0 none)), Value.pointer (some (Addr.mk 10 0 none))])) = some (Value.func (Fn.func 17) (Array.mk []) (Array.mk
 [Value.pointer (some (Addr.mk 11 0 none)), Value.pointer (some (Addr.mk 12 0 none)), Value.pointer (some (Addr.mk 13 0 none)), Value.pointer (some
 (Addr.mk 10 0 none))])) ∧ some (I 1) = some (I 1) ∧ some (AObj.blk (Blk.mk [Value.int IntKind.i64 (↑last : Int), Value.map (some 1)] 2 1 62 true true 0
 true)) = some (AObj.blk (Blk.mk [Value.int IntKind.i64 (↑last : Int), Value.map (some 1)] 2 1 62 true true 0 true)) ∧ renO (sig [(10, 10), (13, 13),
 (11, 11), (12, 12), (0, 0), (2, 2), (3, 3), (4, 4), (9, 9), (1, 1), (5, 5), (6, 6), (7, 7), (8, 8)]) (AObj.map (ents ids) last) = some (AObj.map (ents
 ids) last) ∧ some nb0 = some nb0 ∧ some nb1 = some nb1 ∧ some (nb2 2) = some (nb2 2) ∧ some nb3 = some nb3 ∧ some nb4 = some nb4 ∧ some nb5 = some nb5
 ∧ some nb6 = some nb6 ∧ some nb7 = some nb7 ∧ some (AObj.blk (Blk.mk [Value.pointer (some (Addr.mk 0 0 none))] 1 1 23 true true 0 true)) = some
 (AObj.blk (Blk.mk [Value.pointer (some (Addr.mk 0 0 none))] 1 1 23 true true 0 true)) ∧ some (nBox 2) = some (nBox 2) ∧ some (AObj.blk (Blk.mk [I 5] 1
 1 3 true true 0 true)) = some (AObj.blk (Blk.mk [I 5] 1 1 3 true true 0 true)) ∧ some (AObj.blk (Blk.mk [Value.slice none 0 0] 1 1 44 true true 0
 true)) = some (AObj.blk (Blk.mk [Value.slice none 0 0] 1 1 44 true true 0 true)) ∧ ∀ (x : Unit), True → true = true ∧ 58 = 58 ∧ true = true ∧ z = z ∧
 some (AObj.blk (Blk.mk [Value.int IntKind.i64 (↑last : Int), Value.map (some 1)] 2 1 62 true true 0 true)) = some (AObj.blk (Blk.mk [Value.int
 IntKind.i64 (↑last : Int), Value.map (some 1)] 2 1 62 true true 0 true)) ∧ some (AObj.map [] last) = some (AObj.map [] last) ∧ some nb0 = some nb0 ∧
 some nb1 = some nb1 ∧ some (nb2 2) = some (nb2 2) ∧ some nb3 = some nb3 ∧ some nb4 = some nb4 ∧ some nb5 = some nb5 ∧ some nb6 = some nb6 ∧ some nb7 =
 some nb7 ∧ renO (sig [(0, 0), (1, 1), (2, 2), (3, 3), (4, 4), (5, 5), (6, 6), (7, 7), (8, 8), (9, 9), (10, 14)]) (AObj.blk (Blk.mk (chg ids)
 (ids.length * 2) 2 55 false false 0 true)) = some (AObj.blk (Blk.mk (chg ids) (ids.length * 2) 2 55 false false 0 true)) ∧ some (Value.slice (some
 (Addr.mk 14 0 none)) ids.length ids.length) = some (Value.slice (some (Addr.mk 14 0 none)) ids.length ids.length) ∧ Q (Value.slice (some (Addr.mk 10 0
 none)) ids.length ids.length) [(0, AObj.blk (Blk.mk [Value.int IntKind.i64 (↑last : Int), Value.map (some 1)] 2 1 62 true true 0 true)), (1, AObj.map
 [] last), (2, nb0), (3, nb1), (4, nb2 2), (5, nb3), (6, nb4), (7, nb5), (8, nb6), (9, nb7), (10, AObj.blk (Blk.mk (chg ids) (ids.length * 2) 2 55 false
 false 0 true))] 11) : ∃ t, codeT Tryz.prog g z 100 (bodyOf Tryz.f7) (fr0 Tryz.f7 [ip 0, nV 2, I 5]) (mkHs z ((0, wst last 1) :: (1, .map (ents ids) last) :: nZ 2) 10) (retK Tryz.prog z 10 Tryz.f7 Q) t := ⟨ Tr.auto 14 (Tr.cm (Cm.mk [nV 0] [(0, nb0), (1, nb1), (2, nb2 0), (3, nb3), (4, nb4), (5, nb5), (6, nb6), (7, nb7)] 8 8 [(0, 2), (1, 3), (2, 4), (3,
 5), (4, 6), (5, 7), (6, 8), (7, 9)] [(2, 0), (3, 1), (4, 2), (5, 3), (6, 4), (7, 5), (8, 6), (9, 7)] 13) Unit (fun (x : Unit) => True) (fun (x : Unit)
 => Value.tuple (Array.mk [I 0, I 0, I 0])) (fun (x : Unit) => [(0, nb0), (1, nb1), (2, nb2 0), (3, nb3), (4, nb4), (5, nb5), (6, nb6), (7, nb7)]) (fun
 (x : Unit) => Value.tuple (Array.mk [I 0, I 0, I 0])) (fun (x : Unit) => [(2, nb0), (3, nb1), (4, nb2 2), (5, nb3), (6, nb4), (7, nb5), (8, nb6), (9,
 nb7)]) fun (x : Unit) => Tr.auto 2 (Tr.lp 14 58 [(10, 10), (13, 13), (11, 11), (12, 12), (0, 0), (2, 2), (3, 3), (4, 4), (9, 9), (1, 1), (5, 5), (6,
 6), (7, 7), (8, 8)] (lv7 1) (zn7n last last (ents ids)) 15 (Al.cons Unit (fun (x : Unit) => True) (fun (x : Unit) => (AExit.exit 0, [(3, ip 10), (10,
 ip 13)], zn7r ids last last (ents []), 15)) (fun (x : Unit) => Tr.auto 1 (Tr.ret [(0, 0), (1, 1), (2, 2), (3, 3), (4, 4), (5, 5), (6, 6), (7, 7), (8,
 8), (9, 9), (10, 14)] (Value.slice (some (Addr.mk 10 0 none)) ids.length ids.length) [(0, AObj.blk (Blk.mk [Value.int IntKind.i64 (↑last : Int),
 Value.map (some 1)] 2 1 62 true true 0 true)), (1, AObj.map [] last), (2, nb0), (3, nb1), (4, nb2 2), (5, nb3), (6, nb4), (7, nb5), (8, nb6), (9, nb7),
 (10, AObj.blk (Blk.mk (chg ids) (ids.length * 2) 2 55 false false 0 true))] 11)) Al.nil))),
 Eq.mp (by kernel_rfl) hyp⟩

end Go.Proofs.Wc
