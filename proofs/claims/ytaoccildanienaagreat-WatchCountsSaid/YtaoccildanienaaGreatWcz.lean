/-
  A part of the proof: lemmas of my own.
-/
import Derived.Test.YtaoccildanienaaGreatProg
import Derived.Test.YtaoccildanienaaGreatSwA
import Derived.Test.YtaoccildanienaaGreatSvA
import Derived.Test.YtaoccildanienaaGreatWDat
set_option linter.unusedVariables false
set_option linter.unusedSimpArgs false
namespace Go.Proofs.Wc
open Go Go.AV

abbrev iv (n : Nat) : Value := .int .i64 (n : Int)
abbrev nilS : Value := .slice none 0 0
abbrev ip (b : Nat) : Value := .pointer (some ⟨b, 0, none⟩)
abbrev mp (b : Nat) : Value := .map (some b)
abbrev sl (b n : Nat) : Value := .slice (some ⟨b, 0, none⟩) n n
/-- the network of the example, its blocks from this number on -/
def nV (k : Nat) : Value := .agg ⟨[sl k 4, sl (k + 1) 1, sl (k + 2) 4, nilS, nilS, sl (k + 7) 1, I 0, I 0, I 0]⟩
def wholeB (cells : List Value) (cap esz elem : Nat) : AObj := .blk ⟨cells, cap, esz, elem, true, true, 0, true⟩
def rowB (cells : List Value) (cap esz elem : Nat) : AObj := .blk ⟨cells, cap, esz, elem, false, false, 0, true⟩
def nb0 : AObj := wholeB [S [65], I 0, F0, I 0, S [66], I 0, F0, I 0, S [67], I 0, F0, I 0, S [68], I 0, F0, I 0] 16 4 73
def nb1 : AObj := wholeB [S [114], I 0, F0] 3 3 75
def nb2 (k : Nat) : AObj := wholeB [I 0, I 0, I 0, S [114, 48], I 0, F0, F0, sl (k + 3) 3, I 0, I 0, I 0, S [114, 49], I 0, F0, F0, sl (k + 4) 2, I 0, I 0, I 0, S [114, 50], I 0, F0, F0, sl (k + 5) 2, I 0, I 0, I 0, S [114, 51], I 0, F0, F0, sl (k + 6) 2] 32 8 53
def nb3 : AObj := wholeB [I 0, I 100, I 100, T1, T1, I 1, I 200, I 200, T1, T1, I 2, I 300, I 300, T1, T1] 15 5 77
def nb4 : AObj := wholeB [I 1, I 250, I 250, T1, T1, I 3, I 400, I 400, T1, T1] 10 5 77
def nb5 : AObj := wholeB [I 2, I 350, I 350, T1, T1, I 3, I 380, I 380, T1, T1] 10 5 77
def nb6 : AObj := wholeB [I 1, I 500, I 500, T1, T1, I 3, I 600, I 600, T1, T1] 10 5 77
def nb7 : AObj := wholeB [S [112], I 150, I 1, I 1, I 0, I 255] 6 6 80
def nZ (k : Nat) : Zone := [(k, nb0), (k + 1, nb1), (k + 2, nb2 k), (k + 3, nb3), (k + 4, nb4), (k + 5, nb5), (k + 6, nb6), (k + 7, nb7)]
/-- a network that is not valid -/
def bV (k : Nat) : Value := .agg ⟨[nilS, nilS, sl k 1, nilS, nilS, nilS, I 0, I 0, I 0]⟩
def bb : AObj := wholeB [I 0, I 0, I 0, E0, I 0, F0, F0, nilS] 8 8 53
def bZ (k : Nat) : Zone := [(k, bb)]
def qV : Value := .agg ⟨[I 1, I 1, I 0, F0, I 0, I 0, F0, F0, I 0, F0]⟩
def jV : Value := .agg ⟨[nilS]⟩
def fV : Value := .agg ⟨[I 1, I 1, I 0, F0, I 0, I 0, F0, F0, I 0, F0, nilS]⟩

/-- a watch: its last number; its entries -/
def wst (last m : Nat) : AObj := wholeB [iv last, mp m] 2 1 62
def ent (id : Nat) : MapEntry := { key := iv id, val := fV, born := id - 1 }
def ents (ids : List Nat) : List MapEntry := ids.map ent

/-- boxes of Update -/
def boxB (elem : Nat) (cells : List Value) : AObj := wholeB cells cells.length 1 elem
def nBox (k : Nat) : AObj := boxB 36 [sl k 4, sl (k + 1) 1, sl (k + 2) 4, nilS, nilS, sl (k + 7) 1, I 0, I 0, I 0]
def nowB : AObj := boxB 3 [I 5]
def wBox (b : Nat) : AObj := boxB 23 [ip b]
def outB (v : Value) : AObj := boxB 44 [v]
/-- the changes 'done' -/
def chg : List Nat → List Value
  | [] => []
  | d :: l => iv d :: I 4 :: chg l
def chgB (l : List Nat) : AObj := rowB (chg l) (l.length * 2) 2 55
def setV (n now out w : Nat) : Value := .func (.func 17) ⟨[]⟩ ⟨[ip n, ip now, ip out, ip w]⟩

abbrev one (v : Value) (zo : Zone) (n : Nat) : Option CallH := some (.cm ⟨Unit, fun _ => True, fun _ => v, fun _ => zo, n⟩)
def ct8 : Ct := fun _ _ => one (nV 0) (nZ 0) 8
def ct12 : Ct := fun _ z => one (I 0) z 8
def ct13 : Ct := fun _ z => one (.tuple ⟨[I 0, I 0]⟩) z 8
def ct16 : Ct := fun _ z => match z with
  | [_] => one (.tuple ⟨[I 2, I 0, I 12]⟩) z 1
  | _ => one (.tuple ⟨[I 0, I 0, I 0]⟩) z 8
def ct18 : Ct := fun _ z => one (.tuple ⟨[I 4, fV]⟩) z 8
def ct15 : Ct := fun _ _ => some (.cl jV)
def ct11 : Ct := fun _ z => one T1 z 0
def ct14 (last : Nat) : Ct := fun _ z => match z with
  | [_, m] => one (iv (last + 1)) [(0, wst (last + 1) 1), m] 2
  | _ => none
/-- Len -/
def ct6 : Ct := fun a z => match a with
  | [.pointer none] => one (I 0) z 0
  | _ => match z with
    | [_, (_, .map es _)] => one (iv es.length) z 2
    | _ => none

/-- settle: the first change, a further one -/
def s17n (last c : Nat) (es : List MapEntry) : Zone := (0, nBox 1) :: nZ 1 ++ [(9, nowB), (10, outB nilS), (11, wBox 12), (12, wst last 13), (13, .map es c)]
def s17n' (d last c : Nat) (es : List MapEntry) : Zone := (0, nBox 1) :: nZ 1 ++ [(9, nowB), (10, outB (sl 14 1)), (11, wBox 12), (12, wst last 13), (13, .map es c), (14, chgB [d])]
def s17r (l : List Nat) (last c : Nat) (es : List MapEntry) : Zone := (0, nBox 1) :: nZ 1 ++ [(9, nowB), (10, outB (sl 11 l.length)), (11, chgB l), (12, wBox 13), (13, wst last 14), (14, .map es c)]
def s17r' (d : Nat) (l : List Nat) (last c : Nat) (es : List MapEntry) : Zone := (0, nBox 1) :: nZ 1 ++ [(9, nowB), (10, outB (sl 15 (l.length + 1))), (12, wBox 13), (13, wst last 14), (14, .map es c), (15, rowB (chg l ++ [iv d, I 4]) ((l.length + 1) * 2) 2 55)]

/-- settle, as an answer -/
def ct17 (d i last c : Nat) (es : List MapEntry) (l : List Nat) : Ct := fun _ z => match z with
  | [_, _, _, _, _, _, _, _, _, _, _, _, _, _] => one (.tuple ⟨[]⟩) (s17n' d last c (dropAt i es)) 15
  | [_, _, _, _, _, _, _, _, _, _, _, _, _, _, _] => one (.tuple ⟨[]⟩) (s17r' d l last c (dropAt i es)) 16
  | _ => none
/-- Update's loop: the number that is next; no change yet, or some -/
def lv7 (d : Nat) : Live := [(3, ip 10), (10, ip 13), (11, setV 11 12 13 10), (12, iv d)]
def zn7n (last c : Nat) (es : List MapEntry) : Zone := (0, wst last 1) :: (1, .map es c) :: nZ 2 ++ [(10, wBox 0), (11, nBox 2), (12, nowB), (13, outB nilS)]
def zn7r (l : List Nat) (last c : Nat) (es : List MapEntry) : Zone := (0, wst last 1) :: (1, .map es c) :: nZ 2 ++ [(10, wBox 0), (11, nBox 2), (12, nowB), (13, outB (sl 14 l.length)), (14, chgB l)]

/-- the calls of the law ahead of its loop -/
def ct4n : Ct := fun _ z => one (.tuple ⟨[I 0, I 40]⟩) z 0
def ct5n : Ct := fun _ z => one (I 40) z 0
def ct7n : Ct := fun _ z => one nilS z 8
def ct9n : Ct := fun _ z => one (.tuple ⟨[jV, F0]⟩) z 0
def ct10 : Ct := fun _ _ => one (ip 0) [(0, wst 0 1), (1, .map [] 0)] 2

/-- Update's loop, from its first round on: it ends with the changes of all -/
def alt7 (zo : Zone) : Al := .cons Unit (fun _ => True) (fun _ => (.exit 0, [(3, ip 10), (10, ip 13)], zo, 15)) (fun _ => .fin [] [] [] 0) .nil
def lp7e (last : Nat) : LpH := ⟨14, 58, lv7 1, zn7n last last (ents []), 15, alt7 (zn7n last last (ents []))⟩
def lp7f (last : Nat) (ids : List Nat) : LpH := ⟨14, 58, lv7 1, zn7n last last (ents ids), 15, alt7 (zn7r ids last last (ents []))⟩
/-- the law's loop -/
def idB (ids : List Nat) : AObj := rowB (ids.map iv) (ids.length * 1) 1 3
def lv3 (n cp : Nat) (ov : Value) (last i : Nat) : Live := [(0, .slice (some ⟨510, 0, none⟩) n cp), (8, ip 9), (9, ip 19), (10, ov), (11, iv (last + 1)), (12, iv i)]
def zn3 (last : Nat) (ids : List Nat) : Zone := (9, wst last 10) :: (10, .map (ents ids) last) :: nZ 11 ++ [(19, nBox 11)]
def zn3r (last : Nat) (ids : List Nat) : Zone := zn3 last ids ++ [(20, idB ids)]

def ct4 (last : Nat) (ids : List Nat) : Ct := fun _ _ => one (.tuple ⟨[iv (last + 1), I 0]⟩) ((0, wst (last + 1) 1) :: (1, .map (ents (ids ++ [last + 1])) (last + 1)) :: nZ 2) 10
def gone (v : Int) (ids : List Nat) : List Nat := ids.filter fun k => decide ((k : Int) ≠ v)
def ct5 (last : Nat) (ids : List Nat) (v : Int) : Ct := fun _ _ => some (.cm ⟨Nat, fun e => (e = 0 ∧ ∃ k, k ∈ ids ∧ (k : Int) = v) ∨ (e = 7 ∧ ∀ k, k ∈ ids → (k : Int) ≠ v), fun e => iv e, fun _ => [(0, wst last 1), (1, .map (ents (gone v ids)) last)], 2⟩)
def ct7n5 (last : Nat) : Ct := fun a z => match z with
  | [_, _, _] => one nilS z 3
  | _ => match a with
    | [_, _, .int _ (.negSucc _)] => one nilS z 10
    | _ => one nilS ((0, wst last 1) :: (1, .map (ents []) last) :: nZ 2) 10
def ct7r5 (last : Nat) (ids : List Nat) : Ct := fun a z => match z with
  | [_, _, _] => one nilS z 3
  | _ => match a with
    | [_, _, .int _ (.negSucc _)] => one nilS z 10
    | _ => one (sl 10 ids.length) ((0, wst last 1) :: (1, .map (ents []) last) :: nZ 2 ++ [(10, chgB ids)]) 11

/-- the loops within it: the changes compared; what is left -/
def lvC (n cp : Nat) (ov cv : Value) (last i k : Nat) : Live := lv3 n cp ov last i ++ [(15, cv), (16, iv k)]
def lvL (n cp : Nat) (ov le : Value) (last i k : Nat) : Live := lv3 n cp ov last i ++ [(17, le), (18, iv k)]
def znC (last : Nat) (ids : List Nat) : Zone := zn3 last [] ++ [(20, idB ids), (22, chgB ids)]
def znL (last : Nat) (ids m : List Nat) : Zone := zn3 last ids ++ [(20, idB ids), (21, idB m)]

def lvCo (n cp last i : Nat) : Live := [(0, .slice (some ⟨510, 0, none⟩) n cp), (8, ip 9), (9, ip 19), (11, iv (last + 1)), (12, iv i)]
def lvLo (n cp : Nat) (ov le : Value) (last i : Nat) : Live := lv3 n cp ov last i ++ [(17, le)]
abbrev alt (φ : Prop) (o : Out') (l : Al) : Al := .cons Unit (fun _ => φ) (fun _ => o) (fun _ => .fin [] [] [] 0) l
def lpCn (n cp last i : Nat) : LpH := ⟨22, 202, lvC n cp nilS nilS last i 0, zn3 last [], 22, alt True (.exit 5, lvCo n cp last i, zn3 last [], 22) .nil⟩
def lpCr (n cp last i : Nat) (ids : List Nat) : LpH := ⟨23, 202, lvC n cp (sl 20 ids.length) (sl 22 ids.length) last i 0, znC last ids, 23, alt True (.exit 5, lvCo n cp last i, zn3 last [], 23) .nil⟩
def lpLn (n cp last i : Nat) : LpH := ⟨21, 202, lvL n cp nilS nilS last i 0, zn3 last [], 21, alt True (.exit 3, lvLo n cp nilS nilS last i, zn3 last [], 21) .nil⟩
def lpLr (n cp last i : Nat) (ids : List Nat) (y : Int) : LpH := ⟨21, 202, lvL n cp (sl 20 ids.length) nilS last i 0, zn3r last ids, 22,
  alt (gone y ids = []) (.exit 3, lvLo n cp (sl 20 ids.length) nilS last i, zn3r last ids, 22) <|
  alt (gone y ids ≠ []) (.exit 3, lvLo n cp (sl 20 ids.length) (sl 21 (gone y ids).length) last i, znL last ids (gone y ids), 22) .nil⟩

def lp3 (n cp : Nat) : LpH := ⟨20, 202, lv3 n cp nilS 0 0, zn3 0 [], 21, .cons (Nat × List Nat) (fun _ => True) (fun w => (.exit 0, [], zn3 w.1 w.2, 21)) (fun _ => .fin [] [] [] 0) .nil⟩
/-- no list -/
def lv3z : Live := [(0, nilS), (8, ip 9), (9, ip 19), (10, nilS), (11, iv 1), (12, iv 0)]
def lp3z : LpH := ⟨20, 202, lv3z, zn3 0 [], 21, alt True (.exit 0, [], zn3 0 [], 21) .nil⟩

end Go.Proofs.Wc
