/-
  A part of the proof: lemmas of my own.
-/
import Derived.Test.YtamocmgfbonodaaGreatAvO
set_option linter.unusedVariables false
set_option linter.unusedSimpArgs false
namespace Go.Proofs
open Go Go.AV
set_option maxRecDepth 100000
def q0 : BO := (6, .blk ⟨[(S [65]), (I 0), F0, (I 0), (S [66]), (I 0), F0, (I 0)], 8, 4, 45, true, true, 0, true⟩)
def q1 : BO := (7, .blk ⟨[(S [82]), (I 0), F0], 3, 3, 47, true, true, 0, true⟩)
def q2 : BO := (8, .blk ⟨[(I 0), (I 0), (I 0), F0, F0, (I 1), (I 90), (I 90), F0, F0], 10, 5, 49, true, true, 0, true⟩)
def q3 : BO := (9, .blk ⟨[(I 1), (I 30), (I 30), F0, F0, (I 0), (I 60), (I 60), F0, F0], 10, 5, 49, true, true, 0, true⟩)
def q4 : BO := (10, .blk ⟨[(I 0), (I 0), (I 0), (S [116]), (I 0), F0, F0, (.slice (some ⟨8, 0, none⟩) 2 2), (I 0), (I 0), (I 0), (S [117]), (I 0), F0, F0, (.slice (some ⟨9, 0, none⟩) 2 2)], 16, 8, 51, true, true, 0, true⟩)
def q5 : BO := (11, .blk ⟨[(I 0), (I 1), (I 1), (I 0), T1], 5, 5, 54, true, true, 0, true⟩)
def e0 : Ent := ⟨16, [(.agg ⟨[(.slice (some ⟨6, 0, none⟩) 2 2), (.slice (some ⟨7, 0, none⟩) 1 1), (.slice (some ⟨10, 0, none⟩) 2 2), (.slice (some ⟨11, 0, none⟩) 1 1), (.slice none 0 0), (.slice none 0 0), (I 0), (I 0), (I 0)]⟩)], [q0, q1, q2, q3, q4, q5], 15, (.tuple ⟨[(I 0), (I 0), (I 0)]⟩), [], 142, []⟩
def e1 : Ent := ⟨5, [], [], 6, .bool true, [], 156, []⟩
end Go.Proofs
