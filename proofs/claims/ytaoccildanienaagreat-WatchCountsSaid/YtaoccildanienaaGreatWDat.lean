/-
  A part of the proof: lemmas of my own.
-/
import Derived.Test.YtaoccildanienaaGreatAvO
set_option linter.unusedVariables false
set_option linter.unusedSimpArgs false
namespace Go.Proofs
open Go Go.AV
set_option maxRecDepth 100000
namespace W50
-- e0: transit/transitlaw50.network 31 next 0 18 okV true order [1, 2, 16, 6, 9, 12, 15, 17]
-- e3: transit/feasible.CheckQuery 62 next 8 235 okV true order []
-- e5: transit/network.Check 70 next 8 233 okV true order []
-- e8: transit/feasible.Check 22 next 8 238 okV true order []
-- e9: transit/network.Check 51 next 1 16 okV true order []
-- e18: transit/watch.outcome 34 next 8 932 okV true order []
def q0 : BO := (1, .blk ⟨[(S [65]), (I 0), F0, (I 0), (S [66]), (I 0), F0, (I 0), (S [67]), (I 0), F0, (I 0), (S [68]), (I 0), F0, (I 0)], 16, 4, 73, true, true, 0, true⟩)
def q1 : BO := (2, .blk ⟨[(S [114]), (I 0), F0], 3, 3, 75, true, true, 0, true⟩)
def q2 : BO := (16, .blk ⟨[(I 0), (I 0), (I 0), (S [114, 48]), (I 0), F0, F0, (.slice (some ⟨6, 0, none⟩) 3 3), (I 0), (I 0), (I 0), (S [114, 49]), (I 0), F0, F0, (.slice (some ⟨9, 0, none⟩) 2 2), (I 0), (I 0), (I 0), (S [114, 50]), (I 0), F0, F0, (.slice (some ⟨12, 0, none⟩) 2 2), (I 0), (I 0), (I 0), (S [114, 51]), (I 0), F0, F0, (.slice (some ⟨15, 0, none⟩) 2 2)], 32, 8, 53, true, true, 0, true⟩)
def q3 : BO := (6, .blk ⟨[(I 0), (I 100), (I 100), T1, T1, (I 1), (I 200), (I 200), T1, T1, (I 2), (I 300), (I 300), T1, T1], 15, 5, 77, true, true, 0, true⟩)
def q4 : BO := (9, .blk ⟨[(I 1), (I 250), (I 250), T1, T1, (I 3), (I 400), (I 400), T1, T1], 10, 5, 77, true, true, 0, true⟩)
def q5 : BO := (12, .blk ⟨[(I 2), (I 350), (I 350), T1, T1, (I 3), (I 380), (I 380), T1, T1], 10, 5, 77, true, true, 0, true⟩)
def q6 : BO := (15, .blk ⟨[(I 1), (I 500), (I 500), T1, T1, (I 3), (I 600), (I 600), T1, T1], 10, 5, 77, true, true, 0, true⟩)
def q7 : BO := (17, .blk ⟨[(S [112]), (I 150), (I 1), (I 1), (I 0), (I 255)], 6, 6, 80, true, true, 0, true⟩)
def q8 : BO := (0, .blk ⟨[(S [65]), (I 0), F0, (I 0), (S [66]), (I 0), F0, (I 0), (S [67]), (I 0), F0, (I 0), (S [68]), (I 0), F0, (I 0)], 16, 4, 73, true, true, 0, true⟩)
def q9 : BO := (1, .blk ⟨[(S [114]), (I 0), F0], 3, 3, 75, true, true, 0, true⟩)
def q10 : BO := (2, .blk ⟨[(I 0), (I 0), (I 0), (S [114, 48]), (I 0), F0, F0, (.slice (some ⟨3, 0, none⟩) 3 3), (I 0), (I 0), (I 0), (S [114, 49]), (I 0), F0, F0, (.slice (some ⟨4, 0, none⟩) 2 2), (I 0), (I 0), (I 0), (S [114, 50]), (I 0), F0, F0, (.slice (some ⟨5, 0, none⟩) 2 2), (I 0), (I 0), (I 0), (S [114, 51]), (I 0), F0, F0, (.slice (some ⟨6, 0, none⟩) 2 2)], 32, 8, 53, true, true, 0, true⟩)
def q11 : BO := (3, .blk ⟨[(I 0), (I 100), (I 100), T1, T1, (I 1), (I 200), (I 200), T1, T1, (I 2), (I 300), (I 300), T1, T1], 15, 5, 77, true, true, 0, true⟩)
def q12 : BO := (4, .blk ⟨[(I 1), (I 250), (I 250), T1, T1, (I 3), (I 400), (I 400), T1, T1], 10, 5, 77, true, true, 0, true⟩)
def q13 : BO := (5, .blk ⟨[(I 2), (I 350), (I 350), T1, T1, (I 3), (I 380), (I 380), T1, T1], 10, 5, 77, true, true, 0, true⟩)
def q14 : BO := (6, .blk ⟨[(I 1), (I 500), (I 500), T1, T1, (I 3), (I 600), (I 600), T1, T1], 10, 5, 77, true, true, 0, true⟩)
def q15 : BO := (7, .blk ⟨[(S [112]), (I 150), (I 1), (I 1), (I 0), (I 255)], 6, 6, 80, true, true, 0, true⟩)
def q16 : BO := (0, .blk ⟨[(I 0), (I 0), (I 0), E0, (I 0), F0, F0, (.slice none 0 0)], 8, 8, 53, true, true, 0, true⟩)
def e0 : Ent := ⟨8, [], [], 0, (.agg ⟨[(.slice (some ⟨1, 0, none⟩) 4 4), (.slice (some ⟨2, 0, none⟩) 1 1), (.slice (some ⟨16, 0, none⟩) 4 4), (.slice none 0 0), (.slice none 0 0), (.slice (some ⟨17, 0, none⟩) 1 1), (I 0), (I 0), (I 0)]⟩), [q0, q1, q2, q3, q4, q5, q6, q7], 18, []⟩
def e1 : Ent := ⟨67, [(.slice none 0 0), (I 4)], [], 57, (.slice none 0 0), [], 230, []⟩
def e2 : Ent := ⟨16, [(.agg ⟨[(.slice (some ⟨0, 0, none⟩) 4 4), (.slice (some ⟨1, 0, none⟩) 1 1), (.slice (some ⟨2, 0, none⟩) 4 4), (.slice none 0 0), (.slice none 0 0), (.slice (some ⟨7, 0, none⟩) 1 1), (I 0), (I 0), (I 0)]⟩)], [q8, q9, q10, q11, q12, q13, q14, q15], 10, (.tuple ⟨[(I 0), (I 0), (I 0)]⟩), [], 235, []⟩
def e3 : Ent := ⟨12, [(.agg ⟨[(.slice (some ⟨0, 0, none⟩) 4 4), (.slice (some ⟨1, 0, none⟩) 1 1), (.slice (some ⟨2, 0, none⟩) 4 4), (.slice none 0 0), (.slice none 0 0), (.slice (some ⟨7, 0, none⟩) 1 1), (I 0), (I 0), (I 0)]⟩), (.agg ⟨[(I 1), (I 1), (I 0), F0, (I 0), (I 0), F0, F0, (I 0), F0]⟩)], [q8, q9, q10, q11, q12, q13, q14, q15], 8, (I 0), [], 235, []⟩
def e4 : Ent := ⟨67, [(.slice none 0 0), (I 4)], [], 55, (.slice none 0 0), [], 228, []⟩
def e5 : Ent := ⟨16, [(.agg ⟨[(.slice (some ⟨0, 0, none⟩) 4 4), (.slice (some ⟨1, 0, none⟩) 1 1), (.slice (some ⟨2, 0, none⟩) 4 4), (.slice none 0 0), (.slice none 0 0), (.slice (some ⟨7, 0, none⟩) 1 1), (I 0), (I 0), (I 0)]⟩)], [q8, q9, q10, q11, q12, q13, q14, q15], 8, (.tuple ⟨[(I 0), (I 0), (I 0)]⟩), [], 233, []⟩
def e6 : Ent := ⟨67, [(.slice none 0 0), (I 4)], [], 60, (.slice none 0 0), [], 233, []⟩
def e7 : Ent := ⟨16, [(.agg ⟨[(.slice (some ⟨0, 0, none⟩) 4 4), (.slice (some ⟨1, 0, none⟩) 1 1), (.slice (some ⟨2, 0, none⟩) 4 4), (.slice none 0 0), (.slice none 0 0), (.slice (some ⟨7, 0, none⟩) 1 1), (I 0), (I 0), (I 0)]⟩)], [q8, q9, q10, q11, q12, q13, q14, q15], 13, (.tuple ⟨[(I 0), (I 0), (I 0)]⟩), [], 238, []⟩
def e8 : Ent := ⟨13, [(.agg ⟨[(.slice (some ⟨0, 0, none⟩) 4 4), (.slice (some ⟨1, 0, none⟩) 1 1), (.slice (some ⟨2, 0, none⟩) 4 4), (.slice none 0 0), (.slice none 0 0), (.slice (some ⟨7, 0, none⟩) 1 1), (I 0), (I 0), (I 0)]⟩), (.agg ⟨[(I 1), (I 1), (I 0), F0, (I 0), (I 0), F0, F0, (I 0), F0]⟩), (.agg ⟨[(.slice none 0 0)]⟩)], [q8, q9, q10, q11, q12, q13, q14, q15], 8, (.tuple ⟨[(I 0), (I 0)]⟩), [], 238, []⟩
def e9 : Ent := ⟨16, [(.agg ⟨[(.slice none 0 0), (.slice none 0 0), (.slice (some ⟨0, 0, none⟩) 1 1), (.slice none 0 0), (.slice none 0 0), (.slice none 0 0), (I 0), (I 0), (I 0)]⟩)], [q16], 1, (.tuple ⟨[(I 2), (I 0), (I 12)]⟩), [], 16, []⟩
def e10 : Ent := ⟨67, [(.slice none 0 0), (I 4)], [], 63, (.slice none 0 0), [], 236, []⟩
def e11 : Ent := ⟨16, [(.agg ⟨[(.slice (some ⟨0, 0, none⟩) 4 4), (.slice (some ⟨1, 0, none⟩) 1 1), (.slice (some ⟨2, 0, none⟩) 4 4), (.slice none 0 0), (.slice none 0 0), (.slice (some ⟨7, 0, none⟩) 1 1), (I 0), (I 0), (I 0)]⟩)], [q8, q9, q10, q11, q12, q13, q14, q15], 16, (.tuple ⟨[(I 0), (I 0), (I 0)]⟩), [], 241, []⟩
def e12 : Ent := ⟨67, [(.slice none 0 0), (I 4)], [], 291, (.slice none 0 0), [], 464, []⟩
def e13 : Ent := ⟨16, [(.agg ⟨[(.slice (some ⟨0, 0, none⟩) 4 4), (.slice (some ⟨1, 0, none⟩) 1 1), (.slice (some ⟨2, 0, none⟩) 4 4), (.slice none 0 0), (.slice none 0 0), (.slice (some ⟨7, 0, none⟩) 1 1), (I 0), (I 0), (I 0)]⟩)], [q8, q9, q10, q11, q12, q13, q14, q15], 244, (.tuple ⟨[(I 0), (I 0), (I 0)]⟩), [], 469, []⟩
def e14 : Ent := ⟨67, [(.slice none 0 0), (I 4)], [], 523, (.slice none 0 0), [], 696, []⟩
def e15 : Ent := ⟨16, [(.agg ⟨[(.slice (some ⟨0, 0, none⟩) 4 4), (.slice (some ⟨1, 0, none⟩) 1 1), (.slice (some ⟨2, 0, none⟩) 4 4), (.slice none 0 0), (.slice none 0 0), (.slice (some ⟨7, 0, none⟩) 1 1), (I 0), (I 0), (I 0)]⟩)], [q8, q9, q10, q11, q12, q13, q14, q15], 476, (.tuple ⟨[(I 0), (I 0), (I 0)]⟩), [], 701, []⟩
def e16 : Ent := ⟨67, [(.slice none 0 0), (I 4)], [], 751, (.slice none 0 0), [], 924, []⟩
def e17 : Ent := ⟨16, [(.agg ⟨[(.slice (some ⟨0, 0, none⟩) 4 4), (.slice (some ⟨1, 0, none⟩) 1 1), (.slice (some ⟨2, 0, none⟩) 4 4), (.slice none 0 0), (.slice none 0 0), (.slice (some ⟨7, 0, none⟩) 1 1), (I 0), (I 0), (I 0)]⟩)], [q8, q9, q10, q11, q12, q13, q14, q15], 704, (.tuple ⟨[(I 0), (I 0), (I 0)]⟩), [], 929, []⟩
def e18 : Ent := ⟨18, [(.agg ⟨[(.slice (some ⟨0, 0, none⟩) 4 4), (.slice (some ⟨1, 0, none⟩) 1 1), (.slice (some ⟨2, 0, none⟩) 4 4), (.slice none 0 0), (.slice none 0 0), (.slice (some ⟨7, 0, none⟩) 1 1), (I 0), (I 0), (I 0)]⟩), (.agg ⟨[(I 1), (I 1), (I 0), F0, (I 0), (I 0), F0, F0, (I 0), F0, (.slice none 0 0)]⟩), (I 5)], [q8, q9, q10, q11, q12, q13, q14, q15], 8, (.tuple ⟨[(I 4), (.agg ⟨[(I 1), (I 1), (I 0), F0, (I 0), (I 0), F0, F0, (I 0), F0, (.slice none 0 0)]⟩)]⟩), [], 932, []⟩
end W50
end Go.Proofs
