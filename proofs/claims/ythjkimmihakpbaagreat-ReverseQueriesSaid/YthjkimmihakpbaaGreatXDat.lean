/-
  A part of the proof: lemmas of my own.
-/
import Derived.Test.YthjkimmihakpbaaGreatAvO
set_option linter.unusedVariables false
set_option linter.unusedSimpArgs false
namespace Go.Proofs
open Go Go.AV
set_option maxRecDepth 100000
def q0 : BO := (7, .blk ⟨[(I 0), (I 100), (I 100), T1, F0, (I 1), (I 200), (I 210), F0, T1], 10, 5, 50, true, true, 0, true⟩)
def q1 : BO := (8, .blk ⟨[(I 0), (I 50), (I 50), T1, F0, (I 1), (I 90), (I 90), F0, T1], 10, 5, 50, true, true, 0, true⟩)
def q2 : BO := (9, .blk ⟨[(S [65]), (I 0), F0, (I 0), (S [66]), (I 0), F0, (I 0)], 8, 4, 69, true, true, 0, true⟩)
def q3 : BO := (10, .blk ⟨[(S [82]), (I 0), F0], 3, 3, 71, true, true, 0, true⟩)
def q4 : BO := (11, .blk ⟨[(I 0), (I 0), (I 0), (S [114]), (I 0), F0, F0, (.slice (some ⟨7, 0, none⟩) 2 2), (I 0), (I 0), (I 0), (S [115]), (I 0), F0, F0, (.slice (some ⟨8, 0, none⟩) 2 2)], 16, 8, 54, true, true, 0, true⟩)
def q5 : BO := (12, .blk ⟨[(S [112]), (I 100), (I 1), (I 16), (I 0), (I 255)], 6, 6, 73, true, true, 0, true⟩)
def q6 : BO := (179, .blk ⟨[(I 0), (I 100), (I 100), T1, F0, (I 1), (I 200), (I 210), F0, T1], 10, 5, 50, true, true, 0, true⟩)
def q7 : BO := (180, .blk ⟨[(I 0), (I 50), (I 50), T1, F0, (I 1), (I 90), (I 90), F0, T1], 10, 5, 50, true, true, 0, true⟩)
def q8 : BO := (181, .blk ⟨[(S [65]), (I 0), F0, (I 0), (S [66]), (I 0), F0, (I 0)], 8, 4, 69, true, true, 0, true⟩)
def q9 : BO := (182, .blk ⟨[(S [82]), (I 0), F0], 3, 3, 71, true, true, 0, true⟩)
def q10 : BO := (183, .blk ⟨[(I 0), (I 0), (I 0), (S [114]), (I 0), F0, F0, (.slice (some ⟨179, 0, none⟩) 2 2), (I 0), (I 0), (I 0), (S [115]), (I 0), F0, F0, (.slice (some ⟨180, 0, none⟩) 2 2)], 16, 8, 54, true, true, 0, true⟩)
def q11 : BO := (184, .blk ⟨[(S [112]), (I 100), (I 1), (I 16), (I 0), (I 255)], 6, 6, 73, true, true, 0, true⟩)
def q12 : BO := (320, .blk ⟨[(S [65]), (I 0), F0, (I 0), (S [66]), (I 0), F0, (I 0)], 8, 4, 69, true, false, 0, true⟩)
def q13 : BO := (323, .blk ⟨[(S [82]), (I 0), F0], 3, 3, 71, true, false, 0, true⟩)
def q14 : BO := (326, .blk ⟨[(I 0), (I 0), (I 0), (S [114]), (I 0), F0, F0, (.slice (some ⟨334, 0, none⟩) 2 2), (I 0), (I 0), (I 0), (S [115]), (I 0), F0, F0, (.slice (some ⟨337, 0, none⟩) 2 2)], 16, 8, 54, true, false, 0, true⟩)
def q15 : BO := (328, .blk ⟨[], 0, 5, 66, true, false, 0, false⟩)
def q16 : BO := (330, .blk ⟨[], 0, 4, 92, true, false, 0, false⟩)
def q17 : BO := (334, .blk ⟨[(I 0), (I 100), (I 100), T1, F0, (I 1), (I 200), (I 210), F0, T1], 10, 5, 50, true, false, 0, true⟩)
def q18 : BO := (337, .blk ⟨[(I 0), (I 50), (I 50), T1, F0, (I 1), (I 90), (I 90), F0, T1], 10, 5, 50, true, false, 0, true⟩)
def q19 : BO := (342, .blk ⟨[(S [102, 114, 101, 101]), (I 0), (I 1), (I 16), (I 0), (I 255)], 6, 6, 73, true, true, 0, true⟩)
def q20 : BO := (628, .blk ⟨[(S [65]), (I 0), F0, (I 0), (S [66]), (I 0), F0, (I 0)], 8, 4, 69, true, false, 0, true⟩)
def q21 : BO := (631, .blk ⟨[(S [82]), (I 0), F0], 3, 3, 71, true, false, 0, true⟩)
def q22 : BO := (634, .blk ⟨[(I 0), (I 0), (I 0), (S [114]), (I 0), F0, F0, (.slice (some ⟨673, 0, none⟩) 2 2), (I 0), (I 0), (I 0), (S [115]), (I 0), F0, F0, (.slice (some ⟨697, 0, none⟩) 2 2)], 16, 8, 54, true, false, 0, true⟩)
def q23 : BO := (636, .blk ⟨[], 0, 5, 66, true, false, 0, false⟩)
def q24 : BO := (638, .blk ⟨[], 0, 4, 92, true, false, 0, false⟩)
def q25 : BO := (648, .blk ⟨[(S [102, 114, 101, 101]), (I 0), (I 1), (I 16), (I 0), (I 255)], 6, 6, 73, true, false, 0, true⟩)
def q26 : BO := (673, .blk ⟨[(I 0), (I 100), (I 100), T1, F0, (I 1), (I 200), (I 210), F0, T1], 10, 5, 50, true, false, 0, true⟩)
def q27 : BO := (697, .blk ⟨[(I 0), (I 50), (I 50), T1, F0, (I 1), (I 90), (I 90), F0, T1], 10, 5, 50, true, false, 0, true⟩)
def q28 : BO := (753, .blk ⟨[T1, (I 0), (I 0), (I 1), (I 0), (I 1), (I 100), (I 200), F0, F0, (I 0), (I 0), (I 0), (I 0), (I 0), (I 0), (I 0), F0], 18, 9, 56, true, true, 0, true⟩)
def q29 : BO := (919, .blk ⟨[(I 0), (I 0), (I 0), (I 0)], 4, 4, 204, false, false, 0, true⟩)
def q30 : BO := (962, .blk ⟨[(.slice (some ⟨753, 0, none⟩) 1 2), (I 100), (I 200), (I 1), (I 0), (I 0), (.slice (some ⟨919, 0, none⟩) 1 1)], 7, 7, 61, false, false, 0, true⟩)
def q31 : BO := (1111, .blk ⟨[(S [65]), (I 0), F0, (I 0), (S [66]), (I 0), F0, (I 0)], 8, 4, 69, true, false, 0, true⟩)
def q32 : BO := (1114, .blk ⟨[(S [82]), (I 0), F0], 3, 3, 71, true, false, 0, true⟩)
def q33 : BO := (1117, .blk ⟨[(I 0), (I 0), (I 0), (S [114]), (I 0), F0, F0, (.slice (some ⟨1156, 0, none⟩) 2 2), (I 0), (I 0), (I 0), (S [115]), (I 0), F0, F0, (.slice (some ⟨1180, 0, none⟩) 2 2)], 16, 8, 54, true, false, 0, true⟩)
def q34 : BO := (1119, .blk ⟨[], 0, 5, 66, true, false, 0, false⟩)
def q35 : BO := (1121, .blk ⟨[], 0, 4, 92, true, false, 0, false⟩)
def q36 : BO := (1131, .blk ⟨[(S [102, 114, 101, 101]), (I 0), (I 1), (I 16), (I 0), (I 255)], 6, 6, 73, true, false, 0, true⟩)
def q37 : BO := (1156, .blk ⟨[(I 0), (I 100), (I 100), T1, F0, (I 1), (I 200), (I 210), F0, T1], 10, 5, 50, true, false, 0, true⟩)
def q38 : BO := (1180, .blk ⟨[(I 0), (I 50), (I 50), T1, F0, (I 1), (I 90), (I 90), F0, T1], 10, 5, 50, true, false, 0, true⟩)
def q39 : BO := (1255, .blk ⟨[T1, (I 1), (I 0), (I 1), (I 0), (I 1), (I 50), (I 90), F0, F0, (I 0), (I 0), (I 0), (I 0), (I 0), (I 0), (I 0), F0], 18, 9, 56, true, true, 0, true⟩)
def q40 : BO := (1421, .blk ⟨[(I 0), (I 0), (I 0), (I 0)], 4, 4, 204, false, false, 0, true⟩)
def q41 : BO := (1677, .blk ⟨[(.slice (some ⟨1255, 0, none⟩) 1 2), (I 50), (I 90), (I 1), (I 0), (I 0), (.slice (some ⟨1421, 0, none⟩) 1 1)], 7, 7, 61, false, false, 0, true⟩)
def q42 : BO := (1698, .blk ⟨[(I 0), (I 100), (I 100), T1, F0, (I 1), (I 200), (I 210), F0, T1], 10, 5, 50, true, true, 0, true⟩)
def q43 : BO := (1699, .blk ⟨[(I 0), (I 50), (I 50), T1, F0, (I 1), (I 90), (I 90), F0, T1], 10, 5, 50, true, true, 0, true⟩)
def q44 : BO := (1700, .blk ⟨[(S [65]), (I 0), F0, (I 0), (S [66]), (I 0), F0, (I 0)], 8, 4, 69, true, true, 0, true⟩)
def q45 : BO := (1701, .blk ⟨[(S [82]), (I 0), F0], 3, 3, 71, true, true, 0, true⟩)
def q46 : BO := (1702, .blk ⟨[(I 0), (I 0), (I 0), (S [114]), (I 0), F0, F0, (.slice (some ⟨1698, 0, none⟩) 2 2), (I 0), (I 0), (I 0), (S [115]), (I 0), F0, F0, (.slice (some ⟨1699, 0, none⟩) 2 2)], 16, 8, 54, true, true, 0, true⟩)
def q47 : BO := (1703, .blk ⟨[(S [112]), (I 100), (I 1), (I 16), (I 0), (I 255)], 6, 6, 73, true, true, 0, true⟩)
def q48 : BO := (1989, .blk ⟨[(S [65]), (I 0), F0, (I 0), (S [66]), (I 0), F0, (I 0)], 8, 4, 69, true, false, 0, true⟩)
def q49 : BO := (1992, .blk ⟨[(S [82]), (I 0), F0], 3, 3, 71, true, false, 0, true⟩)
def q50 : BO := (1995, .blk ⟨[(I 0), (I 0), (I 0), (S [114]), (I 0), F0, F0, (.slice (some ⟨2034, 0, none⟩) 2 2), (I 0), (I 0), (I 0), (S [115]), (I 0), F0, F0, (.slice (some ⟨2058, 0, none⟩) 2 2)], 16, 8, 54, true, false, 0, true⟩)
def q51 : BO := (1997, .blk ⟨[], 0, 5, 66, true, false, 0, false⟩)
def q52 : BO := (1999, .blk ⟨[], 0, 4, 92, true, false, 0, false⟩)
def q53 : BO := (2009, .blk ⟨[(S [112]), (I 100), (I 1), (I 16), (I 0), (I 255)], 6, 6, 73, true, false, 0, true⟩)
def q54 : BO := (2034, .blk ⟨[(I 0), (I 100), (I 100), T1, F0, (I 1), (I 200), (I 210), F0, T1], 10, 5, 50, true, false, 0, true⟩)
def q55 : BO := (2058, .blk ⟨[(I 0), (I 50), (I 50), T1, F0, (I 1), (I 90), (I 90), F0, T1], 10, 5, 50, true, false, 0, true⟩)
def q56 : BO := (2114, .blk ⟨[T1, (I 0), (I 0), (I 1), (I 0), (I 1), (I 100), (I 200), F0, F0, (I 0), (I 0), (I 0), (I 0), (I 0), (I 0), (I 0), F0], 18, 9, 56, true, true, 0, true⟩)
def q57 : BO := (2280, .blk ⟨[(I 0), (I 0), (I 0), (I 100)], 4, 4, 204, false, false, 0, true⟩)
def q58 : BO := (2323, .blk ⟨[(.slice (some ⟨2114, 0, none⟩) 1 2), (I 100), (I 200), (I 1), (I 100), (I 0), (.slice (some ⟨2280, 0, none⟩) 1 1)], 7, 7, 61, false, false, 0, true⟩)
def q59 : BO := (2472, .blk ⟨[(S [65]), (I 0), F0, (I 0), (S [66]), (I 0), F0, (I 0)], 8, 4, 69, true, false, 0, true⟩)
def q60 : BO := (2475, .blk ⟨[(S [82]), (I 0), F0], 3, 3, 71, true, false, 0, true⟩)
def q61 : BO := (2478, .blk ⟨[(I 0), (I 0), (I 0), (S [114]), (I 0), F0, F0, (.slice (some ⟨2517, 0, none⟩) 2 2), (I 0), (I 0), (I 0), (S [115]), (I 0), F0, F0, (.slice (some ⟨2541, 0, none⟩) 2 2)], 16, 8, 54, true, false, 0, true⟩)
def q62 : BO := (2480, .blk ⟨[], 0, 5, 66, true, false, 0, false⟩)
def q63 : BO := (2482, .blk ⟨[], 0, 4, 92, true, false, 0, false⟩)
def q64 : BO := (2492, .blk ⟨[(S [112]), (I 100), (I 1), (I 16), (I 0), (I 255)], 6, 6, 73, true, false, 0, true⟩)
def q65 : BO := (2517, .blk ⟨[(I 0), (I 100), (I 100), T1, F0, (I 1), (I 200), (I 210), F0, T1], 10, 5, 50, true, false, 0, true⟩)
def q66 : BO := (2541, .blk ⟨[(I 0), (I 50), (I 50), T1, F0, (I 1), (I 90), (I 90), F0, T1], 10, 5, 50, true, false, 0, true⟩)
def q67 : BO := (2616, .blk ⟨[T1, (I 1), (I 0), (I 1), (I 0), (I 1), (I 50), (I 90), F0, F0, (I 0), (I 0), (I 0), (I 0), (I 0), (I 0), (I 0), F0], 18, 9, 56, true, true, 0, true⟩)
def q68 : BO := (2782, .blk ⟨[(I 0), (I 0), (I 0), (I 100)], 4, 4, 204, false, false, 0, true⟩)
def q69 : BO := (3038, .blk ⟨[(.slice (some ⟨2616, 0, none⟩) 1 2), (I 50), (I 90), (I 1), (I 100), (I 0), (.slice (some ⟨2782, 0, none⟩) 1 1)], 7, 7, 61, false, false, 0, true⟩)
def e0 : Ent := ⟨25, [(.agg ⟨[(.slice (some ⟨9, 0, none⟩) 2 2), (.slice (some ⟨10, 0, none⟩) 1 1), (.slice (some ⟨11, 0, none⟩) 2 2), (.slice none 0 0), (.slice none 0 0), (.slice (some ⟨12, 0, none⟩) 1 1), (I 0), (I 0), (I 0)]⟩)], [q0, q1, q2, q3, q4, q5], 16, (.tuple ⟨[(I 0), (I 0), (I 0)]⟩), [], 142, []⟩
def e1 : Ent := ⟨25, [(.agg ⟨[(.slice (some ⟨181, 0, none⟩) 2 2), (.slice (some ⟨182, 0, none⟩) 1 1), (.slice (some ⟨183, 0, none⟩) 2 2), (.slice none 0 0), (.slice none 0 0), (.slice (some ⟨184, 0, none⟩) 1 1), (I 0), (I 0), (I 0)]⟩)], [q6, q7, q8, q9, q10, q11], 190, (.tuple ⟨[(I 0), (I 0), (I 0)]⟩), [], 316, []⟩
def e2 : Ent := ⟨25, [(.agg ⟨[(.slice (some ⟨320, 0, none⟩) 2 2), (.slice (some ⟨323, 0, none⟩) 1 1), (.slice (some ⟨326, 0, none⟩) 2 2), (.slice (some ⟨328, 0, none⟩) 0 0), (.slice (some ⟨330, 0, none⟩) 0 0), (.slice (some ⟨342, 0, none⟩) 1 1), (I 0), (I 0), (I 0)]⟩)], [q12, q13, q14, q15, q16, q17, q18, q19], 347, (.tuple ⟨[(I 0), (I 0), (I 0)]⟩), [], 473, []⟩
def e3 : Ent := ⟨25, [(.agg ⟨[(.slice (some ⟨320, 0, none⟩) 2 2), (.slice (some ⟨323, 0, none⟩) 1 1), (.slice (some ⟨326, 0, none⟩) 2 2), (.slice (some ⟨328, 0, none⟩) 0 0), (.slice (some ⟨330, 0, none⟩) 0 0), (.slice (some ⟨342, 0, none⟩) 1 1), (I 0), (I 0), (I 0)]⟩)], [q12, q13, q14, q15, q16, q17, q18, q19], 498, (.tuple ⟨[(I 0), (I 0), (I 0)]⟩), [], 624, []⟩
def e4 : Ent := ⟨25, [(.agg ⟨[(.slice (some ⟨628, 0, none⟩) 2 2), (.slice (some ⟨631, 0, none⟩) 1 1), (.slice (some ⟨634, 0, none⟩) 2 2), (.slice (some ⟨636, 0, none⟩) 0 0), (.slice (some ⟨638, 0, none⟩) 0 0), (.slice (some ⟨648, 0, none⟩) 1 1), (I 0), (I 0), (I 0)]⟩)], [q20, q21, q22, q23, q24, q25, q26, q27], 762, (.tuple ⟨[(I 0), (I 0), (I 0)]⟩), [], 888, []⟩
def e5 : Ent := ⟨19, [(.agg ⟨[(.slice (some ⟨320, 0, none⟩) 2 2), (.slice (some ⟨323, 0, none⟩) 1 1), (.slice (some ⟨326, 0, none⟩) 2 2), (.slice (some ⟨328, 0, none⟩) 0 0), (.slice (some ⟨330, 0, none⟩) 0 0), (.slice (some ⟨342, 0, none⟩) 1 1), (I 0), (I 0), (I 0)]⟩), (.agg ⟨[(I 0), (I 1), (I 100), F0, (I 1), (I 0), F0, F0, (I 0), F0]⟩)], [q12, q13, q14, q15, q16, q17, q18, q19], 491, (.tuple ⟨[(.slice (some ⟨962, 0, none⟩) 1 1), (I 0)]⟩), [q28, q29, q30], 963, []⟩
def e6 : Ent := ⟨25, [(.agg ⟨[(.slice (some ⟨320, 0, none⟩) 2 2), (.slice (some ⟨323, 0, none⟩) 1 1), (.slice (some ⟨326, 0, none⟩) 2 2), (.slice (some ⟨328, 0, none⟩) 0 0), (.slice (some ⟨330, 0, none⟩) 0 0), (.slice (some ⟨342, 0, none⟩) 1 1), (I 0), (I 0), (I 0)]⟩)], [q12, q13, q14, q15, q16, q17, q18, q19], 981, (.tuple ⟨[(I 0), (I 0), (I 0)]⟩), [], 1107, []⟩
def e7 : Ent := ⟨25, [(.agg ⟨[(.slice (some ⟨1111, 0, none⟩) 2 2), (.slice (some ⟨1114, 0, none⟩) 1 1), (.slice (some ⟨1117, 0, none⟩) 2 2), (.slice (some ⟨1119, 0, none⟩) 0 0), (.slice (some ⟨1121, 0, none⟩) 0 0), (.slice (some ⟨1131, 0, none⟩) 1 1), (I 0), (I 0), (I 0)]⟩)], [q31, q32, q33, q34, q35, q36, q37, q38], 1264, (.tuple ⟨[(I 0), (I 0), (I 0)]⟩), [], 1390, []⟩
def e8 : Ent := ⟨25, [(.agg ⟨[(.slice (some ⟨1111, 0, none⟩) 2 2), (.slice (some ⟨1114, 0, none⟩) 1 1), (.slice (some ⟨1117, 0, none⟩) 2 2), (.slice (some ⟨1119, 0, none⟩) 0 0), (.slice (some ⟨1121, 0, none⟩) 0 0), (.slice (some ⟨1131, 0, none⟩) 1 1), (I 0), (I 0), (I 0)]⟩)], [q31, q32, q33, q34, q35, q36, q37, q38], 1466, (.tuple ⟨[(I 0), (I 0), (I 0)]⟩), [], 1592, []⟩
def e9 : Ent := ⟨19, [(.agg ⟨[(.slice (some ⟨320, 0, none⟩) 2 2), (.slice (some ⟨323, 0, none⟩) 1 1), (.slice (some ⟨326, 0, none⟩) 2 2), (.slice (some ⟨328, 0, none⟩) 0 0), (.slice (some ⟨330, 0, none⟩) 0 0), (.slice (some ⟨342, 0, none⟩) 1 1), (I 0), (I 0), (I 0)]⟩), (.agg ⟨[(I 0), (I 1), (I 50), F0, (I 1), (I 0), F0, F0, (I 0), F0]⟩)], [q12, q13, q14, q15, q16, q17, q18, q19], 974, (.tuple ⟨[(.slice (some ⟨1677, 0, none⟩) 1 1), (I 0)]⟩), [q39, q40, q41], 1678, []⟩
def e10 : Ent := ⟨25, [(.agg ⟨[(.slice (some ⟨1700, 0, none⟩) 2 2), (.slice (some ⟨1701, 0, none⟩) 1 1), (.slice (some ⟨1702, 0, none⟩) 2 2), (.slice none 0 0), (.slice none 0 0), (.slice (some ⟨1703, 0, none⟩) 1 1), (I 0), (I 0), (I 0)]⟩)], [q42, q43, q44, q45, q46, q47], 1708, (.tuple ⟨[(I 0), (I 0), (I 0)]⟩), [], 1834, []⟩
def e11 : Ent := ⟨25, [(.agg ⟨[(.slice (some ⟨1700, 0, none⟩) 2 2), (.slice (some ⟨1701, 0, none⟩) 1 1), (.slice (some ⟨1702, 0, none⟩) 2 2), (.slice none 0 0), (.slice none 0 0), (.slice (some ⟨1703, 0, none⟩) 1 1), (I 0), (I 0), (I 0)]⟩)], [q42, q43, q44, q45, q46, q47], 1859, (.tuple ⟨[(I 0), (I 0), (I 0)]⟩), [], 1985, []⟩
def e12 : Ent := ⟨25, [(.agg ⟨[(.slice (some ⟨1989, 0, none⟩) 2 2), (.slice (some ⟨1992, 0, none⟩) 1 1), (.slice (some ⟨1995, 0, none⟩) 2 2), (.slice (some ⟨1997, 0, none⟩) 0 0), (.slice (some ⟨1999, 0, none⟩) 0 0), (.slice (some ⟨2009, 0, none⟩) 1 1), (I 0), (I 0), (I 0)]⟩)], [q48, q49, q50, q51, q52, q53, q54, q55], 2123, (.tuple ⟨[(I 0), (I 0), (I 0)]⟩), [], 2249, []⟩
def e13 : Ent := ⟨19, [(.agg ⟨[(.slice (some ⟨1700, 0, none⟩) 2 2), (.slice (some ⟨1701, 0, none⟩) 1 1), (.slice (some ⟨1702, 0, none⟩) 2 2), (.slice none 0 0), (.slice none 0 0), (.slice (some ⟨1703, 0, none⟩) 1 1), (I 0), (I 0), (I 0)]⟩), (.agg ⟨[(I 0), (I 1), (I 100), F0, (I 1), (I 0), F0, F0, (I 0), F0]⟩)], [q42, q43, q44, q45, q46, q47], 1852, (.tuple ⟨[(.slice (some ⟨2323, 0, none⟩) 1 1), (I 0)]⟩), [q56, q57, q58], 2324, []⟩
def e14 : Ent := ⟨25, [(.agg ⟨[(.slice (some ⟨1700, 0, none⟩) 2 2), (.slice (some ⟨1701, 0, none⟩) 1 1), (.slice (some ⟨1702, 0, none⟩) 2 2), (.slice none 0 0), (.slice none 0 0), (.slice (some ⟨1703, 0, none⟩) 1 1), (I 0), (I 0), (I 0)]⟩)], [q42, q43, q44, q45, q46, q47], 2342, (.tuple ⟨[(I 0), (I 0), (I 0)]⟩), [], 2468, []⟩
def e15 : Ent := ⟨25, [(.agg ⟨[(.slice (some ⟨2472, 0, none⟩) 2 2), (.slice (some ⟨2475, 0, none⟩) 1 1), (.slice (some ⟨2478, 0, none⟩) 2 2), (.slice (some ⟨2480, 0, none⟩) 0 0), (.slice (some ⟨2482, 0, none⟩) 0 0), (.slice (some ⟨2492, 0, none⟩) 1 1), (I 0), (I 0), (I 0)]⟩)], [q59, q60, q61, q62, q63, q64, q65, q66], 2625, (.tuple ⟨[(I 0), (I 0), (I 0)]⟩), [], 2751, []⟩
def e16 : Ent := ⟨25, [(.agg ⟨[(.slice (some ⟨2472, 0, none⟩) 2 2), (.slice (some ⟨2475, 0, none⟩) 1 1), (.slice (some ⟨2478, 0, none⟩) 2 2), (.slice (some ⟨2480, 0, none⟩) 0 0), (.slice (some ⟨2482, 0, none⟩) 0 0), (.slice (some ⟨2492, 0, none⟩) 1 1), (I 0), (I 0), (I 0)]⟩)], [q59, q60, q61, q62, q63, q64, q65, q66], 2827, (.tuple ⟨[(I 0), (I 0), (I 0)]⟩), [], 2953, []⟩
def e17 : Ent := ⟨19, [(.agg ⟨[(.slice (some ⟨1700, 0, none⟩) 2 2), (.slice (some ⟨1701, 0, none⟩) 1 1), (.slice (some ⟨1702, 0, none⟩) 2 2), (.slice none 0 0), (.slice none 0 0), (.slice (some ⟨1703, 0, none⟩) 1 1), (I 0), (I 0), (I 0)]⟩), (.agg ⟨[(I 0), (I 1), (I 50), F0, (I 1), (I 0), F0, F0, (I 0), F0]⟩)], [q42, q43, q44, q45, q46, q47], 2335, (.tuple ⟨[(.slice (some ⟨3038, 0, none⟩) 1 1), (I 0)]⟩), [q67, q68, q69], 3039, []⟩
def e18 : Ent := ⟨6, [], [], 6, .bool true, [], 3058, []⟩
end Go.Proofs
