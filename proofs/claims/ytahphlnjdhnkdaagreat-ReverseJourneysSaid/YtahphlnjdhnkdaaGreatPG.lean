/-
  A part of the proof: lemmas of my own.
-/
import Derived.Test.YtahphlnjdhnkdaaGreatPF
import Derived.Test.YtahphlnjdhnkdaaGreatProg
import Derived.KernelRfl
set_option linter.unusedVariables false
set_option linter.unusedSimpArgs false
namespace Go.Proofs
open Go Go.AV
set_option maxRecDepth 100000
def q0:BO:=(320, .ay ⟨[(S [65]),(I 0),F0,(I 0),(S [66]),(I 0),F0,(I 0)],8,4,84,true,false,0,true⟩)
def q1:BO:=(323, .ay ⟨[(S [82]),(I 0),F0],3,3,86,true,false,0,true⟩)
def q2:BO:=(326, .ay ⟨[(I 0),(I 0),(I 0),(S [114]),(I 0),F0,F0,(.slice (some ⟨334,0,none⟩) 2 2),(I 0),(I 0),(I 0),(S [115]),(I 0),F0,F0,(.slice (some ⟨337,0,none⟩) 2 2)],16,8,53,true,false,0,true⟩)
def q3:BO:=(328, .ay ⟨[],0,5,81,true,false,0,false⟩)
def q4:BO:=(330, .ay ⟨[],0,4,141,true,false,0,false⟩)
def q5:BO:=(334, .ay ⟨[(I 0),(I 100),(I 100),T1,F0,(I 1),(I 200),(I 210),F0,T1],10,5,59,true,false,0,true⟩)
def q6:BO:=(337, .ay ⟨[(I 0),(I 50),(I 50),T1,F0,(I 1),(I 90),(I 90),F0,T1],10,5,59,true,false,0,true⟩)
def q7:BO:=(342, .ay ⟨[(S [102,114,101,101]),(I 0),(I 1),(I 16),(I 0),(I 255)],6,6,88,true,true,0,true⟩)
def q8:BO:=(753, .ay ⟨[T1,(I 0),(I 0),(I 1),(I 0),(I 1),(I 100),(I 200),F0,F0,(I 0),(I 0),(I 0),(I 0),(I 0),(I 0),(I 0),F0],18,9,62,true,true,0,true⟩)
def q9:BO:=(919, .ay ⟨[(I 0),(I 0),(I 0),(I 0)],4,4,257,false,false,0,true⟩)
def q10:BO:=(962, .ay ⟨[(.slice (some ⟨753,0,none⟩) 1 2),(I 100),(I 200),(I 1),(I 0),(I 0),(.slice (some ⟨919,0,none⟩) 1 1)],7,7,67,false,false,0,true⟩)
def q11:BO:=(1255, .ay ⟨[T1,(I 1),(I 0),(I 1),(I 0),(I 1),(I 50),(I 90),F0,F0,(I 0),(I 0),(I 0),(I 0),(I 0),(I 0),(I 0),F0],18,9,62,true,true,0,true⟩)
def q12:BO:=(1421, .ay ⟨[(I 0),(I 0),(I 0),(I 0)],4,4,257,false,false,0,true⟩)
def q13:BO:=(1677, .ay ⟨[(.slice (some ⟨1255,0,none⟩) 1 2),(I 50),(I 90),(I 1),(I 0),(I 0),(.slice (some ⟨1421,0,none⟩) 1 1)],7,7,67,false,false,0,true⟩)
def q14:BO:=(179, .ay ⟨[(I 0),(I 100),(I 100),T1,F0,(I 1),(I 200),(I 210),F0,T1],10,5,59,true,true,0,true⟩)
def q15:BO:=(180, .ay ⟨[(I 0),(I 50),(I 50),T1,F0,(I 1),(I 90),(I 90),F0,T1],10,5,59,true,true,0,true⟩)
def q16:BO:=(181, .ay ⟨[(S [65]),(I 0),F0,(I 0),(S [66]),(I 0),F0,(I 0)],8,4,84,true,true,0,true⟩)
def q17:BO:=(182, .ay ⟨[(S [82]),(I 0),F0],3,3,86,true,true,0,true⟩)
def q18:BO:=(183, .ay ⟨[(I 0),(I 0),(I 0),(S [114]),(I 0),F0,F0,(.slice (some ⟨179,0,none⟩) 2 2),(I 0),(I 0),(I 0),(S [115]),(I 0),F0,F0,(.slice (some ⟨180,0,none⟩) 2 2)],16,8,53,true,true,0,true⟩)
def Ip:BO:=(184, .ay ⟨[(S [112]),(I 100),(I 1),(I 16),(I 0),(I 255)],6,6,88,true,true,0,true⟩)
def q20:BO:=(1698, .ay ⟨[(I 0),(I 100),(I 100),T1,F0,(I 1),(I 200),(I 210),F0,T1],10,5,59,true,true,0,true⟩)
def q21:BO:=(1699, .ay ⟨[(I 0),(I 50),(I 50),T1,F0,(I 1),(I 90),(I 90),F0,T1],10,5,59,true,true,0,true⟩)
def q22:BO:=(1700, .ay ⟨[(S [65]),(I 0),F0,(I 0),(S [66]),(I 0),F0,(I 0)],8,4,84,true,true,0,true⟩)
def q23:BO:=(1701, .ay ⟨[(S [82]),(I 0),F0],3,3,86,true,true,0,true⟩)
def q24:BO:=(1702, .ay ⟨[(I 0),(I 0),(I 0),(S [114]),(I 0),F0,F0,(.slice (some ⟨1698,0,none⟩) 2 2),(I 0),(I 0),(I 0),(S [115]),(I 0),F0,F0,(.slice (some ⟨1699,0,none⟩) 2 2)],16,8,53,true,true,0,true⟩)
def q25:BO:=(1703, .ay ⟨[(S [112]),(I 100),(I 1),(I 16),(I 0),(I 255)],6,6,88,true,true,0,true⟩)
def q26:BO:=(2114, .ay ⟨[T1,(I 0),(I 0),(I 1),(I 0),(I 1),(I 100),(I 200),F0,F0,(I 0),(I 0),(I 0),(I 0),(I 0),(I 0),(I 0),F0],18,9,62,true,true,0,true⟩)
def q27:BO:=(2280, .ay ⟨[(I 0),(I 0),(I 0),(I 100)],4,4,257,false,false,0,true⟩)
def q28:BO:=(2323, .ay ⟨[(.slice (some ⟨2114,0,none⟩) 1 2),(I 100),(I 200),(I 1),(I 100),(I 0),(.slice (some ⟨2280,0,none⟩) 1 1)],7,7,67,false,false,0,true⟩)
def q29:BO:=(2616, .ay ⟨[T1,(I 1),(I 0),(I 1),(I 0),(I 1),(I 50),(I 90),F0,F0,(I 0),(I 0),(I 0),(I 0),(I 0),(I 0),(I 0),F0],18,9,62,true,true,0,true⟩)
def q30:BO:=(2782, .ay ⟨[(I 0),(I 0),(I 0),(I 100)],4,4,257,false,false,0,true⟩)
def q31:BO:=(3038, .ay ⟨[(.slice (some ⟨2616,0,none⟩) 1 2),(I 50),(I 90),(I 1),(I 100),(I 0),(.slice (some ⟨2782,0,none⟩) 1 1)],7,7,67,false,false,0,true⟩)
def e0:oO:=⟨28,[(.agg ⟨[(.slice (some ⟨320,0,none⟩) 2 2),(.slice (some ⟨323,0,none⟩) 1 1),(.slice (some ⟨326,0,none⟩) 2 2),(.slice (some ⟨328,0,none⟩) 0 0),(.slice (some ⟨330,0,none⟩) 0 0),(.slice (some ⟨342,0,none⟩) 1 1),(I 0),(I 0),(I 0)]⟩),(.agg ⟨[(I 0),(I 1),(I 100),F0,(I 1),(I 0),F0,F0,(I 0),F0]⟩)],[q0,q1,q2,q3,q4,q5,q6,q7],491,(.tuple ⟨[(.slice (some ⟨962,0,none⟩) 1 1),(I 0)]⟩),[q8,q9,q10],963,[]⟩
def e1:oO:=⟨28,[(.agg ⟨[(.slice (some ⟨320,0,none⟩) 2 2),(.slice (some ⟨323,0,none⟩) 1 1),(.slice (some ⟨326,0,none⟩) 2 2),(.slice (some ⟨328,0,none⟩) 0 0),(.slice (some ⟨330,0,none⟩) 0 0),(.slice (some ⟨342,0,none⟩) 1 1),(I 0),(I 0),(I 0)]⟩),(.agg ⟨[(I 0),(I 1),(I 50),F0,(I 1),(I 0),F0,F0,(I 0),F0]⟩)],[q0,q1,q2,q3,q4,q5,q6,q7],974,(.tuple ⟨[(.slice (some ⟨1677,0,none⟩) 1 1),(I 0)]⟩),[q11,q12,q13],1678,[]⟩
def e2:oO:=⟨16,[(.agg ⟨[(.slice (some ⟨181,0,none⟩) 2 2),(.slice (some ⟨182,0,none⟩) 1 1),(.slice (some ⟨183,0,none⟩) 2 2),(.slice none 0 0),(.slice none 0 0),(.slice (some ⟨184,0,none⟩) 1 1),(I 0),(I 0),(I 0)]⟩),(.agg ⟨[(I 0),(I 1),(I 300),T1,(I 1),(I 0),F0,F0,(I 0),F0]⟩)],[q14,q15,q16,q17,q18,Ip],185,(.tuple ⟨[(.agg ⟨[(.slice (some ⟨753,0,none⟩) 1 2)]⟩),(I 0)]⟩),[q8],1696,[]⟩
def e3:oO:=⟨28,[(.agg ⟨[(.slice (some ⟨1700,0,none⟩) 2 2),(.slice (some ⟨1701,0,none⟩) 1 1),(.slice (some ⟨1702,0,none⟩) 2 2),(.slice none 0 0),(.slice none 0 0),(.slice (some ⟨1703,0,none⟩) 1 1),(I 0),(I 0),(I 0)]⟩),(.agg ⟨[(I 0),(I 1),(I 100),F0,(I 1),(I 0),F0,F0,(I 0),F0]⟩)],[q20,q21,q22,q23,q24,q25],1852,(.tuple ⟨[(.slice (some ⟨2323,0,none⟩) 1 1),(I 0)]⟩),[q26,q27,q28],2324,[]⟩
def e4:oO:=⟨28,[(.agg ⟨[(.slice (some ⟨1700,0,none⟩) 2 2),(.slice (some ⟨1701,0,none⟩) 1 1),(.slice (some ⟨1702,0,none⟩) 2 2),(.slice none 0 0),(.slice none 0 0),(.slice (some ⟨1703,0,none⟩) 1 1),(I 0),(I 0),(I 0)]⟩),(.agg ⟨[(I 0),(I 1),(I 50),F0,(I 1),(I 0),F0,F0,(I 0),F0]⟩)],[q20,q21,q22,q23,q24,q25],2335,(.tuple ⟨[(.slice (some ⟨3038,0,none⟩) 1 1),(I 0)]⟩),[q29,q30,q31],3039,[]⟩
def e5:oO:=⟨6,[],[],6, .bool true,[],3058,[]⟩
theorem sF:h9 Tryz.prog:=JL (by kernel_rfl)
theorem UC:o7 Tryz.prog e0:=si sF (es:=[]) (.nil) 30000 (by kernel_rfl)
theorem UB:o7 Tryz.prog e1:=si sF (es:=[]) (.nil) 30000 (by kernel_rfl)
theorem UA:o7 Tryz.prog e2:=si sF (es:=[e0,e1]) (.cons UC (.cons UB (.nil))) 30000 (by kernel_rfl)
theorem Uz:o7 Tryz.prog e3:=si sF (es:=[]) (.nil) 30000 (by kernel_rfl)
theorem Uy:o7 Tryz.prog e4:=si sF (es:=[]) (.nil) 30000 (by kernel_rfl)
theorem Ux:o7 Tryz.prog e5:=si sF (es:=[e2,e3,e4]) (.cons UA (.cons Uz (.cons Uy (.nil)))) 30000 (by kernel_rfl)
end Go.Proofs
