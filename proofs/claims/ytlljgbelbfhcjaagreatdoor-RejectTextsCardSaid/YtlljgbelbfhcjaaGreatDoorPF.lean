/-
  A part of the proof: lemmas of my own.
-/
import Derived.Test.YtlljgbelbfhcjaaGreatDoorPE
import Derived.Test.YtlljgbelbfhcjaaGreatDoorProg
import Derived.KernelRfl
import Derived.Test.YtlljgbelbfhcjaaGreatDoorRows
import Derived.Lib.LaidTab
set_option linter.unusedVariables false
set_option linter.unusedSimpArgs false
namespace Go.Proofs
open Go Go.AV
set_option maxRecDepth 100000
def q0:BO:=(8, .ak ⟨[(I 0),(I 100),(I 100),T1,F0,(I 1),(I 200),(I 200),F0,T1],10,5,76,true,true,0,true⟩)
def q1:BO:=(9, .ak ⟨[(I 0),(I 150),(I 150),T1,F0,(I 1),(I 250),(I 250),F0,T1],10,5,76,true,true,0,true⟩)
def q2:BO:=(10, .ak ⟨[(S [65]),(I 0),F0,(I 0),(S [66]),(I 0),F0,(I 0)],8,4,78,true,true,0,true⟩)
def q3:BO:=(11, .ak ⟨[(S [82]),(I 0),F0],3,3,80,true,true,0,true⟩)
def q4:BO:=(12, .ak ⟨[(I 0),(I 0),(I 0),(S [114]),(I 0),F0,F0,(.slice (some ⟨8,0,none⟩) 2 2),(I 0),(I 0),(I 0),(S [115]),(I 0),F0,F0,(.slice (some ⟨9,0,none⟩) 2 2)],16,8,38,true,true,0,true⟩)
def q5:BO:=(13, .ak ⟨[(I 0),(I 1),(I 400),T1],4,4,82,true,true,0,true⟩)
def q6:BO:=(14, .ak ⟨[(S [112]),(I 150),(I 1),(I 16),(I 0),(I 255)],6,6,84,true,true,0,true⟩)
def q7:BO:=(971, .ak ⟨[(S [65]),(I 0),F0,(I 0),(S [66]),(I 0),F0,(I 0)],8,4,78,true,false,0,true⟩)
def q8:BO:=(974, .ak ⟨[(S [82]),(I 0),F0],3,3,80,true,false,0,true⟩)
def q9:BO:=(977, .ak ⟨[(I 0),(I 0),(I 0),(S [114]),(I 0),F0,F0,(.slice (some ⟨1016,0,none⟩) 2 2),(I 0),(I 0),(I 0),(S [115]),(I 0),F0,F0,(.slice (some ⟨1040,0,none⟩) 2 2)],16,8,38,true,false,0,true⟩)
def V1:BO:=(981, .ak ⟨[(I 0),(I 1),(I 400),T1],4,4,82,true,false,0,true⟩)
def V0:BO:=(991, .ak ⟨[(S [112]),(I 150),(I 1),(I 16),(I 0),(I 255)],6,6,84,true,false,0,true⟩)
def VZ:BO:=(1016, .ak ⟨[(I 0),(I 100),(I 100),T1,F0,(I 1),(I 200),(I 200),F0,T1],10,5,76,true,false,0,true⟩)
def VY:BO:=(1040, .ak ⟨[(I 0),(I 150),(I 150),T1,F0,(I 1),(I 250),(I 250),F0,T1],10,5,76,true,false,0,true⟩)
def q14:BO:=(1138, .ak ⟨[T1,(I 0),(I 0),(I 1),(I 0),(I 1),(I 100),(I 200),F0,F0,(I 0),(I 0),(I 0),(I 0),(I 0),(I 0),(I 0),F0],18,9,51,true,true,0,true⟩)
def q15:BO:=(1342, .ak ⟨[(I 0),(I 0),(I 0),(I 150)],4,4,172,false,false,0,true⟩)
def q16:BO:=(1618, .ak ⟨[F0,(I 0),(I 0),(I 0),(I 0),(I 1),(I 0),(I 400),F0,F0,(I 0),(I 0),(I 0),(I 0),(I 0),(I 0),(I 0),F0],18,9,51,true,true,0,true⟩)
def q17:BO:=(1874, .ak ⟨[(.slice (some ⟨1138,0,none⟩) 1 2),(I 100),(I 200),(I 1),(I 150),(I 0),(.slice (some ⟨1342,0,none⟩) 1 1),(.slice (some ⟨1618,0,none⟩) 1 2),(I 0),(I 400),(I 0),(I 0),(I 400),(.slice none 0 0)],14,7,108,false,false,0,true⟩)
def q18:BO:=(15, .ak ⟨[T1,(I 0),(I 0),(I 1),(I 0),(I 1),(I 100),(I 200),F0],9,9,51,true,true,0,true⟩)
def Oc:BO:=(2098, .ak ⟨[(I 0),(I 100),(I 100),T1,F0,(I 1),(I 200),(I 200),F0,T1],10,5,76,true,true,0,true⟩)
def Ob:BO:=(2099, .ak ⟨[(I 0),(I 150),(I 150),T1,F0,(I 1),(I 250),(I 250),F0,T1],10,5,76,true,true,0,true⟩)
def Oa:BO:=(2100, .ak ⟨[(S [65]),(I 0),F0,(I 0),(S [66]),(I 0),F0,(I 0)],8,4,78,true,true,0,true⟩)
def N9:BO:=(2101, .ak ⟨[(S [82]),(I 0),F0],3,3,80,true,true,0,true⟩)
def N8:BO:=(2102, .ak ⟨[(I 0),(I 0),(I 0),(S [114]),(I 0),F0,F0,(.slice (some ⟨2098,0,none⟩) 2 2),(I 0),(I 0),(I 0),(S [115]),(I 0),F0,F0,(.slice (some ⟨2099,0,none⟩) 2 2)],16,8,38,true,true,0,true⟩)
def N7:BO:=(2103, .ak ⟨[(I 0),(I 1),(I 400),T1],4,4,82,true,true,0,true⟩)
def N6:BO:=(2104, .ak ⟨[(S [112]),(I 150),(I 1),(I 16),(I 0),(I 255)],6,6,84,true,true,0,true⟩)
def VX:BO:=(3018, .ak ⟨[(S [65]),(I 0),F0,(I 0),(S [66]),(I 0),F0,(I 0)],8,4,78,true,false,0,true⟩)
def VW:BO:=(3021, .ak ⟨[(S [82]),(I 0),F0],3,3,80,true,false,0,true⟩)
def VV:BO:=(3024, .ak ⟨[(I 0),(I 0),(I 0),(S [114]),(I 0),F0,F0,(.slice (some ⟨3063,0,none⟩) 2 2),(I 0),(I 0),(I 0),(S [115]),(I 0),F0,F0,(.slice (some ⟨3087,0,none⟩) 2 2)],16,8,38,true,false,0,true⟩)
def VU:BO:=(3028, .ak ⟨[(I 0),(I 1),(I 400),T1],4,4,82,true,false,0,true⟩)
def VT:BO:=(3038, .ak ⟨[(S [112]),(I 150),(I 1),(I 16),(I 0),(I 255)],6,6,84,true,false,0,true⟩)
def VS:BO:=(3063, .ak ⟨[(I 0),(I 100),(I 100),T1,F0,(I 1),(I 200),(I 200),F0,T1],10,5,76,true,false,0,true⟩)
def VQ:BO:=(3087, .ak ⟨[(I 0),(I 150),(I 150),T1,F0,(I 1),(I 250),(I 250),F0,T1],10,5,76,true,false,0,true⟩)
def q33:BO:=(3185, .ak ⟨[T1,(I 0),(I 0),(I 1),(I 0),(I 1),(I 100),(I 200),F0,F0,(I 0),(I 0),(I 0),(I 0),(I 0),(I 0),(I 0),F0],18,9,51,true,true,0,true⟩)
def q34:BO:=(3389, .ak ⟨[(I 0),(I 0),(I 0),(I 150)],4,4,172,false,false,0,true⟩)
def q35:BO:=(3665, .ak ⟨[F0,(I 0),(I 0),(I 0),(I 0),(I 1),(I 0),(I 400),F0,F0,(I 0),(I 0),(I 0),(I 0),(I 0),(I 0),(I 0),F0],18,9,51,true,true,0,true⟩)
def q36:BO:=(3921, .ak ⟨[(.slice (some ⟨3185,0,none⟩) 1 2),(I 100),(I 200),(I 1),(I 150),(I 0),(.slice (some ⟨3389,0,none⟩) 1 1),(.slice (some ⟨3665,0,none⟩) 1 2),(I 0),(I 400),(I 0),(I 0),(I 400),(.slice none 0 0)],14,7,108,false,false,0,true⟩)
def MD:BO:=(4130, .ak ⟨[(I 0),(I 100),(I 100),T1,F0,(I 1),(I 200),(I 200),F0,T1],10,5,76,true,true,0,true⟩)
def MC:BO:=(4131, .ak ⟨[(I 0),(I 150),(I 150),T1,F0,(I 1),(I 250),(I 250),F0,T1],10,5,76,true,true,0,true⟩)
def MB:BO:=(4132, .ak ⟨[(S [65]),(I 0),F0,(I 0),(S [66]),(I 0),F0,(I 0)],8,4,78,true,true,0,true⟩)
def MA:BO:=(4133, .ak ⟨[(S [82]),(I 0),F0],3,3,80,true,true,0,true⟩)
def Mz:BO:=(4134, .ak ⟨[(I 0),(I 0),(I 0),(S [114]),(I 0),F0,F0,(.slice (some ⟨4130,0,none⟩) 2 2),(I 0),(I 0),(I 0),(S [115]),(I 0),F0,F0,(.slice (some ⟨4131,0,none⟩) 2 2)],16,8,38,true,true,0,true⟩)
def My:BO:=(4135, .ak ⟨[(I 0),(I 1),(I 400),T1],4,4,82,true,true,0,true⟩)
def Mx:BO:=(4136, .ak ⟨[(S [112]),(I 150),(I 1),(I 16),(I 0),(I 255)],6,6,84,true,true,0,true⟩)
def VP:BO:=(5093, .ak ⟨[(S [65]),(I 0),F0,(I 0),(S [66]),(I 0),F0,(I 0)],8,4,78,true,false,0,true⟩)
def VO:BO:=(5096, .ak ⟨[(S [82]),(I 0),F0],3,3,80,true,false,0,true⟩)
def VN:BO:=(5099, .ak ⟨[(I 0),(I 0),(I 0),(S [114]),(I 0),F0,F0,(.slice (some ⟨5138,0,none⟩) 2 2),(I 0),(I 0),(I 0),(S [115]),(I 0),F0,F0,(.slice (some ⟨5162,0,none⟩) 2 2)],16,8,38,true,false,0,true⟩)
def VM:BO:=(5103, .ak ⟨[(I 0),(I 1),(I 400),T1],4,4,82,true,false,0,true⟩)
def VL:BO:=(5113, .ak ⟨[(S [112]),(I 150),(I 1),(I 16),(I 0),(I 255)],6,6,84,true,false,0,true⟩)
def VK:BO:=(5138, .ak ⟨[(I 0),(I 100),(I 100),T1,F0,(I 1),(I 200),(I 200),F0,T1],10,5,76,true,false,0,true⟩)
def VI:BO:=(5162, .ak ⟨[(I 0),(I 150),(I 150),T1,F0,(I 1),(I 250),(I 250),F0,T1],10,5,76,true,false,0,true⟩)
def q51:BO:=(5260, .ak ⟨[T1,(I 0),(I 0),(I 1),(I 0),(I 1),(I 100),(I 200),F0,F0,(I 0),(I 0),(I 0),(I 0),(I 0),(I 0),(I 0),F0],18,9,51,true,true,0,true⟩)
def q52:BO:=(5464, .ak ⟨[(I 0),(I 0),(I 0),(I 150)],4,4,172,false,false,0,true⟩)
def q53:BO:=(5740, .ak ⟨[F0,(I 0),(I 0),(I 0),(I 0),(I 1),(I 0),(I 400),F0,F0,(I 0),(I 0),(I 0),(I 0),(I 0),(I 0),(I 0),F0],18,9,51,true,true,0,true⟩)
def q54:BO:=(5996, .ak ⟨[(.slice (some ⟨5260,0,none⟩) 1 2),(I 100),(I 200),(I 1),(I 150),(I 0),(.slice (some ⟨5464,0,none⟩) 1 1),(.slice (some ⟨5740,0,none⟩) 1 2),(I 0),(I 400),(I 0),(I 0),(I 400),(.slice none 0 0)],14,7,108,false,false,0,true⟩)
def q55:BO:=(4137, .ak ⟨[T1,(I 1),(I 0),(I 1),(I 0),(I 1),(I 150),(I 250),F0],9,9,51,true,true,0,true⟩)
def q56:BO:=(6247, .ak ⟨[(I 0),(I 100),(I 100),T1,F0,(I 1),(I 200),(I 200),F0,T1],10,5,76,true,true,0,true⟩)
def q57:BO:=(6248, .ak ⟨[(I 0),(I 150),(I 150),T1,F0,(I 1),(I 250),(I 250),F0,T1],10,5,76,true,true,0,true⟩)
def q58:BO:=(6249, .ak ⟨[(S [65]),(I 0),F0,(I 0),(S [66]),(I 0),F0,(I 0)],8,4,78,true,true,0,true⟩)
def q59:BO:=(6250, .ak ⟨[(S [82]),(I 0),F0],3,3,80,true,true,0,true⟩)
def q60:BO:=(6251, .ak ⟨[(I 0),(I 0),(I 0),(S [114]),(I 0),F0,F0,(.slice (some ⟨6247,0,none⟩) 2 2),(I 0),(I 0),(I 0),(S [115]),(I 0),F0,F0,(.slice (some ⟨6248,0,none⟩) 2 2)],16,8,38,true,true,0,true⟩)
def q61:BO:=(6252, .ak ⟨[(I 0),(I 1),(I 400),T1],4,4,82,true,true,0,true⟩)
def q62:BO:=(6253, .ak ⟨[(S [112]),(I 150),(I 1),(I 16),(I 0),(I 255)],6,6,84,true,true,0,true⟩)
def e0:gh:=⟨10,[(.agg ⟨[(.slice (some ⟨10,0,none⟩) 2 2),(.slice (some ⟨11,0,none⟩) 1 1),(.slice (some ⟨12,0,none⟩) 2 2),(.slice none 0 0),(.slice (some ⟨13,0,none⟩) 1 1),(.slice (some ⟨14,0,none⟩) 1 1),(I 0),(I 0),(I 0)]⟩)],[q0,q1,q2,q3,q4,q5,q6],22,(.tuple ⟨[(I 0),(I 0),(I 0)]⟩),[],186,[]⟩
def e1:gh:=⟨10,[(.agg ⟨[(.slice (some ⟨10,0,none⟩) 2 2),(.slice (some ⟨11,0,none⟩) 1 1),(.slice (some ⟨12,0,none⟩) 2 2),(.slice none 0 0),(.slice (some ⟨13,0,none⟩) 1 1),(.slice (some ⟨14,0,none⟩) 1 1),(I 0),(I 0),(I 0)]⟩)],[q0,q1,q2,q3,q4,q5,q6],191,(.tuple ⟨[(I 0),(I 0),(I 0)]⟩),[],355,[]⟩
def e2:gh:=⟨10,[(.agg ⟨[(.slice (some ⟨10,0,none⟩) 2 2),(.slice (some ⟨11,0,none⟩) 1 1),(.slice (some ⟨12,0,none⟩) 2 2),(.slice none 0 0),(.slice (some ⟨13,0,none⟩) 1 1),(.slice (some ⟨14,0,none⟩) 1 1),(I 0),(I 0),(I 0)]⟩)],[q0,q1,q2,q3,q4,q5,q6],427,(.tuple ⟨[(I 0),(I 0),(I 0)]⟩),[],591,[]⟩
def e3:gh:=⟨10,[(.agg ⟨[(.slice (some ⟨10,0,none⟩) 2 2),(.slice (some ⟨11,0,none⟩) 1 1),(.slice (some ⟨12,0,none⟩) 2 2),(.slice none 0 0),(.slice (some ⟨13,0,none⟩) 1 1),(.slice (some ⟨14,0,none⟩) 1 1),(I 0),(I 0),(I 0)]⟩)],[q0,q1,q2,q3,q4,q5,q6],632,(.tuple ⟨[(I 0),(I 0),(I 0)]⟩),[],796,[]⟩
def e4:gh:=⟨10,[(.agg ⟨[(.slice (some ⟨10,0,none⟩) 2 2),(.slice (some ⟨11,0,none⟩) 1 1),(.slice (some ⟨12,0,none⟩) 2 2),(.slice none 0 0),(.slice (some ⟨13,0,none⟩) 1 1),(.slice (some ⟨14,0,none⟩) 1 1),(I 0),(I 0),(I 0)]⟩)],[q0,q1,q2,q3,q4,q5,q6],803,(.tuple ⟨[(I 0),(I 0),(I 0)]⟩),[],967,[]⟩
def e5:gh:=⟨10,[(.agg ⟨[(.slice (some ⟨971,0,none⟩) 2 2),(.slice (some ⟨974,0,none⟩) 1 1),(.slice (some ⟨977,0,none⟩) 2 2),(.slice (some ⟨0,0,some 0⟩) 0 0),(.slice (some ⟨981,0,none⟩) 1 1),(.slice (some ⟨991,0,none⟩) 1 1),(I 0),(I 0),(I 0)]⟩)],[q7,q8,q9,V1,V0,VZ,VY],1147,(.tuple ⟨[(I 0),(I 0),(I 0)]⟩),[],1311,[]⟩
def e6:gh:=⟨10,[(.agg ⟨[(.slice (some ⟨971,0,none⟩) 2 2),(.slice (some ⟨974,0,none⟩) 1 1),(.slice (some ⟨977,0,none⟩) 2 2),(.slice (some ⟨0,0,some 0⟩) 0 0),(.slice (some ⟨981,0,none⟩) 1 1),(.slice (some ⟨991,0,none⟩) 1 1),(I 0),(I 0),(I 0)]⟩)],[q7,q8,q9,V1,V0,VZ,VY],1388,(.tuple ⟨[(I 0),(I 0),(I 0)]⟩),[],1552,[]⟩
def e7:gh:=⟨10,[(.agg ⟨[(.slice (some ⟨971,0,none⟩) 2 2),(.slice (some ⟨974,0,none⟩) 1 1),(.slice (some ⟨977,0,none⟩) 2 2),(.slice (some ⟨0,0,some 0⟩) 0 0),(.slice (some ⟨981,0,none⟩) 1 1),(.slice (some ⟨991,0,none⟩) 1 1),(I 0),(I 0),(I 0)]⟩)],[q7,q8,q9,V1,V0,VZ,VY],1627,(.tuple ⟨[(I 0),(I 0),(I 0)]⟩),[],1791,[]⟩
def e8:gh:=⟨43,[(.agg ⟨[(.slice (some ⟨10,0,none⟩) 2 2),(.slice (some ⟨11,0,none⟩) 1 1),(.slice (some ⟨12,0,none⟩) 2 2),(.slice none 0 0),(.slice (some ⟨13,0,none⟩) 1 1),(.slice (some ⟨14,0,none⟩) 1 1),(I 0),(I 0),(I 0)]⟩),(.agg ⟨[(I 0),(I 1),(I 0),F0,(I 1),(I 1000),F0,F0,(I 0),F0]⟩)],[q0,q1,q2,q3,q4,q5,q6],796,(.tuple ⟨[(.slice (some ⟨1874,0,none⟩) 2 2),(I 0)]⟩),[q14,q15,q16,q17],1875,[]⟩
def e9:gh:=⟨10,[(.agg ⟨[(.slice (some ⟨10,0,none⟩) 2 2),(.slice (some ⟨11,0,none⟩) 1 1),(.slice (some ⟨12,0,none⟩) 2 2),(.slice none 0 0),(.slice (some ⟨13,0,none⟩) 1 1),(.slice (some ⟨14,0,none⟩) 1 1),(I 0),(I 0),(I 0)]⟩)],[q0,q1,q2,q3,q4,q5,q6],1881,(.tuple ⟨[(I 0),(I 0),(I 0)]⟩),[],2045,[]⟩
def ZQ:gh:=⟨8,[(.agg ⟨[(.slice (some ⟨10,0,none⟩) 2 2),(.slice (some ⟨11,0,none⟩) 1 1),(.slice (some ⟨12,0,none⟩) 2 2),(.slice none 0 0),(.slice (some ⟨13,0,none⟩) 1 1),(.slice (some ⟨14,0,none⟩) 1 1),(I 0),(I 0),(I 0)]⟩),(.agg ⟨[(I 0),(I 1),(I 0),F0,(I 1),(I 1000),F0,F0,(I 0),F0]⟩),(.agg ⟨[(.slice (some ⟨15,0,none⟩) 1 1)]⟩)],[q0,q1,q2,q3,q4,q5,q6,q18],16,(.tuple ⟨[(.agg ⟨[(I 1),(I 0),(I 0),(I 0)]⟩),(I 0)]⟩),[],2096,[]⟩
def ZP:gh:=⟨10,[(.agg ⟨[(.slice (some ⟨2100,0,none⟩) 2 2),(.slice (some ⟨2101,0,none⟩) 1 1),(.slice (some ⟨2102,0,none⟩) 2 2),(.slice none 0 0),(.slice (some ⟨2103,0,none⟩) 1 1),(.slice (some ⟨2104,0,none⟩) 1 1),(I 0),(I 0),(I 0)]⟩)],[Oc,Ob,Oa,N9,N8,N7,N6],2112,(.tuple ⟨[(I 0),(I 0),(I 0)]⟩),[],2276,[]⟩
def ZO:gh:=⟨10,[(.agg ⟨[(.slice (some ⟨2100,0,none⟩) 2 2),(.slice (some ⟨2101,0,none⟩) 1 1),(.slice (some ⟨2102,0,none⟩) 2 2),(.slice none 0 0),(.slice (some ⟨2103,0,none⟩) 1 1),(.slice (some ⟨2104,0,none⟩) 1 1),(I 0),(I 0),(I 0)]⟩)],[Oc,Ob,Oa,N9,N8,N7,N6],2281,(.tuple ⟨[(I 0),(I 0),(I 0)]⟩),[],2445,[]⟩
def ZN:gh:=⟨10,[(.agg ⟨[(.slice (some ⟨2100,0,none⟩) 2 2),(.slice (some ⟨2101,0,none⟩) 1 1),(.slice (some ⟨2102,0,none⟩) 2 2),(.slice none 0 0),(.slice (some ⟨2103,0,none⟩) 1 1),(.slice (some ⟨2104,0,none⟩) 1 1),(I 0),(I 0),(I 0)]⟩)],[Oc,Ob,Oa,N9,N8,N7,N6],2494,(.tuple ⟨[(I 0),(I 0),(I 0)]⟩),[],2658,[]⟩
def ZM:gh:=⟨10,[(.agg ⟨[(.slice (some ⟨2100,0,none⟩) 2 2),(.slice (some ⟨2101,0,none⟩) 1 1),(.slice (some ⟨2102,0,none⟩) 2 2),(.slice none 0 0),(.slice (some ⟨2103,0,none⟩) 1 1),(.slice (some ⟨2104,0,none⟩) 1 1),(I 0),(I 0),(I 0)]⟩)],[Oc,Ob,Oa,N9,N8,N7,N6],2679,(.tuple ⟨[(I 0),(I 0),(I 0)]⟩),[],2843,[]⟩
def ZL:gh:=⟨10,[(.agg ⟨[(.slice (some ⟨2100,0,none⟩) 2 2),(.slice (some ⟨2101,0,none⟩) 1 1),(.slice (some ⟨2102,0,none⟩) 2 2),(.slice none 0 0),(.slice (some ⟨2103,0,none⟩) 1 1),(.slice (some ⟨2104,0,none⟩) 1 1),(I 0),(I 0),(I 0)]⟩)],[Oc,Ob,Oa,N9,N8,N7,N6],2850,(.tuple ⟨[(I 0),(I 0),(I 0)]⟩),[],3014,[]⟩
def ZK:gh:=⟨10,[(.agg ⟨[(.slice (some ⟨3018,0,none⟩) 2 2),(.slice (some ⟨3021,0,none⟩) 1 1),(.slice (some ⟨3024,0,none⟩) 2 2),(.slice (some ⟨0,0,some 0⟩) 0 0),(.slice (some ⟨3028,0,none⟩) 1 1),(.slice (some ⟨3038,0,none⟩) 1 1),(I 0),(I 0),(I 0)]⟩)],[VX,VW,VV,VU,VT,VS,VQ],3194,(.tuple ⟨[(I 0),(I 0),(I 0)]⟩),[],3358,[]⟩
def ZJ:gh:=⟨10,[(.agg ⟨[(.slice (some ⟨3018,0,none⟩) 2 2),(.slice (some ⟨3021,0,none⟩) 1 1),(.slice (some ⟨3024,0,none⟩) 2 2),(.slice (some ⟨0,0,some 0⟩) 0 0),(.slice (some ⟨3028,0,none⟩) 1 1),(.slice (some ⟨3038,0,none⟩) 1 1),(I 0),(I 0),(I 0)]⟩)],[VX,VW,VV,VU,VT,VS,VQ],3435,(.tuple ⟨[(I 0),(I 0),(I 0)]⟩),[],3599,[]⟩
def ZI:gh:=⟨10,[(.agg ⟨[(.slice (some ⟨3018,0,none⟩) 2 2),(.slice (some ⟨3021,0,none⟩) 1 1),(.slice (some ⟨3024,0,none⟩) 2 2),(.slice (some ⟨0,0,some 0⟩) 0 0),(.slice (some ⟨3028,0,none⟩) 1 1),(.slice (some ⟨3038,0,none⟩) 1 1),(I 0),(I 0),(I 0)]⟩)],[VX,VW,VV,VU,VT,VS,VQ],3674,(.tuple ⟨[(I 0),(I 0),(I 0)]⟩),[],3838,[]⟩
def ZH:gh:=⟨43,[(.agg ⟨[(.slice (some ⟨2100,0,none⟩) 2 2),(.slice (some ⟨2101,0,none⟩) 1 1),(.slice (some ⟨2102,0,none⟩) 2 2),(.slice none 0 0),(.slice (some ⟨2103,0,none⟩) 1 1),(.slice (some ⟨2104,0,none⟩) 1 1),(I 0),(I 0),(I 0)]⟩),(.agg ⟨[(I 0),(I 1),(I 0),F0,(I 1),(I 1000),F0,F0,(I 0),F0]⟩)],[Oc,Ob,Oa,N9,N8,N7,N6],2843,(.tuple ⟨[(.slice (some ⟨3921,0,none⟩) 2 2),(I 0)]⟩),[q33,q34,q35,q36],3922,[]⟩
def ZG:gh:=⟨10,[(.agg ⟨[(.slice (some ⟨2100,0,none⟩) 2 2),(.slice (some ⟨2101,0,none⟩) 1 1),(.slice (some ⟨2102,0,none⟩) 2 2),(.slice none 0 0),(.slice (some ⟨2103,0,none⟩) 1 1),(.slice (some ⟨2104,0,none⟩) 1 1),(I 0),(I 0),(I 0)]⟩)],[Oc,Ob,Oa,N9,N8,N7,N6],3928,(.tuple ⟨[(I 0),(I 0),(I 0)]⟩),[],4092,[]⟩
def ZF:gh:=⟨10,[(.agg ⟨[(.slice (some ⟨4132,0,none⟩) 2 2),(.slice (some ⟨4133,0,none⟩) 1 1),(.slice (some ⟨4134,0,none⟩) 2 2),(.slice none 0 0),(.slice (some ⟨4135,0,none⟩) 1 1),(.slice (some ⟨4136,0,none⟩) 1 1),(I 0),(I 0),(I 0)]⟩)],[MD,MC,MB,MA,Mz,My,Mx],4144,(.tuple ⟨[(I 0),(I 0),(I 0)]⟩),[],4308,[]⟩
def ZE:gh:=⟨10,[(.agg ⟨[(.slice (some ⟨4132,0,none⟩) 2 2),(.slice (some ⟨4133,0,none⟩) 1 1),(.slice (some ⟨4134,0,none⟩) 2 2),(.slice none 0 0),(.slice (some ⟨4135,0,none⟩) 1 1),(.slice (some ⟨4136,0,none⟩) 1 1),(I 0),(I 0),(I 0)]⟩)],[MD,MC,MB,MA,Mz,My,Mx],4313,(.tuple ⟨[(I 0),(I 0),(I 0)]⟩),[],4477,[]⟩
def ZD:gh:=⟨10,[(.agg ⟨[(.slice (some ⟨4132,0,none⟩) 2 2),(.slice (some ⟨4133,0,none⟩) 1 1),(.slice (some ⟨4134,0,none⟩) 2 2),(.slice none 0 0),(.slice (some ⟨4135,0,none⟩) 1 1),(.slice (some ⟨4136,0,none⟩) 1 1),(I 0),(I 0),(I 0)]⟩)],[MD,MC,MB,MA,Mz,My,Mx],4549,(.tuple ⟨[(I 0),(I 0),(I 0)]⟩),[],4713,[]⟩
def ZC:gh:=⟨10,[(.agg ⟨[(.slice (some ⟨4132,0,none⟩) 2 2),(.slice (some ⟨4133,0,none⟩) 1 1),(.slice (some ⟨4134,0,none⟩) 2 2),(.slice none 0 0),(.slice (some ⟨4135,0,none⟩) 1 1),(.slice (some ⟨4136,0,none⟩) 1 1),(I 0),(I 0),(I 0)]⟩)],[MD,MC,MB,MA,Mz,My,Mx],4754,(.tuple ⟨[(I 0),(I 0),(I 0)]⟩),[],4918,[]⟩
def ZB:gh:=⟨10,[(.agg ⟨[(.slice (some ⟨4132,0,none⟩) 2 2),(.slice (some ⟨4133,0,none⟩) 1 1),(.slice (some ⟨4134,0,none⟩) 2 2),(.slice none 0 0),(.slice (some ⟨4135,0,none⟩) 1 1),(.slice (some ⟨4136,0,none⟩) 1 1),(I 0),(I 0),(I 0)]⟩)],[MD,MC,MB,MA,Mz,My,Mx],4925,(.tuple ⟨[(I 0),(I 0),(I 0)]⟩),[],5089,[]⟩
def ZA:gh:=⟨10,[(.agg ⟨[(.slice (some ⟨5093,0,none⟩) 2 2),(.slice (some ⟨5096,0,none⟩) 1 1),(.slice (some ⟨5099,0,none⟩) 2 2),(.slice (some ⟨0,0,some 0⟩) 0 0),(.slice (some ⟨5103,0,none⟩) 1 1),(.slice (some ⟨5113,0,none⟩) 1 1),(I 0),(I 0),(I 0)]⟩)],[VP,VO,VN,VM,VL,VK,VI],5269,(.tuple ⟨[(I 0),(I 0),(I 0)]⟩),[],5433,[]⟩
def Zz:gh:=⟨10,[(.agg ⟨[(.slice (some ⟨5093,0,none⟩) 2 2),(.slice (some ⟨5096,0,none⟩) 1 1),(.slice (some ⟨5099,0,none⟩) 2 2),(.slice (some ⟨0,0,some 0⟩) 0 0),(.slice (some ⟨5103,0,none⟩) 1 1),(.slice (some ⟨5113,0,none⟩) 1 1),(I 0),(I 0),(I 0)]⟩)],[VP,VO,VN,VM,VL,VK,VI],5510,(.tuple ⟨[(I 0),(I 0),(I 0)]⟩),[],5674,[]⟩
def Zy:gh:=⟨10,[(.agg ⟨[(.slice (some ⟨5093,0,none⟩) 2 2),(.slice (some ⟨5096,0,none⟩) 1 1),(.slice (some ⟨5099,0,none⟩) 2 2),(.slice (some ⟨0,0,some 0⟩) 0 0),(.slice (some ⟨5103,0,none⟩) 1 1),(.slice (some ⟨5113,0,none⟩) 1 1),(I 0),(I 0),(I 0)]⟩)],[VP,VO,VN,VM,VL,VK,VI],5749,(.tuple ⟨[(I 0),(I 0),(I 0)]⟩),[],5913,[]⟩
def Zx:gh:=⟨43,[(.agg ⟨[(.slice (some ⟨4132,0,none⟩) 2 2),(.slice (some ⟨4133,0,none⟩) 1 1),(.slice (some ⟨4134,0,none⟩) 2 2),(.slice none 0 0),(.slice (some ⟨4135,0,none⟩) 1 1),(.slice (some ⟨4136,0,none⟩) 1 1),(I 0),(I 0),(I 0)]⟩),(.agg ⟨[(I 0),(I 1),(I 0),F0,(I 1),(I 1000),F0,F0,(I 0),F0]⟩)],[MD,MC,MB,MA,Mz,My,Mx],4918,(.tuple ⟨[(.slice (some ⟨5996,0,none⟩) 2 2),(I 0)]⟩),[q51,q52,q53,q54],5997,[]⟩
def Zw:gh:=⟨10,[(.agg ⟨[(.slice (some ⟨4132,0,none⟩) 2 2),(.slice (some ⟨4133,0,none⟩) 1 1),(.slice (some ⟨4134,0,none⟩) 2 2),(.slice none 0 0),(.slice (some ⟨4135,0,none⟩) 1 1),(.slice (some ⟨4136,0,none⟩) 1 1),(I 0),(I 0),(I 0)]⟩)],[MD,MC,MB,MA,Mz,My,Mx],6003,(.tuple ⟨[(I 0),(I 0),(I 0)]⟩),[],6167,[]⟩
def Zv:gh:=⟨8,[(.agg ⟨[(.slice (some ⟨4132,0,none⟩) 2 2),(.slice (some ⟨4133,0,none⟩) 1 1),(.slice (some ⟨4134,0,none⟩) 2 2),(.slice none 0 0),(.slice (some ⟨4135,0,none⟩) 1 1),(.slice (some ⟨4136,0,none⟩) 1 1),(I 0),(I 0),(I 0)]⟩),(.agg ⟨[(I 0),(I 1),(I 0),F0,(I 1),(I 1000),F0,F0,(I 0),F0]⟩),(.agg ⟨[(.slice (some ⟨4137,0,none⟩) 1 1)]⟩)],[MD,MC,MB,MA,Mz,My,Mx,q55],4138,(.tuple ⟨[(.agg ⟨[(I 3),(I 0),(I 0),(I 0)]⟩),(I 0)]⟩),[],6245,[]⟩
def Zu:gh:=⟨10,[(.agg ⟨[(.slice (some ⟨6249,0,none⟩) 2 2),(.slice (some ⟨6250,0,none⟩) 1 1),(.slice (some ⟨6251,0,none⟩) 2 2),(.slice none 0 0),(.slice (some ⟨6252,0,none⟩) 1 1),(.slice (some ⟨6253,0,none⟩) 1 1),(I 0),(I 0),(I 0)]⟩)],[q56,q57,q58,q59,q60,q61,q62],6256,(.tuple ⟨[(I 0),(I 0),(I 0)]⟩),[],6420,[]⟩
def e33:gh:=⟨4,[],[],6, .bool true,[],6421,[]⟩
theorem qF:eH Tryz.prog:=oz (by kernel_rfl)
theorem Pq:cK Tryz.prog ZO:=bV qF (es:=[]) (.nil) 30000 (by kernel_rfl)
theorem Pp:cK Tryz.prog ZN:=bV qF (es:=[]) (.nil) 30000 (by kernel_rfl)
theorem Po:cK Tryz.prog ZM:=bV qF (es:=[]) (.nil) 30000 (by kernel_rfl)
theorem Pn:cK Tryz.prog ZL:=bV qF (es:=[]) (.nil) 30000 (by kernel_rfl)
theorem Pm:cK Tryz.prog ZK:=bV qF (es:=[]) (.nil) 30000 (by kernel_rfl)
theorem Pl:cK Tryz.prog ZJ:=bV qF (es:=[]) (.nil) 30000 (by kernel_rfl)
theorem qE:eH Tryz.prog:=oz (by kernel_rfl)
theorem Pk:cK Tryz.prog ZI:=bV qE (es:=[]) (.nil) 30000 (by kernel_rfl)
theorem Pj:cK Tryz.prog ZH:=bV qE (es:=[ZL,ZK,ZJ,ZI]) (.cons Pn (.cons Pm (.cons Pl (.cons Pk (.nil))))) 30000 (by kernel_rfl)
theorem Ph:cK Tryz.prog ZG:=bV qE (es:=[]) (.nil) 30000 (by kernel_rfl)
theorem Pg:cK Tryz.prog ZF:=bV qE (es:=[]) (.nil) 30000 (by kernel_rfl)
theorem Pf:cK Tryz.prog ZE:=bV qE (es:=[]) (.nil) 30000 (by kernel_rfl)
theorem Pe:cK Tryz.prog ZD:=bV qE (es:=[]) (.nil) 30000 (by kernel_rfl)
theorem qD:eH Tryz.prog:=oz (by kernel_rfl)
theorem Pd:cK Tryz.prog ZC:=bV qD (es:=[]) (.nil) 30000 (by kernel_rfl)
theorem Pc:cK Tryz.prog ZB:=bV qD (es:=[]) (.nil) 30000 (by kernel_rfl)
theorem Pb:cK Tryz.prog ZA:=bV qD (es:=[]) (.nil) 30000 (by kernel_rfl)
theorem Pa:cK Tryz.prog Zz:=bV qD (es:=[]) (.nil) 30000 (by kernel_rfl)
theorem O9:cK Tryz.prog Zy:=bV qD (es:=[]) (.nil) 30000 (by kernel_rfl)
theorem O8:cK Tryz.prog Zx:=bV qD (es:=[ZB,ZA,Zz,Zy]) (.cons Pc (.cons Pb (.cons Pa (.cons O9 (.nil))))) 30000 (by kernel_rfl)
theorem qH:eH Tryz.prog:=oz (by kernel_rfl)
theorem S2:cK Tryz.prog e0:=bV qH (es:=[]) (.nil) 30000 (by kernel_rfl)
theorem S1:cK Tryz.prog e1:=bV qH (es:=[]) (.nil) 30000 (by kernel_rfl)
theorem S0:cK Tryz.prog e2:=bV qH (es:=[]) (.nil) 30000 (by kernel_rfl)
theorem SZ:cK Tryz.prog e3:=bV qH (es:=[]) (.nil) 30000 (by kernel_rfl)
theorem SY:cK Tryz.prog e4:=bV qH (es:=[]) (.nil) 30000 (by kernel_rfl)
theorem SX:cK Tryz.prog e5:=bV qH (es:=[]) (.nil) 30000 (by kernel_rfl)
theorem qG:eH Tryz.prog:=oz (by kernel_rfl)
theorem SW:cK Tryz.prog e6:=bV qG (es:=[]) (.nil) 30000 (by kernel_rfl)
theorem SV:cK Tryz.prog e7:=bV qG (es:=[]) (.nil) 30000 (by kernel_rfl)
theorem SU:cK Tryz.prog e8:=bV qG (es:=[e4,e5,e6,e7]) (.cons SY (.cons SX (.cons SW (.cons SV (.nil))))) 30000 (by kernel_rfl)
theorem SS:cK Tryz.prog e9:=bV qG (es:=[]) (.nil) 30000 (by kernel_rfl)
theorem Ps:cK Tryz.prog ZQ:=bV qG (es:=[e0,e1,e2,e3,e8,e9]) (.cons S2 (.cons S1 (.cons S0 (.cons SZ (.cons SU (.cons SS (.nil))))))) 30000 (by kernel_rfl)
theorem Pr:cK Tryz.prog ZP:=bV qG (es:=[]) (.nil) 30000 (by kernel_rfl)
theorem yl:eH Tryz.prog:=oz (by kernel_rfl)
theorem O7:cK Tryz.prog Zw:=bV yl (es:=[]) (.nil) 30000 (by kernel_rfl)
theorem O6:cK Tryz.prog Zv:=bV yl (es:=[ZF,ZE,ZD,ZC,Zx,Zw]) (.cons Pg (.cons Pf (.cons Pe (.cons Pd (.cons O8 (.cons O7 (.nil))))))) 30000 (by kernel_rfl)
theorem O5:cK Tryz.prog Zu:=bV yl (es:=[]) (.nil) 30000 (by kernel_rfl)
theorem O4:cK Tryz.prog e33:=bV yl (es:=[ZQ,ZP,ZO,ZN,ZM,ZH,ZG,Zv,Zu]) (.cons Ps (.cons Pr (.cons Pq (.cons Pp (.cons Po (.cons Pj (.cons Ph (.cons O6 (.cons O5 (.nil)))))))))) 30000 (by kernel_rfl)
end Go.Proofs
namespace Go.Proofs.Nw
open Go Go.AV Tryz Go.RowKit
set_option maxRecDepth 100000
theorem SQ(w:World):Calls prog 4 #[] w fun e w'=>e= .returned (.bool true)/\Below w.heap.size w w':=
 (xS O4 w).mono fun e w' ⟨h1,h2,h3,h4,h5,h6⟩=>⟨h1,⟨h2,h3,h4,h5,h6⟩⟩
theorem Ww{w:World}{N:iy}(hN:oI w N)(k l e_ o:Int)(hl:l<=9223372036854775807)(ho:o<=9223372036854775807)(htab:Pow w):
 Calls prog 3 #[.agg ⟨N.cells⟩,Gr k l e_ o] w fun en w'=>en= .returned (.bool true)/\Below w.heap.size w w':=by
 obtain⟨a0,l0,c0,e0,m0⟩:=jb hN.stops
 obtain⟨a1,l1,c1,e1,m1⟩:=jb hN.eQ
 obtain⟨a2,l2,c2,e2,m2⟩:=jb hN.runs
 obtain⟨a3,l3,c3,e3,m3⟩:=jb hN.dL
 obtain⟨a4,l4,c4,e4,m4⟩:=jb hN.paths
 obtain⟨a5,l5,c5,e5,m5⟩:=jb hN.h9
 have hr:=JU hN e2
 have hp:l4=N.paths.length:=by simpa using m4
 have e:N.cells=[.slice a0 l0 c0, .slice a1 l1 c1, .slice a2 l2 c2, .slice a3 l3 c3, .slice a4 l4 c4, .slice a5 l5 c5,zv N.d,zv N.w,zv N.c]:=by
  unfold iy.cells
  rw[e0,e1,e2,e3,e4,e5]
 by_cases h4:l4<=80
 ·obtain⟨a,b,c,hC,hV⟩:=Ed hN (by omega)
  rw[e] at hC hV ⊢
  exact SD a0 a1 a2 a3 a4 a5 l0 l1 l2 l3 l4 l5 c0 c1 c2 c3 c4 c5 _ _ _ c k l e_ o w hl ho htab hr (fun _ w' hb=>(hC w' hb).mono fun en w'' ⟨h1,h2⟩=>⟨⟨_,_,h1⟩,h2⟩) (fun _=>hV) SQ
 ·rw[e]
  exact SD a0 a1 a2 a3 a4 a5 l0 l1 l2 l3 l4 l5 c0 c1 c2 c3 c4 c5 _ _ _ 0 k l e_ o w hl ho htab hr (fun h=>absurd h h4) (fun h=>absurd h h4) SQ
end Go.Proofs.Nw
namespace Go.Proofs.Nw
open Go Go.Proofs Go.Lib Go.Proofs.YtlljgbelbfhcjaaGreatDoor
set_option maxRecDepth 100000
abbrev wu:List (String × DataW Unit):=[("math/bits.deBruijn32tab",Rows.laid_math_bits_deBruijn32tab),("math/bits.deBruijn64tab",Rows.laid_math_bits_deBruijn64tab),("internal/strconv.uint64pow10",Rows.laid_internal_strconv_uint64pow10)]
theorem vu{P:Program}{w:World}{x:String × DataW Unit}{r:List (String × DataW Unit)}{ps:List MemPlace}(h:DataW.LaidVars P w (x::r) ps): ∃q,DataW.LaidVars P w r q:=by
 obtain⟨n,d⟩:=x
 obtain⟨_,_,_,_,_,q,_,_,_,_,h,_⟩:=h
 exact⟨q,h⟩
theorem zb{w:World}(h:laidMetH Tryz.prog wu w):Pow w:=by
 have h0:laidMet Tryz.prog wu w:=h
 obtain⟨ps,h1,_⟩:=h0
 obtain⟨q1,h2⟩:=vu h1
 obtain⟨q2,h3⟩:=vu h2
 obtain⟨g',t',cs,fuel,p,q,hg',ht',hvar,hd,_,_⟩:=h3
 have hg:Tryz.prog.globalNamed "internal/strconv.uint64pow10" =some 0:=by kernel_rfl
 obtain rfl:=Option.some.inj (hg.symm.trans hg')
 have hd':DataW.trod (fun _=>()) Tryz.prog w 0 (fun _=>true) false fuel t' cs.toList=some (tabData .u64 pow10Tab,p):=hd
 have hty:(Tryz.prog.globals[0]?).map (·.type)=some 225:=by kernel_rfl
 obtain rfl:=Option.some.inj (hty.symm.trans ht')
 unfold Pow TabIs
 rw[hvar,←cells_of_tab (e:=94) (n:=20) (by kernel_rfl) (by kernel_rfl) (by kernel_rfl) (by kernel_rfl) hd']
end Go.Proofs.Nw
namespace Go.Proofs.Nw
open Go Go.AV Tryz Go.RowKit
set_option maxRecDepth 100000
theorem N4{H:Type}{enc:TypeId × Value->H}{W:World}{base:Nat}{r:Reach}{b:Nat}{v0:Value}{n:Nat}{x:DataW H × List MemPlace}(hok:Value.okWide prog W r b 34 v0)(h:DataW.trod enc prog W base (fun _=>true) true n 34 v0.cells.toList=some x):
 ∃k l e o:Int,l<=9223372036854775807/\o<=9223372036854775807/\v0=Gr k l e o:=by
 obtain⟨fs,hfs⟩: ∃fs,prog.underlying 34=some (.struct fs):=HE (by kernel_rfl)
 unfold Value.okWide at hok
 rw[hfs] at hok
 obtain⟨cs,rfl,_⟩:=hok
 have hcs:(Value.agg cs).cells.toList=cs.toList:=rfl
 rw[hcs] at h
 have hr:=sJ (sh:=[.i .i64, .i .i64, .i .i64, .i .i64]) (fuel:=5) hfs (by kernel_rfl) (by kernel_rfl) h
 obtain⟨l⟩:=cs
 obtain⟨x0,l0,e0,b0,h0⟩:=hr.i
 obtain⟨x1,l1,e1,b1,h1⟩:=h0.i
 obtain⟨x2,l2,e2,b2,h2⟩:=h1.i
 obtain⟨x3,l3,e3,b3,h3⟩:=h2.i
 have e4:=h3.e
 refine⟨x0,x1,x2,x3,?_,?_,?_⟩
 ·simp[Lit.wf] at b1;omega
 ·simp[Lit.wf] at b3;omega
 ·have:l=[.int .i64 x0, .int .i64 x1, .int .i64 x2, .int .i64 x3]:=by simp_all
  rw[this]
end Go.Proofs.Nw
