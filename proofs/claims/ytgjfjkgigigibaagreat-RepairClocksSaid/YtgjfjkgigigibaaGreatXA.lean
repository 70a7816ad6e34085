/-
  A part of the proof: lemmas of my own.
-/
import Derived.Test.YtgjfjkgigigibaaGreatPB
import Derived.Test.YtgjfjkgigigibaaGreatProg
import Derived.KernelRfl
set_option linter.unusedVariables false
set_option linter.unusedSimpArgs false
namespace Go.Proofs
open Go Go.AV
set_option maxRecDepth 100000
def q0:BO:=(7, .az ⟨[(S [65]),(I 0),F0,(I 0),(S [66]),(I 0),F0,(I 0),(S [67]),(I 0),F0,(I 0),(S [68]),(I 0),F0,(I 0)],16,4,94,true,true,0,true⟩)
def q1:BO:=(8, .az ⟨[(S [82]),(I 0),F0],3,3,96,true,true,0,true⟩)
def q2:BO:=(13, .az ⟨[(I 0),(I 100),(I 100),T1,T1,(I 1),(I 200),(I 200),T1,T1,(I 2),(I 300),(I 300),T1,T1],15,5,70,true,true,0,true⟩)
def q3:BO:=(16, .az ⟨[(I 1),(I 250),(I 250),T1,T1,(I 3),(I 400),(I 400),T1,T1],10,5,70,true,true,0,true⟩)
def q4:BO:=(19, .az ⟨[(I 2),(I 350),(I 350),T1,T1,(I 3),(I 380),(I 380),T1,T1],10,5,70,true,true,0,true⟩)
def q5:BO:=(22, .az ⟨[(I 1),(I 500),(I 500),T1,T1,(I 3),(I 600),(I 600),T1,T1],10,5,70,true,true,0,true⟩)
def q6:BO:=(23, .az ⟨[(I 0),(I 0),(I 0),(S [114,48]),(I 0),F0,F0,(.slice (some ⟨13,0,none⟩) 3 3),(I 0),(I 0),(I 0),(S [114,49]),(I 0),F0,F0,(.slice (some ⟨16,0,none⟩) 2 2),(I 0),(I 0),(I 0),(S [114,50]),(I 0),F0,F0,(.slice (some ⟨19,0,none⟩) 2 2),(I 0),(I 0),(I 0),(S [114,51]),(I 0),F0,F0,(.slice (some ⟨22,0,none⟩) 2 2)],32,8,66,true,true,0,true⟩)
def q7:BO:=(24, .az ⟨[(S [112]),(I 150),(I 1),(I 16),(I 0),(I 255)],6,6,99,true,true,0,true⟩)
def q8:BO:=(23, .az ⟨[(I 0),(I 0),(I 0),(S [114,48]),(I 0),F0,F0,(.slice (some ⟨13,0,none⟩) 3 3),(I 0),(I 0),(I 0),(S [114,49]),(I 0),F0,T1,(.slice (some ⟨16,0,none⟩) 2 2),(I 0),(I 0),(I 0),(S [114,50]),(I 0),F0,F0,(.slice (some ⟨19,0,none⟩) 2 2),(I 0),(I 0),(I 0),(S [114,51]),(I 0),F0,F0,(.slice (some ⟨22,0,none⟩) 2 2)],32,8,66,true,true,0,true⟩)
def q9:BO:=(26, .az ⟨[T1,(I 0),(I 0),(I 1),(I 0),(I 1),(I 100),(I 200),F0,T1,(I 1),(I 0),(I 1),(I 1),(I 3),(I 250),(I 400),F0],18,9,62,true,true,0,true⟩)
def q10:BO:=(3460, .az ⟨[T1,(I 0),(I 0),(I 2),(I 0),(I 2),(I 100),(I 300),F0,T1,(I 2),(I 0),(I 1),(I 2),(I 3),(I 350),(I 380),F0],18,9,62,false,false,0,true⟩)
def q11:BO:=(5086, .az ⟨[T1,(I 0),(I 0),(I 1),(I 0),(I 1),(I 100),(I 200),F0,T1,(I 3),(I 0),(I 1),(I 1),(I 3),(I 500),(I 600),F0],18,9,62,false,false,0,true⟩)
def q12:BO:=(16, .az ⟨[(I 1),(I 250),(I 260),T1,T1,(I 3),(I 400),(I 400),T1,T1],10,5,70,true,true,0,true⟩)
def e0:jD:=⟨24,[(.agg ⟨[(.slice (some ⟨7,0,none⟩) 4 4),(.slice (some ⟨8,0,none⟩) 1 1),(.slice (some ⟨23,0,none⟩) 4 4),(.slice none 0 0),(.slice none 0 0),(.slice (some ⟨24,0,none⟩) 1 1),(I 0),(I 0),(I 0)]⟩)],[q0,q1,q2,q3,q4,q5,q6,q7],35,(.tuple ⟨[(I 0),(I 0),(I 0)]⟩),[],260,[]⟩
def e1:jD:=⟨24,[(.agg ⟨[(.slice (some ⟨7,0,none⟩) 4 4),(.slice (some ⟨8,0,none⟩) 1 1),(.slice (some ⟨23,0,none⟩) 4 4),(.slice none 0 0),(.slice none 0 0),(.slice (some ⟨24,0,none⟩) 1 1),(I 0),(I 0),(I 0)]⟩)],[q0,q1,q2,q3,q4,q5,q6,q7],263,(.tuple ⟨[(I 0),(I 0),(I 0)]⟩),[],488,[]⟩
def e2:jD:=⟨24,[(.agg ⟨[(.slice (some ⟨7,0,none⟩) 4 4),(.slice (some ⟨8,0,none⟩) 1 1),(.slice (some ⟨23,0,none⟩) 4 4),(.slice none 0 0),(.slice none 0 0),(.slice (some ⟨24,0,none⟩) 1 1),(I 0),(I 0),(I 0)]⟩)],[q0,q1,q2,q3,q4,q5,q6,q7],501,(.tuple ⟨[(I 0),(I 0),(I 0)]⟩),[],726,[]⟩
def e3:jD:=⟨24,[(.agg ⟨[(.slice (some ⟨7,0,none⟩) 4 4),(.slice (some ⟨8,0,none⟩) 1 1),(.slice (some ⟨23,0,none⟩) 4 4),(.slice none 0 0),(.slice none 0 0),(.slice (some ⟨24,0,none⟩) 1 1),(I 0),(I 0),(I 0)]⟩)],[q0,q1,q2,q3,q4,q5,q6,q7],867,(.tuple ⟨[(I 0),(I 0),(I 0)]⟩),[],1092,[]⟩
def e4:jD:=⟨24,[(.agg ⟨[(.slice (some ⟨7,0,none⟩) 4 4),(.slice (some ⟨8,0,none⟩) 1 1),(.slice (some ⟨23,0,none⟩) 4 4),(.slice none 0 0),(.slice none 0 0),(.slice (some ⟨24,0,none⟩) 1 1),(I 0),(I 0),(I 0)]⟩)],[q0,q1,q2,q3,q4,q5,q6,q7],1155,(.tuple ⟨[(I 0),(I 0),(I 0)]⟩),[],1380,[]⟩
def e5:jD:=⟨24,[(.agg ⟨[(.slice (some ⟨7,0,none⟩) 4 4),(.slice (some ⟨8,0,none⟩) 1 1),(.slice (some ⟨23,0,none⟩) 4 4),(.slice none 0 0),(.slice none 0 0),(.slice (some ⟨24,0,none⟩) 1 1),(I 0),(I 0),(I 0)]⟩)],[q0,q1,q2,q3,q4,q5,q8,q7],1393,(.tuple ⟨[(I 0),(I 0),(I 0)]⟩),[],1618,[]⟩
def e6:jD:=⟨24,[(.agg ⟨[(.slice (some ⟨7,0,none⟩) 4 4),(.slice (some ⟨8,0,none⟩) 1 1),(.slice (some ⟨23,0,none⟩) 4 4),(.slice none 0 0),(.slice none 0 0),(.slice (some ⟨24,0,none⟩) 1 1),(I 0),(I 0),(I 0)]⟩)],[q0,q1,q2,q3,q4,q5,q8,q7],1621,(.tuple ⟨[(I 0),(I 0),(I 0)]⟩),[],1846,[]⟩
def e7:jD:=⟨24,[(.agg ⟨[(.slice (some ⟨7,0,none⟩) 4 4),(.slice (some ⟨8,0,none⟩) 1 1),(.slice (some ⟨23,0,none⟩) 4 4),(.slice none 0 0),(.slice none 0 0),(.slice (some ⟨24,0,none⟩) 1 1),(I 0),(I 0),(I 0)]⟩)],[q0,q1,q2,q3,q4,q5,q8,q7],1859,(.tuple ⟨[(I 0),(I 0),(I 0)]⟩),[],2084,[]⟩
def e8:jD:=⟨24,[(.agg ⟨[(.slice (some ⟨7,0,none⟩) 4 4),(.slice (some ⟨8,0,none⟩) 1 1),(.slice (some ⟨23,0,none⟩) 4 4),(.slice none 0 0),(.slice none 0 0),(.slice (some ⟨24,0,none⟩) 1 1),(I 0),(I 0),(I 0)]⟩)],[q0,q1,q2,q3,q4,q5,q8,q7],2184,(.tuple ⟨[(I 0),(I 0),(I 0)]⟩),[],2409,[]⟩
def e9:jD:=⟨24,[(.agg ⟨[(.slice (some ⟨7,0,none⟩) 4 4),(.slice (some ⟨8,0,none⟩) 1 1),(.slice (some ⟨23,0,none⟩) 4 4),(.slice none 0 0),(.slice none 0 0),(.slice (some ⟨24,0,none⟩) 1 1),(I 0),(I 0),(I 0)]⟩)],[q0,q1,q2,q3,q4,q5,q8,q7],2426,(.tuple ⟨[(I 0),(I 0),(I 0)]⟩),[],2651,[]⟩
def e10:jD:=⟨24,[(.agg ⟨[(.slice (some ⟨7,0,none⟩) 4 4),(.slice (some ⟨8,0,none⟩) 1 1),(.slice (some ⟨23,0,none⟩) 4 4),(.slice none 0 0),(.slice none 0 0),(.slice (some ⟨24,0,none⟩) 1 1),(I 0),(I 0),(I 0)]⟩)],[q0,q1,q2,q3,q4,q5,q8,q7],2654,(.tuple ⟨[(I 0),(I 0),(I 0)]⟩),[],2879,[]⟩
def e11:jD:=⟨24,[(.agg ⟨[(.slice (some ⟨7,0,none⟩) 4 4),(.slice (some ⟨8,0,none⟩) 1 1),(.slice (some ⟨23,0,none⟩) 4 4),(.slice none 0 0),(.slice none 0 0),(.slice (some ⟨24,0,none⟩) 1 1),(I 0),(I 0),(I 0)]⟩)],[q0,q1,q2,q3,q4,q5,q8,q7],2895,(.tuple ⟨[(I 0),(I 0),(I 0)]⟩),[],3120,[]⟩
def e12:jD:=⟨24,[(.agg ⟨[(.slice (some ⟨7,0,none⟩) 4 4),(.slice (some ⟨8,0,none⟩) 1 1),(.slice (some ⟨23,0,none⟩) 4 4),(.slice none 0 0),(.slice none 0 0),(.slice (some ⟨24,0,none⟩) 1 1),(I 0),(I 0),(I 0)]⟩)],[q0,q1,q2,q3,q4,q5,q8,q7],3519,(.tuple ⟨[(I 0),(I 0),(I 0)]⟩),[],3744,[]⟩
def e13:jD:=⟨24,[(.agg ⟨[(.slice (some ⟨7,0,none⟩) 4 4),(.slice (some ⟨8,0,none⟩) 1 1),(.slice (some ⟨23,0,none⟩) 4 4),(.slice none 0 0),(.slice none 0 0),(.slice (some ⟨24,0,none⟩) 1 1),(I 0),(I 0),(I 0)]⟩)],[q0,q1,q2,q3,q4,q5,q8,q7],3885,(.tuple ⟨[(I 0),(I 0),(I 0)]⟩),[],4110,[]⟩
def e14:jD:=⟨19,[(.agg ⟨[(.slice (some ⟨7,0,none⟩) 4 4),(.slice (some ⟨8,0,none⟩) 1 1),(.slice (some ⟨23,0,none⟩) 4 4),(.slice none 0 0),(.slice none 0 0),(.slice (some ⟨24,0,none⟩) 1 1),(I 0),(I 0),(I 0)]⟩),(.agg ⟨[(I 0),(I 3),(I 0),F0,(I 2),(I 0),F0,F0,(I 0),F0]⟩),(.agg ⟨[(.slice (some ⟨26,0,none⟩) 2 2)]⟩),(I 150)],[q0,q1,q2,q3,q4,q5,q8,q7,q9],2420,(.tuple ⟨[(.agg ⟨[(.slice (some ⟨3460,0,none⟩) 2 2)]⟩),(I 0)]⟩),[q10],4171,[]⟩
def e15:jD:=⟨24,[(.agg ⟨[(.slice (some ⟨7,0,none⟩) 4 4),(.slice (some ⟨8,0,none⟩) 1 1),(.slice (some ⟨23,0,none⟩) 4 4),(.slice none 0 0),(.slice none 0 0),(.slice (some ⟨24,0,none⟩) 1 1),(I 0),(I 0),(I 0)]⟩)],[q0,q1,q2,q3,q4,q5,q8,q7],4178,(.tuple ⟨[(I 0),(I 0),(I 0)]⟩),[],4403,[]⟩
def e16:jD:=⟨24,[(.agg ⟨[(.slice (some ⟨7,0,none⟩) 4 4),(.slice (some ⟨8,0,none⟩) 1 1),(.slice (some ⟨23,0,none⟩) 4 4),(.slice none 0 0),(.slice none 0 0),(.slice (some ⟨24,0,none⟩) 1 1),(I 0),(I 0),(I 0)]⟩)],[q0,q1,q2,q3,q4,q5,q8,q7],4406,(.tuple ⟨[(I 0),(I 0),(I 0)]⟩),[],4631,[]⟩
def e17:jD:=⟨24,[(.agg ⟨[(.slice (some ⟨7,0,none⟩) 4 4),(.slice (some ⟨8,0,none⟩) 1 1),(.slice (some ⟨23,0,none⟩) 4 4),(.slice none 0 0),(.slice none 0 0),(.slice (some ⟨24,0,none⟩) 1 1),(I 0),(I 0),(I 0)]⟩)],[q0,q1,q2,q3,q4,q5,q8,q7],4647,(.tuple ⟨[(I 0),(I 0),(I 0)]⟩),[],4872,[]⟩
def e18:jD:=⟨24,[(.agg ⟨[(.slice (some ⟨7,0,none⟩) 4 4),(.slice (some ⟨8,0,none⟩) 1 1),(.slice (some ⟨23,0,none⟩) 4 4),(.slice none 0 0),(.slice none 0 0),(.slice (some ⟨24,0,none⟩) 1 1),(I 0),(I 0),(I 0)]⟩)],[q0,q1,q2,q3,q4,q5,q8,q7],5139,(.tuple ⟨[(I 0),(I 0),(I 0)]⟩),[],5364,[]⟩
def e19:jD:=⟨24,[(.agg ⟨[(.slice (some ⟨7,0,none⟩) 4 4),(.slice (some ⟨8,0,none⟩) 1 1),(.slice (some ⟨23,0,none⟩) 4 4),(.slice none 0 0),(.slice none 0 0),(.slice (some ⟨24,0,none⟩) 1 1),(I 0),(I 0),(I 0)]⟩)],[q0,q1,q2,q3,q4,q5,q8,q7],5505,(.tuple ⟨[(I 0),(I 0),(I 0)]⟩),[],5730,[]⟩
def e20:jD:=⟨19,[(.agg ⟨[(.slice (some ⟨7,0,none⟩) 4 4),(.slice (some ⟨8,0,none⟩) 1 1),(.slice (some ⟨23,0,none⟩) 4 4),(.slice none 0 0),(.slice none 0 0),(.slice (some ⟨24,0,none⟩) 1 1),(I 0),(I 0),(I 0)]⟩),(.agg ⟨[(I 0),(I 3),(I 0),F0,(I 2),(I 0),F0,F0,(I 0),F0]⟩),(.agg ⟨[(.slice (some ⟨26,0,none⟩) 2 2)]⟩),(I 201)],[q0,q1,q2,q3,q4,q5,q8,q7,q9],4172,(.tuple ⟨[(.agg ⟨[(.slice (some ⟨5086,0,none⟩) 2 2)]⟩),(I 0)]⟩),[q11],5790,[]⟩
def e21:jD:=⟨24,[(.agg ⟨[(.slice (some ⟨7,0,none⟩) 4 4),(.slice (some ⟨8,0,none⟩) 1 1),(.slice (some ⟨23,0,none⟩) 4 4),(.slice none 0 0),(.slice none 0 0),(.slice (some ⟨24,0,none⟩) 1 1),(I 0),(I 0),(I 0)]⟩)],[q0,q1,q2,q12,q4,q5,q8,q7],5794,(.tuple ⟨[(I 0),(I 0),(I 0)]⟩),[],6019,[]⟩
def e22:jD:=⟨10,[],[],6, .bool true,[],6027,[]⟩
theorem sT:gg Tryz.prog:=wi (by kernel_rfl)
theorem V0:eN Tryz.prog e6:=dR sT (es:=[]) (.nil) 30000 (by kernel_rfl)
theorem VZ:eN Tryz.prog e7:=dR sT (es:=[]) (.nil) 30000 (by kernel_rfl)
theorem VY:eN Tryz.prog e8:=dR sT (es:=[]) (.nil) 30000 (by kernel_rfl)
theorem VX:eN Tryz.prog e9:=dR sT (es:=[]) (.nil) 30000 (by kernel_rfl)
theorem Sa:eN Tryz.prog e10:=dR sT (es:=[]) (.nil) 30000 (by kernel_rfl)
theorem R9:eN Tryz.prog e11:=dR sT (es:=[]) (.nil) 30000 (by kernel_rfl)
theorem sS:gg Tryz.prog:=wi (by kernel_rfl)
theorem R0:eN Tryz.prog e12:=dR sS (es:=[]) (.nil) 30000 (by kernel_rfl)
theorem RZ:eN Tryz.prog e13:=dR sS (es:=[]) (.nil) 30000 (by kernel_rfl)
theorem RY:eN Tryz.prog e14:=dR sS (es:=[e9,e10,e11,e12,e13]) (.cons VX (.cons Sa (.cons R9 (.cons R0 (.cons RZ (.nil)))))) 30000 (by kernel_rfl)
theorem RX:eN Tryz.prog e15:=dR sS (es:=[]) (.nil) 30000 (by kernel_rfl)
theorem RW:eN Tryz.prog e16:=dR sS (es:=[]) (.nil) 30000 (by kernel_rfl)
theorem RV:eN Tryz.prog e17:=dR sS (es:=[]) (.nil) 30000 (by kernel_rfl)
theorem sU:gg Tryz.prog:=wi (by kernel_rfl)
theorem V6:eN Tryz.prog e0:=dR sU (es:=[]) (.nil) 30000 (by kernel_rfl)
theorem V5:eN Tryz.prog e1:=dR sU (es:=[]) (.nil) 30000 (by kernel_rfl)
theorem V4:eN Tryz.prog e2:=dR sU (es:=[]) (.nil) 30000 (by kernel_rfl)
theorem V3:eN Tryz.prog e3:=dR sU (es:=[]) (.nil) 30000 (by kernel_rfl)
theorem V2:eN Tryz.prog e4:=dR sU (es:=[]) (.nil) 30000 (by kernel_rfl)
theorem V1:eN Tryz.prog e5:=dR sU (es:=[]) (.nil) 30000 (by kernel_rfl)
theorem wQ:gg Tryz.prog:=wi (by kernel_rfl)
theorem RU:eN Tryz.prog e18:=dR wQ (es:=[]) (.nil) 30000 (by kernel_rfl)
theorem RT:eN Tryz.prog e19:=dR wQ (es:=[]) (.nil) 30000 (by kernel_rfl)
theorem RS:eN Tryz.prog e20:=dR wQ (es:=[e15,e16,e17,e18,e19]) (.cons RX (.cons RW (.cons RV (.cons RU (.cons RT (.nil)))))) 30000 (by kernel_rfl)
theorem RQ:eN Tryz.prog e21:=dR wQ (es:=[]) (.nil) 30000 (by kernel_rfl)
theorem RP:eN Tryz.prog e22:=dR wQ (es:=[e0,e1,e2,e3,e4,e5,e6,e7,e8,e14,e20,e21]) (.cons V6 (.cons V5 (.cons V4 (.cons V3 (.cons V2 (.cons V1 (.cons V0 (.cons VZ (.cons VY (.cons RY (.cons RS (.cons RQ (.nil))))))))))))) 30000 (by kernel_rfl)
end Go.Proofs
