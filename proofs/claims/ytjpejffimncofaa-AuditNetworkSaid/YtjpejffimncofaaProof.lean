/-
  The statement AuditNetwork: whatever the network, the law returns true and leaves its argument as it was. No conditions.
-/
import Derived.Test.YtjpejffimncofaaPF
import Derived.Test.YtjpejffimncofaaRows
import Derived.WalkKit
import Derived.ProofKit
import Derived.OpenShut
import Derived.ChangeOld
import Derived.Below
set_option linter.unusedVariables false
set_option linter.unusedSimpArgs false
namespace Go.Proofs.Ytjpejffimncofaa.auditNetwork
open Go Go.AV Go.ChangeShapes Go.WideShapes Go.ChangeAt Go.RowKit Go.Proofs.Nw
theorem own:ownKnob Try.prog.godebug=none:=by kernel_rfl
theorem laidOut:laidOutB Try.prog=true:=by kernel_rfl
set_option maxRecDepth 100000 in
theorem lifted(os:Os)(started:os.Started)(H:Type)(enc:TypeId × Value->H):
 ReturnsInHanded {} Try.checked os 3 .any (Rows.auditNetworkSpec.pre6 enc Try.prog Try.f3 Rows.auditNetworkRow.domain false) (Rows.auditNetworkSpec.post enc Try.prog Try.f3 false true false false):=by
 refine returnsInHanded_of_change (C:=Try.checked) own started (by kernel_rfl) Try.func3
  (ChangeSpec.witness6 (enc:=enc) (C:=Try.checked) false ⟨#[],#[.agg #[.slice none 0 0, .slice none 0 0, .slice none 0 0, .slice none 0 0, .slice none 0 0, .slice none 0 0, .int .i64 0, .int .i64 0, .int .i64 0]],[]⟩ 20 (by kernel_rfl) (by kernel_rfl) (by kernel_rfl) (by kernel_rfl)) ?_
 intro W base args ds gs before hval0 hW hcnd _
 have hval: ∀(j:Nat) t v,Try.f3.params[j]? =some t->args[j]? =some v->Value.okWide Try.prog W .any base t v:=hval0
 have hW':=hW
 obtain⟨p,q,hA0,hV,rfl,hfz,hnd⟩:=hW
 have hA:DataW.TrodAll enc Try.prog W 0 (fun _=>true) true Try.f3.params.toList args.toList ds p:=hA0
 rw[Try.params3] at hA hval
 obtain⟨v0,vs0,d0,WS,p0,q0,hargs,rfl,rfl,h0,r0⟩:=trodAll_cons hA
 obtain⟨rfl,rfl,rfl⟩:=trodAll_nil r0
 obtain rfl:args= #[v0]:=by cases args;simp_all
 obtain⟨rfl,rfl⟩:=trodVars_none hV
 have k0:=h0
 have lt0: ∀x∈p0,x.block<W.heap.size:=by obtain⟨m,hm⟩:=k0;exact DataW.trod_lt m _ _ _ hm
 have hok:=hval 0 31 v0 rfl rfl
 obtain⟨fuel,hf⟩:=h0
 clear hA0 hval0
 have law:Calls Try.prog 3 #[v0] W fun e w'=>e= .returned (.bool true)/\Below W.heap.size W w':=by
  obtain⟨N,rfl,hN⟩:=KG hok hf
  obtain⟨z,z1,z2,z3,z4,z5⟩:=OQ hN
  refine(xl (SU (by omega) z2 z4) z1 z3 z5).mono fun e w' ⟨x,ρ',v',_,h2,h3,_,_,_,h4⟩=>⟨?_,h4⟩
  rw[h2,h3.plain rfl]
 refine law.mono fun e W' ⟨he,bel⟩=>?_
 subst he
 exact⟨_,rfl,_,_,_,[],_,[],hW',trodAll_mk1 (shut_bool Try.underlying4 _),(trodAll_cons_mk (Below.trod laidOut (by kernel_rfl) (of_decide_eq_true (by kernel_rfl)) k0 bel lt0) trodAll_mk0),rfl,bel.frame _,fun h=>by cases h⟩
theorem Vx:Rows.auditNetworkRow.holds Try.pinned (OpenSpec.ofChange Rows.auditNetworkSpec):=
 OpenClaim.holds_of_wide 3 Try.f3 rfl rfl rfl rfl rfl rfl rfl ⟨rfl,rfl,rfl,rfl,rfl⟩ rfl rfl rfl rfl rfl (by kernel_rfl) Try.func3 (by kernel_rfl)
  (of_decide_eq_true (by kernel_rfl)) (by unfold Func.isWrapper;first|(rw[if_pos (by decide+kernel)];kernel_rfl)|(rw[if_neg (by decide+kernel)];exact⟨rfl,rfl⟩))
  (fun os started H enc _=>lifted os started H enc)
theorem proved:Rows.AuditNetworkSaid:=Vx
end Go.Proofs.Ytjpejffimncofaa.auditNetwork
