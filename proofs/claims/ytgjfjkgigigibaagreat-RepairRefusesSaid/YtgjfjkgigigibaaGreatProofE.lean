/-
  The statement: whatever comes in, the law returns true and leaves its arguments as they were. No conditions.
-/
import Derived.Test.YtgjfjkgigigibaaGreatQE
import Derived.Test.YtgjfjkgigigibaaGreatRows
import Derived.WalkKit
import Derived.ProofKit
import Derived.OpenShut
import Derived.ChangeOld
import Derived.Below
import Derived.JoinedOf
set_option linter.unusedVariables false
set_option linter.unusedSimpArgs false
namespace Go.Proofs.YtgjfjkgigigibaaGreat.repairRefuses
open Go Go.AV Go.ChangeShapes Go.WideShapes Go.ChangeAt Go.RowKit Go.Proofs.Nw
set_option maxHeartbeats 40000000
set_option maxRecDepth 100000
theorem own:ownKnob Tryz.prog.godebug=none:=by kernel_rfl
theorem laidOut:laidOutB Tryz.prog=true:=by kernel_rfl
set_option maxRecDepth 100000 in
theorem lifted(os:Os)(started:os.Started)(H:Type)(enc:TypeId × Value->H):
 ReturnsInHanded {} Tryz.checked os 6 .any (Rows.repairRefusesSpec.pre6 enc Tryz.prog Tryz.f6 Rows.repairRefusesRow.domain false) (Rows.repairRefusesSpec.post enc Tryz.prog Tryz.f6 false true false false):=by
 refine returnsInHanded_of_change (C:=Tryz.checked) own started (by kernel_rfl) Tryz.func6
  (ChangeSpec.witness6 (enc:=enc) (C:=Tryz.checked) false ⟨#[],#[.agg #[.slice none 0 0, .slice none 0 0, .slice none 0 0, .slice none 0 0, .slice none 0 0, .slice none 0 0, .int .i64 0, .int .i64 0, .int .i64 0], .agg #[.int .i64 0, .int .i64 0, .int .i64 0, .bool false, .int .i64 0, .int .i64 0, .bool false, .bool false, .int .i64 0, .bool false, .slice none 0 0, .int .i64 0]],[]⟩ 20 (by kernel_rfl) (by kernel_rfl) (by kernel_rfl) (by kernel_rfl)) ?_
 intro W base args ds gs before hval0 hW hcnd _
 have hval: ∀(j:Nat) t v,Tryz.f6.params[j]? =some t->args[j]? =some v->Value.okWide Tryz.prog W .any base t v:=hval0
 have hW':=hW
 obtain⟨p,q,hA0,hV,rfl,hfz,hnd⟩:=hW
 have hA:DataW.TrodAll enc Tryz.prog W 0 (fun _=>true) true Tryz.f6.params.toList args.toList ds p:=hA0
 rw[Tryz.params6] at hA hval
 obtain⟨v0,v1,d0,d1,p0,p1,rfl,rfl,rfl,h0,h1⟩:=trodAll_two hA
 obtain⟨rfl,rfl⟩:=trodVars_none hV
 have k0:=h0
 have k1:=h1
 have lt0: ∀x∈p0,x.block<W.heap.size:=by obtain⟨m,hm⟩:=k0;exact DataW.trod_lt m _ _ _ hm
 have lt1: ∀x∈p1,x.block<W.heap.size:=by obtain⟨m,hm⟩:=k1;exact DataW.trod_lt m _ _ _ hm
 have hok0:=hval 0 31 v0 rfl rfl
 have hok1:=hval 1 54 v1 rfl rfl
 obtain⟨fuel0,hf0⟩:=h0
 obtain⟨fuel1,hf1⟩:=h1
 clear hA0 hval0
 have law:Calls Tryz.prog 6 #[v0,v1] W fun e w'=>e= .returned (.bool true)/\Below W.heap.size W w':=by
  obtain⟨N,rfl,hN⟩:=uq hok0 hf0
  obtain⟨u,v,now,l,rfl,hl,hn⟩:=Ok hok1 hf1
  obtain⟨z,F,z1,z2,z3,z4,z6,z7,z8,z9⟩:=zH hN hl hn
  have z5:cU (eQ F) [.agg ⟨N.V.cells⟩,n6 u ⟨lG (N.runs.length+6) v,lE v,lF v⟩ now] [.agg ⟨N.cells⟩, .agg ⟨Ks u v now⟩]:=z9 _ _ (.cons _ _ _ _ (.agg _ _ (.cons _ _ _ _ (VR.aQ rfl) (.cons _ _ _ _ (VR.aQ rfl) (.cons _ _ _ _ (VR.aQ rfl) (.cons _ _ _ _ (VR.aQ rfl) (.cons _ _ _ _ (VR.aQ rfl) (.cons _ _ _ _ (VR.aQ rfl) (.cons _ _ _ _ (VR.aQ rfl) (.cons _ _ _ _ (VR.aQ rfl) (.cons _ _ _ _ (VR.aQ rfl) (.cons _ _ _ _ (VR.aQ rfl) (.cons _ _ _ _ z8 (.cons _ _ _ _ (VR.aQ rfl) .nil))))))))))))) .nil)
  refine(me (OD (J:=⟨lG (N.runs.length+6) v,lE v,lF v⟩) (by omega) z2 z4 (by omega) (by omega) z7 z6 u now) z1 z3 z5).mono fun e w' ⟨x,ρ',v',_,h2,h3,_,_,_,h4⟩=>⟨?_,h4⟩
  rw[h2,h3.plain rfl]
 refine law.mono fun e W' ⟨he,bel⟩=>?_
 subst he
 exact⟨_,rfl,_,_,_,[],_,[],hW',trodAll_mk1 (shut_bool Tryz.underlying4 _),trodAll_mk2 (Below.trod laidOut (by kernel_rfl) (of_decide_eq_true (by kernel_rfl)) k0 bel lt0) (Below.trod laidOut (by kernel_rfl) (of_decide_eq_true (by kernel_rfl)) k1 bel lt1),rfl,bel.frame _,fun h=>by cases h⟩
theorem unf:Tryz.prog.unfollowed 6=true:=by kernel_rfl
theorem inp:(Rows.repairRefusesRow.inPlace==Tryz.prog.inPlace 6)=true:=by kernel_rfl
theorem nam:(Rows.repairRefusesRow.named==Tryz.prog.varsNamed 6)=true:=by kernel_rfl
theorem rcs:Tryz.prog.recurses 6=true:=by unfold Program.recurses;rw[unf];rfl
theorem unfB:(Rows.repairRefusesRow.unfollowed==Tryz.prog.unfollowed 6)=true:=by rw[unf];kernel_rfl
theorem recB:(Rows.repairRefusesRow.recurses==Tryz.prog.recurses 6)=true:=by rw[rcs];kernel_rfl
theorem facts:joinedFacts Tryz.prog 6 Tryz.f6 Rows.repairRefusesSpec Rows.repairRefusesRow=true:=by
 simp only[joinedFacts,Bool.and_eq_true]
 repeat' apply And.intro
 all_goals first|with_reducible exact inp|with_reducible exact unfB|with_reducible exact recB|with_reducible exact nam|(as_aux_lemma=>kernel_rfl)
theorem over:Rows.repairRefusesRow.holds Tryz.pinned (OpenSpec.ofChange Rows.repairRefusesSpec):=
 OpenClaim.holds_of_wide 6 Tryz.f6 rfl rfl rfl rfl rfl rfl rfl ⟨rfl,rfl,rfl,rfl,rfl⟩ rfl rfl rfl rfl rfl (by kernel_rfl) Tryz.func6 facts
  (of_decide_eq_true (by kernel_rfl)) (by unfold Func.isWrapper;first|(rw[if_pos (by decide+kernel)];kernel_rfl)|(rw[if_neg (by decide+kernel)];exact⟨rfl,rfl⟩))
  (fun os started H enc _=>lifted os started H enc)
theorem proved:Rows.RepairRefusesSaid:=over
end Go.Proofs.YtgjfjkgigigibaaGreat.repairRefuses
