/-
  The statement PlanErrors: whatever the network and the query, the law returns true and leaves its arguments as they were.
-/
import Derived.Test.YtahphlnjdhnkdaaGreatPF
import Derived.Test.YtahphlnjdhnkdaaGreatRows
import Derived.WalkKit
import Derived.ProofKit
import Derived.OpenShut
import Derived.ChangeOld
import Derived.Below
import Derived.JoinedOf
set_option linter.unusedVariables false
set_option linter.unusedSimpArgs false
namespace Go.Proofs.YtahphlnjdhnkdaaGreat.planErrors
open Go Go.AV Go.ChangeShapes Go.WideShapes Go.ChangeAt Go.RowKit Go.Proofs.Nw
set_option maxHeartbeats 40000000
set_option maxRecDepth 100000
theorem own:ownKnob Tryz.prog.godebug=none:=by kernel_rfl
theorem laidOut:laidOutB Tryz.prog=true:=by kernel_rfl
set_option maxRecDepth 100000 in
theorem lifted(os:Os)(started:os.Started)(H:Type)(enc:TypeId × Value->H):
 ReturnsInHanded {} Tryz.checked os 4 .any (Rows.planErrorsSpec.pre6 enc Tryz.prog Tryz.f4 Rows.planErrorsRow.domain false) (Rows.planErrorsSpec.post enc Tryz.prog Tryz.f4 false true false false):=by
 refine returnsInHanded_of_change (C:=Tryz.checked) own started (by kernel_rfl) Tryz.func4
  (ChangeSpec.witness6 (enc:=enc) (C:=Tryz.checked) false ⟨#[],#[.agg #[.slice none 0 0, .slice none 0 0, .slice none 0 0, .slice none 0 0, .slice none 0 0, .slice none 0 0, .int .i64 0, .int .i64 0, .int .i64 0], .agg #[.int .i64 0, .int .i64 0, .int .i64 0, .bool false, .int .i64 0, .int .i64 0, .bool false, .bool false, .int .i64 0, .bool false]],[]⟩ 20 (by kernel_rfl) (by kernel_rfl) (by kernel_rfl) (by kernel_rfl)) ?_
 intro W base args ds gs before hval0 hW hcnd _
 have hval: ∀(j:Nat) t v,Tryz.f4.params[j]? =some t->args[j]? =some v->Value.okWide Tryz.prog W .any base t v:=hval0
 have hW':=hW
 obtain⟨p,q,hA0,hV,rfl,hfz,hnd⟩:=hW
 have hA:DataW.TrodAll enc Tryz.prog W 0 (fun _=>true) true Tryz.f4.params.toList args.toList ds p:=hA0
 rw[Tryz.params4] at hA hval
 obtain⟨v0,v1,d0,d1,p0,p1,rfl,rfl,rfl,h0,h1⟩:=trodAll_two hA
 obtain⟨rfl,rfl⟩:=trodVars_none hV
 have k0:=h0
 have k1:=h1
 have lt0: ∀x∈p0,x.block<W.heap.size:=by obtain⟨m,hm⟩:=k0;exact DataW.trod_lt m _ _ _ hm
 have lt1: ∀x∈p1,x.block<W.heap.size:=by obtain⟨m,hm⟩:=k1;exact DataW.trod_lt m _ _ _ hm
 have hok0:=hval 0 31 v0 rfl rfl
 have hok1:=hval 1 45 v1 rfl rfl
 obtain⟨fuel0,hf0⟩:=h0
 obtain⟨fuel1,hf1⟩:=h1
 clear hA0 hval0
 have law:Calls Tryz.prog 4 #[v0,v1] W fun e w'=>e= .returned (.bool true)/\Below W.heap.size W w':=by
  obtain⟨N,rfl,hN⟩:=Jx hok0 hf0
  obtain⟨u,rfl⟩:=FQ hok1 hf1
  obtain⟨z,z1,z2,z3,z4⟩:=G1 N.E7 (N.runs.length+6) W (Bb N) (F8 hN)
  have z5:cU (jD N.E7) [.agg ⟨N.V.cells⟩, .agg ⟨u.row⟩] [.agg ⟨N.cells⟩, .agg ⟨u.row⟩]:=Jw hN (fun _ _=>rfl) (.cons _ _ _ _ (VR.ba rfl) .nil)
  refine(wx (Rr (by omega) z2 (Nk hN (fun _ _=>rfl) z4) u) z1 z3 z5).mono fun e w' ⟨x,ρ',v',_,h2,h3,_,_,_,h4⟩=>⟨?_,h4⟩
  rw[h2,h3.plain rfl]
 refine law.mono fun e W' ⟨he,bel⟩=>?_
 subst he
 exact⟨_,rfl,_,_,_,[],_,[],hW',trodAll_mk1 (shut_bool Tryz.underlying4 _),trodAll_mk2 (Below.trod laidOut (by kernel_rfl) (of_decide_eq_true (by kernel_rfl)) k0 bel lt0) (Below.trod laidOut (by kernel_rfl) (of_decide_eq_true (by kernel_rfl)) k1 bel lt1),rfl,bel.frame _,fun h=>by cases h⟩
theorem V4:Tryz.prog.unfollowed 4=true:=by kernel_rfl
theorem Zn:(Rows.planErrorsRow.inPlace==Tryz.prog.inPlace 4)=true:=by kernel_rfl
theorem X3:(Rows.planErrorsRow.named==Tryz.prog.varsNamed 4)=true:=by kernel_rfl
theorem E2:Tryz.prog.recurses 4=true:=by unfold Program.recurses;rw[V4];rfl
theorem TK:(Rows.planErrorsRow.unfollowed==Tryz.prog.unfollowed 4)=true:=by rw[V4];kernel_rfl
theorem T9:(Rows.planErrorsRow.recurses==Tryz.prog.recurses 4)=true:=by rw[E2];kernel_rfl
theorem facts:joinedFacts Tryz.prog 4 Tryz.f4 Rows.planErrorsSpec Rows.planErrorsRow=true:=by
 simp only[joinedFacts,Bool.and_eq_true]
 repeat' apply And.intro
 all_goals first|exact Zn|exact TK|exact T9|exact X3|(as_aux_lemma=>kernel_rfl)
theorem Uf:Rows.planErrorsRow.holds Tryz.pinned (OpenSpec.ofChange Rows.planErrorsSpec):=
 OpenClaim.holds_of_wide 4 Tryz.f4 rfl rfl rfl rfl rfl rfl rfl ⟨rfl,rfl,rfl,rfl,rfl⟩ rfl rfl rfl rfl rfl (by kernel_rfl) Tryz.func4 facts
  (of_decide_eq_true (by kernel_rfl)) (by unfold Func.isWrapper;first|(rw[if_pos (by decide+kernel)];kernel_rfl)|(rw[if_neg (by decide+kernel)];exact⟨rfl,rfl⟩))
  (fun os started H enc _=>lifted os started H enc)
theorem proved:Rows.PlanErrorsSaid:=Uf
end Go.Proofs.YtahphlnjdhnkdaaGreat.planErrors
