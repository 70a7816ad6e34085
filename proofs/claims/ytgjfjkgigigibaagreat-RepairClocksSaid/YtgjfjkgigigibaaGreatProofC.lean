/-
  The statement: whatever comes in, the law returns true and leaves its arguments as they were. No conditions.
-/
import Derived.Test.YtgjfjkgigigibaaGreatQC
import Derived.Test.YtgjfjkgigigibaaGreatRows
import Derived.WalkKit
import Derived.ProofKit
import Derived.OpenShut
import Derived.ChangeOld
import Derived.Below
import Derived.JoinedOf
set_option linter.unusedVariables false
set_option linter.unusedSimpArgs false
namespace Go.Proofs.YtgjfjkgigigibaaGreat.repairClocks
open Go Go.AV Go.ChangeShapes Go.WideShapes Go.ChangeAt Go.RowKit Go.Proofs.Nw
set_option maxHeartbeats 40000000
set_option maxRecDepth 100000
theorem own:ownKnob Tryz.prog.godebug=none:=by kernel_rfl
theorem laidOut:laidOutB Tryz.prog=true:=by kernel_rfl
set_option maxRecDepth 100000 in
theorem lifted(os:Os)(started:os.Started)(H:Type)(enc:TypeId × Value->H):
 ReturnsInHanded {} Tryz.checked os 8 .any (Rows.repairClocksSpec.pre6 enc Tryz.prog Tryz.f8 Rows.repairClocksRow.domain false) (Rows.repairClocksSpec.post enc Tryz.prog Tryz.f8 false true false false):=by
 refine returnsInHanded_of_change (C:=Tryz.checked) own started (by kernel_rfl) Tryz.func8
  (ChangeSpec.witness6 (enc:=enc) (C:=Tryz.checked) false ⟨#[],#[.agg #[.slice none 0 0, .slice none 0 0, .slice none 0 0, .slice none 0 0, .slice none 0 0, .slice none 0 0, .int .i64 0, .int .i64 0, .int .i64 0], .agg #[.slice none 0 0], .agg #[.int .i64 0, .int .i64 0]],[]⟩ 20 (by kernel_rfl) (by kernel_rfl) (by kernel_rfl) (by kernel_rfl)) ?_
 intro W base args ds gs before hval0 hW hcnd _
 have hval: ∀(j:Nat) t v,Tryz.f8.params[j]? =some t->args[j]? =some v->Value.okWide Tryz.prog W .any base t v:=hval0
 have hW':=hW
 obtain⟨p,q,hA0,hV,rfl,hfz,hnd⟩:=hW
 have hA:DataW.TrodAll enc Tryz.prog W 0 (fun _=>true) true Tryz.f8.params.toList args.toList ds p:=hA0
 rw[Tryz.params8] at hA hval
 obtain⟨v0,v1,v2,d0,d1,d2,p0,p1,p2,rfl,rfl,rfl,h0,h1,h2⟩:=trodAll_three hA
 obtain⟨rfl,rfl⟩:=trodVars_none hV
 have k0:=h0
 have k1:=h1
 have k2:=h2
 have lt0: ∀x∈p0,x.block<W.heap.size:=by obtain⟨m,hm⟩:=k0;exact DataW.trod_lt m _ _ _ hm
 have lt1: ∀x∈p1,x.block<W.heap.size:=by obtain⟨m,hm⟩:=k1;exact DataW.trod_lt m _ _ _ hm
 have lt2: ∀x∈p2,x.block<W.heap.size:=by obtain⟨m,hm⟩:=k2;exact DataW.trod_lt m _ _ _ hm
 have hok0:=hval 0 31 v0 rfl rfl
 have hok1:=hval 1 34 v1 rfl rfl
 have hok2:=hval 2 60 v2 rfl rfl
 obtain⟨fuel0,hf0⟩:=h0
 obtain⟨fuel1,hf1⟩:=h1
 obtain⟨fuel2,hf2⟩:=h2
 clear hA0 hval0
 have law:Calls Tryz.prog 8 #[v0,v1,v2] W fun e w'=>e= .returned (.bool true)/\Below W.heap.size W w':=by
  obtain⟨N,rfl,hN⟩:=uq hok0 hf0
  obtain⟨v,l,rfl,hl,hn⟩:=pQ hok1 hf1
  obtain⟨a,b,rfl⟩:=Ra hok2 hf2
  obtain⟨z,F,z1,z2,z3,z4,z6,z7,z8,z9⟩:=zH hN hl hn
  have z5:cU (eQ F) [.agg ⟨N.V.cells⟩, .agg ⟨[.slice (lG (N.runs.length+6) v) (lE v) (lF v)]⟩, .agg ⟨[zv a,zv b]⟩] [.agg ⟨N.cells⟩, .agg ⟨[v]⟩, .agg ⟨[zv a,zv b]⟩]:=z9 _ _ (.cons _ _ _ _ (.agg _ _ (.cons _ _ _ _ z8 .nil)) (.cons _ _ _ _ (VR.aQ rfl) .nil))
  refine(me (OC (J:=⟨lG (N.runs.length+6) v,lE v,lF v⟩) (by omega) z2 z1.own z4 (by omega) (by omega) z7 z6 a b) z1 z3 z5).mono fun e w' ⟨x,ρ',v',_,h2,h3,_,_,_,h4⟩=>⟨?_,h4⟩
  rw[h2,h3.plain rfl]
 refine law.mono fun e W' ⟨he,bel⟩=>?_
 subst he
 exact⟨_,rfl,_,_,_,[],_,[],hW',trodAll_mk1 (shut_bool Tryz.underlying4 _),(List.append_assoc p0 p1 p2 ▸ trodAll_mk3 (Below.trod laidOut (by kernel_rfl) (of_decide_eq_true (by kernel_rfl)) k0 bel lt0) (Below.trod laidOut (by kernel_rfl) (of_decide_eq_true (by kernel_rfl)) k1 bel lt1) (Below.trod laidOut (by kernel_rfl) (of_decide_eq_true (by kernel_rfl)) k2 bel lt2)),rfl,bel.frame _,fun h=>by cases h⟩
theorem unf:Tryz.prog.unfollowed 8=true:=by kernel_rfl
theorem inp:(Rows.repairClocksRow.inPlace==Tryz.prog.inPlace 8)=true:=by kernel_rfl
theorem nam:(Rows.repairClocksRow.named==Tryz.prog.varsNamed 8)=true:=by kernel_rfl
theorem rcs:Tryz.prog.recurses 8=true:=by unfold Program.recurses;rw[unf];rfl
theorem unfB:(Rows.repairClocksRow.unfollowed==Tryz.prog.unfollowed 8)=true:=by rw[unf];kernel_rfl
theorem recB:(Rows.repairClocksRow.recurses==Tryz.prog.recurses 8)=true:=by rw[rcs];kernel_rfl
theorem facts:joinedFacts Tryz.prog 8 Tryz.f8 Rows.repairClocksSpec Rows.repairClocksRow=true:=by
 simp only[joinedFacts,Bool.and_eq_true]
 repeat' apply And.intro
 all_goals first|with_reducible exact inp|with_reducible exact unfB|with_reducible exact recB|with_reducible exact nam|(as_aux_lemma=>kernel_rfl)
theorem over:Rows.repairClocksRow.holds Tryz.pinned (OpenSpec.ofChange Rows.repairClocksSpec):=
 OpenClaim.holds_of_wide 8 Tryz.f8 rfl rfl rfl rfl rfl rfl rfl ⟨rfl,rfl,rfl,rfl,rfl⟩ rfl rfl rfl rfl rfl (by kernel_rfl) Tryz.func8 facts
  (of_decide_eq_true (by kernel_rfl)) (by unfold Func.isWrapper;first|(rw[if_pos (by decide+kernel)];kernel_rfl)|(rw[if_neg (by decide+kernel)];exact⟨rfl,rfl⟩))
  (fun os started H enc _=>lifted os started H enc)
theorem proved:Rows.RepairClocksSaid:=over
end Go.Proofs.YtgjfjkgigigibaaGreat.repairClocks
