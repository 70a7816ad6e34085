/-
  The statement: whatever the network and the options, the law returns true and leaves its arguments as they were, where the listed tables lie as the program's text lays them (the card ties them).
-/
import Derived.Test.YtglogmeapcdmeaaGreatDoorPG
import Derived.Test.YtglogmeapcdmeaaGreatDoorRows
import Derived.WalkKit
import Derived.ProofKit
import Derived.OpenShut
import Derived.ShutString
import Derived.ChangeOld
import Derived.Below
import Derived.LaidMore
import Derived.Stop.Joined
import Derived.JoinedOf
import Derived.Test.YtglogmeapcdmeaaGreatDoorCards
import Derived.Test.YtglogmeapcdmeaaGreatDoorTie
import Derived.SevenTiedAt
set_option linter.unusedVariables false
set_option linter.unusedSimpArgs false
namespace Go.Proofs.YtglogmeapcdmeaaGreatDoor.planText
open Go Go.AV Go.ChangeShapes Go.WideShapes Go.ChangeAt Go.RowKit Go.Proofs.Nw
set_option maxHeartbeats 40000000
set_option maxRecDepth 100000
theorem own:ownKnob Tryz.prog.godebug=none:=by kernel_rfl
theorem laidOut:laidOutB Tryz.prog=true:=by kernel_rfl
set_option maxRecDepth 100000 in
theorem Jj(os:Os)(args:Array Value):laidMetH Tryz.prog xb ((World.doorLaid Tryz.prog 24 os).forCall (fun _ _=>0) ⟨#[],args,[]⟩).memory:=
 laidMetH_of_parts3 (fuel:=8) (laidMet_of_run' 8 (by kernel_rfl) (by kernel_rfl)) (by kernel_rfl) (by kernel_rfl)
set_option maxRecDepth 100000 in
theorem lifted(os:Os)(started:os.Started)(H:Type)(enc:TypeId × Value->H):
 ReturnsInHanded {} Tryz.checked os 3 .any (fun w args=>(Rows.planTextSpec.pre enc Tryz.prog Tryz.f3 [] false w args/\laidMetH Tryz.prog xb w)/\sizedMet enc Tryz.prog Tryz.f3 (OpenSpec.ofChange Rows.planTextSpec) false w args) (Rows.planTextSpec.post enc Tryz.prog Tryz.f3 false true false false):=by
 refine returnsInHanded_of_change_and (C:=Tryz.checked) (X:=fun w _=>laidMetH Tryz.prog xb w) (fun _ _ _ hh h=>h.of_heap hh) own started (by kernel_rfl) Tryz.func3
  (ChangeSpec.witness_shaped (enc:=enc) (C:=Tryz.checked) (os:=os) (X:=fun w _=>laidMetH Tryz.prog xb w) false (World.doorLaid Tryz.prog 24 os) #[.agg #[.slice none 0 0, .slice none 0 0, .slice none 0 0, .slice none 0 0, .slice none 0 0, .slice none 0 0, .int .i64 0, .int .i64 0, .int .i64 0], .slice none 0 0] 20 rfl (World.shaped_of_RefB (by kernel_rfl) (by kernel_rfl)) (by kernel_rfl) (by kernel_rfl) (by kernel_rfl) (Jj os _)) ?_
 intro W base args ds gs before hval0 hW hcnd _ hL _
 have hval: ∀(j:Nat) t v,Tryz.f3.params[j]? =some t->args[j]? =some v->Value.okWide Tryz.prog W .any base t v:=hval0
 have hW':=hW
 obtain⟨p,q,hA0,hV,rfl,hfz,hnd⟩:=hW
 have hA:DataW.TrodAll enc Tryz.prog W 0 (fun _=>true) true Tryz.f3.params.toList args.toList ds p:=hA0
 rw[Tryz.params3] at hA hval
 obtain⟨v0,v1,d0,d1,p0,p1,rfl,rfl,rfl,h0,h1⟩:=trodAll_two hA
 obtain⟨rfl,rfl⟩:=trodVars_none hV
 have k0:=h0
 have k1:=h1
 have lt0: ∀x∈p0,x.block<W.heap.size:=by obtain⟨m,hm⟩:=k0;exact DataW.trod_lt m _ _ _ hm
 have lt1: ∀x∈p1,x.block<W.heap.size:=by obtain⟨m,hm⟩:=k1;exact DataW.trod_lt m _ _ _ hm
 have hok0:=hval 0 31 v0 rfl rfl
 have hok1:=hval 1 32 v1 rfl rfl
 obtain⟨fuel0,hf0⟩:=h0
 obtain⟨fuel1,hf1⟩:=h1
 clear hA0 hval0
 have law:Calls Tryz.prog 3 #[v0,v1] W fun e w'=>e= .returned (.bool true)/\Below W.heap.size W w':=by
  obtain⟨N,rfl,hN⟩:=LH hok0 hf0
  obtain⟨L,hS,hO⟩:=Lz hok1 hf1
  exact W7 hN hS hO (z8 hL)
 refine law.mono fun e W' ⟨he,du⟩=>?_
 subst he
 exact⟨_,rfl,_,_,_,[],_,[],hW',trodAll_mk1 (shut_bool Tryz.underlying4 _),trodAll_mk2 (Below.trod laidOut (by kernel_rfl) (of_decide_eq_true (by kernel_rfl)) k0 du lt0) (Below.trod laidOut (by kernel_rfl) (of_decide_eq_true (by kernel_rfl)) k1 du lt1),rfl,du.frame _,fun h=>by cases h⟩
theorem Zq:Tryz.prog.unfollowed 3=true:=by kernel_rfl
theorem inp:(Rows.planTextRow.inPlace==Tryz.prog.inPlace 3)=true:=by kernel_rfl
theorem nam:(Rows.planTextRow.named==Tryz.prog.varsNamed 3)=true:=by kernel_rfl
theorem Lq:Tryz.prog.recurses 3=true:=by unfold Program.recurses;rw[Zq];rfl
theorem V9:(Rows.planTextRow.unfollowed==Tryz.prog.unfollowed 3)=true:=by rw[Zq];kernel_rfl
theorem Wx:(Rows.planTextRow.recurses==Tryz.prog.recurses 3)=true:=by rw[Lq];kernel_rfl
theorem facts:joinedFacts Tryz.prog 3 Tryz.f3 Rows.planTextSpec Rows.planTextRow=true:=by
 simp only[joinedFacts,Bool.and_eq_true]
 repeat' apply And.intro
 all_goals first|with_reducible exact inp|with_reducible exact V9|with_reducible exact Wx|with_reducible exact nam|(as_aux_lemma=>kernel_rfl)
theorem over:Rows.planTextRow.holds Tryz.pinned (OpenSpec.ofChange Rows.planTextSpec):=
 OpenClaim.holds_of_wide 3 Tryz.f3 rfl rfl rfl rfl rfl rfl rfl ⟨rfl,rfl,rfl,rfl,rfl⟩ rfl rfl rfl rfl rfl (by kernel_rfl) Tryz.func3 facts
  (of_decide_eq_true (by kernel_rfl)) (by unfold Func.isWrapper;first|(rw[if_pos (by decide+kernel)];kernel_rfl)|(rw[if_neg (by decide+kernel)];exact⟨rfl,rfl⟩))
  (fun os started H enc _=>lifted os started H enc)
theorem card:Rows.PlanTextCardSaid:=
 Claim7.holds_tied_plain_at .later [] [.data, .data, .data] true (true,"6412d759a89450e94c8d6525a2b31e868188af779276ad92e8f03a4dfbbc2145") false
  over (fun _ h=>by cases h) (by kernel_rfl) (fun _ h=>by cases h) planText_row_tie rfl ⟨rfl,rfl⟩ (by kernel_rfl) rfl
  (fun f fn hf hfn=>by
    obtain rfl:f=3:=Option.some.inj ((show Tryz.prog.funcNamed "transit/transitlaw46.PlanText" =some 3 by kernel_rfl).symm.trans hf)|>.symm
    obtain rfl:fn=Tryz.f3:=(Option.some.inj (Tryz.func3.symm.trans hfn)).symm
    exact⟨by kernel_rfl,fun j t ht=>by
     rw[Tryz.params3] at ht
     have hm:t∈[31,32]:=by simpa using Array.mem_of_getElem? ht
     have hall:([31,32].all fun u=> !Tryz.prog.wantsStandIn u)=true:=by kernel_rfl
     exact(show Tryz.prog.wantsStandIn t=false by simpa using List.all_eq_true.1 hall t hm)⟩)
  (by kernel_rfl)
end Go.Proofs.YtglogmeapcdmeaaGreatDoor.planText
