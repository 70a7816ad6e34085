/-
  The statement: whatever the network and the rejection, the law returns true and leaves its arguments as they were, where the listed tables lie as the program's text lays them (the card ties them).
-/
import Derived.Test.YtlljgbelbfhcjaaGreatDoorPF
import Derived.Test.YtlljgbelbfhcjaaGreatDoorRows
import Derived.WalkKit
import Derived.ProofKit
import Derived.OpenShut
import Derived.ShutString
import Derived.ChangeOld
import Derived.Below
import Derived.LaidMore
import Derived.Stop.Joined
import Derived.JoinedOf
import Derived.Test.YtlljgbelbfhcjaaGreatDoorCards
import Derived.Test.YtlljgbelbfhcjaaGreatDoorTie
import Derived.SevenTiedAt
set_option linter.unusedVariables false
set_option linter.unusedSimpArgs false
namespace Go.Proofs.YtlljgbelbfhcjaaGreatDoor.rejectTexts
open Go Go.AV Go.ChangeShapes Go.WideShapes Go.ChangeAt Go.RowKit Go.Proofs.Nw
set_option maxHeartbeats 40000000
set_option maxRecDepth 100000
theorem own:ownKnob Tryz.prog.godebug=none:=by kernel_rfl
theorem laidOut:laidOutB Tryz.prog=true:=by kernel_rfl
set_option maxRecDepth 100000 in
theorem H4(os:Os)(args:Array Value):laidMetH Tryz.prog wu ((World.doorLaid Tryz.prog 24 os).forCall (fun _ _=>0) ⟨#[],args,[]⟩).memory:=
 laidMetH_of_parts3 (fuel:=8) (laidMet_of_run' 8 (by kernel_rfl) (by kernel_rfl)) (by kernel_rfl) (by kernel_rfl)
set_option maxRecDepth 100000 in
theorem lifted(os:Os)(started:os.Started)(H:Type)(enc:TypeId × Value->H):
 ReturnsInHanded {} Tryz.checked os 3 .any (fun w args=>(Rows.rejectTextsSpec.pre enc Tryz.prog Tryz.f3 [] false w args/\laidMetH Tryz.prog wu w)/\sizedMet enc Tryz.prog Tryz.f3 (OpenSpec.ofChange Rows.rejectTextsSpec) false w args) (Rows.rejectTextsSpec.post enc Tryz.prog Tryz.f3 false true false false):=by
 refine returnsInHanded_of_change_and (C:=Tryz.checked) (X:=fun w _=>laidMetH Tryz.prog wu w) (fun _ _ _ hh h=>h.of_heap hh) own started (by kernel_rfl) Tryz.func3
  (ChangeSpec.witness_shaped (enc:=enc) (C:=Tryz.checked) (os:=os) (X:=fun w _=>laidMetH Tryz.prog wu w) false (World.doorLaid Tryz.prog 24 os) #[.agg #[.slice none 0 0, .slice none 0 0, .slice none 0 0, .slice none 0 0, .slice none 0 0, .slice none 0 0, .int .i64 0, .int .i64 0, .int .i64 0], .agg #[.int .i64 0, .int .i64 0, .int .i64 0, .int .i64 0]] 20 rfl (World.shaped_of_RefB (by kernel_rfl) (by kernel_rfl)) (by kernel_rfl) (by kernel_rfl) (by kernel_rfl) (H4 os _)) ?_
 intro W base args ds gs before hval0 hW hcnd _ hL _
 have hval: ∀(j:Nat) t v,Tryz.f3.params[j]? =some t->args[j]? =some v->Value.okWide Tryz.prog W .any base t v:=hval0
 have hW':=hW
 obtain⟨p,q,hA0,hV,rfl,hfz,hnd⟩:=hW
 have hA:DataW.TrodAll enc Tryz.prog W 0 (fun _=>true) true Tryz.f3.params.toList args.toList ds p:=hA0
 rw[Tryz.params3] at hA hval
 obtain⟨v0,v1,d0,d1,p0,p1,rfl,rfl,rfl,h0,h1⟩:=trodAll_two hA
 obtain⟨rfl,rfl⟩:=trodVars_none hV
 have k0:=h0
 have k1:=h1
 have lt0: ∀x∈p0,x.block<W.heap.size:=by obtain⟨m,hm⟩:=k0;exact DataW.trod_lt m _ _ _ hm
 have lt1: ∀x∈p1,x.block<W.heap.size:=by obtain⟨m,hm⟩:=k1;exact DataW.trod_lt m _ _ _ hm
 have hok0:=hval 0 31 v0 rfl rfl
 have hok1:=hval 1 34 v1 rfl rfl
 obtain⟨fuel0,hf0⟩:=h0
 obtain⟨fuel1,hf1⟩:=h1
 clear hA0 hval0
 have law:Calls Tryz.prog 3 #[v0,v1] W fun e w'=>e= .returned (.bool true)/\Below W.heap.size W w':=by
  obtain⟨N,rfl,hN⟩:=Kf hok0 hf0
  obtain⟨k,l,e,o,hl,ho,rfl⟩:=N4 hok1 hf1
  exact Ww hN k l e o hl ho (zb hL)
 refine law.mono fun e W' ⟨he,Dz⟩=>?_
 subst he
 exact⟨_,rfl,_,_,_,[],_,[],hW',trodAll_mk1 (shut_bool Tryz.underlying4 _),trodAll_mk2 (Below.trod laidOut (by kernel_rfl) (of_decide_eq_true (by kernel_rfl)) k0 Dz lt0) (Below.trod laidOut (by kernel_rfl) (of_decide_eq_true (by kernel_rfl)) k1 Dz lt1),rfl,Dz.frame _,fun h=>by cases h⟩
theorem XU:Tryz.prog.unfollowed 3=true:=by kernel_rfl
theorem inp:(Rows.rejectTextsRow.inPlace==Tryz.prog.inPlace 3)=true:=by kernel_rfl
theorem nam:(Rows.rejectTextsRow.named==Tryz.prog.varsNamed 3)=true:=by kernel_rfl
theorem J5:Tryz.prog.recurses 3=true:=by unfold Program.recurses;rw[XU];rfl
theorem Vj:(Rows.rejectTextsRow.unfollowed==Tryz.prog.unfollowed 3)=true:=by rw[XU];kernel_rfl
theorem VG:(Rows.rejectTextsRow.recurses==Tryz.prog.recurses 3)=true:=by rw[J5];kernel_rfl
theorem facts:joinedFacts Tryz.prog 3 Tryz.f3 Rows.rejectTextsSpec Rows.rejectTextsRow=true:=by
 simp only[joinedFacts,Bool.and_eq_true]
 repeat' apply And.intro
 all_goals first|with_reducible exact inp|with_reducible exact Vj|with_reducible exact VG|with_reducible exact nam|(as_aux_lemma=>kernel_rfl)
theorem over:Rows.rejectTextsRow.holds Tryz.pinned (OpenSpec.ofChange Rows.rejectTextsSpec):=
 OpenClaim.holds_of_wide 3 Tryz.f3 rfl rfl rfl rfl rfl rfl rfl ⟨rfl,rfl,rfl,rfl,rfl⟩ rfl rfl rfl rfl rfl (by kernel_rfl) Tryz.func3 facts
  (of_decide_eq_true (by kernel_rfl)) (by unfold Func.isWrapper;first|(rw[if_pos (by decide+kernel)];kernel_rfl)|(rw[if_neg (by decide+kernel)];exact⟨rfl,rfl⟩))
  (fun os started H enc _=>lifted os started H enc)
theorem card:Rows.RejectTextsCardSaid:=
 Claim7.holds_tied_plain_at .later [] [.data, .data, .data] true (true,"5ee85cc70cf81cdaf63f4c65531163e24bac8b94bcf99d62809c9123e30a98ee") false
  over (fun _ h=>by cases h) (by kernel_rfl) (fun _ h=>by cases h) rejectTexts_row_tie rfl ⟨rfl,rfl⟩ (by kernel_rfl) rfl
  (fun f fn hf hfn=>by
    obtain rfl:f=3:=Option.some.inj ((show Tryz.prog.funcNamed "transit/transitlaw48.RejectTexts" =some 3 by kernel_rfl).symm.trans hf)|>.symm
    obtain rfl:fn=Tryz.f3:=(Option.some.inj (Tryz.func3.symm.trans hfn)).symm
    exact⟨by kernel_rfl,fun j t ht=>by
     rw[Tryz.params3] at ht
     have hm:t∈[31,34]:=by simpa using Array.mem_of_getElem? ht
     have hall:([31,34].all fun u=> !Tryz.prog.wantsStandIn u)=true:=by kernel_rfl
     exact(show Tryz.prog.wantsStandIn t=false by simpa using List.all_eq_true.1 hall t hm)⟩)
  (by kernel_rfl)
end Go.Proofs.YtlljgbelbfhcjaaGreatDoor.rejectTexts
