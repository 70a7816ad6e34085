/-
  Whatever the timetable, the law AuditTimetable returns true and leaves its argument as it was; no conditions.
-/
import Derived.Test.YtamocmgfbonodaaGreatTt
import Derived.Test.YtamocmgfbonodaaGreatXRa
import Derived.Test.YtamocmgfbonodaaGreatRows
import Derived.WalkKit
import Derived.ProofKit
import Derived.OpenShut
import Derived.ChangeOld
import Derived.Below
set_option linter.unusedVariables false
set_option linter.unusedSimpArgs false
namespace Go.Proofs.Tt
open Go Go.Proofs Go.AV
open Go.RowKit Go.Maps Go.Shelf
set_option maxRecDepth 1000000

theorem ex5 (w : World) : Calls Tryz.prog 5 #[] w fun e w' => e = .returned (.bool true) ∧ Below w.heap.size w w' :=
  (calls_of_ent e1_ok w).mono fun e w' ⟨h1, h2, h3, h4, h5, h6⟩ => ⟨h1, h2, h3, h4, h5, h6⟩

theorem fdL_len {t : TT} (h : t.small) : (fdL t).length < 100000 := by
  have h1 := wacc_le h 7
  unfold fdL
  split
  · simp
  · rename_i h0
    have e : wrnL t = wacc t 7 := by unfold wrnL; rw [if_neg h0]
    rw [e, List.length_map]
    omega

set_option maxHeartbeats 3200000 in
theorem law3 (t : TT) (w : World) (hok : t.lies w) : Calls Tryz.prog 3 #[t.val] w fun e w' => e = .returned (.bool true) ∧ Below w.heap.size w w' := by
  obtain ⟨W0, hW0⟩ : ∃ W0, w.alloc (Obj.cells t.cells 35) = W0 := ⟨_, rfl⟩
  have hbx : w.heap.size < W0.heap.size := by rw [← hW0]; simp
  have HB0 := Lib.hid (show Below w.heap.size w W0 by rw [← hW0]; exact blA (bl0 _) _)
  have hcl : ∀ k v, t.cells[k]? = some v → W0.cell? ⟨w.heap.size, k, none⟩ = some v := fun k v hk => by rw [← hW0]; exact boxC _ _ _ k _ hk
  have HW0 := Lib.hid (show w.alloc (Obj.cells #[.slice t.a0 t.st.length t.c0, .slice t.a1 t.ro.length t.c1, .slice t.a2 t.ca.length t.c2, .slice t.a3 t.ex.length t.c3, .slice t.a4 t.tr.length t.c4, .slice t.a5 t.fq.length t.c5, .slice t.a6 t.th.length t.c6, .slice t.a7 t.gu.length t.c7, .slice t.a8 t.pa.length t.c8, .slice t.a9 t.pr.length t.c9, .int .i64 t.d, .int .i64 t.wi, .int .i64 t.cp] 35) = W0 from hW0)
  have x0 : W0.cell? ⟨w.heap.size, 0, none⟩ = some (.slice t.a0 t.st.length t.c0) := hcl 0 _ rfl
  have x1 : W0.cell? ⟨w.heap.size, 1, none⟩ = some (.slice t.a1 t.ro.length t.c1) := hcl 1 _ rfl
  have x2 : W0.cell? ⟨w.heap.size, 2, none⟩ = some (.slice t.a2 t.ca.length t.c2) := hcl 2 _ rfl
  have x3 : W0.cell? ⟨w.heap.size, 3, none⟩ = some (.slice t.a3 t.ex.length t.c3) := hcl 3 _ rfl
  have x4 : W0.cell? ⟨w.heap.size, 4, none⟩ = some (.slice t.a4 t.tr.length t.c4) := hcl 4 _ rfl
  have x5 : W0.cell? ⟨w.heap.size, 5, none⟩ = some (.slice t.a5 t.fq.length t.c5) := hcl 5 _ rfl
  have x6 : W0.cell? ⟨w.heap.size, 6, none⟩ = some (.slice t.a6 t.th.length t.c6) := hcl 6 _ rfl
  have x7 : W0.cell? ⟨w.heap.size, 7, none⟩ = some (.slice t.a7 t.gu.length t.c7) := hcl 7 _ rfl
  have x8 : W0.cell? ⟨w.heap.size, 8, none⟩ = some (.slice t.a8 t.pa.length t.c8) := hcl 8 _ rfl
  have x9 : W0.cell? ⟨w.heap.size, 9, none⟩ = some (.slice t.a9 t.pr.length t.c9) := hcl 9 _ rfl
  have xa : W0.cell? ⟨w.heap.size, 10, none⟩ = some (.int .i64 t.d) := hcl 10 _ rfl
  have xb : W0.cell? ⟨w.heap.size, 11, none⟩ = some (.int .i64 t.wi) := hcl 11 _ rfl
  have xc : W0.cell? ⟨w.heap.size, 12, none⟩ = some (.int .i64 t.cp) := hcl 12 _ rfl
  have HL := Lib.hid (light4 t W0 (hok.below HB0.out))
  have HOK := Lib.hid hok
  clear hW0 hok hcl
  cases hl : lightB t with
  | false =>
    rw [hl] at HL
    clear hl
    go_enter Tryz.func3, Tryz.ntmps3
    go_upto_region 1 with (fail)
    rw [HW0.out]
    go_wp2_with (first | (go_at_call 4; refine HL.out.mono ?_; rintro e w2 ⟨rfl, hb2⟩) | (go_at_call 5; refine (ex5 _).mono ?_; rintro e w3 ⟨rfl, hb3⟩))
    go_ret
    exact ⟨rfl, blt (blt HB0.out hb2) hb3⟩
  | true =>
    rw [hl] at HL
    obtain ⟨hk, hsm⟩ := HOK.out.ok hl
    have C7 := Lib.hid (fun wx (h : Below W0.heap.size W0 wx) => tim7 t wx (hk.below (blt HB0.out h)) hsm)
    have C8 := Lib.hid (fun wx (h : Below W0.heap.size W0 wx) => of8 t wx (hk.below (blt HB0.out h)) hsm)
    have hlen := fdL_len hsm
    obtain ⟨L, hL⟩ : ∃ L, fdL t = L := ⟨_, rfl⟩
    rw [hL] at C7 C8 hlen
    have HLN := Lib.hid hlen
    clear hl hk hsm hL HOK hlen
    go_enter Tryz.func3, Tryz.ntmps3
    go_upto_region 1 with (fail)
    rw [HW0.out]
    go_upto_region 3 with ((go_at_call 4; refine HL.out.mono ?_; rintro e w2 ⟨rfl, hb2⟩))
    have HB2 := Lib.hid hb2
    have y0 := keepC hb2 hbx x0
    have y1 := keepC hb2 hbx x1
    have y2 := keepC hb2 hbx x2
    have y3 := keepC hb2 hbx x3
    have y4 := keepC hb2 hbx x4
    have y5 := keepC hb2 hbx x5
    have y6 := keepC hb2 hbx x6
    have y7 := keepC hb2 hbx x7
    have y8 := keepC hb2 hbx x8
    have y9 := keepC hb2 hbx x9
    have ya := keepC hb2 hbx xa
    have yb := keepC hb2 hbx xb
    have yc := keepC hb2 hbx xc
    have hbx2 : w.heap.size < w2.heap.size := Nat.lt_of_lt_of_le hbx hb2.size
    clear x0 x1 x2 x3 x4 x5 x6 x7 x8 x9 xa xb xc hbx hb2 HL
    go_region_held3 (fun wx => KS w2 wx)
      (first | assumption | (exact KS.mk' (bl0 _)) | (exact KS.mk' (blD (bl0 _))) | (exact KS.step (by assumption) (by assumption)))
      (first | (go_at_call 7; refine (C7.out _ (blt HB2.out (And.left (by assumption)))).mono ?_; rintro e wa ⟨a1, c1, rfl, hx1, hb1⟩) | (go_at_call 8; refine (C8.out _ (blt HB2.out (And.left (by assumption)))).mono ?_; rintro e wb ⟨a2, c2, rfl, hx2, hb2⟩) | (go_at_call 6; refine (same6 L a1 a2 c1 c2 _ (hx1.below hb2) hx2 HLN.out).mono ?_; rintro e wd ⟨rfl, hb3⟩) | (go_at_call 5; refine (ex5 _).mono ?_; rintro e we ⟨rfl, hb4⟩))
    rename_i hH
    have HH := Lib.hid hH.1
    clear hH
    go_wp2
    go_ret
    exact ⟨rfl, blt (blt HB0.out HB2.out) HH.out⟩
end Go.Proofs.Tt

namespace Go.Proofs.YtamocmgfbonodaaGreat.auditTimetable
open Go Go.ChangeShapes Go.WideShapes Go.ChangeAt Go.RowKit Go.Proofs.Tt
set_option linter.unusedVariables false

theorem own : ownKnob Tryz.prog.godebug = none := by kernel_rfl
theorem laidOut : laidOutB Tryz.prog = true := by kernel_rfl

set_option maxRecDepth 100000 in
theorem lifted (os : Os) (started : os.Started) (H : Type) (enc : TypeId × Value → H) :
    ReturnsInHanded {} Tryz.checked os 3 .any (Rows.auditTimetableSpec.pre6 enc Tryz.prog Tryz.f3 Rows.auditTimetableRow.domain false) (Rows.auditTimetableSpec.post enc Tryz.prog Tryz.f3 false true false false) := by
  refine returnsInHanded_of_change (C := Tryz.checked) own started (by kernel_rfl) Tryz.func3
    (ChangeSpec.witness6 (enc := enc) (C := Tryz.checked) false ⟨#[], #[.agg #[.slice none 0 0, .slice none 0 0, .slice none 0 0, .slice none 0 0, .slice none 0 0, .slice none 0 0, .slice none 0 0, .slice none 0 0, .slice none 0 0, .slice none 0 0, .int .i64 0, .int .i64 0, .int .i64 0]], []⟩ 20 (by kernel_rfl) (by kernel_rfl) (by kernel_rfl) (by kernel_rfl)) ?_
  intro W base args ds gs before hval0 hW hcnd _
  have hval : ∀ (j : Nat) t v, Tryz.f3.params[j]? = some t → args[j]? = some v → Value.okWide Tryz.prog W .any base t v := hval0
  have hW' := hW
  obtain ⟨p, q, hA0, hV, rfl, hfz, hnd⟩ := hW
  have hA : DataW.TrodAll enc Tryz.prog W 0 (fun _ => true) true Tryz.f3.params.toList args.toList ds p := hA0
  rw [Tryz.params3] at hA hval
  obtain ⟨v0, vs0, d0, ds0, p0, q0, hargs, rfl, rfl, h0, r0⟩ := trodAll_cons hA
  obtain ⟨rfl, rfl, rfl⟩ := trodAll_nil r0
  obtain rfl : args = #[v0] := by cases args; simp_all
  obtain ⟨rfl, rfl⟩ := trodVars_none hV
  have k0 := h0
  have lt0 : ∀ x ∈ p0, x.block < W.heap.size := by obtain ⟨m, hm⟩ := k0; exact DataW.trod_lt m _ _ _ hm
  have hok := hval 0 35 v0 rfl rfl
  obtain ⟨fuel, hf⟩ := h0
  clear hA0 hval0
  have law : Calls Tryz.prog 3 #[v0] W fun e w' => e = .returned (.bool true) ∧ Below W.heap.size W w' := by
    obtain ⟨t, rfl, ht⟩ := tt_in hok hf
    exact law3 t W ht
  refine law.mono fun e W' ⟨he, bel⟩ => ?_
  subst he
  exact ⟨_, rfl, _, _, _, [], _, [], hW', trodAll_mk1 (shut_bool Tryz.underlying4 _), (trodAll_cons_mk (Below.trod laidOut (by kernel_rfl) (of_decide_eq_true (by kernel_rfl)) k0 bel lt0) trodAll_mk0), rfl, bel.frame _, fun h => by cases h⟩

/-! the row's facts, one by one -/
set_option maxRecDepth 100000
set_option maxHeartbeats 40000000
theorem unf : Tryz.prog.unfollowed 3 = true := by kernel_rfl
theorem inp : (Rows.auditTimetableRow.inPlace == Tryz.prog.inPlace 3) = true := by kernel_rfl
theorem nam : (Rows.auditTimetableRow.named == Tryz.prog.varsNamed 3) = true := by kernel_rfl
theorem rcs : Tryz.prog.recurses 3 = true := by unfold Program.recurses; rw [unf]; rfl
theorem unfB : (Rows.auditTimetableRow.unfollowed == Tryz.prog.unfollowed 3) = true := by rw [unf]; kernel_rfl
theorem recB : (Rows.auditTimetableRow.recurses == Tryz.prog.recurses 3) = true := by rw [rcs]; kernel_rfl
theorem facts : joinedFacts Tryz.prog 3 Tryz.f3 Rows.auditTimetableSpec Rows.auditTimetableRow = true := by
  simp only [joinedFacts, Bool.and_eq_true]
  repeat' apply And.intro
  all_goals first | with_reducible exact inp | with_reducible exact unfB | with_reducible exact recB | with_reducible exact nam | (as_aux_lemma => kernel_rfl)

theorem over : Rows.auditTimetableRow.holds Tryz.pinned (OpenSpec.ofChange Rows.auditTimetableSpec) :=
  OpenClaim.holds_of_wide 3 Tryz.f3 rfl rfl rfl rfl rfl rfl rfl ⟨rfl, rfl, rfl, rfl, rfl⟩ rfl rfl rfl rfl rfl (by kernel_rfl) Tryz.func3 facts
    (of_decide_eq_true (by kernel_rfl)) (by unfold Func.isWrapper; first | (rw [if_pos (by decide +kernel)]; kernel_rfl) | (rw [if_neg (by decide +kernel)]; exact ⟨rfl, rfl⟩))
    (fun os started H enc _ => lifted os started H enc)

theorem proved : Rows.AuditTimetableSaid := over
end Go.Proofs.YtamocmgfbonodaaGreat.auditTimetable
