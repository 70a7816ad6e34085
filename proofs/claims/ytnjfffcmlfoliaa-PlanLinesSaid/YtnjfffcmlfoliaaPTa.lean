/-
  A part of the proof: lemmas of my own.
-/
import Derived.Test.YtnjfffcmlfoliaaPO
set_option linter.unusedVariables false
set_option linter.unusedSimpArgs false
namespace Go.Proofs
open Go.RowKit
set_option maxRecDepth 1000000

set_option maxHeartbeats 4000000 in
theorem pq9_rest_fwdL (s : ByteArray) (w : World) (hs : s.size ≤ 70000) (hn : 7 ≤ (splitW s.data.toList).length) (hd : (splitW s.data.toList)[3]? = some fwdL) :
    Calls Try.prog 9 #[.string s] w (PQ w (splitW s.data.toList)) := by
  have hp : 0 < (splitW s.data.toList).length := List.length_pos_iff.2 (splitW_ne _)
  obtain ⟨i0, hi, hz0, hz1, hz2⟩ := info_parts Try.info3
  go_enter Try.func9, Try.ntmps9
  go_wp2_with fail
  go_at_call 20
  refine (words20 s _ hs).mono ?_
  rintro e w1 ⟨v, rfl, hown, hb⟩
  obtain ⟨g, cap, rfl, hg, hc, hcells⟩ := own_cells hown hp
  have hlenB : (splitW s.data.toList).length ≤ 9223372036854775806 := by
    have := splitW_cnt s.data.toList
    rw [len_size] at this
    omega
  have hlw : ∀ (i : Nat) (x : List UInt8), (splitW s.data.toList)[i]? = some x → x.length ≤ 70000 := fun i x hx => by
    have := splitW_len _ x (List.mem_of_getElem? hx)
    rw [len_size] at this
    omega
  have hcw : ∀ (i : Nat) (x : List UInt8), (splitW s.data.toList)[i]? = some x → w1.cell? ⟨g, i, none⟩ = some (.string (mkB x)) := fun i x hx => by
    have := hcells i (mkB x) (by rw [List.getElem?_map, hx]; rfl)
    simpa using this
  rw [List.length_map] at hc ⊢
  generalize hls : splitW s.data.toList = ls at hn hd hc hlw hcw hlenB ⊢
  have HLS := Lib.hid hls
  clear hls
  have c3 := hcw 3 fwdL hd
  clear hcells hown hp
  have hlt : decide ((ls.length : Int) < 7) = false := by simp; omega
  have h3 : (3 : Int) < (ls.length : Int) := by omega
  obtain ⟨b1, b2⟩ := bcell hb
  have e1 : ((mkB fwdL).toList == [102, 111, 114, 119, 97, 114, 100]) = true := by rw [mkB_toList]; rfl
  have e2 : ((mkB fwdL).toList == [98, 97, 99, 107, 119, 97, 114, 100]) = false := by rw [mkB_toList]; rfl
  have n1 := congrArg Bool.not e1
  have n2 := congrArg Bool.not e2
  simp only [Bool.not_true, Bool.not_false] at n1 n2
  have hgs : g < w1.heap.size := hg
  go_wp2
  go_loopw [6, 7] (fun v i wr => ∃ ns : List Nat, ns.length ≤ 6 ∧ i = .int .i64 ns.length ∧ wr.ownsRow (w1.heap.size + 1) 3 1 v ns.length (ns.map fun n : Nat => Value.int .i64 n) ∧ (nums ls).take ns.length = ns.map some ∧ Below (w1.heap.size + 1) ((w1.alloc (.cells #[.int .i64 0, .int .i64 1, .int .i64 2, .int .i64 4, .int .i64 5, .int .i64 6] 3)).alloc (.cells #[] 3)) wr) (fun _ i _ => 6 - (intOf i).toNat)
  case atStart => exact ⟨[], by simp, by simp, own0j _ _ (World.size_alloc _ _), rfl, Below.refl _ _⟩
  case round =>
    obtain ⟨ns, hk6, rfl, hown, hnum, hbl⟩ := hrel
    have HN := Lib.hid hnum
    have hol := hown.lt
    have hbs := hbl.size
    simp only [World.size_alloc] at hbs
    have hm1 : ns.length + 1 ≤ maxLen := by unfold maxLen; omega
    have hm2 : (ns.length + 1) * 8 ≤ 140737488355328 := by omega
    have hwc : ∀ b o, b < w1.heap.size → wr.cell? ⟨b, o, none⟩ = w1.cell? ⟨b, o, none⟩ := fun b o h => by
      rw [hbl.cell (p := ⟨b, o, none⟩) (by show b < _; omega), World.cell?_of_block (Below.heap_alloc _ _ b (by simp; omega)), World.cell?_of_block (Below.heap_alloc _ _ b h)]
    have hat : ∀ o, wr.cell? ⟨w1.heap.size, o, none⟩ = (#[.int .i64 0, .int .i64 1, .int .i64 2, .int .i64 4, .int .i64 5, .int .i64 6] : Array Value)[o]? := fun o => by
      rw [hbl.cell (p := ⟨w1.heap.size, o, none⟩) (by show w1.heap.size < _; omega), World.cell?_of_block (Below.heap_alloc _ _ w1.heap.size (by simp))]
      simp only [World.cell?, heap_alloc]; rfl
    have hr : ∀ o, wr.cell? ⟨w.heap.size, o, none⟩ = (w.alloc (.cells #[.int .i64 0, .int .i64 0, .int .i64 0, .bool false, .int .i64 0, .int .i64 0, .bool false, .bool false, .int .i64 0, .bool false] 23)).cell? ⟨w.heap.size, o, none⟩ := fun o => (hwc _ _ (by have := hb.size; simp at this; omega)).trans (b1 _ _ (by simp))
    have hrf : ∀ o, wr.frozen? ⟨w.heap.size, o, none⟩ = false := fun o => by
      rw [hbl.frozen (p := ⟨w.heap.size, o, none⟩) (by show w.heap.size < _; have := hb.size; simp at this; omega), World.frozen?_of_block (Below.heap_alloc _ _ w.heap.size (by have := hb.size; simp at this ⊢; omega)), World.frozen?_of_block (Below.heap_alloc _ _ w.heap.size (by have := hb.size; simp at this; omega)), hb.frozen (p := ⟨w.heap.size, o, none⟩) (by simp)]
      simp only [World.frozen?, heap_alloc]; rfl
    have hbw : Below w.heap.size w wr := (((Below.refl _ w).alloc (Nat.le_refl _) _).trans (hb.mono (by simp))).trans (((((Below.refl _ _).alloc (Nat.le_refl _) _).alloc (by simp) _).trans (hbl.mono (by omega))).mono (by have := hb.size; simp at this; omega))
    clear hnum
    generalize hkn : ns.length = k at *
    have hk : k = 0 ∨ k = 1 ∨ k = 2 ∨ k = 3 ∨ k = 4 ∨ k = 5 ∨ k = 6 := by omega
    rcases hk with rfl | rfl | rfl | rfl | rfl | rfl | rfl
    · have hix : 0 < ls.length := by omega
      have hxx := hcw 0 ls[0] (List.getElem?_eq_getElem hix)
      have hgd : numAt ls 0 = numR ls[0] := by unfold numAt; rw [List.getD_eq_getElem?_getD, List.getElem?_eq_getElem hix]; rfl
      have hll := hlw 0 _ (List.getElem?_eq_getElem hix)
      generalize ls[0] = x at hxx hgd hll
      have hxi : (0 : Int) < (ls.length : Int) := by omega
      have cx : wr.cell? ⟨g, 0, none⟩ = some (.string (mkB x)) := (hwc _ _ hg).trans hxx
      have ca : wr.cell? ⟨w1.heap.size, 0, none⟩ = some (.int .i64 0) := by rw [hat]; rfl
      clear hxx hat hwc
      cases hN : numAt ls 0 with
      | none =>
        have hNr := hgd.symm.trans hN
        have HR := Lib.hid (ref_none ls 0 hn hd (.inl rfl) (by decide) hN)
        go_wp2_with fail
        go_at_call 21
        refine (number21' x _ hll _ hNr).mono ?_
        unfold numV
        rintro e w3 ⟨rfl, rfl⟩
        go_wp2
        refine bodyPost_ret (v := .tuple #[zeroQ, .int .i64 3]) ?_ rfl ⟨by rw [HLS.out, HR.out]; rfl, ?_⟩
        · unfold zeroQ
          simp [results, Try.results9, go_sem, hr]
        · exact below10 hbw (Nat.le_refl _) _ _ _ _ _ _ _ _ _ _
      | some n =>
        have hNr := hgd.symm.trans hN
        go_wp2_with fail
        go_at_call 21
        refine (number21' x _ hll _ hNr).mono ?_
        unfold numV
        rintro e w3 ⟨rfl, rfl⟩
        go_wp2_with (at_builtin; refine wpList_append_own _ rfl _ _ 46 rfl (w1.heap.size + 1) 3 i0 (.int .i64 0) 1 8 Try.underlying46 hi hz0 hz1 hz2 rfl (by decide) _ _ _ rfl (hown.alloc _) _ 1 1 [.int .i64 n] rfl rfl (World.news_of_block (cs := #[.int .i64 n]) (heap_alloc_new _ _)) (one_int _) hm1 hm2 (by simp; omega) ?_; intro v2 w2 hown' hgrow _; clear hown)
        refine ⟨⟨ns ++ [n], by simp [hkn], by simp [hkn], own_snoci (by rw [hkn]; exact hown'), ?_, (hbl.alloc (by omega) _).grown hgrow (by simp; omega) (fun j e => (hol j e).1)⟩, by simp [intOf]⟩
        rw [List.length_append, hkn, List.map_append, ← HN.out]
        simp [nums, nth6, hN]
    · have hix : 1 < ls.length := by omega
      have hxx := hcw 1 ls[1] (List.getElem?_eq_getElem hix)
      have hgd : numAt ls 1 = numR ls[1] := by unfold numAt; rw [List.getD_eq_getElem?_getD, List.getElem?_eq_getElem hix]; rfl
      have hll := hlw 1 _ (List.getElem?_eq_getElem hix)
      generalize ls[1] = x at hxx hgd hll
      have hxi : (1 : Int) < (ls.length : Int) := by omega
      have cx : wr.cell? ⟨g, 1, none⟩ = some (.string (mkB x)) := (hwc _ _ hg).trans hxx
      have ca : wr.cell? ⟨w1.heap.size, 1, none⟩ = some (.int .i64 1) := by rw [hat]; rfl
      clear hxx hat hwc
      cases hN : numAt ls 1 with
      | none =>
        have hNr := hgd.symm.trans hN
        have HR := Lib.hid (ref_none ls 1 hn hd (.inl rfl) (by decide) hN)
        go_wp2_with fail
        go_at_call 21
        refine (number21' x _ hll _ hNr).mono ?_
        unfold numV
        rintro e w3 ⟨rfl, rfl⟩
        go_wp2
        refine bodyPost_ret (v := .tuple #[zeroQ, .int .i64 3]) ?_ rfl ⟨by rw [HLS.out, HR.out]; rfl, ?_⟩
        · unfold zeroQ
          simp [results, Try.results9, go_sem, hr]
        · exact below10 hbw (Nat.le_refl _) _ _ _ _ _ _ _ _ _ _
      | some n =>
        have hNr := hgd.symm.trans hN
        go_wp2_with fail
        go_at_call 21
        refine (number21' x _ hll _ hNr).mono ?_
        unfold numV
        rintro e w3 ⟨rfl, rfl⟩
        go_wp2_with (at_builtin; refine wpList_append_own _ rfl _ _ 46 rfl (w1.heap.size + 1) 3 i0 (.int .i64 0) 1 8 Try.underlying46 hi hz0 hz1 hz2 rfl (by decide) _ _ _ rfl (hown.alloc _) _ 1 1 [.int .i64 n] rfl rfl (World.news_of_block (cs := #[.int .i64 n]) (heap_alloc_new _ _)) (one_int _) hm1 hm2 (by simp; omega) ?_; intro v2 w2 hown' hgrow _; clear hown)
        refine ⟨⟨ns ++ [n], by simp [hkn], by simp [hkn], own_snoci (by rw [hkn]; exact hown'), ?_, (hbl.alloc (by omega) _).grown hgrow (by simp; omega) (fun j e => (hol j e).1)⟩, by simp [intOf]⟩
        rw [List.length_append, hkn, List.map_append, ← HN.out]
        simp [nums, nth6, hN]
    · have hix : 2 < ls.length := by omega
      have hxx := hcw 2 ls[2] (List.getElem?_eq_getElem hix)
      have hgd : numAt ls 2 = numR ls[2] := by unfold numAt; rw [List.getD_eq_getElem?_getD, List.getElem?_eq_getElem hix]; rfl
      have hll := hlw 2 _ (List.getElem?_eq_getElem hix)
      generalize ls[2] = x at hxx hgd hll
      have hxi : (2 : Int) < (ls.length : Int) := by omega
      have cx : wr.cell? ⟨g, 2, none⟩ = some (.string (mkB x)) := (hwc _ _ hg).trans hxx
      have ca : wr.cell? ⟨w1.heap.size, 2, none⟩ = some (.int .i64 2) := by rw [hat]; rfl
      clear hxx hat hwc
      cases hN : numAt ls 2 with
      | none =>
        have hNr := hgd.symm.trans hN
        have HR := Lib.hid (ref_none ls 2 hn hd (.inl rfl) (by decide) hN)
        go_wp2_with fail
        go_at_call 21
        refine (number21' x _ hll _ hNr).mono ?_
        unfold numV
        rintro e w3 ⟨rfl, rfl⟩
        go_wp2
        refine bodyPost_ret (v := .tuple #[zeroQ, .int .i64 3]) ?_ rfl ⟨by rw [HLS.out, HR.out]; rfl, ?_⟩
        · unfold zeroQ
          simp [results, Try.results9, go_sem, hr]
        · exact below10 hbw (Nat.le_refl _) _ _ _ _ _ _ _ _ _ _
      | some n =>
        have hNr := hgd.symm.trans hN
        go_wp2_with fail
        go_at_call 21
        refine (number21' x _ hll _ hNr).mono ?_
        unfold numV
        rintro e w3 ⟨rfl, rfl⟩
        go_wp2_with (at_builtin; refine wpList_append_own _ rfl _ _ 46 rfl (w1.heap.size + 1) 3 i0 (.int .i64 0) 1 8 Try.underlying46 hi hz0 hz1 hz2 rfl (by decide) _ _ _ rfl (hown.alloc _) _ 1 1 [.int .i64 n] rfl rfl (World.news_of_block (cs := #[.int .i64 n]) (heap_alloc_new _ _)) (one_int _) hm1 hm2 (by simp; omega) ?_; intro v2 w2 hown' hgrow _; clear hown)
        refine ⟨⟨ns ++ [n], by simp [hkn], by simp [hkn], own_snoci (by rw [hkn]; exact hown'), ?_, (hbl.alloc (by omega) _).grown hgrow (by simp; omega) (fun j e => (hol j e).1)⟩, by simp [intOf]⟩
        rw [List.length_append, hkn, List.map_append, ← HN.out]
        simp [nums, nth6, hN]
    · have hix : 4 < ls.length := by omega
      have hxx := hcw 4 ls[4] (List.getElem?_eq_getElem hix)
      have hgd : numAt ls 4 = numR ls[4] := by unfold numAt; rw [List.getD_eq_getElem?_getD, List.getElem?_eq_getElem hix]; rfl
      have hll := hlw 4 _ (List.getElem?_eq_getElem hix)
      generalize ls[4] = x at hxx hgd hll
      have hxi : (4 : Int) < (ls.length : Int) := by omega
      have cx : wr.cell? ⟨g, 4, none⟩ = some (.string (mkB x)) := (hwc _ _ hg).trans hxx
      have ca : wr.cell? ⟨w1.heap.size, 3, none⟩ = some (.int .i64 4) := by rw [hat]; rfl
      clear hxx hat hwc
      cases hN : numAt ls 4 with
      | none =>
        have hNr := hgd.symm.trans hN
        have HR := Lib.hid (ref_none ls 4 hn hd (.inl rfl) (by decide) hN)
        go_wp2_with fail
        go_at_call 21
        refine (number21' x _ hll _ hNr).mono ?_
        unfold numV
        rintro e w3 ⟨rfl, rfl⟩
        go_wp2
        refine bodyPost_ret (v := .tuple #[zeroQ, .int .i64 3]) ?_ rfl ⟨by rw [HLS.out, HR.out]; rfl, ?_⟩
        · unfold zeroQ
          simp [results, Try.results9, go_sem, hr]
        · exact below10 hbw (Nat.le_refl _) _ _ _ _ _ _ _ _ _ _
      | some n =>
        have hNr := hgd.symm.trans hN
        go_wp2_with fail
        go_at_call 21
        refine (number21' x _ hll _ hNr).mono ?_
        unfold numV
        rintro e w3 ⟨rfl, rfl⟩
        go_wp2_with (at_builtin; refine wpList_append_own _ rfl _ _ 46 rfl (w1.heap.size + 1) 3 i0 (.int .i64 0) 1 8 Try.underlying46 hi hz0 hz1 hz2 rfl (by decide) _ _ _ rfl (hown.alloc _) _ 1 1 [.int .i64 n] rfl rfl (World.news_of_block (cs := #[.int .i64 n]) (heap_alloc_new _ _)) (one_int _) hm1 hm2 (by simp; omega) ?_; intro v2 w2 hown' hgrow _; clear hown)
        refine ⟨⟨ns ++ [n], by simp [hkn], by simp [hkn], own_snoci (by rw [hkn]; exact hown'), ?_, (hbl.alloc (by omega) _).grown hgrow (by simp; omega) (fun j e => (hol j e).1)⟩, by simp [intOf]⟩
        rw [List.length_append, hkn, List.map_append, ← HN.out]
        simp [nums, nth6, hN]
    · have hix : 5 < ls.length := by omega
      have hxx := hcw 5 ls[5] (List.getElem?_eq_getElem hix)
      have hgd : numAt ls 5 = numR ls[5] := by unfold numAt; rw [List.getD_eq_getElem?_getD, List.getElem?_eq_getElem hix]; rfl
      have hll := hlw 5 _ (List.getElem?_eq_getElem hix)
      generalize ls[5] = x at hxx hgd hll
      have hxi : (5 : Int) < (ls.length : Int) := by omega
      have cx : wr.cell? ⟨g, 5, none⟩ = some (.string (mkB x)) := (hwc _ _ hg).trans hxx
      have ca : wr.cell? ⟨w1.heap.size, 4, none⟩ = some (.int .i64 5) := by rw [hat]; rfl
      clear hxx hat hwc
      cases hN : numAt ls 5 with
      | none =>
        have hNr := hgd.symm.trans hN
        have HR := Lib.hid (ref_none ls 5 hn hd (.inl rfl) (by decide) hN)
        go_wp2_with fail
        go_at_call 21
        refine (number21' x _ hll _ hNr).mono ?_
        unfold numV
        rintro e w3 ⟨rfl, rfl⟩
        go_wp2
        refine bodyPost_ret (v := .tuple #[zeroQ, .int .i64 3]) ?_ rfl ⟨by rw [HLS.out, HR.out]; rfl, ?_⟩
        · unfold zeroQ
          simp [results, Try.results9, go_sem, hr]
        · exact below10 hbw (Nat.le_refl _) _ _ _ _ _ _ _ _ _ _
      | some n =>
        have hNr := hgd.symm.trans hN
        go_wp2_with fail
        go_at_call 21
        refine (number21' x _ hll _ hNr).mono ?_
        unfold numV
        rintro e w3 ⟨rfl, rfl⟩
        go_wp2_with (at_builtin; refine wpList_append_own _ rfl _ _ 46 rfl (w1.heap.size + 1) 3 i0 (.int .i64 0) 1 8 Try.underlying46 hi hz0 hz1 hz2 rfl (by decide) _ _ _ rfl (hown.alloc _) _ 1 1 [.int .i64 n] rfl rfl (World.news_of_block (cs := #[.int .i64 n]) (heap_alloc_new _ _)) (one_int _) hm1 hm2 (by simp; omega) ?_; intro v2 w2 hown' hgrow _; clear hown)
        refine ⟨⟨ns ++ [n], by simp [hkn], by simp [hkn], own_snoci (by rw [hkn]; exact hown'), ?_, (hbl.alloc (by omega) _).grown hgrow (by simp; omega) (fun j e => (hol j e).1)⟩, by simp [intOf]⟩
        rw [List.length_append, hkn, List.map_append, ← HN.out]
        simp [nums, nth6, hN]
    · have hix : 6 < ls.length := by omega
      have hxx := hcw 6 ls[6] (List.getElem?_eq_getElem hix)
      have hgd : numAt ls 6 = numR ls[6] := by unfold numAt; rw [List.getD_eq_getElem?_getD, List.getElem?_eq_getElem hix]; rfl
      have hll := hlw 6 _ (List.getElem?_eq_getElem hix)
      generalize ls[6] = x at hxx hgd hll
      have hxi : (6 : Int) < (ls.length : Int) := by omega
      have cx : wr.cell? ⟨g, 6, none⟩ = some (.string (mkB x)) := (hwc _ _ hg).trans hxx
      have ca : wr.cell? ⟨w1.heap.size, 5, none⟩ = some (.int .i64 6) := by rw [hat]; rfl
      clear hxx hat hwc
      cases hN : numAt ls 6 with
      | none =>
        have hNr := hgd.symm.trans hN
        have HR := Lib.hid (ref_none ls 6 hn hd (.inl rfl) (by decide) hN)
        go_wp2_with fail
        go_at_call 21
        refine (number21' x _ hll _ hNr).mono ?_
        unfold numV
        rintro e w3 ⟨rfl, rfl⟩
        go_wp2
        refine bodyPost_ret (v := .tuple #[zeroQ, .int .i64 3]) ?_ rfl ⟨by rw [HLS.out, HR.out]; rfl, ?_⟩
        · unfold zeroQ
          simp [results, Try.results9, go_sem, hr]
        · exact below10 hbw (Nat.le_refl _) _ _ _ _ _ _ _ _ _ _
      | some n =>
        have hNr := hgd.symm.trans hN
        go_wp2_with fail
        go_at_call 21
        refine (number21' x _ hll _ hNr).mono ?_
        unfold numV
        rintro e w3 ⟨rfl, rfl⟩
        go_wp2_with (at_builtin; refine wpList_append_own _ rfl _ _ 46 rfl (w1.heap.size + 1) 3 i0 (.int .i64 0) 1 8 Try.underlying46 hi hz0 hz1 hz2 rfl (by decide) _ _ _ rfl (hown.alloc _) _ 1 1 [.int .i64 n] rfl rfl (World.news_of_block (cs := #[.int .i64 n]) (heap_alloc_new _ _)) (one_int _) hm1 hm2 (by simp; omega) ?_; intro v2 w2 hown' hgrow _; clear hown)
        refine ⟨⟨ns ++ [n], by simp [hkn], by simp [hkn], own_snoci (by rw [hkn]; exact hown'), ?_, (hbl.alloc (by omega) _).grown hgrow (by simp; omega) (fun j e => (hol j e).1)⟩, by simp [intOf]⟩
        rw [List.length_append, hkn, List.map_append, ← HN.out]
        simp [nums, nth6, hN]
    · have hns : ∃ n0 n1 n2 n3 n4 n5 : Nat, ns = [n0, n1, n2, n3, n4, n5] := by
        match ns, hkn with
        | [a, b, c, d, e, f], _ => exact ⟨a, b, c, d, e, f, rfl⟩
      obtain ⟨n0, n1, n2, n3, n4, n5, rfl⟩ := hns
      obtain ⟨gv, capv, rfl, hgv, hcv, hcellv⟩ := own_cells_i hown (by decide)
      have v0 := hcellv 0 n0 rfl
      have v1 := hcellv 1 n1 rfl
      have v2 := hcellv 2 n2 rfl
      have v3 := hcellv 3 n3 rfl
      have v4 := hcellv 4 n4 rfl
      have v5 := hcellv 5 n5 rfl
      have hw3 : wr.cell? ⟨g, 3, none⟩ = some (.string (mkB fwdL)) := (hwc _ _ hg).trans c3
      clear hcellv hat hown hm1 hm2 hkn hk6
      go_wp2_with fail
      go_region_held3 (fun wx => wx.cell? ⟨gv, 0, none⟩ = some (.int .i64 n0) ∧ wx.cell? ⟨gv, 1, none⟩ = some (.int .i64 n1) ∧ wx.cell? ⟨gv, 2, none⟩ = some (.int .i64 n2) ∧ wx.cell? ⟨gv, 3, none⟩ = some (.int .i64 n3) ∧ wx.cell? ⟨gv, 4, none⟩ = some (.int .i64 n4) ∧ wx.cell? ⟨gv, 5, none⟩ = some (.int .i64 n5) ∧ wx.cell? ⟨g, 3, none⟩ = some (.string (mkB fwdL)))
        (go_keep) (fail)
      have hz : (wr.alloc (.cells #[.int .i64 n0, .int .i64 n1, .int .i64 n2, .bool false, .int .i64 n3, .int .i64 n4, .bool false, .bool false, .int .i64 n5, .bool false] 23 (0, 0))).drew.heap[wr.heap.size]? = some (.cells #[.int .i64 n0, .int .i64 n1, .int .i64 n2, .bool false, .int .i64 n3, .int .i64 n4, .bool false, .bool false, .int .i64 n5, .bool false] 23 (0, 0)) := heap_alloc wr _
      have hbz : Below wr.heap.size wr (wr.alloc (.cells #[.int .i64 n0, .int .i64 n1, .int .i64 n2, .bool false, .int .i64 n3, .int .i64 n4, .bool false, .bool false, .int .i64 n5, .bool false] 23 (0, 0))).drew := ((Below.refl _ _).alloc (Nat.le_refl _) _).drew
      generalize (wr.alloc (.cells #[.int .i64 n0, .int .i64 n1, .int .i64 n2, .bool false, .int .i64 n3, .int .i64 n4, .bool false, .bool false, .int .i64 n5, .bool false] 23 (0, 0))).drew = wz at hz hbz ⊢
      have hgr : g < wr.heap.size := by omega
      have hcr : ∀ (i : Nat) (x : List UInt8), ls[i]? = some x → wr.cell? ⟨g, i, none⟩ = some (.string (mkB x)) := fun i x h => (hwc _ _ hg).trans (hcw i x h)
      have hnums : nums ls = [some n0, some n1, some n2, some n3, some n4, some n5] := HN.out
      have hwB : Below w.heap.size w wr := hbw
      have HW := Lib.hid hcr
      have HRR := Lib.hid hr
      have HRF := Lib.hid hrf
      have hwlt : w.heap.size < wr.heap.size := by have := hb.size; simp at this; omega
      have hd3 := hd
      have HLEN := Lib.hid hn
      have HNs := Lib.hid hnums
      have h7 : (7 : Nat) ≤ ls.length := hn
      have hlen9 : ls.length ≤ 9223372036854775806 := hlenB
      clear v0 v1 v2 v3 v4 v5 hw3 c3 hcr hnums hwc hcw hrf hr b1 b2 hlw
      go_upto_region 15 with fail
      obtain ⟨i, hi7, hil, hdr⟩ : ∃ i : Nat, ((7 : Nat) : Int) = (i : Int) ∧ i ≤ ls.length ∧ ls.drop i = ls.drop 7 := ⟨7, rfl, h7, rfl⟩
      have hi7' : (7 : Int) = (i : Int) := hi7
      rw [hi7']
      clear hi7 hi7'
      have HD89 := Lib.hid hdr
      clear hdr
      go_cut [89] (fun t wx => t = .bool (hitF sfL (ls.drop i)) ∧ wx = wz)
      case first =>
        by_cases hl : i < ls.length
        · have hx := (hbz.cell (p := ⟨g, i, none⟩) hgr).trans (HW.out i ls[i] (List.getElem?_eq_getElem hl))
          have hdd : hitF sfL (ls.drop i) = (ls[i] == sfL) := by rw [List.drop_eq_getElem_cons hl]; rfl
          generalize ls[i] = y at hx hdd
          have li : (i : Int) < (ls.length : Int) := by omega
          cases e : (y == sfL)
          all_goals
            have e1 : ((mkB y).toList == [115, 116, 101, 112, 45, 102, 114, 101, 101]) = _ := (congrArg (· == [115, 116, 101, 112, 45, 102, 114, 101, 101]) (mkB_toList y)).trans e
            have HT := Lib.hid (hdd.trans e)
            clear hdd e
            go_wp2_with fail
            go_meet
            exact ⟨by rw [HT.out], rfl⟩
        · have li : ¬ (i : Int) < (ls.length : Int) := by omega
          have hdd : hitF sfL (ls.drop i) = false := by rw [List.drop_of_length_le (by omega)]; rfl
          have HT := Lib.hid hdd
          clear hdd
          go_wp2_with fail
          go_meet
          exact ⟨by rw [HT.out], rfl⟩
      case rest =>
        obtain ⟨rfl, rfl⟩ := hcut
        go_upto_if 89 with fail
        go_cut [11] (fun t wx => ∃ i' : Nat, t = .int .i64 i' ∧ i' ≤ ls.length ∧ ls.drop i' = dropF sfL (ls.drop i) ∧ wx.heap[wr.heap.size]? = some (.cells #[.int .i64 n0, .int .i64 n1, .int .i64 n2, .bool false, .int .i64 n3, .int .i64 n4, .bool (hitF sfL (ls.drop i)), .bool false, .int .i64 n5, .bool false] 23 (0, 0)) ∧ Below wr.heap.size wr wx)
        case first =>
          obtain ⟨z6, z7, z9, zf, zs⟩ := q_cells hz
          have hil9 : (i : Int) ≤ 9223372036854775806 := by have := hlen9; omega
          have hi0 : (0 : Int) ≤ (i : Int) := Int.natCast_nonneg _
          cases hh : hitF sfL (ls.drop i)
          · have HH := Lib.hid hh
            clear hh
            go_wp2_with fail
            go_meet
            exact ⟨i, rfl, hil, by unfold dropF; rw [HH.out]; rfl, by rw [HH.out]; exact hz, hbz⟩
          · have HH := Lib.hid hh
            have hlt : i < ls.length := by
              by_cases hl : i < ls.length
              · exact hl
              · rw [List.drop_of_length_le (by omega)] at hh; cases hh
            clear hh
            go_wp2_with fail
            go_meet
            refine ⟨i + 1, by simp, hlt, by unfold dropF; rw [HH.out, List.drop_eq_getElem_cons hlt]; rfl, ?_, hbz.setCell (by simp) _⟩
            rw [rd_set hz, HH.out]
            rfl
        case rest =>
          obtain ⟨i2, rfl, hil, hdr, hz, hbz⟩ := hcut
          rw [HD89.out] at hdr hz
          go_upto_region 18 with fail
          have HD103 := Lib.hid hdr
          clear hdr
          go_cut [103] (fun t wx => t = .bool (hitF biL (ls.drop i2)) ∧ wx = wc)
          case first =>
            by_cases hl : i2 < ls.length
            · have hx := (hbz.cell (p := ⟨g, i2, none⟩) hgr).trans (HW.out i2 ls[i2] (List.getElem?_eq_getElem hl))
              have hdd : hitF biL (ls.drop i2) = (ls[i2] == biL) := by rw [List.drop_eq_getElem_cons hl]; rfl
              generalize ls[i2] = y at hx hdd
              have li : (i2 : Int) < (ls.length : Int) := by omega
              cases e : (y == biL)
              all_goals
                have e1 : ((mkB y).toList == [98, 105, 99, 121, 99, 108, 101]) = _ := (congrArg (· == [98, 105, 99, 121, 99, 108, 101]) (mkB_toList y)).trans e
                have HT := Lib.hid (hdd.trans e)
                clear hdd e
                go_wp2_with fail
                go_meet
                exact ⟨by rw [HT.out], rfl⟩
            · have li : ¬ (i2 : Int) < (ls.length : Int) := by omega
              have hdd : hitF biL (ls.drop i2) = false := by rw [List.drop_of_length_le (by omega)]; rfl
              have HT := Lib.hid hdd
              clear hdd
              go_wp2_with fail
              go_meet
              exact ⟨by rw [HT.out], rfl⟩
          case rest =>
            obtain ⟨rfl, rfl⟩ := hcut
            go_upto_if 103 with fail
            go_cut [11] (fun t wx => ∃ i' : Nat, t = .int .i64 i' ∧ i' ≤ ls.length ∧ ls.drop i' = dropF biL (ls.drop i2) ∧ wx.heap[wr.heap.size]? = some (.cells #[.int .i64 n0, .int .i64 n1, .int .i64 n2, .bool false, .int .i64 n3, .int .i64 n4, .bool (hitF sfL (ls.drop 7)), .bool (hitF biL (ls.drop i2)), .int .i64 n5, .bool false] 23 (0, 0)) ∧ Below wr.heap.size wr wx)
            case first =>
              obtain ⟨z6, z7, z9, zf, zs⟩ := q_cells hz
              have hil9 : (i2 : Int) ≤ 9223372036854775806 := by have := hlen9; omega
              have hi0 : (0 : Int) ≤ (i2 : Int) := Int.natCast_nonneg _
              cases hh : hitF biL (ls.drop i2)
              · have HH := Lib.hid hh
                clear hh
                go_wp2_with fail
                go_meet
                exact ⟨i2, rfl, hil, by unfold dropF; rw [HH.out]; rfl, by rw [HH.out]; exact hz, hbz⟩
              · have HH := Lib.hid hh
                have hlt : i2 < ls.length := by
                  by_cases hl : i2 < ls.length
                  · exact hl
                  · rw [List.drop_of_length_le (by omega)] at hh; cases hh
                clear hh
                go_wp2_with fail
                go_meet
                refine ⟨i2 + 1, by simp, hlt, by unfold dropF; rw [HH.out, List.drop_eq_getElem_cons hlt]; rfl, ?_, hbz.setCell (by simp) _⟩
                rw [rd_set hz, HH.out]
                rfl
            case rest =>
              obtain ⟨i3, rfl, hil, hdr, hz, hbz⟩ := hcut
              rw [HD103.out] at hdr hz
              go_upto_region 21 with fail
              have HD117 := Lib.hid hdr
              clear hdr
              go_cut [117] (fun t wx => t = .bool (hitF chL (ls.drop i3)) ∧ wx = wc)
              case first =>
                by_cases hl : i3 < ls.length
                · have hx := (hbz.cell (p := ⟨g, i3, none⟩) hgr).trans (HW.out i3 ls[i3] (List.getElem?_eq_getElem hl))
                  have hdd : hitF chL (ls.drop i3) = (ls[i3] == chL) := by rw [List.drop_eq_getElem_cons hl]; rfl
                  generalize ls[i3] = y at hx hdd
                  have li : (i3 : Int) < (ls.length : Int) := by omega
                  cases e : (y == chL)
                  all_goals
                    have e1 : ((mkB y).toList == [99, 104, 97, 110, 103, 105, 110, 103]) = _ := (congrArg (· == [99, 104, 97, 110, 103, 105, 110, 103]) (mkB_toList y)).trans e
                    have HT := Lib.hid (hdd.trans e)
                    clear hdd e
                    go_wp2_with fail
                    go_meet
                    exact ⟨by rw [HT.out], rfl⟩
                · have li : ¬ (i3 : Int) < (ls.length : Int) := by omega
                  have hdd : hitF chL (ls.drop i3) = false := by rw [List.drop_of_length_le (by omega)]; rfl
                  have HT := Lib.hid hdd
                  clear hdd
                  go_wp2_with fail
                  go_meet
                  exact ⟨by rw [HT.out], rfl⟩
              case rest =>
                obtain ⟨rfl, rfl⟩ := hcut
                go_upto_if 117 with fail
                go_cut [11] (fun t wx => ∃ i' : Nat, t = .int .i64 i' ∧ i' ≤ ls.length ∧ ls.drop i' = dropF chL (ls.drop i3) ∧ wx.heap[wr.heap.size]? = some (.cells #[.int .i64 n0, .int .i64 n1, .int .i64 n2, .bool false, .int .i64 n3, .int .i64 n4, .bool (hitF sfL (ls.drop 7)), .bool (hitF biL (dropF sfL (ls.drop 7))), .int .i64 n5, .bool (hitF chL (ls.drop i3))] 23 (0, 0)) ∧ Below wr.heap.size wr wx)
                case first =>
                  obtain ⟨z6, z7, z9, zf, zs⟩ := q_cells hz
                  have hil9 : (i3 : Int) ≤ 9223372036854775806 := by have := hlen9; omega
                  have hi0 : (0 : Int) ≤ (i3 : Int) := Int.natCast_nonneg _
                  cases hh : hitF chL (ls.drop i3)
                  · have HH := Lib.hid hh
                    clear hh
                    go_wp2_with fail
                    go_meet
                    exact ⟨i3, rfl, hil, by unfold dropF; rw [HH.out]; rfl, by rw [HH.out]; exact hz, hbz⟩
                  · have HH := Lib.hid hh
                    have hlt : i3 < ls.length := by
                      by_cases hl : i3 < ls.length
                      · exact hl
                      · rw [List.drop_of_length_le (by omega)] at hh; cases hh
                    clear hh
                    go_wp2_with fail
                    go_meet
                    refine ⟨i3 + 1, by simp, hlt, by unfold dropF; rw [HH.out, List.drop_eq_getElem_cons hlt]; rfl, ?_, hbz.setCell (by simp) _⟩
                    rw [rd_set hz, HH.out]
                    rfl
                case rest =>
                  obtain ⟨i4, rfl, hil, hdr, hz, hbz⟩ := hcut
                  rw [HD117.out] at hdr hz
                  have HP := Lib.hid (ref_some ls HLEN.out hd3 (.inl rfl) HNs.out)
                  have hrr : ∀ o, wc.cell? ⟨w.heap.size, o, none⟩ = (w.alloc (.cells #[.int .i64 0, .int .i64 0, .int .i64 0, .bool false, .int .i64 0, .int .i64 0, .bool false, .bool false, .int .i64 0, .bool false] 23)).cell? ⟨w.heap.size, o, none⟩ := fun o => (hbz.cell (p := ⟨w.heap.size, o, none⟩) hwlt).trans (HRR.out o)
                  have hrf : ∀ o, wc.frozen? ⟨w.heap.size, o, none⟩ = false := fun o => (hbz.frozen (p := ⟨w.heap.size, o, none⟩) hwlt).trans (HRF.out o)
                  have hbw : Below w.heap.size w wc := hwB.trans (hbz.mono (by omega))
                  by_cases hl : i4 < ls.length
                  · have hne : (dropF chL (dropF biL (dropF sfL (ls.drop 7)))) ≠ [] := by
                      rw [← hdr]
                      intro e
                      have := congrArg List.length e
                      rw [List.length_drop] at this
                      simp only [List.length_nil] at this
                      omega
                    have HR := Lib.hid (HP.out.trans (show fin4 ⟨n0, n1, n2, false, n3, n4, (hitF sfL (ls.drop 7)), (hitF biL (dropF sfL (ls.drop 7))), n5, (hitF chL (dropF biL (dropF sfL (ls.drop 7))))⟩ (dropF chL (dropF biL (dropF sfL (ls.drop 7)))) = (zeroQy, 3) from if_neg hne))
                    have li : (i4 : Int) < (ls.length : Int) := by omega
                    clear hne hdr hz hbz
                    go_wp2
                    refine bodyPost_ret (v := .tuple #[zeroQ, .int .i64 3]) ?_ rfl ⟨by rw [HLS.out, HR.out]; rfl, ?_⟩
                    · unfold zeroQ
                      simp [results, Try.results9, go_sem, hrr]
                    · exact below10 hbw (Nat.le_refl _) _ _ _ _ _ _ _ _ _ _
                  · have hnil : (dropF chL (dropF biL (dropF sfL (ls.drop 7)))) = [] := by
                      rw [← hdr, List.drop_of_length_le (by omega)]
                    have li : ¬ (i4 : Int) < (ls.length : Int) := by omega
                    obtain ⟨z0, z1, z2, z3, z4, z5, z6, z7, z8, z9⟩ := q_all hz
                    cases hv : Qy.valid ⟨n0, n1, n2, false, n3, n4, (hitF sfL (ls.drop 7)), (hitF biL (dropF sfL (ls.drop 7))), n5, (hitF chL (dropF biL (dropF sfL (ls.drop 7))))⟩
                    · have HR := Lib.hid (HP.out.trans (show fin4 ⟨n0, n1, n2, false, n3, n4, (hitF sfL (ls.drop 7)), (hitF biL (dropF sfL (ls.drop 7))), n5, (hitF chL (dropF biL (dropF sfL (ls.drop 7))))⟩ (dropF chL (dropF biL (dropF sfL (ls.drop 7)))) = (zeroQy, 22) from (if_pos hnil).trans (if_neg (by rw [hv]; simp))))
                      have HV := Lib.hid hv
                      clear hnil hdr hv
                      go_wp2_with fail
                      go_at_call 13
                      refine (valid13 _ _ _ _ _ _ _ _ _ _ _).mono ?_
                      rw [HV.out]
                      rintro e w5 ⟨rfl, hb5⟩
                      have hwc5 : w.heap.size < wc.heap.size := Nat.lt_of_lt_of_le hwlt hbz.size
                      have hrr5 : ∀ o, w5.cell? ⟨w.heap.size, o, none⟩ = (w.alloc (.cells #[.int .i64 0, .int .i64 0, .int .i64 0, .bool false, .int .i64 0, .int .i64 0, .bool false, .bool false, .int .i64 0, .bool false] 23)).cell? ⟨w.heap.size, o, none⟩ := fun o => (hb5.cell (p := ⟨w.heap.size, o, none⟩) hwc5).trans (hrr o)
                      have hrf5 : ∀ o, w5.frozen? ⟨w.heap.size, o, none⟩ = false := fun o => (hb5.frozen (p := ⟨w.heap.size, o, none⟩) hwc5).trans (hrf o)
                      have hbw5 : Below w.heap.size w w5 := hbw.trans (hb5.mono (by omega))
                      clear hrr hrf z0 z1 z2 z3 z4 z5 z6 z7 z8 z9 hz hb5
                      go_wp2
                      refine bodyPost_ret (v := .tuple #[zeroQ, .int .i64 22]) ?_ rfl ⟨by rw [HLS.out, HR.out]; rfl, ?_⟩
                      · unfold zeroQ
                        simp [results, Try.results9, go_sem, hrr5]
                      · exact below10 hbw5 (Nat.le_refl _) _ _ _ _ _ _ _ _ _ _
                    · have HR := Lib.hid (HP.out.trans (show fin4 ⟨n0, n1, n2, false, n3, n4, (hitF sfL (ls.drop 7)), (hitF biL (dropF sfL (ls.drop 7))), n5, (hitF chL (dropF biL (dropF sfL (ls.drop 7))))⟩ (dropF chL (dropF biL (dropF sfL (ls.drop 7)))) = (⟨n0, n1, n2, false, n3, n4, (hitF sfL (ls.drop 7)), (hitF biL (dropF sfL (ls.drop 7))), n5, (hitF chL (dropF biL (dropF sfL (ls.drop 7))))⟩, 0) from (if_pos hnil).trans (if_pos hv)))
                      have HV := Lib.hid hv
                      clear hnil hdr hv
                      go_wp2_with fail
                      go_at_call 13
                      refine (valid13 _ _ _ _ _ _ _ _ _ _ _).mono ?_
                      rw [HV.out]
                      rintro e w5 ⟨rfl, hb5⟩
                      have hwc5 : w.heap.size < wc.heap.size := Nat.lt_of_lt_of_le hwlt hbz.size
                      have hrr5 : ∀ o, w5.cell? ⟨w.heap.size, o, none⟩ = (w.alloc (.cells #[.int .i64 0, .int .i64 0, .int .i64 0, .bool false, .int .i64 0, .int .i64 0, .bool false, .bool false, .int .i64 0, .bool false] 23)).cell? ⟨w.heap.size, o, none⟩ := fun o => (hb5.cell (p := ⟨w.heap.size, o, none⟩) hwc5).trans (hrr o)
                      have hrf5 : ∀ o, w5.frozen? ⟨w.heap.size, o, none⟩ = false := fun o => (hb5.frozen (p := ⟨w.heap.size, o, none⟩) hwc5).trans (hrf o)
                      have hbw5 : Below w.heap.size w w5 := hbw.trans (hb5.mono (by omega))
                      have hz5 := (hb5.block _ (q_lt hz)).trans hz
                      clear hrr hrf z0 z1 z2 z3 z4 z5 z6 z7 z8 z9 hz hb5
                      obtain ⟨z0, z1, z2, z3, z4, z5, z6, z7, z8, z9⟩ := q_all hz5
                      clear hz5
                      go_wp2
                      refine bodyPost_ret (v := .tuple #[Qy.v ⟨n0, n1, n2, false, n3, n4, (hitF sfL (ls.drop 7)), (hitF biL (dropF sfL (ls.drop 7))), n5, (hitF chL (dropF biL (dropF sfL (ls.drop 7))))⟩, .int .i64 0]) ?_ rfl ⟨by rw [HLS.out, HR.out], ?_⟩
                      · unfold Qy.v
                        simp [results, Try.results9, go_sem, hrr5]
                      · exact below10 hbw5 (Nat.le_refl _) _ _ _ _ _ _ _ _ _ _

end Go.Proofs
