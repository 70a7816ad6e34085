/-
  A part of the proof: lemmas of my own.
-/
import Derived.Test.YtnjfffcmlfoliaaPX
import Derived.Test.YtnjfffcmlfoliaaPY
set_option linter.unusedVariables false
set_option linter.unusedSimpArgs false
namespace Go.Proofs
open Go.RowKit Go.Shelf
set_option maxRecDepth 1000000
attribute [local go_sem] Oper.semAt_some
attribute [local irreducible] parseN numBad numGreat dirBad flagHit flagDrop valGo

def zq : Value := .agg #[.int .i64 0, .int .i64 0, .int .i64 0, .bool false, .int .i64 0, .int .i64 0, .bool false, .bool false, .int .i64 0, .bool false]

set_option maxHeartbeats 3000000 in
theorem pq8_a (s : ByteArray) (w : World) (hs : s.size ≤ 70000) (hcnt : (splitW s.data.toList).length ≤ 70001) : Calls Try.prog 8 #[.string s] w (fun e w' => e = .returned (.tuple #[(parseProg ((splitW s.data.toList).map mkB)).1.v, .int .i64 (parseProg ((splitW s.data.toList).map mkB)).2]) ∧ Below w.heap.size w w') := by
  have HSM := Lib.hid (show s = mkB s.data.toList by unfold mkB; simp)
  refine (callsIn_wide (n := 0)).1 ?_
  refine callsIn_of_wp_marks Try.func8 rfl trivial ?_ rfl
  simp only [Try.ntmps8, List.size_toArray, List.length_cons, List.length_nil, Nat.reduceAdd, Nat.reduceSub, Array.replicate_succ, Array.replicate_zero, List.push_toArray, List.append_toArray, List.nil_append, List.cons_append]
  gi_wp2_with (refine ⟨trivial, rfl, ?_⟩; gi_at_call 15; refine (callsIn_wide.2 (words15 s _)).mono ?_; rintro e w1 ⟨rfl, rfl⟩)
  refine wp_range_box (ps := #[11]) (gf := 28) (lb := #[.pointer (some ⟨w.heap.size + 1 + 1 + 1, 0, none⟩)]) ?hg (enters_of Try.func28 (by kernel_rfl) rfl) (words28 s.data.toList (w.heap.size + 1 + 1 + 1) _ ?h1 ?h2) ?h4 ?h6 (Gath w) (gath_own w _ ?h5) (gath_box w) ?h3 (fr8 s w) ?assign ?body ?done
  case h1 => rw [← HSM.out, show w.heap.size + 1 + 1 + 1 = (((w.alloc (.cells zq10 23)).alloc (.cells #[.slice none 0 0, .bool false, .bool false] 38)).alloc (.cells #[.pointer (some ⟨w.heap.size + 1, 0, none⟩)] 36)).heap.size by simp]; exact heap_alloc _ _
  case h2 => rw [len_size]; omega
  case h4 => simp
  case h6 => rfl
  case hg => rfl
  case h5 => simp
  case h3 =>
    refine ⟨.slice none 0 0, ?_, World.ownsRow_nil _ _ _ _, ?_, ?_, ?_, by simp⟩
    · rw [Below.heap_alloc _ _ _ (by simp), Below.heap_alloc _ _ _ (by simp), show w.heap.size + 1 = (w.alloc (.cells zq10 23)).heap.size by simp]; exact heap_alloc _ _
    · rw [Below.heap_alloc _ _ _ (by simp; omega), Below.heap_alloc _ _ _ (by simp; omega), Below.heap_alloc _ _ _ (by simp)]; exact heap_alloc _ _
    · rw [Below.heap_alloc _ _ _ (by simp), show w.heap.size + 2 = ((w.alloc (.cells zq10 23)).alloc (.cells #[.slice none 0 0, .bool false, .bool false] 38)).heap.size by simp]; exact heap_alloc _ _
    · exact ((((Below.refl _ w).alloc (Nat.le_refl _) _).alloc (by simp) _).alloc (by simp; omega) _).alloc (by simp; omega) _
  case assign =>
    intro l x W K hK
    gi_wp2
    exact hK
  case body =>
    intro l pre x W hG hl
    exact body8 s w l pre x W (by omega) hG
  case done =>
    intro D W hD hG hK
    have hG0 := hG
    obtain ⟨g, hgg, hrd⟩ := gath_rd w W _ (splitW_ne _) hG
    obtain ⟨v, g1, g2, g3, g4, g5, g6⟩ := hG0
    have hrs0 : AllW ((splitW s.data.toList).map mkB) → RS w.heap.size g W W ((splitW s.data.toList).map mkB) false false := fun ha => ⟨hrd, Only.refl _ _, ha, g4⟩
    obtain ⟨off, cap, k1, k2, k3, k4⟩ := hrd.row
    obtain ⟨c0, c1, c2, cf, cp⟩ := rd_cells k1
    have pv : W.cell? ⟨w.heap.size + 1 + 1, 0, none⟩ = some (.pointer (some ⟨w.heap.size + 1, 0, none⟩)) := by
      show W.cell? ⟨w.heap.size + 2, 0, none⟩ = _
      simp [World.cell?, g4]
    have hr : ∀ o, W.cell? ⟨w.heap.size, o, none⟩ = (w.alloc (.cells #[.int .i64 0, .int .i64 0, .int .i64 0, .bool false, .int .i64 0, .int .i64 0, .bool false, .bool false, .int .i64 0, .bool false] 23)).cell? ⟨w.heap.size, o, none⟩ := fun o => by
      simp only [World.cell?, heap_alloc, g3]; rfl
    have hrf : ∀ o, W.frozen? ⟨w.heap.size, o, none⟩ = false := fun o => by simp only [World.frozen?, g3]; rfl
    have HRS := Lib.hid hrs0
    have HG3 := Lib.hid g3
    have HK4 := Lib.hid k4
    have HG5 := Lib.hid g5
    have HDD := Lib.hid hK
    unfold maxLen at k3
    clear hG hrd g1 g2 g4 k4 hrs0 k1 g3
    generalize hws : (splitW s.data.toList).map mkB = ws at HRS HK4 k2 c0
    have HWS := Lib.hid hws
    clear hws
    have hDb : D ≠ w.heap.size := by simp at hD; omega
    have hwl : ∀ x ∈ splitW s.data.toList, x.length ≤ 70000 := fun x hx => by
      have := splitW_len _ x hx
      rw [len_size] at this
      omega
    cases hneg : ws.any isNeg
    · have hall : AllW ws := by rw [← HWS.out]; exact allW_of hwl (by rw [HWS.out]; exact hneg)
      have hrs := HRS.out hall
      have HN := Lib.hid hneg
      clear hneg hall hwl
      gi_wp2_with (refine ⟨trivial, rfl, ?_⟩; gi_at_call 16; refine (callsIn_wide.2 (negative16 g off cap ws _ k2 k3 HK4.out)).mono ?_; rw [HN.out]; rintro e w1 ⟨rfl, rfl⟩)
      clear hr hrf c0 c1 c2 cf cp pv k2 k3
      have pv := hrs.ptr
      have hg0 := hrs.rd.lt
      have pp := hrs.plt
      have bg0 : w.heap.size + 1 < W.heap.size := by omega
      refine wpIn_wide.2 ?_
      go_cut [6] from 28 to 34 (fun s6 wx => ∃ q : Nat, s6 = .pointer (some ⟨q, 0, none⟩) ∧ QS W q wx #[.int .i64 (parseN (hd ws)).1, .int .i64 (parseN (hd ws.tail)).1, .int .i64 (parseN (hd ws.tail.tail)).1, .bool false, .int .i64 0, .int .i64 0, .bool false, .bool false, .int .i64 0, .bool false] ∧ RS w.heap.size g W wx ws.tail.tail.tail (numBad ws.tail.tail (numBad ws.tail (numBad ws false))) (numGreat ws.tail.tail (numGreat ws.tail (numGreat ws false))))
      case first =>
        go_region_held3 (fun wx => wx.cell? ⟨w.heap.size + 1 + 1, 0, none⟩ = some (.pointer (some ⟨w.heap.size + 1, 0, none⟩)))
          (first | (with_reducible assumption) | ((with_reducible refine (set10_cell ?_ _ _ _ _ _ _ _ _ _ _).trans ?_); (focus omega); (with_reducible assumption)) | go_keep)
          (first | (go_at_call 17; refine (number17r (by first | (with_reducible assumption) | (with_reducible exact RS.drew (by with_reducible assumption)) | (with_reducible exact RS.alloc (by with_reducible assumption) _) | (with_reducible exact RS.drew (RS.alloc (by with_reducible assumption) _)))).mono ?_; rintro e w1 ⟨rfl, hrs1, ho, hp⟩; have pv1 := hrs1.ptr; have pp1 := hrs1.plt; obtain ⟨bc, bf, bl, bg⟩ := ho.rules hp; have bh := ho.rowr; have hsz := ho.size; (try simp only [World.size_drew, World.size_alloc] at hsz); (first | (have hA : W.heap.size < w1.heap.size := by omega) | skip); (first | (have hQ := (bh _ (by omega) (by (try simp only [World.size_drew, World.size_alloc]); omega)).trans hQ) | (have hQ := (bh _ (by omega) (by simp only [World.size_drew, World.size_alloc]; omega)).trans (heap_alloc _ _)) | skip); clear ho hp; (try simp only [World.size_drew, World.cell?_drew, World.frozen?_drew] at bc); (try simp only [World.size_drew, World.cell?_drew, World.frozen?_drew] at bf); (try simp only [World.size_drew] at bl)))
        all_goals (first | (go_wp2_with fail; go_meet; refine ⟨_, rfl, ⟨?_, ?_⟩, ?_⟩; (focus omega); (first | (with_reducible exact heap_alloc _ _) | (with_reducible exact set10 hQ _ _ _ _ _ _ _ _ _ _)); (first | (with_reducible exact RS.alloc hrs1 _) | (with_reducible exact RS.young hrs1 hg0 (below10 (Below.refl _ _) (by omega) _ _ _ _ _ _ _ _ _ _)))))
      case rest =>
        obtain ⟨q, rfl, hq, hrs1⟩ := hcut
        have hqg := hq.ge
        have hQ := hq.row
        have pw := hrs1.ptr
        have pq := hrs1.plt
        clear hq
        go_upto_region 8 with fail
        refine wpIn_wide.2 ?_
        go_upto_region 8 with fail
        go_cut [35] from 36 to 38 (fun _ wx => QS W q wx #[.int .i64 (parseN (hd ws)).1, .int .i64 (parseN (hd ws.tail)).1, .int .i64 (parseN (hd ws.tail.tail)).1, .bool ((hd ws.tail.tail.tail).toList == bwdL), .int .i64 0, .int .i64 0, .bool false, .bool false, .int .i64 0, .bool false] ∧ RS w.heap.size g W wx ws.tail.tail.tail.tail (dirBad ws.tail.tail.tail (numBad ws.tail.tail (numBad ws.tail (numBad ws false)))) (numGreat ws.tail.tail (numGreat ws.tail (numGreat ws false))))
        case first =>
          obtain ⟨qf, qs, q3, q4, q5, q6, q7, q8, q9⟩ := q10 hQ
          go_wp2_with (go_at_call 18; refine (direction18r hrs1).mono ?_; rintro e w1 ⟨rfl, hrs2, ho⟩; have hQ := (ho.rowr _ (by omega) qs).trans hQ; clear qf qs q3 q4 q5 q6 q7 q8 q9; obtain ⟨qf, qs, q3, q4, q5, q6, q7, q8, q9⟩ := q10 hQ)
          all_goals (try go_meet)
          all_goals exact ⟨⟨hqg, rd_set hQ 3 _⟩, RS.young hrs2 hg0 ((Below.refl _ _).setCell (by omega) _)⟩
        case rest =>
          obtain ⟨hq, hrs1⟩ := hcut
          have hQ := hq.row
          have pw := hrs1.ptr
          have pq := hrs1.plt
          clear hq
          go_upto_region 9 with fail
          go_cut [38] from 39 to 46 (fun _ wx => QS W q wx #[.int .i64 (parseN (hd ws)).1, .int .i64 (parseN (hd ws.tail)).1, .int .i64 (parseN (hd ws.tail.tail)).1, .bool ((hd ws.tail.tail.tail).toList == bwdL), .int .i64 (parseN (hd ws.tail.tail.tail.tail)).1, .int .i64 (parseN (hd ws.tail.tail.tail.tail.tail)).1, .bool false, .bool false, .int .i64 (parseN (hd ws.tail.tail.tail.tail.tail.tail)).1, .bool false] ∧ RS w.heap.size g W wx ws.tail.tail.tail.tail.tail.tail.tail (numBad ws.tail.tail.tail.tail.tail.tail (numBad ws.tail.tail.tail.tail.tail (numBad ws.tail.tail.tail.tail (dirBad ws.tail.tail.tail (numBad ws.tail.tail (numBad ws.tail (numBad ws false))))))) (numGreat ws.tail.tail.tail.tail.tail.tail (numGreat ws.tail.tail.tail.tail.tail (numGreat ws.tail.tail.tail.tail (numGreat ws.tail.tail (numGreat ws.tail (numGreat ws false)))))))
          case first =>
            obtain ⟨qf, qs, q3, q4, q5, q6, q7, q8, q9⟩ := q10 hQ
            go_region_held3 (fun wx => wx.cell? ⟨w.heap.size + 1 + 1, 0, none⟩ = some (.pointer (some ⟨w.heap.size + 1, 0, none⟩)))
              (first | (with_reducible assumption) | (exact cell_set_other (by omega) (by with_reducible assumption)) | go_keep)
              (first | (go_at_call 17; refine (number17r (by first | (with_reducible assumption) | (with_reducible exact RS.drew (by with_reducible assumption)))).mono ?_; rintro e w1 ⟨rfl, hrs1, ho, hp⟩; have pv1 := hrs1.ptr; have pp1 := hrs1.plt; (try simp only [World.size_drew] at ho); have hQ := (ho.rowr _ (by omega) (by first | exact qs | (simp only [World.size_drew]; exact qs))).trans hQ; clear qf qs q3 q4 q5 q6 q7 q8 q9 ho hp; obtain ⟨qf, qs, q3, q4, q5, q6, q7, q8, q9⟩ := q10 hQ))
            all_goals
              go_wp2_with fail
              go_meet
              exact ⟨⟨hqg, rd_set (rd_set (rd_set hQ 4 _) 5 _) 8 _⟩, RS.young hrs1 hg0 ((((Below.refl _ _).setCell (by omega) _).setCell (by omega) _).setCell (by omega) _)⟩
          case rest =>
            obtain ⟨hq, hrs1⟩ := hcut
            have hQ := hq.row
            have pw := hrs1.ptr
            have pq := hrs1.plt
            clear hq
            go_upto_region 10 with fail
            go_cut [46] from 47 to 55 (fun _ wx => QS W q wx #[.int .i64 (parseN (hd ws)).1, .int .i64 (parseN (hd ws.tail)).1, .int .i64 (parseN (hd ws.tail.tail)).1, .bool ((hd ws.tail.tail.tail).toList == bwdL), .int .i64 (parseN (hd ws.tail.tail.tail.tail)).1, .int .i64 (parseN (hd ws.tail.tail.tail.tail.tail)).1, .bool (flagHit ws.tail.tail.tail.tail.tail.tail.tail sfB), .bool (flagHit (flagDrop ws.tail.tail.tail.tail.tail.tail.tail sfB) biB), .int .i64 (parseN (hd ws.tail.tail.tail.tail.tail.tail)).1, .bool (flagHit (flagDrop (flagDrop ws.tail.tail.tail.tail.tail.tail.tail sfB) biB) chB)] ∧ RS w.heap.size g W wx (flagDrop (flagDrop (flagDrop ws.tail.tail.tail.tail.tail.tail.tail sfB) biB) chB) (numBad ws.tail.tail.tail.tail.tail.tail (numBad ws.tail.tail.tail.tail.tail (numBad ws.tail.tail.tail.tail (dirBad ws.tail.tail.tail (numBad ws.tail.tail (numBad ws.tail (numBad ws false))))))) (numGreat ws.tail.tail.tail.tail.tail.tail (numGreat ws.tail.tail.tail.tail.tail (numGreat ws.tail.tail.tail.tail (numGreat ws.tail.tail (numGreat ws.tail (numGreat ws false)))))))
            case first =>
              obtain ⟨qf, qs, q3, q4, q5, q6, q7, q8, q9⟩ := q10 hQ
              go_region_held3 (fun wx => wx.cell? ⟨w.heap.size + 1 + 1, 0, none⟩ = some (.pointer (some ⟨w.heap.size + 1, 0, none⟩)))
                (first | (with_reducible assumption) | (exact cell_set_other (by omega) (by with_reducible assumption)) | go_keep)
                (first | (go_at_call 19; refine (flag19r _ (by first | (with_reducible assumption) | (with_reducible exact RS.drew (by with_reducible assumption)))).mono ?_; rintro e w1 ⟨rfl, hrs1, ho, hp⟩; have pv1 := hrs1.ptr; have pp1 := hrs1.plt; (try simp only [World.size_drew] at ho); have hQ := (ho.rowr _ (by omega) (by first | exact qs | (simp only [World.size_drew]; exact qs))).trans hQ; clear qf qs q3 q4 q5 q6 q7 q8 q9 ho hp; obtain ⟨qf, qs, q3, q4, q5, q6, q7, q8, q9⟩ := q10 hQ))
              all_goals
                go_wp2_with fail
                go_meet
                exact ⟨⟨hqg, rd_set (rd_set (rd_set hQ 6 _) 7 _) 9 _⟩, RS.young hrs1 hg0 ((((Below.refl _ _).setCell (by omega) _).setCell (by omega) _).setCell (by omega) _)⟩
            case rest =>
              obtain ⟨hq, hrs1⟩ := hcut
              have hQ := hq.row
              have hrsP : RS w.heap.size g W wc (progRest ws) (progBad ws) (progGreat ws) := hrs1
              have pw := hrs1.ptr
              have pq := hrs1.plt
              clear hq hrs1
              obtain ⟨off2, cap2, m1, m2, m3, m4⟩ := hrsP.rd.row
              obtain ⟨d0, d1, d2, df, dp⟩ := rd_cells m1
              have HM4 := Lib.hid m4
              clear m4
              go_upto_region 11 with fail
              go_cut [67] from 56 to 66 (fun t wx => t = .bool (progBad ws || decide (0 < (progRest ws).length)) ∧ wx = wc)
              case first =>
                cases hb : progBad ws <;> by_cases hl : 0 < (progRest ws).length <;> simp only [hb] at d1
                all_goals
                  go_wp2_with fail
                  go_meet
                  exact ⟨by simp [hl, hb], rfl⟩
              case rest =>
                obtain ⟨rfl, rfl⟩ := hcut
                have hR0 := (hrsP.only.block w.heap.size (by omega) (by omega)).trans HG3.out
                have hDl : D < W.heap.size := (Array.getElem?_eq_some_iff.1 HDD.out).1
                have hD1 : D ≠ w.heap.size + 1 := by simp at hD; omega
                have hD0 := (hrsP.only.block D hDl hD1).trans HDD.out
                have hBl : Below w.heap.size w wc := HG5.out.trans (hrsP.only.below (by omega) (by omega))
                have rf : ∀ o, wc.frozen? ⟨w.heap.size, o, none⟩ = false := fun o => by simp only [World.frozen?, hR0]; rfl
                have rl : w.heap.size < wc.heap.size := by omega
                have rc : ∀ o, wc.cell? ⟨w.heap.size, o, none⟩ = (w.alloc (.cells #[.int .i64 0, .int .i64 0, .int .i64 0, .bool false, .int .i64 0, .int .i64 0, .bool false, .bool false, .int .i64 0, .bool false] 23)).cell? ⟨w.heap.size, o, none⟩ := fun o => by simp only [World.cell?, heap_alloc, hR0]; rfl
                have hlen : decide (0 < (progRest ws).length) = !(progRest ws).isEmpty := by cases progRest ws <;> rfl
                rw [hlen]
                have hDw : D ≠ w.heap.size := by simp at hD; omega
                cases hx : (progBad ws || !(progRest ws).isEmpty)
                · have hqD : q ≠ D := by omega
                  have hkeep : ∀ wx, Below wc.heap.size wc wx → wx.heap[w.heap.size]? = some (.cells zq10 23 (0, 0)) ∧ wx.heap[D]? = some (.deferred (some [])) ∧ wx.heap[q]? = some (.cells #[.int .i64 (progQ ws).from_, .int .i64 (progQ ws).to_, .int .i64 (progQ ws).time, .bool (progQ ws).back, .int .i64 (progQ ws).rides, .int .i64 (progQ ws).walk, .bool (progQ ws).sf, .bool (progQ ws).bi, .int .i64 (progQ ws).modes, .bool (progQ ws).ch] 23 (0, 0)) ∧ Below w.heap.size w wx := fun wx hb =>
                    ⟨(hb.block _ rl).trans hR0, (hb.block _ (Nat.lt_of_lt_of_le hDl hrsP.only.size)).trans hD0, (hb.block _ (q10 hQ).2.1).trans hQ, hBl.trans (hb.mono (by omega))⟩
                  go_upto_region 13 with fail
                  go_cut [77] from 69 to 76 (fun t wx => t = .bool (progGreat ws || !(progQ ws).valid) ∧ Below wc.heap.size wc wx)
                  case first =>
                    obtain ⟨z0, z1, z2, z3, z4, z5, z6, z7, z8, z9⟩ := q_all hQ
                    have qf : ∀ o, wc.frozen? ⟨q, o, none⟩ = false := (q10 hQ).1
                    have ql : q < wc.heap.size := (q10 hQ).2.1
                    cases hg : progGreat ws <;> simp only [hg] at d2
                    · go_wp2_with (go_at_call 10; refine (valid10 _ _ _ _ _ _ _ _ _ _ _).mono ?_; rintro e w1 ⟨rfl, hb⟩)
                      all_goals (try go_meet)
                      all_goals exact ⟨by rw [hg]; rfl, hb⟩
                    · go_wp2_with fail
                      go_meet
                      exact ⟨by rw [hg]; rfl, Below.refl _ _⟩
                  case rest =>
                    obtain ⟨rfl, hbv⟩ := hcut
                    obtain ⟨hR1, hD1', hQ1, hBl1⟩ := hkeep _ hbv
                    have HP := Lib.hid (show parseProg ws = (if (progGreat ws || !(progQ ws).valid) = true then (zeroQy, 22) else (progQ ws, 0)) by unfold parseProg; rw [HN.out, hx]; rfl)
                    clear hkeep hQ hR0 hD0 hBl d0 d1 d2 df dp rf rl rc
                    obtain ⟨z0, z1, z2, z3, z4, z5, z6, z7, z8, z9⟩ := q_all hQ1
                    obtain ⟨y0, y1, y2, y3, y4, y5, y6, y7, y8, y9⟩ := q_all hR1
                    have qf := (q10 hQ1).1
                    have ql := (q10 hQ1).2.1
                    have rf := (q10 hR1).1
                    have rl := (q10 hR1).2.1
                    cases hy : (progGreat ws || !(progQ ws).valid)
                    · go_wp2
                      refine ret8 (by rfl) (by rfl) (set10 hR1 _ _ _ _ _ _ _ _ _ _) ((set10_other hDb _ _ _ _ _ _ _ _ _ _).trans hD1') hDb ⟨?_, below_put (below10 hBl1 (Nat.le_refl _) _ _ _ _ _ _ _ _ _ _) (by simp at hD; omega) _⟩
                      rw [HWS.out, HP.out, hy]
                      rfl
                    · go_wp2
                      refine ret8 (by rfl) (by rfl) (set10 hR1 _ _ _ _ _ _ _ _ _ _) ((set10_other hDb _ _ _ _ _ _ _ _ _ _).trans hD1') hDb ⟨?_, below_put (below10 hBl1 (Nat.le_refl _) _ _ _ _ _ _ _ _ _ _) (by simp at hD; omega) _⟩
                      rw [HWS.out, HP.out, hy]
                      rfl
                · have HP := Lib.hid (show parseProg ws = (zeroQy, 3) by unfold parseProg; rw [HN.out, hx]; rfl)
                  go_wp2
                  refine ret8 (by rfl) (by rfl) (set10 hR0 _ _ _ _ _ _ _ _ _ _) ((set10_other hDb _ _ _ _ _ _ _ _ _ _).trans hD0) hDb ⟨?_, below_put (below10 hBl (Nat.le_refl _) _ _ _ _ _ _ _ _ _ _) (by simp at hD; omega) _⟩
                  rw [HWS.out, HP.out]
                  rfl
    · have HN := Lib.hid hneg
      have HP := Lib.hid (show parseProg ws = (zeroQy, 3) by unfold parseProg; rw [hneg]; rfl)
      clear hneg
      gi_wp2_with (refine ⟨trivial, rfl, ?_⟩; gi_at_call 16; refine (callsIn_wide.2 (negative16 g off cap ws _ k2 k3 HK4.out)).mono ?_; rw [HN.out]; rintro e w1 ⟨rfl, rfl⟩)
      refine ret8 (by rfl) (by rfl) (set10 HG3.out _ _ _ _ _ _ _ _ _ _) ((set10_other hDb _ _ _ _ _ _ _ _ _ _).trans HDD.out) hDb ⟨?_, below_put (below10 HG5.out (Nat.le_refl _) _ _ _ _ _ _ _ _ _ _) (by simp at hD; omega) _⟩
      rw [HWS.out, HP.out]
      rfl
end Go.Proofs
