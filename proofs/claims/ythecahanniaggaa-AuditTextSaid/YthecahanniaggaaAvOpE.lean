/-
  The operations' soundness, fifth part: append as a whole; copy; conversions.
-/
import Derived.Test.YthecahanniaggaaAvApp
import Derived.Test.YthecahanniaggaaAvFirst
namespace Go.AV

section
variable {P : Program} {ρ : Ren} {w : World} {h : Hs}

theorem roomOk_sound {e : TypeId} {i : TypeInfo} {n : Nat} (hi : P.info? e = some i) (hr : roomOk i n = true) : ∃ z, Room P e i n z := by
  unfold roomOk at hr
  split at hr
  · rename_i z hz
    simp only [Bool.and_eq_true] at hr
    obtain ⟨⟨⟨⟨h1, h2⟩, h3⟩, h4⟩, h5⟩ := hr
    refine ⟨z, hi, hz, ?_, Nat.le_of_ble_eq_true h2, Nat.le_of_ble_eq_true h3, ?_, Nat.le_of_ble_eq_true h5⟩
    · rw [← Array.length_toList, vcells_eq]; exact Nat.eq_of_beq_eq_true h1
    · simpa [Nat.blt_eq] using h4
  · cases hr

theorem HRel.heap {H : HF} {w1 : World} (hh : HRel ρ H w) (he : w1.heap = w.heap) : HRel ρ H w1 := hh.world he

theorem Step.thenWorld {ρ' : Ren} {H H' : HF} {w1 w' : World} {lo hi : Nat} (hs : Step ρ H w1 ρ' H' w' lo hi) (h1 : w1.heap = w.heap) (h2 : w1.os = w.os) (h3 : w1.tape = w.tape) (h4 : w1.output = w.output) : Step ρ H w ρ' H' w' lo hi :=
  ⟨hs.os.trans h2, hs.tape.trans h3, hs.output.trans h4, by rw [← h1]; exact hs.size, fun r hr hno => by rw [← h1] at hr ⊢; exact hs.same r hr hno, fun b o L a c d => by rw [← h1]; exact hs.own b o L a c d,
    fun b o L a c => by rw [← h1]; exact hs.any b o L a c, hs.ext, hs.rng⟩

theorem Step.subL {ρ' : Ren} {H0 H H' : HF} {w' : World} {lo hi : Nat} (hs : Step ρ H w ρ' H' w' lo hi) (hsub : ∀ b o, H b = some o → H0 b = some o) : Step ρ H0 w ρ' H' w' lo hi :=
  { hs with
    same := fun r hr hno => hs.same r hr fun b o L a c d => hno b o L (hsub _ _ a) c d
    own := fun b o L a c d => (hs.own b o L a c d).imp (fun ⟨i, oi, Li, x⟩ => ⟨i, oi, Li, hsub _ _ x.1, x.2⟩) id
    any := fun b o L a c => (hs.any b o L a c).imp (fun ⟨i, oi, Li, x⟩ => ⟨i, oi, Li, hsub _ _ x.1, x.2⟩) id }

/-- the block of a row that append has laid: the known cells, then as many zero elements as were drawn -/
theorem rowBlk {ρ' : Ren} {b ψ e : Nat} {cs : List Value} {cs' : List Value} {i : TypeInfo} {z : Value} {n : Nat} (hv : VRs ρ' cs cs') (hlen : cs.length = n * i.size) (hz : z.cells.size = i.size) :
    OR ρ' ⟨b, 0, ψ⟩ (.blk { cells := cs, cap := n * i.size, esz := i.size, elem := e, exact := false, whole := false, frz := 0, own := true }) (.cells ((⟨cs'⟩ : Array Value) ++ Builtin.zeroCells z.cells ψ) e) := by
  refine blkR_of hv (by omega) (fun _ => ?_) (fun j hj => ?_) (fun h => by cases h) (fun h => by cases h) (fun _ => rfl) (fun h => by cases h)
  · simp only [Array.size_append, zeroCells_size, hz, List.size_toArray, hv.length]
    rw [hlen]
    simp
  · simp only [Nat.zero_add]
    rw [Array.getElem?_append_left (by simp [hv.length, hj])]
    simp

theorem arr_cat (a b : List Value) (c : Array Value) : (⟨a⟩ : Array Value) ++ ((⟨b⟩ : Array Value) ++ c) = (⟨a ++ b⟩ : Array Value) ++ c := by apply Array.ext'; simp

theorem append_ok {ats : List TypeId} {s s' x x' : Value} {ty : TypeId} {r : Res} (hs : VR ρ s s') (hx : VR ρ x x') (hh : HRel ρ h.heap.get w) (hf : Fresh ρ h.next (r.next h)) (hr : aappend P h ats s x = some r) :
    ∃ v h', r = .val v h' ∧ ValOK P ρ h w (Builtin.append_ ⟨ats⟩ ty #[s', x']) v h' := by
  unfold aappend at hr
  split at hr
  · rename_i st xt
    split at hr
    · rename_i e xd hu hxu
      split at hr
      · cases hr
      · rename_i xd _ _ i hnot hi
        have hxd : notInt xd = true := by cases xd <;> first | rfl | exact (hnot _ rfl).elim
        split at hr
        · rename_i n base len cap hn
          have hlen := lenV_sound (P := P) (w := w) hx hn
          split at hr
          · rename_i new hnew
            obtain ⟨new', hnew', hnR⟩ := firstC_sound (P := P) hh hx hnew
            have hrn := hnew' w rfl
            split at hr
            · -- there is room
              rename_i hle
              have hle' := Nat.le_of_ble_eq_true hle
              split at hr
              · split at hr
                · cases hr
                  cases hs with
                  | sc _ _ => exact ⟨_, _, rfl, ValOK.pure hh (run_append_in hu hxu hxd hi hlen hrn hle' rfl) (.sc _ rfl)⟩
                · cases hr
              · rename_i a
                split at hr
                · cases hr
                  cases hnR
                  cases hs with
                  | sc _ h => simp [simple] at h
                  | sl b o _ _ L hL => exact ⟨_, _, rfl, ValOK.pure hh (run_append_in hu hxu hxd hi hlen hrn (by omega) (by simp [storeCells])) (.sl _ _ _ _ _ hL)⟩
                · split at hr
                  · rename_i hsp h' hw
                    cases hr
                    obtain ⟨L, w', hL, hrun, hh', hst⟩ := writeAt_sound (P := P) hh hw hnR
                    cases hs with
                    | sc _ h => simp [simple] at h
                    | sl b o _ _ L' hL' =>
                      rw [hL] at hL'; cases hL'
                      refine ⟨_, _, rfl, ρ, _, w', run_append_in hu hxu hxd hi hlen hrn (by omega) ?_, .sl _ _ _ _ _ hL, hh', hst _ _⟩
                      show (storeCells ((⟨L.φ, L.δ + o, none⟩ : Addr).add (len * i.size)) new').run P w = _
                      rw [addr_add, Nat.add_assoc]; exact hrun
                  · cases hr
                · cases hr
            · -- a new row, or the room that is not known
              rename_i hle
              have hlt : cap < len + n := by
                rcases Nat.lt_or_ge cap (len + n) with h' | h'
                · exact h'
                · rw [Nat.ble_eq_true_of_le h'] at hle; cases hle
              split at hr
              · rename_i hroom
                simp only [Bool.and_eq_true] at hroom
                obtain ⟨hroom, hnl⟩ := hroom
                have hlen' : new.length = n * i.size := Nat.eq_of_beq_eq_true hnl
                have hn' : ∀ v h', r = .val v h' → h.next < h'.next → ρ h.next = none := fun v h' he hlt => hf _ (Nat.le_refl _) (by rw [he]; exact hlt)
                obtain ⟨z, hroom⟩ := roomOk_sound hi hroom
                split at hr
                · -- a nil slice
                  split at hr
                  · cases hr
                    have hn' := hn' _ _ rfl (Nat.lt_succ_self _)
                    cases hs with
                    | sc _ _ =>
                      obtain ⟨ψ, hrun⟩ := run_append_new (ty := ty) (base := none) hu hxu hxd hroom hlen hnew' hlt (old' := []) (fun w1 _ => by simp [Builtin.firstCells])
                      rw [arr_cat, List.nil_append] at hrun
                      obtain ⟨e1, e2⟩ := HRel.new (w := w.drew) (H' := (newObjA h (.blk { cells := new, cap := n * i.size, esz := i.size, elem := e, exact := false, whole := false, frz := 0, own := true })).heap.get)
                        (δ := 0) (ψ := ψ) (hh.heap (w1 := w.drew) rfl) hn' (rowBlk (z := z) (hnR.mono (Ren.set_le _ hn')) hlen' hroom.size) (fun j => T.get_set _ _ _ _)
                      refine ⟨_, _, rfl, _, _, _, hrun, ?_, ?_, e2.thenWorld (w := w) rfl rfl rfl rfl⟩
                      · have := VR.newSl ρ h.next ⟨w.heap.size, 0, ψ⟩ n n rfl
                        simpa using this
                      · simpa using e1
                  · cases hr
                · -- a slice
                  rename_i a
                  split at hr
                  · rename_i k hsp hk
                    split at hr
                    · rename_i old hold
                      cases hs with
                      | sc _ h => simp [simple] at h
                      | sl b o _ _ L hL =>
                        obtain ⟨L0, x0, hL0, hx0, hR⟩ := hh.obj _ _ hk
                        rw [hL] at hL0; cases hL0
                        obtain ⟨c, fr, rfl, hR⟩ := blk_of_or hR
                        obtain ⟨old', c1, c2, c3⟩ := hR.cellsAt hx0 hold
                        have hrold : ∀ cap' (w1 : World), w1.heap = w.heap → (Builtin.firstCells i.size len (.slice (some ⟨L.φ, L.δ + o, none⟩) len cap')).run P w1 = .ok ⟨old'⟩ w1 := fun cap' w1 hw1 => by
                          have hl := run_loadCells_list (P := P) w1 ⟨L.φ, L.δ + o, none⟩ old' (fun j v hj => by
                            rw [addr_add]
                            have := c3 j v hj
                            simp only [World.cell?] at this ⊢
                            rw [hw1]; exact this)
                          rw [c1] at hl
                          simp only [Builtin.firstCells]; exact hl
                        have holen := (takeN_spec hold).1
                        have hcat : (old ++ new).length = (len + n) * i.size := by rw [List.length_append, holen, hlen', Nat.add_mul]
                        split at hr
                        · -- exact: a new row
                          rename_i hex
                          cases hr
                          have hn' := hn' _ _ rfl (Nat.lt_succ_self _)
                          have hψ := hR.exact hex
                          obtain ⟨ψ, hrun⟩ := run_append_new (ty := ty) (cap := cap + L.ψ) hu hxu hxd hroom hlen hnew' (by omega) (hrold _)
                          rw [arr_cat] at hrun
                          obtain ⟨e1, e2⟩ := HRel.new (w := w.drew) (H' := (newObjA h (.blk { cells := old ++ new, cap := (len + n) * i.size, esz := i.size, elem := e, exact := false, whole := false, frz := 0, own := true })).heap.get)
                            (δ := 0) (ψ := ψ) (hh.heap (w1 := w.drew) rfl) hn' (rowBlk (z := z) ((c2.append hnR).mono (Ren.set_le _ hn')) hcat hroom.size) (fun j => T.get_set _ _ _ _)
                          refine ⟨_, _, rfl, _, _, _, hrun, ?_, ?_, e2.thenWorld (w := w) rfl rfl rfl rfl⟩
                          · have := VR.newSl ρ h.next ⟨w.heap.size, 0, ψ⟩ (len + n) (len + n) rfl
                            simpa using this
                          · simpa [Array.append_assoc] using e1
                        · split at hr
                          · rename_i hown hfrz hcapk hesz
                            simp only [Bool.and_eq_true] at hesz
                            obtain ⟨⟨hesz, hkel⟩, hac⟩ := hesz
                            cases hr
                            have hn' := hn' _ _ rfl (Nat.lt_succ_self _)
                            have hcapk' : o + cap * i.size = k.cap := Nat.eq_of_beq_eq_true hcapk
                            have hesz' := Nat.eq_of_beq_eq_true hesz
                            by_cases hin : len + n ≤ cap + L.ψ
                            · -- in place
                              have hroomk := hR.room hown
                              have hfr := hR.frz0 hfrz
                              subst hfr
                              have hmul : (len + n) * i.size ≤ (cap + L.ψ) * i.size := Nat.mul_le_mul_right _ hin
                              rw [Nat.add_mul, Nat.add_mul] at hmul
                              rw [hesz'] at hroomk
                              have hnl' := hnR.length
                              obtain ⟨w', c', hr1, hu1, hs1, hc1⟩ := stores P L.φ k.elem (0, 0) new' (L.δ + o + len * i.size) 0 c w hx0 (by omega) (fun p _ _ => by simp) (hnR.allCells hac)
                              have hwr : VRs ρ (old ++ new) (old' ++ new') := c2.append hnR
                              have hOR : OR (ρ.set h.next ⟨L.φ, L.δ + o, cap + L.ψ - (len + n)⟩) ⟨L.φ, L.δ + o, cap + L.ψ - (len + n)⟩ (.blk { cells := old ++ new, cap := (len + n) * i.size, esz := i.size, elem := e, exact := false, whole := false, frz := 0, own := true }) (.cells c' k.elem (0, 0)) := by
                                refine ⟨?_, by show (old ++ new).length ≤ _; rw [hcat]; exact Nat.le_refl _, fun _ => ?_, fun j v hj => ?_, (fun h => by cases h), (fun h => by cases h), fun _ => rfl, (fun h => by cases h)⟩
                                · show k.elem = e
                                  exact Nat.eq_of_beq_eq_true hkel
                                · show L.δ + o + (len + n) * i.size + (cap + L.ψ - (len + n)) * i.size ≤ c'.size
                                  rw [hs1, Nat.sub_mul, Nat.add_mul, Nat.add_mul]
                                  omega
                                · have hj' : (old ++ new)[j]? = some v := hj
                                  show ∃ v', c'[L.δ + o + j]? = some v' ∧ _
                                  rw [hc1]
                                  by_cases hjo : j < len * i.size
                                  · rw [List.getElem?_append_left (by omega)] at hj'
                                    rw [if_neg (by omega)]
                                    rw [(takeN_spec hold).2 j hjo, dropN_spec, List.getElem?_drop] at hj'
                                    obtain ⟨u, hu1, hu2⟩ := hR.cell _ _ hj'
                                    exact ⟨u, by rw [← Nat.add_assoc] at hu1; exact hu1, hu2.mono (Ren.set_le _ hn')⟩
                                  · rw [List.getElem?_append_right (by omega)] at hj'
                                    obtain ⟨u, hu1, hu2⟩ := hnR.get hj'
                                    have hjn : j - old.length < new.length := by
                                      rcases Nat.lt_or_ge (j - old.length) new.length with h' | h'
                                      · exact h'
                                      · simp [List.getElem?_eq_none h'] at hj'
                                    rw [if_pos (by omega)]
                                    exact ⟨u, by rw [show L.δ + o + j - (L.δ + o + len * i.size + 0) = j - old.length by omega]; exact hu1, hu2.mono (Ren.set_le _ hn')⟩
                              obtain ⟨e1, e2⟩ := HRel.move (H' := ((h.heap.del b).set h.next (.blk { cells := old ++ new, cap := (len + n) * i.size, esz := i.size, elem := e, exact := false, whole := false, frz := 0, own := true })).get)
                                (L' := ⟨L.φ, L.δ + o, cap + L.ψ - (len + n)⟩) hh hk hown hL hn' rfl hu1 hOR (fun j => by rw [T.get_set, T.get_del])
                              refine ⟨_, _, rfl, _, .slice (some ⟨L.φ, L.δ + o, none⟩) (len + n) (cap + L.ψ), w', run_append_in hu hxu hxd hi hlen hrn hin ?_, ?_, e1, e2⟩
                              · show (storeCells ((⟨L.φ, L.δ + o, none⟩ : Addr).add (len * i.size)) new').run P w = _
                                rw [addr_add]; exact hr1
                              · have := VR.sl (ρ := ρ.set h.next ⟨L.φ, L.δ + o, cap + L.ψ - (len + n)⟩) h.next 0 (len + n) (len + n) _ (Ren.set_same _ _ _)
                                rw [show len + n + (⟨L.φ, L.δ + o, cap + L.ψ - (len + n)⟩ : Loc).ψ = cap + L.ψ by show len + n + (cap + L.ψ - (len + n)) = cap + L.ψ; omega] at this
                                simpa using this
                            · -- a new row
                              obtain ⟨ψ, hrun⟩ := run_append_new (ty := ty) (cap := cap + L.ψ) hu hxu hxd hroom hlen hnew' (by omega) (hrold _)
                              rw [arr_cat] at hrun
                              have hdel : HRel ρ (h.heap.del b).get w.drew := (hh.heap (w1 := w.drew) rfl).sub fun j o' hj => by rw [T.get_del] at hj; split at hj <;> first | cases hj | exact hj
                              obtain ⟨e1, e2⟩ := HRel.new (w := w.drew) (H' := ((h.heap.del b).set h.next (.blk { cells := old ++ new, cap := (len + n) * i.size, esz := i.size, elem := e, exact := false, whole := false, frz := 0, own := true })).get)
                                (δ := 0) (ψ := ψ) hdel hn' (rowBlk (z := z) ((c2.append hnR).mono (Ren.set_le _ hn')) hcat hroom.size) (fun j => T.get_set _ _ _ _)
                              refine ⟨_, _, rfl, _, _, _, hrun, ?_, ?_, (e2.subL (H0 := h.heap.get) fun j o' hj => by rw [T.get_del] at hj; split at hj <;> first | cases hj | exact hj).thenWorld (w := w) rfl rfl rfl rfl⟩
                              · have := VR.newSl ρ h.next ⟨w.heap.size, 0, ψ⟩ (len + n) (len + n) rfl
                                simpa using this
                              · simpa [Array.append_assoc] using e1
                          · cases hr
                    · cases hr
                  · cases hr
              · cases hr
          · cases hr
        · cases hr
      · cases hr
    · cases hr
  · cases hr

end
end Go.AV
