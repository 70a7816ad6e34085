/-
  A part of the proof: lemmas of my own.
-/
import Derived.Test.YtamocmgfbonodaaGreatAvApp
import Derived.Test.YtamocmgfbonodaaGreatAvB
import Derived.IntWalk
import Derived.KernelRfl
import Derived.Laws.IdiomStrings
set_option linter.unusedVariables false
set_option linter.unusedSimpArgs false
namespace Go.AV

section
variable {P : Program} {ρ : Ren} {w : World} {h : Hs}

theorem roomOk_sound {e : TypeId} {i : TypeInfo} {n : Nat} (hi : P.info? e = some i) (hr : roomOk i n = true) : ∃ z, Room P e i n z := by
  unfold roomOk at hr
  split at hr
  · rename_i z hz
    simp only [Bool.and_eq_true] at hr
    obtain ⟨⟨⟨⟨h1, h2⟩, h3⟩, h4⟩, h5⟩ := hr
    refine ⟨z, hi, hz, ?_, Nat.le_of_ble_eq_true h2, Nat.le_of_ble_eq_true h3, ?_, Nat.le_of_ble_eq_true h5⟩
    · rw [← Array.length_toList, vcells_eq]; exact Nat.eq_of_beq_eq_true h1
    · simpa [Nat.blt_eq] using h4
  · cases hr

theorem HRel.heap {H : HF} {w1 : World} (hh : HRel ρ H w) (he : w1.heap = w.heap) : HRel ρ H w1 := hh.world he

theorem Step.thenWorld {ρ' : Ren} {H H' : HF} {w1 w' : World} {lo hi : Nat} (hs : Step ρ H w1 ρ' H' w' lo hi) (h1 : w1.heap = w.heap) (h2 : w1.os = w.os) (h3 : w1.tape = w.tape) (h4 : w1.output = w.output) : Step ρ H w ρ' H' w' lo hi :=
  ⟨hs.os.trans h2, hs.tape.trans h3, hs.output.trans h4, by rw [← h1]; exact hs.size, fun r hr hno => by rw [← h1] at hr ⊢; exact hs.same r hr hno, fun b o L a c d => by rw [← h1]; exact hs.own b o L a c d,
    fun b o L a c => by rw [← h1]; exact hs.any b o L a c, hs.ext, hs.rng⟩

theorem Step.subL {ρ' : Ren} {H0 H H' : HF} {w' : World} {lo hi : Nat} (hs : Step ρ H w ρ' H' w' lo hi) (hsub : ∀ b o, H b = some o → H0 b = some o) : Step ρ H0 w ρ' H' w' lo hi :=
  { hs with
    same := fun r hr hno => hs.same r hr fun b o L a c d => hno b o L (hsub _ _ a) c d
    own := fun b o L a c d => (hs.own b o L a c d).imp (fun ⟨i, oi, Li, x⟩ => ⟨i, oi, Li, hsub _ _ x.1, x.2⟩) id
    any := fun b o L a c => (hs.any b o L a c).imp (fun ⟨i, oi, Li, x⟩ => ⟨i, oi, Li, hsub _ _ x.1, x.2⟩) id }

/-- the block of a row that append has laid: the known cells, then as many zero elements as were drawn -/
theorem rowBlk {ρ' : Ren} {b ψ e : Nat} {cs : List Value} {cs' : List Value} {i : TypeInfo} {z : Value} {n : Nat} (hv : VRs ρ' cs cs') (hlen : cs.length = n * i.size) (hz : z.cells.size = i.size) :
    OR ρ' ⟨b, 0, ψ⟩ (.blk { cells := cs, cap := n * i.size, esz := i.size, elem := e, exact := false, whole := false, frz := 0, own := true }) (.cells ((⟨cs'⟩ : Array Value) ++ Builtin.zeroCells z.cells ψ) e) := by
  refine blkR_of hv (by omega) (fun _ => ?_) (fun j hj => ?_) (fun h => by cases h) (fun h => by cases h) (fun _ => rfl) (fun h => by cases h)
  · simp only [Array.size_append, zeroCells_size, hz, List.size_toArray, hv.length]
    rw [hlen]
    simp
  · simp only [Nat.zero_add]
    rw [Array.getElem?_append_left (by simp [hv.length, hj])]
    simp

theorem arr_cat (a b : List Value) (c : Array Value) : (⟨a⟩ : Array Value) ++ ((⟨b⟩ : Array Value) ++ c) = (⟨a ++ b⟩ : Array Value) ++ c := by apply Array.ext'; simp

theorem append_ok {ats : List TypeId} {s s' x x' : Value} {ty : TypeId} {r : Res} (hs : VR ρ s s') (hx : VR ρ x x') (hh : HRel ρ h.heap.get w) (hf : Fresh ρ h.next (r.next h)) (hr : aappend P h ats s x = some r) :
    ∃ v h', r = .val v h' ∧ ValOK P ρ h w (Builtin.append_ ⟨ats⟩ ty #[s', x']) v h' := by
  unfold aappend at hr
  split at hr
  · rename_i st xt
    split at hr
    · rename_i e xd hu hxu
      split at hr
      · cases hr
      · rename_i xd _ _ i hnot hi
        have hxd : notInt xd = true := by cases xd <;> first | rfl | exact (hnot _ rfl).elim
        split at hr
        · rename_i n base len cap hn
          have hlen := lenV_sound (P := P) (w := w) hx hn
          split at hr
          · rename_i new hnew
            obtain ⟨new', hnew', hnR⟩ := firstC_sound (P := P) hh hx hnew
            have hrn := hnew' w rfl
            split at hr
            · -- there is room
              rename_i hle
              have hle' := Nat.le_of_ble_eq_true hle
              split at hr
              · split at hr
                · cases hr
                  cases hs with
                  | sc _ _ => exact ⟨_, _, rfl, ValOK.pure hh (run_append_in hu hxu hxd hi hlen hrn hle' rfl) (.sc _ rfl)⟩
                · cases hr
              · rename_i a
                split at hr
                · cases hr
                  cases hnR
                  cases hs with
                  | sc _ h => exact ((simple_sl h).1 (by assumption)).elim
                  | es _ _ h => exact (h (by assumption)).elim
                  | sl b o _ _ L hL => exact ⟨_, _, rfl, ValOK.pure hh (run_append_in hu hxu hxd hi hlen hrn (by omega) (by simp [storeCells])) (.sl _ _ _ _ _ hL)⟩
                · split at hr
                  · rename_i hsp h' hw
                    cases hr
                    obtain ⟨L, w', hL, hrun, hh', hst⟩ := writeAt_sound (P := P) hh hw hnR
                    cases hs with
                    | sc _ h => exact ((simple_sl h).1 (by assumption)).elim
                    | es _ _ h => exact (h (by assumption)).elim
                    | sl b o _ _ L' hL' =>
                      rw [hL] at hL'; cases hL'
                      refine ⟨_, _, rfl, ρ, _, w', run_append_in hu hxu hxd hi hlen hrn (by omega) ?_, .sl _ _ _ _ _ hL, hh', hst _ _⟩
                      show (storeCells ((⟨L.φ, L.δ + o, none⟩ : Addr).add (len * i.size)) new').run P w = _
                      rw [addr_add, Nat.add_assoc]; exact hrun
                  · cases hr
                · rename_i hsp
                  cases hr
                  cases hnR
                  cases hs with
                  | sc _ h =>
                    obtain ⟨_, rfl, rfl⟩ := simple_sl h
                    obtain rfl : n = 0 := by omega
                    exact ⟨_, _, rfl, ValOK.pure hh (run_append_in hu hxu hxd hi hlen hrn (by omega) (by simp [storeCells])) (.es _ _ (by simp))⟩
                  | es _ a' h =>
                    obtain rfl : n = 0 := by omega
                    exact ⟨_, _, rfl, ValOK.pure hh (run_append_in hu hxu hxd hi hlen hrn (by omega) (by simp [storeCells])) (.es _ _ (by simp))⟩
                  | sl b o _ _ L hL => cases hsp
                · cases hr
            · -- a new row, or the room that is not known
              rename_i hle
              have hlt : cap < len + n := by
                rcases Nat.lt_or_ge cap (len + n) with h' | h'
                · exact h'
                · rw [Nat.ble_eq_true_of_le h'] at hle; cases hle
              split at hr
              · rename_i hroom
                simp only [Bool.and_eq_true] at hroom
                obtain ⟨hroom, hnl⟩ := hroom
                have hlen' : new.length = n * i.size := Nat.eq_of_beq_eq_true hnl
                have hn' : ∀ v h', r = .val v h' → h.next < h'.next → ρ h.next = none := fun v h' he hlt => hf _ (Nat.le_refl _) (by rw [he]; exact hlt)
                obtain ⟨z, hroom⟩ := roomOk_sound hi hroom
                split at hr
                · -- a nil slice
                  split at hr
                  · cases hr
                    have hn' := hn' _ _ rfl (Nat.lt_succ_self _)
                    cases hs with
                    | sc _ _ =>
                      obtain ⟨ψ, hrun⟩ := run_append_new (ty := ty) (base := none) hu hxu hxd hroom hlen hnew' hlt (old' := []) (fun w1 _ => by simp [Builtin.firstCells])
                      rw [arr_cat, List.nil_append] at hrun
                      obtain ⟨e1, e2⟩ := HRel.new (w := w.drew) (H' := (newObjA h (.blk { cells := new, cap := n * i.size, esz := i.size, elem := e, exact := false, whole := false, frz := 0, own := true })).heap.get)
                        (δ := 0) (ψ := ψ) (hh.heap (w1 := w.drew) rfl) hn' (rowBlk (z := z) (hnR.mono (Ren.set_le _ hn')) hlen' hroom.size) (fun j => T.get_set _ _ _ _)
                      refine ⟨_, _, rfl, _, _, _, hrun, ?_, ?_, e2.thenWorld (w := w) rfl rfl rfl rfl⟩
                      · have := VR.newSl ρ h.next ⟨w.heap.size, 0, ψ⟩ n n rfl
                        simpa using this
                      · simpa using e1
                  · cases hr
                · -- a slice
                  rename_i a
                  split at hr
                  · rename_i hsp
                    cases hr
                    have hn' := hn' _ _ rfl (Nat.lt_succ_self _)
                    have go : ∀ a' : Addr, len = 0 → cap = 0 → s' = .slice (some a') 0 0 → ∃ v h', Res.val (.slice (some ⟨h.next, 0, none⟩) n n) (newObjA h (.blk { cells := new, cap := n * i.size, esz := i.size, elem := e, exact := false, whole := false, frz := 0, own := true })) = .val v h' ∧ ValOK P ρ h w (Builtin.append_ ⟨[st, xt]⟩ ty #[s', x']) v h' := by
                      intro a' e1 e2 e3
                      subst e1 e2 e3
                      obtain ⟨ψ, hrun⟩ := run_append_new (ty := ty) (base := some a') hu hxu hxd hroom hlen hnew' hlt (old' := []) (fun w1 _ => by simp [Builtin.firstCells, loadCells, loadCellsFrom])
                      rw [arr_cat, List.nil_append] at hrun
                      simp only [Nat.zero_add] at hrun
                      obtain ⟨e1, e2⟩ := HRel.new (w := w.drew) (H' := (newObjA h (.blk { cells := new, cap := n * i.size, esz := i.size, elem := e, exact := false, whole := false, frz := 0, own := true })).heap.get)
                        (δ := 0) (ψ := ψ) (hh.heap (w1 := w.drew) rfl) hn' (rowBlk (z := z) (hnR.mono (Ren.set_le _ hn')) hlen' hroom.size) (fun j => T.get_set _ _ _ _)
                      refine ⟨_, _, rfl, _, _, _, hrun, ?_, ?_, e2.thenWorld (w := w) rfl rfl rfl rfl⟩
                      · have := VR.newSl ρ h.next ⟨w.heap.size, 0, ψ⟩ n n rfl
                        simpa using this
                      · simpa using e1
                    cases hs with
                    | sc _ h =>
                      obtain ⟨_, rfl, rfl⟩ := simple_sl h
                      exact go _ rfl rfl rfl
                    | es _ a' h => exact go _ rfl rfl rfl
                    | sl b o _ _ L hL => cases hsp
                  · rename_i k hsp hk
                    split at hr
                    · rename_i old hold
                      cases hs with
                      | sc _ h => exact ((simple_sl h).1 (by assumption)).elim
                      | es _ _ h => exact (h (by assumption)).elim
                      | sl b o _ _ L hL =>
                        obtain ⟨L0, x0, hL0, hx0, hR⟩ := hh.obj _ _ hk
                        rw [hL] at hL0; cases hL0
                        obtain ⟨c, fr, rfl, hR⟩ := blk_of_or hR
                        obtain ⟨old', c1, c2, c3⟩ := hR.cellsAt hx0 hold
                        have hrold : ∀ cap' (w1 : World), w1.heap = w.heap → (Builtin.firstCells i.size len (.slice (some ⟨L.φ, L.δ + o, none⟩) len cap')).run P w1 = .ok ⟨old'⟩ w1 := fun cap' w1 hw1 => by
                          have hl := run_loadCells_list (P := P) w1 ⟨L.φ, L.δ + o, none⟩ old' (fun j v hj => by
                            rw [addr_add]
                            have := c3 j v hj
                            simp only [World.cell?] at this ⊢
                            rw [hw1]; exact this)
                          rw [c1] at hl
                          simp only [Builtin.firstCells]; exact hl
                        have holen := (takeN_spec hold).1
                        have hcat : (old ++ new).length = (len + n) * i.size := by rw [List.length_append, holen, hlen', Nat.add_mul]
                        split at hr
                        · -- exact: a new row
                          rename_i hex
                          cases hr
                          have hn' := hn' _ _ rfl (Nat.lt_succ_self _)
                          have hψ := hR.exact hex
                          obtain ⟨ψ, hrun⟩ := run_append_new (ty := ty) (cap := cap + L.ψ) hu hxu hxd hroom hlen hnew' (by omega) (hrold _)
                          rw [arr_cat] at hrun
                          obtain ⟨e1, e2⟩ := HRel.new (w := w.drew) (H' := (newObjA h (.blk { cells := old ++ new, cap := (len + n) * i.size, esz := i.size, elem := e, exact := false, whole := false, frz := 0, own := true })).heap.get)
                            (δ := 0) (ψ := ψ) (hh.heap (w1 := w.drew) rfl) hn' (rowBlk (z := z) ((c2.append hnR).mono (Ren.set_le _ hn')) hcat hroom.size) (fun j => T.get_set _ _ _ _)
                          refine ⟨_, _, rfl, _, _, _, hrun, ?_, ?_, e2.thenWorld (w := w) rfl rfl rfl rfl⟩
                          · have := VR.newSl ρ h.next ⟨w.heap.size, 0, ψ⟩ (len + n) (len + n) rfl
                            simpa using this
                          · simpa [Array.append_assoc] using e1
                        · split at hr
                          · rename_i hown hfrz hcapk hesz
                            simp only [Bool.and_eq_true] at hesz
                            obtain ⟨⟨hesz, hkel⟩, hac⟩ := hesz
                            cases hr
                            have hn' := hn' _ _ rfl (Nat.lt_succ_self _)
                            have hcapk' : o + cap * i.size = k.cap := Nat.eq_of_beq_eq_true hcapk
                            have hesz' := Nat.eq_of_beq_eq_true hesz
                            by_cases hin : len + n ≤ cap + L.ψ
                            · -- in place
                              have hroomk := hR.room hown
                              have hfr := hR.frz0 hfrz
                              subst hfr
                              have hmul : (len + n) * i.size ≤ (cap + L.ψ) * i.size := Nat.mul_le_mul_right _ hin
                              rw [Nat.add_mul, Nat.add_mul] at hmul
                              rw [hesz'] at hroomk
                              have hnl' := hnR.length
                              obtain ⟨w', c', hr1, hu1, hs1, hc1⟩ := stores P L.φ k.elem (0, 0) new' (L.δ + o + len * i.size) 0 c w hx0 (by omega) (fun p _ _ => by simp) (hnR.allCells hac)
                              have hwr : VRs ρ (old ++ new) (old' ++ new') := c2.append hnR
                              have hOR : OR (ρ.set h.next ⟨L.φ, L.δ + o, cap + L.ψ - (len + n)⟩) ⟨L.φ, L.δ + o, cap + L.ψ - (len + n)⟩ (.blk { cells := old ++ new, cap := (len + n) * i.size, esz := i.size, elem := e, exact := false, whole := false, frz := 0, own := true }) (.cells c' k.elem (0, 0)) := by
                                refine ⟨?_, by show (old ++ new).length ≤ _; rw [hcat]; exact Nat.le_refl _, fun _ => ?_, fun j v hj => ?_, (fun h => by cases h), (fun h => by cases h), fun _ => rfl, (fun h => by cases h)⟩
                                · show k.elem = e
                                  exact Nat.eq_of_beq_eq_true hkel
                                · show L.δ + o + (len + n) * i.size + (cap + L.ψ - (len + n)) * i.size ≤ c'.size
                                  rw [hs1, Nat.sub_mul, Nat.add_mul, Nat.add_mul]
                                  omega
                                · have hj' : (old ++ new)[j]? = some v := hj
                                  show ∃ v', c'[L.δ + o + j]? = some v' ∧ _
                                  rw [hc1]
                                  by_cases hjo : j < len * i.size
                                  · rw [List.getElem?_append_left (by omega)] at hj'
                                    rw [if_neg (by omega)]
                                    rw [(takeN_spec hold).2 j hjo, dropN_spec, List.getElem?_drop] at hj'
                                    obtain ⟨u, hu1, hu2⟩ := hR.cell _ _ hj'
                                    exact ⟨u, by rw [← Nat.add_assoc] at hu1; exact hu1, hu2.mono (Ren.set_le _ hn')⟩
                                  · rw [List.getElem?_append_right (by omega)] at hj'
                                    obtain ⟨u, hu1, hu2⟩ := hnR.get hj'
                                    have hjn : j - old.length < new.length := by
                                      rcases Nat.lt_or_ge (j - old.length) new.length with h' | h'
                                      · exact h'
                                      · simp [List.getElem?_eq_none h'] at hj'
                                    rw [if_pos (by omega)]
                                    exact ⟨u, by rw [show L.δ + o + j - (L.δ + o + len * i.size + 0) = j - old.length by omega]; exact hu1, hu2.mono (Ren.set_le _ hn')⟩
                              obtain ⟨e1, e2⟩ := HRel.move (H' := ((h.heap.del b).set h.next (.blk { cells := old ++ new, cap := (len + n) * i.size, esz := i.size, elem := e, exact := false, whole := false, frz := 0, own := true })).get)
                                (L' := ⟨L.φ, L.δ + o, cap + L.ψ - (len + n)⟩) hh hk hown hL hn' rfl hu1 hOR (fun j => by rw [T.get_set, T.get_del])
                              refine ⟨_, _, rfl, _, .slice (some ⟨L.φ, L.δ + o, none⟩) (len + n) (cap + L.ψ), w', run_append_in hu hxu hxd hi hlen hrn hin ?_, ?_, e1, e2⟩
                              · show (storeCells ((⟨L.φ, L.δ + o, none⟩ : Addr).add (len * i.size)) new').run P w = _
                                rw [addr_add]; exact hr1
                              · have := VR.sl (ρ := ρ.set h.next ⟨L.φ, L.δ + o, cap + L.ψ - (len + n)⟩) h.next 0 (len + n) (len + n) _ (Ren.set_same _ _ _)
                                rw [show len + n + (⟨L.φ, L.δ + o, cap + L.ψ - (len + n)⟩ : Loc).ψ = cap + L.ψ by show len + n + (cap + L.ψ - (len + n)) = cap + L.ψ; omega] at this
                                simpa using this
                            · -- a new row
                              obtain ⟨ψ, hrun⟩ := run_append_new (ty := ty) (cap := cap + L.ψ) hu hxu hxd hroom hlen hnew' (by omega) (hrold _)
                              rw [arr_cat] at hrun
                              have hdel : HRel ρ (h.heap.del b).get w.drew := (hh.heap (w1 := w.drew) rfl).sub fun j o' hj => by rw [T.get_del] at hj; split at hj <;> first | cases hj | exact hj
                              obtain ⟨e1, e2⟩ := HRel.new (w := w.drew) (H' := ((h.heap.del b).set h.next (.blk { cells := old ++ new, cap := (len + n) * i.size, esz := i.size, elem := e, exact := false, whole := false, frz := 0, own := true })).get)
                                (δ := 0) (ψ := ψ) hdel hn' (rowBlk (z := z) ((c2.append hnR).mono (Ren.set_le _ hn')) hcat hroom.size) (fun j => T.get_set _ _ _ _)
                              refine ⟨_, _, rfl, _, _, _, hrun, ?_, ?_, (e2.subL (H0 := h.heap.get) fun j o' hj => by rw [T.get_del] at hj; split at hj <;> first | cases hj | exact hj).thenWorld (w := w) rfl rfl rfl rfl⟩
                              · have := VR.newSl ρ h.next ⟨w.heap.size, 0, ψ⟩ (len + n) (len + n) rfl
                                simpa using this
                              · simpa [Array.append_assoc] using e1
                          · cases hr
                    · cases hr
                  · cases hr
              · cases hr
          · cases hr
        · cases hr
      · cases hr
    · cases hr
  · cases hr

end
end Go.AV

namespace Go.AV

section
variable {P : Program} {ρ : Ren} {w : World} {h : Hs}

theorem prunV_sound {s : Sem Value} {v : Value} (hv : prunV P s = some v) : (∀ w, s.run P w = .ok v w) ∧ plainV v = true := by
  unfold prunV at hv
  split at hv
  · rename_i u hu
    split at hv
    · rename_i hp; cases hv; exact ⟨prun_sound hu, hp⟩
    · cases hv
  · cases hv

theorem unary_ok {op : UnOp} {x x' : Value} {r : Res} (hh : HRel ρ h.heap.get w) (hx : VR ρ x x') (hr : aunary P h op x = some r) : ∃ v, r = .val v h ∧ ValOK P ρ h w (Op.unary op x') v h := by
  unfold aunary at hr
  split at hr
  · rename_i hp
    split at hr
    · rename_i v hv
      cases hr
      have := hx.plain hp; subst this
      obtain ⟨h1, h2⟩ := prunV_sound hv
      exact ⟨v, rfl, ValOK.pure hh (h1 w) (VR.of_plain h2)⟩
    · cases hr
  · cases hr

theorem noView_run {a : Addr} {c : Array Value} {e : TypeId} {fr : Nat × Nat} (hx : w.heap[a.block]? = some (.cells c e fr)) : (noView a).run P w = .ok () w := by
  have : w.shape? a.block = some (e, c.size) := by simp [World.shape?, hx]
  simp [noView, viewAt, this]

theorem stringish_run {a : Addr} {c : Array Value} {e : TypeId} (hx : w.heap[a.block]? = some (.cells c e (0, 0))) : (stringish a).run P w = .ok false w := by
  have h1 : w.shape? a.block = some (e, c.size) := by simp [World.shape?, hx]
  have h2 : w.frozen? a = false := by simp [World.frozen?, hx]
  have h3 : w.frozen? { block := a.block, off := c.size } = false := by simp [World.frozen?, hx]
  simp [stringish, h1, h2, h3]

theorem sameAddr_ne {a b : Addr} {c d : Array Value} {e f : TypeId} (hne : a.block ≠ b.block) (hx : w.heap[a.block]? = some (.cells c e (0, 0))) (hy : w.heap[b.block]? = some (.cells d f (0, 0))) : (sameAddr a b).run P w = .ok false w := by
  have h2 : w.frozen? a = false := by simp [World.frozen?, hx]
  have hb : (a.block == b.block) = false := by simpa using hne
  have h3 : w.shape? b.block = some (f, d.size) := by simp [World.shape?, hy]
  simp [sameAddr, hb, h2, noView_run hx, noView_run hy, mayBeOne, stringish_run hx, stringish_run hy, h3]

theorem equal_succ (t : TypeId) (x y : Value) : Op.equal t x y = Op.equalIn (9999 + 1) t x y := rfl

theorem eqNil_sound {d : TypeDesc} {xt : TypeId} {x x' y y' : Value} {b : Bool} (hh : HRel ρ h.heap.get w) (hu : P.underlying xt = some d) (hx : VR ρ x x') (hy : VR ρ y y') (hr : eqNil P h d x y = some b) :
    (Op.equal xt x' y').run P w = .ok b w ∧ (∀ op ox oy, (eqGuard op xt ox oy x' y').run P w = .ok () w) ∧
      binOp .eql xt x' y' = (do pure (.bool (← Op.equal xt x' y'))) ∧ binOp .neq xt x' y' = (do pure (.bool (!(← Op.equal xt x' y')))) := by
  have guard : ∀ (a c : Value) op ox oy, (∀ a', a ≠ .agg a') → (a ≠ .nilIface) → (eqGuard op xt ox oy a c).run P w = .ok () w := by
    intro a c op ox oy h1 h2
    unfold eqGuard
    cases op <;> first | rfl | (cases a <;> first | rfl | exact (h1 _ rfl).elim | exact (h2 rfl).elim)
  unfold eqNil at hr
  split at hr
  · rename_i e b0
    cases hr
    cases hx with
    | sc _ _ =>
      have : ∃ b', y' = .pointer b' ∧ b'.isNone = b0.isNone := by
        cases hy with
        | sc _ _ => exact ⟨_, rfl, rfl⟩
        | ptr => exact ⟨_, rfl, rfl⟩
      obtain ⟨b', rfl, hb⟩ := this
      exact ⟨by rw [equal_succ, Op.equalIn]; simp [run_underlying' hu, hb], fun op ox oy => guard _ _ _ _ _ (by simp) (by simp), rfl, rfl⟩
  · cases hr
    cases hx with
    | sc _ hs => simp [simple] at hs
    | ptr b o L hL =>
      cases hy with
      | sc _ _ => exact ⟨by rw [equal_succ, Op.equalIn]; simp [run_underlying' hu], fun op ox oy => guard _ _ _ _ _ (by simp) (by simp), rfl, rfl⟩
  · rename_i e a c
    split at hr
    · rename_i i hi hs1 hs2
      split at hr
      · cases hr
      · rename_i m hm
        cases hx with
        | sc _ hs => simp [simple] at hs
        | ptr bx ox Lx hLx =>
          cases hy with
          | sc _ hs => simp [simple] at hs
          | ptr by_ oy Ly hLy =>
            refine ⟨?_, fun op ox oy => guard _ _ _ _ _ (by simp) (by simp), rfl, rfl⟩
            have hsz : i.size ≠ 0 := by omega
            split at hr
            · rename_i hbe
              cases hr
              have hbe' : bx = by_ := Nat.eq_of_beq_eq_true hbe
              subst hbe'
              rw [hLx] at hLy; cases hLy
              have key : (sameAddr ⟨Lx.φ, Lx.δ + ox, none⟩ ⟨Lx.φ, Lx.δ + oy, none⟩).run P w = .ok (Nat.beq ox oy) w := by
                simp only [sameAddr, beq_self_eq_true, if_true, Sem.run_pure]
                congr 1
                rw [Bool.eq_iff_iff]
                simp
              rw [equal_succ, Op.equalIn]
              simp [run_underlying' hu, run_sizeOf' hi, hsz, key]
            · rename_i k l hbe hk hl
              split at hr
              · rename_i ho hf1 hf2
                cases hr
                obtain ⟨L1, x1, hL1, hx1, hR1⟩ := hh.obj _ _ hk
                obtain ⟨L2, x2, hL2, hx2, hR2⟩ := hh.obj _ _ hl
                rw [hLx] at hL1; cases hL1
                rw [hLy] at hL2; cases hL2
                obtain ⟨c1, fr1, rfl, hR1⟩ := blk_of_or hR1
                obtain ⟨c2, fr2, rfl, hR2⟩ := blk_of_or hR2
                have e1 := hR1.frz0 hf1
                have e2 := hR2.frz0 hf2
                subst e1 e2
                have hne : bx ≠ by_ := by rintro rfl; simp at hbe
                have hφ := hh.inj bx by_ _ _ Lx Ly hk hl hne ho hLx hLy
                have key := sameAddr_ne (P := P) (a := ⟨Lx.φ, Lx.δ + ox, none⟩) (b := ⟨Ly.φ, Ly.δ + oy, none⟩) hφ hx1 hx2
                rw [equal_succ, Op.equalIn]
                simp [run_underlying' hu, run_sizeOf' hi, hsz, key]
              · cases hr
            · cases hr
    · cases hr
  · rename_i e _ _ b0 _ _
    cases hr
    cases hx with
    | sc _ _ =>
      have : ∃ b' n m, y' = .slice b' n m ∧ b'.isNone = b0.isNone := by
        cases hy with
        | sc _ _ => exact ⟨_, _, _, rfl, rfl⟩
        | es _ _ _ => exact ⟨_, _, _, rfl, rfl⟩
        | sl => exact ⟨_, _, _, rfl, rfl⟩
      obtain ⟨b', n, m, rfl, hb⟩ := this
      exact ⟨by rw [equal_succ, Op.equalIn]; simp [run_underlying' hu, hb], fun op ox oy => guard _ _ _ _ _ (by simp) (by simp), rfl, rfl⟩
  · cases hr
    cases hx with
    | sc _ hs =>
      cases hy with
      | sc _ _ => exact ⟨by rw [equal_succ, Op.equalIn]; simp [run_underlying' hu], fun op ox oy => guard _ _ _ _ _ (by simp) (by simp), rfl, rfl⟩
    | es _ _ hs =>
      cases hy with
      | sc _ _ => exact ⟨by rw [equal_succ, Op.equalIn]; simp [run_underlying' hu], fun op ox oy => guard _ _ _ _ _ (by simp) (by simp), rfl, rfl⟩
    | sl b o n c L hL =>
      cases hy with
      | sc _ _ => exact ⟨by rw [equal_succ, Op.equalIn]; simp [run_underlying' hu], fun op ox oy => guard _ _ _ _ _ (by simp) (by simp), rfl, rfl⟩
  · rename_i e _ b0
    cases hr
    cases hx with
    | sc _ _ =>
      have : ∃ b', y' = .map b' ∧ b'.isNone = b0.isNone := by
        cases hy with
        | sc _ _ => exact ⟨_, rfl, rfl⟩
        | map => exact ⟨_, rfl, rfl⟩
      obtain ⟨b', rfl, hb⟩ := this
      exact ⟨by rw [equal_succ, Op.equalIn]; simp [run_underlying' hu, hb], fun op ox oy => guard _ _ _ _ _ (by simp) (by simp), rfl, rfl⟩
  · cases hr
    cases hx with
    | sc _ hs => simp [simple] at hs
    | map b L hL =>
      cases hy with
      | sc _ _ => exact ⟨by rw [equal_succ, Op.equalIn]; simp [run_underlying' hu], fun op ox oy => guard _ _ _ _ _ (by simp) (by simp), rfl, rfl⟩
  · cases hr
    have : ∃ f a c, x' = .func f a c := by cases hx <;> first | exact ⟨_, _, _, rfl⟩ | (rename_i hs; simp [simple] at hs)
    obtain ⟨f, a, c, rfl⟩ := this
    cases hy with
    | sc _ _ => exact ⟨by rw [equal_succ, Op.equalIn]; simp [run_underlying' hu], fun op ox oy => guard _ _ _ _ _ (by simp) (by simp), rfl, rfl⟩
  · cases hr
    have : ∃ f a c, y' = .func f a c := by cases hy <;> first | exact ⟨_, _, _, rfl⟩ | (rename_i hs; simp [simple] at hs)
    obtain ⟨f, a, c, rfl⟩ := this
    cases hx with
    | sc _ _ => exact ⟨by rw [equal_succ, Op.equalIn]; simp [run_underlying' hu], fun op ox oy => guard _ _ _ _ _ (by simp) (by simp), rfl, rfl⟩
  · cases hr

theorem binop_ok {op : BinOp} {xt : TypeId} {ox oy : Operand} {x x' y y' v : Value} (hh : HRel ρ h.heap.get w) (hx : VR ρ x x') (hy : VR ρ y y') (hr : abinop P h op xt ox oy x y = some v) :
    ValOK P ρ h w (do eqGuard op xt ox oy x' y'; binOp op xt x' y') v h := by
  unfold abinop at hr
  split at hr
  · rename_i h1 h2
    have e1 := hx.plain h1
    have e2 := hy.plain h2
    subst e1 e2
    obtain ⟨h3, h4⟩ := prunV_sound hr
    exact ValOK.pure hh (h3 w) (VR.of_plain h4)
  · split at hr
    · rename_i d hu
      split at hr
      · split at hr
        · rename_i b hb
          cases hr
          obtain ⟨e1, e2, e3, e4⟩ := eqNil_sound hh hu hx hy hb
          exact ValOK.pure hh (v' := .bool b) (by simp [e2, e3, e1]) (.sc _ rfl)
        · cases hr
      · split at hr
        · rename_i b hb
          cases hr
          obtain ⟨e1, e2, e3, e4⟩ := eqNil_sound hh hu hx hy hb
          exact ValOK.pure hh (v' := .bool (!b)) (by simp [e2, e4, e1]) (.sc _ rfl)
        · cases hr
      · cases hr
    · cases hr

theorem nilCheck_ok {x x' : Value} {r : Res} (hx : VR ρ x x') (hr : anilCheck h x = some r) : ∃ v, r = .val v h ∧ VR ρ v x' ∧ ((∃ a, x' = .pointer (some a)) ∨ (∃ f a b, x' = .func (.func f) a b) ∨ (∃ f a b, x' = .func (.yield f) a b)) := by
  unfold anilCheck at hr
  split at hr
  · cases hr
    refine ⟨_, rfl, hx, ?_⟩
    cases hx with
    | sc _ hs => simp [simple] at hs
    | ptr => exact .inl ⟨_, rfl⟩
  · cases hr
    refine ⟨_, rfl, hx, ?_⟩
    cases hx with
    | sc _ hs => simp [simple] at hs
    | fn => exact .inr (.inl ⟨_, _, _, rfl⟩)
  · cases hr
    refine ⟨_, rfl, hx, ?_⟩
    cases hx with
    | sc _ hs => simp [simple] at hs
    | yield => exact .inr (.inr ⟨_, _, _, rfl⟩)
  · cases hr

theorem makeSlice_ok {t : TypeId} {l l' c c' : Value} {r : Res} (hh : HRel ρ h.heap.get w) (hl : VR ρ l l') (hc : VR ρ c c') (hf : Fresh ρ h.next (r.next h)) (hr : amakeSlice P h t l c = some r) : ∃ v h', r = .val v h' ∧ ValOK P ρ h w (Instr.makeSlice t l' c') v h' := by
  unfold amakeSlice at hr
  split at hr
  · rename_i e k1 ln k2 cn hu
    cases hl
    cases hc
    split at hr
    · rename_i i hi hle hcm
      split at hr
      · rename_i z hz hby
        split at hr
        · rename_i hpz hac hsz
          cases hr
          have hle' := Nat.le_of_ble_eq_true hle
          have hcm' := Nat.le_of_ble_eq_true hcm
          have hby' := Nat.le_of_ble_eq_true hby
          have hsz' := Nat.eq_of_beq_eq_true hsz
          have hzs : z.cells.size = i.size := by rw [← Array.length_toList, vcells_eq, hsz']
          have hrep : VRs ρ (rep cn (vcells z)) (rep cn (vcells z)) := by
            have : ∀ k, VRs ρ (rep k (vcells z)) (rep k (vcells z)) := by
              intro k
              induction k with
              | zero => exact .nil
              | succ k ih =>
                refine VRs.append ?_ ih
                have := (VR.of_plain hpz (ρ := ρ)).cells
                rw [vcells_eq] at this
                exact this
            exact this cn
          refine ⟨_, _, rfl, ValOK.newBlk (v' := .slice (some ⟨w.heap.size, 0, none⟩) ln cn) hh hf hrep ?_ (VR.newSl _ _ _ _ _ rfl)⟩
          have w1 : IntKind.i64.wrap (ln : Int) = ln := IntWalk.i64_in _ (by omega)
          have w2 : IntKind.i64.wrap (cn : Int) = cn := IntWalk.i64_in _ (by omega)
          have hmul : i.bytes * cn ≤ 1099511627776 := Nat.le_trans (Nat.mul_le_mul hby' hcm') (by omega)
          have c1 : ¬ ((i.bytes : Int) * (cn : Int) > 2 ^ 48) := by
            have h1 : ((i.bytes * cn : Nat) : Int) ≤ ((1099511627776 : Nat) : Int) := Int.ofNat_le.2 hmul
            have h2 : ((i.bytes * cn : Nat) : Int) = (i.bytes : Int) * (cn : Int) := Int.natCast_mul _ _
            rw [h2] at h1
            omega
          have c2 : ¬ ((ln : Int) > (cn : Int)) := by omega
          have c3 : ¬ ((cn : Int) < 0) := by omega
          have c4 : ¬ ((ln : Int) < 0) := by omega
          have v1 : (Value.int k1 (Int.ofNat ln)) = Value.int k1 (ln : Int) := rfl
          have v2 : (Value.int k2 (Int.ofNat cn)) = Value.int k2 (cn : Int) := rfl
          have ha : ∀ k (n : Nat), (asInt (.int k (n : Int))).run P w = .ok (n : Int) w := fun k n => rfl
          have hcond : ((decide ((cn : Int) < 0) || decide ((i.bytes : Int) * (cn : Int) > 2 ^ 48)) || decide ((ln : Int) < 0) || decide ((ln : Int) > (cn : Int))) = false := by
            rw [decide_eq_false c1, decide_eq_false c2, decide_eq_false c3, decide_eq_false c4]; rfl
          rw [v1, v2]
          simp only [Instr.makeSlice, Sem.run_bind, run_underlying' hu, Result.andThen_ok, ha, run_typeInfo' hi, w1, w2, hcond, Bool.false_eq_true, if_false, run_askRoom, run_sizeOf' hi, Int.toNat_natCast]
          by_cases h0 : cn * i.size = 0
          · have hnil : rep cn (vcells z) = [] := by
              rw [← List.length_eq_zero_iff, rep_len, hsz']; exact h0
            have hr0 : ∀ f : Nat → Value, Array.map f (Array.range 0) = #[] := fun f => by simp [Array.range]
            simp [h0, hr0, hnil, run_newRow]
          · have hcells : ((Array.range (cn * i.size)).map (z.cells[· % z.cells.size]!)) = (rep cn (vcells z)).toArray := by
              rw [zeros_eq cn z i.size hzs (by
                rcases Nat.eq_zero_or_pos i.size with h | h
                · rw [h] at h0; simp at h0
                · left; omega), vcells_eq]
            simp only [if_neg h0, Sem.run_bind, run_zeroValue' hi hz, Result.andThen_ok, Sem.run_pure, hcells, run_newRow]
        · cases hr
      · cases hr
    · cases hr
  · cases hr

end
end Go.AV

namespace Go.AV

theorem next1 : Extern.allNextRows.lookup "internal/abi.NoEscape" = none := by kernel_rfl
theorem next2 : Extern.allNextRows.lookup "internal/bytealg.MakeNoZero" = none := by kernel_rfl
theorem next3 : Extern.allNextRows.lookup "internal/bytealg.IndexByteString" = none := by kernel_rfl
theorem next4 : Extern.allNextRows.lookup "internal/bytealg.CountString" = none := by kernel_rfl
theorem next0 : Extern.allNextRows.lookup "" = none := by kernel_rfl
theorem gen1 : Extern.allGenericRows.lookup "internal/abi.NoEscape" = none := by kernel_rfl
theorem gen2 : Extern.allGenericRows.lookup "internal/bytealg.MakeNoZero" = none := by kernel_rfl
theorem gen3 : Extern.allGenericRows.lookup "internal/bytealg.IndexByteString" = none := by kernel_rfl
theorem gen4 : Extern.allGenericRows.lookup "internal/bytealg.CountString" = none := by kernel_rfl
theorem typ1 : Extern.allTypedRows.lookup "internal/abi.NoEscape" = none := by kernel_rfl
theorem typ2 : Extern.allTypedRows.lookup "internal/bytealg.MakeNoZero" = some Extern.BytealgMakeNoZero.makeNoZero := by kernel_rfl
theorem typ3 : Extern.allTypedRows.lookup "internal/bytealg.IndexByteString" = none := by kernel_rfl
theorem typ4 : Extern.allTypedRows.lookup "internal/bytealg.CountString" = none := by kernel_rfl
theorem row1 : Extern.allRows.lookup "internal/abi.NoEscape" = some Extern.AbiNoEscape.same := by kernel_rfl
theorem row3 : Extern.allRows.lookup "internal/bytealg.IndexByteString" = some Extern.BytealgIndexByte.indexByte := by kernel_rfl
theorem row4 : Extern.allRows.lookup "internal/bytealg.CountString" = some Extern.BytealgCount.count := by kernel_rfl

end Go.AV

namespace Go.AV

section
variable {P : Program} {ρ : Ren} {w : World} {h : Hs}

theorem copy_ok {ats : List TypeId} {d d' s s' : Value} {ty : TypeId} {r : Res} (hd : VR ρ d d') (hs : VR ρ s s') (hh : HRel ρ h.heap.get w) (hr : abuiltin P h .copy ats [d, s] = some r) :
    ∃ v h', r = .val v h' ∧ ValOK P ρ h w (Builtin.copy_ ⟨ats⟩ ty #[d', s']) v h' := by
  simp only [abuiltin] at hr
  split at hr
  · rename_i t _
    split at hr
    · rename_i e hu
      split at hr
      · rename_i i base dl dc sl hi hsl
        have hlen := lenV_sound (P := P) (w := w) hs hsl
        split at hr
        · rename_i cs hcs
          obtain ⟨cs', hrun, hR⟩ := firstC_sound (P := P) hh hs hcs
          have hrun := hrun w rfl
          split at hr
          · cases hr
            cases hd with
            | sc _ _ => exact ⟨_, _, rfl, ValOK.pure hh (v' := goInt (Nat.min sl dl)) (by simp [Builtin.copy_, run_underlying' hu, hlen, run_sizeOf' hi, hrun]) (.sc _ rfl)⟩
          · cases hr
            cases hR
            cases hd with
            | sc _ hs => exact ⟨_, _, rfl, ValOK.pure hh (v' := goInt (Nat.min sl dl)) (by simp [Builtin.copy_, run_underlying' hu, hlen, run_sizeOf' hi, hrun, storeCells]) (.sc _ rfl)⟩
            | es _ _ hs => exact ⟨_, _, rfl, ValOK.pure hh (v' := goInt (Nat.min sl 0)) (by have hz : Nat.min sl 0 = 0 := Nat.min_zero sl; rw [hz] at hrun ⊢; simp [Builtin.copy_, run_underlying' hu, hlen, run_sizeOf' hi, hrun, storeCells]) (.sc _ rfl)⟩
            | sl b o _ _ L hL => exact ⟨_, _, rfl, ValOK.pure hh (v' := goInt (Nat.min sl dl)) (by simp [Builtin.copy_, run_underlying' hu, hlen, run_sizeOf' hi, hrun, storeCells]) (.sc _ rfl)⟩
          · rename_i a _ _
            split at hr
            · rename_i h1 hsp hw
              cases hr
              obtain ⟨L, w', hL, hst, hh', hstep⟩ := writeAt_sound (P := P) hh hw hR
              cases hd with
              | sc _ hs => exact ((simple_sl hs).1 (by assumption)).elim
              | es _ _ hs => exact (hs (by assumption)).elim
              | sl b o _ _ L' hL' =>
                rw [hL] at hL'; cases hL'
                exact ⟨_, _, rfl, ρ, goInt (Nat.min sl dl), w', by simp [Builtin.copy_, run_underlying' hu, hlen, run_sizeOf' hi, hrun, hst], .sc _ rfl, hh', hstep _ _⟩
            · cases hr
        · cases hr
      · cases hr
    · cases hr
  · cases hr

theorem len_ok {ats : List TypeId} {x x' : Value} {ty : TypeId} {r : Res} (hx : VR ρ x x') (hh : HRel ρ h.heap.get w) (hr : abuiltin P h .len ats [x] = some r) :
    ∃ v h', r = .val v h' ∧ ValOK P ρ h w (Builtin.len_ ⟨ats⟩ ty #[x']) v h' := by
  simp only [abuiltin] at hr
  split at hr
  · rename_i t _
    split at hr
    · rename_i s hu
      cases hr
      cases hx
      exact ⟨_, _, rfl, ValOK.pure hh (v' := goInt s.size) (by simp [Builtin.len_, run_underlying' hu]) (.sc _ rfl)⟩
    · rename_i n e hu
      cases hr
      exact ⟨_, _, rfl, ValOK.pure hh (v' := goInt n) (by simp [Builtin.len_, run_underlying' hu]) (.sc _ rfl)⟩
    · rename_i e a n c hu
      cases hr
      refine ⟨_, _, rfl, ValOK.pure hh (v' := goInt n) ?_ (.sc _ rfl)⟩
      cases hx <;> simp [Builtin.len_, run_underlying' hu]
    · rename_i k e hu
      cases hr
      cases hx
      exact ⟨_, _, rfl, ValOK.pure hh (v' := goInt 0) (by simp [Builtin.len_, run_underlying' hu]) (.sc _ rfl)⟩
    · rename_i k e b hu
      split at hr
      · rename_i es ck hb
        cases hr
        cases hx with
        | sc _ hs => simp [simple] at hs
        | map _ L hL =>
          obtain ⟨L0, x, hL0, hx0, hR⟩ := hh.obj _ _ hb
          rw [hL] at hL0; cases hL0
          cases x <;> simp only [OR] at hR <;> first | exact hR.elim | skip
          rename_i es' ck'
          have hlen : es'.size = es.length := by
            rw [← Array.length_toList]
            have : ∀ {l l' : List MapEntry}, ERs ρ l l' → l'.length = l.length := by
              intro l l' h
              induction h with
              | nil => rfl
              | cons _ _ _ _ _ _ ih => simp [ih]
            exact this hR.1
          refine ⟨_, _, rfl, ValOK.pure hh (v' := goInt es.length) ?_ (.sc _ rfl)⟩
          simp [Builtin.len_, run_underlying' hu, getObj, Sem.run, hx0, hlen]
      · cases hr
    · cases hr
  · cases hr

theorem cap_ok {ats : List TypeId} {x x' : Value} {ty : TypeId} {r : Res} (hx : VR ρ x x') (hh : HRel ρ h.heap.get w) (hr : abuiltin P h .cap ats [x] = some r) :
    ∃ v h', r = .val v h' ∧ ValOK P ρ h w (Builtin.cap_ ⟨ats⟩ ty #[x']) v h' := by
  simp only [abuiltin] at hr
  split at hr
  · rename_i t _
    split at hr
    · rename_i e n c hu
      cases hr
      cases hx
      exact ⟨_, _, rfl, ValOK.pure hh (v' := goInt c) (by simp [Builtin.cap_, run_underlying' hu]) (.sc _ rfl)⟩
    · rename_i e a n c hu
      split at hr
      · rename_i k hk
        split at hr
        · rename_i hex
          cases hr
          cases hx with
          | sc _ hs => exact ⟨_, _, rfl, ValOK.pure hh (v' := goInt c) (by simp [Builtin.cap_, run_underlying' hu]) (.sc _ rfl)⟩
          | es _ _ hs => exact ⟨_, _, rfl, ValOK.pure hh (v' := goInt 0) (by simp [Builtin.cap_, run_underlying' hu]) (.sc _ rfl)⟩
          | sl b o _ _ L hL =>
            obtain ⟨L0, x, hL0, hx0, hR⟩ := hh.obj _ _ hk
            rw [hL] at hL0; cases hL0
            obtain ⟨c', fr, rfl, hR⟩ := blk_of_or hR
            have hψ := hR.exact hex
            exact ⟨_, _, rfl, ValOK.pure hh (v' := goInt c) (by simp [Builtin.cap_, run_underlying' hu, hψ]) (.sc _ rfl)⟩
        · cases hr
      · cases hr
    · cases hr
  · cases hr

theorem zeroCells_eq (z : Value) (n : Nat) : (Builtin.zeroCells z.cells n).toList = rep n (vcells z) := by
  rw [← vcells_eq]
  rcases Nat.eq_zero_or_pos z.cells.size with h | h
  · have h1 : z.cells.toList = [] := by rw [← List.length_eq_zero_iff, Array.length_toList]; exact h
    have h2 : ∀ k, rep k ([] : List Value) = [] := fun k => by
      induction k with
      | zero => rfl
      | succ k ih => simp [rep, ih]
    simp [Builtin.zeroCells, h, h1, h2]
  · have := zeros_eq n z z.cells.size rfl (.inl (by omega))
    simp only [Builtin.zeroCells, this]

theorem rep_plain {z : Value} (hz : plainV z = true) (n : Nat) : VRs ρ (rep n (vcells z)) (rep n (vcells z)) := by
  induction n with
  | zero => exact .nil
  | succ k ih =>
    refine VRs.append ?_ ih
    have := (VR.of_plain hz (ρ := ρ)).cells
    rw [vcells_eq] at this
    exact this

theorem clear_ok {ats : List TypeId} {x x' : Value} {ty : TypeId} {r : Res} (hx : VR ρ x x') (hh : HRel ρ h.heap.get w) (hr : abuiltin P h .clear ats [x] = some r) :
    ∃ v h', r = .val v h' ∧ ValOK P ρ h w (Builtin.clear_ ⟨ats⟩ ty #[x']) v h' := by
  simp only [abuiltin] at hr
  split at hr
  · rename_i t _
    split at hr
    · rename_i e a n c hu
      split at hr
      · rename_i i hi hsp
        split at hr
        · rename_i z hz hz'
          split at hr
          · cases hr
            cases hx with
            | sc _ hs => exact ((simple_sl hs).1 (by assumption)).elim
            | es _ _ hs => exact (hs (by assumption)).elim
            | sl b o _ _ L hL =>
              exact ⟨_, _, rfl, ValOK.pure hh (v' := .tuple #[]) (by simp [Builtin.clear_, run_underlying' hu]) (.tuple [] [] .nil)⟩
          · rename_i n' hn'
            split at hr
            · rename_i h1 hw
              cases hr
              obtain ⟨L, w', hL, hst, hh', hstep⟩ := writeAt_sound (P := P) hh hw (rep_plain (by simpa [hz] using hz') n)
              cases hx with
              | sc _ hs => exact ((simple_sl hs).1 (by assumption)).elim
              | es _ _ hs => exact (hs (by assumption)).elim
              | sl b o _ _ L' hL' =>
                rw [hL] at hL'; cases hL'
                refine ⟨_, _, rfl, ρ, .tuple #[], w', ?_, .tuple [] [] .nil, hh', hstep _ _⟩
                cases n with
                | zero => exact (hn' rfl).elim
                | succ n => simp [Builtin.clear_, run_underlying' hu, run_zeroValue' hi hz, zeroCells_eq, hst]
            · cases hr
        · cases hr
      · cases hr
    · cases hr
  · cases hr

theorem minmax_ok {b : Builtin} {l l' : List Value} {ats : Array TypeId} {ty : TypeId} {r : Res} (hl : VRs ρ l l') (hh : HRel ρ h.heap.get w) (hb : (b = .min ∧ abuiltin P h .min ats.toList l = some r) ∨ (b = .max ∧ abuiltin P h .max ats.toList l = some r)) :
    ∃ v h', r = .val v h' ∧ ValOK P ρ h w (if b matches .min then Builtin.min_ ats ty ⟨l'⟩ else Builtin.max_ ats ty ⟨l'⟩) v h' := by
  rcases hb with ⟨rfl, hr⟩ | ⟨rfl, hr⟩
  · simp only [abuiltin] at hr
    split at hr
    · rename_i hp
      have := hl.plain hp; subst this
      split at hr
      · rename_i v hv
        cases hr
        obtain ⟨h1, h2⟩ := prunV_sound hv
        exact ⟨v, h, rfl, ValOK.pure hh (h1 w) (VR.of_plain h2)⟩
      · cases hr
    · cases hr
  · simp only [abuiltin] at hr
    split at hr
    · rename_i hp
      have := hl.plain hp; subst this
      split at hr
      · rename_i v hv
        cases hr
        obtain ⟨h1, h2⟩ := prunV_sound hv
        exact ⟨v, h, rfl, ValOK.pure hh (h1 w) (VR.of_plain h2)⟩
      · cases hr
    · cases hr

theorem usd_ok {ats : List TypeId} {x x' : Value} {ty : TypeId} {r : Res} (hx : VR ρ x x') (hh : HRel ρ h.heap.get w) (hr : abuiltin P h .unsafeSliceData ats [x] = some r) :
    ∃ v h', r = .val v h' ∧ ValOK P ρ h w (Builtin.unsafeSliceData_ ⟨ats⟩ ty #[x']) v h' := by
  simp only [abuiltin] at hr
  split at hr
  · cases hr
    cases hx
    exact ⟨_, _, rfl, ValOK.pure hh (v' := .pointer none) rfl (.sc _ rfl)⟩
  · rename_i a n c
    cases hr
    cases hx with
    | sc _ hs => simp [simple] at hs
    | sl b o _ _ L hL =>
      refine ⟨_, _, rfl, ValOK.pure hh (v' := .pointer (some ⟨L.φ, L.δ + o, none⟩)) ?_ (.ptr b o L hL)⟩
      have : c + 1 + L.ψ ≠ 0 := by omega
      change Sem.run P (if c + 1 + L.ψ ≠ 0 then pure (Value.pointer (some ⟨L.φ, L.δ + o, none⟩)) else _) w = _
      rw [if_pos this]
      rfl
  · cases hr

theorem vBytes_sound : ∀ {cs : List Value} {bs : List UInt8}, vBytes cs = some bs → ∃ ns : List Nat, cs = ns.map (fun (n : Nat) => Value.int .u8 (n : Int)) ∧ bs = ns.map UInt8.ofNat
  | [], bs, hb => by simp only [vBytes, Option.some.injEq] at hb; subst hb; exact ⟨[], rfl, rfl⟩
  | .int .u8 (.ofNat n) :: l, bs, hb => by
    simp only [vBytes] at hb
    split at hb
    · rename_i r hr
      cases hb
      obtain ⟨ns, h1, h2⟩ := vBytes_sound hr
      exact ⟨n :: ns, by simp [h1], by simp [h2]⟩
    · cases hb
  | .int .u8 (.negSucc n) :: l, bs, hb => by simp [vBytes] at hb
  | .int .i8 _ :: l, bs, hb => by simp [vBytes] at hb
  | .int .i16 _ :: l, bs, hb => by simp [vBytes] at hb
  | .int .i32 _ :: l, bs, hb => by simp [vBytes] at hb
  | .int .i64 _ :: l, bs, hb => by simp [vBytes] at hb
  | .int .u16 _ :: l, bs, hb => by simp [vBytes] at hb
  | .int .u32 _ :: l, bs, hb => by simp [vBytes] at hb
  | .int .u64 _ :: l, bs, hb => by simp [vBytes] at hb
  | .bool _ :: l, bs, hb => by simp [vBytes] at hb
  | .float _ _ :: l, bs, hb => by simp [vBytes] at hb
  | .complex _ _ _ :: l, bs, hb => by simp [vBytes] at hb
  | .string _ :: l, bs, hb => by simp [vBytes] at hb
  | .pointer _ :: l, bs, hb => by simp [vBytes] at hb
  | .slice _ _ _ :: l, bs, hb => by simp [vBytes] at hb
  | .map _ :: l, bs, hb => by simp [vBytes] at hb
  | .chan _ :: l, bs, hb => by simp [vBytes] at hb
  | .func _ _ _ :: l, bs, hb => by simp [vBytes] at hb
  | .nilFunc :: l, bs, hb => by simp [vBytes] at hb
  | .iface _ _ :: l, bs, hb => by simp [vBytes] at hb
  | .nilIface :: l, bs, hb => by simp [vBytes] at hb
  | .agg _ :: l, bs, hb => by simp [vBytes] at hb
  | .tuple _ :: l, bs, hb => by simp [vBytes] at hb

theorem ints_plain (ns : List Nat) : plainL (ns.map fun (n : Nat) => Value.int .u8 (n : Int)) = true := by
  induction ns with
  | nil => rfl
  | cons n ns ih => simpa [plainL, plainV] using ih

/-- the cells that a string is made of -/
theorem bytesAt {L : Loc} {k : Blk} {c : Array Value} {e : TypeId} {fr : Nat × Nat} {n off : Nat} {cs : List Value} {bs : List UInt8} (hR : BlkR ρ L k c e fr) (hx : w.heap[L.φ]? = some (.cells c e fr)) (ht : takeN n (dropN off k.cells) = some cs) (hb : vBytes cs = some bs) :
    ∃ ns : List Nat, ns.length = n ∧ bs = ns.map UInt8.ofNat ∧ ∀ j (v : Value), (ns.map fun (n : Nat) => Value.int .u8 (n : Int))[j]? = some v → w.cell? ⟨L.φ, L.δ + off + j, none⟩ = some v := by
  obtain ⟨cs', h1, h2, h3⟩ := hR.cellsAt hx ht
  obtain ⟨ns, rfl, rfl⟩ := vBytes_sound hb
  have := h2.plain (ints_plain ns)
  subst this
  exact ⟨ns, by simpa using h1, rfl, h3⟩

theorem loadBytes_run (b : Nat) : ∀ (ns : List Nat) (o : Nat) (acc : ByteArray), (∀ j (v : Value), (ns.map fun (n : Nat) => Value.int .u8 (n : Int))[j]? = some v → w.cell? ⟨b, o + j, none⟩ = some v) →
    (loadBytes ⟨b, o, none⟩ acc ns.length).run P w = .ok ⟨acc.data ++ (ns.map UInt8.ofNat).toArray⟩ w
  | [], o, acc, _ => by simp [loadBytes]
  | n :: ns, o, acc, hc => by
    have h0 : w.cell? ⟨b, o, none⟩ = some (.int .u8 (n : Int)) := hc 0 _ rfl
    have ih := loadBytes_run b ns (o + 1) (acc.push (n : Int).toNat.toUInt8) (fun j v hj => by
      have := hc (j + 1) v (by simpa using hj)
      rwa [show o + (j + 1) = o + 1 + j by omega] at this)
    simp only [List.length_cons, loadBytes, Sem.run_bind, run_load, h0, Result.andThen_ok, addr_add, ih]
    simp [ByteArray.push]

theorem rowAt_one {f : TypeId → Bool} {d e count off n : Nat} (hc : P.cellsOf e = 1) (hf : f e = true) (hle : off + n ≤ count) : rowAt P f (d + 1) e count off n = true := by
  unfold rowAt
  rw [hc]
  simp [hf, hle, Nat.mod_one]

theorem lies_bytes {e u : TypeId} {count off n : Nat} (hc : P.cellsOf e = 1) (he : e = u) (hle : off + n ≤ count) : liesAt P P.depth e count off u n = true := by
  subst he
  obtain ⟨d, hd⟩ : ∃ d, P.depth = d + 1 := ⟨P.depth - 1, by unfold Program.depth; omega⟩
  have hs : sameLayout P P.depth e e = true := by rw [hd]; unfold sameLayout; simp
  have h1 : rowAt P (sameLayout P P.depth · e) P.depth e count off n = true := by
    have := rowAt_one (P := P) (f := (sameLayout P P.depth · e)) (d := d) hc hs hle
    rw [← hd] at this
    exact this
  have hl : ∀ k, liesAt P (k + 1) e count off e n = (rowAt P (sameLayout P P.depth · e) P.depth e count off n || match P.underlying e with
      | some (.array m u') => liesAt P k e count off u' (n * m)
      | _ => false) := fun k => rfl
  have h2 := hl d
  rw [h1, Bool.true_or] at h2
  rw [← hd] at h2
  exact h2

theorem WUpd.freeze {b n o : Nat} {c : Array Value} {e : TypeId} {fr : Nat × Nat} (hn : n ≠ 0) (h : w.heap[b]? = some (.cells c e fr)) : ∃ fr', WUpd w (w.freeze ⟨b, o, none⟩ n) b (.cells c e fr') := by
  obtain ⟨lo, hi⟩ := fr
  refine ⟨if lo == hi then (o, o + n) else (min lo o, max hi (o + n)), ?_⟩
  have he : w.freeze ⟨b, o, none⟩ n = { w with heap := w.heap.modify b fun
      | .cells c elem (lo, hi) => .cells c elem (if lo == hi then (o, o + n) else (min lo o, max hi (o + n)))
      | o => o } := by
    unfold World.freeze
    rw [if_neg hn]
    rfl
  rw [he]
  refine ⟨rfl, rfl, rfl, by simp, fun k hk => ?_, ?_⟩
  · simp only [Array.getElem?_modify]
    rw [if_neg (by omega)]
  · simp [Array.getElem?_modify, h]

theorem empty_app (l : List UInt8) : ByteArray.empty.data ++ l.toArray = ⟨l⟩ := by apply Array.ext'; simp

theorem us_def (t : TypeId) (rest : List TypeId) (ty : TypeId) (a : Addr) (k : IntKind) (m : Int) : Builtin.unsafeString_ ⟨t :: rest⟩ ty #[.pointer (some a), .int k m] =
    (do
      let n ← asInt (.int k m)
      if n < 0 then runtimePanic (.error "unsafe.String: len out of range")
      if n > IntKind.i64.max then unsupported (.unsafePointer "String: a length above the largest int")
      if n = 0 then pure (.string .empty)
      else if ← variablesAt a (← elemOf t) n.toNat then do
        let s ← loadBytes a .empty n.toNat
        freeze a n.toNat
        pure (.string s)
      else unsupported (.unsafePointer "String: not so many bytes at ptr")) := rfl

theorem us_ok {ats : List TypeId} {p p' m m' : Value} {ty : TypeId} {r : Res} (hp : VR ρ p p') (hm : VR ρ m m') (hh : HRel ρ h.heap.get w) (hr : abuiltin P h .unsafeString ats [p, m] = some r) :
    ∃ v h', r = .val v h' ∧ ValOK P ρ h w (Builtin.unsafeString_ ⟨ats⟩ ty #[p', m']) v h' := by
  simp only [abuiltin] at hr
  split at hr
  · rename_i t rest
    split at hr
    · rename_i k
      cases hr
      cases hp
      cases hm
      exact ⟨_, _, rfl, ValOK.pure hh (v' := .string .empty) rfl (.sc _ rfl)⟩
    · rename_i a k n
      split at hr
      · rename_i n kb et hsp hk hu
        split at hr
        · rename_i cs i hcs he hkel hi
          split at hr
          · rename_i bs hbs hsz hle hown
            cases hr
            cases hm
            cases hp with
            | sc _ hs => simp [simple] at hs
            | ptr b o L hL =>
              obtain ⟨L0, x, hL0, hx0, hR⟩ := hh.obj _ _ hk
              rw [hL] at hL0; cases hL0
              obtain ⟨c, fr, rfl, hR⟩ := blk_of_or hR
              obtain ⟨ns, h1, rfl, h3⟩ := bytesAt hR hx0 hcs hbs
              have hkel' : kb.elem = et := Nat.eq_of_beq_eq_true hkel
              have hsz' := Nat.eq_of_beq_eq_true hsz
              have hle' : n + 1 ≤ 1099511627776 := Nat.le_of_ble_eq_true hle
              have hlast : L.δ + o + (n + 1) ≤ c.size := by
                have hn : (ns.map fun (n : Nat) => Value.int .u8 (n : Int))[n]? ≠ none := by simp; omega
                obtain ⟨v, hv⟩ := Option.ne_none_iff_exists'.1 hn
                have := h3 n v hv
                simp [World.cell?, hx0] at this
                have := (Array.getElem?_eq_some_iff.1 this).1
                omega
              have hcells : P.cellsOf et = 1 := by unfold Program.cellsOf; rw [hi]; exact hsz'
              have hvars : (variablesAt ⟨L.φ, L.δ + o, none⟩ et (n + 1)).run P w = .ok true w := by
                have hsh : w.shape? L.φ = some (kb.elem, c.size) := by simp [World.shape?, hx0]
                simp only [variablesAt, Sem.run_bind, run_program, Result.andThen_ok, run_shape, hsh, Sem.run_pure]
                rw [hkel', hcells, Nat.div_one, lies_bytes hcells rfl hlast]
              have hload := loadBytes_run (P := P) (w := w) L.φ ns (L.δ + o) .empty h3
              rw [h1] at hload
              obtain ⟨fr', hu'⟩ := WUpd.freeze (o := L.δ + o) (show n + 1 ≠ 0 by omega) hx0
              have hOR : OR ρ L (.blk { kb with frz := 2 }) (.cells c kb.elem fr') :=
                ⟨rfl, hR.len, hR.room, hR.cell, hR.exact, hR.whole, (fun h => by cases h), (fun h => by cases h)⟩
              refine ⟨_, _, rfl, ρ, .string ⟨⟨ns.map UInt8.ofNat⟩⟩, w.freeze ⟨L.φ, L.δ + o, none⟩ (n + 1), ?_, .sc _ rfl, hh.upd hk hown hL hu' hOR (fun j => T.get_set _ _ _ _), Step.upd hk hown hL hu' (fun j => T.get_set _ _ _ _) _ _⟩
              have helem : (elemOf t).run P w = .ok et w := by simp [elemOf, run_underlying' hu]
              have hmax : ¬ ((n + 1 : Nat) : Int) > IntKind.i64.max := by
                have : IntKind.i64.max = 9223372036854775807 := by decide
                rw [this]; omega
              have hneg : ¬ ((n + 1 : Nat) : Int) < 0 := by omega
              rw [show (Int.ofNat (n + 1)) = ((n + 1 : Nat) : Int) from rfl, us_def]
              have hasint : (asInt (.int k ((n + 1 : Nat) : Int))).run P w = .ok ((n + 1 : Nat) : Int) w := rfl
              have hz : ¬ ((n + 1 : Nat) : Int) = 0 := by omega
              simp only [Sem.run_bind, hasint, Result.andThen_ok, if_neg hneg, if_neg hmax, if_neg hz, Int.toNat_natCast, helem, hvars, if_true, hload, run_freeze, Sem.run_pure, empty_app]
          · cases hr
        · cases hr
      · cases hr
    · cases hr
  · cases hr

end
end Go.AV

namespace Go.AV

section
variable {P : Program} {ρ : Ren} {w : World} {h : Hs}

theorem ValOK.same {s : Sem Value} {v : Value} (hh : HRel ρ h.heap.get w) (hs : s.run P w = .ok v w) (hv : simple v = true) : ValOK P ρ h w s v h := ValOK.pure hh hs (.sc _ hv)

theorem seenAt_run {a : Addr} {c : Array Value} {e : TypeId} {fr : Nat × Nat} (hx : w.heap[a.block]? = some (.cells c e fr)) : (Conv.seenAt a).run P w = .ok a w := by
  have : w.shape? a.block = some (e, c.size) := by simp [World.shape?, hx]
  simp [Conv.seenAt, viewAt, this]

theorem cellsIn_run {b : Nat} {c : Array Value} {e : TypeId} {fr : Nat × Nat} (hx : w.heap[b]? = some (.cells c e fr)) : (cellsIn b).run P w = .ok (some c.size) w := by
  have : w.shape? b = some (e, c.size) := by simp [World.shape?, hx]
  simp [cellsIn, this]

theorem convert_ok {s d : TypeId} {x x' : Value} {r : Res} (hx : VR ρ x x') (hh : HRel ρ h.heap.get w) (hf : Fresh ρ h.next (r.next h)) (hr : aconvert P h s d x = some r) :
    ∃ v h', r = .val v h' ∧ ValOK P ρ h w (convert s d x') v h' := by
  unfold aconvert at hr
  split at hr
  · rename_i sd dd hs hd
    split at hr
    · cases hr
      cases hx
      exact ⟨_, _, rfl, ValOK.same hh (by cases sd <;> simp [convert, run_underlying' hs, run_underlying' hd, Conv.intToInt]) rfl⟩
    · cases hr
      cases hx
      exact ⟨_, _, rfl, ValOK.same hh (by cases sd <;> simp [convert, run_underlying' hs, run_underlying' hd, Conv.intToString]) rfl⟩
    · cases hr
      cases hx
      exact ⟨_, _, rfl, ValOK.same hh (by cases sd <;> simp [convert, run_underlying' hs, run_underlying' hd]) rfl⟩
    · rename_i e t
      split at hr
      · rename_i he
        cases hr
        cases hx
        have hn : ρ h.next = none := hf _ (Nat.le_refl _) (Nat.lt_succ_self _)
        obtain ⟨ψ, hψ⟩ : ∃ ψ, grownCap w t.size 0 e = t.size + ψ := ⟨_, rfl⟩
        have hrun : (convert s d (.string t)).run P w = .ok (.slice (some ⟨w.heap.size, 0, none⟩) t.size (grownCap w t.size 0 e))
            (w.drew.alloc (.cells (bytesRow t (grownCap w t.size 0 e)) e ((bytesRow t (grownCap w t.size 0 e)).size, (bytesRow t (grownCap w t.size 0 e)).size + 1))) :=
          run_bytes_of_string w s d e t hs hd he
        have hsz : t.data.size = t.size := rfl
        have hbs : (bytesRow t (t.size + ψ)).size = t.size + ψ := by simp [bytesRow, hsz]
        obtain ⟨e1, e2⟩ := HRel.new (w := w.drew) (H' := (newObjA h (.blk { cells := bytesV t.data.toList, cap := t.size, esz := 1, elem := e, exact := false, whole := false, frz := 1, own := true })).heap.get)
          (x := .cells (bytesRow t (t.size + ψ)) e (t.size + ψ, t.size + ψ + 1)) (δ := 0) (ψ := ψ) (hh.heap (w1 := w.drew) rfl) hn
          (blkR_of (bytesV_VRs _) (by simp [bytesV_eq, hsz]) (fun _ => by simp [hbs]) (fun j hj => by
            rw [bytesV_eq] at hj
            simp at hj
            simp only [Nat.zero_add]
            rw [bytesRow, Array.getElem?_append_left (by simpa using hj), bytesV_eq]
            simp) (fun h => by cases h) (fun h => by cases h) (fun h => by cases h) (fun _ => .inr (by simp [hbs])))
          (fun j => T.get_set _ _ _ _)
        rw [hψ, hbs] at hrun
        refine ⟨_, _, rfl, _, _, _, hrun, ?_, ?_, e2.thenWorld (w := w) rfl rfl rfl rfl⟩
        · have := VR.newSl ρ h.next ⟨w.heap.size, 0, ψ⟩ t.size t.size rfl
          simpa using this
        · simpa using e1
      · cases hr
    · rename_i e
      split at hr
      · rename_i he
        split at hr
        · cases hr
          cases hx
          refine ⟨_, _, rfl, ValOK.pure hh (v' := .string .empty) ?_ (.sc _ rfl)⟩
          simp [convert, run_underlying' hs, run_underlying' hd, run_underlying' he, Conv.bytesToString]
        · rename_i a n c _
          split at hr
          · rename_i k hsp hk
            split at hr
            · rename_i cs hcs
              split at hr
              · rename_i bs hbs
                cases hr
                cases hx with
                | sc _ hs => exact ((simple_sl hs).1 (by assumption)).elim
                | es _ _ hs => exact (hs (by assumption)).elim
                | sl b o _ _ L hL =>
                  obtain ⟨L0, x, hL0, hx0, hR⟩ := hh.obj _ _ hk
                  rw [hL] at hL0; cases hL0
                  obtain ⟨c', fr, rfl, hR⟩ := blk_of_or hR
                  obtain ⟨ns, h1, rfl, h3⟩ := bytesAt hR hx0 hcs hbs
                  refine ⟨_, _, rfl, ValOK.pure hh (v' := .string ⟨⟨ns.map UInt8.ofNat⟩⟩) ?_ (.sc _ rfl)⟩
                  have hl := run_loadCells_list (P := P) w ⟨L.φ, L.δ + o, none⟩ (ns.map fun (n : Nat) => Value.int .u8 (n : Int)) (fun j v hj => by rw [addr_add]; exact h3 j v hj)
                  rw [List.length_map, h1] at hl
                  have hb := run_bytesToString (P := P) w ⟨L.φ, L.δ + o, none⟩ n (c + L.ψ) (ns.map fun (n : Nat) => (n : Int)) (by rw [hl]; simp)
                  have hfold : ∀ (ns : List Nat) (s : ByteArray), (ns.map fun (n : Nat) => (n : Int)).foldl (fun r n => r.push (UInt8.ofNat n.toNat)) s = ⟨s.data ++ (ns.map UInt8.ofNat).toArray⟩ := by
                    intro ns
                    induction ns with
                    | nil => intro s; simp
                    | cons n ns ih => intro s; simp only [List.map_cons, List.foldl_cons]; rw [ih]; simp [ByteArray.push]
                  rw [hfold, empty_app] at hb
                  simp only [convert, Sem.run_bind, run_underlying' hs, run_underlying' hd, run_underlying' he, Result.andThen_ok, hb]
              · cases hr
            · cases hr
          · cases hr
        · cases hr
      · cases hr
    · cases hr
      cases hx
      exact ⟨_, _, rfl, ValOK.same hh (by simp [convert, run_underlying' hs, run_underlying' hd, Conv.unsafePointer]) rfl⟩
    · rename_i t a
      split at hr
      · rename_i k i hsp hk hi
        split at hr
        · rename_i m hm hle hown
          cases hr
          cases hx with
          | sc _ hs => simp [simple] at hs
          | ptr b o L hL =>
            obtain ⟨L0, x, hL0, hx0, hR⟩ := hh.obj _ _ hk
            rw [hL] at hL0; cases hL0
            obtain ⟨c, fr, rfl, hR⟩ := blk_of_or hR
            have hroom := hR.room hown
            have hlt : o < k.cap := by
              rcases Nat.lt_or_ge o k.cap with h' | h'
              · exact h'
              · rw [Nat.ble_eq_true_of_le h'] at hle; cases hle
            refine ⟨_, _, rfl, ValOK.pure hh (v' := .pointer (some ⟨L.φ, L.δ + o, none⟩)) ?_ (.ptr b o L hL)⟩
            have h1 := seenAt_run (P := P) (a := ⟨L.φ, L.δ + o, none⟩) hx0
            have h2 := cellsIn_run (P := P) hx0
            have h3 : ¬ (c.size ≤ L.δ + o) := by omega
            simp [convert, run_underlying' hs, run_underlying' hd, Conv.unsafePointer, h1, h2, run_sizeOf' hi, hm, h3]
        · cases hr
      · cases hr
    · cases hr
      cases hx
      exact ⟨_, _, rfl, ValOK.same hh (by simp [convert, run_underlying' hs, run_underlying' hd, Conv.unsafePointer]) rfl⟩
    · rename_i u a
      split at hr
      · rename_i k i hsp hk hi
        split at hr
        · rename_i m hm hwh
          split at hr
          · rename_i hlies
            cases hr
            cases hx with
            | sc _ hs => simp [simple] at hs
            | ptr b o L hL =>
              obtain ⟨L0, x, hL0, hx0, hR⟩ := hh.obj _ _ hk
              rw [hL] at hL0; cases hL0
              obtain ⟨c, fr, rfl, hR⟩ := blk_of_or hR
              obtain ⟨hδ, hcs⟩ := hR.whole hwh
              refine ⟨_, _, rfl, ValOK.pure hh (v' := .pointer (some ⟨L.φ, L.δ + o, none⟩)) ?_ (.ptr b o L hL)⟩
              have h1 := seenAt_run (P := P) (a := ⟨L.φ, L.δ + o, none⟩) hx0
              have h2 : (variablesAt ⟨L.φ, L.δ + o, none⟩ u 1).run P w = .ok true w := by
                have hsh : w.shape? L.φ = some (k.elem, c.size) := by simp [World.shape?, hx0]
                simp only [variablesAt, Sem.run_bind, run_program, Result.andThen_ok, run_shape, hsh, Sem.run_pure, hcs, hδ, Nat.zero_add]
                rw [hlies]
              simp [convert, run_underlying' hs, run_underlying' hd, Conv.unsafePointer, h1, h2, run_sizeOf' hi, hm]
          · cases hr
        · cases hr
      · cases hr
    · cases hr
  · cases hr

/-! ### functions without a body -/

theorem find_of {fn : Func} {e : Array Value → Sem Value} {n : String} (ho : fn.origin = "") (hn : fn.name = n) (h1 : Extern.allNextRows.lookup n = none) (h2 : Extern.allGenericRows.lookup n = none)
    (h3 : (Extern.allTypedRows.lookup n).map (· fn.params fn.resultTypes) = none ∧ Extern.allRows.lookup n = some e ∨ (Extern.allTypedRows.lookup n).map (· fn.params fn.resultTypes) = some e) : Extern.findNext fn = none ∧ Extern.find fn = some e := by
  constructor
  · unfold Extern.findNext
    simp only [hn, ho, h1, next0]
    rfl
  · unfold Extern.find
    simp only [hn, h2]
    rcases h3 with ⟨h3, h4⟩ | h3
    · rw [h3, h4]; rfl
    · rw [h3]; rfl

theorem run_callFunc_ext {f : FuncId} {fn : Func} {e : Array Value → Sem Value} (hf : P.funcs[f]? = some fn) (hb : fn.body = none) (hname : fn.name ≠ "runtime.NumGoroutine") (h1 : Extern.findNext fn = none) (h2 : Extern.find fn = some e) (args : Array Value) :
    (callFunc f args).run P w = ((e args).run P w).andThen fun v w' => .ok (.value v) w' := by
  simp [callFunc, hf, hname, hb, h1, h2, mark, Sem.run]

theorem ResOK.ext {f : FuncId} {fn : Func} {e : Array Value → Sem Value} {args : Array Value} {v : Value} {h' : Hs} (hf : P.funcs[f]? = some fn) (hb : fn.body = none) (hname : fn.name ≠ "runtime.NumGoroutine") (h1 : Extern.findNext fn = none) (h2 : Extern.find fn = some e)
    (hv : ValOK P ρ h w (e args) v h') : ResOK P ρ h w (callFunc f args) (.val v h') := by
  obtain ⟨ρ', v', w', a, b, c, d⟩ := hv
  exact ⟨ρ', v', w', by rw [run_callFunc_ext hf hb hname h1 h2, a]; rfl, b, c, d⟩

theorem digits_size : ∀ (n t : Nat) (acc : Array Value), (Extern.BytealgMakeNoZero.digits n t acc).size = acc.size + n
  | 0, _, acc => rfl
  | n + 1, t, acc => by simp [Extern.BytealgMakeNoZero.digits, digits_size n]; omega

theorem mnz_def (ps rs : Array TypeId) (n : Nat) : Extern.BytealgMakeNoZero.makeNoZero ps rs #[.int .i64 (Int.ofNat n)] = (do
    let some t := rs[0]? | stuck "bytealg.MakeNoZero: no result type"
    let .slice elem ← underlying t | stuck "bytealg.MakeNoZero: slice type expected"
    if (n : Int) < 0 || (n : Int) > 2 ^ 48 then runtimePanic (.error "makeslice: len out of range")
    let cap ← choose (.appendCap (n : Int).toNat 0 elem)
    askRoom cap
    let bytes ← choose (.extern "internal/bytealg.MakeNoZero.bytes" 0)
    let a ← newRow elem (Extern.BytealgMakeNoZero.digits cap bytes #[])
    pure (.slice (some a) (n : Int).toNat cap)) := rfl

theorem extern_ok {f : FuncId} {fn : Func} {args args' : List Value} {r : Res} (hf' : P.funcs[f]? = some fn) (hb : fn.body = none) (ha : VRs ρ args args') (hh : HRel ρ h.heap.get w) (hf : Fresh ρ h.next (r.next h)) (hr : aextern P h fn args = some r) :
    ResOK P ρ h w (callFunc f ⟨args'⟩) r := by
  unfold aextern at hr
  split at hr
  · rename_i x hno
    cases hr
    obtain ⟨ho, hn⟩ : fn.origin = "" ∧ fn.name = "internal/abi.NoEscape" := by
      unfold externNo at hno
      repeat' (split at hno)
      all_goals first | exact ⟨by assumption, by assumption⟩ | (exact absurd hno (by decide))
    obtain ⟨h1, h2⟩ := find_of ho hn next1 gen1 (.inl ⟨by rw [typ1]; rfl, row1⟩)
    cases ha with
    | cons _ x' _ _ hx hr =>
      cases hr
      exact ResOK.ext hf' hb (by rw [hn]; decide) h1 h2 (ValOK.pure hh (v' := x') rfl hx)
  · rename_i n hno
    obtain ⟨ho, hn⟩ : fn.origin = "" ∧ fn.name = "internal/bytealg.MakeNoZero" := by
      unfold externNo at hno
      repeat' (split at hno)
      all_goals first | exact ⟨by assumption, by assumption⟩ | (exact absurd hno (by decide))
    obtain ⟨h1, h2⟩ := find_of ho hn next2 gen2 (.inr (by rw [typ2]; rfl))
    split at hr
    · rename_i t rest hres
      split at hr
      · rename_i e hu hle
        cases hr
        cases ha with
        | cons _ x' _ _ hx hr =>
          cases hr
          cases hx
          have hn' : ρ h.next = none := hf _ (Nat.le_refl _) (Nat.lt_succ_self _)
          have hle' : n ≤ 1099511627776 := Nat.le_of_ble_eq_true hle
          refine ResOK.ext hf' hb (by rw [hn]; decide) h1 h2 ?_
          have ht : fn.resultTypes[0]? = some t := by rw [← Array.getElem?_toList, hres]; rfl
          obtain ⟨ψ, bytes, hrun⟩ : ∃ ψ bytes, (Extern.BytealgMakeNoZero.makeNoZero fn.params fn.resultTypes #[.int .i64 (Int.ofNat n)]).run P w =
              .ok (.slice (some ⟨w.heap.size, 0, none⟩) n (n + ψ)) (w.drew.drew.alloc (.cells (Extern.BytealgMakeNoZero.digits (n + ψ) bytes #[]) e)) := by
            refine ⟨w.tape w.drawn (.appendCap n 0 e) % (2 ^ 63 - n), (Question.extern "internal/bytealg.MakeNoZero.bytes" 0).cut (w.drew.tape w.drew.drawn (.extern "internal/bytealg.MakeNoZero.bytes" 0)), ?_⟩
            rw [mnz_def]
            have c1 : ¬ ((n : Int) < 0) := by omega
            have c2 : ¬ ((n : Int) > 2 ^ 48) := by omega
            have c3 : (decide ((n : Int) < 0) || decide ((n : Int) > 2 ^ 48)) = false := by rw [decide_eq_false c1, decide_eq_false c2]; rfl
            have hcut : (Question.appendCap n 0 e).cut (w.tape w.drawn (.appendCap n 0 e)) = n + w.tape w.drawn (.appendCap n 0 e) % (2 ^ 63 - n) := rfl
            simp only [ht, Sem.run_bind, run_underlying' hu, Result.andThen_ok, c3, Bool.false_eq_true, if_false, run_choose, Question.forced, Int.toNat_natCast, World.drew_eq, hcut, run_askRoom, run_newRow, Sem.run_pure]
            rfl
          obtain ⟨e1, e2⟩ := HRel.new (w := w.drew.drew) (H' := (newObjA h (.blk { cells := [], cap := n, esz := 1, elem := e, exact := false, whole := false, frz := 0, own := true })).heap.get)
            (x := .cells (Extern.BytealgMakeNoZero.digits (n + ψ) bytes #[]) e) (δ := 0) (ψ := ψ) (hh.heap (w1 := w.drew.drew) rfl) hn'
            (blkR_of .nil (by simp) (fun _ => by simp [digits_size]) (fun j hj => by simp at hj) (fun h => by cases h) (fun h => by cases h) (fun _ => rfl) (fun h => by cases h)) (fun j => T.get_set _ _ _ _)
          refine ⟨_, _, _, hrun, ?_, ?_, e2.thenWorld (w := w) rfl rfl rfl rfl⟩
          · have := VR.newSl ρ h.next ⟨w.heap.size, 0, ψ⟩ n n rfl
            simpa using this
          · simpa using e1
      · cases hr
    · cases hr
  · rename_i x y hno
    obtain ⟨ho, hn⟩ : fn.origin = "" ∧ fn.name = "internal/bytealg.IndexByteString" := by
      unfold externNo at hno
      repeat' (split at hno)
      all_goals first | exact ⟨by assumption, by assumption⟩ | (exact absurd hno (by decide))
    obtain ⟨h1, h2⟩ := find_of ho hn next3 gen3 (.inl ⟨by rw [typ3]; rfl, row3⟩)
    split at hr
    · rename_i p1 p2
      split at hr
      · rename_i v hv
        cases hr
        obtain ⟨h3, h4⟩ := prunV_sound hv
        cases ha with
        | cons _ x' _ _ hx hr =>
          cases hr with
          | cons _ y' _ _ hy hr =>
            cases hr
            have e1 := hx.plain p1
            have e2 := hy.plain p2
            subst e1 e2
            exact ResOK.ext hf' hb (by rw [hn]; decide) h1 h2 (ValOK.pure hh (h3 w) (VR.of_plain h4))
      · cases hr
    · cases hr
  · rename_i x y hno
    obtain ⟨ho, hn⟩ : fn.origin = "" ∧ fn.name = "internal/bytealg.CountString" := by
      unfold externNo at hno
      repeat' (split at hno)
      all_goals first | exact ⟨by assumption, by assumption⟩ | (exact absurd hno (by decide))
    obtain ⟨h1, h2⟩ := find_of ho hn next4 gen4 (.inl ⟨by rw [typ4]; rfl, row4⟩)
    split at hr
    · rename_i p1 p2
      split at hr
      · rename_i v hv
        cases hr
        obtain ⟨h3, h4⟩ := prunV_sound hv
        cases ha with
        | cons _ x' _ _ hx hr =>
          cases hr with
          | cons _ y' _ _ hy hr =>
            cases hr
            have e1 := hx.plain p1
            have e2 := hy.plain p2
            subst e1 e2
            exact ResOK.ext hf' hb (by rw [hn]; decide) h1 h2 (ValOK.pure hh (h3 w) (VR.of_plain h4))
      · cases hr
    · cases hr
  · cases hr

end
end Go.AV

namespace Go.AV

section
variable {P : Program} {ρ : Ren} {w : World} {h : Hs}

theorem ERs.length : ∀ {l l' : List MapEntry}, ERs ρ l l' → l'.length = l.length
  | _, _, .nil => rfl
  | _, _, .cons _ _ _ _ _ k => by simp [ERs.length k]

theorem ERs.get : ∀ {l l' : List MapEntry}, ERs ρ l l' → ∀ {i : Nat} {e : MapEntry}, l[i]? = some e → ∃ e', l'[i]? = some e' ∧ ER ρ e e'
  | _, _, .nil, i, e, h => by simp at h
  | _, _, .cons a a' l l' h k, 0, e, he => by simp at he; subst he; exact ⟨a', rfl, h⟩
  | _, _, .cons a a' l l' h k, i + 1, e, he => by simp at he; simpa using ERs.get k he

theorem ERs.append : ∀ {a a' b b' : List MapEntry}, ERs ρ a a' → ERs ρ b b' → ERs ρ (a ++ b) (a' ++ b')
  | _, _, _, _, .nil, k => k
  | _, _, _, _, .cons v v' l l' h r, k => .cons v v' _ _ h (ERs.append r k)

/-- what is found by the look that asks nothing is what is found by asking -/
theorem sameNow_prun {kt : TypeId} {d : TypeDesc} {x y : Value} {b b' : Bool} (hu : P.underlying kt = some d) (h1 : Instr.sameNow d x y = some b) (h2 : prun P (Op.equal kt x y) = some b') : b' = b := by
  have hr := prun_sound h2 default
  rw [equal_succ, Op.equalIn] at hr
  simp only [Sem.run_bind, run_underlying' hu, Result.andThen_ok] at hr
  unfold Instr.sameNow at h1
  split at h1
  · split at h1
    · rename_i he
      cases h1
      simp [he] at hr
      exact hr.symm
    · cases h1
  · cases h1
    simp at hr
    exact hr.symm
  · cases h1
    simp at hr
    exact hr.symm
  · cases h1

def FoundR (ρ : Ren) : Option (Nat × Value) → Option (Nat × Value) → Prop
  | none, r' => r' = none
  | some (j, v), r' => ∃ v', r' = some (j, v') ∧ VR ρ v v'

theorem findE_sound {kt : TypeId} {k : Value} (hk : plainV k = true) : ∀ {es es' : List MapEntry} {i : Nat} {r : Option (Nat × Value)}, ERs ρ es es' → findE P kt k es i = some r →
    ∃ r', (∀ w, (Instr.findAsking kt k es' i).run P w = .ok r' w) ∧ (∀ d r'', P.underlying kt = some d → Instr.findNow d k es' i = some r'' → r'' = r') ∧
      FoundR ρ r r'
  | _, _, i, r, .nil, hf => by
    simp only [findE, Option.some.injEq] at hf
    subst hf
    exact ⟨none, fun w => by simp [Instr.findAsking], fun d r'' _ hn => by simp only [Instr.findNow, Option.some.injEq] at hn; exact hn.symm, rfl⟩
  | _, _, i, r, .cons e e' l l' he hl, hf => by
    simp only [findE] at hf
    split at hf
    · rename_i hp
      have hkey := he.1.plain hp
      split at hf
      · rename_i hq
        cases hf
        refine ⟨some (i, e'.val), fun w => ?_, fun d r'' hu hn => ?_, e'.val, rfl, he.2.1⟩
        · have := prun_sound hq w
          simp only [Instr.findAsking, Sem.run_bind, hkey, this, Result.andThen_ok, if_true, Sem.run_pure]
        · simp only [Instr.findNow, hkey] at hn
          split at hn
          · cases hn; rfl
          · rename_i hs
            have := sameNow_prun hu hs hq
            cases this
          · cases hn
      · rename_i hq
        obtain ⟨r', h1, h2, h3⟩ := findE_sound hk hl hf
        refine ⟨r', fun w => ?_, fun d r'' hu hn => ?_, h3⟩
        · have := prun_sound hq w
          simp only [Instr.findAsking, Sem.run_bind, hkey, this, Result.andThen_ok, Bool.false_eq_true, if_false, h1 w]
        · simp only [Instr.findNow, hkey] at hn
          split at hn
          · rename_i hs
            have := sameNow_prun hu hs hq
            cases this
          · exact h2 d r'' hu hn
          · cases hn
      · cases hf
    · cases hf

theorem findKey_run {kt : TypeId} {k : Value} (hk : plainV k = true) {es es' : List MapEntry} {r : Option (Nat × Value)} (hE : ERs ρ es es') (hf : findE P kt k es 0 = some r) {d : TypeDesc} (hu : P.underlying kt = some d) :
    ∃ r', (∀ w, (Instr.findKey kt k es').run P w = .ok r' w) ∧ FoundR ρ r r' := by
  obtain ⟨r', h1, h2, h3⟩ := findE_sound hk hE hf
  refine ⟨r', fun w => ?_, h3⟩
  simp only [Instr.findKey, Sem.run_bind, run_underlying' hu, Result.andThen_ok]
  split
  · rename_i r'' hn
    rw [h2 d r'' hu hn]; rfl
  · exact h1 w


theorem akey_sound {kt : TypeId} {k k' : Value} (hk : VR ρ k k') (ha : akey P kt k = true) : k' = k ∧ plainV k = true ∧ ∀ b w, (Instr.checkKey b 10000 kt k).run P w = .ok () w := by
  unfold akey at ha
  split at ha
  · rename_i hp
    split at ha
    · rename_i h1 h2
      exact ⟨hk.plain hp, hp, fun b w => by cases b; exact prun_sound h1 w; exact prun_sound h2 w⟩
    · cases ha
  · cases ha

theorem getMap_run {b : Nat} {L : Loc} {es : List MapEntry} {ck : Nat} (hh : HRel ρ h.heap.get w) (hb : h.heap.get b = some (.map es ck)) (hL : ρ b = some L) :
    ∃ es' : Array MapEntry, w.heap[L.φ]? = some (.map es' ck) ∧ (getObj L.φ).run P w = .ok (.map es' ck) w ∧ ERs ρ es es'.toList := by
  obtain ⟨L0, x, hL0, hx0, hR⟩ := hh.obj _ _ hb
  rw [hL] at hL0; cases hL0
  cases x <;> simp only [OR] at hR <;> first | exact hR.elim | skip
  rename_i es' ck'
  obtain ⟨h1, rfl⟩ := hR
  exact ⟨es', hx0, by simp [getObj, Sem.run, hx0], h1⟩

theorem setObj_run {r : Nat} {x o : Obj} (hx : w.heap[r]? = some x) (hc : ∀ c e f, x ≠ .cells c e f) : ∃ w', (setObj r o).run P w = .ok () w' ∧ WUpd w w' r o := by
  refine ⟨{ w with heap := w.heap.setIfInBounds r o }, ?_, ⟨rfl, rfl, rfl, by simp, fun k hk => ?_, ?_⟩⟩
  · simp only [setObj, Sem.run, hx]
  · show (w.heap.setIfInBounds r o)[k]? = _
    rw [Array.getElem?_setIfInBounds_ne (by omega)]
  · show (w.heap.setIfInBounds r o)[r]? = _
    have := (Array.getElem?_eq_some_iff.1 hx).1
    simp [this]

theorem akey_under {kt : TypeId} {k : Value} (h : ∀ b w, (Instr.checkKey b 10000 kt k).run P w = .ok () w) : ∃ d, P.underlying kt = some d := by
  cases hu : P.underlying kt with
  | some d => exact ⟨d, rfl⟩
  | none =>
    have := h true default
    rw [show (10000 : Nat) = 9999 + 1 from rfl, Instr.checkKey] at this
    simp [underlying, hu] at this

theorem zero_ok {e : TypeId} {i : TypeInfo} {z : Value} (hi : P.info? e = some i) (hz : i.zero = some z) : (zeroValue e).run P w = .ok z w := run_zeroValue' hi hz

theorem lookup_ok {t : TypeId} {m m' k k' : Value} {ok : Bool} {r : Res} (hh : HRel ρ h.heap.get w) (hm : VR ρ m m') (hk : VR ρ k k') (hr : alookup P h t m k ok = some r) : ∃ v, r = .val v h ∧ ValOK P ρ h w (Instr.lookup t m' k' ok) v h := by
  unfold alookup at hr
  split at hr
  · rename_i kt e hu
    split at hr
    · rename_i es hak hes
      obtain ⟨rfl, hp, hck⟩ := akey_sound hk hak
      obtain ⟨kd, hkd⟩ := akey_under hck
      have key : ∀ r', (∃ es' : Array MapEntry, ERs ρ es es'.toList ∧ (∀ w, (Instr.findKey kt k' es'.toList).run P w = .ok r' w)) → FoundR ρ (none : Option (Nat × Value)) r' ∨ True := fun _ _ => .inr trivial
      -- what the map holds
      have hold : ∃ es' : Array MapEntry, ERs ρ es es'.toList ∧ ∀ r' : Option (Nat × Value), (∀ w, (Instr.findKey kt k' es'.toList).run P w = .ok r' w) → ∀ v', (match r' with
            | some (_, v) => v' = (if ok then .tuple #[v, .bool true] else v)
            | none => ∃ z, (zeroValue e).run P w = .ok z w ∧ v' = (if ok then .tuple #[z, .bool false] else z)) → (Instr.lookup t m' k' ok).run P w = .ok v' w := by
        unfold amap at hes
        split at hes
        · cases hes
          cases hm
          refine ⟨#[], .nil, fun r' hf v' hv => ?_⟩
          cases r' with
          | none =>
            obtain ⟨z, hz, rfl⟩ := hv
            simp only [Instr.lookup, Sem.run_bind, run_underlying' hu, Result.andThen_ok, Sem.run_pure, hck, hf, hz]
          | some x =>
            obtain ⟨j, v⟩ := x
            simp only at hv
            subst hv
            simp only [Instr.lookup, Sem.run_bind, run_underlying' hu, Result.andThen_ok, Sem.run_pure, hck, hf]
        · split at hes
          · rename_i b es ck hb
            cases hes
            cases hm with
            | sc _ hs => simp [simple] at hs
            | map _ L hL =>
              obtain ⟨es', h1, h2, h3⟩ := getMap_run (P := P) hh hb hL
              refine ⟨es', h3, fun r' hf v' hv => ?_⟩
              cases r' with
              | none =>
                obtain ⟨z, hz, rfl⟩ := hv
                simp only [Instr.lookup, Sem.run_bind, run_underlying' hu, Result.andThen_ok, Sem.run_pure, h2, hck, hf, hz]
              | some x =>
                obtain ⟨j, v⟩ := x
                simp only at hv
                subst hv
                simp only [Instr.lookup, Sem.run_bind, run_underlying' hu, Result.andThen_ok, Sem.run_pure, h2, hck, hf]
          · cases hes
        · cases hes
      obtain ⟨es', hE, hold⟩ := hold
      split at hr
      · rename_i j v hf
        cases hr
        obtain ⟨r', h1, v', rfl, hv⟩ := findKey_run hp hE hf hkd
        refine ⟨_, rfl, ValOK.pure hh (hold _ h1 _ rfl) ?_⟩
        cases ok
        · exact hv
        · exact .tuple _ _ (.cons _ _ _ _ hv (.one (.sc _ rfl)))
      · rename_i hf
        obtain ⟨r', h1, h2⟩ := findKey_run hp hE hf hkd
        have h2 : r' = none := h2
        subst h2
        split at hr
        · rename_i i hi
          split at hr
          · rename_i z hz
            split at hr
            · rename_i hpz
              cases hr
              refine ⟨_, rfl, ValOK.pure hh (hold _ h1 _ ⟨z, run_zeroValue' hi hz, rfl⟩) ?_⟩
              cases ok
              · exact VR.of_plain hpz
              · exact .tuple _ _ (.cons _ _ _ _ (VR.of_plain hpz) (.one (.sc _ rfl)))
            · cases hr
          · cases hr
        · cases hr
      · cases hr
    · cases hr
  · cases hr

theorem modify_toList (f : MapEntry → MapEntry) : ∀ (l : List MapEntry) (i : Nat), (l.toArray.modify i f).toList = l.modify i f := by
  intro l i
  simp

theorem setKV_sound {k x x' : Value} (hk : plainV k = true) (hx : VR ρ x x') : ∀ {es es' : List MapEntry} {i : Nat}, ERs ρ es es' → ERs ρ (setKV i k x es) (es'.modify i fun e => { e with key := k, val := x' })
  | _, _, i, .nil => by cases i <;> simpa [setKV] using ERs.nil
  | _, _, 0, .cons e e' l l' he hl => by simpa [setKV] using ERs.cons _ _ _ _ (show ER ρ { e with key := k, val := x } { e' with key := k, val := x' } from ⟨VR.of_plain hk, hx, he.2.2⟩) hl
  | _, _, i + 1, .cons e e' l l' he hl => by simpa [setKV] using ERs.cons _ _ _ _ he (setKV_sound hk hx hl)

theorem setK_sound {k : Value} (hk : plainV k = true) : ∀ {es es' : List MapEntry} {i : Nat}, ERs ρ es es' → ERs ρ (setK i k es) (es'.modify i fun e => { e with key := k })
  | _, _, i, .nil => by cases i <;> simpa [setK] using ERs.nil
  | _, _, 0, .cons e e' l l' he hl => by simpa [setK] using ERs.cons _ _ _ _ (show ER ρ { e with key := k } { e' with key := k } from ⟨VR.of_plain hk, he.2.1, he.2.2⟩) hl
  | _, _, i + 1, .cons e e' l l' he hl => by simpa [setK] using ERs.cons _ _ _ _ he (setK_sound hk hl)

theorem setVal_sound {x x' : Value} (hx : VR ρ x x') : ∀ {es es' : List MapEntry} {i : Nat}, ERs ρ es es' → ERs ρ (setVal i x es) (es'.modify i fun e => { e with val := x' })
  | _, _, i, .nil => by cases i <;> simpa [setVal] using ERs.nil
  | _, _, 0, .cons e e' l l' he hl => by simpa [setVal] using ERs.cons _ _ _ _ (show ER ρ { e with val := x } { e' with val := x' } from ⟨he.1, hx, he.2.2⟩) hl
  | _, _, i + 1, .cons e e' l l' he hl => by simpa [setVal] using ERs.cons _ _ _ _ he (setVal_sound hx hl)

theorem dropAt_sound : ∀ {es es' : List MapEntry} {i : Nat}, ERs ρ es es' → ERs ρ (dropAt i es) (es'.eraseIdx i)
  | _, _, i, .nil => by cases i <;> simpa [dropAt] using ERs.nil
  | _, _, 0, .cons e e' l l' he hl => by simpa [dropAt] using hl
  | _, _, i + 1, .cons e e' l l' he hl => by simpa [dropAt] using ERs.cons _ _ _ _ he (dropAt_sound hl)

/-- a map object is written anew -/
theorem setMap_ok {b : Nat} {L : Loc} {es es2 : List MapEntry} {ck ck2 : Nat} {es2' : Array MapEntry} (hh : HRel ρ h.heap.get w) (hb : h.heap.get b = some (.map es ck)) (hL : ρ b = some L) (hE : ERs ρ es2 es2'.toList) :
    ∃ w', (setObj L.φ (.map es2' ck2)).run P w = .ok () w' ∧ HRel ρ (h.heap.set b (.map es2 ck2)).get w' ∧ ∀ lo hi, Step ρ h.heap.get w ρ (h.heap.set b (.map es2 ck2)).get w' lo hi := by
  obtain ⟨es', h1, _, _⟩ := getMap_run (P := P) hh hb hL
  obtain ⟨w', hr, hu⟩ := setObj_run (P := P) (o := .map es2' ck2) h1 (fun _ _ _ h => by cases h)
  exact ⟨w', hr, hh.upd hb rfl hL hu (show OR ρ L (.map es2 ck2) (.map es2' ck2) from ⟨hE, rfl⟩) (fun j => T.get_set _ _ _ _), fun lo hi => Step.upd hb rfl hL hu (fun j => T.get_set _ _ _ _) lo hi⟩

theorem keep_run {k : Value} {es : List MapEntry} {arr : Array MapEntry} {e : MapEntry} {j : Nat} (hs : (plainV e.key && Instr.sameBits 10000 e.key k) = true) (hE : ERs ρ es arr.toList) (he : es[j]? = some e) :
    (Instr.keyThatStays (((arr[j]?).map (·.key)).getD k) k).run P w = .ok k w := by
  obtain ⟨e', he', hER⟩ := hE.get he
  rw [Array.getElem?_toList] at he'
  simp only [Bool.and_eq_true] at hs
  have := hER.1.plain hs.1
  simp only [he', Option.map_some, Option.getD_some, this, Instr.keyThatStays, hs.2, if_true, Sem.run_pure]

theorem mapUpdate_ok {t : TypeId} {m m' k k' x x' : Value} {r : Res} (hh : HRel ρ h.heap.get w) (hm : VR ρ m m') (hk : VR ρ k k') (hx : VR ρ x x') (hr : amapUpdate P h t m k x = some r) : ∃ h', r = .skip h' ∧ UnitOK P ρ h w (Instr.mapUpdate t m' k' x') h' := by
  unfold amapUpdate at hr
  split at hr
  · rename_i kt e b hu
    split at hr
    · rename_i es ck hak hb
      obtain ⟨rfl, hp, hck⟩ := akey_sound hk hak
      obtain ⟨kd, hkd⟩ := akey_under hck
      cases hm with
      | sc _ hs => simp [simple] at hs
      | map _ L hL =>
        obtain ⟨es', h1, h2, hE⟩ := getMap_run (P := P) hh hb hL
        split at hr
        · rename_i j v hf
          obtain ⟨r', h3, v', rfl, hv⟩ := findKey_run hp hE hf hkd
          split at hr
          · rename_i e0 he0
            split at hr
            · rename_i hsb
              cases hr
              rw [nth_spec] at he0
              have hkeep := keep_run (P := P) (w := w) (k := k') hsb hE he0
              obtain ⟨w', h4, h5, h6⟩ := setMap_ok (P := P) (ck2 := ck) (es2' := es'.modify j fun e => { e with key := k', val := x' }) hh hb hL (by
                rw [Array.toList_modify]; exact setKV_sound hp hx hE)
              refine ⟨_, rfl, ρ, w', ?_, h5, h6 _ _⟩
              simp only [Instr.mapUpdate, Sem.run_bind, run_underlying' hu, Result.andThen_ok, h2, hck, h3, hkeep, h4]
            · cases hr
          · cases hr
        · rename_i hf
          cases hr
          obtain ⟨r', h3, h3'⟩ := findKey_run hp hE hf hkd
          have h3' : r' = none := h3'
          subst h3'
          obtain ⟨w', h4, h5, h6⟩ := setMap_ok (P := P) (ck2 := ck + 1) (es2' := es'.push { key := k', val := x', born := ck }) hh hb hL (by
            rw [Array.toList_push]; exact hE.append (ERs.cons { key := k', val := x, born := ck } _ _ _ ⟨VR.of_plain hp, hx, rfl⟩ .nil))
          refine ⟨_, rfl, ρ, w', ?_, h5, h6 _ _⟩
          simp only [Instr.mapUpdate, Sem.run_bind, run_underlying' hu, Result.andThen_ok, h2, hck, h3, h4]
        · cases hr
    · cases hr
  · cases hr


theorem mapEntry_ok {t : TypeId} {m m' k k' : Value} {r : Res} (hh : HRel ρ h.heap.get w) (hm : VR ρ m m') (hk : VR ρ k k') (hr : amapEntry P h t m k = some r) : ∃ v h', r = .val v h' ∧ h'.next = h.next ∧ ValOK P ρ h w (Instr.mapEntry t m' k') v h' := by
  unfold amapEntry at hr
  split at hr
  · rename_i kt e b hu
    split at hr
    · rename_i es ck hak hb
      obtain ⟨rfl, hp, hck⟩ := akey_sound hk hak
      obtain ⟨kd, hkd⟩ := akey_under hck
      cases hm with
      | sc _ hs => simp [simple] at hs
      | map _ L hL =>
        obtain ⟨es', h1, h2, hE⟩ := getMap_run (P := P) hh hb hL
        split at hr
        · rename_i j v hf
          obtain ⟨r', h3, v', rfl, hv⟩ := findKey_run hp hE hf hkd
          split at hr
          · rename_i e0 he0
            split at hr
            · rename_i hsb
              cases hr
              rw [nth_spec] at he0
              have hkeep := keep_run (P := P) (w := w) (k := k') hsb hE he0
              obtain ⟨e0', he0', hER⟩ := hE.get he0
              obtain ⟨w', h4, h5, h6⟩ := setMap_ok (P := P) (ck2 := ck) (es2' := es'.modify j fun e => { e with key := k' }) hh hb hL (by
                rw [Array.toList_modify]; exact setK_sound hp hE)
              refine ⟨_, _, rfl, rfl, ρ, .tuple #[v', goInt e0.born], w', ?_, .tuple _ _ (.cons _ _ _ _ hv (.one (.sc _ rfl))), h5, h6 _ _⟩
              have hborn : ((es'[j]?).map (fun x => (x.born : Int))).getD 0 = (e0.born : Int) := by
                rw [Array.getElem?_toList] at he0'
                simp [he0', hER.2.2]
              simp only [Instr.mapEntry, Sem.run_bind, run_underlying' hu, Result.andThen_ok, h2, hck, h3, hkeep, h4, hborn, Sem.run_pure]
            · cases hr
          · cases hr
        · rename_i hf
          obtain ⟨r', h3, h3'⟩ := findKey_run hp hE hf hkd
          have h3' : r' = none := h3'
          subst h3'
          split at hr
          · rename_i i hi
            split at hr
            · rename_i z hz
              split at hr
              · rename_i hpz
                cases hr
                obtain ⟨w', h4, h5, h6⟩ := setMap_ok (P := P) (ck2 := ck + 1) (es2' := es'.push { key := k', val := z, born := ck }) hh hb hL (by
                  rw [Array.toList_push]; exact hE.append (ERs.cons { key := k', val := z, born := ck } _ _ _ ⟨VR.of_plain hp, VR.of_plain hpz, rfl⟩ .nil))
                refine ⟨_, _, rfl, rfl, ρ, .tuple #[z, goInt ck], w', ?_, .tuple _ _ (.cons _ _ _ _ (VR.of_plain hpz) (.one (.sc _ rfl))), h5, h6 _ _⟩
                simp only [Instr.mapEntry, Sem.run_bind, run_underlying' hu, Result.andThen_ok, h2, hck, h3, run_zeroValue' hi hz, h4, Sem.run_pure]
              · cases hr
            · cases hr
          · cases hr
        · cases hr
    · cases hr
  · cases hr

theorem bornAt_sound {s : Int} : ∀ {es es' : List MapEntry} {i j : Nat}, ERs ρ es es' → bornAt s es i = some j → i ≤ j ∧ es'.findIdx? (fun e => (e.born : Int) == s) = some (j - i)
  | _, _, i, j, .nil, hb => by simp [bornAt] at hb
  | _, _, i, j, .cons e e' l l' he hl, hb => by
    simp only [bornAt] at hb
    split at hb
    · rename_i hd
      cases hb
      have : ((e'.born : Int) == s) = true := by rw [he.2.2]; simpa using hd
      simp [List.findIdx?_cons, this]
    · rename_i hd
      obtain ⟨h1, h2⟩ := bornAt_sound hl hb
      have : ((e'.born : Int) == s) = false := by rw [he.2.2]; simpa using hd
      refine ⟨by omega, ?_⟩
      rw [List.findIdx?_cons, this]
      simp only [Bool.false_eq_true, if_false, h2, Option.map_some]
      congr 1
      omega

theorem entryStore_ok {t : TypeId} {m m' s s' x x' : Value} {r : Res} (hh : HRel ρ h.heap.get w) (hm : VR ρ m m') (hs : VR ρ s s') (hx : VR ρ x x') (hr : aentryStore h m s x = some r) : ∃ h', r = .skip h' ∧ h'.next = h.next ∧ UnitOK P ρ h w (Instr.entryStore t m' s' x') h' := by
  unfold aentryStore at hr
  split at hr
  · rename_i b k s
    split at hr
    · rename_i es ck hb
      split at hr
      · rename_i i hi
        cases hr
        cases hs
        cases hm with
        | sc _ hs => simp [simple] at hs
        | map _ L hL =>
          obtain ⟨es', h1, h2, hE⟩ := getMap_run (P := P) hh hb hL
          obtain ⟨_, hfi⟩ := bornAt_sound hE hi
          obtain ⟨w', h4, h5, h6⟩ := setMap_ok (P := P) (ck2 := ck) (es2' := es'.modify i fun e => { e with val := x' }) hh hb hL (by
            rw [Array.toList_modify]; exact setVal_sound hx hE)
          refine ⟨_, rfl, rfl, ρ, w', ?_, h5, h6 _ _⟩
          have hfi' : es'.findIdx? (fun e => (e.born : Int) == s) = some i := by
            obtain ⟨l⟩ := es'
            simpa using hfi
          have has : (asInt (.int k s)).run P w = .ok s w := rfl
          simp only [Instr.entryStore, Sem.run_bind, h2, Result.andThen_ok, has, hfi', h4]
      · cases hr
    · cases hr
  · cases hr

theorem range_ok {t : TypeId} {x x' : Value} {r : Res} (hh : HRel ρ h.heap.get w) (hf : Fresh ρ h.next (r.next h)) (hx : VR ρ x x') (hr : arange P h t x = some r) : ∃ v h', r = .val v h' ∧ ValOK P ρ h w (Instr.range t x') v h' := by
  unfold arange at hr
  split at hr
  · rename_i s hu
    cases hr
    cases hx
    exact ⟨_, _, rfl, ValOK.new (x := .stringIter s 0) (δ := 0) (ψ := 0) hh hf (by simp [Instr.range, run_underlying' hu]) ⟨rfl, rfl, rfl⟩ (VR.newPtr _ _ _ rfl)⟩
  · rename_i k e hu
    cases hr
    cases hx
    exact ⟨_, _, rfl, ValOK.new (x := .mapIter none 0 #[] 0) (δ := 0) (ψ := 0) hh hf (by simp [Instr.range, run_underlying' hu]) ⟨rfl, rfl, rfl, rfl, rfl⟩ (VR.newPtr _ _ _ rfl)⟩
  · rename_i k e b hu
    split at hr
    · rename_i es ck hb
      cases hr
      cases hx with
      | sc _ hs => simp [simple] at hs
      | map _ L hL =>
        obtain ⟨es', h1, h2, hE⟩ := getMap_run (P := P) hh hb hL
        have hn : ρ h.next = none := hf _ (Nat.le_refl _) (Nat.lt_succ_self _)
        exact ⟨_, _, rfl, ValOK.new (x := .mapIter (some L.φ) ck #[] ck) (δ := 0) (ψ := 0) hh hf (by simp [Instr.range, run_underlying' hu, h2]) ⟨⟨L, Ren.set_le _ hn _ _ hL, rfl⟩, rfl, rfl, rfl, rfl⟩ (VR.newPtr _ _ _ rfl)⟩
    · cases hr
  · cases hr

theorem memN_spec {n : Nat} : ∀ {l : List Nat}, memN n l = true ↔ n ∈ l
  | [] => by simp [memN]
  | m :: l => by
    simp only [memN]
    split
    · rename_i h; have := Nat.eq_of_beq_eq_true h; simp [this]
    · rename_i h
      have : n ≠ m := by rintro rfl; simp at h
      rw [memN_spec]; simp [this]

theorem leftE_sound {seen : List Nat} {seen' : Array Nat} (hs : seen'.toList = seen.reverse) : ∀ {es es' : List MapEntry}, ERs ρ es es' → ERs ρ (leftE seen es) (es'.filter fun e => !seen'.contains e.born)
  | _, _, .nil => by simpa [leftE] using ERs.nil
  | _, _, .cons e e' l l' he hl => by
    have ih := leftE_sound hs hl
    have hc : seen'.contains e'.born = memN e.born seen := by
      rw [Bool.eq_iff_iff, memN_spec, Array.contains_iff_mem, ← Array.mem_toList_iff, hs, List.mem_reverse, he.2.2]
    simp only [leftE]
    split
    · rename_i h
      rw [List.filter_cons, if_neg (by rw [hc, h]; decide)]; exact ih
    · rename_i h
      rw [List.filter_cons, if_pos (by rw [hc, h]; rfl)]; exact .cons _ _ _ _ he ih

end
end Go.AV

namespace Go.AV

section
variable {P : Program} {ρ : Ren} {w : World} {h : Hs}

theorem getIter_run {b : Nat} {L : Loc} {o : AObj} (hh : HRel ρ h.heap.get w) (hb : h.heap.get b = some o) (hL : ρ b = some L) (hn : ∀ k, o ≠ .blk k) :
    ∃ x, w.heap[L.φ]? = some x ∧ OR ρ L o x ∧ (getObj L.φ).run P w = .ok x w := by
  obtain ⟨L0, x, hL0, hx0, hR⟩ := hh.obj _ _ hb
  rw [hL] at hL0; cases hL0
  refine ⟨x, hx0, hR, ?_⟩
  cases o <;> cases x <;> simp only [OR] at hR <;> first | exact hR.elim | exact (hn _ rfl).elim | simp only [getObj, Sem.run, hx0]

theorem setIter_ok {b : Nat} {L : Loc} {o o2 : AObj} {x x2 : Obj} (hh : HRel ρ h.heap.get w) (hb : h.heap.get b = some o) (ho : o.owned = true) (hL : ρ b = some L) (hx : w.heap[L.φ]? = some x) (hc : ∀ c e f, x ≠ .cells c e f) (hR : OR ρ L o2 x2) :
    ∃ w', (setObj L.φ x2).run P w = .ok () w' ∧ HRel ρ (h.heap.set b o2).get w' ∧ ∀ lo hi, Step ρ h.heap.get w ρ (h.heap.set b o2).get w' lo hi := by
  obtain ⟨w', hr, hu⟩ := setObj_run (P := P) (o := x2) hx hc
  exact ⟨w', hr, hh.upd hb ho hL hu hR (fun j => T.get_set _ _ _ _), fun lo hi => Step.upd hb ho hL hu (fun j => T.get_set _ _ _ _) lo hi⟩

theorem VR.ptr0 {b : Nat} {x : Value} (hx : VR ρ (.pointer (some ⟨b, 0, none⟩)) x) : ∃ L, ρ b = some L ∧ x = .pointer (some ⟨L.φ, L.δ + 0, none⟩) := by
  cases hx with
  | sc _ hs => simp [AV.simple] at hs
  | ptr _ _ L hL => exact ⟨L, hL, rfl⟩


theorem next_ok {t : TypeId} {x x' : Value} {st : Bool} {r : Res} (hh : HRel ρ h.heap.get w) (hx : VR ρ x x') (hr : anext h x st = some r) : ∃ v h', r = .val v h' ∧ h'.next = h.next ∧ ValOK P ρ h w (Instr.next x' st t) v h' := by
  unfold anext at hr
  split at hr
  · rename_i b
    obtain ⟨L, hL, rfl⟩ := hx.ptr0
    split at hr
    · -- a string
      rename_i s pos hb
      obtain ⟨y, hy, hR, hg⟩ := getIter_run (P := P) hh hb hL (fun k h => by cases h)
      cases y <;> simp only [OR] at hR <;> first | exact hR.elim | skip
      obtain ⟨rfl, rfl, hδ⟩ := hR
      rename_i s pos
      rw [hδ]
      split at hr
      · rename_i hlt
        have hlt' : pos < s.size := by simpa [Nat.blt_eq] using hlt
        split at hr
        rename_i c wd hdec
        cases hr
        obtain ⟨w', h1, h2, h3⟩ := setIter_ok (P := P) (o2 := .siter s (pos + wd)) (x2 := .stringIter s (pos + wd)) hh hb rfl hL hy (fun _ _ _ h => by cases h) ⟨rfl, rfl, hδ⟩
        refine ⟨_, _, rfl, rfl, ρ, .tuple #[.bool true, goInt pos, .int .i32 c], w', ?_, .tuple _ _ (.cons _ _ _ _ (.sc _ rfl) (.cons _ _ _ _ (.sc _ rfl) (.one (.sc _ rfl)))), h2, h3 _ _⟩
        simp only [Instr.next, Nat.add_zero, Sem.run_bind, hg, Result.andThen_ok, if_pos hlt', hdec, h1, Sem.run_pure]
      · rename_i hlt
        have hlt' : ¬ pos < s.size := fun hc => by rw [show pos.blt s.size = true by rw [Nat.blt_eq]; exact hc] at hlt; cases hlt
        cases hr
        refine ⟨_, _, rfl, rfl, ValOK.pure hh (v' := .tuple #[.bool false]) ?_ (.tuple _ _ (.one (.sc _ rfl)))⟩
        simp only [Instr.next, Nat.add_zero, Sem.run_bind, hg, Result.andThen_ok, if_neg hlt', Sem.run_pure]
    · -- a nil map
      rename_i since seen last hb
      obtain ⟨y, hy, hR, hg⟩ := getIter_run (P := P) hh hb hL (fun k h => by cases h)
      cases y <;> simp only [OR] at hR <;> first | exact hR.elim | skip
      obtain ⟨rfl, rfl, hs, rfl, hδ⟩ := hR
      cases hr
      rw [hδ]
      refine ⟨_, _, rfl, rfl, ValOK.pure hh (v' := .tuple #[.bool false]) ?_ (.tuple _ _ (.one (.sc _ rfl)))⟩
      simp only [Instr.next, Nat.add_zero, Sem.run_bind, hg, Result.andThen_ok, Sem.run_pure]
    · -- a map
      rename_i m since seen last hb
      obtain ⟨y, hy, hR, hg⟩ := getIter_run (P := P) hh hb hL (fun k h => by cases h)
      cases y <;> simp only [OR] at hR <;> first | exact hR.elim | skip
      rename_i m' since' seen' last'
      obtain ⟨⟨Lm, hLm, rfl⟩, rfl, hs, rfl, hδ⟩ := hR
      rw [hδ]
      split at hr
      · rename_i es ck hm
        obtain ⟨es', h1, h2, hE⟩ := getMap_run (P := P) hh hm hLm
        have hleft := leftE_sound hs hE
        have hfil : (es'.filter fun e => !seen'.contains e.born).toList = es'.toList.filter fun e => !seen'.contains e.born := by simp
        split at hr
        · -- no entry left
          rename_i hl
          rw [hl] at hleft
          have hnil : (es'.filter fun e => !seen'.contains e.born) = #[] := by
            apply Array.ext'
            rw [hfil]
            generalize (es'.toList.filter fun e => !seen'.contains e.born) = l at hleft
            cases hleft; rfl
          have hgo : r = .val (.tuple #[.bool false]) h ∧ (!seen'.isEmpty && !es'.isEmpty && es'.all fun x => decide (x.born ≥ last')) = false := by
            split at hr
            · cases hr
              have : seen' = #[] := by apply Array.ext'; rw [hs]; rfl
              exact ⟨rfl, by simp [this]⟩
            · split at hr
              · rename_i e l hlt
                cases hr
                cases hE' : es'.toList with
                | nil => rw [hE'] at hE; cases hE
                | cons e' l' =>
                  rw [hE'] at hE
                  cases hE with
                  | cons _ _ _ _ he _ =>
                    have hb1 : e'.born < last' := by rw [he.2.2]; rw [Nat.blt_eq] at hlt; exact hlt
                    have hall : (es'.all fun x => decide (x.born ≥ last')) = false := by
                      rw [← Array.all_toList, hE', List.all_cons]
                      simp; omega
                    exact ⟨rfl, by rw [hall]; simp⟩
              · cases hr
            · cases hr
              have : es' = #[] := by apply Array.ext'; cases hE' : es'.toList with | nil => rfl | cons _ _ => (rw [hE'] at hE; cases hE)
              exact ⟨rfl, by simp [this]⟩
          obtain ⟨rfl, hg2⟩ := hgo
          refine ⟨_, _, rfl, rfl, ValOK.pure hh (v' := .tuple #[.bool false]) ?_ (.tuple _ _ (.one (.sc _ rfl)))⟩
          simp only [Instr.next, Nat.add_zero, Sem.run_bind, hg, Result.andThen_ok, h2, hg2, Bool.false_eq_true, if_false, hnil]
          simp [choose, Sem.run, Question.forced]
        · -- one entry
          rename_i e hl
          rw [hl] at hleft
          split at hr
          · rename_i hlt
            cases hr
            have hone : ∃ e', (es'.filter fun e => !seen'.contains e.born) = #[e'] ∧ ER ρ e e' := by
              have : ∃ e', (es'.filter fun e => !seen'.contains e.born).toList = [e'] ∧ ER ρ e e' := by
                rw [hfil]
                generalize (es'.toList.filter fun e => !seen'.contains e.born) = l at hleft
                cases hleft with
                | cons _ e' _ l he hl => cases hl; exact ⟨e', rfl, he⟩
              obtain ⟨e', h3, h4⟩ := this
              exact ⟨e', Array.ext' (by rw [h3]), h4⟩
            obtain ⟨e', ho, he⟩ := hone
            have hseen : seen' = #[] := by apply Array.ext'; rw [hs]; rfl
            subst hseen
            have hb1 : e'.born < since' := by rw [he.2.2]; rw [Nat.blt_eq] at hlt; exact hlt
            obtain ⟨w', h4, h5, h6⟩ := setIter_ok (P := P) (o2 := .miter (some m) since' [e.born] ck) (x2 := .mapIter (some Lm.φ) since' #[e'.born] ck) hh hb rfl hL hy (fun _ _ _ h => by cases h) ⟨⟨Lm, hLm, rfl⟩, rfl, by simp [he.2.2], rfl, hδ⟩
            refine ⟨_, _, rfl, rfl, ρ, .tuple #[.bool true, e'.key, e'.val], w', ?_, .tuple _ _ (.cons _ _ _ _ (.sc _ rfl) (.cons _ _ _ _ he.1 (.one he.2.1))), h5, h6 _ _⟩
            have hf1 : (#[e'] : Array MapEntry).filter (fun x => decide (x.born < since')) = #[e'] := by simp [hb1]
            have hf2 : (#[e'] : Array MapEntry).filter (fun x => decide (x.born ≥ since')) = #[] := by simp; omega
            simp only [Instr.next, Nat.add_zero, Sem.run_bind, hg, Result.andThen_ok, h2, Array.isEmpty_empty, Bool.not_true, Bool.false_and, Bool.false_eq_true, if_false, ho, hf1, hf2]
            
            simp [choose, Sem.run, Question.forced, h4]
          · cases hr
        · cases hr
      · cases hr
    · cases hr
  · cases hr

theorem findBorn_sound {st : Nat} : ∀ {es es' : List MapEntry} {e : MapEntry}, ERs ρ es es' → findBorn st es = some e → ∃ e', es'.find? (·.born == st) = some e' ∧ ER ρ e e'
  | _, _, e, .nil, hb => by simp [findBorn] at hb
  | _, _, e, .cons a a' l l' ha hl, hb => by
    simp only [findBorn] at hb
    split at hb
    · rename_i hd
      cases hb
      have : (a'.born == st) = true := by rw [ha.2.2, Nat.eq_of_beq_eq_true hd]; simp
      exact ⟨a', by rw [List.find?_cons, this], ha⟩
    · rename_i hd
      obtain ⟨e', h1, h2⟩ := findBorn_sound hl hb
      have : (a'.born == st) = false := by rw [ha.2.2]; have := Nat.ne_of_beq_eq_false hd; simpa using this
      exact ⟨e', by rw [List.find?_cons, this]; exact h1, h2⟩

theorem entry_ok {x x' : Value} {r : Res} (hh : HRel ρ h.heap.get w) (hx : VR ρ x x') (hr : aentry h x = some r) : ∃ v, r = .val v h ∧ ValOK P ρ h w (Instr.entry x') v h := by
  unfold aentry at hr
  split at hr
  · rename_i b
    obtain ⟨L, hL, rfl⟩ := hx.ptr0
    split at hr
    · rename_i m since st seen stepped hb
      obtain ⟨y, hy, hR, hg⟩ := getIter_run (P := P) hh hb hL (fun k h => by cases h)
      cases y <;> simp only [OR] at hR <;> first | exact hR.elim | skip
      rename_i m' since' seen' last'
      obtain ⟨⟨Lm, hLm, rfl⟩, rfl, hs, rfl, hδ⟩ := hR
      rw [hδ]
      split at hr
      · rename_i es ck hm
        obtain ⟨es', h1, h2, hE⟩ := getMap_run (P := P) hh hm hLm
        split at hr
        · rename_i e hck hfb
          cases hr
          obtain ⟨e', h3, h4⟩ := findBorn_sound hE hfb
          have hck' := Nat.eq_of_beq_eq_true hck
          have hback : seen'.back? = some st := by
            have : seen'.toList.getLast? = some st := by rw [hs]; simp
            simpa using this
          have hfind : es'.find? (·.born == st) = some e' := by
            obtain ⟨l⟩ := es'
            simpa using h3
          refine ⟨_, rfl, ValOK.pure hh (v' := .tuple #[e'.key, e'.val]) ?_ (.tuple _ _ (.cons _ _ _ _ h4.1 (.one h4.2.1)))⟩
          have hne : (ck != last') = false := by simp [hck']
          simp only [Instr.entry, Nat.add_zero, Sem.run_bind, hg, Result.andThen_ok, hback, h2, hne, Bool.false_eq_true, if_false, hfind, Sem.run_pure]
        · cases hr
      · cases hr
    · cases hr
  · cases hr

theorem delete_ok {ats : List TypeId} {m m' k k' : Value} {ty : TypeId} {r : Res} (hm : VR ρ m m') (hk : VR ρ k k') (hh : HRel ρ h.heap.get w) (hr : abuiltin P h .delete ats [m, k] = some r) :
    ∃ v h', r = .val v h' ∧ h'.next = h.next ∧ ValOK P ρ h w (Builtin.delete_ ⟨ats⟩ ty #[m', k']) v h' := by
  simp only [abuiltin] at hr
  split at hr
  · rename_i t _
    split at hr
    · rename_i kt e hu
      split at hr
      · rename_i hak
        cases hr
        obtain ⟨rfl, hp, hck⟩ := akey_sound hk hak
        cases hm
        refine ⟨_, _, rfl, rfl, ValOK.pure hh (v' := .tuple #[]) ?_ (.tuple _ _ .nil)⟩
        simp [Builtin.delete_, run_underlying' hu, hck]
      · cases hr
    · rename_i kt e b hu0
      have hu := hu0
      split at hr
      · rename_i es ck hak hb
        obtain ⟨rfl, hp, hck⟩ := akey_sound hk hak
        obtain ⟨kd, hkd⟩ := akey_under hck
        cases hm with
        | sc _ hs => simp [simple] at hs
        | map _ L hL =>
          obtain ⟨es', h1, h2, hE⟩ := getMap_run (P := P) hh hb hL
          split at hr
          · rename_i j v hf
            cases hr
            obtain ⟨r', h3, v', rfl, hv⟩ := findKey_run hp hE hf hkd
            obtain ⟨w', h4, h5, h6⟩ := setMap_ok (P := P) (ck2 := ck) (es2' := es'.eraseIdxIfInBounds j) hh hb hL (by
              rw [Array.toList_eraseIdxIfInBounds]; exact dropAt_sound hE)
            refine ⟨_, _, rfl, rfl, ρ, .tuple #[], w', ?_, .tuple _ _ .nil, h5, h6 _ _⟩
            simp [Builtin.delete_, run_underlying' hu, h2, hck, h3, h4]
          · rename_i hf
            cases hr
            obtain ⟨r', h3, h3'⟩ := findKey_run hp hE hf hkd
            have h3' : r' = none := h3'
            subst h3'
            obtain ⟨w', h4, hu⟩ := setObj_run (P := P) (o := .map es' ck) h1 (fun _ _ _ h => by cases h)
            have hsame : ∀ j, h.heap.get j = if j = b then some (AObj.map es ck) else h.heap.get j := fun j => by
              split
              · rename_i he; subst he; exact hb
              · rfl
            have hup := hh.upd (H' := h.heap.get) hb rfl hL hu (show OR ρ L (.map es ck) (.map es' ck) from ⟨hE, rfl⟩) hsame
            have hst := fun lo hi => Step.upd (lo := lo) (hi := hi) (H' := h.heap.get) hb (o := .map es ck) (o' := .map es ck) rfl hL hu hsame
            refine ⟨_, _, rfl, rfl, ρ, .tuple #[], w', ?_, .tuple _ _ .nil, hup, hst _ _⟩
            simp [Builtin.delete_, run_underlying' hu0, h2, hck, h3, h4]
          · cases hr
      · cases hr
    · cases hr
  · cases hr

end
end Go.AV

namespace Go.AV

section
variable {P : Program} {ρ : Ren} {w : World} {h : Hs}

theorem ResOK.ofV {s : Sem Value} {r : Res} (hv : ∃ v h', r = .val v h' ∧ ValOK P ρ h w s v h') : ResOK P ρ h w (do pure (.value (← s))) r := by
  obtain ⟨v, h', rfl, hv⟩ := hv
  exact ResOK.ofVal hv

theorem ResOK.ofV1 {s : Sem Value} {r : Res} (hv : ∃ v, r = .val v h ∧ ValOK P ρ h w s v h) : ResOK P ρ h w (do pure (.value (← s))) r := by
  obtain ⟨v, rfl, hv⟩ := hv
  exact ResOK.ofVal hv

theorem ResOK.ofV2 {s : Sem Value} {r : Res} (hv : ∃ v h', r = .val v h' ∧ h'.next = h.next ∧ ValOK P ρ h w s v h') : ResOK P ρ h w (do pure (.value (← s))) r := by
  obtain ⟨v, h', rfl, _, hv⟩ := hv
  exact ResOK.ofVal hv

theorem ResOK.ofU {s : Sem Unit} {r : Res} (hv : ∃ h', r = .skip h' ∧ UnitOK P ρ h w s h') : ResOK P ρ h w (do s; pure .skip) r := by
  obtain ⟨h', rfl, hv⟩ := hv
  exact ResOK.ofUnit hv

theorem ResOK.ofU2 {s : Sem Unit} {r : Res} (hv : ∃ h', r = .skip h' ∧ h'.next = h.next ∧ UnitOK P ρ h w s h') : ResOK P ρ h w (do s; pure .skip) r := by
  obtain ⟨h', rfl, _, hv⟩ := hv
  exact ResOK.ofUnit hv

theorem builtin_ok {b : Builtin} {ats : List TypeId} {l l' : List Value} {ty : TypeId} {consts : Array Bool} {r : Res} (hl : VRs ρ l l') (hh : HRel ρ h.heap.get w) (hf : Fresh ρ h.next (r.next h)) (hr : abuiltin P h b ats l = some r) :
    ResOK P ρ h w (builtin b ⟨ats⟩ ty consts ⟨l'⟩) r := by
  cases b with
  | min => exact .ofV (minmax_ok (ats := ⟨ats⟩) (ty := ty) hl hh (.inl ⟨rfl, hr⟩))
  | max => exact .ofV (minmax_ok (ats := ⟨ats⟩) (ty := ty) hl hh (.inr ⟨rfl, hr⟩))
  | _ =>
    cases hl with
    | nil => simp [abuiltin] at hr
    | cons x x' t t' hx ht =>
      cases ht with
      | nil =>
        first
          | (simp only [abuiltin, reduceCtorEq] at hr; done)
          | exact .ofV (len_ok hx hh hr)
          | exact .ofV (cap_ok hx hh hr)
          | exact .ofV (clear_ok hx hh hr)
          | exact .ofV (usd_ok hx hh hr)
          | exact .ofV1 (len_ok hx hh hr)
          | exact .ofV1 (cap_ok hx hh hr)
          | exact .ofV1 (clear_ok hx hh hr)
          | exact .ofV1 (usd_ok hx hh hr)
          | exact .ofV2 (clear_ok hx hh hr)
      | cons y y' u u' hy hu =>
        cases hu with
        | nil =>
          first
            | (simp only [abuiltin, reduceCtorEq] at hr; done)
            | exact .ofV (append_ok hx hy hh hf hr)
            | exact .ofV (copy_ok hx hy hh hr)
            | exact .ofV2 (copy_ok hx hy hh hr)
            | exact .ofV2 (delete_ok hx hy hh hr)
            | exact .ofV (us_ok hx hy hh hr)
            | exact .ofV2 (us_ok hx hy hh hr)
        | cons _ _ _ _ _ _ => simp [abuiltin] at hr

theorem evs_map {tm : Tm} {n : Nat} {a : Act} (ht : TR ρ tm n a.tmps) {xs : Array Operand} {vs : List Value} (hv : evs tm xs.toList = some vs) : ∃ vs', xs.map a.eval = ⟨vs'⟩ ∧ VRs ρ vs vs' := by
  refine ⟨(xs.map a.eval).toList, rfl, ?_⟩
  rw [Array.toList_map]
  exact evs_sound ht hv

theorem call_ok {tm : Tm} {n : Nat} {a : Act} (ht : TR ρ tm n a.tmps) {c : Call} {ty : TypeId} {r : Res} (hh : HRel ρ h.heap.get w) (hf : Fresh ρ h.next (r.next h)) (hr : acall P tm h c = some r) :
    ResOK P ρ h w (do let d ← resolve a.eval c ty; invoke d.target d.args) r := by
  unfold acall at hr
  split at hr
  · rename_i args hargs
    obtain ⟨args', hargs', hR⟩ := evs_map ht hargs
    split at hr
    · rename_i b hcal
      have hb := fun consts => builtin_ok (ty := ty) (consts := consts) hR hh hf hr
      simp only [resolve, hcal, hargs', pure_bind, invoke]
      exact hb _
    · rename_i f hcal
      split at hr
      · rename_i f0 first captured hev
        have hfv := ev_sound ht hev
        cases hfv' : a.eval f with
        | func g fi ca =>
          rw [hfv'] at hfv
          cases hfv with
          | sc _ hs => simp [AV.simple] at hs
          | fn _ _ fi' _ ca' h1 h2 =>
            have hall := (h1.append hR).append h2
            have hres : (do let d ← resolve a.eval c ty; invoke d.target d.args) = callFunc f0 ⟨(fi' ++ args') ++ ca'⟩ := by
              simp [resolve, hcal, hfv', Deferred.ofValue, invoke, hargs']
            rw [hres]
            split at hr
            · rename_i fn hfn
              split at hr
              · rename_i body hbody
                split at hr
                · cases hr
                · rename_i hname
                  cases hr
                  have hname' : ¬ fn.name = "runtime.NumGoroutine" := by simpa using hname
                  refine ⟨_, ?_, hall⟩
                  simp [callFunc, hfn, hname', hbody]
              · rename_i hbody
                exact extern_ok hfn hbody hall hh hf hr
            · cases hr
        | _ => rw [hfv'] at hfv; cases hfv
      · rename_i l first cap hev
        cases hr
        have hfv := ev_sound ht hev
        generalize hfv' : a.eval f = fv at hfv
        cases hfv with
        | sc _ hs => simp [AV.simple] at hs
        | yield _ L _ fi' hL h1 =>
          refine ⟨L, _, hL, ?_, h1.append hR⟩
          simp [resolve, hcal, hfv', Deferred.ofValue, invoke, hargs']
      · cases hr
    · cases hr
  · cases hr

theorem defer_ok {tm : Tm} {n : Nat} {a : Act} (ht : TR ρ tm n a.tmps) {c : Call} {ty : TypeId} {r : Res} (hr : adefer tm c = some r) :
    ResOK P ρ h w (do pure (.defer (← resolve a.eval c ty))) r := by
  unfold adefer at hr
  split at hr
  · rename_i args hargs
    obtain ⟨args', hargs', hR⟩ := evs_map ht hargs
    split at hr
    · rename_i f hcal
      split at hr
      · rename_i f0 first captured hev
        cases hr
        have hfv := ev_sound ht hev
        generalize hfv' : a.eval f = fv at hfv
        cases hfv with
        | sc _ hs => simp [AV.simple] at hs
        | fn _ _ fi' _ ca' h1 h2 =>
          refine ⟨_, ?_, _, _, rfl, h1.append hR, h2⟩
          simp [resolve, hcal, hfv', Deferred.ofValue, hargs']
      · cases hr
    · cases hr
  · cases hr

theorem opt1_some {f : Value → Option Res} {a : Option Value} {r : Res} (hr : opt1 f a = some r) : ∃ v, a = some v ∧ f v = some r := by
  unfold opt1 at hr
  split at hr
  · exact ⟨_, rfl, hr⟩
  · cases hr

theorem opt2_some {f : Value → Value → Option Res} {a b : Option Value} {r : Res} (hr : opt2 f a b = some r) : ∃ v u, a = some v ∧ b = some u ∧ f v u = some r := by
  unfold opt2 at hr
  split at hr
  · exact ⟨_, _, rfl, rfl, hr⟩
  · cases hr

theorem opt3_some {f : Value → Value → Value → Option Res} {a b c : Option Value} {r : Res} (hr : opt3 f a b c = some r) : ∃ v u x, a = some v ∧ b = some u ∧ c = some x ∧ f v u x = some r := by
  unfold opt3 at hr
  split at hr
  · exact ⟨_, _, _, rfl, rfl, rfl, hr⟩
  · cases hr

theorem aop_sound {tm : Tm} {n : Nat} {a : Act} (ht : TR ρ tm n a.tmps) {o : Oper} {r : Res} (hh : HRel ρ h.heap.get w) (hf : Fresh ρ h.next (r.next h)) (hr : aop P tm h o = some r) :
    ResOK P ρ h w (execOp a.eval o) r := by
  unfold aop at hr
  unfold execOp
  cases ho : o.op with
  | move x =>
    rw [ho] at hr
    obtain ⟨v, h1, h2⟩ := opt1_some hr
    cases h2
    exact ⟨ρ, _, w, rfl, ev_sound ht h1, hh, Step.refl _ _ _ _ _⟩
  | assign x =>
    rw [ho] at hr
    obtain ⟨v, h1, h2⟩ := opt1_some hr
    cases h2
    exact ⟨ρ, _, w, rfl, ev_sound ht h1, hh, Step.refl _ _ _ _ _⟩
  | pick c x y =>
    rw [ho] at hr
    dsimp only at hr ⊢
    split at hr
    · rename_i hc
      have hcv := ev_sound ht hc
      generalize hce : a.eval c = cv at hcv
      cases hcv
      obtain ⟨v, h1, h2⟩ := opt1_some hr
      cases h2
      exact ⟨ρ, _, w, by simp [asBool], ev_sound ht h1, hh, Step.refl _ _ _ _ _⟩
    · rename_i hc
      have hcv := ev_sound ht hc
      generalize hce : a.eval c = cv at hcv
      cases hcv
      obtain ⟨v, h1, h2⟩ := opt1_some hr
      cases h2
      exact ⟨ρ, _, w, by simp [asBool], ev_sound ht h1, hh, Step.refl _ _ _ _ _⟩
    · cases hr
  | alloc e =>
    rw [ho] at hr
    dsimp only at hr
    split at hr
    · rename_i i hi
      split at hr
      · rename_i z hz
        split at hr
        · rename_i hp
          cases hr
          exact .ofVal (alloc_ok hh hf hi hz hp)
        · cases hr
      · cases hr
    · cases hr
  | box e x =>
    rw [ho] at hr
    obtain ⟨v, h1, h2⟩ := opt1_some hr
    cases h2
    exact .ofVal (box_ok hh hf (ev_sound ht h1))
  | build t parts => rw [ho] at hr; exact .ofV1 (build_ok ht hh hr)
  | buildSlice t len parts => rw [ho] at hr; exact .ofV (buildSlice_ok ht hh hf hr)
  | load t x =>
    rw [ho] at hr
    obtain ⟨v, h1, h2⟩ := opt1_some hr
    exact .ofV1 (load_ok hh (ev_sound ht h1) h2)
  | store t x y =>
    rw [ho] at hr
    obtain ⟨v, u, h1, h2, h3⟩ := opt2_some hr
    exact .ofU2 (store_ok hh (ev_sound ht h1) (ev_sound ht h2) h3)
  | nilCheck x =>
    rw [ho] at hr
    obtain ⟨v, h1, h2⟩ := opt1_some hr
    obtain ⟨u, rfl, h4, h5⟩ := nilCheck_ok (ev_sound ht h1) h2
    refine ⟨ρ, a.eval x, w, ?_, h4, hh, Step.refl _ _ _ _ _⟩
    rcases h5 with ⟨b, h5⟩ | ⟨f, b, c, h5⟩ | ⟨f, b, c, h5⟩ <;> simp [h5]
  | binOp op xt x y yt =>
    rw [ho] at hr
    obtain ⟨v, u, h1, h2, h3⟩ := opt2_some hr
    split at h3
    · rename_i v hv
      cases h3
      exact .ofVal (binop_ok hh (ev_sound ht h1) (ev_sound ht h2) hv)
    · cases h3
  | unOp op xt x =>
    rw [ho] at hr
    obtain ⟨v, h1, h2⟩ := opt1_some hr
    exact .ofV1 (unary_ok hh (ev_sound ht h1) h2)
  | convert s d x =>
    rw [ho] at hr
    obtain ⟨v, h1, h2⟩ := opt1_some hr
    exact .ofV (convert_ok (ev_sound ht h1) hh hf h2)
  | makeFunc fn first captured =>
    rw [ho] at hr
    dsimp only at hr
    split at hr
    · split at hr
      · rename_i f c h1 h2
        cases hr
        obtain ⟨f', e1, r1⟩ := evs_map ht h1
        obtain ⟨c', e2, r2⟩ := evs_map ht h2
        exact ⟨ρ, .func (.func _) ⟨f'⟩ ⟨c'⟩, w, by simp [Instr.makeFunc, e1, e2], .fn _ _ _ _ _ r1 r2, hh, Step.refl _ _ _ _ _⟩
      · cases hr
    · cases hr
  | makeMap t r =>
    rw [ho] at hr
    dsimp only at hr
    split at hr
    · cases hr
      refine .ofVal (ValOK.new (δ := 0) (ψ := 0) (x := .map #[] 0) (v' := .map (some w.heap.size)) hh hf ?_ ⟨.nil, rfl⟩ (.map _ _ (Ren.set_same _ _ _)))
      simp [Instr.makeMap]
    · cases hr
  | makeSlice t l c =>
    rw [ho] at hr
    obtain ⟨v, u, h1, h2, h3⟩ := opt2_some hr
    exact .ofV (makeSlice_ok hh (ev_sound ht h1) (ev_sound ht h2) hf h3)
  | slice t x lo hi mx =>
    rw [ho] at hr
    obtain ⟨v, h1, h2⟩ := opt1_some hr
    exact .ofV (slice_ok ht (ev_sound ht h1) hh hf h2)
  | fieldAddr s x f =>
    rw [ho] at hr
    obtain ⟨v, h1, h2⟩ := opt1_some hr
    exact .ofV1 (fieldAddr_ok hh (ev_sound ht h1) h2)
  | field t x f =>
    rw [ho] at hr
    obtain ⟨v, h1, h2⟩ := opt1_some hr
    exact .ofV1 (field_ok hh (ev_sound ht h1) h2)
  | indexAddr t x i =>
    rw [ho] at hr
    obtain ⟨v, u, h1, h2, h3⟩ := opt2_some hr
    exact .ofV1 (indexAddr_ok hh (ev_sound ht h1) (ev_sound ht h2) h3)
  | index t x i =>
    rw [ho] at hr
    obtain ⟨v, u, h1, h2, h3⟩ := opt2_some hr
    exact .ofV1 (index_ok hh (ev_sound ht h1) (ev_sound ht h2) h3)
  | lookup t m k ok =>
    rw [ho] at hr
    obtain ⟨v, u, h1, h2, h3⟩ := opt2_some hr
    exact .ofV1 (lookup_ok hh (ev_sound ht h1) (ev_sound ht h2) h3)
  | mapUpdate t m k x =>
    rw [ho] at hr
    obtain ⟨v, u, y, h1, h2, h3, h4⟩ := opt3_some hr
    exact .ofU (mapUpdate_ok hh (ev_sound ht h1) (ev_sound ht h2) (ev_sound ht h3) h4)
  | insert t m k x =>
    rw [ho] at hr
    obtain ⟨v, u, y, h1, h2, h3, h4⟩ := opt3_some hr
    exact .ofU (mapUpdate_ok hh (ev_sound ht h1) (ev_sound ht h2) (ev_sound ht h3) h4)
  | mapEntry t m k =>
    rw [ho] at hr
    obtain ⟨v, u, h1, h2, h3⟩ := opt2_some hr
    exact .ofV2 (mapEntry_ok hh (ev_sound ht h1) (ev_sound ht h2) h3)
  | entryStore t m s x =>
    rw [ho] at hr
    obtain ⟨v, u, y, h1, h2, h3, h4⟩ := opt3_some hr
    exact .ofU2 (entryStore_ok hh (ev_sound ht h1) (ev_sound ht h2) (ev_sound ht h3) h4)
  | range t x =>
    rw [ho] at hr
    obtain ⟨v, h1, h2⟩ := opt1_some hr
    exact .ofV (range_ok hh hf (ev_sound ht h1) h2)
  | next it s =>
    rw [ho] at hr
    obtain ⟨v, h1, h2⟩ := opt1_some hr
    exact .ofV2 (next_ok hh (ev_sound ht h1) h2)
  | entry it =>
    rw [ho] at hr
    obtain ⟨v, h1, h2⟩ := opt1_some hr
    exact .ofV1 (entry_ok hh (ev_sound ht h1) h2)
  | extract t i =>
    rw [ho] at hr
    obtain ⟨v, h1, h2⟩ := opt1_some hr
    exact .ofV1 (extract_ok hh (ev_sound ht h1) h2)
  | call c => rw [ho] at hr; exact call_ok ht hh hf hr
  | defer c => rw [ho] at hr; exact defer_ok ht hr
  | _ => rw [ho] at hr; cases hr

end
end Go.AV
