/-
  A part of the proof: lemmas of my own.
-/
import Derived.Test.YtnjfffcmlfoliaaPE
import Derived.Test.YtnjfffcmlfoliaaShelfP
import Derived.OwnWalk
import Derived.Laws.AppendOwn
import Derived.Deep.AppendLies
set_option linter.unusedVariables false
set_option linter.unusedSimpArgs false
namespace Go.Proofs
open Go.RowKit
set_option maxRecDepth 1000000

theorem Try.info9 : (Try.prog.info? 9).map (fun i => (i.zero, i.size, i.bytes)) = some (some (.string ⟨#[]⟩), 1, 16) := by kernel_rfl

theorem keepG {w w1 w2 : World} {B n : Nat} {v : Value} {xs : List Value} {f t m : Int} {b : Bool} {r k : Int} {sf bi : Bool} {o : Int} {ch : Bool} (ob : Obj) (hn : w1.ownsRow (B + 1) 9 1 v n xs) (hg : (w1.alloc ob).grownBy w2 v.ownBlock)
    (h : w1.cell? ⟨B, 0, none⟩ = some (.int .i64 f) ∧ w1.cell? ⟨B, 1, none⟩ = some (.int .i64 t) ∧ w1.cell? ⟨B, 2, none⟩ = some (.int .i64 m) ∧ w1.cell? ⟨B, 3, none⟩ = some (.bool b) ∧ w1.cell? ⟨B, 4, none⟩ = some (.int .i64 r) ∧ w1.cell? ⟨B, 5, none⟩ = some (.int .i64 k) ∧ w1.cell? ⟨B, 6, none⟩ = some (.bool sf) ∧ w1.cell? ⟨B, 7, none⟩ = some (.bool bi) ∧ w1.cell? ⟨B, 8, none⟩ = some (.int .i64 o) ∧ w1.cell? ⟨B, 9, none⟩ = some (.bool ch) ∧ B + 1 ≤ w1.heap.size ∧ Below B w w1) :
    w2.cell? ⟨B, 0, none⟩ = some (.int .i64 f) ∧ w2.cell? ⟨B, 1, none⟩ = some (.int .i64 t) ∧ w2.cell? ⟨B, 2, none⟩ = some (.int .i64 m) ∧ w2.cell? ⟨B, 3, none⟩ = some (.bool b) ∧ w2.cell? ⟨B, 4, none⟩ = some (.int .i64 r) ∧ w2.cell? ⟨B, 5, none⟩ = some (.int .i64 k) ∧ w2.cell? ⟨B, 6, none⟩ = some (.bool sf) ∧ w2.cell? ⟨B, 7, none⟩ = some (.bool bi) ∧ w2.cell? ⟨B, 8, none⟩ = some (.int .i64 o) ∧ w2.cell? ⟨B, 9, none⟩ = some (.bool ch) ∧ B + 1 ≤ w2.heap.size ∧ Below B w w2 := by
  obtain ⟨h0, h1, h2, h3, h4, h5, h6, h7, h8, h9, hs, hw⟩ := h
  have hne : v.ownBlock ≠ some B := fun e => by have := (hn.lt B e).1; omega
  have hc : ∀ o, w2.cell? ⟨B, o, none⟩ = w1.cell? ⟨B, o, none⟩ := fun o => by
    rw [World.cell?_of_block (hg.block B (by simp; omega) (fun e => hne e.symm)), World.cell?_of_block (Below.heap_alloc w1 ob B (by omega))]
  refine ⟨(hc _).trans h0, (hc _).trans h1, (hc _).trans h2, (hc _).trans h3, (hc _).trans h4, (hc _).trans h5, (hc _).trans h6, (hc _).trans h7, (hc _).trans h8, (hc _).trans h9, ?_, ?_⟩
  · have := hg.size; simp at this; omega
  · exact (hw.alloc (by omega) ob).grown hg (by simp; omega) (fun k e => by have := (hn.lt k e).1; omega)

theorem own7 (w : World) (B : Nat) (hB : B ≤ w.heap.size) (a b c d e f g : Value) : (w.alloc (.cells #[a, b, c, d, e, f, g] 9)).ownsRow B 9 1 (.slice (some ⟨w.heap.size, 0, none⟩) 7 7) 7 [a, b, c, d, e, f, g] :=
  ⟨rfl, .inr ⟨w.heap.size, 7, _, rfl, hB, heap_alloc_new w _, Nat.le_refl _, by unfold maxLen; omega, rfl, rfl⟩⟩

theorem later (w : World) (B : Nat) (a : ByteArray) (l : List Value) (t : TypeId) (n : Int) (h : (w.alloc (.cells (.string a :: l).toArray t)).cell? ⟨B, 0, none⟩ = some (.int .i64 n)) (hs : B + 1 ≤ (w.alloc (.cells (.string a :: l).toArray t)).heap.size) : B + 1 ≤ w.heap.size := by
  simp at hs
  by_cases he : B = w.heap.size
  · subst he
    rw [World.cell?, heap_alloc] at h
    simp at h
  · omega

theorem one_str (s : ByteArray) : ∀ u ∈ [Value.string s], u.oneCell' = true := by simp [Value.oneCell']
theorem leA {w1 : World} {B : Nat} {ob : Obj} (h : B + 1 ≤ w1.heap.size) : B + 1 ≤ (w1.alloc ob).heap.size := by simp; omega

/-- what Join is told of its slice -/
theorem own_cells {w : World} {B n : Nat} {v : Value} {xs : List ByteArray} (h : w.ownsRow B 9 1 v n (xs.map Value.string)) (hn : 0 < n) :
    ∃ g cap, v = .slice (some ⟨g, 0, none⟩) xs.length cap ∧ g < w.heap.size ∧ xs.length ≤ cap ∧ (∀ (j : Nat) x, xs[j]? = some x → w.cell? ⟨g, 0 + j, none⟩ = some (.string x)) := by
  have hl : xs.length = n := by have := h.1; simpa using this
  rcases h.2 with ⟨_, h0⟩ | ⟨g, cap, cur, rfl, hb, hg, hle, hm, hsz, ht⟩
  · omega
  · refine ⟨g, cap, by rw [hl], (Array.getElem?_eq_some_iff.1 hg).1, by omega, fun j x hx => ?_⟩
    have := h.cells (g := g) rfl j (.string x) (by simp [hx])
    rw [Nat.zero_add]
    by_cases h0 : j = 0
    · simpa [Addr.add, h0] using this
    · simpa [Addr.add, h0] using this

def Qy.flags (q : Qy) : List ByteArray := (bif q.sf then [⟨#[115, 116, 101, 112, 45, 102, 114, 101, 101]⟩] else []) ++ (bif q.bi then [⟨#[98, 105, 99, 121, 99, 108, 101]⟩] else []) ++ (bif q.ch then [⟨#[99, 104, 97, 110, 103, 105, 110, 103]⟩] else [])
def Qy.words (q : Qy) : List ByteArray := [decB q.from_, decB q.to_, decB q.time, dirB q.back, decB q.rides, decB q.walk, decB q.modes] ++ q.flags

theorem ba_list (a : ByteArray) (l : List UInt8) (h : a.data.toList = l) : a = ⟨l.toArray⟩ := by
  apply ByteArray.ext
  apply Array.toList_inj.1
  simpa using h

theorem join_line (q : Qy) : (⟨(Lib.join (q.words.map (·.data.toList)) [32]).toArray⟩ : ByteArray) = q.line := by
  refine (ba_list _ _ ?_).symm
  obtain ⟨f, t, m, b, r, k, sf, bi, o, ch⟩ := q
  cases sf <;> cases bi <;> cases ch <;> simp [Qy.line, Qy.base, Qy.words, Qy.flags, Lib.join, List.intercalate, ByteArray.data_append]

theorem line_len (q : Qy) : (q.line).size ≤ 300 := by
  have := base_len q
  obtain ⟨f, t, m, b, r, k, sf, bi, o, ch⟩ := q
  cases sf <;> cases bi <;> cases ch <;> simp only [Qy.line, cond_true, cond_false, ByteArray.size_append, ByteArray.size_mk'] <;> simp <;> omega

theorem join_own {w : World} {B n : Nat} {v : Value} (q : Qy) (h : w.ownsRow B 9 1 v n (q.words.map Value.string)) (hn : 0 < n) :
    Calls Try.prog 12 #[v, .string ⟨#[32]⟩] w fun e w' => e = .returned (.string q.line) ∧ Below w.heap.size w w' := by
  obtain ⟨g, cap, rfl, hg, hc, hcells⟩ := own_cells h hn
  have hl : (Lib.join (q.words.map (·.data.toList)) (ByteArray.mk #[32]).data.toList).length ≤ 140737488355328 := by
    have h1 := line_len q
    have h2 := congrArg ByteArray.size (join_line q)
    have h3 : (ByteArray.mk (Lib.join (q.words.map (·.data.toList)) [32]).toArray).size = (Lib.join (q.words.map (·.data.toList)) [32]).length := by show Array.size _ = _; simp
    show (Lib.join (q.words.map (·.data.toList)) [32]).length ≤ _
    omega
  have hN : q.words.length ≤ 140737488355328 := by
    have := h.1
    have e := q.flags
    unfold Qy.words Qy.flags
    cases q.sf <;> cases q.bi <;> cases q.ch <;> simp
  exact (Try.strings_Join g 0 cap q.words ⟨#[32]⟩ w hcells hg hN hc hl).mono fun e w' ⟨h1, h2⟩ => ⟨by rw [h1]; exact congrArg (fun z => Ending.returned (Value.string z)) (join_line q), h2⟩


set_option maxHeartbeats 4000000 in
theorem fq6_yes_false (f t m r k : Int) (sf bi : Bool) (o : Int) (ch : Bool) (w : World) (hv : Qy.valid ⟨f, t, m, false, r, k, sf, bi, o, ch⟩ = true)
    (rf : inR f) (rt : inR t) (rm : inR m) (rr : inR r) (rk : inR k) (ro : inR o) :
    Calls Try.prog 6 #[.agg #[.int .i64 f, .int .i64 t, .int .i64 m, .bool false, .int .i64 r, .int .i64 k, .bool sf, .bool bi, .int .i64 o, .bool ch]] w fun e w' => e = .returned (.tuple #[.string (Qy.line ⟨f, t, m, false, r, k, sf, bi, o, ch⟩), .int .i64 0]) ∧ Below w.heap.size w w' := by
  have HV := Lib.hid hv
  clear hv
  obtain ⟨i0, hi, hz0, hz1, hz2⟩ := info_parts Try.info9
  go_enter Try.func6, Try.ntmps6
  go_upto_region 6 with (go_at_call 10; refine (valid10 _ _ _ _ _ _ _ _ _ _ _).mono ?_; rw [HV.out]; rintro e w1 ⟨rfl, hb⟩; have hS := startQ hb; clear hb)
  go_cut [5] (fun s5 wx => wx.ownsRow (w.heap.size + 1) 9 1 s5 7 ([decB f, decB t, decB m, dirB false, decB r, decB k, decB o].map Value.string) ∧ wx.cell? ⟨w.heap.size, 0, none⟩ = some (.int .i64 f) ∧ wx.cell? ⟨w.heap.size, 1, none⟩ = some (.int .i64 t) ∧ wx.cell? ⟨w.heap.size, 2, none⟩ = some (.int .i64 m) ∧ wx.cell? ⟨w.heap.size, 3, none⟩ = some (.bool false) ∧ wx.cell? ⟨w.heap.size, 4, none⟩ = some (.int .i64 r) ∧ wx.cell? ⟨w.heap.size, 5, none⟩ = some (.int .i64 k) ∧ wx.cell? ⟨w.heap.size, 6, none⟩ = some (.bool sf) ∧ wx.cell? ⟨w.heap.size, 7, none⟩ = some (.bool bi) ∧ wx.cell? ⟨w.heap.size, 8, none⟩ = some (.int .i64 o) ∧ wx.cell? ⟨w.heap.size, 9, none⟩ = some (.bool ch) ∧ w.heap.size + 1 ≤ wx.heap.size ∧ Below w.heap.size w wx)
  case first =>
    go_region_held3 (fun wx => wx.cell? ⟨w.heap.size, 0, none⟩ = some (.int .i64 f) ∧ wx.cell? ⟨w.heap.size, 1, none⟩ = some (.int .i64 t) ∧ wx.cell? ⟨w.heap.size, 2, none⟩ = some (.int .i64 m) ∧ wx.cell? ⟨w.heap.size, 3, none⟩ = some (.bool false) ∧ wx.cell? ⟨w.heap.size, 4, none⟩ = some (.int .i64 r) ∧ wx.cell? ⟨w.heap.size, 5, none⟩ = some (.int .i64 k) ∧ wx.cell? ⟨w.heap.size, 6, none⟩ = some (.bool sf) ∧ wx.cell? ⟨w.heap.size, 7, none⟩ = some (.bool bi) ∧ wx.cell? ⟨w.heap.size, 8, none⟩ = some (.int .i64 o) ∧ wx.cell? ⟨w.heap.size, 9, none⟩ = some (.bool ch) ∧ w.heap.size + 1 ≤ wx.heap.size ∧ Below w.heap.size w wx)
      (first | (exact keepQ (by assumption) (by assumption)) | (exact keepQA _ (by assumption)) | (exact keepQD (by assumption)) | go_keep)
      (first | (go_at_call 11; refine (format11 _ _ (inR_lo (by assumption)) (inR_hi (by assumption))).mono ?_; rintro e w' ⟨rfl, hb⟩))
    go_wp2_with fail
    go_meet
    rename_i hH
    exact ⟨own7 _ _ (later _ _ _ _ _ _ hH.1 hH.2.2.2.2.2.2.2.2.2.2.1) _ _ _ _ _ _ _, hH⟩
  case rest =>
    obtain ⟨hown, hS⟩ := hcut
    cases sf <;> cases bi <;> cases ch
    all_goals
      go_wp2_with (first
        | (at_builtin; refine wpList_append_own _ rfl _ _ 33 rfl (w.heap.size + 1) 9 i0 (.string ⟨#[]⟩) 1 16 Try.underlying33 hi hz0 hz1 hz2 rfl (by decide) _ _ _ rfl (hown.alloc _) _ 1 1 [.string _] rfl rfl (World.news_of_block (cs := #[.string _]) (heap_alloc_new _ _)) (one_str _) (by decide) (by decide) (leA hS.2.2.2.2.2.2.2.2.2.2.1) ?_; intro v2 w2 hown' hgrow _; replace hS := keepG _ hown hgrow hS; replace hown := hown'; clear hgrow hown')
        | (go_at_call 12; refine (join_own ⟨f, t, m, false, r, k, false, false, o, false⟩ (by exact hown) (by decide)).mono ?_; rintro e w' ⟨rfl, hb⟩)
        | (go_at_call 12; refine (join_own ⟨f, t, m, false, r, k, false, false, o, true⟩ (by exact hown) (by decide)).mono ?_; rintro e w' ⟨rfl, hb⟩)
        | (go_at_call 12; refine (join_own ⟨f, t, m, false, r, k, false, true, o, false⟩ (by exact hown) (by decide)).mono ?_; rintro e w' ⟨rfl, hb⟩)
        | (go_at_call 12; refine (join_own ⟨f, t, m, false, r, k, false, true, o, true⟩ (by exact hown) (by decide)).mono ?_; rintro e w' ⟨rfl, hb⟩)
        | (go_at_call 12; refine (join_own ⟨f, t, m, false, r, k, true, false, o, false⟩ (by exact hown) (by decide)).mono ?_; rintro e w' ⟨rfl, hb⟩)
        | (go_at_call 12; refine (join_own ⟨f, t, m, false, r, k, true, false, o, true⟩ (by exact hown) (by decide)).mono ?_; rintro e w' ⟨rfl, hb⟩)
        | (go_at_call 12; refine (join_own ⟨f, t, m, false, r, k, true, true, o, false⟩ (by exact hown) (by decide)).mono ?_; rintro e w' ⟨rfl, hb⟩)
        | (go_at_call 12; refine (join_own ⟨f, t, m, false, r, k, true, true, o, true⟩ (by exact hown) (by decide)).mono ?_; rintro e w' ⟨rfl, hb⟩))
      go_ret2
      exact ⟨rfl, hS.2.2.2.2.2.2.2.2.2.2.2.trans (hb.mono (by have := hS.2.2.2.2.2.2.2.2.2.2.1; omega))⟩

set_option maxHeartbeats 4000000 in
theorem fq6_yes_true (f t m r k : Int) (sf bi : Bool) (o : Int) (ch : Bool) (w : World) (hv : Qy.valid ⟨f, t, m, true, r, k, sf, bi, o, ch⟩ = true)
    (rf : inR f) (rt : inR t) (rm : inR m) (rr : inR r) (rk : inR k) (ro : inR o) :
    Calls Try.prog 6 #[.agg #[.int .i64 f, .int .i64 t, .int .i64 m, .bool true, .int .i64 r, .int .i64 k, .bool sf, .bool bi, .int .i64 o, .bool ch]] w fun e w' => e = .returned (.tuple #[.string (Qy.line ⟨f, t, m, true, r, k, sf, bi, o, ch⟩), .int .i64 0]) ∧ Below w.heap.size w w' := by
  have HV := Lib.hid hv
  clear hv
  obtain ⟨i0, hi, hz0, hz1, hz2⟩ := info_parts Try.info9
  go_enter Try.func6, Try.ntmps6
  go_upto_region 6 with (go_at_call 10; refine (valid10 _ _ _ _ _ _ _ _ _ _ _).mono ?_; rw [HV.out]; rintro e w1 ⟨rfl, hb⟩; have hS := startQ hb; clear hb)
  go_cut [5] (fun s5 wx => wx.ownsRow (w.heap.size + 1) 9 1 s5 7 ([decB f, decB t, decB m, dirB true, decB r, decB k, decB o].map Value.string) ∧ wx.cell? ⟨w.heap.size, 0, none⟩ = some (.int .i64 f) ∧ wx.cell? ⟨w.heap.size, 1, none⟩ = some (.int .i64 t) ∧ wx.cell? ⟨w.heap.size, 2, none⟩ = some (.int .i64 m) ∧ wx.cell? ⟨w.heap.size, 3, none⟩ = some (.bool true) ∧ wx.cell? ⟨w.heap.size, 4, none⟩ = some (.int .i64 r) ∧ wx.cell? ⟨w.heap.size, 5, none⟩ = some (.int .i64 k) ∧ wx.cell? ⟨w.heap.size, 6, none⟩ = some (.bool sf) ∧ wx.cell? ⟨w.heap.size, 7, none⟩ = some (.bool bi) ∧ wx.cell? ⟨w.heap.size, 8, none⟩ = some (.int .i64 o) ∧ wx.cell? ⟨w.heap.size, 9, none⟩ = some (.bool ch) ∧ w.heap.size + 1 ≤ wx.heap.size ∧ Below w.heap.size w wx)
  case first =>
    go_region_held3 (fun wx => wx.cell? ⟨w.heap.size, 0, none⟩ = some (.int .i64 f) ∧ wx.cell? ⟨w.heap.size, 1, none⟩ = some (.int .i64 t) ∧ wx.cell? ⟨w.heap.size, 2, none⟩ = some (.int .i64 m) ∧ wx.cell? ⟨w.heap.size, 3, none⟩ = some (.bool true) ∧ wx.cell? ⟨w.heap.size, 4, none⟩ = some (.int .i64 r) ∧ wx.cell? ⟨w.heap.size, 5, none⟩ = some (.int .i64 k) ∧ wx.cell? ⟨w.heap.size, 6, none⟩ = some (.bool sf) ∧ wx.cell? ⟨w.heap.size, 7, none⟩ = some (.bool bi) ∧ wx.cell? ⟨w.heap.size, 8, none⟩ = some (.int .i64 o) ∧ wx.cell? ⟨w.heap.size, 9, none⟩ = some (.bool ch) ∧ w.heap.size + 1 ≤ wx.heap.size ∧ Below w.heap.size w wx)
      (first | (exact keepQ (by assumption) (by assumption)) | (exact keepQA _ (by assumption)) | (exact keepQD (by assumption)) | go_keep)
      (first | (go_at_call 11; refine (format11 _ _ (inR_lo (by assumption)) (inR_hi (by assumption))).mono ?_; rintro e w' ⟨rfl, hb⟩))
    go_wp2_with fail
    go_meet
    rename_i hH
    exact ⟨own7 _ _ (later _ _ _ _ _ _ hH.1 hH.2.2.2.2.2.2.2.2.2.2.1) _ _ _ _ _ _ _, hH⟩
  case rest =>
    obtain ⟨hown, hS⟩ := hcut
    cases sf <;> cases bi <;> cases ch
    all_goals
      go_wp2_with (first
        | (at_builtin; refine wpList_append_own _ rfl _ _ 33 rfl (w.heap.size + 1) 9 i0 (.string ⟨#[]⟩) 1 16 Try.underlying33 hi hz0 hz1 hz2 rfl (by decide) _ _ _ rfl (hown.alloc _) _ 1 1 [.string _] rfl rfl (World.news_of_block (cs := #[.string _]) (heap_alloc_new _ _)) (one_str _) (by decide) (by decide) (leA hS.2.2.2.2.2.2.2.2.2.2.1) ?_; intro v2 w2 hown' hgrow _; replace hS := keepG _ hown hgrow hS; replace hown := hown'; clear hgrow hown')
        | (go_at_call 12; refine (join_own ⟨f, t, m, true, r, k, false, false, o, false⟩ (by exact hown) (by decide)).mono ?_; rintro e w' ⟨rfl, hb⟩)
        | (go_at_call 12; refine (join_own ⟨f, t, m, true, r, k, false, false, o, true⟩ (by exact hown) (by decide)).mono ?_; rintro e w' ⟨rfl, hb⟩)
        | (go_at_call 12; refine (join_own ⟨f, t, m, true, r, k, false, true, o, false⟩ (by exact hown) (by decide)).mono ?_; rintro e w' ⟨rfl, hb⟩)
        | (go_at_call 12; refine (join_own ⟨f, t, m, true, r, k, false, true, o, true⟩ (by exact hown) (by decide)).mono ?_; rintro e w' ⟨rfl, hb⟩)
        | (go_at_call 12; refine (join_own ⟨f, t, m, true, r, k, true, false, o, false⟩ (by exact hown) (by decide)).mono ?_; rintro e w' ⟨rfl, hb⟩)
        | (go_at_call 12; refine (join_own ⟨f, t, m, true, r, k, true, false, o, true⟩ (by exact hown) (by decide)).mono ?_; rintro e w' ⟨rfl, hb⟩)
        | (go_at_call 12; refine (join_own ⟨f, t, m, true, r, k, true, true, o, false⟩ (by exact hown) (by decide)).mono ?_; rintro e w' ⟨rfl, hb⟩)
        | (go_at_call 12; refine (join_own ⟨f, t, m, true, r, k, true, true, o, true⟩ (by exact hown) (by decide)).mono ?_; rintro e w' ⟨rfl, hb⟩))
      go_ret2
      exact ⟨rfl, hS.2.2.2.2.2.2.2.2.2.2.2.trans (hb.mono (by have := hS.2.2.2.2.2.2.2.2.2.2.1; omega))⟩
end Go.Proofs
