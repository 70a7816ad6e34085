/-
  A part of the proof: lemmas of my own.
-/
import Derived.Test.YtamocmgfbonodaaGreatTp
import Derived.RangeFuncBox
import Derived.Maps.AppendAt
import Derived.Deep.AppendLies
set_option linter.unusedVariables false
set_option linter.unusedSimpArgs false
namespace Go.Proofs.Tt
open Go Go.Proofs
open Go.RowKit Go.Maps Go.Shelf
set_option maxRecDepth 1000000
attribute [local go_sem] Oper.semAt_some

def colP (out : List Wn) (x : Wn) : List Wn := if out.getLast? = some x then out else out ++ [x]
def colL (out : List Wn) (xs : List Wn) : List Wn := xs.foldl colP out
theorem colL_snoc (out pre : List Wn) (x : Wn) : colL out (pre ++ [x]) = colP (colL out pre) x := by simp [colL]
def rowW (x : Wn) : List Value := [.int .i64 x.1, .int .i64 x.2.1, .int .i64 x.2.2]
def rowsW (l : List Wn) : List Value := l.flatMap rowW
theorem colL_len (out : List Wn) : ∀ xs, (colL out xs).length ≤ out.length + xs.length := by
  intro xs
  induction xs generalizing out with
  | nil => simp [colL]
  | cons x xs ih =>
    have h1 := ih (colP out x)
    have h2 : (colP out x).length ≤ out.length + 1 := by unfold colP; split <;> simp
    show (colL (colP out x) xs).length ≤ _
    simp only [List.length_cons]
    omega
theorem infoW : (Tryz.prog.info? 70).map (fun i => (i.zero, i.size, i.bytes)) = some (some (.agg #[.int .i64 0, .int .i64 0, .int .i64 0]), 3, 24) := by kernel_rfl
/-- a warning in a box of its own -/
def BoxW (W : World) (B : Nat) (x : Wn) : Prop := W.heap[B]? = some (Obj.cells #[.int .i64 x.1, .int .i64 x.2.1, .int .i64 x.2.2] 70 (0, 0))
theorem ownFrom_KB {β : Type} {O Bi : Nat} {w : World} (h : Bi ≤ w.heap.size) : OwnFrom (β := β) w.heap.size (fun _ W => KB O Bi w W) := fun _ A B row hs hg hr =>
  hs.trans ⟨hg.os, hg.tape, hg.output, hg.size, fun b h1 _ => hg.block b (by have := hs.size; omega) (fun e => by have := (hr b e.symm).1; omega)⟩
theorem ownFrom_box {n B : Nat} {x : Wn} {p : Prop} : OwnFrom (β := Unit) n (fun _ W => BoxW W B x ∧ p) := fun _ A C row hs hg hr =>
  ⟨(hg.block B (Array.getElem?_eq_some_iff.1 hs.1).1 (fun e => by obtain ⟨_, o, ho, hc⟩ := hr B e.symm; rw [show A.heap[B]? = _ from hs.1] at ho; cases ho; cases hc)).trans hs.1, hs.2⟩

theorem appW {W w1 : World} {Bi O : Nat} {t e : TypeId} {size : Nat} {v v' : Value} {k m : Nat} {xs ys : List Value} {tmp : Obj}
    (hv : Boxed W O t v) (hte : t ≠ e) (h1 : t ≠ 43) (h2 : e ≠ 43) (hrow : W.ownsRow Bi e size v k xs) (hBi : Bi ≤ W.heap.size)
    (hown' : w1.ownsRow Bi e size v' m ys) (hgrow : (W.alloc tmp).grownBy w1 v.ownBlock) :
    Boxed w1 O t v ∧ Boxed (w1.setCell ⟨O, 0, none⟩ v') O t v' ∧ (w1.setCell ⟨O, 0, none⟩ v').ownsRow Bi e size v' m ys ∧ KeepsOthers W (w1.setCell ⟨O, 0, none⟩ v') ∧ KT O Bi W (w1.setCell ⟨O, 0, none⟩ v') := by
  have hv1 : Boxed w1 O t v := (hv.alloc tmp).kept hgrow (hv.not_row hte hrow)
  have hset := grownBy_setCell' w1 O v'
  have hsz := hgrow.size
  have key : ∀ b, b < W.heap.size → b ≠ O → some b ≠ v.ownBlock → (w1.setCell ⟨O, 0, none⟩ v').heap[b]? = W.heap[b]? := fun b hb h3 h4 =>
    ((hset.block b (by simp at hsz; omega) (by simp [h3])).trans (hgrow.block b (by simp; omega) h4)).trans (heap_alloc_old _ _ hb)
  refine ⟨hv1, hv1.set v', hown'.kept hset (.inr (hv1.not_row hte hown').symm), ?_, ⟨hset.os.trans hgrow.os, hset.tape.trans hgrow.tape, hset.output.trans hgrow.output, by have := hset.size; simp at hsz; omega, fun b hb h3 => key b (by omega) h3 (fun h4 => ?_)⟩, fun b cs fr hb => ?_⟩
  · refine ((KeepsOthers.alloc W tmp).trans (KeepsOthers.of_grownBy hgrow fun j o ej hj => ?_)).trans (KeepsOthers.setCell _ _ _)
    rcases (hrow.alloc tmp).2 with ⟨rfl, _⟩ | ⟨g, cap, cur, rfl, _, hgb, _⟩
    · simp [Value.ownBlock] at ej
    · obtain rfl : g = j := by simpa [Value.ownBlock] using ej
      rw [hgb] at hj; cases hj; rfl
  · have := (hrow.lt b h4.symm).1; omega
  · rw [key b (Array.getElem?_eq_some_iff.1 hb).1 (by rintro rfl; rw [show W.heap[b]? = _ from hv] at hb; cases hb; exact h1 rfl) (fun h4 => by
      rcases hrow.2 with ⟨rfl, _⟩ | ⟨g, cap, cur, rfl, _, hgb, _⟩
      · simp [Value.ownBlock] at h4
      · obtain rfl : b = g := by simpa [Value.ownBlock] using h4
        rw [hgb] at hb; cases hb; exact h2 rfl)]
    exact hb
theorem news3 (w : World) (x y z : Value) (T : TypeId) : ∀ j u, [x, y, z][j]? = some u → (w.alloc (Obj.cells #[x, y, z] T)).cell? ((⟨w.heap.size, 0, none⟩ : Addr).add j) = some u := World.news_of_block (cs := #[x, y, z]) (heap_alloc_new _ _)
theorem rowsW_snoc (l : List Wn) (x : Wn) : rowsW (l ++ [x]) = rowsW l ++ rowW x := by simp [rowsW]
theorem rowsW_get : ∀ (l : List Wn) (i : Nat) (s : Wn) (j : Nat) (v : Value), l[i]? = some s → (rowW s)[j]? = some v → (rowsW l)[i * 3 + j]? = some v
  | c :: l, 0, s, j, v, h, hj => by
    simp at h; subst h
    have hl : j < (rowW c).length := (List.getElem?_eq_some_iff.1 hj).1
    show (rowW c ++ rowsW l)[0 * 3 + j]? = _
    rw [Nat.zero_mul, Nat.zero_add, List.getElem?_append_left hl]; exact hj
  | c :: l, i + 1, s, j, v, h, hj => by
    show (rowW c ++ rowsW l)[(i + 1) * 3 + j]? = _
    have hl : (rowW c).length = 3 := rfl
    rw [List.getElem?_append_right (by rw [hl]; omega), hl, show (i + 1) * 3 + j - 3 = i * 3 + j by omega]
    exact rowsW_get l i s j v (by simpa using h) hj
theorem addr_add (g j : Nat) : (⟨g, 0, none⟩ : Addr).add j = ⟨g, j, none⟩ := by unfold Addr.add; split <;> simp_all
set_option maxHeartbeats 3200000 in
theorem war40 (n : Nat) (hn : 6 ≤ n) (gf : Nat) (lb : Array Value) (O Bi N : Nat) (xs out : List Wn) (w : World) (v : Value)
    (eg : ∀ args w, (callFunc gf args).run Tryz.prog w = .ok (.enter gf args) w)
    (hseq : SeqStopsK Fence.wide (n - 1) Tryz.prog gf lb encW (KT O Bi) (fun ys => ys = xs) (fun pre => pre <+: xs) N w)
    (hO : Boxed w O 67 v) (hrow : w.ownsRow Bi 70 3 v out.length (rowsW out)) (hOB : O < Bi) (hBi : Bi ≤ w.heap.size) (hN : out.length + N < 100000) :
    CallsIn Fence.wide n Tryz.prog 40 #[.func (.func gf) #[] lb, .pointer (some ⟨O, 0, none⟩)] w fun e W' => (∃ u, e = .returned u) ∧ ∃ v', Boxed W' O 67 v' ∧ W'.ownsRow Bi 70 3 v' (colL out xs).length (rowsW (colL out xs)) ∧ KB O Bi w W' := by
  have h1 : 1 ≤ n := by omega
  obtain ⟨i0, hi, hz0, hz1, hz2⟩ := info_parts infoW
  have HI := Lib.hid (And.intro hi (And.intro hz0 (And.intro hz1 hz2)))
  clear hi hz0 hz1 hz2
  refine callsIn_of_wp_marks Tryz.func40 rfl trivial ?_ rfl
  simp only [Tryz.ntmps40, List.size_toArray, List.length_cons, List.length_nil, Nat.reduceAdd, Nat.reduceSub, Array.replicate_succ, Array.replicate_zero, List.push_toArray, List.append_toArray, List.nil_append, List.cons_append]
  gi_wp2
  refine wpIn_rangeFunc_ownH rfl h1 (gf := gf) (lb := lb) rfl trivial eg hseq (fun h k => h.trans k) (KT.bk hBi) (Below.refl _ _) (fun _ => rfl)
    (fun pre W => (∃ v, Boxed W O 67 v ∧ W.ownsRow Bi 70 3 v (colL out pre).length (rowsW (colL out pre)) ∧ True) ∧ KB O Bi w W)
    (fun _ _ _ => False)
    (OwnFrom.and (Own.from (holdsRow_own Bi O 67 70 3 (fun pre => (colL out pre).length) (fun pre => rowsW (colL out pre)) (fun _ _ => True)) _) (ownFrom_KB hBi))
    (fun _ _ _ _ _ hs _ _ => hs)
    ⟨⟨v, hO, hrow, trivial⟩, KB.refl _ _ _⟩
    (fun x a' W => ∃ Bx, BoxW W Bx x ∧ a' = { tmps := #[.func (.func gf) #[] lb, .pointer (some ⟨O, 0, none⟩), undef, .pointer (some ⟨Bx, 0, none⟩), .func (.func gf) #[] lb, .agg #[.int .i64 x.1, .int .i64 x.2.1, .int .i64 x.2.2], undef, undef, undef, undef, undef, undef, undef, undef, undef, undef, undef, undef, undef, undef, undef, undef, undef], defers := [] })
    (fun x a' => fun s A C row hs hg hr => by obtain ⟨Bx, hb⟩ := hs; exact ⟨Bx, ownFrom_box s A C row hb hg hr⟩) ?assign ?body ?done ?stop
  case assign =>
    rintro l pre x W K ⟨⟨v, hv, hrow, -⟩, hkb⟩ hK
    have HK := Lib.hid hK
    have HV := Lib.hid (And.intro hv (And.intro hrow hkb))
    clear hK hv hrow hkb
    dsimp only [encW]
    gi_wp2
    obtain ⟨hv, hrow, hkb⟩ := HV.out
    have hs : Bi ≤ W.heap.size := Nat.le_trans hBi hkb.size
    exact HK.out _ _ ((KeepsOthers.alloc _ _).from _) (KT.of hs (blA (bl0 _) _)) ⟨⟨v, hv.alloc _, hrow.alloc _, trivial⟩, hkb.trans (KB.of hs (blA (bl0 _) _))⟩ ⟨W.heap.size, heapNew _ _, rfl⟩
  case body =>
    rintro l pre x a' W hl hrec ⟨⟨v, hv, hrow, -⟩, hkb⟩ ⟨Bx, hbx, rfl⟩ hlt
    obtain ⟨out', hout⟩ : ∃ o, colL out pre = o := ⟨_, rfl⟩
    have hsn : colL out (pre ++ [x]) = colP out' x := by rw [colL_snoc, hout]
    have hlen : out'.length < 100000 := by rw [← hout]; have := colL_len out pre; omega
    simp only [hout] at hv hrow
    have HSN := Lib.hid hsn
    have HKB := Lib.hid hkb
    have hs : Bi ≤ W.heap.size := Nat.le_trans hBi hkb.size
    have hvc := hv.cell
    have hvf := hv.frozen
    have hx := hbx
    obtain ⟨k1, k2, k3⟩ := x
    have x0 : W.cell? ⟨Bx, 0, none⟩ = some (.int .i64 k1) := by simp [World.cell?, show W.heap[Bx]? = _ from hbx]
    have x1 : W.cell? ⟨Bx, 1, none⟩ = some (.int .i64 k2) := by simp [World.cell?, show W.heap[Bx]? = _ from hbx]
    have x2 : W.cell? ⟨Bx, 2, none⟩ = some (.int .i64 k3) := by simp [World.cell?, show W.heap[Bx]? = _ from hbx]
    have HV := Lib.hid (And.intro hv hrow)
    clear hv hout hsn hkb hx hbx
    by_cases h0 : out'.length = 0
    · have ho : out' = [] := List.eq_nil_of_length_eq_zero h0
      obtain ⟨a, c, hvs⟩ : ∃ a c, v = .slice a 0 c := by
        rcases hrow.2 with ⟨h, _⟩ | ⟨g, cap, cur, h, _⟩
        · exact ⟨_, _, h⟩
        · rw [h0] at h; exact ⟨_, _, h⟩
      have HO := Lib.hid ho
      clear hrow ho h0
      subst hvs
      have hmix : Tryz.prog.follows .mixedOrders = true := by kernel_rfl
      gi_wp2
      refine Code.wpIn_mono (Q := fun e a' w' => e = Exit.normal ∧ a' = { tmps := #[.func (.func gf) #[] lb, .pointer (some ⟨O, 0, none⟩), undef, .pointer (some ⟨Bx, 0, none⟩), .func (.func gf) #[] lb, .agg #[.int .i64 k1, .int .i64 k2, .int .i64 k3], .slice a 0 c, .int .i64 0, .bool true, .bool true, undef, undef, undef, undef, undef, undef, undef, undef, .bool true, undef, undef, undef, undef], defers := [] } ∧ w' = W.drew) ?_ ?_
      · rintro e a' w' ⟨rfl, rfl, rfl⟩
        have hrow0 : W.drew.ownsRow Bi 70 3 (.slice a 0 c) 0 [] := by have := HV.out.2; rw [HO.out] at this; exact this
        have hv0 : Boxed W.drew O 67 (.slice a 0 c) := HV.out.1
        have HR0 := Lib.hid (And.intro hrow0 hv0)
        clear hrow0 hv0
        gi_wp2_with (gi_at_builtin; refine wpListIn_append_own _ rfl _ _ 67 rfl Bi 70 i0 _ 3 24 Tryz.underlying67 HI.out.1 HI.out.2.1 HI.out.2.2.1 HI.out.2.2.2 rfl (by decide) _ _ _ rfl (HR0.out.1.alloc _) ⟨W.heap.size, 0, none⟩ 1 1 [.int .i64 k1, .int .i64 k2, .int .i64 k3] rfl rfl (news3 W.drew _ _ _ _) (by simp [Value.oneCell']) (by unfold maxLen; omega) (by omega) (by simp; omega) ?_; intro v' w1 hown' hgrow _; obtain ⟨g', cap', rfl⟩ := ownsRow_succ hown'; obtain ⟨hv1, hv2, hr2, hk2, hb2⟩ := appW HR0.out.2 (by decide) (by decide) (by decide) HR0.out.1 (by show Bi ≤ W.heap.size; exact hs) hown' hgrow; have hc1 := hv1.cell; have hf1 := hv1.frozen)
        have HT := (KT.of hs (blD (bl0 _))).trans hb2
        exact ⟨((KeepsOthers.drew W).trans hk2).from _, HT, ⟨_, hv2, by rw [HSN.out, HO.out]; simpa [colP, rowsW, rowW] using hr2, trivial⟩, HKB.out.trans HT.1⟩
      · gi_region_with_o (fail)
        all_goals exact ⟨rfl, rfl, rfl⟩
    · obtain ⟨m, hm⟩ : ∃ m, out'.length = m + 1 := ⟨out'.length - 1, by omega⟩
      rw [hm] at hrow
      obtain ⟨g, cap, rfl⟩ := ownsRow_succ hrow
      obtain ⟨y, hy⟩ : ∃ y, out'[m]? = some y := ⟨_, List.getElem?_eq_getElem (by omega)⟩
      have hyl : out'.getLast? = some y := by rw [List.getLast?_eq_getElem?, hm]; exact hy
      have hrc := fun j u hj => hrow.cells (g := g) rfl (m * 3 + j) u (rowsW_get out' m y j u hy hj)
      have y0 : W.cell? ⟨g, m * 3, none⟩ = some (.int .i64 y.1) := by have := hrc 0 _ rfl; rwa [addr_add] at this
      have y1 : W.cell? ⟨g, m * 3 + 1, none⟩ = some (.int .i64 y.2.1) := by have := hrc 1 _ rfl; rwa [addr_add] at this
      have y2 : W.cell? ⟨g, m * 3 + 2, none⟩ = some (.int .i64 y.2.2) := by have := hrc 2 _ rfl; rwa [addr_add] at this
      have HO := Lib.hid (And.intro hyl hm)
      have hmix : Tryz.prog.follows .mixedOrders = true := by kernel_rfl
      obtain ⟨L, hL⟩ : ∃ L, m + 1 = L := ⟨_, rfl⟩
      rw [hL] at HV hrow hvc
      have wr1 : IntKind.i64.wrap ((L : Int) - 1) = (m : Int) := by simp only [IntKind.wrap, IntKind.signed, IntKind.bits]; simp; omega
      have m1 : m < L := by omega
      have m2 : (m : Int) < (L : Int) := by omega
      have m3 : L < 100001 := by omega
      have m4 : ((L : Int) == 0) = false := by simp; omega
      have m5 : ¬ (L : Int) = 0 := by omega
      have HL := Lib.hid hL
      obtain ⟨l1, l2, l3⟩ := y
      simp only at y0 y1 y2
      clear hrow hy hyl hrc hm h0 hlen hL
      have HR2 := Lib.hid (show W.ownsRow Bi 70 3 (.slice (some ⟨g, 0, none⟩) L cap) L (rowsW out') by have := HV.out.2; rw [HO.out.2, HL.out] at this; exact this)
      have hways : (l1 = k1 ∧ l2 = k2 ∧ l3 = k3) ∨ (¬ l1 = k1) ∨ (l1 = k1 ∧ ¬ l2 = k2) ∨ (l1 = k1 ∧ l2 = k2 ∧ ¬ l3 = k3) := by omega
      rcases hways with ⟨rfl, rfl, rfl⟩ | z1 | ⟨rfl, z1⟩ | ⟨rfl, rfl, z1⟩
      · gi_wp2
        refine Code.wpIn_mono (Q := fun e a' w' => e = Exit.normal ∧ a' = { tmps := #[.func (.func gf) #[] lb, .pointer (some ⟨O, 0, none⟩), undef, .pointer (some ⟨Bx, 0, none⟩), .func (.func gf) #[] lb, .agg #[.int .i64 l1, .int .i64 l2, .int .i64 l3], .slice (some ⟨g, 0, none⟩) L cap, .int .i64 L, .bool false, .bool false, .slice (some ⟨g, 0, none⟩) L cap, .slice (some ⟨g, 0, none⟩) L cap, .int .i64 L, .int .i64 m, .pointer (some ⟨g, m * 3, none⟩), .agg #[.int .i64 l1, .int .i64 l2, .int .i64 l3], .agg #[.int .i64 l1, .int .i64 l2, .int .i64 l3], .bool false, .bool false, undef, undef, undef, undef], defers := [] } ∧ w' = W.drew) ?_ ?_
        · rintro e a' w' ⟨rfl, rfl, rfl⟩
          clear y0 y1 y2
          gi_wp2
          exact ⟨(KeepsOthers.drew W).from _, KT.of hs (blD (bl0 _)), ⟨_, HV.out.1, by rw [HSN.out]; unfold colP; rw [HO.out.1, if_pos rfl]; exact HV.out.2, trivial⟩, HKB.out.trans (KB.of hs (blD (bl0 _)))⟩
        · gi_region_with_o (fail)
          all_goals exact ⟨rfl, rfl, rfl⟩
      · have hne : (l1, l2, l3) ≠ (k1, k2, k3) := fun h => z1 (by cases h; rfl)
        have HD := Lib.hid (show (l1, l2, l3) ≠ (k1, k2, k3) from hne)
        clear hne
        gi_wp2
        refine Code.wpIn_mono (Q := fun e a' w' => e = Exit.normal ∧ a' = { tmps := #[.func (.func gf) #[] lb, .pointer (some ⟨O, 0, none⟩), undef, .pointer (some ⟨Bx, 0, none⟩), .func (.func gf) #[] lb, .agg #[.int .i64 k1, .int .i64 k2, .int .i64 k3], .slice (some ⟨g, 0, none⟩) L cap, .int .i64 L, .bool false, .bool false, .slice (some ⟨g, 0, none⟩) L cap, .slice (some ⟨g, 0, none⟩) L cap, .int .i64 L, .int .i64 m, .pointer (some ⟨g, m * 3, none⟩), .agg #[.int .i64 l1, .int .i64 l2, .int .i64 l3], .agg #[.int .i64 k1, .int .i64 k2, .int .i64 k3], .bool true, .bool true, undef, undef, undef, undef], defers := [] } ∧ w' = W.drew) ?_ ?_
        · rintro e a' w' ⟨rfl, rfl, rfl⟩
          clear z1 y0 y1 y2
          have hrow0 : W.drew.ownsRow Bi 70 3 (.slice (some ⟨g, 0, none⟩) L cap) L (rowsW out') := HR2.out
          have hv0 : Boxed W.drew O 67 (.slice (some ⟨g, 0, none⟩) L cap) := HV.out.1
          have HR0 := Lib.hid (And.intro hrow0 hv0)
          clear hrow0 hv0
          gi_wp2_with (gi_at_builtin; refine wpListIn_append_own _ rfl _ _ 67 rfl Bi 70 i0 _ 3 24 Tryz.underlying67 HI.out.1 HI.out.2.1 HI.out.2.2.1 HI.out.2.2.2 rfl (by decide) _ _ _ rfl (HR0.out.1.alloc _) ⟨W.heap.size, 0, none⟩ 1 1 [.int .i64 k1, .int .i64 k2, .int .i64 k3] rfl rfl (news3 W.drew _ _ _ _) (by simp [Value.oneCell']) (by unfold maxLen; omega) (by omega) (by simp; omega) ?_; intro v' w1 hown' hgrow _; obtain ⟨g', cap', rfl⟩ := ownsRow_succ hown'; obtain ⟨hv1, hv2, hr2, hk2, hb2⟩ := appW HR0.out.2 (by decide) (by decide) (by decide) HR0.out.1 (by show Bi ≤ W.heap.size; exact hs) hown' hgrow; have hc1 := hv1.cell; have hf1 := hv1.frozen)
          have HT := (KT.of hs (blD (bl0 _))).trans hb2
          exact ⟨((KeepsOthers.drew W).trans hk2).from _, HT, ⟨_, hv2, by rw [HSN.out]; unfold colP; rw [HO.out.1, if_neg (by intro h; exact HD.out (Option.some.inj h)), rowsW_snoc, List.length_append, HO.out.2, HL.out]; exact hr2, trivial⟩, HKB.out.trans HT.1⟩
        · gi_region_with_o (fail)
          all_goals exact ⟨rfl, rfl, rfl⟩
      · have hne : (l1, l2, l3) ≠ (l1, k2, k3) := fun h => z1 (by cases h; rfl)
        have HD := Lib.hid (show (l1, l2, l3) ≠ (l1, k2, k3) from hne)
        clear hne
        gi_wp2
        refine Code.wpIn_mono (Q := fun e a' w' => e = Exit.normal ∧ a' = { tmps := #[.func (.func gf) #[] lb, .pointer (some ⟨O, 0, none⟩), undef, .pointer (some ⟨Bx, 0, none⟩), .func (.func gf) #[] lb, .agg #[.int .i64 l1, .int .i64 k2, .int .i64 k3], .slice (some ⟨g, 0, none⟩) L cap, .int .i64 L, .bool false, .bool false, .slice (some ⟨g, 0, none⟩) L cap, .slice (some ⟨g, 0, none⟩) L cap, .int .i64 L, .int .i64 m, .pointer (some ⟨g, m * 3, none⟩), .agg #[.int .i64 l1, .int .i64 l2, .int .i64 l3], .agg #[.int .i64 l1, .int .i64 k2, .int .i64 k3], .bool true, .bool true, undef, undef, undef, undef], defers := [] } ∧ w' = W.drew) ?_ ?_
        · rintro e a' w' ⟨rfl, rfl, rfl⟩
          clear z1 y0 y1 y2
          have hrow0 : W.drew.ownsRow Bi 70 3 (.slice (some ⟨g, 0, none⟩) L cap) L (rowsW out') := HR2.out
          have hv0 : Boxed W.drew O 67 (.slice (some ⟨g, 0, none⟩) L cap) := HV.out.1
          have HR0 := Lib.hid (And.intro hrow0 hv0)
          clear hrow0 hv0
          gi_wp2_with (gi_at_builtin; refine wpListIn_append_own _ rfl _ _ 67 rfl Bi 70 i0 _ 3 24 Tryz.underlying67 HI.out.1 HI.out.2.1 HI.out.2.2.1 HI.out.2.2.2 rfl (by decide) _ _ _ rfl (HR0.out.1.alloc _) ⟨W.heap.size, 0, none⟩ 1 1 [.int .i64 l1, .int .i64 k2, .int .i64 k3] rfl rfl (news3 W.drew _ _ _ _) (by simp [Value.oneCell']) (by unfold maxLen; omega) (by omega) (by simp; omega) ?_; intro v' w1 hown' hgrow _; obtain ⟨g', cap', rfl⟩ := ownsRow_succ hown'; obtain ⟨hv1, hv2, hr2, hk2, hb2⟩ := appW HR0.out.2 (by decide) (by decide) (by decide) HR0.out.1 (by show Bi ≤ W.heap.size; exact hs) hown' hgrow; have hc1 := hv1.cell; have hf1 := hv1.frozen)
          have HT := (KT.of hs (blD (bl0 _))).trans hb2
          exact ⟨((KeepsOthers.drew W).trans hk2).from _, HT, ⟨_, hv2, by rw [HSN.out]; unfold colP; rw [HO.out.1, if_neg (by intro h; exact HD.out (Option.some.inj h)), rowsW_snoc, List.length_append, HO.out.2, HL.out]; exact hr2, trivial⟩, HKB.out.trans HT.1⟩
        · gi_region_with_o (fail)
          all_goals exact ⟨rfl, rfl, rfl⟩
      · have hne : (l1, l2, l3) ≠ (l1, l2, k3) := fun h => z1 (by cases h; rfl)
        have HD := Lib.hid (show (l1, l2, l3) ≠ (l1, l2, k3) from hne)
        clear hne
        gi_wp2
        refine Code.wpIn_mono (Q := fun e a' w' => e = Exit.normal ∧ a' = { tmps := #[.func (.func gf) #[] lb, .pointer (some ⟨O, 0, none⟩), undef, .pointer (some ⟨Bx, 0, none⟩), .func (.func gf) #[] lb, .agg #[.int .i64 l1, .int .i64 l2, .int .i64 k3], .slice (some ⟨g, 0, none⟩) L cap, .int .i64 L, .bool false, .bool false, .slice (some ⟨g, 0, none⟩) L cap, .slice (some ⟨g, 0, none⟩) L cap, .int .i64 L, .int .i64 m, .pointer (some ⟨g, m * 3, none⟩), .agg #[.int .i64 l1, .int .i64 l2, .int .i64 l3], .agg #[.int .i64 l1, .int .i64 l2, .int .i64 k3], .bool true, .bool true, undef, undef, undef, undef], defers := [] } ∧ w' = W.drew) ?_ ?_
        · rintro e a' w' ⟨rfl, rfl, rfl⟩
          clear z1 y0 y1 y2
          have hrow0 : W.drew.ownsRow Bi 70 3 (.slice (some ⟨g, 0, none⟩) L cap) L (rowsW out') := HR2.out
          have hv0 : Boxed W.drew O 67 (.slice (some ⟨g, 0, none⟩) L cap) := HV.out.1
          have HR0 := Lib.hid (And.intro hrow0 hv0)
          clear hrow0 hv0
          gi_wp2_with (gi_at_builtin; refine wpListIn_append_own _ rfl _ _ 67 rfl Bi 70 i0 _ 3 24 Tryz.underlying67 HI.out.1 HI.out.2.1 HI.out.2.2.1 HI.out.2.2.2 rfl (by decide) _ _ _ rfl (HR0.out.1.alloc _) ⟨W.heap.size, 0, none⟩ 1 1 [.int .i64 l1, .int .i64 l2, .int .i64 k3] rfl rfl (news3 W.drew _ _ _ _) (by simp [Value.oneCell']) (by unfold maxLen; omega) (by omega) (by simp; omega) ?_; intro v' w1 hown' hgrow _; obtain ⟨g', cap', rfl⟩ := ownsRow_succ hown'; obtain ⟨hv1, hv2, hr2, hl2, hb2⟩ := appW HR0.out.2 (by decide) (by decide) (by decide) HR0.out.1 (by show Bi ≤ W.heap.size; exact hs) hown' hgrow; have hc1 := hv1.cell; have hf1 := hv1.frozen)
          have HT := (KT.of hs (blD (bl0 _))).trans hb2
          exact ⟨((KeepsOthers.drew W).trans hl2).from _, HT, ⟨_, hv2, by rw [HSN.out]; unfold colP; rw [HO.out.1, if_neg (by intro h; exact HD.out (Option.some.inj h)), rowsW_snoc, List.length_append, HO.out.2, HL.out]; exact hr2, trivial⟩, HKB.out.trans HT.1⟩
        · gi_region_with_o (fail)
          all_goals exact ⟨rfl, rfl, rfl⟩
  case done =>
    rintro D ys W hD rfl ⟨⟨v, hv, hrow, -⟩, hkb⟩ hK
    gi_wp2
    have hDO : O ≠ D := by omega
    refine ⟨by simp, .inl ⟨_, _, rfl, run_takeDeferred hK, ?_⟩⟩
    have hg := grownBy_putObj' W D (Obj.deferred none)
    exact ⟨_, results_none rfl _ _ _, ⟨_, rfl⟩, v, hv.kept hg (by simp; omega), ownsRow_putObj hrow _ hK rfl, hkb.trans ⟨hg.os, hg.tape, hg.output, hg.size, fun b h1 _ => hg.block b (by have := hkb.size; omega) (by simp; omega)⟩⟩
  case stop =>
    rintro D c pre W _ _ h _
    exact h.elim
end Go.Proofs.Tt

namespace Go.Proofs.Tt
open Go Go.Proofs
open Go.RowKit Go.Maps Go.Shelf
set_option maxRecDepth 1000000

/-- u gives xs one by one, in every world that keeps what lay in W but O -/
def IterOK (W : World) (O : Nat) (u : Value) (xs : List Wn) (N : Nat) : Prop := ∃ gf lb, u = .func (.func gf) #[] lb ∧ (∀ args w, (callFunc gf args).run Tryz.prog w = .ok (.enter gf args) w) ∧
  ∀ n Bi W', 1 ≤ n → W.heap.size ≤ Bi → KB O Bi W W' → Bi ≤ W'.heap.size → SeqStopsK Fence.wide n Tryz.prog gf lb encW (KT O Bi) (fun ys => ys = xs) (fun pre => pre <+: xs) N W'
theorem box_ne {W : World} {O b : Nat} {T : TypeId} {v u : Value} (hO : Boxed W O T v) (hb : W.cell? ⟨b, 0, none⟩ = some u) (h : u ≠ v) : b ≠ O := by
  rintro rfl
  rw [hO.cell] at hb
  cases hb
  exact h rfl
theorem mapI_ne {W : World} {O b c : Nat} {T : TypeId} {v : Value} {F : Int → Bool} (hO : Boxed W O T v) (hm : MapI W b c F) : b ≠ O := by
  rintro rfl
  obtain ⟨D, ⟨es, clock, h1, h2⟩, h3⟩ := hm
  rw [show W.heap[b]? = _ from hO] at h1
  cases h1
theorem iter_mis {W : World} {O N : Nat} {a : Option Addr} {k c : Nat} {T : TypeId} {u : Value} {kind : Int} {F : Int → Bool} (hO : Boxed W O T (.slice a k c)) (h : MissV W u kind (N : Int) F) (hN : N < 1000000) : IterOK W O u (misL kind F N) N := by
  obtain ⟨bn, bu, bk, mb, cc, rfl, h2, h3, h4, h5⟩ := h
  have e1 := box_ne hO h2 (by simp)
  have e2 := box_ne hO h3 (by simp)
  have e3 := box_ne hO h4 (by simp)
  have e4 := mapI_ne hO h5
  have l1 : bn < W.heap.size := World.block_lt_of_cell? _ _ h2
  have l2 : bu < W.heap.size := World.block_lt_of_cell? _ _ h3
  have l3 : bk < W.heap.size := World.block_lt_of_cell? _ _ h4
  have l4 := h5.lt
  exact ⟨_, _, rfl, enters_of Tryz.func87 (by kernel_rfl) rfl, fun n Bi W' hn hB hk hBW => mis_stopsT Fence.wide n trivial rfl hn O Bi bn bu bk mb cc N kind F W' (hk.cell (by omega) e1 h2) (hk.cell (by omega) e2 h3) (hk.cell (by omega) e3 h4) (h5.at (hk.block _ (by omega) e4)) ⟨by omega, e1⟩ ⟨by omega, e2⟩ ⟨by omega, e3⟩ ⟨by omega, e4⟩ hN hBW⟩
theorem iter_ov {W0 W : World} {O : Nat} {a : Option Addr} {k c : Nat} {T : TypeId} {u : Value} {t : TT} {F : Int → Bool} (hok : t.ok W0) (h0 : Below W0.heap.size W0 W) (hW : W0.heap.size ≤ O) (hO : Boxed W O T (.slice a k c)) (h : OvV W u t F) : IterOK W O u (ovO (ovP t.tr F) t.tr.length t.tr.length) (t.tr.length * t.tr.length) := by
  obtain ⟨bt, bs, bm, mb, cc, rfl, hl, h1, h2, h3, h5⟩ := h
  have e0 : bt ≠ O := by
    rintro rfl
    have := h1 10 _ rfl
    simp [World.cell?, show W.heap[bt]? = _ from hO] at this
  have e2 := box_ne hO h2 (by simp)
  have e3 := box_ne hO h3 (by simp)
  have e4 := mapI_ne hO h5
  have l2 : bs < W.heap.size := World.block_lt_of_cell? _ _ h2
  have l3 : bm < W.heap.size := World.block_lt_of_cell? _ _ h3
  have l4 := h5.lt
  have lO := hO.lt
  exact ⟨_, _, rfl, enters_of Tryz.func72 (by kernel_rfl) rfl, fun n Bi W' hn hB hk hBW => ov_stops n hn O Bi bt bs bm mb cc t F W' (fun W'' h => hok.below (h0.trans ((hk.trans h).below (by have := h0.size; omega) hW))) (fun j v hj => hk.cell (by omega) e0 (h1 j v hj)) (hk.cell (by omega) e2 h2) (hk.cell (by omega) e3 h3) (h5.at (hk.block _ (by omega) e4)) ⟨by omega, e0⟩ ⟨by omega, e2⟩ ⟨by omega, e3⟩ ⟨by omega, e4⟩ hBW hok.l4⟩
end Go.Proofs.Tt
