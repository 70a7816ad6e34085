/-
  A part of the proof: lemmas of my own.
-/
import Derived.Test.YtamocmgfbonodaaGreatTg
import Derived.Test.YtamocmgfbonodaaGreatTh
set_option linter.unusedVariables false
set_option linter.unusedSimpArgs false
namespace Go.Proofs.Tt
open Go Go.Proofs
open Go.RowKit Go.Maps
set_option maxRecDepth 1000000

structure TT where
  a0 : Option Addr
  a1 : Option Addr
  a2 : Option Addr
  a3 : Option Addr
  a4 : Option Addr
  a5 : Option Addr
  a6 : Option Addr
  a7 : Option Addr
  a8 : Option Addr
  a9 : Option Addr
  c0 : Nat
  c1 : Nat
  c2 : Nat
  c3 : Nat
  c4 : Nat
  c5 : Nat
  c6 : Nat
  c7 : Nat
  c8 : Nat
  c9 : Nat
  st : List StopD
  ro : List RouteD
  ca : List CalD
  ex : List ExcD
  tr : List TripD
  fq : List FrqD
  th : List ThrD
  gu : List GuaD
  pa : List PathD
  pr : List ProdD
  d : Int
  wi : Int
  cp : Int
def TT.cells (t : TT) : Array Value := #[.slice t.a0 t.st.length t.c0, .slice t.a1 t.ro.length t.c1, .slice t.a2 t.ca.length t.c2, .slice t.a3 t.ex.length t.c3, .slice t.a4 t.tr.length t.c4, .slice t.a5 t.fq.length t.c5, .slice t.a6 t.th.length t.c6, .slice t.a7 t.gu.length t.c7, .slice t.a8 t.pa.length t.c8, .slice t.a9 t.pr.length t.c9, .int .i64 t.d, .int .i64 t.wi, .int .i64 t.cp]
abbrev TT.val (t : TT) : Value := .agg #[.slice t.a0 t.st.length t.c0, .slice t.a1 t.ro.length t.c1, .slice t.a2 t.ca.length t.c2, .slice t.a3 t.ex.length t.c3, .slice t.a4 t.tr.length t.c4, .slice t.a5 t.fq.length t.c5, .slice t.a6 t.th.length t.c6, .slice t.a7 t.gu.length t.c7, .slice t.a8 t.pa.length t.c8, .slice t.a9 t.pr.length t.c9, .int .i64 t.d, .int .i64 t.wi, .int .i64 t.cp]
/-- a timetable in the world -/
structure TT.ok (W : World) (t : TT) : Prop where
  r0 : RowsAt W t.a0 4 (t.st.map StopD.row)
  r1 : RowsAt W t.a1 3 (t.ro.map RouteD.row)
  r2 : RowsAt W t.a2 10 (t.ca.map CalD.row)
  r3 : RowsAt W t.a3 3 (t.ex.map ExcD.row)
  r4 : RowsAt W t.a4 5 (t.tr.map TripD.row)
  r5 : RowsAt W t.a5 4 (t.fq.map FrqD.row)
  r6 : RowsAt W t.a6 2 (t.th.map ThrD.row)
  r7 : RowsAt W t.a7 3 (t.gu.map GuaD.row)
  r8 : RowsAt W t.a8 4 (t.pa.map PathD.row)
  r9 : RowsAt W t.a9 6 (t.pr.map ProdD.row)
  cs : ∀ s ∈ t.tr, RowsAt W s.a 5 (s.calls.map CallD.row) ∧ s.calls.length < 1000000
  i0 : ∀ s ∈ t.st, s.id.size ≤ maxLen
  i1 : ∀ s ∈ t.ro, s.id.size ≤ maxLen
  i2 : ∀ s ∈ t.ca, s.id.size ≤ maxLen
  i3 : ∀ s ∈ t.ex, inW s.cal ∧ inW s.day
  i4 : ∀ s ∈ t.tr, s.id.size ≤ maxLen
  i4r : ∀ s ∈ t.tr, inW s.route ∧ inW s.cal ∧ ∀ c ∈ s.calls, inW c.stop
  i5 : ∀ s ∈ t.fq, inW s.trip
  i6 : ∀ s ∈ t.th, inW s.fr ∧ inW s.to_
  i7 : ∀ s ∈ t.gu, inW s.fr ∧ inW s.to_ ∧ inW s.stop
  i8 : ∀ s ∈ t.pa, inW s.fr ∧ inW s.to_
  i9 : ∀ s ∈ t.pr, s.id.size ≤ maxLen ∧ inW s.modes
  l0 : t.st.length < 1000000
  l1 : t.ro.length < 1000000
  l2 : t.ca.length < 1000000
  l3 : t.ex.length < 1000000
  l4 : t.tr.length < 1000000
  l5 : t.fq.length < 1000000
  l6 : t.th.length < 1000000
  l7 : t.gu.length < 1000000
  l8 : t.pa.length < 1000000
  l9 : t.pr.length < 1000000
  k5 : t.fq.length ≤ t.c5
  k6 : t.th.length ≤ t.c6
theorem TT.ok.below {W W' : World} {t : TT} (h : t.ok W) (hb : Below W.heap.size W W') : t.ok W' :=
  { h with r0 := h.r0.below hb, r1 := h.r1.below hb, r2 := h.r2.below hb, r3 := h.r3.below hb, r4 := h.r4.below hb, r5 := h.r5.below hb, r6 := h.r6.below hb, r7 := h.r7.below hb, r8 := h.r8.below hb, r9 := h.r9.below hb, cs := fun s hs => ⟨(h.cs s hs).1.below hb, (h.cs s hs).2⟩ }

/-- what each check answers -/
def resT (t : TT) : Nat → Int × Int
  | 0 => stopRes t.st
  | 1 => routeRes t.ro
  | 2 => calRes t.ca
  | 3 => excRes t.ca.length t.ex
  | 4 => tripRes t.st.length t.ro.length t.ca.length t.tr
  | 5 => frqRes t.tr t.fq
  | 6 => thrRes t.tr t.fq t.th
  | 7 => guaRes t.tr t.fq t.st.length t.gu
  | 8 => pathRes t.st.length t.pa
  | _ => fareRes t.d t.wi t.cp t.pr
/-- the first part with an error -/
def ttGo (t : TT) : Nat → Nat → Int × Int × Int
  | 0, _ => (0, 0, 0)
  | n + 1, k => if (resT t k).2 ≠ 0 then (k, resT t k) else ttGo t n (k + 1)
def ttRes (t : TT) : Int × Int × Int := ttGo t 10 0

theorem calls_day (stops : Int) : ∀ (l : List CallD) (p : Option CallD) (k : Nat), (callsGo stops 0 172800 p k l).2 = 0 → ∀ c ∈ l, dayT c.arr ∧ dayT c.dep
  | [], _, _, _ => fun c hc => by cases hc
  | c :: l, p, k, h => by
    rw [callsGo] at h
    split at h
    · rename_i h0
      intro c' hc'
      rcases List.mem_cons.1 hc' with rfl | hc'
      · unfold callOne at h0
        split at h0
        · cases h0
        · split at h0
          · cases h0
          · split at h0
            · cases h0
            · rename_i q
              have q1 := fun x => q (.inl x)
              unfold dayT
              omega
      · exact calls_day stops l _ _ h c' hc'
    · rename_i h0; exact absurd h h0
theorem trips_day (stops routes cals : Int) : ∀ (l : List TripD) (k : Nat) (seen : List (List UInt8)), (tripGo stops routes cals k seen l).2 = 0 → ∀ s ∈ l, ∀ c ∈ s.calls, dayT c.arr ∧ dayT c.dep
  | [], _, _, _ => fun s hs => by cases hs
  | s :: l, k, seen, h => by
    rw [tripGo] at h
    split at h
    · cases h
    · split at h
      · cases h
      · split at h
        · cases h
        · split at h
          · rename_i q; exact absurd h q
          · rename_i q
            intro s' hs'
            rcases List.mem_cons.1 hs' with rfl | hs'
            · have q0 := Decidable.not_not.1 q
              unfold callsRes at q0
              split at q0
              · cases q0
              · exact calls_day stops _ _ _ q0
            · exact trips_day stops routes cals l _ _ h s' hs'
theorem trips_day' {stops routes cals : Int} {l : List TripD} (h : (tripRes stops routes cals l).2 = 0) : ∀ s ∈ l, ∀ c ∈ s.calls, dayT c.arr ∧ dayT c.dep := by
  unfold tripRes at h
  split at h
  · cases h
  · exact trips_day stops routes cals l _ _ h

theorem ck0 (t : TT) (B : Nat) (W : World) (hok : t.ok W) (hc : ∀ k v, t.cells[k]? = some v → W.cell? ⟨B, k, none⟩ = some v) :
    Calls Tryz.prog 20 #[.pointer (some ⟨B, 0, none⟩)] W fun e w' => e = .returned (.tuple #[.int .i64 (resT t 0).1, .int .i64 (resT t 0).2]) ∧ Below W.heap.size W w' := by
  have x0 := hc 0 _ rfl
  have HC := Lib.hid (stop11 t.a0 t.c0 t.st W hok.r0 hok.i0 (by have := hok.l0; omega))
  obtain ⟨R, hR⟩ : ∃ R, resT t 0 = R := ⟨_, rfl⟩
  rw [hR]
  simp only [resT] at hR
  rw [hR] at HC
  clear hok hc hR
  go_enter Tryz.func20, Tryz.ntmps20
  go_wp2_with (go_at_call 21; refine HC.out.mono ?_; rintro e w2 ⟨rfl, hb2⟩)
  go_ret2
  exact ⟨rfl, hb2⟩

theorem ck1 (t : TT) (B : Nat) (W : World) (hok : t.ok W) (hc : ∀ k v, t.cells[k]? = some v → W.cell? ⟨B, k, none⟩ = some v) :
    Calls Tryz.prog 22 #[.pointer (some ⟨B, 0, none⟩)] W fun e w' => e = .returned (.tuple #[.int .i64 (resT t 1).1, .int .i64 (resT t 1).2]) ∧ Below W.heap.size W w' := by
  have x1 := hc 1 _ rfl
  have HC := Lib.hid (route12 t.a1 t.c1 t.ro W hok.r1 hok.i1 (by have := hok.l1; omega))
  obtain ⟨R, hR⟩ : ∃ R, resT t 1 = R := ⟨_, rfl⟩
  rw [hR]
  simp only [resT] at hR
  rw [hR] at HC
  clear hok hc hR
  go_enter Tryz.func22, Tryz.ntmps22
  go_wp2_with (go_at_call 23; refine HC.out.mono ?_; rintro e w2 ⟨rfl, hb2⟩)
  go_ret2
  exact ⟨rfl, hb2⟩

theorem ck2 (t : TT) (B : Nat) (W : World) (hok : t.ok W) (hc : ∀ k v, t.cells[k]? = some v → W.cell? ⟨B, k, none⟩ = some v) :
    Calls Tryz.prog 24 #[.pointer (some ⟨B, 0, none⟩)] W fun e w' => e = .returned (.tuple #[.int .i64 (resT t 2).1, .int .i64 (resT t 2).2]) ∧ Below W.heap.size W w' := by
  have x2 := hc 2 _ rfl
  have HC := Lib.hid (cal25 t.a2 t.c2 t.ca W hok.r2 hok.i2 (by have := hok.l2; omega))
  obtain ⟨R, hR⟩ : ∃ R, resT t 2 = R := ⟨_, rfl⟩
  rw [hR]
  simp only [resT] at hR
  rw [hR] at HC
  clear hok hc hR
  go_enter Tryz.func24, Tryz.ntmps24
  go_wp2_with (go_at_call 25; refine HC.out.mono ?_; rintro e w2 ⟨rfl, hb2⟩)
  go_ret2
  exact ⟨rfl, hb2⟩

theorem ck3 (t : TT) (B : Nat) (b2 : Nat) (W : World) (hok : t.ok W) (hc : ∀ k v, t.cells[k]? = some v → W.cell? ⟨B, k, none⟩ = some v) (h2 : W.cell? ⟨b2, 0, none⟩ = some (.int .i64 (t.ca.length : Int))) :
    Calls Tryz.prog 26 #[.pointer (some ⟨B, 0, none⟩), .pointer (some ⟨b2, 0, none⟩)] W fun e w' => e = .returned (.tuple #[.int .i64 (resT t 3).1, .int .i64 (resT t 3).2]) ∧ Below W.heap.size W w' := by
  have x3 := hc 3 _ rfl
  have HC := Lib.hid (exc27 t.a3 t.c3 t.ex t.ca.length W hok.r3 hok.i3 (by have := hok.l3; omega))
  obtain ⟨R, hR⟩ : ∃ R, resT t 3 = R := ⟨_, rfl⟩
  rw [hR]
  simp only [resT] at hR
  rw [hR] at HC
  clear hok hc hR
  go_enter Tryz.func26, Tryz.ntmps26
  go_wp2_with (go_at_call 27; refine HC.out.mono ?_; rintro e w2 ⟨rfl, hb2⟩)
  go_ret2
  exact ⟨rfl, hb2⟩

theorem ck4 (t : TT) (B : Nat) (b0 : Nat) (b1 : Nat) (b2 : Nat) (W : World) (hok : t.ok W) (hc : ∀ k v, t.cells[k]? = some v → W.cell? ⟨B, k, none⟩ = some v) (h0 : W.cell? ⟨b0, 0, none⟩ = some (.int .i64 (t.st.length : Int))) (h1 : W.cell? ⟨b1, 0, none⟩ = some (.int .i64 (t.ro.length : Int))) (h2 : W.cell? ⟨b2, 0, none⟩ = some (.int .i64 (t.ca.length : Int))) :
    Calls Tryz.prog 28 #[.pointer (some ⟨B, 0, none⟩), .pointer (some ⟨b0, 0, none⟩), .pointer (some ⟨b1, 0, none⟩), .pointer (some ⟨b2, 0, none⟩)] W fun e w' => e = .returned (.tuple #[.int .i64 (resT t 4).1, .int .i64 (resT t 4).2]) ∧ Below W.heap.size W w' := by
  have x4 := hc 4 _ rfl
  have HC := Lib.hid (trip29 t.a4 t.c4 t.tr t.st.length t.ro.length t.ca.length W hok.r4 (fun s hs => ⟨(hok.cs s hs).1, by have := (hok.cs s hs).2; omega⟩) hok.i4 (by have := hok.l4; omega))
  obtain ⟨R, hR⟩ : ∃ R, resT t 4 = R := ⟨_, rfl⟩
  rw [hR]
  simp only [resT] at hR
  rw [hR] at HC
  clear hok hc hR
  go_enter Tryz.func28, Tryz.ntmps28
  go_wp2_with (go_at_call 29; refine HC.out.mono ?_; rintro e w2 ⟨rfl, hb2⟩)
  go_ret2
  exact ⟨rfl, hb2⟩

theorem ck5 (t : TT) (B : Nat) (W : World) (hok : t.ok W) (hc : ∀ k v, t.cells[k]? = some v → W.cell? ⟨B, k, none⟩ = some v) (hday : ∀ s ∈ t.tr, ∀ c ∈ s.calls, dayT c.arr ∧ dayT c.dep) :
    Calls Tryz.prog 30 #[.pointer (some ⟨B, 0, none⟩)] W fun e w' => e = .returned (.tuple #[.int .i64 (resT t 5).1, .int .i64 (resT t 5).2]) ∧ Below W.heap.size W w' := by
  have x5 := hc 5 _ rfl
  have x4 := hc 4 _ rfl
  have HC := Lib.hid (frq31 t.a5 t.a4 t.c5 t.c4 t.fq t.tr W hok.r5 hok.k5 hok.l5 hok.r4 hok.cs hday hok.l4)
  obtain ⟨R, hR⟩ : ∃ R, resT t 5 = R := ⟨_, rfl⟩
  rw [hR]
  simp only [resT] at hR
  rw [hR] at HC
  clear hok hc hR hday
  go_enter Tryz.func30, Tryz.ntmps30
  go_wp2_with (go_at_call 31; refine HC.out.mono ?_; rintro e w2 ⟨rfl, hb2⟩)
  go_ret2
  exact ⟨rfl, hb2⟩

theorem ck6 (t : TT) (B : Nat) (W : World) (hok : t.ok W) (hc : ∀ k v, t.cells[k]? = some v → W.cell? ⟨B, k, none⟩ = some v) :
    Calls Tryz.prog 32 #[.pointer (some ⟨B, 0, none⟩)] W fun e w' => e = .returned (.tuple #[.int .i64 (resT t 6).1, .int .i64 (resT t 6).2]) ∧ Below W.heap.size W w' := by
  have x6 := hc 6 _ rfl
  have x4 := hc 4 _ rfl
  have x5 := hc 5 _ rfl
  have HC := Lib.hid (thr33 t.a6 t.a4 t.a5 t.c6 t.c4 t.c5 t.th t.tr t.fq W hok.r6 hok.i6 hok.k6 hok.l6 hok.r4 hok.cs hok.l4 hok.r5 hok.l5)
  obtain ⟨R, hR⟩ : ∃ R, resT t 6 = R := ⟨_, rfl⟩
  rw [hR]
  simp only [resT] at hR
  rw [hR] at HC
  clear hok hc hR
  go_enter Tryz.func32, Tryz.ntmps32
  go_wp2_with (go_at_call 33; refine HC.out.mono ?_; rintro e w2 ⟨rfl, hb2⟩)
  go_ret2
  exact ⟨rfl, hb2⟩

theorem ck7 (t : TT) (B : Nat) (b0 : Nat) (W : World) (hok : t.ok W) (hc : ∀ k v, t.cells[k]? = some v → W.cell? ⟨B, k, none⟩ = some v) (h0 : W.cell? ⟨b0, 0, none⟩ = some (.int .i64 (t.st.length : Int))) :
    Calls Tryz.prog 34 #[.pointer (some ⟨B, 0, none⟩), .pointer (some ⟨b0, 0, none⟩)] W fun e w' => e = .returned (.tuple #[.int .i64 (resT t 7).1, .int .i64 (resT t 7).2]) ∧ Below W.heap.size W w' := by
  have x7 := hc 7 _ rfl
  have x4 := hc 4 _ rfl
  have x5 := hc 5 _ rfl
  have HC := Lib.hid (gua35 t.a7 t.a4 t.a5 t.c7 t.c4 t.c5 t.gu t.tr t.fq t.st.length W hok.r7 hok.i7 hok.l7 hok.r4 hok.cs hok.l4 hok.r5 hok.l5)
  obtain ⟨R, hR⟩ : ∃ R, resT t 7 = R := ⟨_, rfl⟩
  rw [hR]
  simp only [resT] at hR
  rw [hR] at HC
  clear hok hc hR
  go_enter Tryz.func34, Tryz.ntmps34
  go_wp2_with (go_at_call 35; refine HC.out.mono ?_; rintro e w2 ⟨rfl, hb2⟩)
  go_ret2
  exact ⟨rfl, hb2⟩

theorem ck8 (t : TT) (B : Nat) (b0 : Nat) (W : World) (hok : t.ok W) (hc : ∀ k v, t.cells[k]? = some v → W.cell? ⟨B, k, none⟩ = some v) (h0 : W.cell? ⟨b0, 0, none⟩ = some (.int .i64 (t.st.length : Int))) :
    Calls Tryz.prog 36 #[.pointer (some ⟨B, 0, none⟩), .pointer (some ⟨b0, 0, none⟩)] W fun e w' => e = .returned (.tuple #[.int .i64 (resT t 8).1, .int .i64 (resT t 8).2]) ∧ Below W.heap.size W w' := by
  have x8 := hc 8 _ rfl
  have HC := Lib.hid (path37 t.a8 t.c8 t.pa t.st.length W hok.r8 hok.i8 (by have := hok.l8; omega))
  obtain ⟨R, hR⟩ : ∃ R, resT t 8 = R := ⟨_, rfl⟩
  rw [hR]
  simp only [resT] at hR
  rw [hR] at HC
  clear hok hc hR
  go_enter Tryz.func36, Tryz.ntmps36
  go_wp2_with (go_at_call 37; refine HC.out.mono ?_; rintro e w2 ⟨rfl, hb2⟩)
  go_ret2
  exact ⟨rfl, hb2⟩

theorem ck9 (t : TT) (B : Nat) (W : World) (hok : t.ok W) (hc : ∀ k v, t.cells[k]? = some v → W.cell? ⟨B, k, none⟩ = some v) :
    Calls Tryz.prog 38 #[.pointer (some ⟨B, 0, none⟩)] W fun e w' => e = .returned (.tuple #[.int .i64 (resT t 9).1, .int .i64 (resT t 9).2]) ∧ Below W.heap.size W w' := by
  have x9 := hc 9 _ rfl
  have x10 := hc 10 _ rfl
  have x11 := hc 11 _ rfl
  have x12 := hc 12 _ rfl
  have HC := Lib.hid (prod17 t.a9 t.c9 t.pr t.d t.wi t.cp W hok.r9 (fun s hs => (hok.i9 s hs).1) (by have := hok.l9; omega))
  obtain ⟨R, hR⟩ : ∃ R, resT t 9 = R := ⟨_, rfl⟩
  rw [hR]
  simp only [resT] at hR
  rw [hR] at HC
  clear hok hc hR
  go_enter Tryz.func38, Tryz.ntmps38
  go_wp2_with (go_at_call 39; refine HC.out.mono ?_; rintro e w2 ⟨rfl, hb2⟩)
  go_ret2
  exact ⟨rfl, hb2⟩
end Go.Proofs.Tt
