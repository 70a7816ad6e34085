/-
  A part of the proof: lemmas of my own.
-/
import Derived.Test.YtnjfffcmlfoliaaPE
import Derived.OwnWalk
import Derived.Laws.RangeString
import Derived.Laws.RangeAny
import Derived.Test.YtnjfffcmlfoliaaPA
import Derived.Test.YtnjfffcmlfoliaaShelfP
set_option linter.unusedVariables false
set_option linter.unusedSimpArgs false
namespace Go.Proofs
open Go.RowKit
set_option maxRecDepth 1000000

/-- The reader at block p: its words lie in block g. -/
def rdRow (g off n cap : Nat) (bad great : Bool) : Obj := .cells #[.slice (some ⟨g, off, none⟩) n cap, .bool bad, .bool great] 38 (0, 0)

theorem rd_cells {w : World} {p g off n cap : Nat} {bad great : Bool} (h : w.heap[p]? = some (rdRow g off n cap bad great)) :
    w.cell? ⟨p, 0, none⟩ = some (.slice (some ⟨g, off, none⟩) n cap) ∧ w.cell? ⟨p, 1, none⟩ = some (.bool bad) ∧ w.cell? ⟨p, 2, none⟩ = some (.bool great) ∧
      (∀ o, w.frozen? ⟨p, o, none⟩ = false) ∧ p < w.heap.size := by
  unfold rdRow at h
  refine ⟨by simp [World.cell?, h], by simp [World.cell?, h], by simp [World.cell?, h], fun o => by simp [World.frozen?, h], (Array.getElem?_eq_some_iff.1 h).1⟩

theorem rd_set {w : World} {p : Nat} {c : Array Value} {t : TypeId} {fr : Nat × Nat} (h : w.heap[p]? = some (.cells c t fr)) (o : Nat) (v : Value) :
    (w.setCell ⟨p, o, none⟩ v).heap[p]? = some (.cells (c.setIfInBounds o v) t fr) := by
  have hb : p < w.heap.size := (Array.getElem?_eq_some_iff.1 h).1
  simp [World.setCell, Array.getElem?_modify, h]

theorem take_nil (p g off cap : Nat) (bad great : Bool) (w : World) (h : w.heap[p]? = some (rdRow g off 0 cap bad great)) :
    Calls Try.prog 32 #[.pointer (some ⟨p, 0, none⟩)] w fun e w' => e = .returned (.string ⟨#[]⟩) ∧ w' = w.setCell ⟨p, 1, none⟩ (.bool true) := by
  obtain ⟨h0, h1, h2, hf, hp⟩ := rd_cells h
  have f1 := hf 1
  clear hf h
  go_enter Try.func32, Try.ntmps32
  go_wp2
  go_ret
  exact ⟨rfl, rfl⟩

theorem take_cons (p g off n cap : Nat) (x : ByteArray) (bad great : Bool) (w : World) (h : w.heap[p]? = some (rdRow g off (n + 1) cap bad great)) (hc : n + 1 ≤ cap) (hm : cap ≤ maxLen) (hx : w.cell? ⟨g, off, none⟩ = some (.string x)) :
    Calls Try.prog 32 #[.pointer (some ⟨p, 0, none⟩)] w fun e w' => e = .returned (.string x) ∧ ∃ off', (1 ≤ n → off' = off + 1) ∧ w' = w.setCell ⟨p, 0, none⟩ (.slice (some ⟨g, off', none⟩) n (cap - 1)) := by
  unfold maxLen at hm
  obtain ⟨h0, h1, h2, hf, hp⟩ := rd_cells h
  have f0 := hf 0
  clear hf h
  have hz : ((n : Int) + 1 == 0) = false := by simp; omega
  have hlt : (0 : Int) < (n : Int) + 1 := by omega
  by_cases h1c : cap = 1
  · subst h1c
    obtain rfl : n = 0 := by omega
    go_enter Try.func32, Try.ntmps32
    go_wp2
    go_ret
    exact ⟨rfl, off, by omega, rfl⟩
  · have hne : ¬ (cap : Nat) = 1 := h1c
    go_enter Try.func32, Try.ntmps32
    go_wp2
    go_ret
    exact ⟨rfl, off + 1, fun _ => rfl, rfl⟩

/-- From w to w': block p alone, and new ones, may have turned. -/
structure Only (p : Nat) (w w' : World) : Prop where
  os : w'.os = w.os
  tape : w'.tape = w.tape
  output : w'.output = w.output
  size : w.heap.size ≤ w'.heap.size
  block : ∀ k, k < w.heap.size → k ≠ p → w'.heap[k]? = w.heap[k]?

theorem Only.refl (p : Nat) (w : World) : Only p w w := ⟨rfl, rfl, rfl, Nat.le_refl _, fun _ _ _ => rfl⟩
theorem Only.trans {p : Nat} {a b c : World} (h : Only p a b) (k : Only p b c) : Only p a c :=
  ⟨k.os.trans h.os, k.tape.trans h.tape, k.output.trans h.output, Nat.le_trans h.size k.size, fun j hj hn => (k.block j (by have := h.size; omega) hn).trans (h.block j hj hn)⟩
theorem Only.of_below {p : Nat} {a b : World} (h : Below a.heap.size a b) : Only p a b := ⟨h.os, h.tape, h.output, h.size, fun k hk _ => h.block k hk⟩
theorem Only.setCell {p o : Nat} {v : Value} (w : World) : Only p w (w.setCell ⟨p, o, none⟩ v) :=
  ⟨rfl, rfl, rfl, by simp [World.setCell], fun k hk hn => Below.heap_setCell _ _ _ _ hn⟩
theorem Only.drew {p : Nat} {a b : World} (h : Only p a b) : Only p a b.drew := ⟨h.os, h.tape, h.output, h.size, h.block⟩
theorem Only.below {p B : Nat} {a b : World} (h : Only p a b) (hp : B ≤ p) (hB : B ≤ a.heap.size) : Below B a b :=
  ⟨h.os, h.tape, h.output, h.size, fun k hk => h.block k (by omega) (by omega)⟩

/-- A reader at p with the words ws (they lie in block g). -/
structure Rd (w : World) (p g : Nat) (ws : List ByteArray) (bad great : Bool) : Prop where
  ne : g ≠ p
  lt : g < w.heap.size
  row : ∃ off cap, w.heap[p]? = some (rdRow g off ws.length cap bad great) ∧ ws.length ≤ cap ∧ cap ≤ maxLen ∧ ∀ (j : Nat) x, ws[j]? = some x → w.cell? ⟨g, off + j, none⟩ = some (.string x)

theorem Rd.plt {w : World} {p g : Nat} {ws : List ByteArray} {bad great : Bool} (h : Rd w p g ws bad great) : p < w.heap.size := by
  obtain ⟨off, cap, h1, _⟩ := h.row
  exact (Array.getElem?_eq_some_iff.1 h1).1

theorem Rd.below {w w' : World} {p g : Nat} {ws : List ByteArray} {bad great : Bool} (h : Rd w p g ws bad great) (hb : Below w.heap.size w w') : Rd w' p g ws bad great := by
  have hp := h.plt
  obtain ⟨off, cap, h1, h2, h3, h4⟩ := h.row
  exact ⟨h.ne, Nat.lt_of_lt_of_le h.lt hb.size, off, cap, by rw [hb.block p hp]; exact h1, h2, h3, fun j x hx => by rw [hb.cell (p := ⟨g, off + j, none⟩) h.lt]; exact h4 j x hx⟩

theorem Rd.drew {w : World} {p g : Nat} {ws : List ByteArray} {bad great : Bool} (h : Rd w p g ws bad great) : Rd w.drew p g ws bad great := h.below ((Below.refl _ _).drew)

/-- the flags and the words, after a store into the reader -/
theorem Rd.store {w : World} {p g : Nat} {ws ws' : List ByteArray} {bad great bad' great' : Bool} (h : Rd w p g ws bad great) {o : Nat} {v : Value} {off' cap' : Nat}
    (hrow : ∀ off cap, w.heap[p]? = some (rdRow g off ws.length cap bad great) → ws.length ≤ cap → cap ≤ maxLen → (∀ (j : Nat) x, ws[j]? = some x → w.cell? ⟨g, off + j, none⟩ = some (.string x)) →
      (w.setCell ⟨p, o, none⟩ v).heap[p]? = some (rdRow g off' ws'.length cap' bad' great') ∧ ws'.length ≤ cap' ∧ cap' ≤ maxLen ∧ ∀ (j : Nat) x, ws'[j]? = some x → w.cell? ⟨g, off' + j, none⟩ = some (.string x)) :
    Rd (w.setCell ⟨p, o, none⟩ v) p g ws' bad' great' := by
  obtain ⟨off, cap, h1, h2, h3, h4⟩ := h.row
  obtain ⟨k1, k2, k3, k4⟩ := hrow off cap h1 h2 h3 h4
  refine ⟨h.ne, by simpa [World.setCell] using h.lt, off', cap', k1, k2, k3, fun j x hx => ?_⟩
  rw [World.cell?_of_block (Below.heap_setCell w ⟨p, o, none⟩ v g h.ne)]
  exact k4 j x hx

/-- the first word, or the empty one -/
def hd (ws : List ByteArray) : ByteArray := match ws with | [] => ⟨#[]⟩ | x :: _ => x

theorem take_rd {w : World} {p g : Nat} {ws : List ByteArray} {bad great : Bool} (h : Rd w p g ws bad great) :
    Calls Try.prog 32 #[.pointer (some ⟨p, 0, none⟩)] w fun e w' => e = .returned (.string (hd ws)) ∧ Rd w' p g ws.tail (bad || ws.isEmpty) great ∧ Only p w w' := by
  obtain ⟨off, cap, h1, h2, h3, h4⟩ := h.row
  cases ws with
  | nil =>
    refine (take_nil p g off cap bad great w h1).mono fun e w' ⟨he, hw⟩ => ⟨he, ?_, hw ▸ Only.setCell w⟩
    subst hw
    refine h.store (off' := off) (cap' := cap) fun off2 cap2 _ _ _ _ => ⟨?_, h2, h3, by simp⟩
    rw [rd_set h1]
    simp [rdRow]
  | cons x xs =>
    refine (take_cons p g off xs.length cap x bad great w h1 h2 h3 (h4 0 x rfl)).mono fun e w' ⟨he, off', ho, hw⟩ => ⟨he, ?_, hw ▸ Only.setCell w⟩
    subst hw
    simp only [List.length_cons] at h2
    refine h.store (off' := off') (cap' := cap - 1) fun off2 cap2 _ _ _ _ => ⟨?_, by simp; omega, by omega, fun j y hy => ?_⟩
    · rw [rd_set h1]
      simp [rdRow]
    · simp only [List.tail_cons] at hy
      have hj : j < xs.length := (List.getElem?_eq_some_iff.1 hy).1
      have := h4 (j + 1) y (by simpa using hy)
      rw [ho (by omega)]
      rw [show off + 1 + j = off + (j + 1) by omega]
      exact this
end Go.Proofs

namespace Go.Proofs
open Go.RowKit
set_option maxRecDepth 1000000

def isDig (c : UInt8) : Bool := 48 ≤ c.toNat && c.toNat ≤ 57

/-- plain: digits without leading zeros -/
def plainB (l : List UInt8) : Bool := l.all isDig && !l.isEmpty && (l.head? != some 48 || l.length == 1)

theorem isDig_iff (c : UInt8) : isDig c = true ↔ 48 ≤ c.toNat ∧ c.toNat ≤ 57 := by simp [isDig]

theorem all_drop (s : ByteArray) (i : Nat) (h : i < s.size) : (s.data.toList.drop i).all isDig = (isDig s[i] && (s.data.toList.drop (i + 1)).all isDig) := by
  rw [List.drop_eq_getElem_cons (by simpa using h)]
  simp
  rfl

theorem iter_below (w : World) (s : ByteArray) (p : Nat) : Below w.heap.size w (w.iter s p) := (Below.refl _ _).alloc (Nat.le_refl _) _

theorem plain_of (s : ByteArray) (h : s.data.toList.all isDig = true) : plainB s.data.toList = (!s.data.toList.isEmpty && (s.data.toList.head? != some 48 || s.data.toList.length == 1)) := by
  unfold plainB
  rw [h, Bool.true_and]

theorem plain_empty (s : ByteArray) (h : s.size = 0) : plainB s.data.toList = false := by
  have e1 : s.data.toList = [] := by
    apply List.eq_nil_of_length_eq_zero
    simpa using h
  rw [e1]; rfl

theorem head_get (s : ByteArray) (h : 0 < s.size) : s.data.toList.head? = some s[0] := by
  rw [List.head?_eq_getElem?]
  have : s.data.toList[0]? = some (s.data.toList[0]'(by simpa using h)) := List.getElem?_eq_getElem _
  rw [this]; rfl

theorem ne_nil (s : ByteArray) (h : 0 < s.size) : s.data.toList.isEmpty = false := by
  rw [List.isEmpty_eq_false_iff]
  intro e
  have := congrArg List.length e
  simp at this
  subst this
  exact absurd h (by decide)

theorem byte_eq (c : UInt8) : c.toNat = 48 ↔ c = 48 := ⟨fun h => UInt8.toNat_inj.1 h, fun h => by rw [h]; rfl⟩

theorem plain_one (s : ByteArray) (h : 0 < s.size) (hp : plainB s.data.toList = (!s.data.toList.isEmpty && (s.data.toList.head? != some 48 || s.data.toList.length == 1))) (h1 : ¬ (s[0]'h).toNat = 48 ∨ s.size = 1) : plainB s.data.toList = true := by
  rw [hp, head_get s h, ne_nil s h]
  rcases h1 with h1 | h1
  · have : s[0] ≠ 48 := fun e => h1 ((byte_eq _).2 e)
    simp [this]
  · have : s.data.size = 1 := h1
    simp [this]

theorem plain_zero (s : ByteArray) (h : 0 < s.size) (hp : plainB s.data.toList = (!s.data.toList.isEmpty && (s.data.toList.head? != some 48 || s.data.toList.length == 1))) (h1 : (s[0]'h).toNat = 48) (h2 : ¬ s.size = 1) : plainB s.data.toList = false := by
  rw [hp, head_get s h, (byte_eq _).1 h1]
  simp [h2]

theorem plain37 (s : ByteArray) (w : World) :
    Calls Try.prog 37 #[.string s] w fun e w' => e = .returned (.bool (plainB s.data.toList)) ∧ Below w.heap.size w w' := by
  go_enter Try.func37, Try.ntmps37
  go_wp2
  go_loopw [] (fun w' => ∃ pos, pos ≤ s.size ∧ w' = w.iter s pos ∧ s.data.toList.all isDig = (s.data.toList.drop pos).all isDig) (fun w' => s.size - w'.iterPos w.heap.size)
  case atStart => exact ⟨0, Nat.zero_le _, rfl, by simp⟩
  case round =>
    obtain ⟨pos, hle, rfl, hall⟩ := hrel
    have HA := Lib.hid hall
    clear hall
    by_cases hp : pos < s.size
    · have had := Lib.hid (all_drop s pos hp)
      by_cases ha : (s[pos]'hp).toNat < 128
      · have hnx : ∀ ty, (Instr.next (.pointer (some ⟨w.heap.size, 0, none⟩)) true ty).run Try.prog (w.iter s pos) = _ := fun ty => run_next_any w s pos ty hp
        rw [decode_ascii s pos hp ha] at hnx
        by_cases hd : 48 ≤ (s[pos]'hp).toNat ∧ (s[pos]'hp).toNat ≤ 57
        · have d1 : decide (((s[pos]'hp).toNat : Int) < 48) = false := by simp; omega
          have d2 : decide (((57 : Int) < (s[pos]'hp).toNat)) = false := by simp; omega
          go_wp2
          exact ⟨⟨pos + 1, by omega, rfl, by rw [HA.out, had.out, (isDig_iff _).2 hd, Bool.true_and]⟩, by simp; omega⟩
        · have hno : isDig (s[pos]'hp) = false := by
            cases h : isDig (s[pos]'hp) with
            | false => rfl
            | true => exact absurd ((isDig_iff _).1 h) hd
          have hpl : plainB s.data.toList = false := by
            unfold plainB
            rw [HA.out, had.out, hno]; simp
          have HP := Lib.hid hpl
          clear hpl
          by_cases hl : (s[pos]'hp).toNat < 48
          · have d1 : decide (((s[pos]'hp).toNat : Int) < 48) = true := by simp; omega
            go_wp2
            go_ret
            exact ⟨by rw [HP.out]; rfl, iter_below w s _⟩
          · have d1 : decide (((s[pos]'hp).toNat : Int) < 48) = false := by simp; omega
            have d2 : decide (((57 : Int) < (s[pos]'hp).toNat)) = true := by simp; omega
            go_wp2
            go_ret
            exact ⟨by rw [HP.out]; rfl, iter_below w s _⟩
      · have hno : isDig (s[pos]'hp) = false := by
          cases h : isDig (s[pos]'hp) with
          | false => rfl
          | true => have := (isDig_iff _).1 h; omega
        have hpl : plainB s.data.toList = false := by
          unfold plainB
          rw [HA.out, had.out, hno]; simp
        have HP := Lib.hid hpl
        clear hpl
        have hnx : ∀ ty, (Instr.next (.pointer (some ⟨w.heap.size, 0, none⟩)) true ty).run Try.prog (w.iter s pos) = _ := fun ty => run_next_any w s pos ty hp
        obtain ⟨hr, _⟩ := decode_high s pos hp (by omega)
        generalize (Utf8.decode s pos).1 = r at hnx hr
        generalize (Utf8.decode s pos).2 = wd at hnx
        have d1 : decide ((r : Int) < 48) = false := by simp; omega
        have d2 : decide (((57 : Int) < r)) = true := by simp; omega
        go_wp2
        go_ret
        exact ⟨by rw [HP.out]; rfl, iter_below w s _⟩
    · have hnx : ∀ ty, (Instr.next (.pointer (some ⟨w.heap.size, 0, none⟩)) true ty).run Try.prog (w.iter s pos) = _ := fun ty => run_next_end w s pos ty hp
      have hall : s.data.toList.all isDig = true := by
        rw [HA.out, List.drop_of_length_le (by simpa using by omega)]; rfl
      have HP := Lib.hid (plain_of s hall)
      clear hall
      by_cases h0 : s.size = 0
      · have HE := Lib.hid (plain_empty s h0)
        have t1 : s.toList = [] := by
          rw [ByteArray.toList_eq]
          apply List.eq_nil_of_length_eq_zero
          simpa using h0
        go_wp2
        go_ret
        exact ⟨by rw [HE.out]; rfl, iter_below w s _⟩
      · have hpos : 0 < s.size := by omega
        have t1 : ¬ s.toList = [] := by
          rw [ByteArray.toList_eq]
          intro h
          have := congrArg List.length h
          simp at this
          subst this
          exact h0 rfl
        have t2 : (!s.toList.isEmpty) = true := by simpa using t1
        by_cases h48 : (s[0]'hpos).toNat = 48
        · have c1 : (((s[0]'hpos).toNat : Int) == 48) = true := by simp; omega
          have c2 : (((s[0]'hpos).toNat : Int) != 48) = false := by simp; omega
          by_cases hl : s.size = 1
          · have l1 : ((s.size : Int) == 1) = true := by simp; omega
            have HF := Lib.hid (plain_one s hpos (HP.out) (.inr hl))
            go_wp2
            go_ret
            exact ⟨by rw [HF.out]; rfl, iter_below w s _⟩
          · have l1 : ((s.size : Int) == 1) = false := by simp; omega
            have HF := Lib.hid (plain_zero s hpos (HP.out) h48 hl)
            go_wp2
            go_ret
            exact ⟨by rw [HF.out]; rfl, iter_below w s _⟩
        · have c1 : (((s[0]'hpos).toNat : Int) == 48) = false := by simp; omega
          have c2 : (((s[0]'hpos).toNat : Int) != 48) = true := by simp; omega
          have HF := Lib.hid (plain_one s hpos (HP.out) (.inl h48))
          go_wp2
          go_ret
          exact ⟨by rw [HF.out]; rfl, iter_below w s _⟩
end Go.Proofs

namespace Go.Proofs
open Go.RowKit
set_option maxRecDepth 1000000

def valGo (limit : Nat) : Nat → List UInt8 → Option Nat
  | m, [] => some m
  | m, c :: l => if (limit - (c.toNat - 48)) / 10 < m then none else valGo limit (10 * m + (c.toNat - 48)) l

theorem valGo_drop (limit m : Nat) (s : ByteArray) (i : Nat) (h : i < s.size) : valGo limit m (s.data.toList.drop i) =
    if (limit - ((s[i]'h).toNat - 48)) / 10 < m then none else valGo limit (10 * m + ((s[i]'h).toNat - 48)) (s.data.toList.drop (i + 1)) := by
  rw [List.drop_eq_getElem_cons (by simpa using h)]
  rfl

theorem dig_at (s : ByteArray) (h : s.data.toList.all isDig = true) (i : Nat) (hi : i < s.size) : 48 ≤ (s[i]'hi).toNat ∧ (s[i]'hi).toNat ≤ 57 := by
  rw [List.all_eq_true] at h
  have := h (s.data.toList[i]'(by simpa using hi)) (List.getElem_mem _)
  exact (isDig_iff _).1 this

def valRes : Option Nat → Value
  | some m => .tuple #[.int .u64 m, .bool true]
  | none => .tuple #[.int .u64 0, .bool false]

theorem value38 (s : ByteArray) (limit : Nat) (w : World) (hs : s.size ≤ 9223372036854775807) (hall : s.data.toList.all isDig = true) (hl : 10 ≤ limit) (hu : limit ≤ 18446744073709551615) :
    Calls Try.prog 38 #[.string s, .int .u64 limit] w fun e w' => e = .returned (valRes (valGo limit 0 s.data.toList)) ∧ w = w' := by
  have HALL := Lib.hid hall
  clear hall
  go_enter Try.func38, Try.ntmps38
  go_wp2
  go_loop [6, 11] (fun x i => ∃ (k m : Nat), k ≤ s.size ∧ m ≤ limit ∧ i = .int .i64 k ∧ x = .int .u64 m ∧ valGo limit m (s.data.toList.drop k) = valGo limit 0 s.data.toList) (fun _ i => s.size - (intOf i).toNat)
  case atStart => exact ⟨0, 0, Nat.zero_le _, Nat.zero_le _, rfl, rfl, rfl⟩
  case round =>
    obtain ⟨k, m, hk, hm, rfl, rfl, hv⟩ := hrel
    have HV := Lib.hid hv
    clear hv
    by_cases hlt : k < s.size
    · obtain ⟨d0, d1⟩ := dig_at s HALL.out k hlt
      have HD := Lib.hid (valGo_drop limit m s k hlt)
      obtain ⟨d, hd⟩ : ∃ d : Nat, (s[k]'hlt).toNat = 48 + d := ⟨(s[k]'hlt).toNat - 48, by omega⟩
      have e0 : ((s[k]'hlt).toNat : Int) - 48 = d := by omega
      by_cases hc : (limit - d) / 10 < m
      · have hci : ((limit : Int) - (48 + (d : Int) - 48)) / 10 < (m : Int) := by omega
        have hr : valGo limit 0 s.data.toList = none := by
          rw [← HV.out, HD.out, if_pos (by omega)]
        have HR := Lib.hid hr
        clear hr hc
        go_wp2
        go_ret2
        exact ⟨by rw [HR.out]; rfl, rfl⟩
      · have hci : (m : Int) ≤ ((limit : Int) - (48 + (d : Int) - 48)) / 10 := by omega
        have hr : valGo limit 0 s.data.toList = valGo limit (10 * m + d) (s.data.toList.drop (k + 1)) := by
          rw [← HV.out, HD.out, if_neg (by omega), show (s[k]'hlt).toNat - 48 = d by omega]
        have HR := Lib.hid hr
        have hb : 10 * m + d ≤ limit := by omega
        clear hr hc
        go_wp2
        exact ⟨⟨k + 1, 10 * m + d, by omega, hb, by simp, by congr 1; omega, HR.out.symm⟩, by simp [intOf]; omega⟩
    · have hr : valGo limit 0 s.data.toList = some m := by
        rw [← HV.out, List.drop_of_length_le (by simpa using by omega)]; rfl
      have HR := Lib.hid hr
      clear hr
      go_wp2
      go_ret2
      exact ⟨by rw [HR.out]; rfl, rfl⟩
end Go.Proofs

namespace Go.Proofs
open Go.RowKit
set_option maxRecDepth 1000000

theorem valGo_le (limit : Nat) : ∀ (l : List UInt8) (m r : Nat), l.all isDig = true → m ≤ limit → 10 ≤ limit → valGo limit m l = some r → r ≤ limit
  | [], m, r, _, hm, _, h => by simp [valGo] at h; omega
  | c :: l, m, r, ha, hm, hl, h => by
    simp only [List.all_cons, Bool.and_eq_true] at ha
    have := (isDig_iff c).1 ha.1
    unfold valGo at h
    split at h
    · cases h
    · exact valGo_le limit l _ r ha.2 (by omega) hl h

theorem plain_all {l : List UInt8} (h : plainB l = true) : l.all isDig = true := by
  unfold plainB at h
  cases h1 : l.all isDig with
  | true => rfl
  | false => rw [h1] at h; simp at h

/-- number.Parse of a string that has no minus sign -/
def parseN (s : ByteArray) : Int × Int :=
  bif plainB s.data.toList then match valGo 9223372036854775807 0 s.data.toList with | some m => ((m : Int), 0) | none => (0, 2) else (0, 3)

def noMinus (s : ByteArray) : Prop := ∀ h : 0 < s.size, (s[0]'h).toNat ≠ 45

theorem toList_nil {s : ByteArray} (h : ¬ 0 < s.size) : s.toList = [] := by
  rw [ByteArray.toList_eq]
  have h0 : s.size = 0 := by omega
  apply List.eq_nil_of_length_eq_zero
  simpa using h0

theorem toList_ne {s : ByteArray} (h : 0 < s.size) : ¬ s.toList = [] := by
  rw [ByteArray.toList_eq]
  intro e
  have := congrArg List.length e
  simp at this
  subst this
  exact absurd h (by decide)

theorem parse31 (s : ByteArray) (w : World) (hs : s.size ≤ 9223372036854775807) (hm : noMinus s) :
    Calls Try.prog 31 #[.string s] w fun e w' => e = .returned (.tuple #[.int .i64 (parseN s).1, .int .i64 (parseN s).2]) ∧ Below w.heap.size w w' := by
  by_cases h0 : 0 < s.size
  · have t1 := toList_ne h0
    have t2 : (!s.toList.isEmpty) = true := by simpa using t1
    have c1 : (((s[0]'h0).toNat : Int) == 45) = false := by
      have := hm h0
      simp; omega
    clear hm
    cases hp : plainB s.data.toList with
    | false =>
      have HR := Lib.hid (show parseN s = (0, 3) by unfold parseN; rw [hp]; rfl)
      have HP := Lib.hid hp
      clear hp
      go_enter Try.func31, Try.ntmps31
      go_wp2_with (go_at_call 37; refine (plain37 _ _).mono ?_; rw [HP.out]; rintro e w' ⟨rfl, hb⟩)
      go_ret2
      exact ⟨by rw [HR.out]; rfl, hb⟩
    | true =>
      have ha := plain_all hp
      have HA := Lib.hid ha
      cases hv : valGo 9223372036854775807 0 s.data.toList with
      | none =>
        have HR := Lib.hid (show parseN s = (0, 2) by unfold parseN; rw [hp, hv]; rfl)
        have HP := Lib.hid hp
        have HV := Lib.hid hv
        clear hp hv ha
        go_enter Try.func31, Try.ntmps31
        go_wp2_with (first | (go_at_call 37; refine (plain37 _ _).mono ?_; rw [HP.out]; rintro e w' ⟨rfl, hb⟩) | (go_at_call 38; refine (value38 _ 9223372036854775807 _ hs HA.out (by decide) (by decide)).mono ?_; rw [HV.out]; unfold valRes; rintro e w' ⟨rfl, rfl⟩))
        go_ret2
        exact ⟨by rw [HR.out]; rfl, hb⟩
      | some m =>
        have hle := valGo_le _ _ _ _ ha (Nat.zero_le _) (by decide) hv
        have hle0 : (0 : Int) ≤ (m : Int) := Int.natCast_nonneg _
        have hle1 : (m : Int) ≤ 9223372036854775807 := by omega
        have HR := Lib.hid (show parseN s = ((m : Int), 0) by unfold parseN; rw [hp, hv]; rfl)
        have HP := Lib.hid hp
        have HV := Lib.hid hv
        clear hp hv ha
        go_enter Try.func31, Try.ntmps31
        go_wp2_with (first | (go_at_call 37; refine (plain37 _ _).mono ?_; rw [HP.out]; rintro e w' ⟨rfl, hb⟩) | (go_at_call 38; refine (value38 _ 9223372036854775807 _ hs HA.out (by decide) (by decide)).mono ?_; rw [HV.out]; unfold valRes; rintro e w' ⟨rfl, rfl⟩))
        go_ret2
        exact ⟨by rw [HR.out]; rfl, hb⟩
  · have t1 := toList_nil h0
    have hp : plainB s.data.toList = false := plain_empty s (by omega)
    have HR := Lib.hid (show parseN s = (0, 3) by unfold parseN; rw [hp]; rfl)
    have HP := Lib.hid hp
    clear hp hm
    go_enter Try.func31, Try.ntmps31
    go_wp2_with (go_at_call 37; refine (plain37 _ _).mono ?_; rw [HP.out]; rintro e w' ⟨rfl, hb⟩)
    go_ret2
    exact ⟨by rw [HR.out]; rfl, hb⟩
end Go.Proofs

namespace Go.Proofs
open Go.RowKit
set_option maxRecDepth 1000000

theorem parse3 (x : ByteArray) : (∃ m : Nat, m ≤ 9223372036854775807 ∧ parseN x = ((m : Int), 0)) ∨ parseN x = (0, 2) ∨ parseN x = (0, 3) := by
  unfold parseN
  cases hp : plainB x.data.toList with
  | false => exact .inr (.inr rfl)
  | true =>
    cases hv : valGo 9223372036854775807 0 x.data.toList with
    | none => exact .inr (.inl rfl)
    | some m => exact .inl ⟨m, valGo_le _ _ _ _ (plain_all hp) (Nat.zero_le _) (by decide) hv, rfl⟩

attribute [local irreducible] parseN

def numBad (ws : List ByteArray) (bad : Bool) : Bool := bad || ws.isEmpty || (parseN (hd ws)).2 == 3
def numGreat (ws : List ByteArray) (great : Bool) : Bool := great || (parseN (hd ws)).2 == 2

theorem Rd.setGreat {w : World} {p g : Nat} {ws : List ByteArray} {bad great : Bool} (h : Rd w p g ws bad great) : Rd (w.setCell ⟨p, 2, none⟩ (.bool true)) p g ws bad true := by
  obtain ⟨off, cap, h1, h2, h3, h4⟩ := h.row
  refine h.store (off' := off) (cap' := cap) fun off2 cap2 _ _ _ _ => ⟨?_, h2, h3, h4⟩
  rw [rd_set h1]
  simp [rdRow]

theorem Rd.setBad {w : World} {p g : Nat} {ws : List ByteArray} {bad great : Bool} (b : Bool) (h : Rd w p g ws bad great) : Rd (w.setCell ⟨p, 1, none⟩ (.bool b)) p g ws b great := by
  obtain ⟨off, cap, h1, h2, h3, h4⟩ := h.row
  refine h.store (off' := off) (cap' := cap) fun off2 cap2 _ _ _ _ => ⟨?_, h2, h3, h4⟩
  rw [rd_set h1]
  simp [rdRow]

theorem Rd.facts {w : World} {p g : Nat} {ws : List ByteArray} {bad great : Bool} (h : Rd w p g ws bad great) :
    w.cell? ⟨p, 1, none⟩ = some (.bool bad) ∧ w.cell? ⟨p, 2, none⟩ = some (.bool great) ∧ w.frozen? ⟨p, 1, none⟩ = false ∧ w.frozen? ⟨p, 2, none⟩ = false ∧ p < w.heap.size := by
  obtain ⟨off, cap, h1, h2, h3, h4⟩ := h.row
  obtain ⟨c0, c1, c2, hf, hp⟩ := rd_cells h1
  exact ⟨c1, c2, hf 1, hf 2, hp⟩

set_option maxHeartbeats 1000000 in
theorem number17 {w : World} {p g : Nat} {ws : List ByteArray} {bad great : Bool} (h : Rd w p g ws bad great) (hs : (hd ws).size ≤ 9223372036854775807) (hm : noMinus (hd ws)) :
    Calls Try.prog 17 #[.pointer (some ⟨p, 0, none⟩)] w fun e w' => e = .returned (.int .i64 (parseN (hd ws)).1) ∧ Rd w' p g ws.tail (numBad ws bad) (numGreat ws great) ∧ Only p w w' := by
  have HB : Hid (numBad ws bad = (bad || ws.isEmpty || (parseN (hd ws)).2 == 3)) := Lib.hid rfl
  have HG : Hid (numGreat ws great = (great || (parseN (hd ws)).2 == 2)) := Lib.hid rfl
  rcases parse3 (hd ws) with ⟨m, hle, hp⟩ | hp | hp
  · have HP := Lib.hid hp
    have hle0 : (0 : Int) ≤ (m : Int) := Int.natCast_nonneg _
    clear hp
    go_enter Try.func17, Try.ntmps17
    go_wp2_with (first | (go_at_call 32; refine (take_rd h).mono ?_; rintro e w1 ⟨rfl, hrd, hon⟩) | (go_at_call 31; refine (parse31 _ _ hs hm).mono ?_; rw [HP.out]; rintro e w2 ⟨rfl, hb⟩; have hrd2 := hrd.below hb; have hon2 := hon.trans (Only.of_below hb); clear hrd hon hb))
    go_ret
    rw [HP.out] at HB HG
    refine ⟨by rw [HP.out]; rfl, ?_, hon2⟩
    rw [HB.out, HG.out]
    simpa using hrd2
  · have HP := Lib.hid hp
    clear hp
    go_enter Try.func17, Try.ntmps17
    go_wp2_with (first | (go_at_call 32; refine (take_rd h).mono ?_; rintro e w1 ⟨rfl, hrd, hon⟩) | (go_at_call 31; refine (parse31 _ _ hs hm).mono ?_; rw [HP.out]; rintro e w2 ⟨rfl, hb⟩; have hrd2 := hrd.below hb; have hon2 := hon.trans (Only.of_below hb); clear hrd hon hb; obtain ⟨c1, c2, f1, f2, hpl⟩ := hrd2.facts))
    go_ret
    rw [HP.out] at HB HG
    refine ⟨by rw [HP.out]; rfl, ?_, hon2.trans (Only.setCell _)⟩
    rw [HB.out, HG.out]
    simpa using hrd2.setGreat
  · have HP := Lib.hid hp
    clear hp
    go_enter Try.func17, Try.ntmps17
    go_wp2_with (first | (go_at_call 32; refine (take_rd h).mono ?_; rintro e w1 ⟨rfl, hrd, hon⟩) | (go_at_call 31; refine (parse31 _ _ hs hm).mono ?_; rw [HP.out]; rintro e w2 ⟨rfl, hb⟩; have hrd2 := hrd.below hb; have hon2 := hon.trans (Only.of_below hb); clear hrd hon hb; obtain ⟨c1, c2, f1, f2, hpl⟩ := hrd2.facts))
    go_ret
    rw [HP.out] at HB HG
    refine ⟨by rw [HP.out]; rfl, ?_, hon2.trans (Only.setCell _)⟩
    rw [HB.out, HG.out]
    simpa using hrd2.setBad true
end Go.Proofs

namespace Go.Proofs
open Go.RowKit
set_option maxRecDepth 1000000

def fwdL : List UInt8 := [102, 111, 114, 119, 97, 114, 100]
def bwdL : List UInt8 := [98, 97, 99, 107, 119, 97, 114, 100]
def dirBad (ws : List ByteArray) (bad : Bool) : Bool := (bad || ws.isEmpty) || (!((hd ws).toList == fwdL) && !((hd ws).toList == bwdL))

theorem direction18 {w : World} {p g : Nat} {ws : List ByteArray} {bad great : Bool} (h : Rd w p g ws bad great) :
    Calls Try.prog 18 #[.pointer (some ⟨p, 0, none⟩)] w fun e w' => e = .returned (.bool ((hd ws).toList == bwdL)) ∧ Rd w' p g ws.tail (dirBad ws bad) great ∧ Only p w w' := by
  obtain ⟨db, hdb⟩ : ∃ db, dirBad ws bad = db := ⟨_, rfl⟩
  rw [hdb]
  unfold dirBad fwdL bwdL at hdb
  unfold bwdL
  generalize hbb : (bad || ws.isEmpty) = bb at hdb
  have HB := Lib.hid hbb
  clear hbb
  generalize hq : hd ws = q at hdb ⊢
  have HQ := Lib.hid hq
  clear hq
  cases e1 : (q.toList == [102, 111, 114, 119, 97, 114, 100]) <;> cases e2 : (q.toList == [98, 97, 99, 107, 119, 97, 114, 100]) <;> cases bb
  all_goals
    rw [e1, e2] at hdb
    simp only [Bool.not_true, Bool.not_false, Bool.and_true, Bool.and_false, Bool.or_true, Bool.or_false] at hdb
    subst hdb
    have n1 := congrArg Bool.not e1
    have n2 := congrArg Bool.not e2
    simp only [Bool.not_true, Bool.not_false] at n1 n2
    go_enter Try.func18, Try.ntmps18
    go_wp2_with (go_at_call 32; refine (take_rd h).mono ?_; rw [HQ.out, HB.out]; rintro e w1 ⟨rfl, hrd, hon⟩; obtain ⟨c1, c2, f1, f2, hpl⟩ := hrd.facts)
    go_ret
    exact ⟨rfl, hrd.setBad _, hon.trans (Only.setCell _)⟩
end Go.Proofs

namespace Go.Proofs
open Go.RowKit
set_option maxRecDepth 1000000

def flagHit (ws : List ByteArray) (x : ByteArray) : Bool := match ws with | [] => false | y :: _ => y.toList == x.toList

theorem flag19 {w : World} {p g : Nat} {ws : List ByteArray} {bad great : Bool} (x : ByteArray) (h : Rd w p g ws bad great) :
    Calls Try.prog 19 #[.pointer (some ⟨p, 0, none⟩), .string x] w fun e w' => e = .returned (.bool (flagHit ws x)) ∧ Rd w' p g (bif flagHit ws x then ws.tail else ws) bad great ∧ Only p w w' := by
  obtain ⟨off, cap, k1, k2, k3, k4⟩ := h.row
  unfold maxLen at k3
  obtain ⟨c0, c1, c2, hf, hp⟩ := rd_cells k1
  clear hf k1
  cases ws with
  | nil =>
    clear k4
    go_enter Try.func19, Try.ntmps19
    go_wp2
    go_ret
    exact ⟨rfl, h, Only.refl _ _⟩
  | cons y ys =>
    have ky := k4 0 y rfl
    simp only [Nat.add_zero] at ky
    simp only [List.length_cons] at c0 k2
    have hz : ((ys.length : Int) + 1 == 0) = false := by simp; omega
    have hlt : (0 : Int) < (ys.length : Int) + 1 := by omega
    clear k4
    cases e1 : (y.toList == x.toList)
    · have hfl := Lib.hid (show flagHit (y :: ys) x = false from e1)
      have n1 := congrArg Bool.not e1
      simp only [Bool.not_false] at n1
      go_enter Try.func19, Try.ntmps19
      go_wp2
      go_ret
      refine ⟨by rw [hfl.out]; rfl, ?_, Only.refl _ _⟩
      rw [hfl.out]
      exact h
    · have hfl := Lib.hid (show flagHit (y :: ys) x = true from e1)
      have n1 := congrArg Bool.not e1
      simp only [Bool.not_true] at n1
      go_enter Try.func19, Try.ntmps19
      go_wp2_with (go_at_call 32; refine (take_rd h).mono ?_; rintro e w1 ⟨rfl, hrd, hon⟩)
      go_ret
      refine ⟨by rw [hfl.out]; rfl, ?_, hon⟩
      rw [hfl.out]
      simpa using hrd
end Go.Proofs

namespace Go.Proofs
open Go.RowKit
set_option maxRecDepth 1000000

def isNeg (x : ByteArray) : Bool := Lib.hasPrefix x.data.toList [45]

theorem prefix30 (x : ByteArray) (w : World) : Calls Try.prog 30 #[.string x, .string ⟨#[45]⟩] w fun e w' => e = .returned (.bool (isNeg x)) ∧ w = w' :=
  (Try.strings_HasPrefix x ⟨#[45]⟩ w).mono fun _ _ ⟨h1, h2⟩ => ⟨h1, h2.symm⟩

theorem negative16 (g off cap : Nat) (ws : List ByteArray) (w : World) (hc : ws.length ≤ cap) (hm : cap ≤ 9223372036854775807)
    (hcells : ∀ (j : Nat) x, ws[j]? = some x → w.cell? ⟨g, off + j, none⟩ = some (.string x)) :
    Calls Try.prog 16 #[.slice (some ⟨g, off, none⟩) ws.length cap] w fun e w' => e = .returned (.bool (ws.any isNeg)) ∧ w = w' := by
  have HC := Lib.hid hcells
  clear hcells
  go_enter Try.func16, Try.ntmps16
  go_wp2
  go_loop [7] (fun i => ∃ k : Nat, k ≤ ws.length ∧ i = .int .i64 k ∧ ws.any isNeg = (ws.drop k).any isNeg) (fun i => ws.length - (intOf i).toNat)
  case atStart => exact ⟨0, Nat.zero_le _, rfl, rfl⟩
  case round =>
    obtain ⟨k, hk, rfl, ha⟩ := hrel
    have HA := Lib.hid ha
    clear ha
    by_cases hlt : k < ws.length
    · have hx := HC.out k ws[k] (List.getElem?_eq_getElem hlt)
      generalize hxx : ws[k] = x at hx
      have hd : (ws.drop k).any isNeg = (isNeg x || (ws.drop (k + 1)).any isNeg) := by
        rw [List.drop_eq_getElem_cons hlt, List.any_cons, hxx]
      have HD := Lib.hid hd
      have hkk : (k : Int) < (ws.length : Int) := by omega
      clear hxx hd
      cases hn : isNeg x with
      | true =>
        have HR := Lib.hid (show ws.any isNeg = true by rw [HA.out, HD.out, hn]; rfl)
        have HN := Lib.hid hn
        clear hn
        go_wp2_with (go_at_call 30; refine (prefix30 _ _).mono ?_; rw [HN.out]; rintro e w1 ⟨rfl, rfl⟩)
        go_ret
        exact ⟨by rw [HR.out]; rfl, rfl⟩
      | false =>
        have HR := Lib.hid (show ws.any isNeg = (ws.drop (k + 1)).any isNeg by rw [HA.out, HD.out, hn]; rfl)
        have HN := Lib.hid hn
        clear hn
        go_wp2_with (go_at_call 30; refine (prefix30 _ _).mono ?_; rw [HN.out]; rintro e w1 ⟨rfl, rfl⟩)
        exact ⟨⟨k + 1, by omega, by simp, HR.out⟩, by simp [intOf]; omega⟩
    · have hkk : ¬ (k : Int) < (ws.length : Int) := by omega
      have HR := Lib.hid (show ws.any isNeg = false by rw [HA.out, List.drop_of_length_le (by omega)]; rfl)
      go_wp2
      go_ret
      exact ⟨by rw [HR.out]; rfl, rfl⟩
end Go.Proofs
