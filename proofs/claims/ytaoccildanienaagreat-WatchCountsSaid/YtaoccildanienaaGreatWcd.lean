/-
  A part of the proof: lemmas of my own.
-/
import Derived.Test.YtaoccildanienaaGreatWcz
import Derived.Test.YtaoccildanienaaGreatSvA
import Derived.KernelRfl
import Derived.Test.YtaoccildanienaaGreatAvE
import Derived.Lib.Hide
import Derived.Test.YtaoccildanienaaGreatWca
import Derived.Test.YtaoccildanienaaGreatWRa
import Derived.Test.YtaoccildanienaaGreatWRb
import Derived.Test.YtaoccildanienaaGreatWRc
import Derived.Test.YtaoccildanienaaGreatWRd
import Derived.Test.YtaoccildanienaaGreatXRk
import Derived.Test.YtaoccildanienaaGreatWcc
set_option linter.unusedVariables false
set_option linter.unusedSimpArgs false
namespace Go.Proofs.Wc
open Go Go.AV

theorem hD : DrawOK Tryz.prog := drawOK (by kernel_rfl)

/-! ### entries -/
def pos (v : Int) : List Nat → Nat → Option Nat
  | [], _ => none
  | d :: l, i => if v = (d : Int) then some i else pos v l (i + 1)

theorem eqInt (a b : Int) : prun Tryz.prog (Op.equal 3 (.int .i64 a) (.int .i64 b)) = some (decide (a = b)) := by kernel_rfl

theorem findE_ents (v : Int) : ∀ (ids : List Nat) (i : Nat), findE Tryz.prog 3 (.int .i64 v) (ents ids) i = some ((pos v ids i).map fun j => (j, fV))
  | [], i => rfl
  | d :: l, i => by
    have ih := findE_ents v l (i + 1)
    have e0 : findE Tryz.prog 3 (.int .i64 v) (ents (d :: l)) i = findE Tryz.prog 3 (.int .i64 v) (ent d :: ents l) i := rfl
    rw [e0, findE]
    have e1 : plainV (ent d).key = true := rfl
    have e2 : prun Tryz.prog (Op.equal 3 (.int .i64 v) (ent d).key) = some (decide (v = (d : Int))) := eqInt v d
    rw [e1, e2]
    unfold pos
    by_cases h : v = (d : Int)
    · simp [h, ent]
    · simp [h, ih]

theorem pos_none {v : Int} : ∀ {ids : List Nat} {i : Nat}, pos v ids i = none → ∀ k, k ∈ ids → (k : Int) ≠ v
  | [], i, _, k, hk => by cases hk
  | d :: l, i, h, k, hk => by
    unfold pos at h
    split at h
    · cases h
    · rename_i hne
      rcases List.mem_cons.1 hk with rfl | hk
      · exact fun e => hne e.symm
      · exact pos_none h k hk

theorem pos_some {v : Int} : ∀ {ids : List Nat} {i j : Nat}, pos v ids i = some j → ∃ d, i ≤ j ∧ ids[j - i]? = some d ∧ v = (d : Int)
  | [], i, j, h => by simp [pos] at h
  | d :: l, i, j, h => by
    unfold pos at h
    split at h
    · rename_i e; cases h; exact ⟨d, Nat.le_refl _, by simp, e⟩
    · obtain ⟨d', h1, h2, h3⟩ := pos_some h
      exact ⟨d', by omega, by rw [show j - i = (j - (i + 1)) + 1 by omega]; simpa using h2, h3⟩

theorem pos_fresh {v : Int} {ids : List Nat} (h : ∀ k, k ∈ ids → (k : Int) ≠ v) : pos v ids 0 = none := by
  cases hp : pos v ids 0 with
  | none => rfl
  | some j =>
    obtain ⟨d, _, h2, h3⟩ := pos_some hp
    exact (h d (List.mem_of_getElem? h2) h3.symm).elim

theorem gone_all {v : Int} {ids : List Nat} (h : ∀ k, k ∈ ids → (k : Int) ≠ v) : gone v ids = ids := by
  unfold gone
  rw [List.filter_eq_self]
  intro a ha
  simpa using h a ha

/-- what is dropped at a key -/
theorem drop_ents {v : Int} : ∀ {ids : List Nat} {i j : Nat}, ids.Nodup → pos v ids i = some j → dropAt (j - i) (ents ids) = ents (gone v ids)
  | [], i, j, _, h => by simp [pos] at h
  | d :: l, i, j, hn, h => by
    obtain ⟨hd, hl⟩ := List.nodup_cons.1 hn
    unfold pos at h
    split at h
    · rename_i e
      cases h
      rw [Nat.sub_self]
      show ents l = _
      have : gone v (d :: l) = l := by
        unfold gone
        rw [List.filter_cons, if_neg (by simp [e]), List.filter_eq_self]
        intro a ha
        have : a ≠ d := fun e2 => hd (by rw [← e2]; exact ha)
        simp only [ne_eq, decide_not, Bool.not_eq_eq_eq_not, Bool.not_true, decide_eq_false_iff_not, e]
        omega
      rw [this]
    · rename_i hne
      obtain ⟨_, h1, _, _⟩ := pos_some h
      have ih := drop_ents hl h
      rw [show j - i = (j - (i + 1)) + 1 by omega]
      show ent d :: dropAt (j - (i + 1)) (ents l) = _
      rw [ih]
      have : gone v (d :: l) = d :: gone v l := by
        unfold gone
        rw [List.filter_cons, if_pos (by simp; omega)]
      rw [this]
      rfl

/-! ### nothing points -/
theorem renL_cons {σ : Nat → Option Nat} {v u : Value} {l m : List Value} (h : renV σ v = some u) (k : renL σ l = some m) : renL σ (v :: l) = some (u :: m) := by
  simp only [renL, h, k]
theorem renL_ids (σ : Nat → Option Nat) : ∀ ids : List Nat, renL σ (ids.map iv) = some (ids.map iv)
  | [] => rfl
  | d :: l => by
    exact renL_cons (v := iv d) rfl (renL_ids σ l)
theorem renL_chg (σ : Nat → Option Nat) : ∀ ids : List Nat, renL σ (chg ids) = some (chg ids)
  | [] => rfl
  | d :: l => by
    exact renL_cons (v := iv d) rfl (renL_cons (v := I 4) rfl (renL_chg σ l))
theorem renL_app (σ : Nat → Option Nat) : ∀ {a b : List Value}, renL σ a = some a → renL σ b = some b → renL σ (a ++ b) = some (a ++ b)
  | [], b, _, h => h
  | v :: a, b, ha, hb => by
    simp only [renL] at ha
    split at ha
    · rename_i u hu
      split at ha
      · rename_i m hm
        simp only [Option.some.injEq, List.cons.injEq] at ha
        obtain ⟨rfl, rfl⟩ := ha
        exact renL_cons hu (renL_app σ hm hb)
      · cases ha
    · cases ha
theorem renE_ents (σ : Nat → Option Nat) : ∀ ids : List Nat, renE σ (ents ids) = some (ents ids)
  | [] => rfl
  | d :: l => by
    have ih := renE_ents σ l
    have e0 : renE σ (ents (d :: l)) = renE σ (ent d :: ents l) := rfl
    have e1 : renV σ (ent d).key = some (ent d).key := rfl
    have e2 : renV σ (ent d).val = some (ent d).val := rfl
    rw [e0, renE]
    simp only [e1, e2, ih]
    rfl

theorem renO_ents (σ : Nat → Option Nat) (ids : List Nat) (c : Nat) : renO σ (.map (ents ids) c) = some (.map (ents ids) c) := by
  unfold renO; simp only [renE_ents]
theorem renO_row (σ : Nat → Option Nat) {cs : List Value} (h : renL σ cs = some cs) (a b c : Nat) (x y : Bool) (f : Nat) (o : Bool) : renO σ (.blk (Blk.mk cs a b c x y f o)) = some (.blk (Blk.mk cs a b c x y f o)) := by
  unfold renO; simp only [h]

theorem ents_app (a b : List Nat) : ents (a ++ b) = ents a ++ ents b := by simp [ents]
theorem ents_length (ids : List Nat) : (ents ids).length = ids.length := by simp [ents]

/-! ### cells -/
theorem chg_length : ∀ ids, (chg ids).length = ids.length * 2
  | [] => rfl
  | d :: l => by simp [chg, chg_length l]; omega
theorem chg_app : ∀ (a : List Nat) (d : Nat), chg (a ++ [d]) = chg a ++ [iv d, I 4]
  | [], d => rfl
  | e :: a, d => by simp [chg, chg_app a d]
theorem chg_get : ∀ (ids : List Nat) (k d : Nat), ids[k]? = some d → (chg ids)[k * 2]? = some (iv d) ∧ (chg ids)[k * 2 + 1]? = some (I 4)
  | [], k, d, h => by simp at h
  | e :: l, 0, d, h => by
    simp at h; subst h
    exact ⟨rfl, rfl⟩
  | e :: l, k + 1, d, h => by
    have := chg_get l k d (by simpa using h)
    rw [show (k + 1) * 2 = k * 2 + 1 + 1 by omega]
    exact ⟨by simpa [chg] using this.1, by simpa [chg] using this.2⟩

theorem read_id (ids : List Nat) (k d : Nat) (cp : Nat) (h : ids[k]? = some d) : readB Tryz.prog (Blk.mk (ids.map iv) cp 1 3 false false 0 true) 3 (0 + k * 1) = some (.int .i64 (d : Int)) := by
  have e : readB Tryz.prog (Blk.mk (ids.map iv) cp 1 3 false false 0 true) 3 (0 + k * 1) = nth (ids.map iv) (0 + k * 1) := by kernel_rfl
  rw [e, nth_spec, Nat.zero_add, Nat.mul_one]
  simp [h]

theorem read_chg (ids : List Nat) (k d : Nat) (cp : Nat) (h : ids[k]? = some d) : readB Tryz.prog (Blk.mk (chg ids) cp 2 55 false false 0 true) 55 (0 + k * 2) = some (.agg ⟨[iv d, I 4]⟩) := by
  have e : readB Tryz.prog (Blk.mk (chg ids) cp 2 55 false false 0 true) 55 (0 + k * 2) = (match takeN 2 (dropN (0 + k * 2) (chg ids)) with | some cs => some (.agg ⟨cs⟩) | none => none) := by kernel_rfl
  obtain ⟨h1, h2⟩ := chg_get ids k d h
  rw [e, Nat.zero_add, dropN_spec]
  have : (chg ids).drop (k * 2) = iv d :: I 4 :: (chg ids).drop (k * 2 + 2) := by
    have l1 : k * 2 < (chg ids).length := (List.getElem?_eq_some_iff.1 h1).1
    have l2 : k * 2 + 1 < (chg ids).length := (List.getElem?_eq_some_iff.1 h2).1
    rw [List.drop_eq_getElem_cons l1, List.drop_eq_getElem_cons l2]
    rw [(List.getElem?_eq_some_iff.1 h1).2, (List.getElem?_eq_some_iff.1 h2).2]
  rw [this]
  rfl

theorem wrapN (n : Nat) (h : n < 9000000000000000000) : IntKind.i64.wrap (n : Int) = (n : Int) := by
  rw [IntKind.wrap_i64]; omega

def isF : Option Value → Bool
  | some (.bool false) => true
  | _ => false
theorem isF_ok {o : Option Value} (h : isF o = true) : o = some (.bool false) := by
  unfold isF at h
  split at h
  · rfl
  · cases h
def allF (f : Nat → Option Value) : Nat → Bool
  | 0 => true
  | n + 1 => match isF (f n) with | true => allF f n | false => false
theorem allF_ok {f : Nat → Option Value} : ∀ {n d : Nat}, allF f n = true → d < n → f d = some (.bool false)
  | n + 1, d, h, hd => by
    unfold allF at h
    split at h
    · rename_i hf
      by_cases e : d = n
      · subst e; exact isF_ok hf
      · exact allF_ok h (by omega)
    · cases h

/-- a change is itself -/
theorem bin_chg (d : Nat) (h : d < 64) : binP Tryz.prog .neq 55 (.tmp 189) (.tmp 194) (.agg ⟨[.int .i64 (d : Int), I 4]⟩) (.agg ⟨[.int .i64 (d : Int), I 4]⟩) (.bool false) := by
  unfold binP
  exact allF_ok (f := fun d => prun Tryz.prog (do eqGuard .neq 55 (.tmp 189) (.tmp 194) (.agg ⟨[.int .i64 (d : Int), I 4]⟩) (.agg ⟨[.int .i64 (d : Int), I 4]⟩); binOp .neq 55 (.agg ⟨[.int .i64 (d : Int), I 4]⟩) (.agg ⟨[.int .i64 (d : Int), I 4]⟩))) (n := 64) (by kernel_rfl) h
end Go.Proofs.Wc

namespace Go.Proofs.Wc
open Go Go.AV
set_option linter.unusedVariables false
set_option maxRecDepth 100000

def lowZ : Zone → Bool
  | [] => true
  | (b, _) :: l => match Nat.blt b lim with | true => lowZ l | false => false
theorem lowZ_ok : ∀ {l : Zone}, lowZ l = true → ∀ b o, (b, o) ∈ l → b < lim
  | (b0, o0) :: l, h, b, o, hm => by
    simp only [lowZ] at h
    split at h
    · rename_i hb
      rcases List.mem_cons.1 hm with e | e
      · cases e; rw [Nat.blt_eq] at hb; exact hb
      · exact lowZ_ok h b o e
    · cases h

abbrev A1 (z : T AObj) (f : Nat) (args : List Value) (zone : Zone) (nx nx' : Nat) (v : Value) (zo : Zone) : Prop :=
  CallA Tryz.prog z f args zone nx nx' (fun _ : Unit => True) (fun _ => v) (fun _ => zo)
def Q1 (nx' : Nat) (v : Value) (zo : Zone) : Value → Zone → Nat → Prop := CallQ nx' (fun _ : Unit => True) (fun _ => v) (fun _ => zo)

theorem q1 {nx' : Nat} {v : Value} {zo : Zone} : Q1 nx' v zo v zo nx' := ⟨rfl, (), trivial, rfl, rfl⟩

noncomputable def gW : Nat → List Value → Option Value := by
  classical
  exact fun f args => if f = 15 ∧ args = [jV] then some jV else none
theorem gW15 : gW 15 [jV] = some jV := by unfold gW; simp

section
variable {z : T AObj}

theorem gok0 : GOK Tryz.prog z (fun _ _ => none) := fun _ _ _ h => by cases h

theorem c15 (hz : FrzZ z) : A1 z 15 [jV] [] 0 0 jV [] := by
  obtain ⟨t, ht⟩ := l15 z (fun _ _ => none) (Q1 0 jV []) ⟨rfl, rfl, rfl, rfl, rfl, q1⟩
  exact callA_of hz hD gok0 (fn := Tryz.f15) (by kernel_rfl) (by kernel_rfl) 0 0 ⟨by decide, by decide⟩ _ _ _ (fun _ _ => lowZ_ok (by kernel_rfl)) ht

theorem gokW (hz : FrzZ z) (hown : ∀ k o, z.get k = some o → o.owned = false) : GOK Tryz.prog z gW := by
  intro f args v h
  unfold gW at h
  split at h
  · rename_i e
    obtain ⟨rfl, rfl⟩ := e
    cases h
    exact callZ_ofA hz (c15 hz) (fun _ _ => rfl) (by kernel_rfl) hown (by kernel_rfl)
  · cases h

/-- what a table is -/
structure Tab (z : T AObj) : Prop where
  hz : FrzZ z
  own : ∀ k o, z.get k = some o → o.owned = false

theorem Tab.g (T : Tab z) : GOK Tryz.prog z gW := gokW T.hz T.own

theorem c6n (T : Tab z) : A1 z 6 [.pointer none] [] 0 0 (I 0) [] := by
  obtain ⟨t, ht⟩ := l6n z gW (Q1 0 (I 0) []) ⟨rfl, rfl, rfl, rfl, rfl, q1⟩
  exact callA_of T.hz hD T.g (fn := Tryz.f6) (by kernel_rfl) (by kernel_rfl) 0 0 ⟨by decide, by decide⟩ _ _ _ (fun _ _ => lowZ_ok (by kernel_rfl)) ht

theorem c4n (T : Tab z) : A1 z 4 [.pointer none, .agg ⟨[nilS, nilS, nilS, nilS, nilS, nilS, I 0, I 0, I 0]⟩, .agg ⟨[I 0, I 0, I 0, F0, I 0, I 0, F0, F0, I 0, F0]⟩, jV] [] 0 0 (.tuple ⟨[I 0, I 40]⟩) [] := by
  obtain ⟨t, ht⟩ := l4n z gW (Q1 0 (.tuple ⟨[I 0, I 40]⟩) []) ⟨rfl, rfl, rfl, rfl, rfl, q1⟩
  exact callA_of T.hz hD T.g (fn := Tryz.f4) (by kernel_rfl) (by kernel_rfl) 0 0 ⟨by decide, by decide⟩ _ _ _ (fun _ _ => lowZ_ok (by kernel_rfl)) ht

theorem c5n (T : Tab z) : A1 z 5 [.pointer none, I 1] [] 0 0 (I 40) [] := by
  obtain ⟨t, ht⟩ := l5n z gW (Q1 0 (I 40) []) ⟨rfl, rfl, rfl, rfl, rfl, q1⟩
  exact callA_of T.hz hD T.g (fn := Tryz.f5) (by kernel_rfl) (by kernel_rfl) 0 0 ⟨by decide, by decide⟩ _ _ _ (fun _ _ => lowZ_ok (by kernel_rfl)) ht

theorem c9n (T : Tab z) : A1 z 9 [.pointer none, I 1] [] 0 0 (.tuple ⟨[jV, F0]⟩) [] := by
  obtain ⟨t, ht⟩ := l9n z gW (Q1 0 (.tuple ⟨[jV, F0]⟩) []) ⟨rfl, rfl, rfl, rfl, rfl, q1⟩
  exact callA_of T.hz hD T.g (fn := Tryz.f9) (by kernel_rfl) (by kernel_rfl) 0 0 ⟨by decide, by decide⟩ _ _ _ (fun _ _ => lowZ_ok (by kernel_rfl)) ht

theorem c10 (T : Tab z) : A1 z 10 [] [] 0 2 (ip 0) [(0, wst 0 1), (1, .map [] 0)] := by
  obtain ⟨t, ht⟩ := l10 z gW (Q1 2 (ip 0) [(0, wst 0 1), (1, .map [] 0)]) (by
    repeat' (first | with_reducible exact rfl | with_reducible apply And.intro)
    exact q1)
  exact callA_of T.hz hD T.g (fn := Tryz.f10) (by kernel_rfl) (by kernel_rfl) 0 2 ⟨by decide, by decide⟩ _ _ _ (fun _ _ => lowZ_ok (by kernel_rfl)) ht

theorem c7n (T : Tab z) : A1 z 7 [.pointer none, nV 0, I 5] (nZ 0) 8 8 nilS (nZ 0) := by
  obtain ⟨t, ht⟩ := l7n z gW (Q1 8 nilS (nZ 0)) (by
    repeat' (first | with_reducible exact rfl | with_reducible apply And.intro)
    exact q1)
  exact callA_of T.hz hD T.g (fn := Tryz.f7) (by kernel_rfl) (by kernel_rfl) 8 8 ⟨by decide, by decide⟩ _ _ _ (fun _ _ => lowZ_ok (by kernel_rfl)) ht

/-! ### the closed calls -/
theorem c12 : A1 z 12 [nV 0, qV] (nZ 0) 8 8 (I 0) (nZ 0) :=
  callA_of_plain W50.e3_ok (nZ 0) (by kernel_rfl) (by kernel_rfl) (lowZ_ok (by kernel_rfl)) (by unfold isL; kernel_rfl) (by simp only [W50.e3, isZ, and_true]; refine ⟨?_, ?_, ?_, ?_, ?_, ?_, ?_, ?_⟩ <;> exact ⟨by decide, by kernel_rfl⟩) (by kernel_rfl) rfl rfl
theorem c13 : A1 z 13 [nV 0, qV, jV] (nZ 0) 8 8 (.tuple ⟨[I 0, I 0]⟩) (nZ 0) :=
  callA_of_plain W50.e8_ok (nZ 0) (by kernel_rfl) (by kernel_rfl) (lowZ_ok (by kernel_rfl)) (by unfold isL; kernel_rfl) (by simp only [W50.e8, isZ, and_true]; refine ⟨?_, ?_, ?_, ?_, ?_, ?_, ?_, ?_⟩ <;> exact ⟨by decide, by kernel_rfl⟩) (by kernel_rfl) rfl rfl
theorem c16 : A1 z 16 [nV 0] (nZ 0) 8 8 (.tuple ⟨[I 0, I 0, I 0]⟩) (nZ 0) :=
  callA_of_plain W50.e5_ok (nZ 0) (by kernel_rfl) (by kernel_rfl) (lowZ_ok (by kernel_rfl)) (by unfold isL; kernel_rfl) (by simp only [W50.e5, isZ, and_true]; refine ⟨?_, ?_, ?_, ?_, ?_, ?_, ?_, ?_⟩ <;> exact ⟨by decide, by kernel_rfl⟩) (by kernel_rfl) rfl rfl
theorem c16b : A1 z 16 [bV 0] (bZ 0) 1 1 (.tuple ⟨[I 2, I 0, I 12]⟩) (bZ 0) :=
  callA_of_plain W50.e9_ok (bZ 0) (by kernel_rfl) (by kernel_rfl) (lowZ_ok (by kernel_rfl)) (by unfold isL; kernel_rfl) (by simp only [W50.e9, isZ, and_true]; exact ⟨by decide, by kernel_rfl⟩) (by kernel_rfl) rfl rfl
theorem c18 : A1 z 18 [nV 0, fV, I 5] (nZ 0) 8 8 (.tuple ⟨[I 4, fV]⟩) (nZ 0) :=
  callA_of_plain W50.e18_ok (nZ 0) (by kernel_rfl) (by kernel_rfl) (lowZ_ok (by kernel_rfl)) (by unfold isL; kernel_rfl) (by simp only [W50.e18, isZ, and_true]; refine ⟨?_, ?_, ?_, ?_, ?_, ?_, ?_, ?_⟩ <;> exact ⟨by decide, by kernel_rfl⟩) (by kernel_rfl) rfl rfl

/-- the network of the law -/
theorem c8 (hz : FrzZ z) : A1 z 8 [] [] 0 8 (nV 0) (nZ 0) := by
  refine callA_of_ent hz W50.e0_ok [] (nZ 0) 8 [(0, 1), (1, 2), (2, 16), (3, 6), (4, 9), (5, 12), (6, 15), (7, 17)] (nV 0) (by kernel_rfl) (by kernel_rfl) (by kernel_rfl) (lowZ_ok (by kernel_rfl)) ?_ (by kernel_rfl)
  refine ⟨by kernel_rfl, by kernel_rfl, by kernel_rfl, by kernel_rfl, ?_, ?_, ?_, ?_, ?_, ?_, ?_, ?_, trivial⟩ <;> (show _ = _; kernel_rfl)

/-- the example -/
theorem c11 (zone : Zone) (hl : lowZ zone = true) : A1 z 11 [] zone 0 0 T1 zone := by
  refine ⟨Nat.le_refl _, by decide, fun _ _ => lowZ_ok hl, fun ρ w args' n hargs hh hf => ?_⟩
  cases hargs
  have h := calls_of_ent (f := 11) e61_ok w
  refine (callsIn_wide.2 h).mono fun e w' hp => ?_
  obtain ⟨rfl, h1, h2, h3, h4, h5⟩ := hp
  refine ⟨(), trivial, ρ, _, rfl, .sc _ rfl, ⟨fun b o hb => ?_, hh.inj⟩, ⟨h1, h2, h3, h4, fun r hr _ => h5 r hr, fun b o L h ho hL => .inl ⟨b, o, L, h, ho, hL, rfl⟩, fun b o L h hL => .inl ⟨b, o, L, h, hL, rfl⟩, Ren.le.refl _, fun _ _ => rfl⟩⟩
  obtain ⟨L, x, k1, k2, k3⟩ := hh.obj b o hb
  exact ⟨L, x, k1, by rw [h5 _ (Array.getElem?_eq_some_iff.1 k2).1]; exact k2, k3⟩
end
end Go.Proofs.Wc

namespace Go.Proofs.Wc
open Go Go.AV
set_option linter.unusedVariables false
set_option maxRecDepth 100000

section
variable {z : T AObj}

theorem wrap1 {n : Nat} (h : n < 1000000) : Value.int .i64 (IntKind.i64.wrap ((n : Int) + 1)) = Value.int .i64 ((n + 1 : Nat) : Int) := by
  rw [show ((n : Int) + 1) = ((n + 1 : Nat) : Int) by omega, wrapN _ (by omega)]

theorem c14 (T : Tab z) (last c : Nat) (ids : List Nat) (h : last < 1000) : A1 z 14 [ip 0] [(0, wst last 1), (1, .map (ents ids) c)] 2 2 (iv (last + 1)) [(0, wst (last + 1) 1), (1, .map (ents ids) c)] := by
  obtain ⟨t, ht⟩ := l14 z gW last c (ents ids) (Q1 2 (iv (last + 1)) [(0, wst (last + 1) 1), (1, .map (ents ids) c)]) (by
    repeat' (first | with_reducible exact rfl | with_reducible apply And.intro | exact renO_ents _ _ _ | exact wrap1 (by omega) | exact q1))
  exact callA_of T.hz hD T.g (fn := Tryz.f14) (by kernel_rfl) (by kernel_rfl) 2 2 ⟨by decide, by decide⟩ _ _ _ (fun _ _ => lowZ_ok (by kernel_rfl)) ht

theorem c6 (T : Tab z) (last c : Nat) (ids : List Nat) : A1 z 6 [ip 0] [(0, wst last 1), (1, .map (ents ids) c)] 2 2 (iv (ents ids).length) [(0, wst last 1), (1, .map (ents ids) c)] := by
  obtain ⟨t, ht⟩ := l6 z gW last c (ents ids) (Q1 2 (iv (ents ids).length) [(0, wst last 1), (1, .map (ents ids) c)]) (by
    repeat' (first | with_reducible exact rfl | with_reducible apply And.intro | exact renO_ents _ _ _ | exact q1))
  exact callA_of T.hz hD T.g (fn := Tryz.f6) (by kernel_rfl) (by kernel_rfl) 2 2 ⟨by decide, by decide⟩ _ _ _ (fun _ _ => lowZ_ok (by kernel_rfl)) ht

/-- Follow -/
theorem c4 (T : Tab z) (last : Nat) (ids : List Nat) (h : last < 1000) (hf : ∀ k, k ∈ ids → k ≤ last) :
    A1 z 4 [ip 0, nV 2, qV, jV] ((0, wst last 1) :: (1, .map (ents ids) last) :: nZ 2) 10 10 (.tuple ⟨[iv (last + 1), I 0]⟩) ((0, wst (last + 1) 1) :: (1, .map (ents (ids ++ [last + 1])) (last + 1)) :: nZ 2) := by
  have hfr : findE Tryz.prog 3 (.int .i64 ((last + 1 : Nat) : Int)) (ents ids) 0 = some none := by
    rw [findE_ents, pos_fresh]
    · rfl
    · intro k hk
      have := hf k hk
      omega
  have hent : ents ids ++ [{ key := .int .i64 ((last + 1 : Nat) : Int), val := fV, born := last }] = ents (ids ++ [last + 1]) := by
    rw [ents_app]; rfl
  obtain ⟨t, ht⟩ := l4 z gW last last (ents ids) (Q1 10 (.tuple ⟨[iv (last + 1), I 0]⟩) ((0, wst (last + 1) 1) :: (1, .map (ents (ids ++ [last + 1])) (last + 1)) :: nZ 2)) (by
    rw [hent]
    repeat' (first | with_reducible exact rfl | with_reducible apply And.intro | exact renO_ents _ _ _ | intro _ | exact c12 | exact c13 | exact c14 T last last ids h | exact gW15 | exact hfr | exact q1))
  exact callA_of T.hz hD T.g (fn := Tryz.f4) (by kernel_rfl) (by kernel_rfl) 10 10 ⟨by decide, by decide⟩ _ _ _ (fun _ _ => lowZ_ok (by kernel_rfl)) ht

/-- Drop -/
theorem c5 (T : Tab z) (last : Nat) (ids : List Nat) (y : Int) (hn : ids.Nodup) :
    CallA Tryz.prog z 5 [ip 0, .int .i64 y] [(0, wst last 1), (1, .map (ents ids) last)] 2 2 (fun e : Nat => (e = 0 ∧ ∃ k, k ∈ ids ∧ (k : Int) = y) ∨ (e = 7 ∧ ∀ k, k ∈ ids → (k : Int) ≠ y)) (fun e => iv e) (fun _ => [(0, wst last 1), (1, .map (ents (gone y ids)) last)]) := by
  obtain ⟨t, ht⟩ := l5 z gW last last (ents ids) y (CallQ 2 (fun e : Nat => (e = 0 ∧ ∃ k, k ∈ ids ∧ (k : Int) = y) ∨ (e = 7 ∧ ∀ k, k ∈ ids → (k : Int) ≠ y)) (fun e => iv e) (fun _ => [(0, wst last 1), (1, .map (ents (gone y ids)) last)])) (by
    refine ⟨by rw [findE_ents]; simp, fun p hp => ?_, fun i hi => ?_, fun hno => ?_⟩
    · rw [findE_ents] at hp
      cases hq : pos y ids 0 with
      | none => rw [hq] at hp; cases hp
      | some j => rw [hq] at hp; cases hp; exact ⟨j, rfl⟩
    · have hp : pos y ids 0 = some i := by
        rw [findE_ents] at hi
        cases hq : pos y ids 0 with
        | none => rw [hq] at hi; cases hi
        | some j => rw [hq] at hi; cases hi; rfl
      have hd := drop_ents hn hp
      rw [Nat.sub_zero] at hd
      obtain ⟨d, _, h2, h3⟩ := pos_some hp
      rw [hd]
      repeat' (first | with_reducible exact rfl | with_reducible apply And.intro | exact renO_ents _ _ _ | exact hi)
      exact ⟨rfl, 0, .inl ⟨rfl, d, List.mem_of_getElem? h2, h3.symm⟩, rfl, rfl⟩
    · have hp : pos y ids 0 = none := by
        rw [findE_ents] at hno
        cases hq : pos y ids 0 with
        | none => rfl
        | some j => rw [hq] at hno; cases hno
      repeat' (first | with_reducible exact rfl | with_reducible apply And.intro | exact renO_ents _ _ _)
      exact ⟨rfl, 7, .inr ⟨rfl, pos_none hp⟩, rfl, by rw [gone_all (pos_none hp)]; rfl⟩)
  exact callA_of T.hz hD T.g (fn := Tryz.f5) (by kernel_rfl) (by kernel_rfl) 2 2 ⟨by decide, by decide⟩ _ _ _ (fun _ _ => lowZ_ok (by kernel_rfl)) ht

/-- Update without effect -/
theorem c7b (T : Tab z) (last : Nat) (ids : List Nat) : A1 z 7 [ip 0, bV 2, I 5] ((0, wst last 1) :: (1, .map (ents ids) last) :: bZ 2) 3 3 nilS ((0, wst last 1) :: (1, .map (ents ids) last) :: bZ 2) := by
  obtain ⟨t, ht⟩ := l7b z gW last last (ents ids) (Q1 3 nilS ((0, wst last 1) :: (1, .map (ents ids) last) :: bZ 2)) (by
    repeat' (first | with_reducible exact rfl | with_reducible apply And.intro | exact renO_ents _ _ _ | intro _ | exact c16b | exact q1))
  exact callA_of T.hz hD T.g (fn := Tryz.f7) (by kernel_rfl) (by kernel_rfl) 3 3 ⟨by decide, by decide⟩ _ _ _ (fun _ _ => lowZ_ok (by kernel_rfl)) ht

theorem c7m (T : Tab z) (last : Nat) (ids : List Nat) : A1 z 7 [ip 0, nV 2, J 0] ((0, wst last 1) :: (1, .map (ents ids) last) :: nZ 2) 10 10 nilS ((0, wst last 1) :: (1, .map (ents ids) last) :: nZ 2) := by
  obtain ⟨t, ht⟩ := l7m z gW last last (ents ids) (Q1 10 nilS ((0, wst last 1) :: (1, .map (ents ids) last) :: nZ 2)) (by
    repeat' (first | with_reducible exact rfl | with_reducible apply And.intro | exact renO_ents _ _ _ | intro _ | exact q1))
  exact callA_of T.hz hD T.g (fn := Tryz.f7) (by kernel_rfl) (by kernel_rfl) 10 10 ⟨by decide, by decide⟩ _ _ _ (fun _ _ => lowZ_ok (by kernel_rfl)) ht

end
end Go.Proofs.Wc

namespace Go.Proofs.Wc
open Go Go.AV
set_option linter.unusedVariables false
set_option maxRecDepth 100000

section
variable {z : T AObj}

theorem find_head (d : Nat) (l : List Nat) : findE Tryz.prog 3 (.int .i64 (d : Int)) (ents (d :: l)) 0 = some (some (0, fV)) := by
  rw [findE_ents]; simp [pos]

theorem pos_head {d j : Nat} : ∀ {l : List Nat}, (∀ k, k ∈ l → d ≤ k) → l.Pairwise (· < ·) → pos (d : Int) l 0 = some j → ∃ tl, l = d :: tl ∧ j = 0
  | [], _, _, h => by simp [pos] at h
  | a :: l, hl, hs, h => by
    obtain ⟨e, _, h2, h3⟩ := pos_some h
    have he : e = d := by omega
    subst he
    cases j with
    | zero => simp at h2; subst h2; exact ⟨l, rfl, rfl⟩
    | succ j =>
      have hm : e ∈ l := List.mem_of_getElem? (by simpa using h2)
      have h4 := (List.pairwise_cons.1 hs).1 e hm
      have h5 := hl a (List.mem_cons_self ..)
      omega

/-- settle, the first change -/
theorem c17n (T : Tab z) (d last c : Nat) (tl : List Nat) : A1 z 17 [iv d, fV, ip 0, ip 9, ip 10, ip 11] (s17n last c (ents (d :: tl))) 14 15 (.tuple ⟨[]⟩) (s17n' d last c (ents tl)) := by
  have hd : dropAt 0 (ents (d :: tl)) = ents tl := rfl
  obtain ⟨t, ht⟩ := l17n z gW d last c 0 (ents (d :: tl)) (Q1 15 (.tuple ⟨[]⟩) (s17n' d last c (ents tl))) (by
    rw [hd]
    repeat' (first | with_reducible exact rfl | with_reducible apply And.intro | exact renO_ents _ _ _ | intro _ | exact c18 | exact find_head d tl | exact q1))
  exact callA_of T.hz hD T.g (fn := Tryz.f17) (by kernel_rfl) (by kernel_rfl) 14 15 ⟨by decide, by decide⟩ _ _ _ (fun _ _ => lowZ_ok (by kernel_rfl)) ht

/-- .. a further one -/
theorem c17r (T : Tab z) (d last c : Nat) (l tl : List Nat) (hl : l.length < 1000) : A1 z 17 [iv d, fV, ip 0, ip 9, ip 10, ip 12] (s17r l last c (ents (d :: tl))) 15 16 (.tuple ⟨[]⟩) (s17r' d l last c (ents tl)) := by
  have hd : dropAt 0 (ents (d :: tl)) = ents tl := rfl
  have hlen : l.length + 1 ≤ 1048576 := by omega
  obtain ⟨t, ht⟩ := l17r z gW d last c 0 (ents (d :: tl)) l (Q1 16 (.tuple ⟨[]⟩) (s17r' d l last c (ents tl))) (by
    rw [hd]
    repeat' (first | with_reducible exact rfl | with_reducible apply And.intro | exact renO_ents _ _ _ | exact renO_row _ (renL_chg _ _) _ _ _ _ _ _ _ | exact renO_row _ (renL_app _ (renL_chg _ _) rfl) _ _ _ _ _ _ _ | intro _ | exact c18 | exact find_head d tl | exact chg_length l | exact hlen | exact q1))
  exact callA_of T.hz hD T.g (fn := Tryz.f17) (by kernel_rfl) (by kernel_rfl) 15 16 ⟨by decide, by decide⟩ _ _ _ (fun _ _ => lowZ_ok (by kernel_rfl)) ht

theorem zn7r_app (l : List Nat) (d last c : Nat) (es : List MapEntry) : (0, wst last 1) :: (1, .map es c) :: nZ 2 ++ [(10, wBox 0), (11, nBox 2), (12, nowB), (13, outB (sl 14 (l.length + 1))), (14, rowB (chg l ++ [iv d, I 4]) ((l.length + 1) * 2) 2 55)] = zn7r (l ++ [d]) last c es := by
  unfold zn7r chgB
  rw [chg_app, List.length_append]
  rfl

/-- the states of Update's loop -/
structure U7 where
  d : Nat
  done : List Nat
  rest : List Nat
def zn7 (last : Nat) (x : U7) : Zone := match x.done with
  | [] => zn7n last last (ents x.rest)
  | a :: l => zn7r (a :: l) last last (ents x.rest)
def I7 (last : Nat) (ids : List Nat) (x : U7) : Prop := x.done ++ x.rest = ids ∧ x.rest.Pairwise (· < ·) ∧ (∀ k, k ∈ x.rest → x.d ≤ k ∧ k ≤ last) ∧ 1 ≤ x.d ∧ x.d ≤ last + 1

theorem I7.skip {last : Nat} {ids : List Nat} {x : U7} (h : I7 last ids x) (hd : x.d ≤ last) (hno : pos (x.d : Int) x.rest 0 = none) : I7 last ids ⟨x.d + 1, x.done, x.rest⟩ := by
  obtain ⟨h1, h2, h3, h4, h5⟩ := h
  refine ⟨h1, h2, fun k hk => ?_, by show 1 ≤ x.d + 1; omega, by show x.d + 1 ≤ last + 1; omega⟩
  have := h3 k hk
  have := pos_none hno k hk
  show x.d + 1 ≤ k ∧ k ≤ last
  omega

theorem I7.take {last d : Nat} {ids done tl : List Nat} (h : I7 last ids ⟨d, done, d :: tl⟩) : I7 last ids ⟨d + 1, done ++ [d], tl⟩ := by
  obtain ⟨h1, h2, h3, h4, h5⟩ := h
  obtain ⟨h2, h6⟩ := List.pairwise_cons.1 h2
  have h7 := h3 d (List.mem_cons_self ..)
  refine ⟨?_, h6, fun k hk => ?_, by show 1 ≤ d + 1; omega, by show d + 1 ≤ last + 1; omega⟩
  · rw [← h1]; show done ++ [d] ++ tl = done ++ (d :: tl); simp
  · have := h2 k hk
    have := (h3 k (List.mem_cons_of_mem _ hk)).2
    show d + 1 ≤ k ∧ k ≤ last
    omega

theorem findNone {v : Int} {l : List Nat} (h : findE Tryz.prog 3 (.int .i64 v) (ents l) 0 = some none) : pos v l 0 = none := by
  rw [findE_ents] at h
  cases hq : pos v l 0 with
  | none => rfl
  | some j => rw [hq] at h; cases h
theorem findSome {v : Int} {l : List Nat} {p : Nat × Value} (h : findE Tryz.prog 3 (.int .i64 v) (ents l) 0 = some (some p)) : pos v l 0 = some p.1 ∧ p.2 = fV := by
  rw [findE_ents] at h
  cases hq : pos v l 0 with
  | none => rw [hq] at h; cases h
  | some j => rw [hq] at h; cases h; exact ⟨rfl, rfl⟩

theorem loop7 (T : Tab z) (last : Nat) (ids : List Nat) (hl : last < 100) (hlen : ids.length < 1000) (R : Out' → Prop) (hR : R (.exit 0, [(3, ip 10), (10, ip 13)], zn7 last ⟨0, ids, []⟩, 15))
    (x0 : U7) (h0 : I7 last ids x0) : LoopA Tryz.prog z (loopN (bodyOf Tryz.f7) 0) 14 58 (lv7 x0.d) (zn7 last x0) 15 R := by
  refine loopA_of T.hz hD T.g (α := U7) 14 58 15 (I7 last ids) (fun x => lv7 x.d) (zn7 last) (fun x => last + 1 - x.d) R (fun x hx => ?_) x0 h0
  obtain ⟨d, done, rest⟩ := x
  have hx0 := hx
  obtain ⟨i1, i2, i3, i4, i5⟩ := hx
  simp only at i1 i2 i3 i4 i5
  -- the end
  have hend : decide ((d : Int) ≤ (last : Int)) = false → rest = [] ∧ done = ids := by
    intro h
    have h := of_decide_eq_false h
    have hr : rest = [] := by
      cases rest with
      | nil => rfl
      | cons a l => have := i3 a (List.mem_cons_self ..); omega
    subst hr
    exact ⟨rfl, by simpa using i1⟩
  have hfind : ∀ p, findE Tryz.prog 3 (.int .i64 (d : Int)) (ents rest) 0 = some (some p) → p = (0, fV) := by
    intro p hp
    obtain ⟨p1, p2⟩ := findSome hp
    obtain ⟨tl, e1, e2⟩ := pos_head (fun k hk => (i3 k hk).1) i2 p1
    obtain ⟨a, b⟩ := p
    simp only at e2 p2
    rw [e2, p2]
  have hhead : findE Tryz.prog 3 (.int .i64 (d : Int)) (ents rest) 0 = some (some (0, fV)) → ∃ tl, rest = d :: tl := by
    intro hp
    obtain ⟨p1, p2⟩ := findSome hp
    obtain ⟨tl, e1, e2⟩ := pos_head (fun k hk => (i3 k hk).1) i2 p1
    exact ⟨tl, e1⟩
  have hne : findE Tryz.prog 3 (.int .i64 (d : Int)) (ents rest) 0 ≠ none := by rw [findE_ents]; simp
  cases done with
  | nil =>
    obtain ⟨t, ht⟩ := r7n z gW d last last (ents rest) (LoopQ (I7 last ids) (fun x => lv7 x.d) (zn7 last) 15 (fun x => last + 1 - x.d) R ⟨d, [], rest⟩) (by
      refine ⟨fun hd => ⟨hne, fun p hp => ⟨(), hfind p hp⟩, fun _ hf => ?_, fun hno => ?_⟩, fun hd => ?_⟩
      · obtain ⟨tl, rfl⟩ := hhead hf
        have hdr : dropAt 0 (ents (d :: tl)) = ents tl := rfl
        rw [hdr]
        repeat' (first | with_reducible exact rfl | with_reducible apply And.intro | exact renO_ents _ _ _ | intro _ | exact c17n T d last last tl | exact wrap1 (by omega))
        exact ⟨⟨d + 1, [d], tl⟩, rfl, rfl, rfl, I7.take hx0, by have := of_decide_eq_true hd; show last + 1 - (d + 1) < last + 1 - d; omega⟩
      · repeat' (first | with_reducible exact rfl | with_reducible apply And.intro | exact renO_ents _ _ _ | intro _ | exact wrap1 (by omega))
        exact ⟨⟨d + 1, [], rest⟩, rfl, rfl, rfl, I7.skip hx0 (by have := of_decide_eq_true hd; show d ≤ last; omega) (findNone hno), by have := of_decide_eq_true hd; show last + 1 - (d + 1) < last + 1 - d; omega⟩
      · obtain ⟨rfl, rfl⟩ := hend hd
        repeat' (first | with_reducible exact rfl | with_reducible apply And.intro | exact renO_ents _ _ _)
        exact hR)
    exact ⟨_, t, ht⟩
  | cons a l =>
    have hll : (a :: l).length < 1000 := by
      have : ids.length = (a :: l).length + rest.length := by rw [← i1, List.length_append]
      omega
    obtain ⟨t, ht⟩ := r7r z gW d last last (ents rest) (a :: l) (LoopQ (I7 last ids) (fun x => lv7 x.d) (zn7 last) 15 (fun x => last + 1 - x.d) R ⟨d, a :: l, rest⟩) (by
      refine ⟨fun hd => ⟨hne, fun p hp => ⟨(), hfind p hp⟩, fun _ hf => ?_, fun hno => ?_⟩, fun hd => ?_⟩
      · obtain ⟨tl, rfl⟩ := hhead hf
        have hdr : dropAt 0 (ents (d :: tl)) = ents tl := rfl
        rw [hdr]
        repeat' (first | with_reducible exact rfl | with_reducible apply And.intro | exact renO_ents _ _ _ | exact renO_row _ (renL_chg _ _) _ _ _ _ _ _ _ | exact renO_row _ (renL_app _ (renL_chg _ _) rfl) _ _ _ _ _ _ _ | intro _ | exact c17r T d last last (a :: l) tl hll | exact wrap1 (by omega))
        exact ⟨⟨d + 1, (a :: l) ++ [d], tl⟩, rfl, zn7r_app (a :: l) d last last (ents tl), rfl, I7.take hx0, by have := of_decide_eq_true hd; show last + 1 - (d + 1) < last + 1 - d; omega⟩
      · repeat' (first | with_reducible exact rfl | with_reducible apply And.intro | exact renO_ents _ _ _ | exact renO_row _ (renL_chg _ _) _ _ _ _ _ _ _ | intro _ | exact wrap1 (by omega))
        exact ⟨⟨d + 1, a :: l, rest⟩, rfl, rfl, rfl, I7.skip hx0 (by have := of_decide_eq_true hd; show d ≤ last; omega) (findNone hno), by have := of_decide_eq_true hd; show last + 1 - (d + 1) < last + 1 - d; omega⟩
      · obtain ⟨rfl, rfl⟩ := hend hd
        repeat' (first | with_reducible exact rfl | with_reducible apply And.intro | exact renO_ents _ _ _ | exact renO_row _ (renL_chg _ _) _ _ _ _ _ _ _)
        exact hR)
    exact ⟨_, t, ht⟩

end
end Go.Proofs.Wc

namespace Go.Proofs.Wc
open Go Go.AV
set_option linter.unusedVariables false
set_option maxRecDepth 100000

section
variable {z : T AObj}

theorem altR {φ : Prop} {o : Out'} {l : Al} (h : φ) : Al.R (alt φ o l) o := .inl ⟨(), h, rfl⟩
theorem altR2 {φ : Prop} {o o' : Out'} {l : Al} (h : Al.R l o') : Al.R (alt φ o l) o' := .inr h
theorem alt7R {zo : Zone} : Al.R (alt7 zo) (.exit 0, [(3, ip 10), (10, ip 13)], zo, 15) := .inl ⟨(), trivial, rfl⟩

theorem I7.init {last : Nat} {ids : List Nat} (hs : ids.Pairwise (· < ·)) (hb : ∀ k, k ∈ ids → 1 ≤ k ∧ k ≤ last) : I7 last ids ⟨1, [], ids⟩ :=
  ⟨rfl, hs, hb, Nat.le_refl _, by show 1 ≤ last + 1; omega⟩

/-- Update of a watch without entries -/
theorem c7e (T : Tab z) (last : Nat) (hl : last < 100) : A1 z 7 [ip 0, nV 2, I 5] ((0, wst last 1) :: (1, .map (ents []) last) :: nZ 2) 10 10 nilS ((0, wst last 1) :: (1, .map (ents []) last) :: nZ 2) := by
  have hloop := loop7 T last [] hl (by decide) (Al.R (alt7 (zn7n last last (ents [])))) alt7R ⟨1, [], []⟩ (I7.init .nil (fun k hk => nomatch hk))
  obtain ⟨t, ht⟩ := l7e z gW last (Q1 10 nilS ((0, wst last 1) :: (1, .map (ents []) last) :: nZ 2)) (by
    repeat' (first | with_reducible exact rfl | with_reducible apply And.intro | exact renO_ents _ [] _ | exact hloop | intro _ | exact c16 | exact q1))
  exact callA_of T.hz hD T.g (fn := Tryz.f7) (by kernel_rfl) (by kernel_rfl) 10 10 ⟨by decide, by decide⟩ _ _ _ (fun _ _ => lowZ_ok (by kernel_rfl)) ht

/-- .. with entries: all are done -/
theorem c7f (T : Tab z) (last : Nat) (hl : last < 100) (a : Nat) (l : List Nat) (hs : (a :: l).Pairwise (· < ·)) (hb : ∀ k, k ∈ a :: l → 1 ≤ k ∧ k ≤ last) (hlen : (a :: l).length < 1000) :
    A1 z 7 [ip 0, nV 2, I 5] ((0, wst last 1) :: (1, .map (ents (a :: l)) last) :: nZ 2) 10 11 (sl 10 (a :: l).length) ((0, wst last 1) :: (1, .map (ents []) last) :: nZ 2 ++ [(10, chgB (a :: l))]) := by
  have hloop := loop7 T last (a :: l) hl hlen (Al.R (alt7 (zn7r (a :: l) last last (ents [])))) alt7R ⟨1, [], a :: l⟩ (I7.init hs hb)
  obtain ⟨t, ht⟩ := l7f z gW last (a :: l) (Q1 11 (sl 10 (a :: l).length) ((0, wst last 1) :: (1, .map (ents []) last) :: nZ 2 ++ [(10, chgB (a :: l))])) (by
    repeat' (first | with_reducible exact rfl | with_reducible apply And.intro | exact renO_ents _ _ _ | exact renO_ents _ [] _ | exact renO_row _ (renL_chg _ _) _ _ _ _ _ _ _ | exact hloop | intro _ | exact c16 | exact q1))
  exact callA_of T.hz hD T.g (fn := Tryz.f7) (by kernel_rfl) (by kernel_rfl) 10 11 ⟨by decide, by decide⟩ _ _ _ (fun _ _ => lowZ_ok (by kernel_rfl)) ht

end
end Go.Proofs.Wc
