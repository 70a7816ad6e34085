/-
  A part of the proof: lemmas of my own.
-/
import Derived.Test.YtamocmgfbonodaaGreatProg
import Derived.WalkKit
import Derived.Below
import Derived.Lib.Hide
import Derived.LoopTactic
import Derived.Laws.IdiomStrings
import Derived.Maps.OwnOps
import Derived.Maps.Views
import Derived.Carry
import Derived.OwnWalk
import Derived.KernelRfl
import Derived.StringKeys
import Derived.Deep.DeepCutAuto
set_option linter.unusedVariables false
set_option linter.unusedSimpArgs false
namespace Go.Proofs.Tt
open Go Go.Proofs
open Go.RowKit
set_option maxRecDepth 1000000

/-- a character of an identifier -/
def okC (c : UInt8) : Bool := (97 ≤ c.toNat && c.toNat ≤ 122) || (65 ≤ c.toNat && c.toNat ≤ 90) || (48 ≤ c.toNat && c.toNat ≤ 57) || c.toNat == 45 || c.toNat == 95 || c.toNat == 46
def okId (s : ByteArray) : Bool := s.data.toList.all okC && decide (0 < s.size) && decide (s.size ≤ 32)

theorem id_drop (s : ByteArray) (k : Nat) (h : k < s.size) : (s.data.toList.drop k).all okC = (okC (s[k]'h) && (s.data.toList.drop (k + 1)).all okC) := by
  have e : s.data.toList.drop k = (s[k]'h) :: s.data.toList.drop (k + 1) := by rw [List.drop_eq_getElem_cons (by simpa using h)]; rfl
  rw [e]; rfl
theorem id_end (s : ByteArray) (k : Nat) (h : s.size ≤ k) : (s.data.toList.drop k).all okC = true := by
  rw [List.drop_of_length_le (by simpa using h)]; rfl

theorem id_cases (n : Nat) : (97 ≤ n ∧ n ≤ 122) ∨ (65 ≤ n ∧ n ≤ 90) ∨ (48 ≤ n ∧ n ≤ 57) ∨ n = 45 ∨ n = 95 ∨ n = 46 ∨ (¬ (97 ≤ n ∧ n ≤ 122) ∧ ¬ (65 ≤ n ∧ n ≤ 90) ∧ ¬ (48 ≤ n ∧ n ≤ 57) ∧ n ≠ 45 ∧ n ≠ 95 ∧ n ≠ 46) := by omega

theorem okC_iff (c : UInt8) : okC c = true ↔ ((97 ≤ c.toNat ∧ c.toNat ≤ 122) ∨ (65 ≤ c.toNat ∧ c.toNat ≤ 90) ∨ (48 ≤ c.toNat ∧ c.toNat ≤ 57) ∨ c.toNat = 45 ∨ c.toNat = 95 ∨ c.toNat = 46) := by
  simp [okC, or_assoc]
theorem okC_iff_no (c : UInt8) : okC c = false ↔ ¬ ((97 ≤ c.toNat ∧ c.toNat ≤ 122) ∨ (65 ≤ c.toNat ∧ c.toNat ≤ 90) ∨ (48 ≤ c.toNat ∧ c.toNat ≤ 57) ∨ c.toNat = 45 ∨ c.toNat = 95 ∨ c.toNat = 46) := by
  rw [← okC_iff]; simp

set_option maxHeartbeats 8000000 in
theorem valid24 (s : ByteArray) (w : World) (hs : s.size ≤ 9223372036854775807) : Calls Tryz.prog 56 #[.string s] w fun e w' => e = .returned (.bool (okId s)) ∧ w = w' := by
  go_enter Tryz.func56, Tryz.ntmps56
  go_wp2
  go_loop [3] (fun i => ∃ k : Nat, k ≤ s.size ∧ i = .int .i64 k ∧ (s.data.toList.drop k).all okC = s.data.toList.all okC) (fun i => s.size - (intOf i).toNat)
  case atStart => exact ⟨0, Nat.zero_le _, rfl, rfl⟩
  case round =>
    obtain ⟨k, hk, rfl, hv⟩ := hrel
    have HV := Lib.hid hv
    clear hv
    by_cases hlt : k < s.size
    · have HD := Lib.hid (id_drop s k hlt)
      have hb : (s[k]'hlt).toNat < 256 := (s[k]'hlt).toNat_lt
      have hcat : (0 ≤ (s[k]'hlt).toNat ∧ (s[k]'hlt).toNat ≤ 44) ∨ (45 ≤ (s[k]'hlt).toNat ∧ (s[k]'hlt).toNat ≤ 45) ∨ (46 ≤ (s[k]'hlt).toNat ∧ (s[k]'hlt).toNat ≤ 46) ∨ (47 ≤ (s[k]'hlt).toNat ∧ (s[k]'hlt).toNat ≤ 47) ∨ (48 ≤ (s[k]'hlt).toNat ∧ (s[k]'hlt).toNat ≤ 57) ∨ (58 ≤ (s[k]'hlt).toNat ∧ (s[k]'hlt).toNat ≤ 64) ∨ (65 ≤ (s[k]'hlt).toNat ∧ (s[k]'hlt).toNat ≤ 90) ∨ (91 ≤ (s[k]'hlt).toNat ∧ (s[k]'hlt).toNat ≤ 94) ∨ (95 ≤ (s[k]'hlt).toNat ∧ (s[k]'hlt).toNat ≤ 95) ∨ (96 ≤ (s[k]'hlt).toNat ∧ (s[k]'hlt).toNat ≤ 96) ∨ (97 ≤ (s[k]'hlt).toNat ∧ (s[k]'hlt).toNat ≤ 122) ∨ (123 ≤ (s[k]'hlt).toNat ∧ (s[k]'hlt).toNat ≤ 255) := by omega
      rcases hcat with hcat | hcat | hcat | hcat | hcat | hcat | hcat | hcat | hcat | hcat | hcat | hcat
      · have x0 : ¬ 97 ≤ (s[k]'hlt).toNat := by omega
        have y0 : ¬ (97 : Int) ≤ (((s[k]'hlt).toNat : Nat) : Int) := by omega
        have x1 : ¬ 65 ≤ (s[k]'hlt).toNat := by omega
        have y1 : ¬ (65 : Int) ≤ (((s[k]'hlt).toNat : Nat) : Int) := by omega
        have x2 : ¬ 48 ≤ (s[k]'hlt).toNat := by omega
        have y2 : ¬ (48 : Int) ≤ (((s[k]'hlt).toNat : Nat) : Int) := by omega
        have e45 : ¬ (s[k]'hlt).toNat = 45 := by omega
        have f45 : ¬ (((s[k]'hlt).toNat : Nat) : Int) = 45 := by omega
        have e95 : ¬ (s[k]'hlt).toNat = 95 := by omega
        have f95 : ¬ (((s[k]'hlt).toNat : Nat) : Int) = 95 := by omega
        have e46 : ¬ (s[k]'hlt).toNat = 46 := by omega
        have f46 : ¬ (((s[k]'hlt).toNat : Nat) : Int) = 46 := by omega
        have OK := Lib.hid (show okC (s[k]'hlt) = false by rw [okC_iff_no]; omega)
        have HR := Lib.hid (show okId s = false by unfold okId; rw [← HV.out, HD.out, OK.out]; simp)
        go_wp2
        go_ret
        exact ⟨by rw [HR.out]; rfl, rfl⟩
      · have x0 : ¬ 97 ≤ (s[k]'hlt).toNat := by omega
        have y0 : ¬ (97 : Int) ≤ (((s[k]'hlt).toNat : Nat) : Int) := by omega
        have x1 : ¬ 65 ≤ (s[k]'hlt).toNat := by omega
        have y1 : ¬ (65 : Int) ≤ (((s[k]'hlt).toNat : Nat) : Int) := by omega
        have x2 : ¬ 48 ≤ (s[k]'hlt).toNat := by omega
        have y2 : ¬ (48 : Int) ≤ (((s[k]'hlt).toNat : Nat) : Int) := by omega
        have e45 : (s[k]'hlt).toNat = 45 := by omega
        have f45 : (((s[k]'hlt).toNat : Nat) : Int) = 45 := by omega
        have e95 : ¬ (s[k]'hlt).toNat = 95 := by omega
        have f95 : ¬ (((s[k]'hlt).toNat : Nat) : Int) = 95 := by omega
        have e46 : ¬ (s[k]'hlt).toNat = 46 := by omega
        have f46 : ¬ (((s[k]'hlt).toNat : Nat) : Int) = 46 := by omega
        have OK := Lib.hid (show okC (s[k]'hlt) = true by rw [okC_iff]; omega)
        go_wp2
        exact ⟨⟨k + 1, by omega, by simp, by rw [← HV.out, HD.out, OK.out, Bool.true_and]⟩, by simp [intOf]; omega⟩
      · have x0 : ¬ 97 ≤ (s[k]'hlt).toNat := by omega
        have y0 : ¬ (97 : Int) ≤ (((s[k]'hlt).toNat : Nat) : Int) := by omega
        have x1 : ¬ 65 ≤ (s[k]'hlt).toNat := by omega
        have y1 : ¬ (65 : Int) ≤ (((s[k]'hlt).toNat : Nat) : Int) := by omega
        have x2 : ¬ 48 ≤ (s[k]'hlt).toNat := by omega
        have y2 : ¬ (48 : Int) ≤ (((s[k]'hlt).toNat : Nat) : Int) := by omega
        have e45 : ¬ (s[k]'hlt).toNat = 45 := by omega
        have f45 : ¬ (((s[k]'hlt).toNat : Nat) : Int) = 45 := by omega
        have e95 : ¬ (s[k]'hlt).toNat = 95 := by omega
        have f95 : ¬ (((s[k]'hlt).toNat : Nat) : Int) = 95 := by omega
        have e46 : (s[k]'hlt).toNat = 46 := by omega
        have f46 : (((s[k]'hlt).toNat : Nat) : Int) = 46 := by omega
        have OK := Lib.hid (show okC (s[k]'hlt) = true by rw [okC_iff]; omega)
        go_wp2
        exact ⟨⟨k + 1, by omega, by simp, by rw [← HV.out, HD.out, OK.out, Bool.true_and]⟩, by simp [intOf]; omega⟩
      · have x0 : ¬ 97 ≤ (s[k]'hlt).toNat := by omega
        have y0 : ¬ (97 : Int) ≤ (((s[k]'hlt).toNat : Nat) : Int) := by omega
        have x1 : ¬ 65 ≤ (s[k]'hlt).toNat := by omega
        have y1 : ¬ (65 : Int) ≤ (((s[k]'hlt).toNat : Nat) : Int) := by omega
        have x2 : ¬ 48 ≤ (s[k]'hlt).toNat := by omega
        have y2 : ¬ (48 : Int) ≤ (((s[k]'hlt).toNat : Nat) : Int) := by omega
        have e45 : ¬ (s[k]'hlt).toNat = 45 := by omega
        have f45 : ¬ (((s[k]'hlt).toNat : Nat) : Int) = 45 := by omega
        have e95 : ¬ (s[k]'hlt).toNat = 95 := by omega
        have f95 : ¬ (((s[k]'hlt).toNat : Nat) : Int) = 95 := by omega
        have e46 : ¬ (s[k]'hlt).toNat = 46 := by omega
        have f46 : ¬ (((s[k]'hlt).toNat : Nat) : Int) = 46 := by omega
        have OK := Lib.hid (show okC (s[k]'hlt) = false by rw [okC_iff_no]; omega)
        have HR := Lib.hid (show okId s = false by unfold okId; rw [← HV.out, HD.out, OK.out]; simp)
        go_wp2
        go_ret
        exact ⟨by rw [HR.out]; rfl, rfl⟩
      · have x0 : ¬ 97 ≤ (s[k]'hlt).toNat := by omega
        have y0 : ¬ (97 : Int) ≤ (((s[k]'hlt).toNat : Nat) : Int) := by omega
        have x1 : ¬ 65 ≤ (s[k]'hlt).toNat := by omega
        have y1 : ¬ (65 : Int) ≤ (((s[k]'hlt).toNat : Nat) : Int) := by omega
        have x2 : 48 ≤ (s[k]'hlt).toNat := by omega
        have y2 : (48 : Int) ≤ (((s[k]'hlt).toNat : Nat) : Int) := by omega
        have x3 : (s[k]'hlt).toNat ≤ 57 := by omega
        have y3 : (((s[k]'hlt).toNat : Nat) : Int) ≤ (57 : Int) := by omega
        have OK := Lib.hid (show okC (s[k]'hlt) = true by rw [okC_iff]; omega)
        go_wp2
        exact ⟨⟨k + 1, by omega, by simp, by rw [← HV.out, HD.out, OK.out, Bool.true_and]⟩, by simp [intOf]; omega⟩
      · have x0 : ¬ 97 ≤ (s[k]'hlt).toNat := by omega
        have y0 : ¬ (97 : Int) ≤ (((s[k]'hlt).toNat : Nat) : Int) := by omega
        have x1 : ¬ 65 ≤ (s[k]'hlt).toNat := by omega
        have y1 : ¬ (65 : Int) ≤ (((s[k]'hlt).toNat : Nat) : Int) := by omega
        have x2 : 48 ≤ (s[k]'hlt).toNat := by omega
        have y2 : (48 : Int) ≤ (((s[k]'hlt).toNat : Nat) : Int) := by omega
        have x3 : ¬ (s[k]'hlt).toNat ≤ 57 := by omega
        have y3 : ¬ (((s[k]'hlt).toNat : Nat) : Int) ≤ (57 : Int) := by omega
        have e45 : ¬ (s[k]'hlt).toNat = 45 := by omega
        have f45 : ¬ (((s[k]'hlt).toNat : Nat) : Int) = 45 := by omega
        have e95 : ¬ (s[k]'hlt).toNat = 95 := by omega
        have f95 : ¬ (((s[k]'hlt).toNat : Nat) : Int) = 95 := by omega
        have e46 : ¬ (s[k]'hlt).toNat = 46 := by omega
        have f46 : ¬ (((s[k]'hlt).toNat : Nat) : Int) = 46 := by omega
        have OK := Lib.hid (show okC (s[k]'hlt) = false by rw [okC_iff_no]; omega)
        have HR := Lib.hid (show okId s = false by unfold okId; rw [← HV.out, HD.out, OK.out]; simp)
        go_wp2
        go_ret
        exact ⟨by rw [HR.out]; rfl, rfl⟩
      · have x0 : ¬ 97 ≤ (s[k]'hlt).toNat := by omega
        have y0 : ¬ (97 : Int) ≤ (((s[k]'hlt).toNat : Nat) : Int) := by omega
        have x1 : 65 ≤ (s[k]'hlt).toNat := by omega
        have y1 : (65 : Int) ≤ (((s[k]'hlt).toNat : Nat) : Int) := by omega
        have x2 : (s[k]'hlt).toNat ≤ 90 := by omega
        have y2 : (((s[k]'hlt).toNat : Nat) : Int) ≤ (90 : Int) := by omega
        have OK := Lib.hid (show okC (s[k]'hlt) = true by rw [okC_iff]; omega)
        go_wp2
        exact ⟨⟨k + 1, by omega, by simp, by rw [← HV.out, HD.out, OK.out, Bool.true_and]⟩, by simp [intOf]; omega⟩
      · have x0 : ¬ 97 ≤ (s[k]'hlt).toNat := by omega
        have y0 : ¬ (97 : Int) ≤ (((s[k]'hlt).toNat : Nat) : Int) := by omega
        have x1 : 65 ≤ (s[k]'hlt).toNat := by omega
        have y1 : (65 : Int) ≤ (((s[k]'hlt).toNat : Nat) : Int) := by omega
        have x2 : ¬ (s[k]'hlt).toNat ≤ 90 := by omega
        have y2 : ¬ (((s[k]'hlt).toNat : Nat) : Int) ≤ (90 : Int) := by omega
        have x3 : 48 ≤ (s[k]'hlt).toNat := by omega
        have y3 : (48 : Int) ≤ (((s[k]'hlt).toNat : Nat) : Int) := by omega
        have x4 : ¬ (s[k]'hlt).toNat ≤ 57 := by omega
        have y4 : ¬ (((s[k]'hlt).toNat : Nat) : Int) ≤ (57 : Int) := by omega
        have e45 : ¬ (s[k]'hlt).toNat = 45 := by omega
        have f45 : ¬ (((s[k]'hlt).toNat : Nat) : Int) = 45 := by omega
        have e95 : ¬ (s[k]'hlt).toNat = 95 := by omega
        have f95 : ¬ (((s[k]'hlt).toNat : Nat) : Int) = 95 := by omega
        have e46 : ¬ (s[k]'hlt).toNat = 46 := by omega
        have f46 : ¬ (((s[k]'hlt).toNat : Nat) : Int) = 46 := by omega
        have OK := Lib.hid (show okC (s[k]'hlt) = false by rw [okC_iff_no]; omega)
        have HR := Lib.hid (show okId s = false by unfold okId; rw [← HV.out, HD.out, OK.out]; simp)
        go_wp2
        go_ret
        exact ⟨by rw [HR.out]; rfl, rfl⟩
      · have x0 : ¬ 97 ≤ (s[k]'hlt).toNat := by omega
        have y0 : ¬ (97 : Int) ≤ (((s[k]'hlt).toNat : Nat) : Int) := by omega
        have x1 : 65 ≤ (s[k]'hlt).toNat := by omega
        have y1 : (65 : Int) ≤ (((s[k]'hlt).toNat : Nat) : Int) := by omega
        have x2 : ¬ (s[k]'hlt).toNat ≤ 90 := by omega
        have y2 : ¬ (((s[k]'hlt).toNat : Nat) : Int) ≤ (90 : Int) := by omega
        have x3 : 48 ≤ (s[k]'hlt).toNat := by omega
        have y3 : (48 : Int) ≤ (((s[k]'hlt).toNat : Nat) : Int) := by omega
        have x4 : ¬ (s[k]'hlt).toNat ≤ 57 := by omega
        have y4 : ¬ (((s[k]'hlt).toNat : Nat) : Int) ≤ (57 : Int) := by omega
        have e45 : ¬ (s[k]'hlt).toNat = 45 := by omega
        have f45 : ¬ (((s[k]'hlt).toNat : Nat) : Int) = 45 := by omega
        have e95 : (s[k]'hlt).toNat = 95 := by omega
        have f95 : (((s[k]'hlt).toNat : Nat) : Int) = 95 := by omega
        have e46 : ¬ (s[k]'hlt).toNat = 46 := by omega
        have f46 : ¬ (((s[k]'hlt).toNat : Nat) : Int) = 46 := by omega
        have OK := Lib.hid (show okC (s[k]'hlt) = true by rw [okC_iff]; omega)
        go_wp2
        exact ⟨⟨k + 1, by omega, by simp, by rw [← HV.out, HD.out, OK.out, Bool.true_and]⟩, by simp [intOf]; omega⟩
      · have x0 : ¬ 97 ≤ (s[k]'hlt).toNat := by omega
        have y0 : ¬ (97 : Int) ≤ (((s[k]'hlt).toNat : Nat) : Int) := by omega
        have x1 : 65 ≤ (s[k]'hlt).toNat := by omega
        have y1 : (65 : Int) ≤ (((s[k]'hlt).toNat : Nat) : Int) := by omega
        have x2 : ¬ (s[k]'hlt).toNat ≤ 90 := by omega
        have y2 : ¬ (((s[k]'hlt).toNat : Nat) : Int) ≤ (90 : Int) := by omega
        have x3 : 48 ≤ (s[k]'hlt).toNat := by omega
        have y3 : (48 : Int) ≤ (((s[k]'hlt).toNat : Nat) : Int) := by omega
        have x4 : ¬ (s[k]'hlt).toNat ≤ 57 := by omega
        have y4 : ¬ (((s[k]'hlt).toNat : Nat) : Int) ≤ (57 : Int) := by omega
        have e45 : ¬ (s[k]'hlt).toNat = 45 := by omega
        have f45 : ¬ (((s[k]'hlt).toNat : Nat) : Int) = 45 := by omega
        have e95 : ¬ (s[k]'hlt).toNat = 95 := by omega
        have f95 : ¬ (((s[k]'hlt).toNat : Nat) : Int) = 95 := by omega
        have e46 : ¬ (s[k]'hlt).toNat = 46 := by omega
        have f46 : ¬ (((s[k]'hlt).toNat : Nat) : Int) = 46 := by omega
        have OK := Lib.hid (show okC (s[k]'hlt) = false by rw [okC_iff_no]; omega)
        have HR := Lib.hid (show okId s = false by unfold okId; rw [← HV.out, HD.out, OK.out]; simp)
        go_wp2
        go_ret
        exact ⟨by rw [HR.out]; rfl, rfl⟩
      · have x0 : 97 ≤ (s[k]'hlt).toNat := by omega
        have y0 : (97 : Int) ≤ (((s[k]'hlt).toNat : Nat) : Int) := by omega
        have x1 : (s[k]'hlt).toNat ≤ 122 := by omega
        have y1 : (((s[k]'hlt).toNat : Nat) : Int) ≤ (122 : Int) := by omega
        have OK := Lib.hid (show okC (s[k]'hlt) = true by rw [okC_iff]; omega)
        go_wp2
        exact ⟨⟨k + 1, by omega, by simp, by rw [← HV.out, HD.out, OK.out, Bool.true_and]⟩, by simp [intOf]; omega⟩
      · have x0 : 97 ≤ (s[k]'hlt).toNat := by omega
        have y0 : (97 : Int) ≤ (((s[k]'hlt).toNat : Nat) : Int) := by omega
        have x1 : ¬ (s[k]'hlt).toNat ≤ 122 := by omega
        have y1 : ¬ (((s[k]'hlt).toNat : Nat) : Int) ≤ (122 : Int) := by omega
        have x2 : 65 ≤ (s[k]'hlt).toNat := by omega
        have y2 : (65 : Int) ≤ (((s[k]'hlt).toNat : Nat) : Int) := by omega
        have x3 : ¬ (s[k]'hlt).toNat ≤ 90 := by omega
        have y3 : ¬ (((s[k]'hlt).toNat : Nat) : Int) ≤ (90 : Int) := by omega
        have x4 : 48 ≤ (s[k]'hlt).toNat := by omega
        have y4 : (48 : Int) ≤ (((s[k]'hlt).toNat : Nat) : Int) := by omega
        have x5 : ¬ (s[k]'hlt).toNat ≤ 57 := by omega
        have y5 : ¬ (((s[k]'hlt).toNat : Nat) : Int) ≤ (57 : Int) := by omega
        have e45 : ¬ (s[k]'hlt).toNat = 45 := by omega
        have f45 : ¬ (((s[k]'hlt).toNat : Nat) : Int) = 45 := by omega
        have e95 : ¬ (s[k]'hlt).toNat = 95 := by omega
        have f95 : ¬ (((s[k]'hlt).toNat : Nat) : Int) = 95 := by omega
        have e46 : ¬ (s[k]'hlt).toNat = 46 := by omega
        have f46 : ¬ (((s[k]'hlt).toNat : Nat) : Int) = 46 := by omega
        have OK := Lib.hid (show okC (s[k]'hlt) = false by rw [okC_iff_no]; omega)
        have HR := Lib.hid (show okId s = false by unfold okId; rw [← HV.out, HD.out, OK.out]; simp)
        go_wp2
        go_ret
        exact ⟨by rw [HR.out]; rfl, rfl⟩
    · have he : s.data.toList.all okC = true := by rw [← HV.out]; exact id_end s k (by omega)
      by_cases h0 : 0 < s.size
      · by_cases h1 : s.size ≤ 32
        · have HR := Lib.hid (show okId s = true by unfold okId; rw [he]; simp [h0, h1])
          clear he
          have h0' : (0 : Int) < (s.size : Int) := by omega
          have h1' : (s.size : Int) ≤ 32 := by omega
          go_wp2
          go_ret
          exact ⟨by rw [HR.out]; rfl, rfl⟩
        · have HR := Lib.hid (show okId s = false by unfold okId; rw [he]; simp [h0, h1])
          clear he
          have h0' : (0 : Int) < (s.size : Int) := by omega
          have h1' : ¬ (s.size : Int) ≤ 32 := by omega
          go_wp2
          go_ret
          exact ⟨by rw [HR.out]; rfl, rfl⟩
      · have HR := Lib.hid (show okId s = false by unfold okId; rw [he]; simp [h0])
        clear he
        have h0' : ¬ (0 : Int) < (s.size : Int) := by omega
        go_wp2
        go_ret
        exact ⟨by rw [HR.out]; rfl, rfl⟩

end Go.Proofs.Tt

namespace Go.Proofs.Tt
open Go Go.Proofs
open Go.RowKit Go.Maps
set_option maxRecDepth 100000

theorem keyed9 : Keyed Tryz.prog 9 := string_keyed Tryz.underlying9
theorem zero4 (w : World) : (zeroValue 4).run Tryz.prog w = .ok (.bool false) w := by kernel_rfl

/-- block b is a set of keys of type k: those of ks -/
def SetK (k : TypeId) (W : World) (b n : Nat) (ks : List Lit) : Prop :=
  ∃ D : DataW Unit, W.ownsMap Tryz.prog k (plainElem Tryz.prog 4) b n D ∧ IsMap D ∧ (∀ l, l ∈ ks → D.atKey l (.lit (.bool false)) = .lit (.bool true)) ∧ ∀ l, l ∉ ks → D.atKey l (.lit (.bool false)) = .lit (.bool false)

theorem SetK.made (k : TypeId) (w : World) : SetK k (w.alloc (.map #[] 0)) w.heap.size 0 [] :=
  ⟨_, World.ownsMap_made _ _ _ _, isMap_empty, fun l hl => by simp at hl, fun l _ => rfl⟩

theorem SetK.at {k : TypeId} {W W' : World} {b n : Nat} {ks : List Lit} (h : SetK k W b n ks) (hb : W'.heap[b]? = W.heap[b]?) : SetK k W' b n ks := by
  obtain ⟨D, ⟨es, clock, h1, h2⟩, h3⟩ := h
  exact ⟨D, ⟨es, clock, hb.trans h1, h2⟩, h3⟩
theorem SetK.lt {k : TypeId} {W : World} {b n : Nat} {ks : List Lit} (h : SetK k W b n ks) : b < W.heap.size := by
  obtain ⟨D, h1, _⟩ := h
  exact h1.lt
theorem SetK.below {k : TypeId} {W W' : World} {b n : Nat} {ks : List Lit} (h : SetK k W b n ks) {B : Nat} (hB : b < B) (hb : Below B W W') : SetK k W' b n ks := h.at (hb.block _ hB)
theorem SetK.mono {k : TypeId} {W : World} {b n m : Nat} {ks : List Lit} (h : SetK k W b n ks) (hm : n ≤ m) : SetK k W b m ks := by
  obtain ⟨D, h1, h2⟩ := h
  exact ⟨D, h1.mono hm, h2⟩

theorem plain_bool_inv {v : Value} {z : DataW Unit × List MemPlace} {x : Bool} (h : plainElem Tryz.prog 4 v = some z) (hz : z.1 = .lit (.bool x)) : v = .bool x := by
  unfold plainElem at h
  rw [Tryz.underlying4] at h
  cases v <;> simp at h
  subst h
  simp at hz
  rw [hz]

theorem SetK.look {k t : TypeId} {W : World} {b n : Nat} {ks : List Lit} (h : SetK k W b n ks) (K : Keyed Tryz.prog k) (ht : Tryz.prog.underlying t = some (.map k 4)) {key : Value} {kl : Lit} (hkey : keyOf Tryz.prog k key = some kl) :
    (kl ∈ ks → (Instr.lookup t (.map (some b)) key false).run Tryz.prog W = .ok (.bool true) W) ∧ (kl ∉ ks → (Instr.lookup t (.map (some b)) key false).run Tryz.prog W = .ok (.bool false) W) := by
  obtain ⟨D, h1, _, h3, h4⟩ := h
  obtain ⟨v, ps, hrun, hv⟩ := h1.lookup K ht (zero4 W) (plainElem_bool Tryz.underlying4 false) hkey
  refine ⟨fun hm => ?_, fun hm => ?_⟩
  · rw [h3 kl hm] at hv
    rw [hrun, plain_bool_inv hv rfl]
  · rw [h4 kl hm] at hv
    rw [hrun, plain_bool_inv hv rfl]

theorem wpList_set_add {ops : Array Oper} {rest : List Oper} {o : Oper} {a : Act} {Q : Exit → Act → World → Prop} (W : World)
    (hg : o.guard = none) (m x v : Operand) (t : TypeId) (hop : o.op = Op.mapUpdate t m x v)
    (k : TypeId) (K : Keyed Tryz.prog k) (ht : Tryz.prog.underlying t = some (.map k 4)) (b n : Nat) (ks : List Lit)
    (hm : a.eval m = .map (some b)) (h : SetK k W b n ks) (hn : n < maxLen) (key : Value) (kl : Lit) (hx : a.eval x = key) (hv : a.eval v = .bool true) (hkey : keyOf Tryz.prog k key = some kl) (hkl : WideAt.IsKeyLit kl)
    (hK : ∀ W', SetK k W' b (n + 1) (kl :: ks) → W.grownBy W' (some b) → wpList Tryz.prog ops Q rest (a.put o.dst undef) W') :
    wpList Tryz.prog ops Q (o :: rest) a W := by
  obtain ⟨D, h1, h2, h3, h4⟩ := h
  refine wpList_mapUpdate_own W hg m x v t hop k 4 K ht (plainElem Tryz.prog 4) b n D hm h1 hn key (.bool true) kl hx hv hkey (.lit (.bool true)) [] (plainElem_bool Tryz.underlying4 true) fun W' q1 q2 => hK W' ⟨_, q1, h2.put _ _, fun l hl => ?_, fun l hl => ?_⟩ q2
  · by_cases e : l = kl
    · subst e; exact atKey_put_same h2 hkl _ _
    · rw [atKey_put_other e]; exact h3 l ((List.mem_cons.1 hl).resolve_left e)
  · rw [List.mem_cons, not_or] at hl
    rw [atKey_put_other hl.1]; exact h4 l hl.2

/-- rows of sz cells each behind a slice -/
def Rows (W : World) (g off sz : Nat) (rows : List (List Value)) : Prop := g < W.heap.size ∧ ∀ i r, rows[i]? = some r → ∀ j x, r[j]? = some x → W.cell? ⟨g, off + i * sz + j, none⟩ = some x

theorem Rows.below {W W' : World} {g off sz B : Nat} {rows : List (List Value)} (h : Rows W g off sz rows) (hB : g < B) (hb : Below B W W') : Rows W' g off sz rows :=
  ⟨Nat.lt_of_lt_of_le h.1 hb.size, fun i r hr j x hx => (hb.cell (p := ⟨g, off + i * sz + j, none⟩) hB).trans (h.2 i r hr j x hx)⟩

/-- rows of sz cells each behind a slice that came in (nil, empty or not) -/
def RowsAt (W : World) (a : Option Addr) (sz : Nat) (rows : List (List Value)) : Prop := ∀ i r, rows[i]? = some r → ∃ g f, a = some ⟨g, f, none⟩ ∧ g < W.heap.size ∧ ∀ j x, r[j]? = some x → W.cell? ⟨g, f + i * sz + j, none⟩ = some x
theorem RowsAt.below {W W' : World} {a : Option Addr} {sz : Nat} {rows : List (List Value)} (h : RowsAt W a sz rows) (hb : Below W.heap.size W W') : RowsAt W' a sz rows := fun i r hr => by
  obtain ⟨g, f, h1, h2, h3⟩ := h i r hr
  exact ⟨g, f, h1, Nat.lt_of_lt_of_le h2 hb.size, fun j x hx => (hb.cell (p := ⟨g, f + i * sz + j, none⟩) h2).trans (h3 j x hx)⟩
end Go.Proofs.Tt

namespace Go.Proofs.Tt
open Go Go.Proofs
open Go.RowKit Go.Maps
set_option maxRecDepth 1000000

structure StopD where
  id : ByteArray
  zone : Int
  sf : Bool
  change : Int
def StopD.row (s : StopD) : List Value := [.string s.id, .int .i64 s.zone, .bool s.sf, .int .i64 s.change]

def key (s : List UInt8) : Lit := .string s
theorem key_mem {a : List UInt8} {l : List (List UInt8)} : key a ∈ l.map key ↔ a ∈ l := by
  rw [List.mem_map]
  exact ⟨fun ⟨x, h1, h2⟩ => by cases h2; exact h1, fun h => ⟨a, h, rfl⟩⟩
def stopBad (s : StopD) : Prop := s.zone < 0 ∨ 16 ≤ s.zone ∨ s.change < 0 ∨ 3600 < s.change
instance (s : StopD) : Decidable (stopBad s) := by unfold stopBad; infer_instance

/-- the answer of stop.Check from the k-th stop on -/
def stopGo : Nat → List (List UInt8) → List StopD → Int × Int
  | _, _, [] => (0, 0)
  | k, seen, s :: l => if okId s.id = false then (k, 12) else if s.id.data.toList ∈ seen then (k, 6) else if stopBad s then (k, 2) else stopGo (k + 1) (s.id.data.toList :: seen) l
def stopRes (l : List StopD) : Int × Int := if 64 < l.length then (0, 5) else stopGo 0 [] l

theorem stop11 (a : Option Addr) (cap : Nat) (l : List StopD) (w : World) (hr : RowsAt w a 4 (l.map StopD.row)) (hid : ∀ s ∈ l, s.id.size ≤ maxLen) (hl : l.length ≤ 9223372036854775807) :
    Calls Tryz.prog 21 #[.slice a l.length cap] w fun e w' => e = .returned (.tuple #[.int .i64 (stopRes l).1, .int .i64 (stopRes l).2]) ∧ Below w.heap.size w w' := by
  have hmm := @run_makeMap Tryz.prog
  by_cases h64 : 64 < l.length
  · have HR := Lib.hid (show stopRes l = (0, 5) by unfold stopRes; rw [if_pos h64])
    have h64' : (64 : Int) < (l.length : Int) := by omega
    go_enter Tryz.func21, Tryz.ntmps21
    go_wp2
    go_ret2
    exact ⟨by rw [HR.out]; rfl, Below.refl _ _⟩
  · have HR := Lib.hid (show stopRes l = stopGo 0 [] l by unfold stopRes; rw [if_neg h64])
    have h64' : ¬ (64 : Int) < (l.length : Int) := by omega
    go_enter Tryz.func21, Tryz.ntmps21
    go_wp2
    go_loopw [13] (fun i wr => ∃ (k : Nat) (seen : List (List UInt8)), k ≤ l.length ∧ i = .int .i64 k ∧ SetK 9 wr w.heap.size k (seen.map key) ∧ stopGo k seen (l.drop k) = stopGo 0 [] l ∧ Below w.heap.size w wr ∧ w.heap.size < wr.heap.size) (fun i _ => l.length - (intOf i).toNat)
    case atStart => exact ⟨0, [], Nat.zero_le _, rfl, SetK.made 9 w, rfl, (Below.refl _ _).alloc (Nat.le_refl _) _, by simp⟩
    case round =>
      obtain ⟨k, seen, hk, rfl, hset, hv, hbel, hsz⟩ := hrel
      have HV := Lib.hid hv
      clear hv
      by_cases hlt : k < l.length
      · have hlt' : (k : Int) < (l.length : Int) := by omega
        obtain ⟨s, hs⟩ : ∃ s, l[k]? = some s := ⟨l[k], List.getElem?_eq_getElem hlt⟩
        have hdrop : l.drop k = s :: l.drop (k + 1) := by
          rw [List.drop_eq_getElem_cons hlt]
          rw [List.getElem?_eq_getElem hlt] at hs
          cases hs; rfl
        have hsl : s.id.size ≤ maxLen := hid s (List.mem_of_getElem? hs)
        have hrow : (l.map StopD.row)[k]? = some s.row := by rw [List.getElem?_map, hs]; rfl
        obtain ⟨g, off, ha, hg, hc⟩ := hr k _ hrow
        subst ha
        have hcc := fun j x hx => (hbel.cell (p := ⟨g, off + k * 4 + j, none⟩) hg).trans (hc j x hx)
        have c0 : wr.cell? ⟨g, off + k * 4, none⟩ = some (.string s.id) := hcc 0 _ rfl
        have c1 : wr.cell? ⟨g, off + k * 4 + 1, none⟩ = some (.int .i64 s.zone) := hcc 1 _ rfl
        have c2 : wr.cell? ⟨g, off + k * 4 + 2, none⟩ = some (.bool s.sf) := hcc 2 _ rfl
        have c3 : wr.cell? ⟨g, off + k * 4 + 3, none⟩ = some (.int .i64 s.change) := hcc 3 _ rfl
        have hV := HV.out
        rw [hdrop, stopGo] at hV
        have HS := Lib.hid hset
        have HID := Lib.hid hid
        have HRR := Lib.hid hr
        clear hset hrow hs hdrop hid hr HV hc hcc
        cases hok : okId s.id
        · have HX := Lib.hid (show stopGo 0 [] l = ((k : Int), 12) by rw [← hV, if_pos hok])
          clear hV
          go_wp2_with (go_at_call 56; refine (valid24 _ _ (by unfold maxLen at hsl; omega)).mono ?_; rw [hok]; rintro e w1 ⟨rfl, rfl⟩)
          go_ret2
          exact ⟨by rw [HR.out, HX.out]; rfl, hbel.trans ((Below.refl _ _).alloc (by omega) _)⟩
        · rw [if_neg (by rw [hok]; decide)] at hV
          have hkey : keyOf Tryz.prog 9 (.string s.id) = some (key s.id.data.toList) := Go.WideMaps.keyOf_string_mk Tryz.underlying9 hsl
          have hsetA : ∀ o, SetK 9 (wr.alloc o) w.heap.size k (seen.map key) := fun o => HS.out.at (Below.heap_alloc _ _ _ hsz)
          have belA : ∀ o, Below w.heap.size w (wr.alloc o) := fun o => hbel.trans ((Below.refl _ _).alloc (by omega) o)
          have HSA := Lib.hid hsetA
          by_cases hin : s.id.data.toList ∈ seen
          · have HX := Lib.hid (show stopGo 0 [] l = ((k : Int), 6) by rw [← hV, if_pos hin])
            have hlk : ∀ o, (Instr.lookup 111 (.map (some w.heap.size)) (.string s.id) false).run Tryz.prog (wr.alloc o) = .ok (.bool true) (wr.alloc o) := fun o => ((hsetA o).look keyed9 Tryz.underlying111 hkey).1 (key_mem.2 hin)
            clear hV hsetA
            go_wp2_with (go_at_call 56; refine (valid24 _ _ (by unfold maxLen at hsl; omega)).mono ?_; rw [hok]; rintro e w1 ⟨rfl, rfl⟩)
            go_ret2
            exact ⟨by rw [HR.out, HX.out]; rfl, belA _⟩
          · rw [if_neg hin] at hV
            have hlk : ∀ o, (Instr.lookup 111 (.map (some w.heap.size)) (.string s.id) false).run Tryz.prog (wr.alloc o) = .ok (.bool false) (wr.alloc o) := fun o => ((hsetA o).look keyed9 Tryz.underlying111 hkey).2 (fun h => hin (key_mem.1 h))
            clear hsetA
            have hways : s.zone < 0 ∨ (¬ s.zone < 0 ∧ 16 ≤ s.zone) ∨ (¬ s.zone < 0 ∧ ¬ 16 ≤ s.zone ∧ s.change < 0) ∨ (¬ s.zone < 0 ∧ ¬ 16 ≤ s.zone ∧ ¬ s.change < 0 ∧ 3600 < s.change) ∨ (¬ s.zone < 0 ∧ ¬ 16 ≤ s.zone ∧ ¬ s.change < 0 ∧ ¬ 3600 < s.change) := by omega
            rcases hways with z1 | ⟨z1, z2⟩ | ⟨z1, z2, z3⟩ | ⟨z1, z2, z3, z4⟩ | ⟨z1, z2, z3, z4⟩
            iterate 4
              · have HX := Lib.hid (show stopGo 0 [] l = ((k : Int), 2) by rw [← hV, if_pos (by unfold stopBad; omega)])
                clear hV
                go_wp2_with (go_at_call 56; refine (valid24 _ _ (by unfold maxLen at hsl; omega)).mono ?_; rw [hok]; rintro e w1 ⟨rfl, rfl⟩)
                go_ret2
                exact ⟨by rw [HR.out, HX.out]; rfl, belA _⟩
            · have HX := Lib.hid (show stopGo (k + 1) (s.id.data.toList :: seen) (l.drop (k + 1)) = stopGo 0 [] l by rw [← hV, if_neg (by unfold stopBad; omega)])
              clear hV
              go_wp2_with (first | (go_at_call 56; refine (valid24 _ _ (by unfold maxLen at hsl; omega)).mono ?_; rw [hok]; rintro e w1 ⟨rfl, rfl⟩) | (at_mapUpdate; refine wpList_set_add _ rfl _ _ _ 111 rfl 9 keyed9 Tryz.underlying111 w.heap.size k _ rfl (HSA.out _) (by unfold maxLen; omega) _ _ rfl rfl hkey trivial ?_; intro w1 hset1 hgrow1) | go_in)
              go_roundw
              case rel => exact ⟨k + 1, s.id.data.toList :: seen, by omega, by go_num, hset1, HX.out, (belA _).grown hgrow1 (by simp; omega) (fun j hj => by cases hj; exact Nat.le_refl _), by have := hgrow1.size; simp at this; omega⟩
              case measure => simp [intOf]; omega
      · have hlt' : ¬ (k : Int) < (l.length : Int) := by omega
        have hE := HV.out
        rw [List.drop_of_length_le (by omega)] at hE
        have HE := Lib.hid hE
        clear hE
        go_wp2
        go_ret2
        exact ⟨by rw [HR.out, ← HE.out]; rfl, hbel⟩
end Go.Proofs.Tt

namespace Go.Proofs.Tt
open Go Go.Proofs
open Go.RowKit Go.Maps
set_option maxRecDepth 1000000

structure RouteD where
  id : ByteArray
  mode : Int
  bic : Bool
def RouteD.row (s : RouteD) : List Value := [.string s.id, .int .i64 s.mode, .bool s.bic]

def routeBad (s : RouteD) : Prop := s.mode < 0 ∨ 8 ≤ s.mode
instance (s : RouteD) : Decidable (routeBad s) := by unfold routeBad; infer_instance

theorem known25 (x : Int) (w : World) : Calls Tryz.prog 57 #[.int .i64 x] w fun e w' => e = .returned (.bool (decide (0 ≤ x ∧ x < 8))) ∧ w = w' := by
  obtain ⟨q, hq⟩ : ∃ q, decide (0 ≤ x ∧ x < 8) = q := ⟨_, rfl⟩
  rw [hq]
  have HQ := Lib.hid hq
  clear hq
  by_cases h1 : 0 ≤ x
  · by_cases h2 : x < 8
    · have HX := Lib.hid (show q = true by rw [← HQ.out]; exact decide_eq_true ⟨h1, h2⟩)
      go_enter Tryz.func57, Tryz.ntmps57
      go_wp2
      go_ret
      exact ⟨by rw [HX.out]; rfl, rfl⟩
    · have HX := Lib.hid (show q = false by rw [← HQ.out]; exact decide_eq_false (by omega))
      go_enter Tryz.func57, Tryz.ntmps57
      go_wp2
      go_ret
      exact ⟨by rw [HX.out]; rfl, rfl⟩
  · have HX := Lib.hid (show q = false by rw [← HQ.out]; exact decide_eq_false (by omega))
    go_enter Tryz.func57, Tryz.ntmps57
    go_wp2
    go_ret
    exact ⟨by rw [HX.out]; rfl, rfl⟩

/-- the answer of route.Check from the k-th stop on -/
def routeGo : Nat → List (List UInt8) → List RouteD → Int × Int
  | _, _, [] => (0, 0)
  | k, seen, s :: l => if okId s.id = false then (k, 12) else if s.id.data.toList ∈ seen then (k, 6) else if routeBad s then (k, 2) else routeGo (k + 1) (s.id.data.toList :: seen) l
def routeRes (l : List RouteD) : Int × Int := if 64 < l.length then (0, 5) else routeGo 0 [] l

set_option maxHeartbeats 1500000 in
theorem route12 (a : Option Addr) (cap : Nat) (l : List RouteD) (w : World) (hr : RowsAt w a 3 (l.map RouteD.row)) (hid : ∀ s ∈ l, s.id.size ≤ maxLen) (hl : l.length ≤ 9223372036854775807) :
    Calls Tryz.prog 23 #[.slice a l.length cap] w fun e w' => e = .returned (.tuple #[.int .i64 (routeRes l).1, .int .i64 (routeRes l).2]) ∧ Below w.heap.size w w' := by
  have hmm := @run_makeMap Tryz.prog
  by_cases h64 : 64 < l.length
  · have HR := Lib.hid (show routeRes l = (0, 5) by unfold routeRes; rw [if_pos h64])
    have h64' : (64 : Int) < (l.length : Int) := by omega
    go_enter Tryz.func23, Tryz.ntmps23
    go_wp2
    go_ret2
    exact ⟨by rw [HR.out]; rfl, Below.refl _ _⟩
  · have HR := Lib.hid (show routeRes l = routeGo 0 [] l by unfold routeRes; rw [if_neg h64])
    have h64' : ¬ (64 : Int) < (l.length : Int) := by omega
    go_enter Tryz.func23, Tryz.ntmps23
    go_wp2
    go_loopw [13] (fun i wr => ∃ (k : Nat) (seen : List (List UInt8)), k ≤ l.length ∧ i = .int .i64 k ∧ SetK 9 wr w.heap.size k (seen.map key) ∧ routeGo k seen (l.drop k) = routeGo 0 [] l ∧ Below w.heap.size w wr ∧ w.heap.size < wr.heap.size) (fun i _ => l.length - (intOf i).toNat)
    case atStart => exact ⟨0, [], Nat.zero_le _, rfl, SetK.made 9 w, rfl, (Below.refl _ _).alloc (Nat.le_refl _) _, by simp⟩
    case round =>
      obtain ⟨k, seen, hk, rfl, hset, hv, hbel, hsz⟩ := hrel
      have HV := Lib.hid hv
      clear hv
      by_cases hlt : k < l.length
      · have hlt' : (k : Int) < (l.length : Int) := by omega
        obtain ⟨s, hs⟩ : ∃ s, l[k]? = some s := ⟨l[k], List.getElem?_eq_getElem hlt⟩
        have hdrop : l.drop k = s :: l.drop (k + 1) := by
          rw [List.drop_eq_getElem_cons hlt]
          rw [List.getElem?_eq_getElem hlt] at hs
          cases hs; rfl
        have hsl : s.id.size ≤ maxLen := hid s (List.mem_of_getElem? hs)
        have hrow : (l.map RouteD.row)[k]? = some s.row := by rw [List.getElem?_map, hs]; rfl
        obtain ⟨g, off, ha, hg, hc⟩ := hr k _ hrow
        subst ha
        have hcc := fun j x hx => (hbel.cell (p := ⟨g, off + k * 3 + j, none⟩) hg).trans (hc j x hx)
        have c0 : wr.cell? ⟨g, off + k * 3, none⟩ = some (.string s.id) := hcc 0 _ rfl
        have c1 : wr.cell? ⟨g, off + k * 3 + 1, none⟩ = some (.int .i64 s.mode) := hcc 1 _ rfl
        have c2 : wr.cell? ⟨g, off + k * 3 + 2, none⟩ = some (.bool s.bic) := hcc 2 _ rfl
        have hV := HV.out
        rw [hdrop, routeGo] at hV
        have HS := Lib.hid hset
        have HID := Lib.hid hid
        have HRR := Lib.hid hr
        clear hset hrow hs hdrop hid hr HV hc hcc
        cases hok : okId s.id
        · have HX := Lib.hid (show routeGo 0 [] l = ((k : Int), 12) by rw [← hV, if_pos hok])
          clear hV
          go_wp2_with (go_at_call 56; refine (valid24 _ _ (by unfold maxLen at hsl; omega)).mono ?_; rw [hok]; rintro e w1 ⟨rfl, rfl⟩)
          go_ret2
          exact ⟨by rw [HR.out, HX.out]; rfl, hbel.trans ((Below.refl _ _).alloc (by omega) _)⟩
        · rw [if_neg (by rw [hok]; decide)] at hV
          have hkey : keyOf Tryz.prog 9 (.string s.id) = some (key s.id.data.toList) := Go.WideMaps.keyOf_string_mk Tryz.underlying9 hsl
          have hsetA : ∀ o, SetK 9 (wr.alloc o) w.heap.size k (seen.map key) := fun o => HS.out.at (Below.heap_alloc _ _ _ hsz)
          have belA : ∀ o, Below w.heap.size w (wr.alloc o) := fun o => hbel.trans ((Below.refl _ _).alloc (by omega) o)
          have HSA := Lib.hid hsetA
          by_cases hin : s.id.data.toList ∈ seen
          · have HX := Lib.hid (show routeGo 0 [] l = ((k : Int), 6) by rw [← hV, if_pos hin])
            have hlk : ∀ o, (Instr.lookup 111 (.map (some w.heap.size)) (.string s.id) false).run Tryz.prog (wr.alloc o) = .ok (.bool true) (wr.alloc o) := fun o => ((hsetA o).look keyed9 Tryz.underlying111 hkey).1 (key_mem.2 hin)
            clear hV hsetA
            go_wp2_with (go_at_call 56; refine (valid24 _ _ (by unfold maxLen at hsl; omega)).mono ?_; rw [hok]; rintro e w1 ⟨rfl, rfl⟩)
            go_ret2
            exact ⟨by rw [HR.out, HX.out]; rfl, belA _⟩
          · rw [if_neg hin] at hV
            have hlk : ∀ o, (Instr.lookup 111 (.map (some w.heap.size)) (.string s.id) false).run Tryz.prog (wr.alloc o) = .ok (.bool false) (wr.alloc o) := fun o => ((hsetA o).look keyed9 Tryz.underlying111 hkey).2 (fun h => hin (key_mem.1 h))
            clear hsetA
            have hways : s.mode < 0 ∨ (¬ s.mode < 0 ∧ 8 ≤ s.mode) ∨ (¬ s.mode < 0 ∧ ¬ 8 ≤ s.mode) := by omega
            have I1 := Lib.hid fun W => known25 s.mode W
            rcases hways with z1 | ⟨z1, z2⟩ | ⟨z1, z2⟩
            iterate 2
              · have HX := Lib.hid (show routeGo 0 [] l = ((k : Int), 2) by rw [← hV, if_pos (by unfold routeBad; omega)])
                rw [show decide (0 ≤ s.mode ∧ s.mode < 8) = false from decide_eq_false (by omega)] at I1
                clear hV
                go_wp2_with (first | (go_at_call 56; refine (valid24 _ _ (by unfold maxLen at hsl; omega)).mono ?_; rw [hok]; rintro e w1 ⟨rfl, rfl⟩) | (go_at_call 57; with_reducible refine (I1.out _).mono ?_; rintro e w1 ⟨rfl, rfl⟩))
                go_ret2
                exact ⟨by rw [HR.out, HX.out]; rfl, belA _⟩
            · have HX := Lib.hid (show routeGo (k + 1) (s.id.data.toList :: seen) (l.drop (k + 1)) = routeGo 0 [] l by rw [← hV, if_neg (by unfold routeBad; omega)])
              rw [show decide (0 ≤ s.mode ∧ s.mode < 8) = true from decide_eq_true (by omega)] at I1
              clear hV
              go_wp2_with (first | (go_at_call 56; refine (valid24 _ _ (by unfold maxLen at hsl; omega)).mono ?_; rw [hok]; rintro e w1 ⟨rfl, rfl⟩) | (go_at_call 57; with_reducible refine (I1.out _).mono ?_; rintro e w1 ⟨rfl, rfl⟩) | (at_mapUpdate; refine wpList_set_add _ rfl _ _ _ 111 rfl 9 keyed9 Tryz.underlying111 w.heap.size k _ rfl (HSA.out _) (by unfold maxLen; omega) _ _ rfl rfl hkey trivial ?_; intro w1 hset1 hgrow1) | go_in)
              go_roundw
              case rel => exact ⟨k + 1, s.id.data.toList :: seen, by omega, by go_num, hset1, HX.out, (belA _).grown hgrow1 (by simp; omega) (fun j hj => by cases hj; exact Nat.le_refl _), by have := hgrow1.size; simp at this; omega⟩
              case measure => simp [intOf]; omega
      · have hlt' : ¬ (k : Int) < (l.length : Int) := by omega
        have hE := HV.out
        rw [List.drop_of_length_le (by omega)] at hE
        have HE := Lib.hid hE
        clear hE
        go_wp2
        go_ret2
        exact ⟨by rw [HR.out, ← HE.out]; rfl, hbel⟩
end Go.Proofs.Tt
