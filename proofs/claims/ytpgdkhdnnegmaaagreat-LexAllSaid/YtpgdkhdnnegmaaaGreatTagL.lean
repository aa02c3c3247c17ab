/- The walks of the reference's blanks, word, value. -/
import Derived.Test.YtpgdkhdnnegmaaaGreatTagK
set_option linter.unusedSimpArgs false
set_option linter.unusedVariables false
open Go Go.RowKit Go.Proofs
namespace Tym
set_option maxRecDepth 20000

theorem skip_yes (p : UInt8 → Bool) (s : ByteArray) (j n : Nat) (hj : j < s.size) (hp : p (s[j]'hj) = true) (h : skip p s j = n) : skip p s (j + 1) = n := by
  have := take_step p (bs s) j n (by rw [← size_bs]; exact hj) h
  rw [← get_bs s j hj, if_pos hp] at this; exact this
theorem skip_no (p : UInt8 → Bool) (s : ByteArray) (j n : Nat) (hj : j < s.size) (hp : p (s[j]'hj) = false) (h : skip p s j = n) : j = n := by
  have := take_step p (bs s) j n (by rw [← size_bs]; exact hj) h
  rw [← get_bs s j hj, if_neg (by rw [hp]; simp)] at this; exact this
theorem skip_end (p : UInt8 → Bool) (s : ByteArray) (n : Nat) (h : skip p s s.size = n) : s.size = n := by
  unfold skip at h
  rw [List.drop_eq_nil_of_le (by rw [← size_bs]; exact Nat.le_refl _)] at h
  simpa using h

theorem blanksR_any (s : ByteArray) (k : Nat) (w : World) (hs : s.size ≤ 1000000) (hk : k ≤ s.size) : Calls Tryz.prog 56 #[.string s, .int .i64 k] w fun e w' => e = .returned (.int .i64 (skip isSpace s k)) ∧ w = w' := by
  have hle := (skip_le isSpace s k hk).2
  generalize hn : skip isSpace s k = n at hle ⊢
  have HN := Lib.hid hn
  clear hn
  go_enter Tryz.func56, Tryz.ntmps56
  go_wp2_with fail
  go_loopw [1] (fun v1 wr => ∃ j : Nat, j ≤ s.size ∧ v1 = .int .i64 j ∧ Hid (skip isSpace s j = n) ∧ wr = w) (fun v1 _ => s.size - (intOf v1).toNat)
  case atStart => exact ⟨k, hk, rfl, HN, rfl⟩
  case round =>
    obtain ⟨j, hj, rfl, HJ, rfl⟩ := hrel
    by_cases hlt : j < s.size
    · have HS : Hid (∀ w, Calls Tryz.prog 79 #[.int .u8 ((s[j]'hlt).toNat : Int)] w fun e w' => e = .returned (.bool (isSpace (s[j]'hlt))) ∧ w = w') := fun w => spaceR_any _ w
      cases hsp : isSpace (s[j]'hlt) with
      | true =>
        have HX := Lib.hid (skip_yes isSpace s j n hlt hsp HJ.out)
        rw [hsp] at HS
        clear hsp
        go_wp2_with fail
        refine (HS.out _).mono ?_; rintro e w1 ⟨rfl, rfl⟩
        go_wp2_with fail
        go_roundw
        case rel => exact ⟨j + 1, by omega, by go_num, HX, by first | rfl | trivial⟩
        case measure => simp [intOf]; omega
      | false =>
        have HX := Lib.hid (skip_no isSpace s j n hlt hsp HJ.out)
        rw [hsp] at HS
        clear hsp
        go_wp2_with fail
        refine (HS.out _).mono ?_; rintro e w1 ⟨rfl, rfl⟩
        go_wp2_with fail
        go_ret
        have hjn := HX.out
        subst hjn
        exact ⟨rfl, rfl⟩
    · obtain rfl : j = s.size := by omega
      have HX := Lib.hid (skip_end isSpace s n HJ.out)
      go_wp2_with fail
      go_ret
      have hjn := HX.out
      subst hjn
      exact ⟨rfl, rfl⟩

def wordB (eq : Bool) (c : UInt8) : Bool := if eq then keyB c else namedB c
theorem wordB_eq (eq : Bool) (c : UInt8) : wordB eq c = (!isSpace c && ((c.toNat : Int) != 47) && ((c.toNat : Int) != 62) && (!eq || ((c.toNat : Int) != 61))) := by
  have h1 : ((c.toNat : Int) != 47) = (c != 47) := byte_all (p := fun c => ((c.toNat : Int) != 47) = (c != 47)) (by decide +kernel) c
  have h2 : ((c.toNat : Int) != 62) = (c != 62) := byte_all (p := fun c => ((c.toNat : Int) != 62) = (c != 62)) (by decide +kernel) c
  have h3 : ((c.toNat : Int) != 61) = (c != 61) := byte_all (p := fun c => ((c.toNat : Int) != 61) = (c != 61)) (by decide +kernel) c
  rw [h1, h2, h3]
  cases eq
  · simp [wordB, namedB]
  · simp [wordB, keyB]

set_option maxHeartbeats 2000000 in
theorem wordR_any (s : ByteArray) (k : Nat) (eq : Bool) (w : World) (hs : s.size ≤ 1000000) (hk : k ≤ s.size) : Calls Tryz.prog 54 #[.string s, .int .i64 k, .bool eq] w fun e w' => e = .returned (.int .i64 (skip (wordB eq) s k)) ∧ w = w' := by
  have hle := (skip_le (wordB eq) s k hk).2
  generalize hn : skip (wordB eq) s k = n at hle ⊢
  have HN := Lib.hid hn
  clear hn
  go_enter Tryz.func54, Tryz.ntmps54
  go_wp2_with fail
  go_loopw [1] (fun v1 wr => ∃ j : Nat, j ≤ s.size ∧ v1 = .int .i64 j ∧ Hid (skip (wordB eq) s j = n) ∧ wr = w) (fun v1 _ => s.size - (intOf v1).toNat)
  case atStart => exact ⟨k, hk, rfl, HN, rfl⟩
  case round =>
    obtain ⟨j, hj, rfl, HJ, rfl⟩ := hrel
    by_cases hlt : j < s.size
    · have HS : Hid (∀ w, Calls Tryz.prog 79 #[.int .u8 ((s[j]'hlt).toNat : Int)] w fun e w' => e = .returned (.bool (isSpace (s[j]'hlt))) ∧ w = w') := fun w => spaceR_any _ w
      have hq := wordB_eq eq (s[j]'hlt)
      have HY := Lib.hid (skip_yes (wordB eq) s j n hlt)
      have HZ := Lib.hid (skip_no (wordB eq) s j n hlt)
      cases h0 : isSpace (s[j]'hlt) <;> cases h1 : (((s[j]'hlt).toNat : Int) != 47) <;> cases h2 : (((s[j]'hlt).toNat : Int) != 62) <;> cases h3 : (((s[j]'hlt).toNat : Int) != 61) <;> cases eq <;> rw [h0, h1, h2, h3] at hq <;> rw [h0] at HS <;>
        simp only [Bool.not_true, Bool.not_false, Bool.true_and, Bool.false_and, Bool.and_true, Bool.and_false, Bool.or_true, Bool.or_false, Bool.true_or, Bool.false_or] at hq
      all_goals
        first
          | (have HX := Lib.hid (HY.out hq HJ.out)
             clear hq HY HZ h0
             go_wp2_with fail
             refine (HS.out _).mono ?_; rintro e w1 ⟨rfl, rfl⟩
             go_wp2_with fail
             go_roundw
             case rel => exact ⟨j + 1, by omega, by go_num, HX, by first | rfl | trivial⟩
             case measure => simp [intOf]; omega)
          | (have HX := Lib.hid (HZ.out hq HJ.out)
             clear hq HY HZ h0
             go_wp2_with fail
             refine (HS.out _).mono ?_; rintro e w1 ⟨rfl, rfl⟩
             go_wp2_with fail
             go_ret
             have hjn := HX.out
             subst hjn
             exact ⟨rfl, rfl⟩)
    · obtain rfl : j = s.size := by omega
      have HX := Lib.hid (skip_end (wordB eq) s n HJ.out)
      go_wp2_with fail
      go_ret
      have hjn := HX.out
      subst hjn
      exact ⟨rfl, rfl⟩
end Tym
