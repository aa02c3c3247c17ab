/- The walks of package class and of the small functions of package ent. -/
import Derived.Test.YtdfefcikcfejoaaBase
import Derived.Test.YtdfefcikcfejoaaShelf
open Go Go.RowKit Go.Proofs
namespace Tym

theorem digit_any (c : UInt8) (w : World) : Calls Try.prog 37 #[.int .u8 (c.toNat : Int)] w fun e w' => e = .returned (.bool (isDigit c)) ∧ w = w' := by
  go_enter Try.func37, Try.ntmps37
  go_wp2
  go_ret
  exact ⟨ret_bool (byte_all (p := fun c => decide (((c.toNat : Int) - 48) % 256 < 10) = isDigit c) (by decide +kernel) c), rfl⟩

theorem letter_any (c : UInt8) (w : World) : Calls Try.prog 36 #[.int .u8 (c.toNat : Int)] w fun e w' => e = .returned (.bool (isLetter c)) ∧ w = w' := by
  go_enter Try.func36, Try.ntmps36
  go_wp2_with (simp only [or32])
  · go_ret
    rename_i h
    refine ⟨ret_bool ?_, rfl⟩
    revert h
    exact byte_all (p := fun c => (97 : Int) ≤ ((c.toNat ||| 32 : Nat) : Int) → decide (((c.toNat ||| 32 : Nat) : Int) ≤ 122) = isLetter c) (by decide +kernel) c
  · go_ret
    rename_i h
    refine ⟨ret_bool ?_, rfl⟩
    revert h
    exact byte_all (p := fun c => ((c.toNat ||| 32 : Nat) : Int) < 97 → false = isLetter c) (by decide +kernel) c

theorem small_any (c : UInt8) (w : World) : Calls Try.prog 17 #[.int .u8 (c.toNat : Int)] w fun e w' => e = .returned (.int .u8 ((small c).toNat : Int)) ∧ w = w' := by
  go_enter Try.func17, Try.ntmps17
  go_wp2_with (simp only [or32])
  · go_ret
    refine ⟨ret_int ?_, rfl⟩
    have h1 : (65 : Int) ≤ (c.toNat : Int) := by assumption
    have h2 : (c.toNat : Int) ≤ 90 := by assumption
    revert h1 h2
    exact byte_all (p := fun c => (65 : Int) ≤ (c.toNat : Int) → (c.toNat : Int) ≤ 90 → ((c.toNat ||| 32 : Nat) : Int) = ((small c).toNat : Int)) (by decide +kernel) c
  · go_ret
    refine ⟨ret_int ?_, rfl⟩
    have h2 : 90 < (c.toNat : Int) := by assumption
    revert h2
    exact byte_all (p := fun c => (90 : Int) < (c.toNat : Int) → (c.toNat : Int) = ((small c).toNat : Int)) (by decide +kernel) c
  · go_ret
    refine ⟨ret_int ?_, rfl⟩
    have h2 : (c.toNat : Int) < 65 := by assumption
    revert h2
    exact byte_all (p := fun c => (c.toNat : Int) < 65 → (c.toNat : Int) = ((small c).toNat : Int)) (by decide +kernel) c

theorem index_any (s : ByteArray) (c : UInt8) (w : World) : Calls Try.prog 18 #[.string s, .int .u8 (c.toNat : Int)] w fun e w' => e = .returned (.int .i64 (idxI c (bs s))) ∧ w = w' := by
  refine (Try.strings_IndexByte s (c.toNat : Int) w).mono ?_
  rintro e w' ⟨rfl, rfl⟩
  refine ⟨?_, rfl⟩
  rw [← indexByte_eq]
  have : ((c.toNat : Int)).toNat.toUInt8 = c := by simp
  rw [this]; rfl

theorem hex_any (c : UInt8) (w : World) : Calls Try.prog 47 #[.int .u8 (c.toNat : Int)] w fun e w' => e = .returned (.int .i64 (hex c)) ∧ w = w' := by
  go_enter Try.func47, Try.ntmps47
  go_wp2_with (first | (go_at_call 17; refine (small_any _ _).mono ?_; rintro e w' ⟨rfl, rfl⟩) | (go_at_call 18; refine (index_any _ _ _).mono ?_; rintro e w' ⟨rfl, rfl⟩))
  go_ret
  refine ⟨ret_int ?_, rfl⟩
  exact byte_all (p := fun c => idxI (small c) [48, 49, 50, 51, 52, 53, 54, 55, 56, 57, 97, 98, 99, 100, 101, 102] = hex c) (by decide +kernel) c

theorem digitR_any (c : UInt8) (w : World) : Calls Try.prog 43 #[.int .u8 (c.toNat : Int)] w fun e w' => e = .returned (.bool (isDigit c)) ∧ w = w' := by
  go_enter Try.func43, Try.ntmps43
  go_wp2
  all_goals (go_ret; refine ⟨ret_bool ?_, rfl⟩)
  · have h : (48 : Int) ≤ (c.toNat : Int) := by assumption
    revert h
    exact byte_all (p := fun c => (48 : Int) ≤ (c.toNat : Int) → decide ((c.toNat : Int) ≤ 57) = isDigit c) (by decide +kernel) c
  · have h : (c.toNat : Int) < 48 := by assumption
    revert h
    exact byte_all (p := fun c => (c.toNat : Int) < 48 → false = isDigit c) (by decide +kernel) c

theorem letterR_any (c : UInt8) (w : World) : Calls Try.prog 42 #[.int .u8 (c.toNat : Int)] w fun e w' => e = .returned (.bool (isLetter c)) ∧ w = w' := by
  go_enter Try.func42, Try.ntmps42
  go_wp2
  all_goals (go_ret; refine ⟨ret_bool ?_, rfl⟩; rw [isLetter_int, Bool.eq_iff_iff]; simp only [Bool.or_eq_true, Bool.and_eq_true, decide_eq_true_eq, Bool.false_eq_true, true_iff, false_iff]; omega)

theorem hexR_any (c : UInt8) (w : World) : Calls Try.prog 59 #[.int .u8 (c.toNat : Int)] w fun e w' => e = .returned (.int .i64 (hex c)) ∧ w = w' := by
  go_enter Try.func59, Try.ntmps59
  go_wp2
  all_goals (go_ret; refine ⟨ret_int ?_, rfl⟩; rw [hex_int]; (repeat' split) <;> omega)

theorem prefix_lit (s : ByteArray) (t : Bs) (w : World) : Calls Try.prog 20 #[.string s, .string ⟨t.toArray⟩] w fun e w' => e = .returned (.bool (begins (bs s) t)) ∧ w = w' := by
  refine (Try.strings_HasPrefix s ⟨t.toArray⟩ w).mono ?_
  rintro e w' ⟨rfl, rfl⟩
  exact ⟨rfl, rfl⟩

theorem character_any (n : Int) (w : World) : Calls Try.prog 48 #[.int .i64 n] w fun e w' => e = .returned (.bool (right n)) ∧ w = w' := by
  go_enter Try.func48, Try.ntmps48
  go_wp2
  all_goals (go_ret; refine ⟨ret_bool ?_, rfl⟩; unfold right; rw [Bool.eq_iff_iff]; simp only [Bool.or_eq_true, Bool.and_eq_true, decide_eq_true_eq, Bool.false_eq_true, true_iff, false_iff]; omega)

theorem rightR_any (n : Int) (w : World) : Calls Try.prog 53 #[.int .i64 n] w fun e w' => e = .returned (.bool (right n)) ∧ w = w' := by
  go_enter Try.func53, Try.ntmps53
  go_wp2
  all_goals (go_ret; refine ⟨ret_bool ?_, rfl⟩; unfold right; rw [Bool.eq_iff_iff]; simp only [Bool.or_eq_true, Bool.and_eq_true, decide_eq_true_eq, Bool.false_eq_true, true_iff, false_iff]; omega)
end Tym
