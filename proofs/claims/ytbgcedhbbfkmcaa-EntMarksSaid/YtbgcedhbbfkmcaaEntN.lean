/- Mark, of both: for any bytes. -/
import Derived.Test.YtbgcedhbbfkmcaaEntM
set_option linter.unusedSimpArgs false
set_option linter.unusedVariables false
open Go Go.RowKit Go.Proofs
namespace Tym
attribute [local irreducible] dec taken upto

theorem markR_of_num (s : Bs) (n d e : Nat) (hq : numericR s = (e, d, n)) (he : 0 < e) : markR s = if (if 2 < s.length ∧ (s.getD 2 0 = 120 ∨ s.getD 2 0 = 88) then 6 else 7) < d || !decide (e < s.length ∧ s.getD e 0 = 59) then ([], 0) else (enc (markFix n), e + 1) := by
  unfold markR; rw [hq]; simp only; rw [if_pos he]
theorem markR_of_name (s : Bs) (n d : Nat) (hq : numericR s = (0, d, n)) : markR s = markFind s table := by
  unfold markR; rw [hq]; rfl

theorem markR_bool (s : Bs) (n d e : Nat) (x y z : Bool) (h2 : 2 < s.length) (hx : s.getD 2 0 = 120 ↔ x = true) (hy : s.getD 2 0 = 88 ↔ y = true) (hz : (e < s.length ∧ s.getD e 0 = 59) ↔ z = true)
    (HT : markR s = if (if 2 < s.length ∧ (s.getD 2 0 = 120 ∨ s.getD 2 0 = 88) then 6 else 7) < d || !decide (e < s.length ∧ s.getD e 0 = 59) then ([], 0) else (enc (markFix n), e + 1)) :
    markR s = if (if (x || y) = true then 6 else 7) < d || !z then ([], 0) else (enc (markFix n), e + 1) := by
  have e1 : (if 2 < s.length ∧ (s.getD 2 0 = 120 ∨ s.getD 2 0 = 88) then 6 else 7) = (if (x || y) = true then 6 else 7) := by
    by_cases h : (x || y) = true
    · rw [if_pos h, if_pos ⟨h2, by rw [hx, hy]; exact Bool.or_eq_true_iff.1 h⟩]
    · rw [if_neg h, if_neg (fun h' => h (by rw [hx, hy] at h'; exact Bool.or_eq_true_iff.2 h'.2))]
  have e2 : decide (e < s.length ∧ s.getD e 0 = 59) = z := by
    rw [Bool.eq_iff_iff, decide_eq_true_iff, hz]
  rw [HT, e1, e2]

attribute [local irreducible] mark markFix find tableObj markR markFind numericR Go.Utf8.encode enc

set_option maxHeartbeats 2000000 in
set_option maxRecDepth 20000 in
theorem markR_in (s : ByteArray) (w : World) (hs : s.size ≤ 1000000000) (n d e : Nat) (he : 0 < e) (h2 : 2 < s.size) (hn : (n : Int) ≤ 100000000) (hel : e < s.size) (x y z : Bool)
    (HC : Hid (∀ w, Calls Try.prog 35 #[.string s] w fun e' w' => e' = .returned (.tuple #[.int .i64 e, .int .i64 d, .int .i64 n]) ∧ w = w'))
    (h120 : ((s[2].toNat : Int) == 120) = x) (h88 : ((s[2].toNat : Int) == 88) = y) (h59 : ((s[e].toNat : Int) != 59) = z)
    (HT : Hid (markR (bs s) = if (if (x || y) = true then 6 else 7) < d || z then ([], 0) else (enc (markFix n), e + 1))) : Calls Try.prog 18 #[.string s] w (MarkRk s w) := by
  have HR : Hid (markFix n = if right n then (n : Int) else 65533) := by show markFix n = _; unfold markFix; rfl
  have HCH : Hid (∀ w, Calls Try.prog 27 #[.int .i64 n] w fun e w' => e = .returned (.bool (right n)) ∧ w = w') := fun w => rightR_any n w
  generalize right n = r at *
  have hbd := build_one
  have hcv := conv_one
  cases x <;> cases y <;> cases z <;> cases r
  all_goals
    go_enter Try.func18, Try.ntmps18
    go_wp2_with (first | (go_at_call 35; (with_reducible refine (HC.out _).mono ?_); rintro e w' ⟨rfl, rfl⟩) | (go_at_call 27; (with_reducible refine (HCH.out _).mono ?_); rintro e w' ⟨rfl, rfl⟩))
    all_goals
      go_ret2
      first
        | exact MarkRk.no (by rw [HT.out]; exact if_pos (by simp; try omega)) (Below.refl _ _)
        | exact MarkRk.enc (by rw [HT.out, HR.out]; exact if_neg (by simp; omega)) ((Below.refl _ _).alloc (Nat.le_refl _) _)

set_option maxHeartbeats 2000000 in
set_option maxRecDepth 20000 in
theorem markR_out (s : ByteArray) (w : World) (hs : s.size ≤ 1000000000) (n d e : Nat) (he : 0 < e) (h2 : 2 < s.size) (hn : (n : Int) ≤ 100000000) (hel : ¬ e < s.size) (hle : e ≤ s.size) (x y : Bool)
    (HC : Hid (∀ w, Calls Try.prog 35 #[.string s] w fun e' w' => e' = .returned (.tuple #[.int .i64 e, .int .i64 d, .int .i64 n]) ∧ w = w'))
    (h120 : ((s[2].toNat : Int) == 120) = x) (h88 : ((s[2].toNat : Int) == 88) = y)
    (HM : Hid (markR (bs s) = ([], 0))) : Calls Try.prog 18 #[.string s] w (MarkRk s w) := by
  cases x <;> cases y
  all_goals
    go_enter Try.func18, Try.ntmps18
    go_wp2_with (first | (go_at_call 35; (with_reducible refine (HC.out _).mono ?_); rintro e w' ⟨rfl, rfl⟩))
    all_goals
      go_ret2
      exact MarkRk.no HM.out (Below.refl _ _)

theorem markR_num (s : ByteArray) (w : World) (hs : s.size ≤ 1000000000) (n d e : Nat) (he : 0 < e) (h2 : 2 < s.size) (hn : (n : Int) ≤ 100000000) (hle : e ≤ s.size)
    (HC : Hid (∀ w, Calls Try.prog 35 #[.string s] w fun e' w' => e' = .returned (.tuple #[.int .i64 e, .int .i64 d, .int .i64 n]) ∧ w = w'))
    (HT : Hid (markR (bs s) = if (if 2 < (bs s).length ∧ ((bs s).getD 2 0 = 120 ∨ (bs s).getD 2 0 = 88) then 6 else 7) < d || !decide (e < (bs s).length ∧ (bs s).getD e 0 = 59) then ([], 0) else (enc (markFix n), e + 1))) : Calls Try.prog 18 #[.string s] w (MarkRk s w) := by
  have h2' : 2 < (bs s).length := by rw [← size_bs]; exact h2
  have hg := get_bs s 2 h2
  have hx120 : (bs s).getD 2 0 = 120 ↔ ((s[2].toNat : Int) == (120 : Nat)) = true := by rw [byte_beq _ 120 (by decide), ← hg, beq_iff_eq]; exact Iff.rfl
  have hx88 : (bs s).getD 2 0 = 88 ↔ ((s[2].toNat : Int) == (88 : Nat)) = true := by rw [byte_beq _ 88 (by decide), ← hg, beq_iff_eq]; exact Iff.rfl
  by_cases hel : e < s.size
  · have hx59 : (e < (bs s).length ∧ (bs s).getD e 0 = 59) ↔ ((s[e].toNat : Int) == (59 : Nat)) = true := by
      rw [byte_beq _ 59 (by decide), ← get_bs s e hel, beq_iff_eq]; exact ⟨fun h => h.2, fun h => ⟨by rw [← size_bs]; exact hel, h⟩⟩
    exact markR_in s w hs n d e he h2 hn hel _ _ _ HC rfl rfl rfl (markR_bool _ n d e _ _ _ h2' hx120 hx88 hx59 HT.out)
  · have hel' : ¬ e < (bs s).length := by rw [← size_bs]; exact hel
    have HM : Hid (markR (bs s) = ([], 0)) := by
      have := HT.out
      simp only [hel', false_and, decide_false, Bool.not_false, Bool.or_true, if_true] at this
      exact this
    exact markR_out s w hs n d e he h2 hn hel hle _ _ HC rfl rfl HM

theorem markR_any (s : ByteArray) (w : World) (hs : s.size ≤ 1000000000) : Calls Try.prog 18 #[.string s] w (MarkRk s w) := by
  generalize hq : numericR (bs s) = q
  obtain ⟨e, d, n⟩ := q
  have HC : Hid (∀ w, Calls Try.prog 35 #[.string s] w fun e' w' => e' = .returned (.tuple #[.int .i64 e, .int .i64 d, .int .i64 n]) ∧ w = w') := fun w => by have := numericR_any s w hs; rwa [hq] at this
  rcases Nat.eq_zero_or_pos e with rfl | he
  · exact markR_name s w hs n d HC (markR_of_name _ _ _ hq)
  · have hq2 := numericR_eq (bs s)
    rw [hq] at hq2
    have hend := numeric_end 100000000 (bs s)
    have hbig := numeric_big 100000000 (bs s)
    have hn := numeric_le 100000000 (bs s)
    generalize numeric 100000000 (bs s) = q at *
    obtain ⟨a, b, c⟩ := q
    simp only [Prod.mk.injEq] at hq2
    obtain ⟨rfl, rfl, rfl⟩ := hq2
    rw [← size_bs] at hend hbig
    simp only at hn hend hbig
    exact markR_num s w hs n d e he (hbig he).1 (by omega) hend HC (markR_of_num _ _ _ _ hq he)
end Tym
