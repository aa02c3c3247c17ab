/- The walks of the numbers behind a sign: ent.numeric, and the reference's digits and numeric. -/
import Derived.Test.YtdfefcikcfejoaaEntB
set_option linter.unusedSimpArgs false
set_option linter.unusedVariables false
open Go Go.RowKit Go.Proofs
namespace Tym

theorem digT_nil (cap base n i : Nat) : digT cap base [] n i = (n, i) := rfl
theorem digT_stop (cap base : Nat) (c : UInt8) (t : Bs) (n i : Nat) (h : hex c < 0 ∨ (base : Int) ≤ hex c) : digT cap base (c :: t) n i = (n, i) := by rw [digT, if_pos h]
theorem digT_go (cap base : Nat) (c : UInt8) (t : Bs) (n i : Nat) (h : 0 ≤ hex c) (h' : hex c < (base : Int)) : digT cap base (c :: t) n i = digT cap base t (min (n * base + (hex c).toNat) cap) (i + 1) := by
  rw [digT, if_neg (by omega)]

theorem numeric_of (cap A B : Nat) (s : Bs) (hb : begins s [38, 35] = true) (hA : numAt s = A) (hB : numBase s = B) :
    numeric cap s = if (digT cap B (s.drop A) 0 A).2 = A then (0, 0, 0) else ((digT cap B (s.drop A) 0 A).1, (digT cap B (s.drop A) 0 A).2 - A, (digT cap B (s.drop A) 0 A).2) := by
  unfold numeric; rw [if_pos hb, hA, hB]
theorem numeric_not (cap : Nat) (s : Bs) (h : begins s [38, 35] = false) : numeric cap s = (0, 0, 0) := by unfold numeric; rw [if_neg (by rw [h]; exact Bool.false_ne_true)]
theorem num_fin (N : Nat × Nat × Nat) (R : Nat × Nat) (A k i : Nat) (hx : N = if R.2 = A then (0, 0, 0) else (R.1, R.2 - A, R.2)) (hr : R = (k, i)) : (i = A → N = (0, 0, 0)) ∧ (i ≠ A → N = (k, i - A, i)) := by
  subst hr; constructor <;> intro h <;> simpa [h] using hx
theorem num_step (k B : Nat) (x : Int) (h : 0 ≤ x) : Value.int .i64 ((min (k * B + x.toNat) 16777216 : Nat) : Int) = .int .i64 (min ((k : Int) * (B : Int) + x) 16777216) := by
  congr 1
  have e : ((k * B + x.toNat : Nat) : Int) = (k : Int) * (B : Int) + x := by rw [Int.natCast_add, Int.natCast_mul, Int.toNat_of_nonneg h]
  rw [← e]; omega
theorem ret3 {a b c a' b' c' : Int} (h1 : a = a') (h2 : b = b') (h3 : c = c') : Ending.returned (.tuple #[.int .i64 a, .int .i64 b, .int .i64 c]) = .returned (.tuple #[.int .i64 a', .int .i64 b', .int .i64 c']) := by rw [h1, h2, h3]
theorem isX_yes (s : ByteArray) (h : 2 < s.size) (hx : (((s[2].toNat ||| 32 : Nat) : Int) == 120) = true) : isX (bs s) = true := by
  unfold isX
  rw [Bool.and_eq_true, decide_eq_true_iff, ← size_bs, ← get_bs s 2 h]
  refine ⟨h, ?_⟩
  have h2 : s[2].toNat ||| 32 = 120 := by have h := beq_iff_eq.1 hx; omega
  rw [beq_iff_eq, ← UInt8.toNat_inj, UInt8.toNat_or]; exact h2
theorem isX_no (s : ByteArray) (h : 2 < s.size) (hx : (((s[2].toNat ||| 32 : Nat) : Int) == 120) = false) : isX (bs s) = false := by
  unfold isX
  rw [Bool.and_eq_false_iff]
  refine .inr ?_
  rw [← get_bs s 2 h, beq_eq_false_iff_ne]
  intro e
  have h2 : s[2].toNat ||| 32 = 120 := by have := congrArg UInt8.toNat e; rwa [UInt8.toNat_or] at this
  rw [h2] at hx; simp at hx
theorem isX_short (s : ByteArray) (h : s.size ≤ 2) : isX (bs s) = false := by
  unfold isX; rw [← size_bs, decide_eq_false (by omega), Bool.false_and]

attribute [local irreducible] digT hex numeric

set_option maxHeartbeats 1000000 in
theorem numeric_x (s : ByteArray) (w : World) (hs : s.size ≤ 1000000000) (hbg : begins (bs s) [38, 35] = true) (h2 : 2 < s.size) (hc : (((s[2].toNat ||| 32 : Nat) : Int) == 120) = true) : Calls Try.prog 33 #[.string s] w fun e w' => e = .returned (.tuple #[.int .i64 (numeric 16777216 (bs s)).1, .int .i64 (numeric 16777216 (bs s)).2.1, .int .i64 (numeric 16777216 (bs s)).2.2]) ∧ w = w' := by
    have hx := isX_yes s h2 hc
    have hA : numAt (bs s) = 3 := by simp [numAt, hx]
    have hB : numBase (bs s) = 16 := by simp [numBase, hx]
    clear hx
    have HX : Hid (numeric 16777216 (bs s) = if (digT 16777216 16 ((bs s).drop 3) 0 3).2 = 3 then (0, 0, 0) else ((digT 16777216 16 ((bs s).drop 3) 0 3).1, (digT 16777216 16 ((bs s).drop 3) 0 3).2 - 3, (digT 16777216 16 ((bs s).drop 3) 0 3).2)) := numeric_of _ _ _ _ hbg hA hB
    clear hA hB
    go_enter Try.func33, Try.ntmps33
    go_wp2_with (first | simp only [or32] | (go_at_call 20; (with_reducible refine (prefix_lit _ _ _).mono ?_); rintro e w' ⟨rfl, rfl⟩))
    have H0 : Hid (digT 16777216 16 ((bs s).drop 3) 0 3 = digT 16777216 16 ((bs s).drop 3) 0 3) := rfl
    go_loop [2, 4, 7] (fun n e _ => ∃ k i : Nat, 3 ≤ i ∧ i ≤ s.size ∧ k ≤ 16777216 ∧ n = .int .i64 k ∧ e = .int .i64 i ∧ Hid (digT 16777216 16 ((bs s).drop i) k i = digT 16777216 16 ((bs s).drop 3) 0 3)) (fun _ i _ => s.size - (intOf i).toNat)
    case atStart => exact ⟨0, 3, by omega, by omega, by omega, rfl, rfl, H0⟩
    case round =>
      obtain ⟨k, i, hi1, hi2, hk, rfl, rfl, HD⟩ := hrel
      clear H0
      by_cases hlt : i < s.size
      · have hb1 := (hex_bd s[i]).1
        have hb2 := (hex_bd s[i]).2
        have Hd : Hid ((bs s).drop i = s[i] :: (bs s).drop (i + 1)) := drop_bs s i hlt
        by_cases hx0 : hex s[i] < 0
        · have HF : Hid (digT 16777216 16 ((bs s).drop 3) 0 3 = (k, i)) := by have := HD.out; rw [Hd.out, digT_stop _ _ _ _ _ _ (.inl hx0)] at this; exact this.symm
          clear HD
          go_wp2_with (go_at_call 47; (with_reducible refine (hex_any _ _).mono ?_); rintro e w' ⟨rfl, rfl⟩)
          all_goals (go_ret3; first | (have hi : ((i : Int) == 3) = true := (by assumption); exact ⟨by rw [(num_fin _ _ _ _ _ HX.out HF.out).1 (by have := beq_iff_eq.1 hi; omega)]; rfl, rfl⟩) | (have hi : ((i : Int) == 3) = false := (by assumption); exact ⟨by rw [(num_fin _ _ _ _ _ HX.out HF.out).2 (by intro h; subst h; simp at hi)]; exact ret3 rfl (by simp only; omega) rfl, rfl⟩))
        · by_cases hx1 : hex s[i] < 16
          · have HD2 : Hid (digT 16777216 16 ((bs s).drop (i + 1)) (min (k * 16 + (hex s[i]).toNat) 16777216) (i + 1) = digT 16777216 16 ((bs s).drop 3) 0 3) := by have := HD.out; rw [Hd.out, digT_go _ _ _ _ _ _ (by omega) (by omega)] at this; exact this
            clear HD
            have hx0' : 0 ≤ hex s[i] := by omega
            clear hx0
            go_wp2_with (go_at_call 47; (with_reducible refine (hex_any _ _).mono ?_); rintro e w' ⟨rfl, rfl⟩)
            go_round
            case rel => exact ⟨min (k * 16 + (hex s[i]).toNat) 16777216, i + 1, by omega, by omega, by omega, by rw [num_step _ _ _ hx0']; rfl, by go_num, HD2⟩
            case measure => simp [intOf]; omega
          · have HF : Hid (digT 16777216 16 ((bs s).drop 3) 0 3 = (k, i)) := by have := HD.out; rw [Hd.out, digT_stop _ _ _ _ _ _ (.inr (by omega))] at this; exact this.symm
            clear HD
            have hx0' : 0 ≤ hex s[i] := by omega
            have hx1' : 16 ≤ hex s[i] := by omega
            clear hx0 hx1
            go_wp2_with (go_at_call 47; (with_reducible refine (hex_any _ _).mono ?_); rintro e w' ⟨rfl, rfl⟩)
            all_goals (go_ret3; first | (have hi : ((i : Int) == 3) = true := (by assumption); exact ⟨by rw [(num_fin _ _ _ _ _ HX.out HF.out).1 (by have := beq_iff_eq.1 hi; omega)]; rfl, rfl⟩) | (have hi : ((i : Int) == 3) = false := (by assumption); exact ⟨by rw [(num_fin _ _ _ _ _ HX.out HF.out).2 (by intro h; subst h; simp at hi)]; exact ret3 rfl (by simp only; omega) rfl, rfl⟩))
      · have hie : i = s.size := by omega
        have HF : Hid (digT 16777216 16 ((bs s).drop 3) 0 3 = (k, i)) := by have := HD.out; rw [List.drop_eq_nil_of_le (by rw [← size_bs]; omega), digT_nil] at this; exact this.symm
        clear HD hie
        go_wp2
        all_goals (go_ret3; first | (have hi : ((i : Int) == 3) = true := (by assumption); exact ⟨by rw [(num_fin _ _ _ _ _ HX.out HF.out).1 (by have := beq_iff_eq.1 hi; omega)]; rfl, rfl⟩) | (have hi : ((i : Int) == 3) = false := (by assumption); exact ⟨by rw [(num_fin _ _ _ _ _ HX.out HF.out).2 (by intro h; subst h; simp at hi)]; exact ret3 rfl (by simp only; omega) rfl, rfl⟩))

set_option maxHeartbeats 1000000 in
theorem numeric_n (s : ByteArray) (w : World) (hs : s.size ≤ 1000000000) (hbg : begins (bs s) [38, 35] = true) (h2 : 2 < s.size) (hc : (((s[2].toNat ||| 32 : Nat) : Int) == 120) = false) : Calls Try.prog 33 #[.string s] w fun e w' => e = .returned (.tuple #[.int .i64 (numeric 16777216 (bs s)).1, .int .i64 (numeric 16777216 (bs s)).2.1, .int .i64 (numeric 16777216 (bs s)).2.2]) ∧ w = w' := by
    have hx := isX_no s h2 hc
    have hA : numAt (bs s) = 2 := by simp [numAt, hx]
    have hB : numBase (bs s) = 10 := by simp [numBase, hx]
    clear hx
    have HX : Hid (numeric 16777216 (bs s) = if (digT 16777216 10 ((bs s).drop 2) 0 2).2 = 2 then (0, 0, 0) else ((digT 16777216 10 ((bs s).drop 2) 0 2).1, (digT 16777216 10 ((bs s).drop 2) 0 2).2 - 2, (digT 16777216 10 ((bs s).drop 2) 0 2).2)) := numeric_of _ _ _ _ hbg hA hB
    clear hA hB
    go_enter Try.func33, Try.ntmps33
    go_wp2_with (first | simp only [or32] | (go_at_call 20; (with_reducible refine (prefix_lit _ _ _).mono ?_); rintro e w' ⟨rfl, rfl⟩))
    have H0 : Hid (digT 16777216 10 ((bs s).drop 2) 0 2 = digT 16777216 10 ((bs s).drop 2) 0 2) := rfl
    go_loop [2, 4, 7] (fun n e _ => ∃ k i : Nat, 2 ≤ i ∧ i ≤ s.size ∧ k ≤ 16777216 ∧ n = .int .i64 k ∧ e = .int .i64 i ∧ Hid (digT 16777216 10 ((bs s).drop i) k i = digT 16777216 10 ((bs s).drop 2) 0 2)) (fun _ i _ => s.size - (intOf i).toNat)
    case atStart => exact ⟨0, 2, by omega, by omega, by omega, rfl, rfl, H0⟩
    case round =>
      obtain ⟨k, i, hi1, hi2, hk, rfl, rfl, HD⟩ := hrel
      clear H0
      by_cases hlt : i < s.size
      · have hb1 := (hex_bd s[i]).1
        have hb2 := (hex_bd s[i]).2
        have Hd : Hid ((bs s).drop i = s[i] :: (bs s).drop (i + 1)) := drop_bs s i hlt
        by_cases hx0 : hex s[i] < 0
        · have HF : Hid (digT 16777216 10 ((bs s).drop 2) 0 2 = (k, i)) := by have := HD.out; rw [Hd.out, digT_stop _ _ _ _ _ _ (.inl hx0)] at this; exact this.symm
          clear HD
          go_wp2_with (go_at_call 47; (with_reducible refine (hex_any _ _).mono ?_); rintro e w' ⟨rfl, rfl⟩)
          all_goals (go_ret3; first | (have hi : ((i : Int) == 2) = true := (by assumption); exact ⟨by rw [(num_fin _ _ _ _ _ HX.out HF.out).1 (by have := beq_iff_eq.1 hi; omega)]; rfl, rfl⟩) | (have hi : ((i : Int) == 2) = false := (by assumption); exact ⟨by rw [(num_fin _ _ _ _ _ HX.out HF.out).2 (by intro h; subst h; simp at hi)]; exact ret3 rfl (by simp only; omega) rfl, rfl⟩))
        · by_cases hx1 : hex s[i] < 10
          · have HD2 : Hid (digT 16777216 10 ((bs s).drop (i + 1)) (min (k * 10 + (hex s[i]).toNat) 16777216) (i + 1) = digT 16777216 10 ((bs s).drop 2) 0 2) := by have := HD.out; rw [Hd.out, digT_go _ _ _ _ _ _ (by omega) (by omega)] at this; exact this
            clear HD
            have hx0' : 0 ≤ hex s[i] := by omega
            clear hx0
            go_wp2_with (go_at_call 47; (with_reducible refine (hex_any _ _).mono ?_); rintro e w' ⟨rfl, rfl⟩)
            go_round
            case rel => exact ⟨min (k * 10 + (hex s[i]).toNat) 16777216, i + 1, by omega, by omega, by omega, by rw [num_step _ _ _ hx0']; rfl, by go_num, HD2⟩
            case measure => simp [intOf]; omega
          · have HF : Hid (digT 16777216 10 ((bs s).drop 2) 0 2 = (k, i)) := by have := HD.out; rw [Hd.out, digT_stop _ _ _ _ _ _ (.inr (by omega))] at this; exact this.symm
            clear HD
            have hx0' : 0 ≤ hex s[i] := by omega
            have hx1' : 10 ≤ hex s[i] := by omega
            clear hx0 hx1
            go_wp2_with (go_at_call 47; (with_reducible refine (hex_any _ _).mono ?_); rintro e w' ⟨rfl, rfl⟩)
            all_goals (go_ret3; first | (have hi : ((i : Int) == 2) = true := (by assumption); exact ⟨by rw [(num_fin _ _ _ _ _ HX.out HF.out).1 (by have := beq_iff_eq.1 hi; omega)]; rfl, rfl⟩) | (have hi : ((i : Int) == 2) = false := (by assumption); exact ⟨by rw [(num_fin _ _ _ _ _ HX.out HF.out).2 (by intro h; subst h; simp at hi)]; exact ret3 rfl (by simp only; omega) rfl, rfl⟩))
      · have hie : i = s.size := by omega
        have HF : Hid (digT 16777216 10 ((bs s).drop 2) 0 2 = (k, i)) := by have := HD.out; rw [List.drop_eq_nil_of_le (by rw [← size_bs]; omega), digT_nil] at this; exact this.symm
        clear HD hie
        go_wp2
        all_goals (go_ret3; first | (have hi : ((i : Int) == 2) = true := (by assumption); exact ⟨by rw [(num_fin _ _ _ _ _ HX.out HF.out).1 (by have := beq_iff_eq.1 hi; omega)]; rfl, rfl⟩) | (have hi : ((i : Int) == 2) = false := (by assumption); exact ⟨by rw [(num_fin _ _ _ _ _ HX.out HF.out).2 (by intro h; subst h; simp at hi)]; exact ret3 rfl (by simp only; omega) rfl, rfl⟩))

set_option maxHeartbeats 1000000 in
theorem numeric_s (s : ByteArray) (w : World) (hs : s.size ≤ 1000000000) (hbg : begins (bs s) [38, 35] = true) (h2 : ¬ 2 < s.size) : Calls Try.prog 33 #[.string s] w fun e w' => e = .returned (.tuple #[.int .i64 (numeric 16777216 (bs s)).1, .int .i64 (numeric 16777216 (bs s)).2.1, .int .i64 (numeric 16777216 (bs s)).2.2]) ∧ w = w' := by
    have h2' : 2 ≤ s.size := by have h3 := congrArg List.length ((begins_iff _ _).1 hbg); rw [List.length_take, ← size_bs] at h3; simp at h3; omega
    have hx := isX_short s (by omega)
    have hA : numAt (bs s) = 2 := by simp [numAt, hx]
    have hB : numBase (bs s) = 10 := by simp [numBase, hx]
    clear hx
    have HX : Hid (numeric 16777216 (bs s) = if (digT 16777216 10 ((bs s).drop 2) 0 2).2 = 2 then (0, 0, 0) else ((digT 16777216 10 ((bs s).drop 2) 0 2).1, (digT 16777216 10 ((bs s).drop 2) 0 2).2 - 2, (digT 16777216 10 ((bs s).drop 2) 0 2).2)) := numeric_of _ _ _ _ hbg hA hB
    clear hA hB
    go_enter Try.func33, Try.ntmps33
    go_wp2_with (first | simp only [or32] | (go_at_call 20; (with_reducible refine (prefix_lit _ _ _).mono ?_); rintro e w' ⟨rfl, rfl⟩))
    have H0 : Hid (digT 16777216 10 ((bs s).drop 2) 0 2 = digT 16777216 10 ((bs s).drop 2) 0 2) := rfl
    go_loop [2, 4, 7] (fun n e _ => ∃ k i : Nat, 2 ≤ i ∧ i ≤ s.size ∧ k ≤ 16777216 ∧ n = .int .i64 k ∧ e = .int .i64 i ∧ Hid (digT 16777216 10 ((bs s).drop i) k i = digT 16777216 10 ((bs s).drop 2) 0 2)) (fun _ i _ => s.size - (intOf i).toNat)
    case atStart => exact ⟨0, 2, by omega, by omega, by omega, rfl, rfl, H0⟩
    case round =>
      obtain ⟨k, i, hi1, hi2, hk, rfl, rfl, HD⟩ := hrel
      clear H0
      by_cases hlt : i < s.size
      · exfalso; omega
      · have hie : i = s.size := by omega
        have HF : Hid (digT 16777216 10 ((bs s).drop 2) 0 2 = (k, i)) := by have := HD.out; rw [List.drop_eq_nil_of_le (by rw [← size_bs]; omega), digT_nil] at this; exact this.symm
        clear HD hie
        go_wp2
        all_goals (go_ret3; first | (have hi : ((i : Int) == 2) = true := (by assumption); exact ⟨by rw [(num_fin _ _ _ _ _ HX.out HF.out).1 (by have := beq_iff_eq.1 hi; omega)]; rfl, rfl⟩) | (have hi : ((i : Int) == 2) = false := (by assumption); exact ⟨by rw [(num_fin _ _ _ _ _ HX.out HF.out).2 (by intro h; subst h; simp at hi)]; exact ret3 rfl (by simp only; omega) rfl, rfl⟩))

set_option maxHeartbeats 1000000 in
theorem numeric_no (s : ByteArray) (w : World) (hs : s.size ≤ 1000000000) (hbg : begins (bs s) [38, 35] = false) : Calls Try.prog 33 #[.string s] w fun e w' => e = .returned (.tuple #[.int .i64 (numeric 16777216 (bs s)).1, .int .i64 (numeric 16777216 (bs s)).2.1, .int .i64 (numeric 16777216 (bs s)).2.2]) ∧ w = w' := by
    have hn := numeric_not 16777216 _ hbg
    go_enter Try.func33, Try.ntmps33
    go_wp2_with (first | simp only [or32] | (go_at_call 20; (with_reducible refine (prefix_lit _ _ _).mono ?_); rintro e w' ⟨rfl, rfl⟩))
    go_ret3
    exact ⟨by rw [hn]; rfl, rfl⟩

theorem numeric_any (s : ByteArray) (w : World) (hs : s.size ≤ 1000000000) : Calls Try.prog 33 #[.string s] w fun e w' => e = .returned (.tuple #[.int .i64 (numeric 16777216 (bs s)).1, .int .i64 (numeric 16777216 (bs s)).2.1, .int .i64 (numeric 16777216 (bs s)).2.2]) ∧ w = w' := by
  rcases Bool.eq_false_or_eq_true (begins (bs s) [38, 35]) with hbg | hbg
  · by_cases h2 : 2 < s.size
    · rcases Bool.eq_false_or_eq_true (((s[2].toNat ||| 32 : Nat) : Int) == 120) with hc | hc
      · exact numeric_x s w hs hbg h2 hc
      · exact numeric_n s w hs hbg h2 hc
    · exact numeric_s s w hs hbg h2
  · exact numeric_no s w hs hbg
end Tym
