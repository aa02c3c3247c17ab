/- The walks of the reference's numbers. -/
import Derived.Test.YtpgdkhdnnegmaaaGreatEntE
set_option linter.unusedSimpArgs false
set_option linter.unusedVariables false
open Go Go.RowKit Go.Proofs
namespace Tym

theorem num_step8 (k B : Nat) (x : Int) (h : 0 ≤ x) : Value.int .i64 ((min (k * B + x.toNat) 100000000 : Nat) : Int) = .int .i64 (min ((k : Int) * (B : Int) + x) 100000000) := by
  congr 1
  have e : ((k * B + x.toNat : Nat) : Int) = (k : Int) * (B : Int) + x := by rw [Int.natCast_add, Int.natCast_mul, Int.toNat_of_nonneg h]
  rw [← e]; omega
theorem ret2 {a b a' b' : Int} (h1 : a = a') (h2 : b = b') : Ending.returned (.tuple #[.int .i64 a, .int .i64 b]) = .returned (.tuple #[.int .i64 a', .int .i64 b']) := by rw [h1, h2]
theorem digitsR_of (B : Nat) (s : Bs) (k i : Nat) (h : digT 100000000 B s 0 0 = (k, i)) : digitsR B s = (i, k) := by unfold digitsR; rw [h]

attribute [local irreducible] digT hex numericR digitsR

set_option maxHeartbeats 1000000 in
theorem digitsR_16 (s : ByteArray) (w : World) (hs : s.size ≤ 1000000000) : Calls Tryz.prog 95 #[.string s, .int .i64 16] w fun e w' => e = .returned (.tuple #[.int .i64 (digitsR 16 (bs s)).1, .int .i64 (digitsR 16 (bs s)).2]) ∧ w = w' := by
  go_enter Tryz.func95, Tryz.ntmps95
  go_wp2
  go_loop [6, 7, 8] (fun n e _ => ∃ k i : Nat, i ≤ s.size ∧ k ≤ 100000000 ∧ n = .int .i64 k ∧ e = .int .i64 i ∧ Hid (digT 100000000 16 ((bs s).drop i) k i = digT 100000000 16 (bs s) 0 0)) (fun _ i _ => s.size - (intOf i).toNat)
  case atStart => exact ⟨0, 0, by omega, by omega, rfl, rfl, rfl⟩
  case round =>
    obtain ⟨k, i, hi2, hk, rfl, rfl, HD⟩ := hrel
    by_cases hlt : i < s.size
    · have hb1 := (hex_bd s[i]).1
      have hb2 := (hex_bd s[i]).2
      have Hd : Hid ((bs s).drop i = s[i] :: (bs s).drop (i + 1)) := drop_bs s i hlt
      by_cases hx0 : hex s[i] < 0
      · have HF : Hid (digitsR 16 (bs s) = (i, k)) := by have := HD.out; rw [Hd.out, digT_stop _ _ _ _ _ _ (.inl hx0)] at this; exact digitsR_of _ _ _ _ this.symm
        clear HD
        go_wp2_with (go_at_call 103; (with_reducible refine (hexR_any _ _).mono ?_); rintro e w' ⟨rfl, rfl⟩)
        go_ret2
        exact ⟨by rw [HF.out]; rfl, rfl⟩
      · by_cases hx1 : hex s[i] < 16
        · have HD2 : Hid (digT 100000000 16 ((bs s).drop (i + 1)) (min (k * 16 + (hex s[i]).toNat) 100000000) (i + 1) = digT 100000000 16 (bs s) 0 0) := by have := HD.out; rw [Hd.out, digT_go _ _ _ _ _ _ (by omega) (by omega)] at this; exact this
          clear HD
          have hx0' : 0 ≤ hex s[i] := by omega
          clear hx0
          go_wp2_with (go_at_call 103; (with_reducible refine (hexR_any _ _).mono ?_); rintro e w' ⟨rfl, rfl⟩)
          go_round
          case rel => exact ⟨min (k * 16 + (hex s[i]).toNat) 100000000, i + 1, by omega, by omega, by rw [num_step8 _ _ _ hx0']; rfl, by go_num, HD2⟩
          case measure => simp [intOf]; omega
        · have HF : Hid (digitsR 16 (bs s) = (i, k)) := by have := HD.out; rw [Hd.out, digT_stop _ _ _ _ _ _ (.inr (by omega))] at this; exact digitsR_of _ _ _ _ this.symm
          clear HD
          have hx0' : 0 ≤ hex s[i] := by omega
          have hx1' : 16 ≤ hex s[i] := by omega
          clear hx0 hx1
          go_wp2_with (go_at_call 103; (with_reducible refine (hexR_any _ _).mono ?_); rintro e w' ⟨rfl, rfl⟩)
          go_ret2
          exact ⟨by rw [HF.out]; rfl, rfl⟩
    · have hie : i = s.size := by omega
      have HF : Hid (digitsR 16 (bs s) = (i, k)) := by have := HD.out; rw [List.drop_eq_nil_of_le (by rw [← size_bs]; omega), digT_nil] at this; exact digitsR_of _ _ _ _ this.symm
      clear HD hie
      go_wp2
      go_ret2
      exact ⟨by rw [HF.out]; rfl, rfl⟩

set_option maxHeartbeats 1000000 in
theorem digitsR_10 (s : ByteArray) (w : World) (hs : s.size ≤ 1000000000) : Calls Tryz.prog 95 #[.string s, .int .i64 10] w fun e w' => e = .returned (.tuple #[.int .i64 (digitsR 10 (bs s)).1, .int .i64 (digitsR 10 (bs s)).2]) ∧ w = w' := by
  go_enter Tryz.func95, Tryz.ntmps95
  go_wp2
  go_loop [6, 7, 8] (fun n e _ => ∃ k i : Nat, i ≤ s.size ∧ k ≤ 100000000 ∧ n = .int .i64 k ∧ e = .int .i64 i ∧ Hid (digT 100000000 10 ((bs s).drop i) k i = digT 100000000 10 (bs s) 0 0)) (fun _ i _ => s.size - (intOf i).toNat)
  case atStart => exact ⟨0, 0, by omega, by omega, rfl, rfl, rfl⟩
  case round =>
    obtain ⟨k, i, hi2, hk, rfl, rfl, HD⟩ := hrel
    by_cases hlt : i < s.size
    · have hb1 := (hex_bd s[i]).1
      have hb2 := (hex_bd s[i]).2
      have Hd : Hid ((bs s).drop i = s[i] :: (bs s).drop (i + 1)) := drop_bs s i hlt
      by_cases hx0 : hex s[i] < 0
      · have HF : Hid (digitsR 10 (bs s) = (i, k)) := by have := HD.out; rw [Hd.out, digT_stop _ _ _ _ _ _ (.inl hx0)] at this; exact digitsR_of _ _ _ _ this.symm
        clear HD
        go_wp2_with (go_at_call 103; (with_reducible refine (hexR_any _ _).mono ?_); rintro e w' ⟨rfl, rfl⟩)
        go_ret2
        exact ⟨by rw [HF.out]; rfl, rfl⟩
      · by_cases hx1 : hex s[i] < 10
        · have HD2 : Hid (digT 100000000 10 ((bs s).drop (i + 1)) (min (k * 10 + (hex s[i]).toNat) 100000000) (i + 1) = digT 100000000 10 (bs s) 0 0) := by have := HD.out; rw [Hd.out, digT_go _ _ _ _ _ _ (by omega) (by omega)] at this; exact this
          clear HD
          have hx0' : 0 ≤ hex s[i] := by omega
          clear hx0
          go_wp2_with (go_at_call 103; (with_reducible refine (hexR_any _ _).mono ?_); rintro e w' ⟨rfl, rfl⟩)
          go_round
          case rel => exact ⟨min (k * 10 + (hex s[i]).toNat) 100000000, i + 1, by omega, by omega, by rw [num_step8 _ _ _ hx0']; rfl, by go_num, HD2⟩
          case measure => simp [intOf]; omega
        · have HF : Hid (digitsR 10 (bs s) = (i, k)) := by have := HD.out; rw [Hd.out, digT_stop _ _ _ _ _ _ (.inr (by omega))] at this; exact digitsR_of _ _ _ _ this.symm
          clear HD
          have hx0' : 0 ≤ hex s[i] := by omega
          have hx1' : 10 ≤ hex s[i] := by omega
          clear hx0 hx1
          go_wp2_with (go_at_call 103; (with_reducible refine (hexR_any _ _).mono ?_); rintro e w' ⟨rfl, rfl⟩)
          go_ret2
          exact ⟨by rw [HF.out]; rfl, rfl⟩
    · have hie : i = s.size := by omega
      have HF : Hid (digitsR 10 (bs s) = (i, k)) := by have := HD.out; rw [List.drop_eq_nil_of_le (by rw [← size_bs]; omega), digT_nil] at this; exact digitsR_of _ _ _ _ this.symm
      clear HD hie
      go_wp2
      go_ret2
      exact ⟨by rw [HF.out]; rfl, rfl⟩

theorem numericR_not (s : Bs) (h : begins s [38, 35] = false) : numericR s = (0, 0, 0) := by unfold numericR; rw [if_neg (by rw [h]; exact Bool.false_ne_true)]
theorem numericR_yes (s : Bs) (h : begins s [38, 35] = true) (hx : 2 < s.length ∧ (s.getD 2 0 = 120 ∨ s.getD 2 0 = 88)) : numericR s = if (digitsR 16 (s.drop 3)).1 = 0 then (0, 0, 0) else (3 + (digitsR 16 (s.drop 3)).1, (digitsR 16 (s.drop 3)).1, (digitsR 16 (s.drop 3)).2) := by
  unfold numericR; rw [if_pos h, if_pos hx]
theorem numericR_no (s : Bs) (h : begins s [38, 35] = true) (hx : ¬ (2 < s.length ∧ (s.getD 2 0 = 120 ∨ s.getD 2 0 = 88))) : numericR s = if (digitsR 10 (s.drop 2)).1 = 0 then (0, 0, 0) else (2 + (digitsR 10 (s.drop 2)).1, (digitsR 10 (s.drop 2)).1, (digitsR 10 (s.drop 2)).2) := by
  unfold numericR; rw [if_pos h, if_neg hx]
theorem digitsR_le (B : Nat) (s : Bs) : (digitsR B s).1 ≤ s.length := by
  have := (digT_ge 100000000 B s 0 0).2
  unfold digitsR; simp only; omega

theorem digitsR_from16 (s : ByteArray) (w : World) (hs : s.size ≤ 1000000000) : Calls Tryz.prog 95 #[.string (s.extract 3 s.size), .int .i64 16] w fun e w' => e = .returned (.tuple #[.int .i64 (digitsR 16 ((bs s).drop 3)).1, .int .i64 (digitsR 16 ((bs s).drop 3)).2]) ∧ w = w' := by
  rw [← bs_from]
  exact digitsR_16 _ w (by rw [ByteArray.size_extract]; omega)
theorem digitsR_from10 (s : ByteArray) (w : World) (hs : s.size ≤ 1000000000) : Calls Tryz.prog 95 #[.string (s.extract 2 s.size), .int .i64 10] w fun e w' => e = .returned (.tuple #[.int .i64 (digitsR 10 ((bs s).drop 2)).1, .int .i64 (digitsR 10 ((bs s).drop 2)).2]) ∧ w = w' := by
  rw [← bs_from]
  exact digitsR_10 _ w (by rw [ByteArray.size_extract]; omega)

theorem begins_lit (s : ByteArray) (t : Bs) (w : World) : Calls Tryz.prog 94 #[.string s, .string ⟨t.toArray⟩] w fun e w' => e = .returned (.bool (begins (bs s) t)) ∧ w = w' := begins_any s ⟨t.toArray⟩ w
theorem byte_yes (c : UInt8) (n : Nat) (hn : n < 256) (h : ((c.toNat : Int) == (n : Int)) = true) : c = UInt8.ofNat n := by
  have h := beq_iff_eq.1 h
  rw [← UInt8.toNat_inj]; simp; omega
theorem byte_no (c : UInt8) (n : Nat) (hn : n < 256) (h : ((c.toNat : Int) == (n : Int)) = false) : c ≠ UInt8.ofNat n := by
  intro e
  subst e
  have : n % 256 = n := by omega
  simp [this] at h

set_option maxHeartbeats 1000000 in
theorem numericR_x (s : ByteArray) (w : World) (hs : s.size ≤ 1000000000) (hbg : begins (bs s) [38, 35] = true) (h2 : 2 < s.size) (hc : ((s[2].toNat : Int) == 120) = true) (hx : (2 < (bs s).length ∧ ((bs s).getD 2 0 = 120 ∨ (bs s).getD 2 0 = 88))) : Calls Tryz.prog 80 #[.string s] w fun e w' => e = .returned (.tuple #[.int .i64 (numericR (bs s)).1, .int .i64 (numericR (bs s)).2.1, .int .i64 (numericR (bs s)).2.2]) ∧ w = w' := by
  have HX := Lib.hid (numericR_yes _ hbg hx)
  have h2s : 3 ≤ s.size := by rw [size_bs]; omega
  clear hx
  have hd := digitsR_le 16 ((bs s).drop 3)
  rw [List.length_drop, ← size_bs] at hd
  go_enter Tryz.func80, Tryz.ntmps80
  go_wp2_with (first | (go_at_call 94; (with_reducible refine (begins_lit _ _ _).mono ?_); rintro e w' ⟨rfl, rfl⟩) | (go_at_call 95; (with_reducible refine (digitsR_from16 _ _ hs).mono ?_); rintro e w' ⟨rfl, rfl⟩) | (go_at_call 95; (with_reducible refine (digitsR_from10 _ _ hs).mono ?_); rintro e w' ⟨rfl, rfl⟩))
  all_goals (go_ret3; first | (have hi : ((((digitsR 16 ((bs s).drop 3)).1 : Nat) : Int) == 0) = true := (by assumption); exact ⟨by rw [HX.out, if_pos (by have := beq_iff_eq.1 hi; omega)]; rfl, rfl⟩) | (have hi : ((((digitsR 16 ((bs s).drop 3)).1 : Nat) : Int) == 0) = false := (by assumption); exact ⟨by rw [HX.out, if_neg (by intro h; rw [h] at hi; simp at hi)]; exact ret3 (by simp only; omega) rfl rfl, rfl⟩))

set_option maxHeartbeats 1000000 in
theorem numericR_X (s : ByteArray) (w : World) (hs : s.size ≤ 1000000000) (hbg : begins (bs s) [38, 35] = true) (h2 : 2 < s.size) (hc : ((s[2].toNat : Int) == 120) = false) (hc2 : ((s[2].toNat : Int) == 88) = true) (hx : (2 < (bs s).length ∧ ((bs s).getD 2 0 = 120 ∨ (bs s).getD 2 0 = 88))) : Calls Tryz.prog 80 #[.string s] w fun e w' => e = .returned (.tuple #[.int .i64 (numericR (bs s)).1, .int .i64 (numericR (bs s)).2.1, .int .i64 (numericR (bs s)).2.2]) ∧ w = w' := by
  have HX := Lib.hid (numericR_yes _ hbg hx)
  have h2s : 3 ≤ s.size := by rw [size_bs]; omega
  clear hx
  have hd := digitsR_le 16 ((bs s).drop 3)
  rw [List.length_drop, ← size_bs] at hd
  go_enter Tryz.func80, Tryz.ntmps80
  go_wp2_with (first | (go_at_call 94; (with_reducible refine (begins_lit _ _ _).mono ?_); rintro e w' ⟨rfl, rfl⟩) | (go_at_call 95; (with_reducible refine (digitsR_from16 _ _ hs).mono ?_); rintro e w' ⟨rfl, rfl⟩) | (go_at_call 95; (with_reducible refine (digitsR_from10 _ _ hs).mono ?_); rintro e w' ⟨rfl, rfl⟩))
  all_goals (go_ret3; first | (have hi : ((((digitsR 16 ((bs s).drop 3)).1 : Nat) : Int) == 0) = true := (by assumption); exact ⟨by rw [HX.out, if_pos (by have := beq_iff_eq.1 hi; omega)]; rfl, rfl⟩) | (have hi : ((((digitsR 16 ((bs s).drop 3)).1 : Nat) : Int) == 0) = false := (by assumption); exact ⟨by rw [HX.out, if_neg (by intro h; rw [h] at hi; simp at hi)]; exact ret3 (by simp only; omega) rfl rfl, rfl⟩))

set_option maxHeartbeats 1000000 in
theorem numericR_n (s : ByteArray) (w : World) (hs : s.size ≤ 1000000000) (hbg : begins (bs s) [38, 35] = true) (h2 : 2 < s.size) (hc : ((s[2].toNat : Int) == 120) = false) (hc2 : ((s[2].toNat : Int) == 88) = false) (hx : ¬ (2 < (bs s).length ∧ ((bs s).getD 2 0 = 120 ∨ (bs s).getD 2 0 = 88))) : Calls Tryz.prog 80 #[.string s] w fun e w' => e = .returned (.tuple #[.int .i64 (numericR (bs s)).1, .int .i64 (numericR (bs s)).2.1, .int .i64 (numericR (bs s)).2.2]) ∧ w = w' := by
  have HX := Lib.hid (numericR_no _ hbg hx)
  have h2s : 2 ≤ s.size := by have h3 := congrArg List.length ((begins_iff _ _).1 hbg); rw [List.length_take, ← size_bs] at h3; simp at h3; omega
  clear hx
  have hd := digitsR_le 10 ((bs s).drop 2)
  rw [List.length_drop, ← size_bs] at hd
  go_enter Tryz.func80, Tryz.ntmps80
  go_wp2_with (first | (go_at_call 94; (with_reducible refine (begins_lit _ _ _).mono ?_); rintro e w' ⟨rfl, rfl⟩) | (go_at_call 95; (with_reducible refine (digitsR_from16 _ _ hs).mono ?_); rintro e w' ⟨rfl, rfl⟩) | (go_at_call 95; (with_reducible refine (digitsR_from10 _ _ hs).mono ?_); rintro e w' ⟨rfl, rfl⟩))
  all_goals (go_ret3; first | (have hi : ((((digitsR 10 ((bs s).drop 2)).1 : Nat) : Int) == 0) = true := (by assumption); exact ⟨by rw [HX.out, if_pos (by have := beq_iff_eq.1 hi; omega)]; rfl, rfl⟩) | (have hi : ((((digitsR 10 ((bs s).drop 2)).1 : Nat) : Int) == 0) = false := (by assumption); exact ⟨by rw [HX.out, if_neg (by intro h; rw [h] at hi; simp at hi)]; exact ret3 (by simp only; omega) rfl rfl, rfl⟩))

set_option maxHeartbeats 1000000 in
theorem numericR_s (s : ByteArray) (w : World) (hs : s.size ≤ 1000000000) (hbg : begins (bs s) [38, 35] = true) (h2 : ¬ 2 < s.size) (hx : ¬ (2 < (bs s).length ∧ ((bs s).getD 2 0 = 120 ∨ (bs s).getD 2 0 = 88))) : Calls Tryz.prog 80 #[.string s] w fun e w' => e = .returned (.tuple #[.int .i64 (numericR (bs s)).1, .int .i64 (numericR (bs s)).2.1, .int .i64 (numericR (bs s)).2.2]) ∧ w = w' := by
  have HX := Lib.hid (numericR_no _ hbg hx)
  have h2s : 2 ≤ s.size := by have h3 := congrArg List.length ((begins_iff _ _).1 hbg); rw [List.length_take, ← size_bs] at h3; simp at h3; omega
  clear hx
  have hd := digitsR_le 10 ((bs s).drop 2)
  rw [List.length_drop, ← size_bs] at hd
  go_enter Tryz.func80, Tryz.ntmps80
  go_wp2_with (first | (go_at_call 94; (with_reducible refine (begins_lit _ _ _).mono ?_); rintro e w' ⟨rfl, rfl⟩) | (go_at_call 95; (with_reducible refine (digitsR_from16 _ _ hs).mono ?_); rintro e w' ⟨rfl, rfl⟩) | (go_at_call 95; (with_reducible refine (digitsR_from10 _ _ hs).mono ?_); rintro e w' ⟨rfl, rfl⟩))
  all_goals (go_ret3; first | (have hi : ((((digitsR 10 ((bs s).drop 2)).1 : Nat) : Int) == 0) = true := (by assumption); exact ⟨by rw [HX.out, if_pos (by have := beq_iff_eq.1 hi; omega)]; rfl, rfl⟩) | (have hi : ((((digitsR 10 ((bs s).drop 2)).1 : Nat) : Int) == 0) = false := (by assumption); exact ⟨by rw [HX.out, if_neg (by intro h; rw [h] at hi; simp at hi)]; exact ret3 (by simp only; omega) rfl rfl, rfl⟩))

theorem numericR_any (s : ByteArray) (w : World) (hs : s.size ≤ 1000000000) : Calls Tryz.prog 80 #[.string s] w fun e w' => e = .returned (.tuple #[.int .i64 (numericR (bs s)).1, .int .i64 (numericR (bs s)).2.1, .int .i64 (numericR (bs s)).2.2]) ∧ w = w' := by
  rcases Bool.eq_false_or_eq_true (begins (bs s) [38, 35]) with hbg | hbg
  · by_cases h2 : 2 < s.size
    · have hg := get_bs s 2 h2
      rcases Bool.eq_false_or_eq_true ((s[2].toNat : Int) == 120) with hc | hc
      · exact numericR_x s w hs hbg h2 hc ⟨by rw [← size_bs]; exact h2, .inl (by rw [← hg]; exact byte_yes _ 120 (by decide) hc)⟩
      · rcases Bool.eq_false_or_eq_true ((s[2].toNat : Int) == 88) with hc2 | hc2
        · exact numericR_X s w hs hbg h2 hc hc2 ⟨by rw [← size_bs]; exact h2, .inr (by rw [← hg]; exact byte_yes _ 88 (by decide) hc2)⟩
        · refine numericR_n s w hs hbg h2 hc hc2 ?_
          rintro ⟨_, h | h⟩
          · exact byte_no _ 120 (by decide) hc (by rw [hg]; exact h)
          · exact byte_no _ 88 (by decide) hc2 (by rw [hg]; exact h)
    · exact numericR_s s w hs hbg h2 (by rintro ⟨h, _⟩; rw [← size_bs] at h; exact h2 h)
  · have hn := numericR_not _ hbg
    go_enter Tryz.func80, Tryz.ntmps80
    go_wp2_with (first | (go_at_call 94; (with_reducible refine (begins_lit _ _ _).mono ?_); rintro e w' ⟨rfl, rfl⟩) | (go_at_call 95; (with_reducible refine (digitsR_from16 _ _ hs).mono ?_); rintro e w' ⟨rfl, rfl⟩) | (go_at_call 95; (with_reducible refine (digitsR_from10 _ _ hs).mono ?_); rintro e w' ⟨rfl, rfl⟩))
    go_ret3
    exact ⟨by rw [hn]; rfl, rfl⟩
end Tym
