/- The walk of the reference's value. -/
import Derived.Test.YtpgdkhdnnegmaaaGreatTagL
set_option linter.unusedSimpArgs false
set_option linter.unusedVariables false
open Go Go.RowKit Go.Proofs
namespace Tym
set_option maxRecDepth 20000
attribute [local irreducible] dec

theorem valueR_stop (s : ByteArray) (k : Nat) (w : World) (hs : s.size ≤ 1000000) (hk : k ≤ s.size) (hA : skip isSpace s k = s.size) :
    Calls Tryz.prog 57 #[.string s, .int .i64 k] w fun e w' => e = .returned (.tuple #[.string ⟨#[]⟩, .int .i64 s.size, .bool false]) ∧ Below w.heap.size w w' := by
  have H1 : Hid (∀ w, Calls Tryz.prog 56 #[.string s, .int .i64 k] w fun e w' => e = .returned (.int .i64 s.size) ∧ w = w') := fun w => by rw [← hA]; exact blanksR_any s k w hs hk
  clear hA
  go_enter Tryz.func57, Tryz.ntmps57
  go_wp2_with fail
  refine (H1.out _).mono ?_; rintro e w1 ⟨rfl, rfl⟩
  go_wp2_with fail
  go_ret3
  exact ⟨rfl, Below.refl _ _⟩

theorem valueR_empty (s : ByteArray) (k k1 : Nat) (w : World) (hs : s.size ≤ 1000000) (hk : k ≤ s.size) (hA : skip isSpace s k = k1) (hlt : k1 < s.size) (hc : s[k1]'hlt = 62) :
    Calls Tryz.prog 57 #[.string s, .int .i64 k] w fun e w' => e = .returned (.tuple #[.string ⟨#[]⟩, .int .i64 k1, .bool true]) ∧ Below w.heap.size w w' := by
  have H1 : Hid (∀ w, Calls Tryz.prog 56 #[.string s, .int .i64 k] w fun e w' => e = .returned (.int .i64 k1) ∧ w = w') := fun w => by rw [← hA]; exact blanksR_any s k w hs hk
  have h62 : (((s[k1]'hlt).toNat : Int) == 62) = true := by rw [hc]; rfl
  have hne : ((k1 : Int) == (s.size : Int)) = false := by rw [Bool.eq_false_iff, Ne, beq_iff_eq]; omega
  clear hA hc
  go_enter Tryz.func57, Tryz.ntmps57
  go_wp2_with fail
  refine (H1.out _).mono ?_; rintro e w1 ⟨rfl, rfl⟩
  go_wp2_with fail
  go_ret3
  exact ⟨rfl, Below.refl _ _⟩

theorem valueR_bare (s : ByteArray) (k k1 k2 : Nat) (w : World) (hs : s.size ≤ 1000000) (hk : k ≤ s.size) (hA : skip isSpace s k = k1) (hlt : k1 < s.size) (c : UInt8) (hc : s[k1]'hlt = c) (h34 : c ≠ 34) (h39 : c ≠ 39) (h62 : c ≠ 62) (h2 : skip bareB s k1 = k2) :
    Calls Tryz.prog 57 #[.string s, .int .i64 k] w fun e w' => e = .returned (.tuple #[.string (mk (dec true (bs (s.extract k1 k2)))), .int .i64 k2, .bool true]) ∧ Below w.heap.size w w' := by
  have hs2 := skip_le bareB s k1 (by omega)
  rw [h2] at hs2
  have H1 : Hid (∀ w, Calls Tryz.prog 56 #[.string s, .int .i64 k] w fun e w' => e = .returned (.int .i64 k1) ∧ w = w') := fun w => by rw [← hA]; exact blanksR_any s k w hs hk
  have H4 : Hid (∀ w, Calls Tryz.prog 28 #[.string (s.extract k1 k2), .bool true] w fun e w' => e = .returned (.string (mk (dec true (bs (s.extract k1 k2))))) ∧ Below w.heap.size w w') := fun w => decodeR_any _ true w (by rw [ByteArray.size_extract]; omega)
  have g34 : (((s[k1]'hlt).toNat : Int) == 34) = false := by rw [Bool.eq_false_iff, Ne, beq_iff_eq]; intro h; apply h34; rw [← hc]; exact UInt8.toNat.inj (by simpa using (by omega : (s[k1]'hlt).toNat = 34))
  have g39 : (((s[k1]'hlt).toNat : Int) == 39) = false := by rw [Bool.eq_false_iff, Ne, beq_iff_eq]; intro h; apply h39; rw [← hc]; exact UInt8.toNat.inj (by simpa using (by omega : (s[k1]'hlt).toNat = 39))
  have g62 : (((s[k1]'hlt).toNat : Int) == 62) = false := by rw [Bool.eq_false_iff, Ne, beq_iff_eq]; intro h; apply h62; rw [← hc]; exact UInt8.toNat.inj (by simpa using (by omega : (s[k1]'hlt).toNat = 62))
  have hne : ((k1 : Int) == (s.size : Int)) = false := by rw [Bool.eq_false_iff, Ne, beq_iff_eq]; omega
  generalize mk (dec true (bs (s.extract k1 k2))) = v at *
  have HN := Lib.hid h2
  clear hA hc h34 h39 h62 h2
  go_enter Tryz.func57, Tryz.ntmps57
  go_wp2_with fail
  refine (H1.out _).mono ?_; rintro e w1 ⟨rfl, rfl⟩
  go_wp2_with fail
  go_loopw [8] (fun v8 wr => ∃ j : Nat, k1 ≤ j ∧ j ≤ s.size ∧ v8 = .int .i64 j ∧ Hid (skip bareB s j = k2) ∧ wr = w) (fun v8 _ => s.size - (intOf v8).toNat)
  case atStart => exact ⟨k1, Nat.le_refl _, by omega, rfl, HN, rfl⟩
  case round =>
    obtain ⟨j, hkj, hj, rfl, HJ, rfl⟩ := hrel
    by_cases hlt2 : j < s.size
    · have HS : Hid (∀ w, Calls Tryz.prog 79 #[.int .u8 ((s[j]'hlt2).toNat : Int)] w fun e w' => e = .returned (.bool (isSpace (s[j]'hlt2))) ∧ w = w') := fun w => spaceR_any _ w
      have hq : bareB (s[j]'hlt2) = (!isSpace (s[j]'hlt2) && (((s[j]'hlt2).toNat : Int) != 62)) := by
        unfold bareB
        rw [show ((s[j]'hlt2) != 62) = (((s[j]'hlt2).toNat : Int) != 62) from byte_all (p := fun c => (c != 62) = ((c.toNat : Int) != 62)) (by decide +kernel) _]
      have HY := Lib.hid (skip_yes bareB s j k2 hlt2)
      have HZ := Lib.hid (skip_no bareB s j k2 hlt2)
      cases h0 : isSpace (s[j]'hlt2) <;> cases h1 : (((s[j]'hlt2).toNat : Int) != 62) <;> rw [h0, h1] at hq <;> rw [h0] at HS <;> simp only [Bool.not_true, Bool.not_false, Bool.true_and, Bool.false_and, Bool.and_true, Bool.and_false] at hq
      all_goals
        first
          | (have HX := Lib.hid (HY.out hq HJ.out)
             clear hq HY HZ h0
             go_wp2_with fail
             refine (HS.out _).mono ?_; rintro e w1 ⟨rfl, rfl⟩
             go_wp2_with fail
             go_roundw
             case rel => exact ⟨j + 1, by omega, by omega, by go_num, HX, by first | rfl | trivial⟩
             case measure => simp [intOf]; omega)
          | (have HX := Lib.hid (HZ.out hq HJ.out)
             clear hq HY HZ h0 g34 g39 g62
             have hjn := HX.out
             subst hjn
             go_wp2_with fail
             refine (HS.out _).mono ?_; rintro e w1 ⟨rfl, rfl⟩
             go_wp2_with fail
             refine (H4.out _).mono ?_; rintro e w1 ⟨rfl, hB⟩
             go_wp2_with fail
             go_ret3
             exact ⟨rfl, hB⟩)
    · obtain rfl : j = s.size := by omega
      have hjn := skip_end bareB s k2 HJ.out
      subst hjn
      go_wp2_with fail
      refine (H4.out _).mono ?_; rintro e w1 ⟨rfl, hB⟩
      go_wp2_with fail
      go_ret3
      exact ⟨rfl, hB⟩
theorem valueR_quote (s : ByteArray) (k k1 k2 : Nat) (w : World) (hs : s.size ≤ 1000000) (hk : k ≤ s.size) (hA : skip isSpace s k = k1) (hlt : k1 < s.size) (c : UInt8) (hc : s[k1]'hlt = c) (hq : c = 34 ∨ c = 39) (h2 : skip (· != c) s (k1 + 1) = k2) :
    Calls Tryz.prog 57 #[.string s, .int .i64 k] w fun e w' => (if k2 < s.size then e = .returned (.tuple #[.string (mk (dec true (bs (s.extract (k1 + 1) k2)))), .int .i64 ((k2 : Int) + 1), .bool true]) else e = .returned (.tuple #[.string ⟨#[]⟩, .int .i64 k2, .bool false])) ∧ Below w.heap.size w w' := by
  have hs2 := skip_le (· != c) s (k1 + 1) (by omega)
  rw [h2] at hs2
  have H1 : Hid (∀ w, Calls Tryz.prog 56 #[.string s, .int .i64 k] w fun e w' => e = .returned (.int .i64 k1) ∧ w = w') := fun w => by rw [← hA]; exact blanksR_any s k w hs hk
  have H4 : Hid (∀ w, Calls Tryz.prog 28 #[.string (s.extract (k1 + 1) k2), .bool true] w fun e w' => e = .returned (.string (mk (dec true (bs (s.extract (k1 + 1) k2))))) ∧ Below w.heap.size w w') := fun w => decodeR_any _ true w (by rw [ByteArray.size_extract]; omega)
  have g62 : (((s[k1]'hlt).toNat : Int) == 62) = false := by rw [hc]; rcases hq with rfl | rfl <;> rfl
  have g34 : (((s[k1]'hlt).toNat : Int) == 34) = (c == 34) := by rw [hc]; exact byte_all (p := fun c => ((c.toNat : Int) == 34) = (c == 34)) (by decide +kernel) c
  have g39 : (((s[k1]'hlt).toNat : Int) == 39) = (c == 39) := by rw [hc]; exact byte_all (p := fun c => ((c.toNat : Int) == 39) = (c == 39)) (by decide +kernel) c
  have hne : ((k1 : Int) == (s.size : Int)) = false := by rw [Bool.eq_false_iff, Ne, beq_iff_eq]; omega
  have HC := Lib.hid hc
  generalize mk (dec true (bs (s.extract (k1 + 1) k2))) = v at *
  have HN := Lib.hid h2
  have hk1n : 0 ≤ (k1 : Int) := by omega
  clear hA hc h2
  rcases hq with rfl | rfl
  all_goals
    simp only [show ((34 : UInt8) == 34) = true from rfl, show ((34 : UInt8) == 39) = false from rfl, show ((39 : UInt8) == 34) = false from rfl, show ((39 : UInt8) == 39) = true from rfl] at g34 g39
    go_enter Tryz.func57, Tryz.ntmps57
    go_wp2_with fail
    refine (H1.out _).mono ?_; rintro e w1 ⟨rfl, rfl⟩
    go_wp2_with fail
    go_loopw [7] (fun v7 wr => ∃ j : Nat, k1 + 1 ≤ j ∧ j ≤ s.size ∧ v7 = .int .i64 j ∧ Hid (skip (· != (s[k1]'hlt)) s j = k2) ∧ Below w.heap.size w wr) (fun v7 _ => s.size - (intOf v7).toNat)
    case atStart => exact ⟨k1 + 1, Nat.le_refl _, by omega, by go_num, by rw [HC.out]; exact HN, Below.refl _ _⟩
    case round =>
      obtain ⟨j, hkj, hj, rfl, HJ, hbl⟩ := hrel
      clear g34 g39 g62
      by_cases hlt2 : j < s.size
      · have hq : ((s[j]'hlt2) != (s[k1]'hlt)) = (((s[j]'hlt2).toNat : Int) != ((s[k1]'hlt).toNat : Int)) := by
          rw [Bool.eq_iff_iff, bne_iff_ne, bne_iff_ne, Ne, Ne]
          constructor
          · intro h h'; apply h; exact UInt8.toNat.inj (by omega)
          · intro h h'; apply h; rw [h']
        have HY := Lib.hid (skip_yes (· != (s[k1]'hlt)) s j k2 hlt2)
        have HZ := Lib.hid (skip_no (· != (s[k1]'hlt)) s j k2 hlt2)
        have hjz : (j : Int) < (s.size : Int) := by omega
        cases h1 : (((s[j]'hlt2).toNat : Int) != ((s[k1]'hlt).toNat : Int)) <;> rw [h1] at hq
        · have HX := Lib.hid (HZ.out hq HJ.out)
          have hjn := HX.out
          subst hjn
          have hje : ((j : Int) == (s.size : Int)) = false := by rw [Bool.eq_false_iff, Ne, beq_iff_eq]; omega
          clear hq HY HZ
          go_wp2_with fail
          go_quiet (fail)
          go_wp2_with fail
          refine (H4.out _).mono ?_; rintro e w2 ⟨rfl, hB⟩
          go_wp2_with fail
          go_ret3
          exact ⟨rfl, below_then (below_drewN hbl _) hB⟩
        · have HX := Lib.hid (HY.out hq HJ.out)
          clear hq HY HZ
          go_wp2_with fail
          go_quiet (fail)
          go_wp2_with fail
          go_roundw
          case rel => exact ⟨j + 1, by omega, by omega, by go_num, HX, below_drewN hbl _⟩
          case measure => simp [intOf]; omega
      · obtain rfl : j = s.size := by omega
        have hjn := skip_end (· != (s[k1]'hlt)) s k2 HJ.out
        subst hjn
        go_wp2_with fail
        go_quiet (fail)
        go_wp2_with fail
        go_ret3
        exact ⟨rfl, below_drewN hbl _⟩
/-- What an attribute's value is, and where it ends. -/
theorem valueR_some (s : ByteArray) (k : Nat) (w : World) (hs : s.size ≤ 1000000) (hk : k ≤ s.size) (v u : Bs) (h : valueOf ((bs s).drop k) = some (v, u)) :
    Calls Tryz.prog 57 #[.string s, .int .i64 k] w fun e w' => e = .returned (.tuple #[.string (mk v), .int .i64 ((s.size - u.length : Nat) : Int), .bool true]) ∧ Below w.heap.size w w' := by
  have hsk := skip_le isSpace s k hk
  have hd := skip_drop isSpace s k
  unfold valueOf at h
  cases hr : ((bs s).drop k).dropWhile isSpace with
  | nil => rw [hr] at h; cases h
  | cons c t =>
    rw [hr] at h hd
    simp only at h
    obtain ⟨hlt, hc, ht⟩ := drop_cons_get s _ c t hd
    by_cases hq : c = 34 ∨ c = 39
    · rw [if_pos hq] at h
      have hs2 := skip_le (· != c) s (skip isSpace s k + 1) (by omega)
      have hd2 := skip_drop (· != c) s (skip isSpace s k + 1)
      rw [ht] at hd2
      cases hw : t.dropWhile (· != c) with
      | nil => rw [hw] at h; cases h
      | cons d x =>
        rw [hw] at h hd2
        simp only [Option.some.injEq, Prod.mk.injEq] at h
        obtain ⟨hlt2, hc2, ht2⟩ := drop_cons_get s _ d x hd2
        refine (valueR_quote s k _ _ w hs hk rfl hlt c hc hq rfl).mono ?_
        rintro e w' ⟨this, hb⟩
        refine ⟨?_, hb⟩
        rw [if_pos hlt2] at this
        rw [← skip_text, bs_mk, ht, h.1, show (skip (· != c) s (skip isSpace s k + 1) : Int) + 1 = ((skip (· != c) s (skip isSpace s k + 1) + 1 : Nat) : Int) from rfl, drop_len s _ x (by omega) ht2, h.2] at this
        exact this
    · rw [if_neg hq] at h
      simp only [Option.some.injEq, Prod.mk.injEq] at h
      have hs2 := skip_le bareB s (skip isSpace s k) (by omega)
      have hd2 := skip_drop bareB s (skip isSpace s k)
      rw [hd] at hd2
      by_cases h62 : c = 62
      · subst h62
        have e1 : (62 :: t : Bs).takeWhile bareB = [] := by simp [bareB]
        have e2 : (62 :: t : Bs).dropWhile bareB = 62 :: t := by simp [bareB]
        rw [e1, e2, dec_nil] at h
        obtain ⟨rfl, rfl⟩ := h
        have := valueR_empty s k _ w hs hk rfl hlt hc
        rw [drop_len s _ _ hsk.2 hd] at this
        exact this
      · have := valueR_bare s k _ _ w hs hk rfl hlt c hc (fun e => hq (.inl e)) (fun e => hq (.inr e)) h62 rfl
        rw [← skip_text, bs_mk, hd, h.1, drop_len s _ _ hs2.2 hd2, h.2] at this
        exact this

theorem valueR_none (s : ByteArray) (k : Nat) (w : World) (hs : s.size ≤ 1000000) (hk : k ≤ s.size) (h : valueOf ((bs s).drop k) = none) :
    Calls Tryz.prog 57 #[.string s, .int .i64 k] w fun e w' => (∃ n : Nat, e = .returned (.tuple #[.string ⟨#[]⟩, .int .i64 n, .bool false])) ∧ Below w.heap.size w w' := by
  have hsk := skip_le isSpace s k hk
  have hd := skip_drop isSpace s k
  unfold valueOf at h
  cases hr : ((bs s).drop k).dropWhile isSpace with
  | nil =>
    rw [hr] at hd
    exact (valueR_stop s k w hs hk ((drop_nil_iff s _ hsk.2).1 hd)).mono fun _ _ h => ⟨⟨_, h.1⟩, h.2⟩
  | cons c t =>
    rw [hr] at h hd
    simp only at h
    obtain ⟨hlt, hc, ht⟩ := drop_cons_get s _ c t hd
    by_cases hq : c = 34 ∨ c = 39
    · rw [if_pos hq] at h
      have hs2 := skip_le (· != c) s (skip isSpace s k + 1) (by omega)
      have hd2 := skip_drop (· != c) s (skip isSpace s k + 1)
      rw [ht] at hd2
      cases hw : t.dropWhile (· != c) with
      | nil =>
        rw [hw] at hd2
        have he := (drop_nil_iff s _ hs2.2).1 hd2
        refine (valueR_quote s k _ _ w hs hk rfl hlt c hc hq rfl).mono ?_
        rintro e w' ⟨this, hb⟩
        rw [if_neg (by omega)] at this
        exact ⟨⟨_, this⟩, hb⟩
      | cons d x => rw [hw] at h; cases h
    · rw [if_neg hq] at h; cases h
end Tym
