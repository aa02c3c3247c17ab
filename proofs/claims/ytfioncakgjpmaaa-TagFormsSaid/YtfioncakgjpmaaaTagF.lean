/- The walks of Begins, of both. -/
import Derived.Test.YtfioncakgjpmaaaTagE
set_option linter.unusedSimpArgs false
set_option linter.unusedVariables false
open Go Go.RowKit Go.Proofs
namespace Tym
set_option maxRecDepth 20000

def behindSlash (t : Bs) : Bs := if t.head? = some 47 then t.tail else t
theorem beginsTag_cons (c : UInt8) (t : Bs) : beginsTag (c :: t) = (c == 60 && (match behindSlash t with | [] => false | d :: _ => isLetter d)) := rfl

theorem trim_slash (s : ByteArray) (k : Nat) (w : World) : Calls Try.prog 32 #[.string (s.extract k s.size), .string ⟨#[47]⟩] w fun e w' => e = .returned (.string (mk (behindSlash ((bs s).drop k)))) ∧ w = w' := by
  refine (Try.strings_TrimPrefix _ _ w).mono ?_
  rintro e w' ⟨rfl, rfl⟩
  refine ⟨?_, rfl⟩
  have h : (s.extract k s.size).data.toList = (bs s).drop k := bs_from s k
  rw [h]
  refine ret_str (congrArg mk ?_)
  show Lib.trimPrefix ((bs s).drop k) [47] = _
  unfold Lib.trimPrefix behindSlash Lib.hasPrefix
  cases (bs s).drop k with
  | nil => rfl
  | cons c t =>
    by_cases hc : c = 47
    · subst hc; simp
    · have h1 : ¬ (47 : UInt8) = c := fun h => hc h.symm
      simp [List.isPrefixOf, hc, h1]

theorem begins_out (s : ByteArray) (i : Int) (w : World) (h : i < 0 ∨ (¬ i < 0 ∧ (s.size : Int) ≤ i)) : Calls Try.prog 12 #[.string s, .int .i64 i] w fun e w' => e = .returned (.bool false) ∧ Below w.heap.size w w' := by
  rcases h with h | ⟨h, h2⟩
  all_goals
    go_enter Try.func12, Try.ntmps12
    go_wp2_with fail
    go_ret
    exact ⟨rfl, Below.refl _ _⟩

theorem beginsR_out (s : ByteArray) (i : Int) (w : World) (hs : s.size ≤ 1000000) (h : i < 0 ∨ (¬ i < 0 ∧ (s.size : Int) - 1 ≤ i)) : Calls Try.prog 13 #[.string s, .int .i64 i] w fun e w' => e = .returned (.bool false) ∧ Below w.heap.size w w' := by
  rcases h with h | ⟨h, h2⟩
  all_goals
    go_enter Try.func13, Try.ntmps13
    go_wp2_with fail
    go_ret
    exact ⟨rfl, Below.refl _ _⟩

theorem begins_not (s : ByteArray) (k : Nat) (w : World) (hs : s.size ≤ 1000000) (hk : k < s.size) (hc : s[k]'hk ≠ 60) : Calls Try.prog 12 #[.string s, .int .i64 k] w fun e w' => e = .returned (.bool false) ∧ Below w.heap.size w w' := by
  have h1 : ¬ (k : Int) < 0 := by omega
  have h2 : ¬ (s.size : Int) ≤ (k : Int) := by omega
  have h3 : (((s[k]'hk).toNat : Int) != 60) = true := by rw [bne_iff_ne]; intro h; apply hc; exact UInt8.toNat.inj (by simpa using (by omega : (s[k]'hk).toNat = 60))
  go_enter Try.func12, Try.ntmps12
  go_wp2_with fail
  go_ret
  exact ⟨rfl, Below.refl _ _⟩

theorem begins_lt (s : ByteArray) (k : Nat) (w : World) (hs : s.size ≤ 1000000) (hk : k < s.size) (hc : s[k]'hk = 60) : Calls Try.prog 12 #[.string s, .int .i64 k] w fun e w' => e = .returned (.bool (match behindSlash ((bs s).drop (k + 1)) with | [] => false | d :: _ => isLetter d)) ∧ Below w.heap.size w w' := by
  have h1 : ¬ (k : Int) < 0 := by omega
  have h2 : ¬ (s.size : Int) ≤ (k : Int) := by omega
  have h3 : (((s[k]'hk).toNat : Int) != 60) = false := by rw [hc]; rfl
  have HT : Hid (∀ w, Calls Try.prog 32 #[.string (s.extract (k + 1) s.size), .string ⟨#[47]⟩] w fun e w' => e = .returned (.string (mk (behindSlash ((bs s).drop (k + 1))))) ∧ w = w') := fun w => trim_slash s (k + 1) w
  clear hc
  cases hb : behindSlash ((bs s).drop (k + 1)) with
  | nil =>
    rw [hb, show mk [] = (⟨#[]⟩ : ByteArray) from rfl] at HT
    clear hb
    go_enter Try.func12, Try.ntmps12
    go_wp2_with fail
    refine (HT.out _).mono ?_; rintro e w1 ⟨rfl, rfl⟩
    go_wp2_with fail
    go_ret
    exact ⟨rfl, Below.refl _ _⟩
  | cons d u =>
    rw [hb] at HT
    have HL : Hid (∀ w, Calls Try.prog 33 #[.int .u8 (d.toNat : Int)] w fun e w' => e = .returned (.bool (isLetter d)) ∧ w = w') := fun w => letter_any d w
    have hx : ∃ x : ByteArray, x = mk (d :: u) ∧ ∃ h : 0 < x.size, x[0]'h = d ∧ (x.toList.isEmpty = false) ∧ (0 : Int) < (x.size : Int) := ⟨_, rfl, by rw [size_mk]; simp, by rw [get_bs, bs_mk]; rfl, by rw [Lib.toList_data]; rfl, by rw [size_mk]; simp⟩
    obtain ⟨x, hxe, hx0, hxd, hxe2, hxi⟩ := hx
    rw [← hxe] at HT
    clear hb hxe
    simp only
    generalize isLetter d = b at *
    go_enter Try.func12, Try.ntmps12
    go_wp2_with fail
    refine (HT.out _).mono ?_; rintro e w1 ⟨rfl, rfl⟩
    go_wp2_with fail
    refine (HL.out _).mono ?_; rintro e w1 ⟨rfl, rfl⟩
    go_wp2_with fail
    go_ret
    exact ⟨rfl, Below.refl _ _⟩

theorem begins_in (s : ByteArray) (k : Nat) (w : World) (hs : s.size ≤ 1000000) (hk : k < s.size) : Calls Try.prog 12 #[.string s, .int .i64 k] w fun e w' => e = .returned (.bool (beginsTag ((bs s).drop k))) ∧ Below w.heap.size w w' := by
  rw [drop_bs s k hk, beginsTag_cons]
  by_cases hc : s[k]'hk = 60
  · rw [show (s[k]'hk == 60) = true from by rw [hc]; rfl, Bool.true_and]; exact begins_lt s k w hs hk hc
  · rw [show (s[k]'hk == 60) = false from by simpa using hc, Bool.false_and]; exact begins_not s k w hs hk hc
theorem beginsR_in (s : ByteArray) (k : Nat) (w : World) (hs : s.size ≤ 1000000) (hk : k < s.size) : Calls Try.prog 13 #[.string s, .int .i64 k] w fun e w' => e = .returned (.bool (beginsTag ((bs s).drop k))) ∧ Below w.heap.size w w' := by
  by_cases hl : (s.size : Int) - 1 ≤ (k : Int)
  · have hb : beginsTag ((bs s).drop k) = false := by
      rw [drop_bs s k hk, beginsTag_cons, List.drop_eq_nil_of_le (by rw [← size_bs]; omega)]
      simp [behindSlash]
    rw [hb]
    exact beginsR_out s k w hs (.inr ⟨by omega, hl⟩)
  · have hk1 : k + 1 < s.size := by omega
    have h1 : ¬ (k : Int) < 0 := by omega
    rw [drop_bs s k hk, beginsTag_cons, drop_bs s (k + 1) hk1]
    by_cases hc : s[k]'hk = 60
    · have h3 : (((s[k]'hk).toNat : Int) != 60) = false := by rw [hc]; rfl
      rw [show (s[k]'hk == 60) = true from by rw [hc]; rfl, Bool.true_and]
      clear hc
      by_cases h47 : s[k + 1]'hk1 = 47
      · have h4 : (((s[k + 1]'hk1).toNat : Int) == 47) = true := by rw [h47]; rfl
        rw [show behindSlash (s[k + 1]'hk1 :: (bs s).drop (k + 1 + 1)) = (bs s).drop (k + 1 + 1) from by unfold behindSlash; rw [h47]; simp]
        clear h47
        by_cases hk2 : k + 2 < s.size
        · have h5 : (k : Int) + 2 < (s.size : Int) := by omega
          rw [drop_bs s (k + 1 + 1) hk2]
          have HL : Hid (∀ w, Calls Try.prog 34 #[.int .u8 ((s[k + 2]'hk2).toNat : Int)] w fun e w' => e = .returned (.bool (isLetter (s[k + 2]'hk2))) ∧ w = w') := fun w => letterR_any _ w
          simp only
          generalize isLetter (s[k + 1 + 1]'hk2) = b at *
          go_enter Try.func13, Try.ntmps13
          go_wp2_with fail
          refine (HL.out _).mono ?_; rintro e w1 ⟨rfl, rfl⟩
          go_wp2_with fail
          go_ret
          exact ⟨rfl, Below.refl _ _⟩
        · have h5 : ¬ (k : Int) + 2 < (s.size : Int) := by omega
          rw [List.drop_eq_nil_of_le (by rw [← size_bs]; omega)]
          simp only
          go_enter Try.func13, Try.ntmps13
          go_wp2_with fail
          go_ret
          exact ⟨rfl, Below.refl _ _⟩
      · have h4 : (((s[k + 1]'hk1).toNat : Int) == 47) = false := by rw [Bool.eq_false_iff, Ne, beq_iff_eq]; intro h; apply h47; exact UInt8.toNat.inj (by simpa using (by omega : (s[k + 1]'hk1).toNat = 47))
        rw [show behindSlash (s[k + 1]'hk1 :: (bs s).drop (k + 1 + 1)) = s[k + 1]'hk1 :: (bs s).drop (k + 1 + 1) from by unfold behindSlash; rw [if_neg (by simpa using h47)]]
        have HL : Hid (∀ w, Calls Try.prog 34 #[.int .u8 ((s[k + 1]'hk1).toNat : Int)] w fun e w' => e = .returned (.bool (isLetter (s[k + 1]'hk1))) ∧ w = w') := fun w => letterR_any _ w
        clear h47
        simp only
        generalize isLetter (s[k + 1]'hk1) = b at *
        go_enter Try.func13, Try.ntmps13
        go_wp2_with fail
        refine (HL.out _).mono ?_; rintro e w1 ⟨rfl, rfl⟩
        go_wp2_with fail
        go_ret
        exact ⟨rfl, Below.refl _ _⟩
    · have h3 : (((s[k]'hk).toNat : Int) != 60) = true := by rw [bne_iff_ne]; intro h; apply hc; exact UInt8.toNat.inj (by simpa using (by omega : (s[k]'hk).toNat = 60))
      rw [show (s[k]'hk == 60) = false from by simpa using hc, Bool.false_and]
      go_enter Try.func13, Try.ntmps13
      go_wp2_with fail
      go_ret
      exact ⟨rfl, Below.refl _ _⟩
end Tym
