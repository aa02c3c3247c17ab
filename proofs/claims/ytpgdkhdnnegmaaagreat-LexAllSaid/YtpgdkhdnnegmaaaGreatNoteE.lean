/- The walks of note's Begins, of both; what strings.Cut and CutSuffix hand back, in our own words. The walks of the reference's at, Begins, upTo. The walks of upTo and comment, of both. The walk of note's comment. The walk of the reference's comment. -/
import Derived.Test.YtpgdkhdnnegmaaaGreatPlainNote
import Derived.Test.YtpgdkhdnnegmaaaGreatWorlds
import Derived.Below
import Derived.Deep.CutRange
import Derived.Lib.IndexMore
import Derived.Deep.QuietTactic
import Derived.BigQuiet

namespace Tym
set_option linter.unusedSimpArgs false
set_option linter.unusedVariables false
open Go Go.RowKit Go.Proofs
set_option maxRecDepth 20000

theorem noteBegins_out (s : ByteArray) (i : Int) (w : World) (hs : s.size ≤ 1000000) (h : i < 0 ∨ (¬ i < 0 ∧ (s.size : Int) - 1 ≤ i)) : Calls Tryz.prog 15 #[.string s, .int .i64 i] w fun e w' => e = .returned (.bool false) ∧ Below w.heap.size w w' := by
  rcases h with h | ⟨h, h2⟩
  all_goals
    go_enter Tryz.func15, Tryz.ntmps15
    go_wp2_with fail
    go_ret
    exact ⟨rfl, Below.refl _ _⟩

theorem beginsNote_cons (a c : UInt8) (t : Bs) : beginsNote (a :: c :: t) = (a == 60 && (c == 33 || c == 63 || (c == 47 && (match t with | [] => false | d :: _ => !isLetter d)))) := rfl

theorem noteBegins_0 (s : ByteArray) (k : Nat) (w : World) (hs : s.size ≤ 1000000) (hk : k + 1 < s.size) (hc : (((s[k]'(by omega)).toNat : Int) != 60) = true) : Calls Tryz.prog 15 #[.string s, .int .i64 k] w fun e w' => e = .returned (.bool false) ∧ Below w.heap.size w w' := by
  have h1 : ¬ (k : Int) < 0 := by omega
  have h2 : ¬ (s.size : Int) - 1 ≤ (k : Int) := by omega
  go_enter Tryz.func15, Tryz.ntmps15
  go_wp2_with fail
  go_ret
  exact ⟨rfl, Below.refl _ _⟩
theorem noteBegins_1 (s : ByteArray) (k : Nat) (w : World) (hs : s.size ≤ 1000000) (hk : k + 1 < s.size) (hc : (((s[k]'(by omega)).toNat : Int) != 60) = false) (x : ByteArray) (hx : Hid (s.extract (k + 1) s.size = x)) (h0 : 0 < x.size)
    (b : Bool) (h : (((x[0]'h0).toNat : Int) == 33) = true ∧ b = true ∨ (((x[0]'h0).toNat : Int) == 33) = false ∧ (((x[0]'h0).toNat : Int) == 63) = true ∧ b = true ∨ (((x[0]'h0).toNat : Int) == 33) = false ∧ (((x[0]'h0).toNat : Int) == 63) = false ∧ (((x[0]'h0).toNat : Int) == 47) = false ∧ b = false ∨
      (((x[0]'h0).toNat : Int) == 33) = false ∧ (((x[0]'h0).toNat : Int) == 63) = false ∧ (((x[0]'h0).toNat : Int) == 47) = true ∧ ¬ (1 : Int) < (x.size : Int) ∧ b = false) : Calls Tryz.prog 15 #[.string s, .int .i64 k] w fun e w' => e = .returned (.bool b) ∧ Below w.heap.size w w' := by
  have h1 : ¬ (k : Int) < 0 := by omega
  have h2 : ¬ (s.size : Int) - 1 ≤ (k : Int) := by omega
  rcases h with ⟨a1, rfl⟩ | ⟨a1, a2, rfl⟩ | ⟨a1, a2, a3, rfl⟩ | ⟨a1, a2, a3, a4, rfl⟩
  all_goals
    go_enter Tryz.func15, Tryz.ntmps15
    go_upto_region 4 with (fail)
    rw [hx.out]
    go_wp2_with fail
    go_ret
    exact ⟨rfl, Below.refl _ _⟩
theorem noteBegins_2 (s : ByteArray) (k : Nat) (w : World) (hs : s.size ≤ 1000000) (hk : k + 1 < s.size) (hc : (((s[k]'(by omega)).toNat : Int) != 60) = false) (x : ByteArray) (hx : Hid (s.extract (k + 1) s.size = x)) (h0 : 1 < x.size)
    (a1 : (((x[0]'(by omega)).toNat : Int) == 33) = false) (a2 : (((x[0]'(by omega)).toNat : Int) == 63) = false) (a3 : (((x[0]'(by omega)).toNat : Int) == 47) = true) : Calls Tryz.prog 15 #[.string s, .int .i64 k] w fun e w' => e = .returned (.bool (!isLetter (x[1]'h0))) ∧ Below w.heap.size w w' := by
  have h1 : ¬ (k : Int) < 0 := by omega
  have h2 : ¬ (s.size : Int) - 1 ≤ (k : Int) := by omega
  have h3 : (1 : Int) < (x.size : Int) := by omega
  have h4 : 0 < x.size := by omega
  have HL : Hid (∀ w, Calls Tryz.prog 33 #[.int .u8 ((x[1]'h0).toNat : Int)] w fun e w' => e = .returned (.bool (isLetter (x[1]'h0))) ∧ w = w') := fun w => letter_any _ w
  generalize isLetter (x[1]'h0) = b at *
  go_enter Tryz.func15, Tryz.ntmps15
  go_upto_region 4 with (fail)
  rw [hx.out]
  go_wp2_with fail
  refine (HL.out _).mono ?_; rintro e w1 ⟨rfl, rfl⟩
  go_wp2_with fail
  go_ret
  exact ⟨rfl, Below.refl _ _⟩

theorem u8_eq (c : UInt8) (n : UInt8) : ((c.toNat : Int) == (n.toNat : Int)) = (c == n) := by
  rw [Bool.eq_iff_iff, beq_iff_eq, beq_iff_eq]
  constructor
  · intro h; exact UInt8.toNat.inj (by omega)
  · intro h; rw [h]
theorem u8_ne (c : UInt8) (n : UInt8) : ((c.toNat : Int) != (n.toNat : Int)) = (c != n) := by unfold bne; rw [u8_eq]

theorem noteBegins_in (s : ByteArray) (k : Nat) (w : World) (hs : s.size ≤ 1000000) (hk : k + 1 < s.size) : Calls Tryz.prog 15 #[.string s, .int .i64 k] w fun e w' => e = .returned (.bool (beginsNote ((bs s).drop k))) ∧ Below w.heap.size w w' := by
  rw [drop_bs s k (by omega), drop_bs s (k + 1) hk, beginsNote_cons]
  cases hc : (((s[k]'(by omega)).toNat : Int) != 60) with
  | true =>
    have hc2 : (s[k] == 60) = false := by rw [show (60 : Int) = ((60 : UInt8).toNat : Int) from rfl, u8_ne] at hc; simpa using hc
    rw [hc2, Bool.false_and]
    exact noteBegins_0 s k w hs hk hc
  | false =>
    have hc2 : (s[k] == 60) = true := by rw [show (60 : Int) = ((60 : UInt8).toNat : Int) from rfl, u8_ne] at hc; simpa using hc
    rw [hc2, Bool.true_and]
    obtain ⟨x, hx⟩ : ∃ x, s.extract (k + 1) s.size = x := ⟨_, rfl⟩
    have hxb : bs x = (bs s).drop (k + 1) := by rw [← hx, bs_from]
    have hxs : x.size = s.size - (k + 1) := by rw [← hx, ByteArray.size_extract]; omega
    have h0 : 0 < x.size := by omega
    have e0 : x[0]'h0 = s[k + 1] := by rw [get_bs, get_bs, hxb]; simp [List.getD_eq_getElem?_getD]
    have i33 : ((((x[0]'h0)).toNat : Int) == 33) = (s[k + 1] == 33) := by rw [e0]; exact u8_eq _ 33
    have i63 : ((((x[0]'h0)).toNat : Int) == 63) = (s[k + 1] == 63) := by rw [e0]; exact u8_eq _ 63
    have i47 : ((((x[0]'h0)).toNat : Int) == 47) = (s[k + 1] == 47) := by rw [e0]; exact u8_eq _ 47
    cases h33 : (s[k + 1] == 33) with
    | true => exact noteBegins_1 s k w hs hk hc x hx h0 true (.inl ⟨i33.trans h33, rfl⟩)
    | false =>
      cases h63 : (s[k + 1] == 63) with
      | true => exact noteBegins_1 s k w hs hk hc x hx h0 true (.inr (.inl ⟨i33.trans h33, i63.trans h63, rfl⟩))
      | false =>
        cases h47 : (s[k + 1] == 47) with
        | false => exact noteBegins_1 s k w hs hk hc x hx h0 false (.inr (.inr (.inl ⟨i33.trans h33, i63.trans h63, i47.trans h47, rfl⟩)))
        | true =>
          simp only [Bool.false_or, Bool.true_and]
          by_cases h1 : 1 < x.size
          · have hk2 : k + 2 < s.size := by omega
            have e1 : x[1]'h1 = s[k + 2] := by rw [get_bs, get_bs, hxb]; simp [List.getD_eq_getElem?_getD]
            rw [drop_bs s (k + 1 + 1) hk2]
            have := noteBegins_2 s k w hs hk hc x hx h1 (i33.trans h33) (i63.trans h63) (i47.trans h47)
            rw [e1] at this
            exact this
          · rw [List.drop_eq_nil_of_le (by rw [← size_bs]; omega)]
            exact noteBegins_1 s k w hs hk hc x hx h0 false (.inr (.inr (.inr ⟨i33.trans h33, i63.trans h63, i47.trans h47, by omega, rfl⟩)))

/-- Does something that is no tag begin at a place? -/
def noteBeg (s : ByteArray) (i : Int) : Bool := if i < 0 then false else beginsNote ((bs s).drop i.toNat)
theorem beginsNote_short (r : Bs) (h : r.length ≤ 1) : beginsNote r = false := by
  match r with
  | [] => rfl
  | [_] => rfl
  | _ :: _ :: _ => simp only [List.length_cons] at h; omega
theorem noteBegins_any (s : ByteArray) (i : Int) (w : World) (hs : s.size ≤ 1000000) : Calls Tryz.prog 15 #[.string s, .int .i64 i] w fun e w' => e = .returned (.bool (noteBeg s i)) ∧ Below w.heap.size w w' := by
  unfold noteBeg
  by_cases h : i < 0
  · rw [if_pos h]; exact noteBegins_out s i w hs (.inl h)
  · rw [if_neg h]
    obtain ⟨k, rfl⟩ : ∃ k : Nat, i = k := ⟨i.toNat, by omega⟩
    rw [Int.toNat_natCast]
    by_cases hk : k + 1 < s.size
    · exact noteBegins_in s k w hs hk
    · rw [beginsNote_short _ (by rw [List.length_drop, ← size_bs]; omega)]
      exact noteBegins_out s k w hs (.inr ⟨h, by omega⟩)
end Tym

namespace Tym
set_option linter.unusedSimpArgs false
set_option linter.unusedVariables false
open Go Go.RowKit Go.Proofs
set_option maxRecDepth 20000

theorem begins_beq (s w : Bs) : begins s w = (s.take w.length == w) := by
  rw [Bool.eq_iff_iff, begins_iff, beq_iff_eq]
theorem ext_take' (s : ByteArray) (k n : Nat) : mk (((bs s).drop k).take n) = s.extract k (k + n) := bs_inj (by rw [bs_mk, bs_extract, Nat.add_sub_cancel_left])
theorem ret_sn {a b : ByteArray} {x y : Int} (h : a = b) (h' : x = y) : Ending.returned (.tuple #[.string a, .int .i64 x]) = .returned (.tuple #[.string b, .int .i64 y]) := by rw [h, h']
theorem at_out (s x : ByteArray) (i : Int) (w : World) (hs : s.size ≤ 1000000) (h : i < 0 ∨ (0 ≤ i ∧ (s.size : Int) < i)) : Calls Tryz.prog 58 #[.string s, .int .i64 i, .string x] w fun e w' => e = .returned (.bool false) ∧ w = w' := by
  rcases h with h | ⟨h, h2⟩
  all_goals
    go_enter Tryz.func58, Tryz.ntmps58
    go_wp2_with fail
    go_ret
    exact ⟨rfl, rfl⟩
theorem at_in (s x : ByteArray) (k : Nat) (w : World) (hs : s.size ≤ 1000000) (hx : x.size ≤ 1000000) (hk : k ≤ s.size) : Calls Tryz.prog 58 #[.string s, .int .i64 k, .string x] w fun e w' => e = .returned (.bool (begins ((bs s).drop k) (bs x))) ∧ w = w' := by
  have h1 : (0 : Int) ≤ (k : Int) := by omega
  have h2 : (k : Int) ≤ (s.size : Int) := by omega
  rw [begins_beq]
  by_cases hl : (x.size : Int) ≤ (s.size : Int) - (k : Int)
  · have hq : ((s.extract k (k + x.size)).toList == x.toList) = (((bs s).drop k).take (bs x).length == bs x) := by
      rw [toList_beq, bs_extract, Nat.add_sub_cancel_left, size_bs]
    generalize (((bs s).drop k).take (bs x).length == bs x) = b at *
    cases b with
    | true =>
      go_enter Tryz.func58, Tryz.ntmps58
      go_wp2_with fail
      go_ret
      exact ⟨rfl, rfl⟩
    | false =>
      go_enter Tryz.func58, Tryz.ntmps58
      go_wp2_with fail
      go_ret
      exact ⟨rfl, rfl⟩
  · have hb : (((bs s).drop k).take (bs x).length == bs x) = false := by
      rw [beq_eq_false_iff_ne]; intro h
      have := congrArg List.length h
      rw [List.length_take, List.length_drop, ← size_bs, ← size_bs] at this; omega
    rw [hb]
    go_enter Tryz.func58, Tryz.ntmps58
    go_wp2_with fail
    go_ret
    exact ⟨rfl, rfl⟩

def atB (s : ByteArray) (i : Int) (x : Bs) : Bool := if i < 0 then false else begins ((bs s).drop i.toNat) x
theorem at_any (s : ByteArray) (x : Bs) (i : Int) (w : World) (hs : s.size ≤ 1000000) (hx : x.length ≤ 1000000) (hx0 : 0 < x.length) : Calls Tryz.prog 58 #[.string s, .int .i64 i, .string ⟨x.toArray⟩] w fun e w' => e = .returned (.bool (atB s i x)) ∧ w = w' := by
  unfold atB
  by_cases h : i < 0
  · rw [if_pos h]; exact at_out s _ i w hs (.inl h)
  · rw [if_neg h]
    obtain ⟨k, rfl⟩ : ∃ k : Nat, i = k := ⟨i.toNat, by omega⟩
    rw [Int.toNat_natCast]
    by_cases hk : k ≤ s.size
    · have := at_in s ⟨x.toArray⟩ k w hs (by rw [mk_lit, size_mk]; exact hx) hk
      rwa [bs_lit] at this
    · rw [List.drop_eq_nil_of_le (by rw [← size_bs]; omega)]
      rw [show begins [] x = false from by cases x with | nil => simp at hx0 | cons _ _ => rfl]
      exact at_out s _ k w hs (.inr ⟨by omega, by omega⟩)

theorem beginsNote_eq (r : Bs) : beginsNote r = (begins r [60, 33] || begins r [60, 63] || (begins r [60, 47] && (match r.drop 2 with | [] => false | d :: _ => !isLetter d))) := by
  match r with
  | [] => rfl
  | [a] => simp [beginsNote, bgn_cons, bgn_nil_cons]
  | a :: c :: t =>
    rw [beginsNote_cons]
    simp only [bgn_cons, bgn_nil, Bool.and_true, List.drop_succ_cons, List.drop_zero]
    rw [Bool.beq_comm (a := 60), Bool.beq_comm (a := 33), Bool.beq_comm (a := 63), Bool.beq_comm (a := 47)]
    cases (a == 60) <;> cases (c == 33) <;> cases (c == 63) <;> cases (c == 47) <;> simp <;> (cases t <;> rfl)

def noLetter (r : Bs) : Bool := match r with | [] => false | d :: _ => !isLetter d
theorem refNoteBegins_any (s : ByteArray) (i : Int) (w : World) (hs : s.size ≤ 1000000) (hi : i ≤ 1000000) : Calls Tryz.prog 25 #[.string s, .int .i64 i] w fun e w' => e = .returned (.bool (noteBeg s i)) ∧ w = w' := by
  have H1 := Lib.hid (fun w => at_any s [60, 33] i w hs (by decide) (by decide))
  have H2 := Lib.hid (fun w => at_any s [60, 63] i w hs (by decide) (by decide))
  have H3 := Lib.hid (fun w => at_any s [60, 47] i w hs (by decide) (by decide))
  have he : noteBeg s i = (atB s i [60, 33] || atB s i [60, 63] || (atB s i [60, 47] && noLetter ((bs s).drop (i.toNat + 2)))) := by
    unfold noteBeg atB
    by_cases h : i < 0
    · simp only [if_pos h]; rfl
    · simp only [if_neg h]; rw [beginsNote_eq, List.drop_drop]; rfl
  have hl : atB s i [60, 47] = true → 0 ≤ i ∧ i + 2 ≤ (s.size : Int) := by
    unfold atB
    intro h
    by_cases h0 : i < 0
    · rw [if_pos h0] at h; cases h
    · rw [if_neg h0] at h
      have := begins_len _ _ h
      rw [List.length_drop, ← size_bs] at this
      simp only [List.length_cons, List.length_nil] at this; omega
  rw [he]
  clear he
  generalize atB s i [60, 33] = b1 at *
  generalize atB s i [60, 63] = b2 at *
  generalize atB s i [60, 47] = b3 at *
  cases b1 with
  | true =>
    clear hl
    simp only [Bool.true_or]
    go_enter Tryz.func25, Tryz.ntmps25
    go_wp2_with fail
    refine (H1.out _).mono ?_; rintro e w1 ⟨rfl, rfl⟩
    go_wp2_with fail
    go_ret
    exact ⟨rfl, rfl⟩
  | false =>
    cases b2 with
    | true =>
      clear hl
      simp only [Bool.false_or, Bool.true_or]
      go_enter Tryz.func25, Tryz.ntmps25
      go_wp2_with fail
      refine (H1.out _).mono ?_; rintro e w1 ⟨rfl, rfl⟩
      go_wp2_with fail
      refine (H2.out _).mono ?_; rintro e w1 ⟨rfl, rfl⟩
      go_wp2_with fail
      go_ret
      exact ⟨rfl, rfl⟩
    | false =>
      cases b3 with
      | false =>
        clear hl
        simp only [Bool.false_or, Bool.false_and]
        go_enter Tryz.func25, Tryz.ntmps25
        go_wp2_with fail
        refine (H1.out _).mono ?_; rintro e w1 ⟨rfl, rfl⟩
        go_wp2_with fail
        refine (H2.out _).mono ?_; rintro e w1 ⟨rfl, rfl⟩
        go_wp2_with fail
        refine (H3.out _).mono ?_; rintro e w1 ⟨rfl, rfl⟩
        go_wp2_with fail
        go_ret
        exact ⟨rfl, rfl⟩
      | true =>
        obtain ⟨h0, h2⟩ := hl rfl
        obtain ⟨k, rfl⟩ : ∃ k : Nat, i = k := ⟨i.toNat, by omega⟩
        rw [Int.toNat_natCast]
        by_cases hk : k + 2 < s.size
        · have hkz : (k : Int) + 2 < (s.size : Int) := by omega
          have HL : Hid (∀ w, Calls Tryz.prog 53 #[.int .u8 ((s[k + 2]'hk).toNat : Int)] w fun e w' => e = .returned (.bool (isLetter (s[k + 2]'hk))) ∧ w = w') := fun w => letterR_any _ w
          rw [drop_bs s (k + 2) hk]
          simp only [Bool.false_or, Bool.true_and, noLetter]
          generalize isLetter (s[k + 2]'hk) = b at *
          clear h2 hl
          go_enter Tryz.func25, Tryz.ntmps25
          go_wp2_with fail
          refine (H1.out _).mono ?_; rintro e w1 ⟨rfl, rfl⟩
          go_wp2_with fail
          refine (H2.out _).mono ?_; rintro e w1 ⟨rfl, rfl⟩
          go_wp2_with fail
          refine (H3.out _).mono ?_; rintro e w1 ⟨rfl, rfl⟩
          go_wp2_with fail
          refine (HL.out _).mono ?_; rintro e w1 ⟨rfl, rfl⟩
          go_wp2_with fail
          go_ret
          exact ⟨rfl, rfl⟩
        · have hkz : ¬ (k : Int) + 2 < (s.size : Int) := by omega
          rw [List.drop_eq_nil_of_le (by rw [← size_bs]; omega)]
          simp only [Bool.false_or, Bool.true_and, noLetter]
          clear h2 hl
          go_enter Tryz.func25, Tryz.ntmps25
          go_wp2_with fail
          refine (H1.out _).mono ?_; rintro e w1 ⟨rfl, rfl⟩
          go_wp2_with fail
          refine (H2.out _).mono ?_; rintro e w1 ⟨rfl, rfl⟩
          go_wp2_with fail
          refine (H3.out _).mono ?_; rintro e w1 ⟨rfl, rfl⟩
          go_wp2_with fail
          go_ret
          exact ⟨rfl, rfl⟩

/-- The reference's upTo, at a place of the string. -/
theorem refUpTo_in (s : ByteArray) (x : Bs) (k : Nat) (w : World) (hs : s.size ≤ 1000000) (hx : x.length ≤ 1000000) (hx0 : 0 < x.length) (hk : k ≤ s.size) :
    Calls Tryz.prog 60 #[.string s, .int .i64 k, .string ⟨x.toArray⟩] w fun e w' => e = .returned (.tuple #[.string (mk (upToL x ((bs s).drop k)).1), .int .i64 ((k + (upToL x ((bs s).drop k)).2 : Nat) : Int)]) ∧ w = w' := by
  have HA := Lib.hid (fun (j : Nat) w => at_any s x j w hs hx hx0)
  have hsz : (⟨x.toArray⟩ : ByteArray).size = x.length := by rw [mk_lit, size_mk]
  have hle := findAt_le x ((bs s).drop k)
  have hro : findAt x ((bs s).drop k) < ((bs s).drop k).length → findAt x ((bs s).drop k) + x.length ≤ ((bs s).drop k).length := by
    intro h
    have := begins_len _ _ (findAt_begins x _ h)
    rw [List.length_drop] at this; omega
  have hnot : Hid (∀ j, j < findAt x ((bs s).drop k) → begins ((bs s).drop (k + j)) x = false) := fun j hj => by rw [← List.drop_drop]; exact findAt_not x _ j hj
  have hyes : Hid (findAt x ((bs s).drop k) < ((bs s).drop k).length → begins ((bs s).drop (k + findAt x ((bs s).drop k))) x = true) := fun h => by rw [← List.drop_drop]; exact findAt_begins x _ h
  have HR : Hid (∀ n, mk (((bs s).drop k).take n) = s.extract k (k + n)) := fun n => ext_take' s k n
  have hr : ((bs s).drop k).length = s.size - k := by rw [List.length_drop, ← size_bs]
  unfold upToL
  simp only
  rw [HR.out, hr]
  rw [hr] at hle hro hyes
  clear hr HR
  generalize findAt x ((bs s).drop k) = n at *
  obtain ⟨X, hX⟩ : ∃ X : ByteArray, X = ⟨x.toArray⟩ := ⟨_, rfl⟩
  rw [← hX] at HA hsz ⊢
  have HX := Lib.hid hX
  clear hX
  go_enter Tryz.func60, Tryz.ntmps60
  go_wp2_with fail
  go_loop [8] (fun v => ∃ j : Nat, k ≤ j ∧ j ≤ k + n ∧ v = .int .i64 j) (fun v => s.size - (intOf v).toNat)
  case atStart => exact ⟨k, Nat.le_refl _, by omega, rfl⟩
  case round =>
    obtain ⟨j, hkj, hj, rfl⟩ := hrel
    by_cases hlt : j < s.size
    · have hltz : (j : Int) < (s.size : Int) := by omega
      by_cases hjn : j = k + n
      · subst hjn
        have hn : n < s.size - k := by omega
        have hat : atB s ((k + n : Nat) : Int) x = true := by unfold atB; rw [if_neg (by omega), Int.toNat_natCast]; exact hyes.out hn
        have HA1 := HA.out (k + n)
        rw [hat] at HA1
        have HA2 := Lib.hid HA1
        have hroom := hro hn
        clear HA1 hat hro
        go_wp2_with fail
        refine (HA2.out _).mono ?_; rintro e w1 ⟨rfl, rfl⟩
        go_wp2_with fail
        go_ret2
        exact ⟨ret_sn rfl (by omega), rfl⟩
      · have hat : atB s ((j : Nat) : Int) x = false := by
          unfold atB; rw [if_neg (by omega), Int.toNat_natCast]
          have := hnot.out (j - k) (by omega)
          rwa [show k + (j - k) = j from by omega] at this
        have HA1 := HA.out j
        rw [hat] at HA1
        have HA2 := Lib.hid HA1
        clear HA1 hat hro
        go_wp2_with fail
        refine (HA2.out _).mono ?_; rintro e w1 ⟨rfl, rfl⟩
        go_wp2_with fail
        go_round
        case rel => exact ⟨j + 1, by omega, by omega, by go_num⟩
        case measure => simp [intOf]; omega
    · have hltz : ¬ (j : Int) < (s.size : Int) := by omega
      have hnn : n = s.size - k := by omega
      clear hro
      go_wp2_with fail
      go_ret2
      exact ⟨ret_sn (by first | rfl | (congr 1; omega)) (by first | rfl | omega), rfl⟩
end Tym

namespace Tym
set_option linter.unusedSimpArgs false
set_option linter.unusedVariables false
open Go Go.RowKit Go.Proofs
set_option maxRecDepth 20000

/-- The library's variable (the greatest length that its search takes) holds some int. -/
def Mx (w : World) : Prop := ∃ m, w.cell? ⟨0, 0, none⟩ = some (.int .i64 m)
theorem Mx.lt {w : World} (h : Mx w) : 0 < w.heap.size := by obtain ⟨m, h⟩ := h; exact World.block_lt_of_cell? _ _ h
theorem Mx.below {w w' : World} (h : Mx w) (hb : Below w.heap.size w w') : Mx w' := by
  have := h.lt
  obtain ⟨m, h⟩ := h
  exact ⟨m, (hb.cell (by exact this)).trans h⟩

theorem index_findAt (w : Bs) (r : Bs) (hw : 0 < w.length) : Lib.index r w = if findAt w r < r.length then ((findAt w r : Nat) : Int) else -1 := by
  rcases Lib.index_spec r w with ⟨h1, h2⟩ | ⟨i, h1, h2, h3, h4⟩
  · have : findAt w r = r.length := findAt_none w r (fun j hj => h2 j (by omega))
    rw [h1, if_neg (by omega)]
  · have hi : i < r.length := by
      have := begins_len _ _ (show begins (r.drop i) w = true from h3)
      rw [List.length_drop] at this; omega
    have : findAt w r = i := findAt_eq w r i hi h3 (fun j hj => h4 j hj)
    rw [h1, this, if_pos hi]
theorem cut_findAt (w : Bs) (r : Bs) (hw : 0 < w.length) : Lib.cut r w = if findAt w r < r.length then (r.take (findAt w r), r.drop (findAt w r + w.length), true) else (r, [], false) := by
  unfold Lib.cut
  rw [index_findAt w r hw]
  by_cases h : findAt w r < r.length
  · rw [if_pos h, if_pos h, if_pos (by omega), Int.toNat_natCast]
  · rw [if_neg h, if_neg h, if_neg (by omega)]

theorem cut_any (s : ByteArray) (x : Bs) (w : World) (hs : s.size ≤ 1000000) (hx0 : 0 < x.length) (hm : Mx w) :
    Calls Tryz.prog 45 #[.string s, .string ⟨x.toArray⟩] w fun e w' => e = .returned (.tuple #[.string (mk (upToL x (bs s)).1), .string (mk (if findAt x (bs s) < s.size then (bs s).drop (findAt x (bs s) + x.length) else [])), .bool (decide (findAt x (bs s) < s.size))]) ∧ Below w.heap.size w w' := by
  obtain ⟨m, hm⟩ := hm
  refine (Tryz.strings_Cut s ⟨x.toArray⟩ m w (by omega) hm).mono ?_
  rintro e w' ⟨rfl, n, rfl⟩
  refine ⟨?_, below_drewN (Below.refl _ _) n⟩
  have hc : Lib.cut s.data.toList (⟨x.toArray⟩ : ByteArray).data.toList = if findAt x (bs s) < (bs s).length then ((bs s).take (findAt x (bs s)), (bs s).drop (findAt x (bs s) + x.length), true) else (bs s, [], false) := cut_findAt x (bs s) hx0
  rw [hc, ← size_bs]
  unfold upToL
  by_cases h : findAt x (bs s) < s.size
  · rw [if_pos h, if_pos h, decide_eq_true h]; rfl
  · rw [if_neg h, if_neg h, decide_eq_false h]
    simp only
    rw [List.take_of_length_le (by rw [← size_bs]; omega)]; rfl

theorem noteUpTo_any (s : ByteArray) (x : Bs) (w : World) (hs : s.size ≤ 1000000) (hx : x.length ≤ 1000000) (hx0 : 0 < x.length) (hm : Mx w) :
    Calls Tryz.prog 50 #[.string s, .string ⟨x.toArray⟩] w fun e w' => e = .returned (.tuple #[.string (mk (upToL x (bs s)).1), .int .i64 (((upToL x (bs s)).2 : Nat) : Int)]) ∧ Below w.heap.size w w' := by
  have HC := Lib.hid (cut_any s x w hs hx0 hm)
  have hsz : (⟨x.toArray⟩ : ByteArray).size = x.length := by rw [mk_lit, size_mk]
  have e2 : Hid ((upToL x (bs s)).2 = if findAt x (bs s) < s.size then findAt x (bs s) + x.length else s.size) := by show _ = _; unfold upToL; rw [← size_bs]
  have e1 : Hid (¬ findAt x (bs s) < s.size → mk (upToL x (bs s)).1 = s) := fun h => by unfold upToL; simp only; rw [List.take_of_length_le (by rw [← size_bs]; omega), mk_bs]
  have e3 : findAt x (bs s) < s.size → (mk (upToL x (bs s)).1).size = findAt x (bs s) := fun h => by rw [size_mk]; unfold upToL; simp only; rw [List.length_take, ← size_bs]; omega
  have hle := findAt_le x (bs s)
  rw [← size_bs] at hle
  generalize (mk (if findAt x (bs s) < s.size then (bs s).drop (findAt x (bs s) + x.length) else [])) = z at *
  generalize mk (upToL x (bs s)).1 = t at *
  generalize (upToL x (bs s)).2 = q at *
  generalize findAt x (bs s) = n at *
  obtain ⟨X, hX⟩ : ∃ X : ByteArray, X = ⟨x.toArray⟩ := ⟨_, rfl⟩
  rw [← hX] at HC hsz ⊢
  clear hX
  by_cases h : n < s.size
  · have ht := e3 h
    rw [decide_eq_true h] at HC
    have HC := Lib.hid HC.out
    clear e3
    go_enter Tryz.func50, Tryz.ntmps50
    go_wp2_with fail
    refine HC.out.mono ?_; rintro e w1 ⟨rfl, b1⟩
    go_wp2_with fail
    go_ret2
    exact ⟨ret_sn rfl (by have := e2.out; rw [if_pos h] at this; omega), b1⟩
  · rw [decide_eq_false h] at HC
    have HC := Lib.hid HC.out
    clear e3
    go_enter Tryz.func50, Tryz.ntmps50
    go_wp2_with fail
    refine HC.out.mono ?_; rintro e w1 ⟨rfl, b1⟩
    go_wp2_with fail
    go_ret2
    exact ⟨ret_sn (e1.out h).symm (by have := e2.out; rw [if_neg h] at this; omega), b1⟩
end Tym

namespace Tym
set_option linter.unusedSimpArgs false
set_option linter.unusedVariables false
open Go Go.RowKit Go.Proofs
set_option maxRecDepth 20000

theorem ends_suffix (r w : Bs) : Lib.hasSuffix r w = endsWith r w := by
  rw [Bool.eq_iff_iff]
  unfold Lib.hasSuffix endsWith
  rw [List.isSuffixOf_iff_suffix, Bool.and_eq_true, decide_eq_true_eq, beq_iff_eq]
  constructor
  · rintro ⟨t, rfl⟩
    simp
  · rintro ⟨h1, h2⟩
    refine ⟨r.take (r.length - w.length), ?_⟩
    have := List.take_append_drop (r.length - w.length) r
    rw [h2] at this; exact this
theorem cutSuffix_any (s : ByteArray) (x : Bs) (w : World) (hs : s.size ≤ 1000000) :
    Calls Tryz.prog 76 #[.string s, .string ⟨x.toArray⟩] w fun e w' => e = .returned (.tuple #[.string (if endsWith (bs s) x = true then mk ((bs s).take ((bs s).length - x.length)) else s), .bool (endsWith (bs s) x)]) ∧ w = w' := by
  refine (Tryz.strings_CutSuffix s ⟨x.toArray⟩ w (by omega)).mono ?_
  rintro e w' ⟨rfl, rfl⟩
  refine ⟨?_, rfl⟩
  have h1 : Lib.hasSuffix s.data.toList (⟨x.toArray⟩ : ByteArray).data.toList = endsWith (bs s) x := ends_suffix (bs s) x
  rw [h1]
  unfold Lib.trimSuffix
  rw [h1]
  have hd : (⟨s.data.toList.toArray⟩ : ByteArray) = s := mk_bs s
  cases endsWith (bs s) x with
  | true => simp only [if_true]; rfl
  | false => simp only [Bool.false_eq_true, if_false, hd]

theorem idx2 (i : Nat) (v : Value) (hi : i < 2) (hv : (#[.string ⟨#[62]⟩, .string ⟨#[45, 62]⟩] : Array Value)[i]? = some v) (w : World) : (Instr.index 95 (.agg #[.string ⟨#[62]⟩, .string ⟨#[45, 62]⟩]) (.int .i64 i)).run Tryz.prog w = .ok v w :=
  run_index_arr 95 9 2 _ Tryz.underlying95 Tryz.underlying9 rfl (by kernel_rfl) _ _ _ (by omega) (by omega) (by simpa using hv) w
theorem idx3 (i : Nat) (v : Value) (hi : i < 3) (hv : (#[.string ⟨#[45, 45, 33]⟩, .string ⟨#[45, 45]⟩, .string ⟨#[45]⟩] : Array Value)[i]? = some v) (w : World) : (Instr.index 96 (.agg #[.string ⟨#[45, 45, 33]⟩, .string ⟨#[45, 45]⟩, .string ⟨#[45]⟩]) (.int .i64 i)).run Tryz.prog w = .ok v w :=
  run_index_arr 96 9 3 _ Tryz.underlying96 Tryz.underlying9 rfl (by kernel_rfl) _ _ _ (by omega) (by omega) (by simpa using hv) w
theorem upTo_size (x r : Bs) : (mk (upToL x r).1).size = findAt x r := by
  rw [size_mk]; unfold upToL; simp only; rw [List.length_take]; have := findAt_le x r; omega

set_option maxHeartbeats 1000000 in
theorem noteComment_any (s : ByteArray) (w : World) (hs : s.size ≤ 1000000) (hm : Mx w) :
    Calls Tryz.prog 49 #[.string s] w fun e w' => e = .returned (.tuple #[.string (mk (commentL (bs s)).1), .int .i64 (((commentL (bs s)).2 : Nat) : Int)]) ∧ Below w.heap.size w w' := by
  have HP1 := Lib.hid (fun w => prefix_lit s [62] w)
  have HP2 := Lib.hid (fun w => prefix_lit s [45, 62] w)
  have hcm := Lib.hid (show commentL (bs s) = _ from by unfold commentL; rfl)
  have x20 := idx2 0 (.string ⟨#[62]⟩) (by decide) rfl
  have x21 := idx2 1 (.string ⟨#[45, 62]⟩) (by decide) rfl
  have x30 := idx3 0 (.string ⟨#[45, 45, 33]⟩) (by decide) rfl
  have x31 := idx3 1 (.string ⟨#[45, 45]⟩) (by decide) rfl
  have x32 := idx3 2 (.string ⟨#[45]⟩) (by decide) rfl
  rw [show ((0 : Nat) : Int) = 0 from rfl] at x20 x30
  rw [show ((1 : Nat) : Int) = 1 from rfl] at x21 x31
  rw [show ((2 : Nat) : Int) = 2 from rfl] at x32
  generalize begins (bs s) [62] = b1 at *
  generalize begins (bs s) [45, 62] = b2 at *
  cases b1 with
  | true =>
    have e := hcm.out
    rw [if_pos rfl] at e
    rw [e]
    clear e hcm
    go_enter Tryz.func49, Tryz.ntmps49
    go_wp2_with fail
    go_loop [15] (fun v => v = .int .i64 0) (fun v => 0)
    case atStart => rfl
    case round =>
      obtain rfl := hrel
      go_wp2_with fail
      refine (HP1.out _).mono ?_; rintro e w1 ⟨rfl, rfl⟩
      go_wp2_with fail
      go_ret2
      exact ⟨rfl, Below.refl _ _⟩
  | false =>
    cases b2 with
    | true =>
      have e := hcm.out
      rw [if_neg (by decide), if_pos rfl] at e
      rw [e]
      clear e hcm
      go_enter Tryz.func49, Tryz.ntmps49
      go_wp2_with fail
      go_loop [15] (fun v => v = .int .i64 0 ∨ v = .int .i64 1) (fun v => 1 - (intOf v).toNat)
      case atStart => exact .inl rfl
      case round =>
        rcases hrel with rfl | rfl
        · go_wp2_with fail
          refine (HP1.out _).mono ?_; rintro e w1 ⟨rfl, rfl⟩
          go_wp2_with fail
          go_round
          case rel => exact .inr rfl
          case measure => simp [intOf]
        · go_wp2_with fail
          refine (HP2.out _).mono ?_; rintro e w1 ⟨rfl, rfl⟩
          go_wp2_with fail
          go_ret2
          exact ⟨rfl, Below.refl _ _⟩
    | false =>
      have e := hcm.out
      rw [if_neg (by decide), if_neg (by decide)] at e
      rw [e]
      have hu1 := upTo_size [45, 45, 62] (bs s)
      have hu2 := upTo_size [45, 45, 33, 62] (bs s)
      have hn1 : Hid (findAt [45, 45, 62] (bs s) < s.size → upToL [45, 45, 62] (bs s) = ((bs s).take (findAt [45, 45, 62] (bs s)), findAt [45, 45, 62] (bs s) + 3)) := fun h => by unfold upToL; rw [← size_bs, if_pos h]; rfl
      have hn2 : Hid (findAt [45, 45, 33, 62] (bs s) < s.size → upToL [45, 45, 33, 62] (bs s) = ((bs s).take (findAt [45, 45, 33, 62] (bs s)), findAt [45, 45, 33, 62] (bs s) + 4)) := fun h => by unfold upToL; rw [← size_bs, if_pos h]; rfl
      have hl1 := findAt_le [45, 45, 62] (bs s)
      have hl2 := findAt_le [45, 45, 33, 62] (bs s)
      rw [← size_bs] at hl1 hl2
      have HU1 : Hid (∀ w, Mx w → Calls Tryz.prog 50 #[.string s, .string ⟨#[45, 45, 62]⟩] w fun e w' => e = .returned (.tuple #[.string (mk (upToL [45, 45, 62] (bs s)).1), .int .i64 (((upToL [45, 45, 62] (bs s)).2 : Nat) : Int)]) ∧ Below w.heap.size w w') := fun w hm => noteUpTo_any s [45, 45, 62] w hs (by decide) (by decide) hm
      have HU2 : Hid (∀ w, Mx w → Calls Tryz.prog 50 #[.string s, .string ⟨#[45, 45, 33, 62]⟩] w fun e w' => e = .returned (.tuple #[.string (mk (upToL [45, 45, 33, 62] (bs s)).1), .int .i64 (((upToL [45, 45, 33, 62] (bs s)).2 : Nat) : Int)]) ∧ Below w.heap.size w w') := fun w hm => noteUpTo_any s [45, 45, 33, 62] w hs (by decide) (by decide) hm
      have HC1 : Hid (∀ w, Calls Tryz.prog 76 #[.string s, .string ⟨#[45, 45, 33]⟩] w fun e w' => e = .returned (.tuple #[.string (if endsWith (bs s) [45, 45, 33] = true then mk ((bs s).take ((bs s).length - 3)) else s), .bool (endsWith (bs s) [45, 45, 33])]) ∧ w = w') := fun w => cutSuffix_any s [45, 45, 33] w hs
      have HC2 : Hid (∀ w, Calls Tryz.prog 76 #[.string s, .string ⟨#[45, 45]⟩] w fun e w' => e = .returned (.tuple #[.string (if endsWith (bs s) [45, 45] = true then mk ((bs s).take ((bs s).length - 2)) else s), .bool (endsWith (bs s) [45, 45])]) ∧ w = w') := fun w => cutSuffix_any s [45, 45] w hs
      have HC3 : Hid (∀ w, Calls Tryz.prog 76 #[.string s, .string ⟨#[45]⟩] w fun e w' => e = .returned (.tuple #[.string (if endsWith (bs s) [45] = true then mk ((bs s).take ((bs s).length - 1)) else s), .bool (endsWith (bs s) [45])]) ∧ w = w') := fun w => cutSuffix_any s [45] w hs
      have hce : Hid (cutEnd (bs s) = if endsWith (bs s) [45, 45, 33] = true then (bs s).take ((bs s).length - 3) else if endsWith (bs s) [45, 45] = true then (bs s).take ((bs s).length - 2) else if endsWith (bs s) [45] = true then (bs s).take ((bs s).length - 1) else bs s) := by show _ = _; unfold cutEnd; rfl
      have hm2 := Lib.hid hm
      clear e hcm hm
      generalize endsWith (bs s) [45, 45, 33] = c1 at *
      generalize endsWith (bs s) [45, 45] = c2 at *
      generalize endsWith (bs s) [45] = c3 at *
      generalize upToL [45, 45, 62] (bs s) = p1 at *
      generalize upToL [45, 45, 33, 62] (bs s) = p2 at *
      generalize findAt [45, 45, 62] (bs s) = n1 at *
      generalize findAt [45, 45, 33, 62] (bs s) = n2 at *
      obtain ⟨t1, q1⟩ := p1
      obtain ⟨t2, q2⟩ := p2
      simp only at HU1 HU2 hu1 hu2
      go_enter Tryz.func49, Tryz.ntmps49
      go_wp2_with fail
      go_loop [15] (fun v => v = .int .i64 0 ∨ v = .int .i64 1 ∨ v = .int .i64 2) (fun v => 2 - (intOf v).toNat)
      case atStart => exact .inl rfl
      case round =>
        rcases hrel with rfl | rfl | rfl
        · go_wp2_with fail
          refine (HP1.out _).mono ?_; rintro e w1 ⟨rfl, rfl⟩
          go_wp2_with fail
          go_round
          case rel => exact .inr (.inl rfl)
          case measure => simp [intOf]
        · go_wp2_with fail
          refine (HP2.out _).mono ?_; rintro e w1 ⟨rfl, rfl⟩
          go_wp2_with fail
          go_round
          case rel => exact .inr (.inr rfl)
          case measure => simp [intOf]
        · go_wp2_with fail
          refine (HU1.out _ hm2.out).mono ?_; rintro e w1 ⟨rfl, b1⟩
          have hm1 := Lib.hid (hm2.out.below b1)
          go_wp2_with fail
          refine (HU2.out _ hm1.out).mono ?_; rintro e w2 ⟨rfl, b2⟩
          have b3 := below_then b1 b2
          clear b1 b2
          rcases Nat.lt_trichotomy n1 n2 with hlt | heq | hgt
          · have hz : (n1 : Int) < (n2 : Int) := by omega
            obtain ⟨rfl, rfl⟩ := Prod.mk.injEq .. ▸ hn1.out (by omega)
            go_wp2_with fail
            go_ret2
            exact ⟨ret_sn rfl (by omega), b3⟩
          · subst heq
            have hz : ¬ (n1 : Int) < (n1 : Int) := by omega
            clear hn1 hn2
            go_wp2_with fail
            go_loop [51] (fun v => (v = .int .i64 0) ∨ (v = .int .i64 1 ∧ c1 = false) ∨ (v = .int .i64 2 ∧ c1 = false ∧ c2 = false) ∨ (v = .int .i64 3 ∧ c1 = false ∧ c2 = false ∧ c3 = false)) (fun v => 3 - (intOf v).toNat)
            case atStart => exact .inl rfl
            case round =>
              rcases hrel with rfl | ⟨rfl, rfl⟩ | ⟨rfl, rfl, rfl⟩ | ⟨rfl, rfl, rfl, rfl⟩
              · cases c1 with
                | true =>
                  go_wp2_with fail
                  refine (HC1.out _).mono ?_; rintro e w3 ⟨rfl, rfl⟩
                  go_wp2_with fail
                  go_ret2
                  exact ⟨ret_sn (by rw [hce.out]; rfl) (by rw [← size_bs]), b3⟩
                | false =>
                  go_wp2_with fail
                  refine (HC1.out _).mono ?_; rintro e w3 ⟨rfl, rfl⟩
                  go_wp2_with fail
                  go_round
                  case rel => exact .inr (.inl (by simp))
                  case measure => simp [intOf]
              · cases c2 with
                | true =>
                  go_wp2_with fail
                  refine (HC2.out _).mono ?_; rintro e w3 ⟨rfl, rfl⟩
                  go_wp2_with fail
                  go_ret2
                  exact ⟨ret_sn (by rw [hce.out]; rfl) (by rw [← size_bs]), b3⟩
                | false =>
                  go_wp2_with fail
                  refine (HC2.out _).mono ?_; rintro e w3 ⟨rfl, rfl⟩
                  go_wp2_with fail
                  go_round
                  case rel => exact .inr (.inr (.inl (by simp)))
                  case measure => simp [intOf]
              · cases c3 with
                | true =>
                  go_wp2_with fail
                  refine (HC3.out _).mono ?_; rintro e w3 ⟨rfl, rfl⟩
                  go_wp2_with fail
                  go_ret2
                  exact ⟨ret_sn (by rw [hce.out]; rfl) (by rw [← size_bs]), b3⟩
                | false =>
                  go_wp2_with fail
                  refine (HC3.out _).mono ?_; rintro e w3 ⟨rfl, rfl⟩
                  go_wp2_with fail
                  go_round
                  case rel => exact .inr (.inr (.inr (by simp)))
                  case measure => simp [intOf]
              · go_wp2_with fail
                go_ret2
                exact ⟨ret_sn (by rw [hce.out]; exact (mk_bs s).symm) (by rw [← size_bs]), b3⟩
          · have hz : ¬ (n1 : Int) < (n2 : Int) := by omega
            have hz2 : (n2 : Int) < (n1 : Int) := by omega
            obtain ⟨rfl, rfl⟩ := Prod.mk.injEq .. ▸ hn2.out (by omega)
            go_wp2_with fail
            go_ret2
            exact ⟨ret_sn rfl (by omega), b3⟩
end Tym

namespace Tym
set_option linter.unusedSimpArgs false
set_option linter.unusedVariables false
open Go Go.RowKit Go.Proofs
set_option maxRecDepth 20000

theorem both_ends (r : Bs) (h : findAt [45, 45, 62] r = findAt [45, 45, 33, 62] r) : findAt [45, 45, 62] r = r.length := by
  have h1 := findAt_le [45, 45, 62] r
  by_cases hl : findAt [45, 45, 62] r < r.length
  · have a := (begins_iff _ _).1 (findAt_begins _ _ hl)
    have b := (begins_iff _ _).1 (findAt_begins [45, 45, 33, 62] r (by omega))
    rw [← h] at b
    generalize r.drop (findAt [45, 45, 62] r) = u at *
    match u, a, b with
    | [], a, b => cases a
    | [_], a, b => cases a
    | [_, _], a, b => cases a
    | x :: y :: z :: v, a, b =>
      simp at a b
      rw [a.2.2] at b; exact absurd b.2.2.1 (by decide)
  · omega

theorem ends_cases (X : ByteArray) (x : Bs) (c : Bool) (h : endsWith (bs X) x = c) : (c = false ∧ X.size < x.length) ∨ ∃ m, X.size = m + x.length ∧ ((X.extract m X.size).toList == x) = c := by
  unfold endsWith at h
  rw [← size_bs] at h
  by_cases hl : x.length ≤ X.size
  · refine .inr ⟨X.size - x.length, by omega, ?_⟩
    rw [decide_eq_true hl, Bool.true_and] at h
    rw [Lib.toList_data]
    show (bs (X.extract (X.size - x.length) X.size) == x) = c
    rw [bs_from]
    exact h
  · rw [decide_eq_false hl, Bool.false_and] at h
    exact .inl ⟨h.symm, by omega⟩

set_option maxHeartbeats 1000000 in
theorem refComment_in (s : ByteArray) (k : Nat) (w : World) (hs : s.size ≤ 1000000) (hk : k ≤ s.size) :
    Calls Tryz.prog 59 #[.string s, .int .i64 k] w fun e w' => e = .returned (.tuple #[.string (mk (commentL ((bs s).drop k)).1), .int .i64 ((k + (commentL ((bs s).drop k)).2 : Nat) : Int)]) ∧ Below w.heap.size w w' := by
  have HA1 := Lib.hid (fun (j : Nat) w => at_any s [62] j w hs (by decide) (by decide))
  have HA2 := Lib.hid (fun (j : Nat) w => at_any s [45, 62] j w hs (by decide) (by decide))
  have HA3 := Lib.hid (fun (j : Nat) w => at_any s [45, 45, 62] j w hs (by decide) (by decide))
  have HA4 := Lib.hid (fun (j : Nat) w => at_any s [45, 45, 33, 62] j w hs (by decide) (by decide))
  have hat : ∀ (j : Nat) x, atB s j x = begins ((bs s).drop j) x := fun j x => by unfold atB; rw [if_neg (by omega), Int.toNat_natCast]
  have hcm := Lib.hid (show commentL ((bs s).drop k) = _ from by unfold commentL; rfl)
  have HB1 := HA1.out k
  have HB2 := HA2.out k
  simp only [hat] at HB1 HB2
  have HP1 := Lib.hid HB1
  have HP2 := Lib.hid HB2
  clear HB1 HB2 HA1 HA2
  generalize begins ((bs s).drop k) [62] = b1 at *
  generalize begins ((bs s).drop k) [45, 62] = b2 at *
  cases b1 with
  | true =>
    have e := hcm.out
    rw [if_pos rfl] at e
    rw [e]
    clear e hcm hat
    go_enter Tryz.func59, Tryz.ntmps59
    go_wp2_with fail
    refine (HP1.out _).mono ?_; rintro e w1 ⟨rfl, rfl⟩
    go_wp2_with fail
    go_ret2
    exact ⟨rfl, Below.refl _ _⟩
  | false =>
    cases b2 with
    | true =>
      have e := hcm.out
      rw [if_neg (by decide), if_pos rfl] at e
      rw [e]
      clear e hcm hat
      go_enter Tryz.func59, Tryz.ntmps59
      go_wp2_with fail
      refine (HP1.out _).mono ?_; rintro e w1 ⟨rfl, rfl⟩
      go_wp2_with fail
      refine (HP2.out _).mono ?_; rintro e w1 ⟨rfl, rfl⟩
      go_wp2_with fail
      go_ret2
      exact ⟨rfl, Below.refl _ _⟩
    | false =>
      have e := hcm.out
      rw [if_neg (by decide), if_neg (by decide)] at e
      rw [e]
      clear e hcm
      have hr : ((bs s).drop k).length = s.size - k := by rw [List.length_drop, ← size_bs]
      have hl1 := findAt_le [45, 45, 62] ((bs s).drop k)
      have hl2 := findAt_le [45, 45, 33, 62] ((bs s).drop k)
      have hboth := both_ends ((bs s).drop k)
      have hno1 : Hid (∀ j, j < findAt [45, 45, 62] ((bs s).drop k) → begins ((bs s).drop (k + j)) [45, 45, 62] = false) := fun j hj => by rw [← List.drop_drop]; exact findAt_not _ _ j hj
      have hno2 : Hid (∀ j, j < findAt [45, 45, 33, 62] ((bs s).drop k) → begins ((bs s).drop (k + j)) [45, 45, 33, 62] = false) := fun j hj => by rw [← List.drop_drop]; exact findAt_not _ _ j hj
      have hye1 : Hid (findAt [45, 45, 62] ((bs s).drop k) < s.size - k → begins ((bs s).drop (k + findAt [45, 45, 62] ((bs s).drop k))) [45, 45, 62] = true) := fun h => by rw [← List.drop_drop]; exact findAt_begins _ _ (by omega)
      have hye2 : Hid (findAt [45, 45, 33, 62] ((bs s).drop k) < s.size - k → begins ((bs s).drop (k + findAt [45, 45, 33, 62] ((bs s).drop k))) [45, 45, 33, 62] = true) := fun h => by rw [← List.drop_drop]; exact findAt_begins _ _ (by omega)
      have HT : Hid (∀ n, mk (((bs s).drop k).take n) = s.extract k (k + n)) := fun n => ext_take' s k n
      obtain ⟨X, hX⟩ : ∃ X, s.extract k s.size = X := ⟨_, rfl⟩
      have hXb : bs X = (bs s).drop k := by rw [← hX, bs_from]
      have hXs : X.size = s.size - k := by rw [← hX, ByteArray.size_extract]; omega
      have HX := Lib.hid hX
      clear hX
      rw [hr] at hl1 hl2 hboth ⊢
      rw [← hXb]
      rw [← hXb] at hl1 hl2 hboth hno1 hno2 hye1 hye2
      have hC1 := Lib.hid (ends_cases X [45, 45, 33] _ rfl)
      have hC2 := Lib.hid (ends_cases X [45, 45] _ rfl)
      have hC3 := Lib.hid (ends_cases X [45] _ rfl)
      have hce : Hid (mk (cutEnd (bs X)) = if endsWith (bs X) [45, 45, 33] = true then X.extract 0 (X.size - 3) else if endsWith (bs X) [45, 45] = true then X.extract 0 (X.size - 2) else if endsWith (bs X) [45] = true then X.extract 0 (X.size - 1) else X) := by
        show _ = _; unfold cutEnd; rw [← size_bs]
        split
        · exact mk_take _ _
        · split
          · exact mk_take _ _
          · split
            · exact mk_take _ _
            · exact mk_bs _
      have HTX : Hid (∀ n, mk ((bs X).take n) = s.extract k (k + n)) := fun n => by rw [hXb]; exact HT.out n
      clear hXb HT hr
      generalize endsWith (bs X) [45, 45, 33] = c1 at *
      generalize endsWith (bs X) [45, 45] = c2 at *
      generalize endsWith (bs X) [45] = c3 at *
      generalize findAt [45, 45, 62] (bs X) = n1 at *
      generalize findAt [45, 45, 33, 62] (bs X) = n2 at *
      have Hat := Lib.hid hat
      have Hboth := Lib.hid hboth
      clear hat hboth
      rcases Nat.lt_trichotomy n1 n2 with hlt | heq | hgt
      · rw [if_pos hlt]
        simp only
        rw [HTX.out]
        clear hC1 hC2 hC3 hce Hboth
        go_enter Tryz.func59, Tryz.ntmps59
        go_wp2_with fail
        refine (HP1.out _).mono ?_; rintro e w1 ⟨rfl, rfl⟩
        go_wp2_with fail
        refine (HP2.out _).mono ?_; rintro e w1 ⟨rfl, rfl⟩
        go_wp2_with fail
        go_loop [6] (fun v => ∃ j : Nat, k ≤ j ∧ j ≤ k + n1 ∧ v = .int .i64 j) (fun v => s.size - (intOf v).toNat)
        case atStart => exact ⟨k, Nat.le_refl _, by omega, rfl⟩
        case round =>
          obtain ⟨j, hkj, hj, rfl⟩ := hrel
          have hjz : (j : Int) < (s.size : Int) := by omega
          have HQ3 := HA3.out j
          rw [Hat.out] at HQ3
          by_cases hjn : j = k + n1
          · subst hjn
            rw [hye1.out (by omega)] at HQ3
            have HQ3 := Lib.hid HQ3
            go_wp2_with fail
            refine (HQ3.out _).mono ?_; rintro e w1 ⟨rfl, rfl⟩
            go_wp2_with fail
            go_ret2
            exact ⟨ret_sn rfl (by omega), Below.refl _ _⟩
          · have HQ4 := HA4.out j
            rw [Hat.out] at HQ4
            have f1 := hno1.out (j - k) (by omega)
            have f2 := hno2.out (j - k) (by omega)
            rw [show k + (j - k) = j from by omega] at f1 f2
            rw [f1] at HQ3
            rw [f2] at HQ4
            have HQ3 := Lib.hid HQ3
            have HQ4 := Lib.hid HQ4
            clear f1 f2
            go_wp2_with fail
            refine (HQ3.out _).mono ?_; rintro e w1 ⟨rfl, rfl⟩
            go_wp2_with fail
            refine (HQ4.out _).mono ?_; rintro e w1 ⟨rfl, rfl⟩
            go_wp2_with fail
            go_round
            case rel => exact ⟨j + 1, by omega, by omega, by go_num⟩
            case measure => simp [intOf]; omega
      · subst heq
        have hn1 : n1 = s.size - k := Hboth.out rfl
        subst hn1
        rw [if_neg (by omega), if_neg (by omega)]
        simp only
        generalize mk (cutEnd (bs X)) = R at *
        clear hye1 hye2 HTX
        go_enter Tryz.func59, Tryz.ntmps59
        go_wp2_with fail
        refine (HP1.out _).mono ?_; rintro e w1 ⟨rfl, rfl⟩
        go_wp2_with fail
        refine (HP2.out _).mono ?_; rintro e w1 ⟨rfl, rfl⟩
        go_wp2_with fail
        go_loop [6] (fun v => ∃ j : Nat, k ≤ j ∧ j ≤ s.size ∧ v = .int .i64 j) (fun v => s.size - (intOf v).toNat)
        case atStart => exact ⟨k, Nat.le_refl _, by omega, rfl⟩
        case round =>
          obtain ⟨j, hkj, hj, rfl⟩ := hrel
          by_cases hjn : j < s.size
          · have hjz : (j : Int) < (s.size : Int) := by omega
            have HQ3 := HA3.out j
            rw [Hat.out] at HQ3
            have HQ4 := HA4.out j
            rw [Hat.out] at HQ4
            have f1 := hno1.out (j - k) (by omega)
            have f2 := hno2.out (j - k) (by omega)
            rw [show k + (j - k) = j from by omega] at f1 f2
            rw [f1] at HQ3
            rw [f2] at HQ4
            have HQ3 := Lib.hid HQ3
            have HQ4 := Lib.hid HQ4
            clear f1 f2
            go_wp2_with fail
            refine (HQ3.out _).mono ?_; rintro e w1 ⟨rfl, rfl⟩
            go_wp2_with fail
            refine (HQ4.out _).mono ?_; rintro e w1 ⟨rfl, rfl⟩
            go_wp2_with fail
            go_round
            case rel => exact ⟨j + 1, by omega, by omega, by go_num⟩
            case measure => simp [intOf]; omega
          · obtain rfl : j = s.size := by omega
            have hjz : ¬ (s.size : Int) < (s.size : Int) := by omega
            go_upto_region 14 with (fail)
            rw [HX.out]
            have hblk := heap_alloc_new w (.cells #[.string ⟨#[45, 45, 33]⟩, .string ⟨#[45, 45]⟩, .string ⟨#[45]⟩] 9)
            have hbW := (Below.refl w.heap.size w).alloc (Nat.le_refl _) (.cells #[.string ⟨#[45, 45, 33]⟩, .string ⟨#[45, 45]⟩, .string ⟨#[45]⟩] 9)
            generalize w.alloc (.cells #[.string ⟨#[45, 45, 33]⟩, .string ⟨#[45, 45]⟩, .string ⟨#[45]⟩] 9) = W at *
            generalize hB : w.heap.size = B at *
            have hxb : X.size ≤ 1000000 := by omega
            have HXs := Lib.hid hXs
            clear hjz hXs
            go_wp2_with fail
            go_loopw [9, 10] (fun v9 v10 wr => Hid (Below W.heap.size W wr) ∧ ((v9 = .int .i64 0) ∨ (v9 = .int .i64 1 ∧ c1 = false) ∨ (v9 = .int .i64 2 ∧ c1 = false ∧ c2 = false) ∨ (v9 = .int .i64 3 ∧ c1 = false ∧ c2 = false ∧ c3 = false))) (fun v9 _ _ => 3 - (intOf v9).toNat)
            case atStart => exact ⟨Below.refl _ _, .inl rfl⟩
            case round =>
              obtain ⟨hbj, hv⟩ := hrel
              have hrow := below_block hbj.out hblk
              have hlt := lt_of_block hrow
              have x0 : wr.cell? ⟨B, 0, none⟩ = some (.string ⟨#[45, 45, 33]⟩) := row_cell hrow 0 _ rfl
              have x1 : wr.cell? ⟨B, 1, none⟩ = some (.string ⟨#[45, 45]⟩) := row_cell hrow 1 _ rfl
              have x2 : wr.cell? ⟨B, 2, none⟩ = some (.string ⟨#[45]⟩) := row_cell hrow 2 _ rfl
              clear hrow hblk
              rcases hv with rfl | ⟨rfl, rfl⟩ | ⟨rfl, rfl, rfl⟩ | ⟨rfl, rfl, rfl, rfl⟩
              · go_upto_region 18 with (fail)
                rcases hC1.out with ⟨hcf, hsm⟩ | ⟨m, hm, hq⟩
                · subst hcf
                  obtain ⟨z, hz⟩ : ∃ z : Int, (X.size : Int) - 3 = z := ⟨_, rfl⟩
                  rw [hz]
                  have hz1 : decide ((0 : Int) ≤ z) = false := decide_eq_false (by simp only [List.length_cons, List.length_nil] at hsm; omega)
                  have hz3 : decide (z ≥ (0 : Int)) = false := hz1
                  have hz4 : ¬ (0 : Int) ≤ z := of_decide_eq_false hz1
                  clear hz hsm
                  go_quiet (fail)
                  go_wp2_with fail
                  go_roundw
                  case rel => exact ⟨below_drewN hbj.out _, .inr (.inl (by simp))⟩
                  case measure => simp [intOf]
                · have hm2 : X.size = m + 3 := hm
                  rw [show (X.size : Int) - 3 = (m : Int) from by omega]
                  have hz1 : decide ((0 : Int) ≤ (m : Int)) = true := decide_eq_true (by omega)
                  have hz3 : decide ((m : Int) ≥ (0 : Int)) = true := hz1
                  have hz2 : (m : Int) ≤ (X.size : Int) := by omega
                  have HM := Lib.hid hm2
                  clear hm hm2
                  cases c1 with
                  | true =>
                    go_quiet (fail)
                    go_wp2_with fail
                    go_ret2
                    exact ⟨ret_sn (by rw [hce.out]; simp [HM.out]) (by have := HXs.out; omega), below_drewN (hbW.trans (hbj.out.mono (by have := hbW.size; omega))) _⟩
                  | false =>
                    go_quiet (fail)
                    go_wp2_with fail
                    go_roundw
                    case rel => exact ⟨below_drewN hbj.out _, .inr (.inl (by simp))⟩
                    case measure => simp [intOf]
              · go_upto_region 18 with (fail)
                rcases hC2.out with ⟨hcf, hsm⟩ | ⟨m, hm, hq⟩
                · subst hcf
                  obtain ⟨z, hz⟩ : ∃ z : Int, (X.size : Int) - 2 = z := ⟨_, rfl⟩
                  rw [hz]
                  have hz1 : decide ((0 : Int) ≤ z) = false := decide_eq_false (by simp only [List.length_cons, List.length_nil] at hsm; omega)
                  have hz3 : decide (z ≥ (0 : Int)) = false := hz1
                  have hz4 : ¬ (0 : Int) ≤ z := of_decide_eq_false hz1
                  clear hz hsm
                  go_quiet (fail)
                  go_wp2_with fail
                  go_roundw
                  case rel => exact ⟨below_drewN hbj.out _, .inr (.inr (.inl (by simp)))⟩
                  case measure => simp [intOf]
                · have hm2 : X.size = m + 2 := hm
                  rw [show (X.size : Int) - 2 = (m : Int) from by omega]
                  have hz1 : decide ((0 : Int) ≤ (m : Int)) = true := decide_eq_true (by omega)
                  have hz3 : decide ((m : Int) ≥ (0 : Int)) = true := hz1
                  have hz2 : (m : Int) ≤ (X.size : Int) := by omega
                  have HM := Lib.hid hm2
                  clear hm hm2
                  cases c2 with
                  | true =>
                    go_quiet (fail)
                    go_wp2_with fail
                    go_ret2
                    exact ⟨ret_sn (by rw [hce.out]; simp [HM.out]) (by have := HXs.out; omega), below_drewN (hbW.trans (hbj.out.mono (by have := hbW.size; omega))) _⟩
                  | false =>
                    go_quiet (fail)
                    go_wp2_with fail
                    go_roundw
                    case rel => exact ⟨below_drewN hbj.out _, .inr (.inr (.inl (by simp)))⟩
                    case measure => simp [intOf]
              · go_upto_region 18 with (fail)
                rcases hC3.out with ⟨hcf, hsm⟩ | ⟨m, hm, hq⟩
                · subst hcf
                  obtain ⟨z, hz⟩ : ∃ z : Int, (X.size : Int) - 1 = z := ⟨_, rfl⟩
                  rw [hz]
                  have hz1 : decide ((0 : Int) ≤ z) = false := decide_eq_false (by simp only [List.length_cons, List.length_nil] at hsm; omega)
                  have hz3 : decide (z ≥ (0 : Int)) = false := hz1
                  have hz4 : ¬ (0 : Int) ≤ z := of_decide_eq_false hz1
                  clear hz hsm
                  go_quiet (fail)
                  go_wp2_with fail
                  go_roundw
                  case rel => exact ⟨below_drewN hbj.out _, .inr (.inr (.inr (by simp)))⟩
                  case measure => simp [intOf]
                · have hm2 : X.size = m + 1 := hm
                  rw [show (X.size : Int) - 1 = (m : Int) from by omega]
                  have hz1 : decide ((0 : Int) ≤ (m : Int)) = true := decide_eq_true (by omega)
                  have hz3 : decide ((m : Int) ≥ (0 : Int)) = true := hz1
                  have hz2 : (m : Int) ≤ (X.size : Int) := by omega
                  have HM := Lib.hid hm2
                  clear hm hm2
                  cases c3 with
                  | true =>
                    go_quiet (fail)
                    go_wp2_with fail
                    go_ret2
                    exact ⟨ret_sn (by rw [hce.out]; simp [HM.out]) (by have := HXs.out; omega), below_drewN (hbW.trans (hbj.out.mono (by have := hbW.size; omega))) _⟩
                  | false =>
                    go_quiet (fail)
                    go_wp2_with fail
                    go_roundw
                    case rel => exact ⟨below_drewN hbj.out _, .inr (.inr (.inr (by simp)))⟩
                    case measure => simp [intOf]
              · go_wp2_with fail
                go_ret2
                exact ⟨ret_sn (by rw [hce.out]; simp) (by have := HXs.out; omega), hbW.trans (hbj.out.mono (by have := hbW.size; omega))⟩
      · rw [if_neg (by omega), if_pos hgt]
        simp only
        rw [HTX.out]
        clear hC1 hC2 hC3 hce Hboth
        go_enter Tryz.func59, Tryz.ntmps59
        go_wp2_with fail
        refine (HP1.out _).mono ?_; rintro e w1 ⟨rfl, rfl⟩
        go_wp2_with fail
        refine (HP2.out _).mono ?_; rintro e w1 ⟨rfl, rfl⟩
        go_wp2_with fail
        go_loop [6] (fun v => ∃ j : Nat, k ≤ j ∧ j ≤ k + n2 ∧ v = .int .i64 j) (fun v => s.size - (intOf v).toNat)
        case atStart => exact ⟨k, Nat.le_refl _, by omega, rfl⟩
        case round =>
          obtain ⟨j, hkj, hj, rfl⟩ := hrel
          have hjz : (j : Int) < (s.size : Int) := by omega
          have HQ3 := HA3.out j
          rw [Hat.out] at HQ3
          have f1 := hno1.out (j - k) (by omega)
          rw [show k + (j - k) = j from by omega] at f1
          rw [f1] at HQ3
          have HQ3 := Lib.hid HQ3
          have HQ4 := HA4.out j
          rw [Hat.out] at HQ4
          clear f1
          by_cases hjn : j = k + n2
          · subst hjn
            rw [hye2.out (by omega)] at HQ4
            have HQ4 := Lib.hid HQ4
            go_wp2_with fail
            refine (HQ3.out _).mono ?_; rintro e w1 ⟨rfl, rfl⟩
            go_wp2_with fail
            refine (HQ4.out _).mono ?_; rintro e w1 ⟨rfl, rfl⟩
            go_wp2_with fail
            go_ret2
            exact ⟨ret_sn rfl (by omega), Below.refl _ _⟩
          · have f2 := hno2.out (j - k) (by omega)
            rw [show k + (j - k) = j from by omega] at f2
            rw [f2] at HQ4
            have HQ4 := Lib.hid HQ4
            clear f2
            go_wp2_with fail
            refine (HQ3.out _).mono ?_; rintro e w1 ⟨rfl, rfl⟩
            go_wp2_with fail
            refine (HQ4.out _).mono ?_; rintro e w1 ⟨rfl, rfl⟩
            go_wp2_with fail
            go_round
            case rel => exact ⟨j + 1, by omega, by omega, by go_num⟩
            case measure => simp [intOf]; omega
end Tym
