/- The walks of raw.follows and of the reference's closed, word, ends. -/
import Derived.Test.YtdfefcikcfejoaaByteB
import Derived.Test.YtdfefcikcfejoaaPlainRaw
set_option linter.unusedSimpArgs false
set_option linter.unusedVariables false
open Go Go.RowKit Go.Proofs
namespace Tym
set_option maxRecDepth 20000
attribute [local irreducible] lower isSpace

theorem isClose_int (c : UInt8) : isClose c = (isSpace c || ((c.toNat : Int) == (47 : Nat)) || ((c.toNat : Int) == (62 : Nat))) := by
  unfold isClose
  rw [byte_beq c 47 (by decide), byte_beq c 62 (by decide)]; rfl

theorem follows_yes (r e : Bs) (h : e.length < r.length) (hl : lower (r.take e.length) = e) : follows r e = isClose (r.getD e.length 0) := by
  unfold follows wordIn closedIn
  rw [hl, decide_eq_true h, decide_eq_true (Nat.le_of_lt h)]; simp
theorem follows_no (r e : Bs) (h : e.length < r.length → lower (r.take e.length) ≠ e) : follows r e = false := by
  rw [Bool.eq_false_iff]
  intro hf
  have hlt := follows_len r e hf
  unfold follows wordIn at hf
  simp only [Bool.and_eq_true, beq_iff_eq] at hf
  exact h hlt hf.1.2

set_option maxHeartbeats 1000000 in
theorem follows_walk (s word : ByteArray) (w : World) (hs : s.size ≤ 1000000000) (hlt : word.size < s.size) (l : ByteArray) (b : Bool) (hb1 : (l.toList == word.toList) = b) (sp x y : Bool)
    (HL : Hid (∀ w, Calls Try.prog 10 #[.string (s.extract 0 word.size)] w fun e w' => e = .returned (.string l) ∧ Below w.heap.size w w'))
    (HS : Hid (∀ w, Calls Try.prog 29 #[.int .u8 (s[word.size].toNat : Int)] w fun e w' => e = .returned (.bool sp) ∧ w = w'))
    (hx : ((s[word.size].toNat : Int) == 47) = x) (hy : ((s[word.size].toNat : Int) == 62) = y) :
    Calls Try.prog 19 #[.string s, .string word] w fun e w' => e = .returned (.bool (b && (sp || x || y))) ∧ Below w.heap.size w w' := by
  cases b <;> cases sp <;> cases x <;> cases y
  all_goals
    go_enter Try.func19, Try.ntmps19
    go_wp2_with (first | (go_at_call 10; (with_reducible refine (HL.out _).mono ?_); rintro e w' ⟨rfl, hb⟩) | (go_at_call 29; (with_reducible refine (HS.out _).mono ?_); rintro e w' ⟨rfl, rfl⟩))
    go_ret
    exact ⟨ret_bool (by simp [hx, hy]), hb⟩

theorem follows_any (s word : ByteArray) (w : World) (hs : s.size ≤ 1000000000) : Calls Try.prog 19 #[.string s, .string word] w fun e w' => e = .returned (.bool (follows (bs s) (bs word))) ∧ Below w.heap.size w w' := by
  by_cases hlt : word.size < s.size
  · have hL := fun w => lower_any (s.extract 0 word.size) w (by rw [ByteArray.size_extract]; omega)
    rw [bs_to] at hL
    refine (follows_walk s word w hs hlt _ _ rfl _ _ _ hL (space_any _) rfl rfl).mono ?_
    rintro e w' ⟨rfl, hb⟩
    refine ⟨ret_bool ?_, hb⟩
    have hz : word.size = (bs word).length := size_bs word
    rw [show ((mk (lower (List.take word.size (bs s)))).toList == word.toList) = (lower ((bs s).take word.size) == bs word) from by rw [toList_beq, bs_mk]]
    have hic := isClose_int (s[word.size]'hlt)
    rw [get_bs s word.size hlt] at hic
    by_cases hl : lower ((bs s).take word.size) = bs word
    · rw [follows_yes (bs s) (bs word) (by rw [← hz, ← size_bs]; exact hlt) (by rw [← hz]; exact hl), ← hz, hic, hl]
      simp only [BEq.rfl, Bool.not_true, Bool.not_false, Bool.true_and]
      rw [get_bs s word.size hlt]; rfl
    · rw [follows_no (bs s) (bs word) (fun _ h => hl (by rw [← hz] at h; exact h)), show (lower ((bs s).take word.size) == bs word) = false from beq_eq_false_iff_ne.2 hl]; rfl
  · have hf : follows (bs s) (bs word) = false := follows_no _ _ (fun h => absurd h (by rw [← size_bs, ← size_bs]; exact hlt))
    rw [hf]
    go_enter Try.func19, Try.ntmps19
    go_wp2
    go_ret
    exact ⟨rfl, Below.refl _ _⟩

theorem closed_walk (s : ByteArray) (i : Nat) (w : World) (hs : s.size ≤ 1000000000) (hlt : i < s.size) (sp x y : Bool)
    (HS : Hid (∀ w, Calls Try.prog 38 #[.int .u8 (s[i].toNat : Int)] w fun e w' => e = .returned (.bool sp) ∧ w = w'))
    (hx : ((s[i].toNat : Int) == 47) = x) (hy : ((s[i].toNat : Int) == 62) = y) :
    Calls Try.prog 26 #[.string s, .int .i64 i] w fun e w' => e = .returned (.bool (sp || x || y)) ∧ w = w' := by
  cases sp <;> cases x <;> cases y
  all_goals
    go_enter Try.func26, Try.ntmps26
    go_wp2_with (first | (go_at_call 38; (with_reducible refine (HS.out _).mono ?_); rintro e w' ⟨rfl, rfl⟩))
    go_ret
    exact ⟨ret_bool (by simp [hx, hy]), rfl⟩

theorem closed_any (s : ByteArray) (i : Nat) (w : World) (hs : s.size ≤ 1000000000) (hi : i ≤ 100000000000) : Calls Try.prog 26 #[.string s, .int .i64 i] w fun e w' => e = .returned (.bool (closedIn (bs s) i)) ∧ w = w' := by
  by_cases hlt : i < s.size
  · refine (closed_walk s i w hs hlt _ _ _ (spaceR_any _) rfl rfl).mono ?_
    rintro e w' ⟨rfl, hb⟩
    refine ⟨ret_bool ?_, hb⟩
    have hic := isClose_int (s[i]'hlt)
    unfold closedIn
    rw [← size_bs, decide_eq_true hlt, Bool.true_and, ← get_bs s i hlt, hic]; rfl
  · have hf : closedIn (bs s) i = false := by unfold closedIn; rw [← size_bs, decide_eq_false hlt, Bool.false_and]
    rw [hf]
    go_enter Try.func26, Try.ntmps26
    go_wp2
    go_ret
    exact ⟨rfl, rfl⟩

theorem word_walk (s small : ByteArray) (i : Nat) (w : World) (hs : s.size ≤ 1000000000) (hi : i ≤ s.size) (hle : i + small.size ≤ s.size) (l : ByteArray) (b : Bool) (hb1 : (l.toList == small.toList) = b)
    (HL : Hid (∀ w, Calls Try.prog 9 #[.string (s.extract i (i + small.size))] w fun e w' => e = .returned (.string l) ∧ Below w.heap.size w w')) :
    Calls Try.prog 25 #[.string s, .int .i64 i, .string small] w fun e w' => e = .returned (.bool b) ∧ Below w.heap.size w w' := by
  cases b
  all_goals
    go_enter Try.func25, Try.ntmps25
    go_wp2_with (first | (go_at_call 9; (with_reducible refine (HL.out _).mono ?_); rintro e w' ⟨rfl, hb⟩))
    go_ret
    exact ⟨rfl, hb⟩

theorem word_any (s small : ByteArray) (i : Nat) (w : World) (hs : s.size ≤ 1000000000) (hi : i ≤ s.size) (hsm : small.size ≤ 1000000000) : Calls Try.prog 25 #[.string s, .int .i64 i, .string small] w fun e w' => e = .returned (.bool (wordIn ((bs s).drop i) (bs small))) ∧ Below w.heap.size w w' := by
  have hz : small.size = (bs small).length := size_bs small
  by_cases hle : i + small.size ≤ s.size
  · have hL := fun w => lowerR_any (s.extract i (i + small.size)) w (by rw [ByteArray.size_extract]; omega)
    rw [bs_extract, show i + small.size - i = small.size from by omega] at hL
    refine (word_walk s small i w hs hi hle _ _ rfl hL).mono ?_
    rintro e w' ⟨rfl, hb⟩
    refine ⟨ret_bool ?_, hb⟩
    unfold wordIn
    rw [toList_beq, bs_mk, ← hz, List.length_drop, ← size_bs, decide_eq_true (by omega), Bool.true_and]
  · have hf : wordIn ((bs s).drop i) (bs small) = false := by unfold wordIn; rw [← hz, List.length_drop, ← size_bs, decide_eq_false (by omega), Bool.false_and]
    have hd : ¬ (small.size : Int) ≤ (s.size : Int) - (i : Int) := by omega
    rw [hf]
    go_enter Try.func25, Try.ntmps25
    go_wp2
    go_ret
    exact ⟨rfl, Below.refl _ _⟩
end Tym
