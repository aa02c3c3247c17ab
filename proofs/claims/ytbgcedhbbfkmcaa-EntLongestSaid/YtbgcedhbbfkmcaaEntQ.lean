/- The law EntLongest. -/
import Derived.Test.YtbgcedhbbfkmcaaEntP
set_option linter.unusedSimpArgs false
set_option linter.unusedVariables false
open Go Go.RowKit Go.Proofs
namespace Tym
attribute [local irreducible] dec mark number named
set_option maxRecDepth 100000

theorem longest_in (s : ByteArray) (w : World) (h : ¬ (3000 : Int) < (s.size : Int)) (t : ByteArray) (k : Nat) (hk : k ≤ s.size) (ht0 : k = 0 → t = ⟨#[]⟩) (ht1 : 0 < k → (t.toList == []) = false)
    (H1 : Hid (∀ w, Calls Try.prog 10 #[.string s] w fun e w' => e = .returned (.tuple #[.string t, .int .i64 k]) ∧ Below w.heap.size w w'))
    (H2 : Hid (∀ w, Calls Try.prog 10 #[.string (s.extract 0 k)] w fun e w' => e = .returned (.tuple #[.string t, .int .i64 k]) ∧ Below w.heap.size w w'))
    (H3 : Hid (∀ w, Calls Try.prog 10 #[.string (s.extract 0 k ++ ⟨#[32]⟩)] w fun e w' => e = .returned (.tuple #[.string t, .int .i64 k]) ∧ Below w.heap.size w w')) :
    Calls Try.prog 9 #[.string s] w fun e w' => e = .returned (.bool true) ∧ Below w.heap.size w w' := by
  rcases Nat.eq_zero_or_pos k with h0 | h0
  · have hne : (t.toList == []) = true := by rw [ht0 h0, Lib.toList_data]; rfl
    have hz : ((k : Int) == 0) = true := by rw [beq_iff_eq]; omega
    have hp : ¬ (0 : Int) < (k : Int) := by omega
    clear ht0 ht1 h0
    go_enter Try.func9, Try.ntmps9
    go_wp2_with fail
    refine (known_any _).mono ?_; rintro e w1 ⟨rfl, b1⟩
    go_wp2_with fail
    refine (H1.out _).mono ?_; rintro e w2 ⟨rfl, b2⟩
    go_wp2_with fail
    refine (H2.out _).mono ?_; rintro e w3 ⟨rfl, b3⟩
    go_wp2_with fail
    refine (H3.out _).mono ?_; rintro e w4 ⟨rfl, b4⟩
    go_wp2_with fail
    go_ret
    exact ⟨rfl, below_then (below_then (below_then b1 b2) b3) b4⟩
  · have hne := ht1 h0
    have hz : ((k : Int) == 0) = false := by rw [beq_eq_false_iff_ne]; omega
    go_enter Try.func9, Try.ntmps9
    go_wp2_with fail
    refine (known_any _).mono ?_; rintro e w1 ⟨rfl, b1⟩
    go_wp2_with fail
    refine (H1.out _).mono ?_; rintro e w2 ⟨rfl, b2⟩
    go_wp2_with fail
    refine (H2.out _).mono ?_; rintro e w3 ⟨rfl, b3⟩
    go_wp2_with fail
    refine (H3.out _).mono ?_; rintro e w4 ⟨rfl, b4⟩
    go_wp2_with fail
    go_ret
    exact ⟨rfl, below_then (below_then (below_then b1 b2) b3) b4⟩

theorem law_longest (s : ByteArray) (w : World) : Calls Try.prog 9 #[.string s] w fun e w' => e = .returned (.bool true) ∧ Below w.heap.size w w' := by
  by_cases h : (3000 : Int) < (s.size : Int)
  · go_enter Try.func9, Try.ntmps9
    go_wp2_with fail
    refine (known_any _).mono ?_; rintro e w1 ⟨rfl, b1⟩
    go_wp2_with fail
    go_ret
    exact ⟨rfl, b1⟩
  · have hs : s.size ≤ 1000000000 := by omega
    have hle := named_le (bs s)
    rw [← size_bs] at hle
    obtain ⟨z0, z1⟩ := named_zero (bs s)
    have a1 := named_again (bs s) [] (.inl rfl)
    have a2 := named_again (bs s) [32] (.inr rfl)
    rw [List.append_nil] at a1
    have H1 : Hid (∀ w, Calls Try.prog 10 #[.string s] w fun e w' => e = .returned (.tuple #[.string (mk (named (bs s)).1), .int .i64 (named (bs s)).2]) ∧ Below w.heap.size w w') := fun w => named_any s w hs
    have H2 : Hid (∀ w, Calls Try.prog 10 #[.string (s.extract 0 (named (bs s)).2)] w fun e w' => e = .returned (.tuple #[.string (mk (named (bs s)).1), .int .i64 (named (bs s)).2]) ∧ Below w.heap.size w w') := fun w => by
      have := named_any (s.extract 0 (named (bs s)).2) w (by rw [ByteArray.size_extract]; omega)
      rwa [bs_to, a1] at this
    have H3 : Hid (∀ w, Calls Try.prog 10 #[.string (s.extract 0 (named (bs s)).2 ++ ⟨#[32]⟩)] w fun e w' => e = .returned (.tuple #[.string (mk (named (bs s)).1), .int .i64 (named (bs s)).2]) ∧ Below w.heap.size w w') := fun w => by
      have := named_any (s.extract 0 (named (bs s)).2 ++ ⟨#[32]⟩) w (by rw [size_append, ByteArray.size_extract]; have : (⟨#[32]⟩ : ByteArray).size = 1 := rfl; omega)
      rwa [bs_append, bs_to, show bs ⟨#[32]⟩ = [32] from rfl, a2] at this
    exact longest_in s w h _ _ hle (fun hk => by rw [z0 hk]; rfl) (fun hk => by rw [Lib.toList_data]; exact beq_eq_false_iff_ne.2 (z1 hk)) H1 H2 H3
end Tym
