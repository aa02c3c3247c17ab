/- The law functions of layer 3, but Marks and Right. -/
import Derived.Test.YtbgcedhbbfkmcaaEntO
set_option linter.unusedSimpArgs false
set_option linter.unusedVariables false
open Go Go.RowKit Go.Proofs
namespace Tym
attribute [local irreducible] dec mark number named

theorem law_numbers (n : Int) (w : World) : Calls Try.prog 4 #[.int .i64 n] w fun e w' => e = .returned (.bool true) ∧ Below w.heap.size w w' := by
  go_enter Try.func4, Try.ntmps4
  go_wp2_with fail
  refine (known_any _).mono ?_; rintro e w1 ⟨rfl, b1⟩
  go_wp2_with fail
  refine (number_any _ _).mono ?_; rintro e w2 ⟨rfl, b2⟩
  go_wp2_with fail
  refine (numberR_any _ _).mono ?_; rintro e w3 ⟨rfl, b3⟩
  go_wp2_with fail
  go_ret
  exact ⟨rfl, below_then (below_then b1 b2) b3⟩

theorem law_names (s : ByteArray) (w : World) : Calls Try.prog 3 #[.string s] w fun e w' => e = .returned (.bool true) ∧ Below w.heap.size w w' := by
  by_cases h : (3000 : Int) < (s.size : Int)
  · go_enter Try.func3, Try.ntmps3
    go_wp2
    go_ret
    exact ⟨rfl, Below.refl _ _⟩
  · have hs : s.size ≤ 1000000000 := by omega
    have HR : Hid (∀ w, Calls Try.prog 11 #[.string s] w fun e w' => e = .returned (.tuple #[.string (mk (named (bs s)).1), .int .i64 (named (bs s)).2]) ∧ Below w.heap.size w w') := fun w => by have := namedR_any s w hs; rwa [← named_eq] at this
    have HN : Hid (∀ w, Calls Try.prog 10 #[.string s] w fun e w' => e = .returned (.tuple #[.string (mk (named (bs s)).1), .int .i64 (named (bs s)).2]) ∧ Below w.heap.size w w') := fun w => named_any s w hs
    generalize named (bs s) = m at *
    obtain ⟨l, k⟩ := m
    generalize mk l = t at *
    go_enter Try.func3, Try.ntmps3
    go_wp2_with fail
    refine (HN.out _).mono ?_; rintro e w1 ⟨rfl, b1⟩
    go_wp2_with fail
    refine (HR.out _).mono ?_; rintro e w2 ⟨rfl, b2⟩
    go_wp2_with fail
    refine (known_any _).mono ?_; rintro e w3 ⟨rfl, b3⟩
    go_wp2_with fail
    go_ret
    exact ⟨rfl, below_then (below_then b1 b2) b3⟩

theorem law_decodes (s : ByteArray) (attr : Bool) (w : World) : Calls Try.prog 5 #[.string s, .bool attr] w fun e w' => e = .returned (.bool true) ∧ Below w.heap.size w w' := by
  by_cases h : (3000 : Int) < (s.size : Int)
  · go_enter Try.func5, Try.ntmps5
    go_wp2
    go_ret
    exact ⟨rfl, Below.refl _ _⟩
  · have hs : s.size ≤ 1000000000 := by omega
    have HR : Hid (∀ w, Calls Try.prog 16 #[.string s, .bool attr] w fun e w' => e = .returned (.string (mk (dec attr (bs s)))) ∧ Below w.heap.size w w') := fun w => decodeR_any s attr w hs
    have HN : Hid (∀ w, Calls Try.prog 15 #[.string s, .bool attr] w fun e w' => e = .returned (.string (mk (dec attr (bs s)))) ∧ Below w.heap.size w w') := fun w => decode_any s attr w hs
    generalize mk (dec attr (bs s)) = t at *
    go_enter Try.func5, Try.ntmps5
    go_wp2_with fail
    refine (known_any _).mono ?_; rintro e w3 ⟨rfl, b3⟩
    go_wp2_with fail
    refine (HN.out _).mono ?_; rintro e w1 ⟨rfl, b1⟩
    go_wp2_with fail
    refine (HR.out _).mono ?_; rintro e w2 ⟨rfl, b2⟩
    go_wp2_with fail
    go_ret
    exact ⟨rfl, below_then (below_then b3 b1) b2⟩
end Tym
