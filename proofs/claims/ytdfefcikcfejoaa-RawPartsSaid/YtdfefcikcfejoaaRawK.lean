/- The law RawSize. -/
import Derived.Test.YtdfefcikcfejoaaRawJ
set_option linter.unusedSimpArgs false
set_option linter.unusedVariables false
open Go Go.RowKit Go.Proofs
namespace Tym
set_option maxRecDepth 100000

theorem size_same (s name : ByteArray) (i m : Int) (hs : s.size ≤ 3000) (hn : name.size ≤ 3000) : ∃ (t : ByteArray) (n : Int),
    (∀ w, Calls Try.prog 6 #[.string s, .int .i64 i, .string name, .int .u8 m] w fun e w' => e = .returned (.tuple #[.string t, .int .i64 n]) ∧ Below w.heap.size w w') ∧
    (∀ w, Calls Try.prog 6 #[.string s, .int .i64 i, .string (mk (lower (bs name))), .int .u8 m] w fun e w' => e = .returned (.tuple #[.string t, .int .i64 n]) ∧ Below w.heap.size w w') := by
  by_cases h : i < 0 ∨ (¬ i < 0 ∧ (s.size : Int) < i) ∨ (¬ i < 0 ∧ ¬ (s.size : Int) < i ∧ m < 1) ∨ (¬ i < 0 ∧ ¬ (s.size : Int) < i ∧ ¬ m < 1 ∧ 4 < m)
  · exact ⟨_, _, fun w => rawText_out s name i m w h, fun w => rawText_out s _ i m w h⟩
  · obtain ⟨k, rfl⟩ : ∃ k : Nat, i = k := ⟨i.toNat, by omega⟩
    obtain ⟨q, rfl⟩ : ∃ q : Nat, m = q := ⟨m.toNat, by omega⟩
    refine ⟨_, _, fun w => rawText_in s name k q w hs hn (by omega) (by omega), fun w => ?_⟩
    have := rawText_in s (mk (lower (bs name))) k q w hs (by rw [size_mk, lower_len, ← size_bs]; exact hn) (by omega) (by omega)
    rwa [bs_mk, show endOf (lower (bs name)) = endOf (bs name) from by unfold endOf; rw [lower_lower]] at this

theorem law_rawsize (s : ByteArray) (i : Int) (name : ByteArray) (m : Int) (w : World) : Calls Try.prog 5 #[.string s, .int .i64 i, .string name, .int .u8 m] w fun e w' => e = .returned (.bool true) ∧ Below w.heap.size w w' := by
  by_cases h1 : (3000 : Int) < (s.size : Int)
  · go_enter Try.func5, Try.ntmps5
    go_wp2_with fail
    refine (rknown _).mono ?_; rintro e w1 ⟨rfl, b1⟩
    go_wp2_with fail
    go_ret
    exact ⟨rfl, b1⟩
  · by_cases h2 : (3000 : Int) < (name.size : Int)
    · go_enter Try.func5, Try.ntmps5
      go_wp2_with fail
      refine (rknown _).mono ?_; rintro e w1 ⟨rfl, b1⟩
      go_wp2_with fail
      go_ret
      exact ⟨rfl, b1⟩
    · obtain ⟨t, n, hA, hB⟩ := size_same s name i m (by omega) (by omega)
      have HL : Hid (∀ w, Calls Try.prog 9 #[.string name] w fun e w' => e = .returned (.string (mk (lower (bs name)))) ∧ Below w.heap.size w w') := fun w => lowerR_any name w (by omega)
      have HA := Lib.hid hA
      have HB := Lib.hid hB
      clear hA hB
      generalize mk (lower (bs name)) = nm at *
      go_enter Try.func5, Try.ntmps5
      go_wp2_with fail
      refine (rknown _).mono ?_; rintro e w0 ⟨rfl, b0⟩
      go_wp2_with fail
      refine (HA.out _).mono ?_; rintro e w1 ⟨rfl, b1⟩
      go_wp2_with fail
      refine (HL.out _).mono ?_; rintro e w2 ⟨rfl, b2⟩
      go_wp2_with fail
      refine (HB.out _).mono ?_; rintro e w3 ⟨rfl, b3⟩
      go_wp2_with fail
      go_ret
      exact ⟨rfl, below_then (below_then (below_then b0 b1) b2) b3⟩
end Tym
