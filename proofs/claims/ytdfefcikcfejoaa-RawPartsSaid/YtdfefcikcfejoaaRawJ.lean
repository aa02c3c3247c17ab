/- known and the law RawTexts. -/
import Derived.Test.YtdfefcikcfejoaaRawI
set_option linter.unusedSimpArgs false
set_option linter.unusedVariables false
open Go Go.RowKit Go.Proofs
namespace Tym
set_option maxRecDepth 100000

theorem rknown (w : World) : Calls Try.prog 8 #[] w fun e w' => e = .returned (.bool true) ∧ Below w.heap.size w w' := by
  have h3 : Hid (∃ t, ∀ w, Calls Try.prog 6 #[.string ⟨#[60, 33, 45, 45, 60, 115, 99, 114, 105, 112, 116, 62, 60, 47, 115, 99, 114, 105, 112, 116, 62, 45, 45, 62, 60, 47, 115, 99, 114, 105, 112, 116, 62]⟩, .int .i64 0, .string ⟨#[115, 99, 114, 105, 112, 116]⟩, .int .u8 3] w fun e w' => e = .returned (.tuple #[.string t, .int .i64 24]) ∧ Below w.heap.size w w') := ⟨_, rk3⟩
  obtain ⟨t3, h3⟩ := h3.out
  have H3 := Lib.hid h3
  clear h3
  go_enter Try.func8, Try.ntmps8
  go_wp2_with fail
  refine (rk1 _).mono ?_; rintro e w1 ⟨rfl, b1⟩
  go_wp2_with fail
  refine (rk2 _).mono ?_; rintro e w2 ⟨rfl, b2⟩
  go_wp2_with fail
  refine (H3.out _).mono ?_; rintro e w3 ⟨rfl, b3⟩
  go_wp2_with fail
  go_ret
  exact ⟨rfl, below_then (below_then b1 b2) b3⟩

theorem law_rawtexts (s : ByteArray) (i : Int) (name : ByteArray) (m : Int) (w : World) : Calls Try.prog 3 #[.string s, .int .i64 i, .string name, .int .u8 m] w fun e w' => e = .returned (.bool true) ∧ Below w.heap.size w w' := by
  by_cases h1 : (3000 : Int) < (s.size : Int)
  · go_enter Try.func3, Try.ntmps3
    go_wp2
    go_ret
    exact ⟨rfl, Below.refl _ _⟩
  · by_cases h2 : (3000 : Int) < (name.size : Int)
    · go_enter Try.func3, Try.ntmps3
      go_wp2
      go_ret
      exact ⟨rfl, Below.refl _ _⟩
    · obtain ⟨t, n, hA, hB⟩ := texts_same s name i m (by omega) (by omega)
      have HA := Lib.hid hA
      have HB := Lib.hid hB
      clear hA hB
      go_enter Try.func3, Try.ntmps3
      go_wp2_with fail
      refine (HA.out _).mono ?_; rintro e w1 ⟨rfl, b1⟩
      go_wp2_with fail
      refine (HB.out _).mono ?_; rintro e w2 ⟨rfl, b2⟩
      go_wp2_with fail
      refine (rknown _).mono ?_; rintro e w3 ⟨rfl, b3⟩
      go_wp2_with fail
      go_ret
      exact ⟨rfl, below_then (below_then b1 b2) b3⟩
end Tym
