/- Both Texts answer alike; the chapter's example; the law RawTexts. -/
import Derived.Test.YtdfefcikcfejoaaRawG
set_option linter.unusedSimpArgs false
set_option linter.unusedVariables false
open Go Go.RowKit Go.Proofs
namespace Tym
set_option maxRecDepth 100000

theorem texts_same (s name : ByteArray) (i m : Int) (hs : s.size ≤ 3000) (hn : name.size ≤ 3000) : ∃ (t : ByteArray) (n : Int),
    (∀ w, Calls Try.prog 6 #[.string s, .int .i64 i, .string name, .int .u8 m] w fun e w' => e = .returned (.tuple #[.string t, .int .i64 n]) ∧ Below w.heap.size w w') ∧
    (∀ w, Calls Try.prog 7 #[.string s, .int .i64 i, .string name, .int .u8 m] w fun e w' => e = .returned (.tuple #[.string t, .int .i64 n]) ∧ Below w.heap.size w w') := by
  by_cases h : i < 0 ∨ (¬ i < 0 ∧ (s.size : Int) < i) ∨ (¬ i < 0 ∧ ¬ (s.size : Int) < i ∧ m < 1) ∨ (¬ i < 0 ∧ ¬ (s.size : Int) < i ∧ ¬ m < 1 ∧ 4 < m)
  · exact ⟨_, _, fun w => rawText_out s name i m w h, fun w => refText_out s name i m w h⟩
  · obtain ⟨k, rfl⟩ : ∃ k : Nat, i = k := ⟨i.toNat, by omega⟩
    obtain ⟨q, rfl⟩ : ∃ q : Nat, m = q := ⟨m.toNat, by omega⟩
    refine ⟨_, _, fun w => rawText_in s name k q w hs hn (by omega) (by omega), fun w => ?_⟩
    rcases (by omega : (q = 1 ∨ q = 2) ∨ (q = 3 ∨ q = 4)) with hq | hq
    · exact refText_12 s name k q w hs hn (by omega) hq
    · exact refText_34 s name k q w hs hn (by omega) hq
end Tym
