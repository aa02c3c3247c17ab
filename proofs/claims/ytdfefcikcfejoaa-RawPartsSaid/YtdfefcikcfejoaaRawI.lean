/- The chapter's example of raw. -/
import Derived.Test.YtdfefcikcfejoaaRawH
set_option linter.unusedSimpArgs false
set_option linter.unusedVariables false
open Go Go.RowKit Go.Proofs
namespace Tym
set_option maxRecDepth 100000
theorem rk1N : rawN 2 (endOf [98]) [97, 60, 47, 98, 62, 60, 47, 66, 32, 120, 62] = 1 := by decide +kernel
theorem rk1T : rawT 2 (endOf [98]) [97, 60, 47, 98, 62, 60, 47, 66, 32, 120, 62] = [97] := by decide +kernel
theorem rk2N : rawN 1 (endOf [116, 105, 116, 108, 101]) [38, 108, 116, 59, 60, 47, 116, 105, 116, 108, 101, 115, 62, 60, 47, 116, 105, 116, 108, 101, 62] = 13 := by decide +kernel
theorem rk2T : rawT 1 (endOf [116, 105, 116, 108, 101]) [38, 108, 116, 59, 60, 47, 116, 105, 116, 108, 101, 115, 62, 60, 47, 116, 105, 116, 108, 101, 62] = [60, 60, 47, 116, 105, 116, 108, 101, 115, 62] := by decide +kernel
theorem rk3N : rawN 3 (endOf [115, 99, 114, 105, 112, 116]) [60, 33, 45, 45, 60, 115, 99, 114, 105, 112, 116, 62, 60, 47, 115, 99, 114, 105, 112, 116, 62, 45, 45, 62, 60, 47, 115, 99, 114, 105, 112, 116, 62] = 24 := by decide +kernel

theorem rk1 (w : World) : Calls Try.prog 6 #[.string ⟨#[97, 60, 47, 98, 62, 60, 47, 66, 32, 120, 62]⟩, .int .i64 0, .string ⟨#[98]⟩, .int .u8 2] w fun e w' => e = .returned (.tuple #[.string ⟨#[97]⟩, .int .i64 1]) ∧ Below w.heap.size w w' := by
  refine (rawText_in ⟨#[97, 60, 47, 98, 62, 60, 47, 66, 32, 120, 62]⟩ ⟨#[98]⟩ 0 2 w (by decide) (by decide) (by decide) (by omega)).mono ?_
  rintro e w' ⟨rfl, hb⟩
  exact ⟨ret_si (congrArg mk rk1T) (congrArg (fun n : Nat => ((0 + n : Nat) : Int)) rk1N), hb⟩

theorem rk2 (w : World) : Calls Try.prog 6 #[.string ⟨#[38, 108, 116, 59, 60, 47, 116, 105, 116, 108, 101, 115, 62, 60, 47, 116, 105, 116, 108, 101, 62]⟩, .int .i64 0, .string ⟨#[116, 105, 116, 108, 101]⟩, .int .u8 1] w fun e w' => e = .returned (.tuple #[.string ⟨#[60, 60, 47, 116, 105, 116, 108, 101, 115, 62]⟩, .int .i64 13]) ∧ Below w.heap.size w w' := by
  refine (rawText_in ⟨#[38, 108, 116, 59, 60, 47, 116, 105, 116, 108, 101, 115, 62, 60, 47, 116, 105, 116, 108, 101, 62]⟩ ⟨#[116, 105, 116, 108, 101]⟩ 0 1 w (by decide) (by decide) (by decide) (by omega)).mono ?_
  rintro e w' ⟨rfl, hb⟩
  exact ⟨ret_si (congrArg mk rk2T) (congrArg (fun n : Nat => ((0 + n : Nat) : Int)) rk2N), hb⟩

theorem rk3 (w : World) : Calls Try.prog 6 #[.string ⟨#[60, 33, 45, 45, 60, 115, 99, 114, 105, 112, 116, 62, 60, 47, 115, 99, 114, 105, 112, 116, 62, 45, 45, 62, 60, 47, 115, 99, 114, 105, 112, 116, 62]⟩, .int .i64 0, .string ⟨#[115, 99, 114, 105, 112, 116]⟩, .int .u8 3] w fun e w' => e = .returned (.tuple #[.string (mk (rawT 3 (endOf [115, 99, 114, 105, 112, 116]) [60, 33, 45, 45, 60, 115, 99, 114, 105, 112, 116, 62, 60, 47, 115, 99, 114, 105, 112, 116, 62, 45, 45, 62, 60, 47, 115, 99, 114, 105, 112, 116, 62])), .int .i64 24]) ∧ Below w.heap.size w w' := by
  refine (rawText_in ⟨#[60, 33, 45, 45, 60, 115, 99, 114, 105, 112, 116, 62, 60, 47, 115, 99, 114, 105, 112, 116, 62, 45, 45, 62, 60, 47, 115, 99, 114, 105, 112, 116, 62]⟩ ⟨#[115, 99, 114, 105, 112, 116]⟩ 0 3 w (by decide) (by decide) (by decide) (by omega)).mono ?_
  rintro e w' ⟨rfl, hb⟩
  exact ⟨ret_si rfl (congrArg (fun n : Nat => ((0 + n : Nat) : Int)) rk3N), hb⟩
end Tym
