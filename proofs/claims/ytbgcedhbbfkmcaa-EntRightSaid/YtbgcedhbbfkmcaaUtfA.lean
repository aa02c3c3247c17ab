/- The walks of the document's layer 1 (utf). -/
import Derived.Test.YtbgcedhbbfkmcaaBytes
import Derived.Test.YtbgcedhbbfkmcaaPlainUtf
import Derived.Deep.RegionWith
set_option linter.unusedSimpArgs false
set_option linter.unusedVariables false
open Go Go.RowKit Go.Proofs
namespace Tym
set_option maxRecDepth 20000

theorem many_any (c : UInt8) (w : World) : Calls Try.prog 52 #[.int .u8 (c.toNat : Int)] w fun e w' => e = .returned (.int .i64 (many c)) ∧ w = w' := by
  go_enter Try.func52, Try.ntmps52
  go_wp2
  all_goals (go_ret; refine ⟨ret_int ?_, rfl⟩; unfold many; repeat' split)
  all_goals omega

theorem second_any (a c : UInt8) (w : World) : Calls Try.prog 53 #[.int .u8 (a.toNat : Int), .int .u8 (c.toNat : Int)] w fun e w' => e = .returned (.bool (second a c)) ∧ w = w' := by
  go_enter Try.func53, Try.ntmps53
  go_wp2
  all_goals (go_ret; refine ⟨ret_bool ?_, rfl⟩; unfold second; repeat' split)
  all_goals (first | (rw [Bool.eq_iff_iff]; simp only [Bool.or_eq_true, Bool.and_eq_true, decide_eq_true_eq, Bool.false_eq_true, true_iff, false_iff]; omega) | (exfalso; simp_all; omega) | (exfalso; simp_all))
end Tym
