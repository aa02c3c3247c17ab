/- The law functions of layer 3: what the example says. -/
import Derived.Test.YtbgcedhbbfkmcaaEntM
set_option linter.unusedSimpArgs false
set_option linter.unusedVariables false
open Go Go.RowKit Go.Proofs
namespace Tym

theorem known_d1 : dec false [38, 110, 111, 116, 105, 116, 59, 32, 38, 110, 111, 116, 105, 110, 59, 32, 38, 35, 120, 52, 49, 32, 38, 35, 54, 53, 59, 38, 97, 109, 112] = [194, 172, 105, 116, 59, 32, 226, 136, 137, 32, 65, 32, 65, 38] := by decide +kernel
theorem known_d2 : dec true [97, 38, 99, 111, 112, 121, 61, 49, 38, 99, 111, 112, 121, 59, 38, 108, 116] = [97, 38, 99, 111, 112, 121, 61, 49, 194, 169, 60] := by decide +kernel
theorem known_m1 : mark [38, 99, 111, 112, 121, 59, 120] = ([194, 169], 6) := by decide +kernel
theorem known_m2 : mark [38, 99, 111, 112, 121] = ([], 0) := by decide +kernel
theorem known_n : number 128 = 8364 := by decide +kernel

attribute [local irreducible] dec mark number

theorem kd1 (w : World) : Calls Try.prog 15 #[.string ⟨#[38, 110, 111, 116, 105, 116, 59, 32, 38, 110, 111, 116, 105, 110, 59, 32, 38, 35, 120, 52, 49, 32, 38, 35, 54, 53, 59, 38, 97, 109, 112]⟩, .bool false] w fun e w' => e = .returned (.string ⟨#[194, 172, 105, 116, 59, 32, 226, 136, 137, 32, 65, 32, 65, 38]⟩) ∧ Below w.heap.size w w' := by
  refine (decode_any _ false w (by decide)).mono ?_
  rintro e w' ⟨rfl, hb⟩
  exact ⟨congrArg (fun x => Ending.returned (.string (mk x))) known_d1, hb⟩
theorem kd2 (w : World) : Calls Try.prog 15 #[.string ⟨#[97, 38, 99, 111, 112, 121, 61, 49, 38, 99, 111, 112, 121, 59, 38, 108, 116]⟩, .bool true] w fun e w' => e = .returned (.string ⟨#[97, 38, 99, 111, 112, 121, 61, 49, 194, 169, 60]⟩) ∧ Below w.heap.size w w' := by
  refine (decode_any _ true w (by decide)).mono ?_
  rintro e w' ⟨rfl, hb⟩
  exact ⟨congrArg (fun x => Ending.returned (.string (mk x))) known_d2, hb⟩
theorem mark_any (s : ByteArray) (w : World) (hs : s.size ≤ 1000000000) : Calls Try.prog 17 #[.string s] w (MarkOk s w) := by
  generalize hq : numeric 16777216 (bs s) = q
  obtain ⟨n, d, e⟩ := q
  rcases Nat.eq_zero_or_pos e with rfl | he
  · exact mark_name s w hs n d hq
  · exact mark_num s w hs n d e hq he
theorem km1 (w : World) : Calls Try.prog 17 #[.string ⟨#[38, 99, 111, 112, 121, 59, 120]⟩] w fun e w' => e = .returned (.tuple #[.string ⟨#[194, 169]⟩, .int .i64 6]) ∧ Below w.heap.size w w' := by
  refine (mark_any _ w (by decide)).mono ?_
  rintro e w' ⟨rfl, hb⟩
  exact ⟨congrArg (fun x : Bs × Nat => Ending.returned (.tuple #[.string (mk x.1), .int .i64 x.2])) known_m1, hb⟩
theorem km2 (w : World) : Calls Try.prog 17 #[.string ⟨#[38, 99, 111, 112, 121]⟩] w fun e w' => e = .returned (.tuple #[.string ⟨#[]⟩, .int .i64 0]) ∧ Below w.heap.size w w' := by
  refine (mark_any _ w (by decide)).mono ?_
  rintro e w' ⟨rfl, hb⟩
  exact ⟨congrArg (fun x : Bs × Nat => Ending.returned (.tuple #[.string (mk x.1), .int .i64 x.2])) known_m2, hb⟩
theorem kn (w : World) : Calls Try.prog 13 #[.int .i64 128] w fun e w' => e = .returned (.int .i32 8364) ∧ Below w.heap.size w w' := by
  refine (number_any _ w).mono ?_
  rintro e w' ⟨rfl, hb⟩
  exact ⟨congrArg (fun x => Ending.returned (.int .i32 x)) known_n, hb⟩

theorem below_then {a b c : World} (h1 : Below a.heap.size a b) (h2 : Below b.heap.size b c) : Below a.heap.size a c :=
  h1.trans (h2.mono h1.size)

theorem known_any (w : World) : Calls Try.prog 12 #[] w fun e w' => e = .returned (.bool true) ∧ Below w.heap.size w w' := by
  go_enter Try.func12, Try.ntmps12
  go_wp2_with fail
  refine (kd1 _).mono ?_; rintro e w1 ⟨rfl, b1⟩
  go_wp2_with fail
  refine (kd2 _).mono ?_; rintro e w2 ⟨rfl, b2⟩
  go_wp2_with fail
  refine (km1 _).mono ?_; rintro e w3 ⟨rfl, b3⟩
  go_wp2_with fail
  refine (km2 _).mono ?_; rintro e w4 ⟨rfl, b4⟩
  go_wp2_with fail
  refine (kn _).mono ?_; rintro e w5 ⟨rfl, b5⟩
  go_wp2_with fail
  go_ret
  exact ⟨rfl, below_then (below_then (below_then (below_then b1 b2) b3) b4) b5⟩
end Tym
