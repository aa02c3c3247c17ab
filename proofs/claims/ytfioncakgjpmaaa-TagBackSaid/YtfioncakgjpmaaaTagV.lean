/- The law TagBack for a slice of no strings; and for any. -/
import Derived.Test.YtfioncakgjpmaaaTagU
set_option linter.unusedSimpArgs false
set_option linter.unusedVariables false
open Go Go.RowKit Go.Proofs
namespace Tym
set_option maxRecDepth 20000

set_option maxHeartbeats 2000000 in
theorem law_tagback0 (p : Option Addr) (cap : Nat) (closing : Bool) (more : ByteArray) (w : World) (hmore : more.size ≤ maxLen) :
    Calls Try.prog 5 #[.slice p 0 cap, .bool closing, .string more] w fun e w' => e = .returned (.bool true) ∧ Below w.heap.size w w' := by
  unfold maxLen at hmore
  go_enter Try.func5, Try.ntmps5
  go_wp2_with fail
  go_loopw [7, 8] (fun v7 v8 wr => v7 = .int .i64 more.size ∧ v8 = .int .i64 0 ∧ wr = w) (fun _ v8 _ => 0)
  case atStart => exact ⟨rfl, rfl, rfl⟩
  case round =>
    obtain ⟨rfl, rfl, hw⟩ := hrel
    obtain rfl : w = wr := hw.symm
    by_cases hn : more.size ≤ 3000
    · have hnz : ¬ (3000 : Int) < (more.size : Int) := by omega
      clear hmore
      go_wp2_with fail
      refine (tknown _).mono ?_; rintro e w1 ⟨rfl, b1⟩
      go_wp2_with fail
      go_loopw [9, 10] (fun v9 v10 wr => v9 = .string ⟨#[60, 120, 121]⟩ ∧ v10 = .int .i64 0 ∧ Below w.heap.size w wr) (fun _ v10 _ => 0)
      case atStart => exact ⟨rfl, rfl, b1⟩
      case round =>
        obtain ⟨rfl, rfl, hbl⟩ := hrel
        cases closing with
        | true =>
          have HA : Hid (∀ w, Calls Try.prog 8 #[.string ((⟨#[60, 120, 121]⟩ : ByteArray) ++ ⟨#[47]⟩ ++ ⟨#[62]⟩ ++ more), .int .i64 0] w fun e w' => (∃ p cc, e = .returned (.tuple #[.agg #[.int .u8 2, .string ⟨#[120, 121]⟩, .slice p 0 cc, .bool true, .string ⟨#[]⟩], .int .i64 (((⟨#[60, 120, 121]⟩ : ByteArray) ++ ⟨#[47]⟩ ++ ⟨#[62]⟩).size : Nat), .bool true]) ∧ AttsAt w' w.heap.size (.slice p 0 cc) (attsOf 0 [])) ∧ Below w.heap.size w w') := fun w =>
            read_written ((⟨#[60, 120, 121]⟩ : ByteArray) ++ ⟨#[47]⟩ ++ ⟨#[62]⟩ ++ more) [] true (bs more) ((⟨#[60, 120, 121]⟩ : ByteArray) ++ ⟨#[47]⟩ ++ ⟨#[62]⟩).size (by simp only [bs_append]; rfl) (by decide)
              (by simp only [ByteArray.size_append]; show 3 + 1 + 1 + more.size ≤ _; omega) (by rfl) w
          go_wp2_with fail
          refine (HA.out _).mono ?_; rintro e w2 ⟨⟨p2, c2, rfl, ha2⟩, b2⟩
          have hbW := (below_then hbl b2).alloc (below_then hbl b2).size (.cells (tokCells 2 ⟨#[120, 121]⟩ (.slice p2 0 c2) true ⟨#[]⟩) 24)
          clear ha2 b2
          go_wp2_with fail
          go_loopw [14] (fun v14 wx => v14 = .int .i64 0 ∧ Below w.heap.size w wx) (fun v14 _ => 0)
          case atStart => exact ⟨rfl, hbW⟩
          case round =>
            obtain ⟨rfl, hbj⟩ := hrel
            go_wp2_with fail
            go_ret
            exact ⟨rfl, hbj⟩
        | false =>
          have HA : Hid (∀ w, Calls Try.prog 8 #[.string ((⟨#[60, 120, 121]⟩ : ByteArray) ++ ⟨#[62]⟩ ++ more), .int .i64 0] w fun e w' => (∃ p cc, e = .returned (.tuple #[.agg #[.int .u8 2, .string ⟨#[120, 121]⟩, .slice p 0 cc, .bool false, .string ⟨#[]⟩], .int .i64 (((⟨#[60, 120, 121]⟩ : ByteArray) ++ ⟨#[62]⟩).size : Nat), .bool true]) ∧ AttsAt w' w.heap.size (.slice p 0 cc) (attsOf 0 [])) ∧ Below w.heap.size w w') := fun w =>
            read_written ((⟨#[60, 120, 121]⟩ : ByteArray) ++ ⟨#[62]⟩ ++ more) [] false (bs more) ((⟨#[60, 120, 121]⟩ : ByteArray) ++ ⟨#[62]⟩).size (by simp only [bs_append]; rfl) (by decide)
              (by simp only [ByteArray.size_append]; show 3 + 1 + more.size ≤ _; omega) (by rfl) w
          go_wp2_with fail
          refine (HA.out _).mono ?_; rintro e w2 ⟨⟨p2, c2, rfl, ha2⟩, b2⟩
          have hbW := (below_then hbl b2).alloc (below_then hbl b2).size (.cells (tokCells 2 ⟨#[120, 121]⟩ (.slice p2 0 c2) false ⟨#[]⟩) 24)
          clear ha2 b2
          go_wp2_with fail
          go_loopw [14] (fun v14 wx => v14 = .int .i64 0 ∧ Below w.heap.size w wx) (fun v14 _ => 0)
          case atStart => exact ⟨rfl, hbW⟩
          case round =>
            obtain ⟨rfl, hbj⟩ := hrel
            go_wp2_with fail
            go_ret
            exact ⟨rfl, hbj⟩
    · have hnz2 : (3000 : Int) < (more.size : Int) := by omega
      go_wp2_with fail
      refine (tknown _).mono ?_; rintro e w1 ⟨rfl, b1⟩
      go_wp2_with fail
      go_ret
      exact ⟨rfl, b1⟩
end Tym
