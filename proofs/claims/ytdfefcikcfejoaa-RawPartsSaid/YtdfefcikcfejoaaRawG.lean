/- The walk of the reference's Text in the modes 1 and 2; both Texts for any input. -/
import Derived.Test.YtdfefcikcfejoaaRawF
set_option linter.unusedSimpArgs false
set_option linter.unusedVariables false
open Go Go.RowKit Go.Proofs
namespace Tym
set_option maxRecDepth 100000
attribute [local irreducible] scrL follows begins wordIn closedIn lower isSpace scr plainAt dec

theorem refText_12 (s name : ByteArray) (k m : Nat) (w : World) (hs : s.size ≤ 3000) (hn : name.size ≤ 3000) (hk : k ≤ s.size) (hm : m = 1 ∨ m = 2) :
    Calls Try.prog 7 #[.string s, .int .i64 k, .string name, .int .u8 m] w fun e w' => e = .returned (.tuple #[.string (mk (rawT m (endOf (bs name)) ((bs s).drop k))), .int .i64 ((k + rawN m (endOf (bs name)) ((bs s).drop k) : Nat) : Int)]) ∧ Below w.heap.size w w' := by
  have HE0 : Hid (∀ j, j ≤ s.size → ∀ w, Calls Try.prog 15 #[.string s, .int .i64 j, .string name] w fun e w' => e = .returned (.bool (follows ((bs s).drop j) (endOf (bs name)))) ∧ Below w.heap.size w w') := fun j hj w => ends_any s name j w (by omega) (by omega) hj
  have e1 : Hid (rawN m (endOf (bs name)) ((bs s).drop k) = plainAt (endOf (bs name)) ((bs s).drop k)) := by show _ = _; unfold rawN; rw [if_pos hm]
  have e2 : Hid (rawT m (endOf (bs name)) ((bs s).drop k) = if m = 1 then dec false (((bs s).drop k).take (plainAt (endOf (bs name)) ((bs s).drop k))) else ((bs s).drop k).take (plainAt (endOf (bs name)) ((bs s).drop k))) := by show _ = _; unfold rawT; rw [e1.out]
  have hle := plainAt_le (endOf (bs name)) ((bs s).drop k)
  rw [List.length_drop, ← size_bs] at hle
  generalize endOf (bs name) = E at *
  obtain ⟨t, ht⟩ : ∃ t, t = plainAt E ((bs s).drop k) := ⟨_, rfl⟩
  rw [← ht] at e1 e2 hle
  have HT := Lib.hid ht
  clear ht
  have HD : Hid (∀ w, Calls Try.prog 16 #[.string (s.extract k (k + t)), .bool false] w fun e w' => e = .returned (.string (mk (dec false (((bs s).drop k).take t)))) ∧ Below w.heap.size w w') := fun w => by
    have := decodeR_any (s.extract k (k + t)) false w (by rw [ByteArray.size_extract]; omega)
    rwa [bs_extract, Nat.add_sub_cancel_left] at this
  have hd0 : decide ((k : Int) < 0) = false := decide_eq_false (by omega)
  have hd1 : decide (s.size < k) = false := decide_eq_false (by omega)
  have hd2 : decide ((s.size : Int) < (k : Int)) = false := decide_eq_false (by omega)
  rcases hm with rfl | rfl
  all_goals
    try rw [show ((2 : Nat) : Int) = (2 : Int) from rfl]
    go_enter Try.func7, Try.ntmps7
    go_wp2_with fail
    go_loopw [10] (fun v wr => ∃ j : Nat, k ≤ j ∧ j ≤ s.size ∧ v = .int .i64 j ∧ Hid (j + plainAt E ((bs s).drop j) = k + t) ∧ Below w.heap.size w wr) (fun v _ => s.size - (intOf v).toNat)
    case atStart => exact ⟨k, Nat.le_refl _, hk, rfl, by rw [HT.out]; rfl, Below.refl _ _⟩
    case round =>
      obtain ⟨j, hkj, hj, rfl, HN, hbel⟩ := hrel
      by_cases hlt : j < s.size
      · have hE : Hid (∀ w, Calls Try.prog 15 #[.string s, .int .i64 j, .string name] w fun e w' => e = .returned (.bool (follows ((bs s).drop j) E)) ∧ Below w.heap.size w w') := HE0.out j hj
        cases hf : follows ((bs s).drop j) E
        · have HX : Hid (j + 1 + plainAt E ((bs s).drop (j + 1)) = k + t) := by
            have := HN.out
            rw [plainAt_go _ _ (by rw [List.length_drop, ← size_bs]; omega) hf, List.drop_drop] at this
            show _ = _
            omega
          rw [hf] at hE
          clear HN hf
          go_wp2_with fail
          refine (hE.out _).mono ?_
          rintro x w1 ⟨rfl, b1⟩
          go_wp2_with fail
          go_roundw
          case rel => exact ⟨j + 1, by omega, by omega, by go_num, HX, below_then hbel b1⟩
          case measure => simp [intOf]; omega
        · have hjt : j = k + t := by
            have := HN.out
            rw [plainAt_stop _ _ hf] at this
            omega
          rw [hf] at hE
          clear HN hf
          subst hjt
          go_wp2_with fail
          refine (hE.out _).mono ?_
          rintro x w1 ⟨rfl, b1⟩
          go_wp2_with (go_at_call 16; (with_reducible refine (HD.out _).mono ?_); rintro x w' ⟨rfl, hb⟩; have b1 := below_then b1 hb; clear hb)
          go_ret2
          exact ⟨by rw [e1.out, e2.out]; first | exact ret_si rfl (by omega) | exact ret_si (ext_take _ _ _).symm (by omega), below_then hbel b1⟩
      · have hjt : j = k + t := by
          have := HN.out
          rw [show (bs s).drop j = [] from List.drop_eq_nil_of_le (by rw [← size_bs]; omega), plainAt_nil] at this
          omega
        clear HN HE0
        subst hjt
        go_wp2_with (go_at_call 16; (with_reducible refine (HD.out _).mono ?_); rintro x w' ⟨rfl, hb⟩; have hbel := below_then hbel hb; clear hb)
        go_ret2
        exact ⟨by rw [e1.out, e2.out]; first | exact ret_si rfl (by omega) | exact ret_si (ext_take _ _ _).symm (by omega), hbel⟩
end Tym
