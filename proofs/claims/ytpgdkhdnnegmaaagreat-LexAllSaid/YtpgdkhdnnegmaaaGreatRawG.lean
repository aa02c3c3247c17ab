/- The walks of raw.Text and of the reference's Text. The walk of the reference's Text; both where there is nothing to read. The walk of the reference's Text in the modes 1 and 2; both Texts for any input. -/
import Derived.Test.YtpgdkhdnnegmaaaGreatRawD

namespace Tym
set_option linter.unusedSimpArgs false
set_option linter.unusedVariables false
open Go Go.RowKit Go.Proofs
set_option maxRecDepth 100000

def rawN (m : Nat) (E r : Bs) : Nat := if m = 1 ∨ m = 2 then plainAt E r else if m = 3 then scrL E 0 0 r else r.length
def rawT (m : Nat) (E r : Bs) : Bs := if m = 1 then dec false (r.take (rawN m E r)) else r.take (rawN m E r)
theorem rawN_le (m : Nat) (E r : Bs) : rawN m E r ≤ r.length := by
  unfold rawN
  split
  · exact plainAt_le _ _
  · split
    · exact scrL_le _ _ _ _
    · exact Nat.le_refl _

attribute [local irreducible] scrL follows begins wordIn closedIn lower isSpace scr plainAt dec

theorem ret_si {a b : ByteArray} {x y : Int} (h : a = b) (h' : x = y) : Ending.returned (.tuple #[.string a, .int .i64 x]) = .returned (.tuple #[.string b, .int .i64 y]) := by rw [h, h']

theorem rawText_in (s name : ByteArray) (k m : Nat) (w : World) (hs : s.size ≤ 3000) (hn : name.size ≤ 3000) (hk : k ≤ s.size) (hm : m = 1 ∨ m = 2 ∨ m = 3 ∨ m = 4) :
    Calls Tryz.prog 12 #[.string s, .int .i64 k, .string name, .int .u8 m] w fun e w' => e = .returned (.tuple #[.string (mk (rawT m (endOf (bs name)) ((bs s).drop k))), .int .i64 ((k + rawN m (endOf (bs name)) ((bs s).drop k) : Nat) : Int)]) ∧ Below w.heap.size w w' := by
  have HL : Hid (∀ w, Calls Tryz.prog 29 #[.string name] w fun e w' => e = .returned (.string (mk (lower (bs name)))) ∧ Below w.heap.size w w') := fun w => lower_any name w (by omega)
  have hbs : bs (⟨#[60, 47]⟩ ++ mk (lower (bs name))) = endOf (bs name) := by rw [bs_append]; rfl
  have hxs : (s.extract k s.size).size = s.size - k := by rw [ByteArray.size_extract]; omega
  have HP : Hid (∀ w, Calls Tryz.prog 30 #[.string (s.extract k s.size), .string (⟨#[60, 47]⟩ ++ mk (lower (bs name)))] w fun x w' => x = .returned (.int .i64 (plainAt (endOf (bs name)) ((bs s).drop k))) ∧ Below w.heap.size w w') := fun w => by
    have := plainly_any (s.extract k s.size) _ _ hbs w (by omega)
    rwa [hbs, bs_from] at this
  have HS : Hid (∀ w, Calls Tryz.prog 31 #[.string (s.extract k s.size), .string (⟨#[60, 47]⟩ ++ mk (lower (bs name)))] w fun x w' => x = .returned (.int .i64 (scrL (endOf (bs name)) 0 0 ((bs s).drop k))) ∧ Below w.heap.size w w') := fun w => by
    have := script_any (s.extract k s.size) (⟨#[60, 47]⟩ ++ mk (lower (bs name))) w (by omega)
    rwa [hbs, bs_from] at this
  have hle := rawN_le m (endOf (bs name)) ((bs s).drop k)
  have hr : ((bs s).drop k).length = s.size - k := by rw [List.length_drop, ← size_bs]
  have hT : ∀ n, mk (((bs s).drop k).take n) = (s.extract k s.size).extract 0 n := fun n => bs_inj (by rw [bs_mk, bs_to, bs_from])
  have HD : Hid (∀ n, n ≤ s.size → ∀ w, Calls Tryz.prog 17 #[.string ((s.extract k s.size).extract 0 n), .bool false] w fun e w' => e = .returned (.string (mk (dec false (((bs s).drop k).take n)))) ∧ Below w.heap.size w w') := fun n _ w => by
    have := decode_any ((s.extract k s.size).extract 0 n) false w (by rw [ByteArray.size_extract]; omega)
    rwa [bs_to, bs_from] at this
  have hnm : (mk (lower (bs name))).size ≤ 3000 := by rw [size_mk, lower_len, ← size_bs]; exact hn
  rw [hr] at hle
  clear hbs
  generalize endOf (bs name) = E at *
  generalize mk (lower (bs name)) = nm at *
  rcases hm with rfl | rfl | rfl | rfl
  · unfold rawN at hle
    rw [if_pos (.inl rfl)] at hle
    have e1 : Hid (rawN 1 E ((bs s).drop k) = plainAt E ((bs s).drop k)) := by show _ = _; unfold rawN; rw [if_pos (.inl rfl)]
    have e2 : Hid (rawT 1 E ((bs s).drop k) = dec false (((bs s).drop k).take (plainAt E ((bs s).drop k)))) := by show _ = _; unfold rawT; rw [if_pos rfl, e1.out]
    have HTT := Lib.hid hT
    clear hT hr HS
    generalize plainAt E ((bs s).drop k) = n at *
    have HD2 := Lib.hid (HD.out n (by omega))
    clear HD
    go_enter Tryz.func12, Tryz.ntmps12
    go_wp2_with fail
    refine (HL.out _).mono ?_
    rintro x w1 ⟨rfl, b1⟩
    go_wp2_with fail
    refine (HP.out _).mono ?_
    rintro x w2 ⟨rfl, b2⟩
    go_wp2_with fail
    refine (HD2.out _).mono ?_
    rintro x w3 ⟨rfl, b3⟩
    go_wp2_with fail
    go_ret2
    exact ⟨by rw [e1.out, e2.out]; exact ret_si rfl (by omega), below_then (below_then b1 b2) b3⟩
  · unfold rawN at hle
    rw [if_pos (.inr rfl)] at hle
    have e1 : Hid (rawN 2 E ((bs s).drop k) = plainAt E ((bs s).drop k)) := by show _ = _; unfold rawN; rw [if_pos (.inr rfl)]
    have e2 : Hid (mk (rawT 2 E ((bs s).drop k)) = (s.extract k s.size).extract 0 (plainAt E ((bs s).drop k))) := by show _ = _; unfold rawT; rw [if_neg (by omega), e1.out]; exact hT _
    clear hT HD
    clear hr
    generalize plainAt E ((bs s).drop k) = n at *
    go_enter Tryz.func12, Tryz.ntmps12
    go_wp2_with fail
    refine (HL.out _).mono ?_
    rintro x w1 ⟨rfl, b1⟩
    go_wp2_with fail
    refine (HP.out _).mono ?_
    rintro x w2 ⟨rfl, b2⟩
    go_wp2_with fail
    go_ret2
    exact ⟨by rw [e1.out, e2.out]; exact ret_si rfl (by omega), below_then b1 b2⟩
  · unfold rawN at hle
    rw [if_neg (by omega), if_pos rfl] at hle
    have e1 : Hid (rawN 3 E ((bs s).drop k) = scrL E 0 0 ((bs s).drop k)) := by show _ = _; unfold rawN; rw [if_neg (by omega), if_pos rfl]
    have e2 : Hid (mk (rawT 3 E ((bs s).drop k)) = (s.extract k s.size).extract 0 (scrL E 0 0 ((bs s).drop k))) := by show _ = _; unfold rawT; rw [if_neg (by omega), e1.out]; exact hT _
    clear hT HD
    clear hr
    generalize scrL E 0 0 ((bs s).drop k) = n at *
    go_enter Tryz.func12, Tryz.ntmps12
    go_wp2_with fail
    refine (HL.out _).mono ?_
    rintro x w1 ⟨rfl, b1⟩
    go_wp2_with fail
    refine (HS.out _).mono ?_
    rintro x w2 ⟨rfl, b2⟩
    go_wp2_with fail
    go_ret2
    exact ⟨by rw [e1.out, e2.out]; exact ret_si rfl (by omega), below_then b1 b2⟩
  · unfold rawN at hle
    rw [if_neg (by omega), if_neg (by omega)] at hle
    have e1 : Hid (rawN 4 E ((bs s).drop k) = ((bs s).drop k).length) := by show _ = _; unfold rawN; rw [if_neg (by omega), if_neg (by omega)]
    have e2 : Hid (mk (rawT 4 E ((bs s).drop k)) = (s.extract k s.size).extract 0 (((bs s).drop k).length)) := by show _ = _; unfold rawT; rw [if_neg (by omega), e1.out]; exact hT _
    clear hT HD
    rw [hr] at e1 e2 hle
    clear hr
    go_enter Tryz.func12, Tryz.ntmps12
    go_wp2_with fail
    refine (HL.out _).mono ?_
    rintro x w1 ⟨rfl, b1⟩
    go_wp2_with fail
    go_ret2
    exact ⟨by rw [e1.out, e2.out]; exact ret_si rfl (by omega), b1⟩
end Tym

namespace Tym
set_option linter.unusedSimpArgs false
set_option linter.unusedVariables false
open Go Go.RowKit Go.Proofs
set_option maxRecDepth 100000
attribute [local irreducible] scrL follows begins wordIn closedIn lower isSpace scr plainAt dec

theorem rawText_out (s name : ByteArray) (i m : Int) (w : World) (h : i < 0 ∨ (¬ i < 0 ∧ (s.size : Int) < i) ∨ (¬ i < 0 ∧ ¬ (s.size : Int) < i ∧ m < 1) ∨ (¬ i < 0 ∧ ¬ (s.size : Int) < i ∧ ¬ m < 1 ∧ 4 < m)) :
    Calls Tryz.prog 12 #[.string s, .int .i64 i, .string name, .int .u8 m] w fun e w' => e = .returned (.tuple #[.string ⟨#[]⟩, .int .i64 i]) ∧ Below w.heap.size w w' := by
  rcases h with h1 | ⟨h1, h2⟩ | ⟨h1, h2, h3⟩ | ⟨h1, h2, h3, h4⟩
  all_goals
    go_enter Tryz.func12, Tryz.ntmps12
    go_wp2
    go_ret2
    exact ⟨rfl, Below.refl _ _⟩

theorem refText_out (s name : ByteArray) (i m : Int) (w : World) (h : i < 0 ∨ (¬ i < 0 ∧ (s.size : Int) < i) ∨ (¬ i < 0 ∧ ¬ (s.size : Int) < i ∧ m < 1) ∨ (¬ i < 0 ∧ ¬ (s.size : Int) < i ∧ ¬ m < 1 ∧ 4 < m)) :
    Calls Tryz.prog 22 #[.string s, .int .i64 i, .string name, .int .u8 m] w fun e w' => e = .returned (.tuple #[.string ⟨#[]⟩, .int .i64 i]) ∧ Below w.heap.size w w' := by
  rcases h with h1 | ⟨h1, h2⟩ | ⟨h1, h2, h3⟩ | ⟨h1, h2, h3, h4⟩
  all_goals
    go_enter Tryz.func22, Tryz.ntmps22
    go_wp2
    go_ret2
    exact ⟨rfl, Below.refl _ _⟩

theorem ext_take (s : ByteArray) (k n : Nat) : mk (((bs s).drop k).take n) = s.extract k (k + n) := bs_inj (by rw [bs_mk, bs_extract, Nat.add_sub_cancel_left])

theorem refText_34 (s name : ByteArray) (k m : Nat) (w : World) (hs : s.size ≤ 3000) (hn : name.size ≤ 3000) (hk : k ≤ s.size) (hm : m = 3 ∨ m = 4) :
    Calls Tryz.prog 22 #[.string s, .int .i64 k, .string name, .int .u8 m] w fun e w' => e = .returned (.tuple #[.string (mk (rawT m (endOf (bs name)) ((bs s).drop k))), .int .i64 ((k + rawN m (endOf (bs name)) ((bs s).drop k) : Nat) : Int)]) ∧ Below w.heap.size w w' := by
  have hr : ((bs s).drop k).length = s.size - k := by rw [List.length_drop, ← size_bs]
  rcases hm with rfl | rfl
  · have HS : Hid (∀ w, Calls Tryz.prog 51 #[.string s, .int .i64 k, .string name] w fun e w' => e = .returned (.int .i64 ((k + scrL (endOf (bs name)) 0 0 ((bs s).drop k) : Nat) : Int)) ∧ Below w.heap.size w w') := fun w => scriptR_any s name k w (by omega) (by omega) hk
    have hle := scrL_le (endOf (bs name)) 0 0 ((bs s).drop k)
    rw [hr] at hle
    have e1 : Hid (rawN 3 (endOf (bs name)) ((bs s).drop k) = scrL (endOf (bs name)) 0 0 ((bs s).drop k)) := by show _ = _; unfold rawN; rw [if_neg (by omega), if_pos rfl]
    have e2 : Hid (mk (rawT 3 (endOf (bs name)) ((bs s).drop k)) = s.extract k (k + scrL (endOf (bs name)) 0 0 ((bs s).drop k))) := by show _ = _; unfold rawT; rw [if_neg (by omega), e1.out]; exact ext_take _ _ _
    clear hr
    generalize scrL (endOf (bs name)) 0 0 ((bs s).drop k) = n at *
    go_enter Tryz.func22, Tryz.ntmps22
    go_wp2_with fail
    refine (HS.out _).mono ?_
    rintro x w1 ⟨rfl, b1⟩
    go_wp2_with fail
    go_ret2
    exact ⟨by rw [e1.out, e2.out]; exact ret_si rfl (by omega), b1⟩
  · have e1 : Hid (rawN 4 (endOf (bs name)) ((bs s).drop k) = s.size - k) := by show _ = _; unfold rawN; rw [if_neg (by omega), if_neg (by omega), hr]
    have e2 : Hid (mk (rawT 4 (endOf (bs name)) ((bs s).drop k)) = s.extract k s.size) := by
      show _ = _; unfold rawT; rw [if_neg (by omega), e1.out, ext_take]; congr 1; omega
    clear hr
    go_enter Tryz.func22, Tryz.ntmps22
    go_wp2_with fail
    go_ret2
    exact ⟨by rw [e1.out, e2.out]; exact ret_si rfl (by omega), Below.refl _ _⟩
end Tym

namespace Tym
set_option linter.unusedSimpArgs false
set_option linter.unusedVariables false
open Go Go.RowKit Go.Proofs
set_option maxRecDepth 100000
attribute [local irreducible] scrL follows begins wordIn closedIn lower isSpace scr plainAt dec

theorem refText_12 (s name : ByteArray) (k m : Nat) (w : World) (hs : s.size ≤ 3000) (hn : name.size ≤ 3000) (hk : k ≤ s.size) (hm : m = 1 ∨ m = 2) :
    Calls Tryz.prog 22 #[.string s, .int .i64 k, .string name, .int .u8 m] w fun e w' => e = .returned (.tuple #[.string (mk (rawT m (endOf (bs name)) ((bs s).drop k))), .int .i64 ((k + rawN m (endOf (bs name)) ((bs s).drop k) : Nat) : Int)]) ∧ Below w.heap.size w w' := by
  have HE0 : Hid (∀ j, j ≤ s.size → ∀ w, Calls Tryz.prog 52 #[.string s, .int .i64 j, .string name] w fun e w' => e = .returned (.bool (follows ((bs s).drop j) (endOf (bs name)))) ∧ Below w.heap.size w w') := fun j hj w => ends_any s name j w (by omega) (by omega) hj
  have e1 : Hid (rawN m (endOf (bs name)) ((bs s).drop k) = plainAt (endOf (bs name)) ((bs s).drop k)) := by show _ = _; unfold rawN; rw [if_pos hm]
  have e2 : Hid (rawT m (endOf (bs name)) ((bs s).drop k) = if m = 1 then dec false (((bs s).drop k).take (plainAt (endOf (bs name)) ((bs s).drop k))) else ((bs s).drop k).take (plainAt (endOf (bs name)) ((bs s).drop k))) := by show _ = _; unfold rawT; rw [e1.out]
  have hle := plainAt_le (endOf (bs name)) ((bs s).drop k)
  rw [List.length_drop, ← size_bs] at hle
  generalize endOf (bs name) = E at *
  obtain ⟨t, ht⟩ : ∃ t, t = plainAt E ((bs s).drop k) := ⟨_, rfl⟩
  rw [← ht] at e1 e2 hle
  have HT := Lib.hid ht
  clear ht
  have HD : Hid (∀ w, Calls Tryz.prog 28 #[.string (s.extract k (k + t)), .bool false] w fun e w' => e = .returned (.string (mk (dec false (((bs s).drop k).take t)))) ∧ Below w.heap.size w w') := fun w => by
    have := decodeR_any (s.extract k (k + t)) false w (by rw [ByteArray.size_extract]; omega)
    rwa [bs_extract, Nat.add_sub_cancel_left] at this
  have hd0 : decide ((k : Int) < 0) = false := decide_eq_false (by omega)
  have hd1 : decide (s.size < k) = false := decide_eq_false (by omega)
  have hd2 : decide ((s.size : Int) < (k : Int)) = false := decide_eq_false (by omega)
  rcases hm with rfl | rfl
  all_goals
    try rw [show ((2 : Nat) : Int) = (2 : Int) from rfl]
    go_enter Tryz.func22, Tryz.ntmps22
    go_wp2_with fail
    go_loopw [10] (fun v wr => ∃ j : Nat, k ≤ j ∧ j ≤ s.size ∧ v = .int .i64 j ∧ Hid (j + plainAt E ((bs s).drop j) = k + t) ∧ Below w.heap.size w wr) (fun v _ => s.size - (intOf v).toNat)
    case atStart => exact ⟨k, Nat.le_refl _, hk, rfl, by rw [HT.out]; rfl, Below.refl _ _⟩
    case round =>
      obtain ⟨j, hkj, hj, rfl, HN, hbel⟩ := hrel
      by_cases hlt : j < s.size
      · have hE : Hid (∀ w, Calls Tryz.prog 52 #[.string s, .int .i64 j, .string name] w fun e w' => e = .returned (.bool (follows ((bs s).drop j) E)) ∧ Below w.heap.size w w') := HE0.out j hj
        cases hf : follows ((bs s).drop j) E
        · have HX : Hid (j + 1 + plainAt E ((bs s).drop (j + 1)) = k + t) := by
            have := HN.out
            rw [plainAt_go _ _ (by rw [List.length_drop, ← size_bs]; omega) hf, List.drop_drop] at this
            show _ = _
            omega
          rw [hf] at hE
          clear HN hf
          go_wp2_with fail
          refine (hE.out _).mono ?_
          rintro x w1 ⟨rfl, b1⟩
          go_wp2_with fail
          go_roundw
          case rel => exact ⟨j + 1, by omega, by omega, by go_num, HX, below_then hbel b1⟩
          case measure => simp [intOf]; omega
        · have hjt : j = k + t := by
            have := HN.out
            rw [plainAt_stop _ _ hf] at this
            omega
          rw [hf] at hE
          clear HN hf
          subst hjt
          go_wp2_with fail
          refine (hE.out _).mono ?_
          rintro x w1 ⟨rfl, b1⟩
          go_wp2_with (go_at_call 28; (with_reducible refine (HD.out _).mono ?_); rintro x w' ⟨rfl, hb⟩; have b1 := below_then b1 hb; clear hb)
          go_ret2
          exact ⟨by rw [e1.out, e2.out]; first | exact ret_si rfl (by omega) | exact ret_si (ext_take _ _ _).symm (by omega), below_then hbel b1⟩
      · have hjt : j = k + t := by
          have := HN.out
          rw [show (bs s).drop j = [] from List.drop_eq_nil_of_le (by rw [← size_bs]; omega), plainAt_nil] at this
          omega
        clear HN HE0
        subst hjt
        go_wp2_with (go_at_call 28; (with_reducible refine (HD.out _).mono ?_); rintro x w' ⟨rfl, hb⟩; have hbel := below_then hbel hb; clear hb)
        go_ret2
        exact ⟨by rw [e1.out, e2.out]; first | exact ret_si rfl (by omega) | exact ret_si (ext_take _ _ _).symm (by omega), hbel⟩
end Tym
