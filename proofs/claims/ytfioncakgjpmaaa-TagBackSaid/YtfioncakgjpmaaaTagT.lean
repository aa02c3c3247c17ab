/- The walks of the law's name and quoted. -/
import Derived.Test.YtfioncakgjpmaaaTagR
import Derived.Test.YtfioncakgjpmaaaPlainTagC
set_option linter.unusedSimpArgs false
set_option linter.unusedVariables false
open Go Go.RowKit Go.Proofs
namespace Tym
set_option maxRecDepth 20000

def esc1 (c : UInt8) : Bs := if c = 38 then [38, 97, 109, 112, 59] else if c = 34 then [38, 113, 117, 111, 116, 59] else [c]
theorem escq_step (s : ByteArray) (j : Nat) (hj : j < s.size) : escq ((bs s).take (j + 1)) = escq ((bs s).take j) ++ esc1 (s[j]'hj) := by
  have h : (bs s).take (j + 1) = (bs s).take j ++ [s[j]'hj] := by
    rw [List.take_succ_eq_append_getElem (by rw [← size_bs]; exact hj)]; rfl
  rw [h]; unfold escq
  rw [List.flatMap_append]
  simp [esc1]

theorem bs_one (s : ByteArray) (j : Nat) (hj : j < s.size) : bs (s.extract j (j + 1)) = [s[j]'hj] := by
  rw [bs_extract, drop_bs s j hj, show j + 1 - j = 1 from by omega]; rfl

theorem quoted_any (s : ByteArray) (w : World) (hs : s.size ≤ 3000) : Calls Try.prog 15 #[.string s] w fun e w' => e = .returned (.string (mk (34 :: escq (bs s) ++ [34]))) ∧ Below w.heap.size w w' := by
  go_enter Try.func15, Try.ntmps15
  go_wp2_with fail
  go_loopw [3, 4] (fun v3 v4 wr => ∃ (x : ByteArray) (j : Nat), v3 = .string x ∧ v4 = .int .i64 j ∧ j ≤ s.size ∧ x.size ≤ 6 * j ∧ Hid (bs x = escq ((bs s).take j)) ∧ Below w.heap.size w wr) (fun _ v4 _ => s.size - (intOf v4).toNat)
  case atStart => exact ⟨⟨#[]⟩, 0, rfl, rfl, Nat.zero_le _, by decide, rfl, Below.refl _ _⟩
  case round =>
    obtain ⟨x, j, rfl, rfl, hj, hx, HX, hbl⟩ := hrel
    by_cases hlt : j < s.size
    · have hltz : (j : Int) < (s.size : Int) := by omega
      have HS := Lib.hid (escq_step s j hlt)
      have h38 : (((s[j]'hlt).toNat : Int) == 38) = decide ((s[j]'hlt) = 38) := byte_all (p := fun c => ((c.toNat : Int) == 38) = decide (c = 38)) (by decide +kernel) _
      have h34 : (((s[j]'hlt).toNat : Int) == 34) = decide ((s[j]'hlt) = 34) := byte_all (p := fun c => ((c.toNat : Int) == 34) = decide (c = 34)) (by decide +kernel) _
      have HO := Lib.hid (bs_one s j hlt)
      have hsz1 : (s.extract j (j + 1)).size = 1 := by rw [ByteArray.size_extract]; omega
      by_cases c38 : (s[j]'hlt) = 38
      · rw [decide_eq_true c38] at h38
        have HE : Hid (esc1 (s[j]'hlt) = [38, 97, 109, 112, 59]) := by show _ = _; unfold esc1; rw [if_pos c38]
        clear c38
        go_wp2_with fail
        go_roundw
        case rel => exact ⟨_, j + 1, rfl, by go_num, by omega, by rw [ByteArray.size_append]; show _ + 5 ≤ _; omega, by show _ = _; rw [bs_append, HS.out, HE.out, HX.out]; rfl, hbl⟩
        case measure => simp [intOf]; omega
      · rw [decide_eq_false c38] at h38
        by_cases c34 : (s[j]'hlt) = 34
        · rw [decide_eq_true c34] at h34
          have HE : Hid (esc1 (s[j]'hlt) = [38, 113, 117, 111, 116, 59]) := by show _ = _; unfold esc1; rw [if_neg c38, if_pos c34]
          clear c38 c34
          go_wp2_with fail
          go_roundw
          case rel => exact ⟨_, j + 1, rfl, by go_num, by omega, by rw [ByteArray.size_append]; show _ + 6 ≤ _; omega, by show _ = _; rw [bs_append, HS.out, HE.out, HX.out]; rfl, hbl⟩
          case measure => simp [intOf]; omega
        · rw [decide_eq_false c34] at h34
          have HE : Hid (esc1 (s[j]'hlt) = [s[j]'hlt]) := by show _ = _; unfold esc1; rw [if_neg c38, if_neg c34]
          clear c38 c34
          go_wp2_with fail
          go_roundw
          case rel => exact ⟨_, j + 1, rfl, by go_num, by omega, by rw [ByteArray.size_append, hsz1]; omega, by show _ = _; rw [bs_append, HS.out, HE.out, HX.out, HO.out], hbl⟩
          case measure => simp [intOf]; omega
    · obtain rfl : j = s.size := by omega
      go_wp2_with fail
      go_ret
      refine ⟨ret_str (bs_inj ?_), hbl⟩
      have := HX.out
      rw [show (bs s).take s.size = bs s from by rw [size_bs, List.take_length]] at this
      simp only [bs_append, bs_mk]
      rw [this]
      rfl

theorem name_step (s : ByteArray) (j : Nat) (hj : j < s.size) : ((bs s).take (j + 1)).filter isLower = ((bs s).take j).filter isLower ++ (if isLower (s[j]'hj) then [s[j]'hj] else []) := by
  have h : (bs s).take (j + 1) = (bs s).take j ++ [s[j]'hj] := by
    rw [List.take_succ_eq_append_getElem (by rw [← size_bs]; exact hj)]; rfl
  rw [h, List.filter_append]
  congr 1
  cases hl : isLower (s[j]'hj) <;> simp [hl]

theorem name_walk (s : ByteArray) (i a b q : Nat) (w : World) (hs : s.size ≤ 3000) (hi : i ≤ 60) (ha : a < 26) (hb : b < 26) (hra : (i : Int).tmod 26 = (a : Int)) (hq : (i : Int).tdiv 26 = (q : Int)) (hrb : (q : Int).tmod 26 = (b : Int)) :
    Calls Try.prog 14 #[.string s, .int .i64 i] w fun e w' => e = .returned (.string (mk (UInt8.ofNat (97 + a) :: UInt8.ofNat (97 + b) :: ((bs s).take 20).filter isLower))) ∧ Below w.heap.size w w' := by
  have ha2 : (a : Int) < 26 := by omega
  have hb2 : (b : Int) < 26 := by omega
  have ha0 : 0 ≤ (a : Int) := by omega
  have hb0 : 0 ≤ (b : Int) := by omega
  have hq3 : (q : Int) ≤ 60 := by rw [← hq]; rw [Int.tdiv_eq_ediv_of_nonneg (by omega)]; omega
  have hq0 : 0 ≤ (q : Int) := by omega
  have eA : ((UInt8.ofNat (97 + a)).toNat : Int) = 97 + (a : Int) := by rw [UInt8.toNat_ofNat']; omega
  have eB : ((UInt8.ofNat (97 + b)).toNat : Int) = 97 + (b : Int) := by rw [UInt8.toNat_ofNat']; omega
  have hst : (convert 56 9 (.slice (some ⟨w.heap.size, 0, none⟩) 2 2)).run Try.prog (w.alloc (.cells #[.int .u8 (97 + (a : Int)), .int .u8 (97 + (b : Int))] 5)) = .ok (.string (mk [UInt8.ofNat (97 + a), UInt8.ofNat (97 + b)])) (w.alloc (.cells #[.int .u8 (97 + (a : Int)), .int .u8 (97 + (b : Int))] 5)) := by
    refine string_of [UInt8.ofNat (97 + a), UInt8.ofNat (97 + b)] ⟨w.heap.size, 0, none⟩ 2 _ fun j hj => ?_
    match j, hj with
    | 0, _ => rw [Addr.add_lit, Nat.zero_add]; simp [cellOf, eA]; omega
    | 1, _ => rw [Addr.add_lit, Nat.zero_add]; simp [cellOf, eB]; omega
  have hbl0 := (Below.refl w.heap.size w).alloc (Nat.le_refl _) (.cells #[.int .u8 (97 + (a : Int)), .int .u8 (97 + (b : Int))] 5)
  have hAB : (mk [UInt8.ofNat (97 + a), UInt8.ofNat (97 + b)]).size = 2 := rfl
  have hAB2 := Lib.hid (bs_mk [UInt8.ofNat (97 + a), UInt8.ofNat (97 + b)])
  generalize UInt8.ofNat (97 + a) = A at *
  generalize UInt8.ofNat (97 + b) = Bc at *
  generalize mk [A, Bc] = x0 at *
  clear eA eB
  go_enter Try.func14, Try.ntmps14
  go_wp2_with fail
  go_loopw [5, 6] (fun v5 v6 wr => ∃ (x : ByteArray) (j : Nat), v5 = .string x ∧ v6 = .int .i64 j ∧ j ≤ s.size ∧ j ≤ 20 ∧ x.size ≤ 2 + j ∧ Hid (bs x = A :: Bc :: ((bs s).take j).filter isLower) ∧ Below w.heap.size w wr) (fun _ v6 _ => s.size - (intOf v6).toNat)
  case atStart => exact ⟨x0, 0, rfl, rfl, Nat.zero_le _, by omega, by omega, hAB2, hbl0⟩
  case round =>
    obtain ⟨x, j, rfl, rfl, hj, hj20, hx, HX, hbl⟩ := hrel
    clear hst hbl0
    by_cases hlt : j < s.size
    · have hltz : (j : Int) < (s.size : Int) := by omega
      by_cases hlt20 : j < 20
      · have hlt20z : (j : Int) < 20 := by omega
        have HS := Lib.hid (name_step s j hlt)
        have HO := Lib.hid (bs_one s j hlt)
        have hsz1 : (s.extract j (j + 1)).size = 1 := by rw [ByteArray.size_extract]; omega
        have hlo : isLower (s[j]'hlt) = (decide ((97 : Int) ≤ ((s[j]'hlt).toNat : Int)) && decide (((s[j]'hlt).toNat : Int) ≤ 122)) := byte_all (p := fun c => isLower c = (decide ((97 : Int) ≤ (c.toNat : Int)) && decide ((c.toNat : Int) ≤ 122))) (by decide +kernel) _
        by_cases c97 : (97 : Int) ≤ ((s[j]'hlt).toNat : Int)
        · by_cases c122 : ((s[j]'hlt).toNat : Int) ≤ 122
          · rw [decide_eq_true c97, decide_eq_true c122] at hlo
            have HL := Lib.hid hlo
            clear hlo
            go_wp2_with fail
            go_roundw
            case rel => exact ⟨_, j + 1, rfl, by go_num, by omega, by omega, by rw [ByteArray.size_append, hsz1]; omega, by show _ = _; rw [bs_append, HS.out, HL.out, HX.out, HO.out]; rfl, hbl⟩
            case measure => simp [intOf]; omega
          · rw [decide_eq_true c97, decide_eq_false c122] at hlo
            have HL := Lib.hid hlo
            clear hlo
            go_wp2_with fail
            go_roundw
            case rel => exact ⟨x, j + 1, rfl, by go_num, by omega, by omega, by omega, by show _ = _; rw [HS.out, HL.out, HX.out]; simp, hbl⟩
            case measure => simp [intOf]; omega
        · rw [decide_eq_false c97, Bool.false_and] at hlo
          have HL := Lib.hid hlo
          clear hlo
          go_wp2_with fail
          go_roundw
          case rel => exact ⟨x, j + 1, rfl, by go_num, by omega, by omega, by omega, by show _ = _; rw [HS.out, HL.out, HX.out]; simp, hbl⟩
          case measure => simp [intOf]; omega
      · obtain rfl : j = 20 := by omega
        go_wp2_with fail
        go_ret
        exact ⟨ret_str (bs_inj (by rw [bs_mk]; exact HX.out)), hbl⟩
    · obtain rfl : j = s.size := by omega
      have HX2 := HX.out
      rw [show (bs s).take s.size = (bs s).take 20 from by rw [List.take_of_length_le (by rw [← size_bs]; exact Nat.le_refl _), List.take_of_length_le (by rw [← size_bs]; omega)]] at HX2
      have HX3 := Lib.hid HX2
      clear HX2
      go_wp2_with fail
      go_ret
      exact ⟨ret_str (bs_inj (by rw [bs_mk]; exact HX3.out)), hbl⟩

theorem name_any (s : ByteArray) (i : Nat) (w : World) (hs : s.size ≤ 3000) (hi : i ≤ 60) : Calls Try.prog 14 #[.string s, .int .i64 i] w fun e w' => e = .returned (.string (mk (nameOf (bs s) i))) ∧ Below w.heap.size w w' :=
  name_walk s i (i % 26) (i / 26 % 26) (i / 26) w hs hi (by omega) (by omega) (by rw [Int.tmod_eq_emod_of_nonneg (by omega)]; omega) (by rw [Int.tdiv_eq_ediv_of_nonneg (by omega)]; omega) (by rw [Int.tmod_eq_emod_of_nonneg (by omega)]; omega)
end Tym
