/- The law LexWritten. -/
import Derived.Test.YtpgdkhdnnegmaaaLexM
set_option linter.unusedSimpArgs false
set_option linter.unusedVariables false
open Go Go.RowKit Go.Proofs
namespace Tym
set_option maxRecDepth 100000

def esc2b (c : UInt8) : Bs := if c = 38 then [38, 97, 109, 112, 59] else if c = 60 then [38, 108, 116, 59] else [c]
def esc2 (s : Bs) : Bs := s.flatMap esc2b
theorem taken_lt (attr : Bool) (t : Bs) : taken (38 :: 108 :: 116 :: 59 :: t) attr = ([60], 4) := by
  have hm : (⟨[108, 116], [60], true⟩ : Ent) ∈ table := by decide +kernel
  have hn : named (108 :: 116 :: 59 :: t) = ([60], 3) := by
    refine named_of _ ⟨[108, 116], [60], true⟩ 3 hm ?_ fun e' he' m h => ?_
    · unfold cand
      rw [if_pos (by simp [begins])]; rfl
    · exact cand_semi [108, 116] t e' he' m h
  unfold taken
  have h0 : numeric 16777216 (38 :: 108 :: 116 :: 59 :: t) = (0, 0, 0) := by
    unfold numeric; rw [if_neg (by simp [begins])]
  simp only [h0, List.drop_succ_cons, List.drop_zero, hn]
  simp [literal]
theorem dec_esc2 (attr : Bool) (s : Bs) : dec attr (esc2 s) = s := by
  induction s with
  | nil => rfl
  | cons c s ih =>
    unfold esc2 at *
    rw [List.flatMap_cons]
    unfold esc2b at *
    by_cases h : c = 38
    · rw [if_pos h, h]
      show dec attr (38 :: 97 :: 109 :: 112 :: 59 :: _) = _
      rw [dec_amp, taken_escaped]
      simp [ih]
    · rw [if_neg h]
      by_cases h2 : c = 60
      · rw [if_pos h2, h2]
        show dec attr (38 :: 108 :: 116 :: 59 :: _) = _
        rw [dec_amp, taken_lt]
        simp [ih]
      · rw [if_neg h2, List.singleton_append, dec_cons _ _ _ h, ih]
theorem esc2_60 (s : Bs) : (60 : UInt8) ∉ esc2 s := by
  unfold esc2
  intro h
  obtain ⟨c, _, hc⟩ := List.mem_flatMap.1 h
  unfold esc2b at hc
  split at hc
  · simp at hc
  · split at hc
    · simp at hc
    · rename_i h1 h2; simp at hc; exact h2 hc.symm
theorem upMark_all (r : Bs) (h : (60 : UInt8) ∉ r) : upMark r = r.length := by
  induction r with
  | nil => rfl
  | cons c t ih =>
    have hm : ¬ markup (c :: t) = true := fun e => by have := markup_60 c t e; exact h (by rw [this]; simp)
    show (if markup (c :: t) = true then 0 else 1 + upMark t) = _
    rw [if_neg hm, ih (fun e => h (by simp [e])), List.length_cons]; omega
theorem allL_plain (r : Bs) (h : (60 : UInt8) ∉ r) (h0 : r ≠ []) : allL r = [tokText (dec false r)] := by
  have hm : markup r = false := by
    cases r with
    | nil => exact absurd rfl h0
    | cons c t =>
      by_cases e : markup (c :: t) = true
      · have := markup_60 c t e; exact absurd (by rw [this]; simp) h
      · simpa using e
  unfold markup at hm
  rw [Bool.or_eq_false_iff] at hm
  have ht : (60 : UInt8) ∉ r.tail := fun e => h (List.mem_of_mem_tail e)
  have hl : 1 + r.tail.length = r.length := by rw [List.length_tail]; have := List.length_pos_iff.2 h0; omega
  have hn : nextD r = (tokText (dec false r), []) := by
    rw [nextD_eq r h0, st_text false r hm.1 hm.2, upMark_all _ ht, hl, List.take_length, List.drop_length]
  have hk : (nextD r).1.kind ≠ 6 := by rw [hn]; exact (by decide : (1 : Nat) ≠ 6)
  rw [allL_more r hk, hn]
  rfl
theorem allL_esc (s : Bs) : allL (esc2 s) = if s = [] then [] else [tokText s] := by
  by_cases h : s = []
  · subst h; rfl
  · rw [if_neg h, allL_plain _ (esc2_60 s) ?_, dec_esc2]
    intro e
    have := dec_esc2 false s
    rw [e] at this
    exact h this.symm
theorem esc2_snoc (s : Bs) (i : Nat) (h : i < s.length) : esc2 (s.take (i + 1)) = esc2 (s.take i) ++ esc2b (s[i]'h) := by
  rw [List.take_succ_eq_append_getElem h]
  unfold esc2
  rw [List.flatMap_append]
  simp
theorem esc2_len (s : Bs) : (esc2 s).length ≤ 5 * s.length := by
  induction s with
  | nil => exact Nat.le_refl _
  | cons c s ih =>
    unfold esc2 at *
    rw [List.flatMap_cons, List.length_append, List.length_cons]
    have : (esc2b c).length ≤ 5 := by
      unfold esc2b; split
      · decide
      · split
        · decide
        · simp
    omega
attribute [local irreducible] allL esc2

set_option maxHeartbeats 2000000 in
theorem law_lexwritten (s : ByteArray) (w : World) (hm : Mx w) : Calls Try.prog 5 #[.string s] w fun e w' => e = .returned (.bool true) ∧ Below w.heap.size w w' := by
  have HM := Lib.hid hm
  clear hm
  by_cases h1 : (2000 : Int) < (s.size : Int)
  · go_enter Try.func5, Try.ntmps5
    go_wp2_with fail
    refine (lknown _ HM.out).mono ?_; rintro e w1 ⟨rfl, b1⟩
    go_wp2_with fail
    go_ret
    exact ⟨rfl, b1⟩
  · have hsz : s.size ≤ 2000 := by omega
    go_enter Try.func5, Try.ntmps5
    go_wp2_with fail
    refine (lknown _ HM.out).mono ?_; rintro e w0 ⟨rfl, b0⟩
    go_wp2_with fail
    go_loop [3, 4] (fun v3 v4 => ∃ (x : ByteArray) (i : Nat), v3 = .string x ∧ v4 = .int .i64 i ∧ i ≤ s.size ∧ Hid (bs x = esc2 ((bs s).take i)) ∧ x.size ≤ 5 * i) (fun _ v4 => s.size - (intOf v4).toNat)
    case atStart => exact ⟨⟨#[]⟩, 0, rfl, rfl, Nat.zero_le _, by show [] = esc2 ((bs s).take 0); rw [List.take_zero]; unfold esc2; rfl, Nat.zero_le _⟩
    case round =>
      obtain ⟨x, i, rfl, rfl, hi, HX, hxl⟩ := hrel
      by_cases hlt : i < s.size
      · have hltz : (i : Int) < (s.size : Int) := by omega
        have hsn := esc2_snoc (bs s) i (by rw [← size_bs]; exact hlt)
        have hgi : (bs s)[i]'(by rw [← size_bs]; exact hlt) = s[i]'hlt := by rw [get_bs, List.getD_eq_getElem?_getD, List.getElem?_eq_getElem (by rw [← size_bs]; exact hlt)]; rfl
        rw [hgi] at hsn
        have HS := Lib.hid hsn
        clear hsn hgi
        by_cases h38 : s[i]'hlt = 38
        · have t1 : (((s[i]'hlt).toNat : Int) == 38) = true := by rw [h38]; rfl
          have e38 : esc2b (s[i]'hlt) = [38, 97, 109, 112, 59] := by unfold esc2b; rw [if_pos h38]
          rw [e38] at HS
          clear h38 e38
          go_wp2_with fail
          go_round
          case rel => exact ⟨_, i + 1, rfl, by go_num, by omega, by show _ = _; rw [bs_append, HX.out, HS.out]; rfl, by rw [ByteArray.size_append]; show x.size + 5 ≤ _; omega⟩
          case measure => simp [intOf]; omega
        · have t1 : (((s[i]'hlt).toNat : Int) == 38) = false := by rw [show (38 : Int) = ((38 : UInt8).toNat : Int) from rfl, u8_eq]; simpa using h38
          by_cases h60 : s[i]'hlt = 60
          · have t2 : (((s[i]'hlt).toNat : Int) == 60) = true := by rw [h60]; rfl
            have e60 : esc2b (s[i]'hlt) = [38, 108, 116, 59] := by unfold esc2b; rw [if_neg h38, if_pos h60]
            rw [e60] at HS
            clear h38 h60 e60
            go_wp2_with fail
            go_round
            case rel => exact ⟨_, i + 1, rfl, by go_num, by omega, by show _ = _; rw [bs_append, HX.out, HS.out]; rfl, by rw [ByteArray.size_append]; show x.size + 4 ≤ _; omega⟩
            case measure => simp [intOf]; omega
          · have t2 : (((s[i]'hlt).toNat : Int) == 60) = false := by rw [show (60 : Int) = ((60 : UInt8).toNat : Int) from rfl, u8_eq]; simpa using h60
            have ec : esc2b (s[i]'hlt) = [s[i]'hlt] := by unfold esc2b; rw [if_neg h38, if_neg h60]
            have hex : bs (s.extract i (i + 1)) = [s[i]'hlt] := by
              rw [bs_extract, Nat.add_sub_cancel_left, drop_bs s i hlt]; rfl
            have HE := Lib.hid hex
            have hes : (s.extract i (i + 1)).size = 1 := by rw [size_bs, hex]; rfl
            rw [ec] at HS
            clear h38 h60 ec hex
            go_wp2_with fail
            go_round
            case rel => exact ⟨_, i + 1, rfl, by go_num, by omega, by show _ = _; rw [bs_append, HX.out, HS.out, HE.out], by rw [ByteArray.size_append, hes]; omega⟩
            case measure => simp [intOf]; omega
      · obtain rfl : i = s.size := by omega
        have hltz : ¬ (s.size : Int) < (s.size : Int) := by omega
        have hx := HX.out
        rw [List.take_of_length_le (by rw [← size_bs]; exact Nat.le_refl _)] at hx
        have HA := Lib.hid (fun w hm => lexAll_any x w hm (by omega))
        rw [hx, allL_esc] at HA
        clear hx HX
        by_cases h0 : bs s = []
        · rw [if_pos h0] at HA
          have hs0 : s = ⟨#[]⟩ := bs_inj h0
          subst hs0
          have HA2 : Hid (∀ w, Mx w → Calls Try.prog 11 #[.string x] w fun e w' => (∃ p c, e = .returned (.slice p 0 c)) ∧ Below w.heap.size w w') := fun w hm => (HA.out w hm).mono fun e w' h => by
            obtain ⟨⟨v, rfl, hv⟩, hb⟩ := h
            obtain ⟨p, c, rfl⟩ := hv.shape
            exact ⟨⟨p, c, rfl⟩, hb⟩
          clear HA h0
          go_wp2_with fail
          refine (HA2.out _ (HM.out.below b0)).mono ?_; rintro e w2 ⟨⟨p2, c2, rfl⟩, b2⟩
          go_wp2_with fail
          go_ret
          exact ⟨rfl, below_then b0 b2⟩
        · rw [if_neg h0] at HA
          have HA2 : Hid (∀ w, Mx w → Calls Try.prog 11 #[.string x] w fun e w' => (∃ g c cur, e = .returned (.slice (some ⟨g, 0, none⟩) 1 c) ∧ w'.heap[g]? = some (.cells cur 24 (0, 0)) ∧ 1 ≤ c ∧ c ≤ maxLen ∧ w'.cell? ⟨g, 0, none⟩ = some (.int .u8 1) ∧ w'.cell? ⟨g, 4, none⟩ = some (.string s)) ∧ Below w.heap.size w w') := fun w hm => (HA.out w hm).mono fun e w' h => by
            obtain ⟨⟨v, rfl, vals, ho, ht⟩, hb⟩ := h
            refine ⟨?_, hb⟩
            match vals, ht with
            | [c0], ⟨_, h0, _⟩ =>
              obtain ⟨p0, n0, k0, rfl, _⟩ := tok_form h0
              rcases ho.2 with ⟨_, hn⟩ | ⟨g, cap, cur, rfl, _, hg, hl, hc, _, hx⟩
              · cases hn
              · refine ⟨g, cap, cur, rfl, hg, hl, hc, own_cell hg hx 0 _ rfl, ?_⟩
                have := own_cell hg hx 4 (.string (mk (bs s))) rfl
                rwa [mk_bs] at this
          have ht1 : ¬ s.toList = [] := by rw [Lib.toList_data]; exact h0
          have ht2 : s.toList.isEmpty = false := by rw [List.isEmpty_eq_false_iff]; exact ht1
          clear HA h0
          go_wp2_with fail
          refine (HA2.out _ (HM.out.below b0)).mono ?_; rintro e w2 ⟨⟨g, c, cur, rfl, hg, hl, hc, c0, c4⟩, b2⟩
          have hlt := lt_of_block hg
          unfold maxLen at hc
          clear hg
          go_wp2_with fail
          go_ret
          exact ⟨rfl, below_then b0 b2⟩
end Tym
