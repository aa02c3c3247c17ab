/- The reference's Read of layer 7, whatever stands there. -/
import Derived.Test.YtpgdkhdnnegmaaaGreatNoteH
set_option linter.unusedSimpArgs false
set_option linter.unusedVariables false
open Go Go.RowKit Go.Proofs
namespace Tym
set_option maxRecDepth 20000

theorem findAt_skip (a b : Bs) (h : (62 : UInt8) ∉ a) : findAt [62] (a ++ b) = a.length + findAt [62] b := by
  induction a with
  | nil => simp
  | cons c a ih =>
    have hc : ¬ begins (c :: (a ++ b)) [62] = true := by
      rw [bgn_cons, bgn_nil, Bool.and_true]
      intro e; apply h; rw [beq_iff_eq] at e; rw [← e]; simp
    rw [List.cons_append]
    show (if begins (c :: (a ++ b)) [62] = true then 0 else findAt [62] (a ++ b) + 1) = _
    rw [if_neg hc, ih (fun e => h (by simp [e])), List.length_cons]; omega

theorem doctype_gt (r : Bs) (h : doctypeIn r = true) : (upToL [62] r).2 = 9 + (upToL [62] (r.drop 9)).2 := by
  unfold doctypeIn at h
  rw [Bool.and_eq_true, decide_eq_true_eq, beq_iff_eq] at h
  obtain ⟨h9, hd⟩ := h
  have hn : (62 : UInt8) ∉ r.take 9 := by
    intro hm
    have : small 62 ∈ lower (r.take 9) := List.mem_map_of_mem hm
    rw [hd] at this
    revert this; decide
  have hf := findAt_skip (r.take 9) (r.drop 9) hn
  rw [List.take_append_drop, List.length_take, Nat.min_eq_left h9] at hf
  unfold upToL
  simp only [List.length_drop]
  rw [hf]
  have hle := findAt_le [62] (r.drop 9)
  rw [List.length_drop] at hle
  by_cases hx : findAt [62] (r.drop 9) < r.length - 9
  · rw [if_pos hx, if_pos (by omega)]; simp; omega
  · rw [if_neg hx, if_neg (by omega)]; omega

theorem doctype_split (r : Bs) : doctypeIn r = (begins r [60, 33] && (decide (9 ≤ r.length) && (lower ((r.drop 2).take 7) == [100, 111, 99, 116, 121, 112, 101]))) := by
  unfold doctypeIn
  by_cases h9 : 9 ≤ r.length
  · rw [decide_eq_true h9]
    match r, h9 with
    | a :: b :: u, _ =>
      have e : lower ((a :: b :: u).take 9) = small a :: small b :: lower (u.take 7) := rfl
      rw [e, bgn_cons, bgn_cons, bgn_nil]
      simp only [List.drop_succ_cons, List.drop_zero, Bool.true_and, Bool.and_true]
      have e1 : (small a == 60) = (60 == a) := by
        rw [Bool.eq_iff_iff, beq_iff_eq, beq_iff_eq, small_mark a 60 (by decide)]; exact eq_comm
      have e2 : (small b == 33) = (33 == b) := by
        rw [Bool.eq_iff_iff, beq_iff_eq, beq_iff_eq, small_mark b 33 (by decide)]; exact eq_comm
      show (small a == 60 && (small b == 33 && (lower (u.take 7) == [100, 111, 99, 116, 121, 112, 101]))) = _
      rw [e1, e2, Bool.and_assoc]
  · rw [decide_eq_false h9]; simp

theorem refNoteRead_in (s : ByteArray) (k : Nat) (cd : Bool) (w : World) (hs : s.size ≤ 900000) (hb : beginsNote ((bs s).drop k) = true) :
    Calls Tryz.prog 26 #[.string s, .int .i64 k, .bool cd] w (NotePost w k (noteL cd ((bs s).drop k))) := by
  have hlen := beginsNote_len _ hb
  have hr : ((bs s).drop k).length = s.size - k := by rw [List.length_drop, ← size_bs]
  rw [hr] at hlen
  have HB : Hid (∀ w, Calls Tryz.prog 25 #[.string s, .int .i64 k] w fun e w' => e = .returned (.bool true) ∧ w = w') := fun w => by
    have := refNoteBegins_any s k w (by omega) (by omega)
    rwa [show noteBeg s k = true from by unfold noteBeg; rw [if_neg (by omega), Int.toNat_natCast]; exact hb] at this
  have hP : ∀ (x : Bs) (b : Bool), 0 < x.length → x.length ≤ 1000000 → begins ((bs s).drop k) x = b → Hid (∀ w, Calls Tryz.prog 58 #[.string s, .int .i64 k, .string ⟨x.toArray⟩] w fun e w' => e = .returned (.bool b) ∧ w = w') := fun x b h0 h1 h w => by
    have := at_any s x k w (by omega) h1 h0
    rwa [show atB s k x = b from by unfold atB; rw [if_neg (by omega), Int.toNat_natCast]; exact h] at this
  have hU : ∀ (f : Nat) (x : Bs), k + f ≤ s.size → 0 < x.length → x.length ≤ 1000000 → k + (f + (upToL x (((bs s).drop k).drop f)).2) ≤ 1000000 ∧ Hid (∀ w, Calls Tryz.prog 60 #[.string s, .int .i64 ((k : Int) + f), .string ⟨x.toArray⟩] w fun e w' => e = .returned (.tuple #[.string (mk (upToL x (((bs s).drop k).drop f)).1), .int .i64 ((k + (f + (upToL x (((bs s).drop k).drop f)).2) : Nat) : Int)]) ∧ w = w') := fun f x hf h0 h1 =>
    ⟨by have := upTo_le x (((bs s).drop k).drop f); rw [List.length_drop, hr] at this; omega, fun w => by
      have := refUpTo_in s x (k + f) w (by omega) h1 h0 hf
      rw [List.drop_drop]
      rwa [Nat.add_assoc, show ((k + f : Nat) : Int) = (k : Int) + f from rfl] at this⟩
  unfold noteL
  cases c1 : begins ((bs s).drop k) [60, 33, 45, 45] with
  | true =>
    have h4 := begins_len _ _ c1
    rw [hr] at h4
    simp only [List.length_cons, List.length_nil] at h4
    have hc := commentL_le (((bs s).drop k).drop 4)
    rw [List.length_drop, hr] at hc
    simp only [if_true]
    exact refNoteRead_comment s k cd w (by omega) (by omega) HB (hP _ _ (by decide) (by decide) c1) _ _ (by omega) (fun w => by
      have := refComment_in s (k + 4) w (by omega) (by omega)
      rw [List.drop_drop]
      rwa [Nat.add_assoc, show ((k + 4 : Nat) : Int) = (k : Int) + 4 from rfl] at this)
  | false =>
    simp only [Bool.false_eq_true, if_false]
    have HL : 9 ≤ s.size - k → Hid (∀ w, Calls Tryz.prog 55 #[.string (s.extract (k + 2) (k + 9))] w fun e w' => e = .returned (.string (mk (lower ((((bs s).drop k).drop 2).take 7)))) ∧ Below w.heap.size w w') := fun _ w => by
      have := lowerR_any (s.extract (k + 2) (k + 9)) w (by rw [ByteArray.size_extract]; omega)
      rw [bs_extract, show k + 9 - (k + 2) = 7 from by omega, ← List.drop_drop] at this; exact this
    have hds := doctype_split ((bs s).drop k)
    cases c2 : doctypeIn ((bs s).drop k) with
    | true =>
      have hgt := doctype_gt _ c2
      rw [c2] at hds
      have hds := hds.symm
      rw [Bool.and_eq_true, Bool.and_eq_true, decide_eq_true_eq, hr] at hds
      obtain ⟨d1, d2, d3⟩ := hds
      simp only [if_true]
      rw [← hgt]
      have hu := hU 0 [62] (by omega) (by decide) (by decide)
      rw [List.drop_zero, Nat.zero_add, show (k : Int) + ((0 : Nat) : Int) = k from by omega] at hu
      exact refNoteRead_doc s k cd w (by omega) (by omega) HB (hP _ _ (by decide) (by decide) c1) (hP _ _ (by decide) (by decide) d1) (by omega) _ (by rw [Lib.toList_data]; exact d3) (HL (by omega)) _ _ hu.1 hu.2
    | false =>
      have hD : Hid (∀ w, Calls Tryz.prog 58 #[.string s, .int .i64 k, .string ⟨#[60, 33]⟩] w fun e w' => e = .returned (.bool false) ∧ w = w') ∨ (Hid (∀ w, Calls Tryz.prog 58 #[.string s, .int .i64 k, .string ⟨#[60, 33]⟩] w fun e w' => e = .returned (.bool true) ∧ w = w') ∧ (¬ (9 : Int) ≤ (s.size : Int) - (k : Int) ∨ ((9 : Int) ≤ (s.size : Int) - (k : Int) ∧ ∃ L : ByteArray, (L.toList == [100, 111, 99, 116, 121, 112, 101]) = false ∧ Hid (∀ w, Calls Tryz.prog 55 #[.string (s.extract (k + 2) (k + 9))] w fun e w' => e = .returned (.string L) ∧ Below w.heap.size w w')))) := by
        cases d1 : begins ((bs s).drop k) [60, 33] with
        | false => exact .inl (hP _ _ (by decide) (by decide) d1)
        | true =>
          refine .inr ⟨hP _ _ (by decide) (by decide) d1, ?_⟩
          by_cases h9 : 9 ≤ s.size - k
          · refine .inr ⟨by omega, _, ?_, HL h9⟩
            rw [c2, d1, hr, decide_eq_true h9, Bool.true_and, Bool.true_and] at hds
            rw [Lib.toList_data]; exact hds.symm
          · exact .inl (by omega)
      simp only [Bool.false_eq_true, if_false]
      cases c3 : (cd && begins ((bs s).drop k) [60, 33, 91, 67, 68, 65, 84, 65, 91]) with
      | true =>
        rw [Bool.and_eq_true] at c3
        obtain ⟨rfl, c3⟩ := c3
        have h9 := begins_len _ _ c3
        rw [hr] at h9
        simp only [List.length_cons, List.length_nil] at h9
        simp only [if_true]
        have hu := hU 9 [93, 93, 62] (by omega) (by decide) (by decide)
        exact refNoteRead_cdata s k w (by omega) (by omega) HB (hP _ _ (by decide) (by decide) c1) hD (hP _ _ (by decide) (by decide) c3) _ _ hu.1 hu.2
      | false =>
        have hcd : cd = false ∨ (cd = true ∧ Hid (∀ w, Calls Tryz.prog 58 #[.string s, .int .i64 k, .string ⟨#[60, 33, 91, 67, 68, 65, 84, 65, 91]⟩] w fun e w' => e = .returned (.bool false) ∧ w = w')) := by
          cases cd with
          | false => exact .inl rfl
          | true => exact .inr ⟨rfl, hP _ _ (by decide) (by decide) (by simpa using c3)⟩
        simp only [Bool.false_eq_true, if_false]
        cases c4 : begins ((bs s).drop k) [60, 47, 62] with
        | true =>
          simp only [if_true]
          exact refNoteRead_none s k cd w (by omega) (by omega) HB (hP _ _ (by decide) (by decide) c1) hD hcd (hP _ _ (by decide) (by decide) c4)
        | false =>
          simp only [Bool.false_eq_true, if_false]
          have h2 : k + 1 < s.size := by omega
          have e1 : ((bs s).drop k).getD 1 0 = s[k + 1]'h2 := by rw [get_bs]; simp [List.getD_eq_getElem?_getD]
          rw [e1]
          by_cases hq : s[k + 1]'h2 = 63
          · rw [if_pos hq]
            have hu := hU 1 [62] (by omega) (by decide) (by decide)
            exact refNoteRead_else s k cd w (by omega) (by omega) HB (hP _ _ (by decide) (by decide) c1) hD hcd (hP _ _ (by decide) (by decide) c4) h2 1 (.inl ⟨by rw [hq]; rfl, rfl⟩) _ _ hu.1 hu.2
          · rw [if_neg hq]
            have hq2 : (((s[k + 1]'h2).toNat : Int) == 63) = false := by rw [show (63 : Int) = ((63 : UInt8).toNat : Int) from rfl, u8_eq]; simpa using hq
            have hu := hU 2 [62] (by omega) (by decide) (by decide)
            exact refNoteRead_else s k cd w (by omega) (by omega) HB (hP _ _ (by decide) (by decide) c1) hD hcd (hP _ _ (by decide) (by decide) c4) h2 2 (.inr ⟨hq2, rfl⟩) _ _ hu.1 hu.2

theorem refNoteRead_any (s : ByteArray) (i : Int) (cd : Bool) (w : World) (hs : s.size ≤ 900000) (hi : i ≤ 1000000) : Calls Tryz.prog 26 #[.string s, .int .i64 i, .bool cd] w (TokPost w (noteRd s i cd)) := by
  unfold noteRd
  cases hb : noteBeg s i with
  | false =>
    simp only [Bool.false_eq_true, if_false]
    refine (refNoteRead_not s i cd w fun w => by have := refNoteBegins_any s i w (by omega) hi; rwa [hb] at this).mono ?_
    rintro e w' ⟨rfl, h⟩
    exact ⟨⟨_, rfl, tokval_none _ _⟩, h⟩
  | true =>
    simp only [if_true]
    unfold noteBeg at hb
    by_cases h : i < 0
    · rw [if_pos h] at hb; cases hb
    · rw [if_neg h] at hb
      obtain ⟨k, rfl⟩ : ∃ k : Nat, i = k := ⟨i.toNat, by omega⟩
      rw [Int.toNat_natCast] at hb ⊢
      exact (refNoteRead_in s k cd w hs hb).mono fun _ _ h => note_post h
end Tym
