/- The laws EntMarks and EntEscaped. -/
import Derived.Test.YtbgcedhbbfkmcaaEntN
import Derived.Test.YtbgcedhbbfkmcaaEntP
set_option linter.unusedSimpArgs false
set_option linter.unusedVariables false
open Go Go.RowKit Go.Proofs
namespace Tym

theorem esc_app (a b : Bs) : esc (a ++ b) = esc a ++ esc b := by unfold esc; exact List.flatMap_append
theorem bare_app (a b : Bs) : bare (a ++ b) = bare a ++ bare b := by unfold bare; exact List.filter_append ..
theorem esc_len (s : Bs) : (esc s).length ≤ 5 * s.length := by
  induction s with
  | nil => simp [esc]
  | cons c s ih =>
    unfold esc at *
    rw [List.flatMap_cons, List.length_append, List.length_cons]
    have : (if c = 38 then [38, 97, 109, 112, 59] else [c] : Bs).length ≤ 5 := by split <;> simp
    omega
theorem bare_len (s : Bs) : (bare s).length ≤ s.length := List.length_filter_le _ _
theorem take_one (l : Bs) (i : Nat) (h : i < l.length) : l.take (i + 1) = l.take i ++ [l.getD i 0] := by
  rw [List.take_add_one, List.getD_eq_getElem?_getD, List.getElem?_eq_getElem h]; rfl
theorem esc_amp (l : Bs) (i : Nat) (h : i < l.length) (hc : l.getD i 0 = 38) : esc (l.take (i + 1)) = esc (l.take i) ++ [38, 97, 109, 112, 59] ∧ bare (l.take (i + 1)) = bare (l.take i) := by
  rw [take_one l i h, hc, esc_app, bare_app]
  exact ⟨rfl, by rw [show bare [38] = [] from rfl, List.append_nil]⟩
theorem esc_no (l : Bs) (i : Nat) (h : i < l.length) (hc : l.getD i 0 ≠ 38) : esc (l.take (i + 1)) = esc (l.take i) ++ [l.getD i 0] ∧ bare (l.take (i + 1)) = bare (l.take i) ++ [l.getD i 0] := by
  rw [take_one l i h, esc_app, bare_app]
  refine ⟨?_, ?_⟩
  · rw [show esc [l.getD i 0] = [l.getD i 0] from by unfold esc; simp only [List.flatMap_cons, List.flatMap_nil, List.append_nil]; rw [if_neg hc]]
  · rw [show bare [l.getD i 0] = [l.getD i 0] from by unfold bare; simp only [List.filter_cons, List.filter_nil]; rw [if_pos (bne_iff_ne.2 hc)]]

attribute [local irreducible] dec mark number named markR esc bare

theorem law_marks (s : ByteArray) (w : World) : Calls Try.prog 6 #[.string s] w fun e w' => e = .returned (.bool true) ∧ Below w.heap.size w w' := by
  by_cases h : (3000 : Int) < (s.size : Int)
  · go_enter Try.func6, Try.ntmps6
    go_wp2
    go_ret
    exact ⟨rfl, Below.refl _ _⟩
  · have hs : s.size ≤ 1000000000 := by omega
    have HR : Hid (∀ w, Calls Try.prog 18 #[.string s] w fun e w' => e = .returned (.tuple #[.string (mk (mark (bs s)).1), .int .i64 (mark (bs s)).2]) ∧ Below w.heap.size w w') := fun w => by have := markR_any s w hs; unfold MarkRk at this; rwa [mark_eq] at this
    have HN : Hid (∀ w, Calls Try.prog 17 #[.string s] w fun e w' => e = .returned (.tuple #[.string (mk (mark (bs s)).1), .int .i64 (mark (bs s)).2]) ∧ Below w.heap.size w w') := fun w => mark_any s w hs
    generalize mark (bs s) = m at *
    obtain ⟨l, k⟩ := m
    generalize mk l = t at *
    go_enter Try.func6, Try.ntmps6
    go_wp2_with fail
    refine (HN.out _).mono ?_; rintro e w1 ⟨rfl, b1⟩
    go_wp2_with fail
    refine (HR.out _).mono ?_; rintro e w2 ⟨rfl, b2⟩
    go_wp2_with fail
    refine (known_any _).mono ?_; rintro e w3 ⟨rfl, b3⟩
    go_wp2_with fail
    go_ret
    exact ⟨rfl, below_then (below_then b1 b2) b3⟩

theorem escaped_rel (s : ByteArray) (i : Nat) (h : i < s.size) (t b : ByteArray) (ht : bs t = esc ((bs s).take i)) (hb : bs b = bare ((bs s).take i)) :
    ((s[i].toNat : Int) == 38) = true → bs (t ++ ⟨#[38, 97, 109, 112, 59]⟩) = esc ((bs s).take (i + 1)) ∧ bs b = bare ((bs s).take (i + 1)) := by
  intro hc
  have hi : i < (bs s).length := by rw [← size_bs]; exact h
  have h38 : (bs s).getD i 0 = 38 := by rw [← get_bs s i h]; exact byte_yes _ 38 (by decide) hc
  obtain ⟨e1, e2⟩ := esc_amp (bs s) i hi h38
  exact ⟨by rw [bs_append, ht, e1]; rfl, by rw [hb, e2]⟩
theorem escaped_rel2 (s : ByteArray) (i : Nat) (h : i < s.size) (t b : ByteArray) (ht : bs t = esc ((bs s).take i)) (hb : bs b = bare ((bs s).take i)) :
    ((s[i].toNat : Int) == 38) = false → bs (t ++ s.extract i (i + 1)) = esc ((bs s).take (i + 1)) ∧ bs (b ++ s.extract i (i + 1)) = bare ((bs s).take (i + 1)) := by
  intro hc
  have hi : i < (bs s).length := by rw [← size_bs]; exact h
  have h38 : (bs s).getD i 0 ≠ 38 := by rw [← get_bs s i h]; exact byte_no _ 38 (by decide) hc
  obtain ⟨e1, e2⟩ := esc_no (bs s) i hi h38
  have he : bs (s.extract i (i + 1)) = [(bs s).getD i 0] := by
    rw [bs_extract, show i + 1 - i = 1 from by omega, List.getD_eq_getElem?_getD, List.getElem?_eq_getElem hi, List.drop_eq_getElem_cons hi]; rfl
  exact ⟨by rw [bs_append, ht, e1, he], by rw [bs_append, hb, e2, he]⟩

set_option maxRecDepth 20000 in
theorem law_escaped (s : ByteArray) (attr : Bool) (w : World) : Calls Try.prog 7 #[.string s, .bool attr] w fun e w' => e = .returned (.bool true) ∧ Below w.heap.size w w' := by
  by_cases h : (3000 : Int) < (s.size : Int)
  · go_enter Try.func7, Try.ntmps7
    go_wp2
    go_ret
    exact ⟨rfl, Below.refl _ _⟩
  · have hs : s.size ≤ 3000 := by omega
    go_enter Try.func7, Try.ntmps7
    go_wp2_with fail
    go_loop [5, 6, 7] (fun a b c => ∃ (i : Nat) (t u : ByteArray), i ≤ s.size ∧ a = .string t ∧ b = .string u ∧ c = .int .i64 i ∧ Hid (bs t = esc ((bs s).take i)) ∧ Hid (bs u = bare ((bs s).take i))) (fun _ _ c => s.size - (intOf c).toNat)
    case atStart => exact ⟨0, ⟨#[]⟩, ⟨#[]⟩, by omega, rfl, rfl, rfl, by unfold esc; rfl, by unfold bare; rfl⟩
    case round =>
      obtain ⟨i, t, u, hi, rfl, rfl, rfl, HA, HB⟩ := hrel
      have hts : t.size ≤ 15000 := by rw [size_bs, HA.out]; refine Nat.le_trans (esc_len _) ?_; rw [List.length_take, ← size_bs]; omega
      have hus : u.size ≤ 3000 := by rw [size_bs, HB.out]; refine Nat.le_trans (bare_len _) ?_; rw [List.length_take, ← size_bs]; omega
      by_cases hlt : i < s.size
      · have R1 := Lib.hid (escaped_rel s i hlt t u HA.out HB.out)
        have R2 := Lib.hid (escaped_rel2 s i hlt t u HA.out HB.out)
        have hz : (s.extract i (i + 1)).size = 1 := by rw [ByteArray.size_extract]; omega
        rcases Bool.eq_false_or_eq_true ((s[i].toNat : Int) == 38) with hc | hc
        · obtain ⟨r1, r2⟩ := R1.out hc
          replace r1 := Lib.hid r1
          replace r2 := Lib.hid r2
          go_wp2_with fail
          go_round
          case rel => exact ⟨i + 1, _, _, by omega, rfl, rfl, by go_num, r1, r2⟩
          case measure => simp [intOf]; omega
        · obtain ⟨r1, r2⟩ := R2.out hc
          replace r1 := Lib.hid r1
          replace r2 := Lib.hid r2
          go_wp2_with fail
          go_round
          case rel => exact ⟨i + 1, _, _, by omega, rfl, rfl, by go_num, r1, r2⟩
          case measure => simp [intOf]; omega
      · have hie : i = s.size := by omega
        have e1 : bs t = esc (bs s) := by have := HA.out; rwa [hie, size_bs, List.take_length] at this
        have e2 : bs u = bare (bs s) := by have := HB.out; rwa [hie, size_bs, List.take_length] at this
        have D1 : Hid (∀ w, Calls Try.prog 15 #[.string t, .bool attr] w fun e w' => e = .returned (.string s) ∧ Below w.heap.size w w') := fun w => by
          have := decode_any t attr w (by omega); rwa [e1, dec_esc, mk_bs] at this
        have D2 : Hid (∀ w, Calls Try.prog 15 #[.string u, .bool attr] w fun e w' => e = .returned (.string u) ∧ Below w.heap.size w w') := fun w => by
          have := decode_any u attr w (by omega); rwa [e2, dec_bare, ← e2, mk_bs] at this
        clear e1 e2 HA HB
        go_wp2_with fail
        refine (known_any _).mono ?_; rintro e w1 ⟨rfl, b1⟩
        go_wp2_with fail
        refine (D1.out _).mono ?_; rintro e w2 ⟨rfl, b2⟩
        go_wp2_with fail
        refine (D2.out _).mono ?_; rintro e w3 ⟨rfl, b3⟩
        go_wp2_with fail
        go_ret
        exact ⟨rfl, below_then (below_then b1 b2) b3⟩
end Tym
