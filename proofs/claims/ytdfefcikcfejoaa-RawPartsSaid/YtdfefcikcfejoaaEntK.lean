/- The walks of the reference's Decode, and of Mark, of both. -/
import Derived.Test.YtdfefcikcfejoaaEntJ
set_option linter.unusedSimpArgs false
set_option linter.unusedVariables false
open Go Go.RowKit Go.Proofs
namespace Tym
attribute [local irreducible] dec taken upto

theorem size_append (a b : ByteArray) : (a ++ b).size = a.size + b.size := by rw [size_bs, bs_append, List.length_append, ← size_bs, ← size_bs]

set_option maxHeartbeats 2000000 in
theorem decodeR_any (s : ByteArray) (attr : Bool) (w : World) (hs : s.size ≤ 1000000000) : Calls Try.prog 16 #[.string s, .bool attr] w fun e w' => e = .returned (.string (mk (dec attr (bs s)))) ∧ Below w.heap.size w w' := by
  go_enter Try.func16, Try.ntmps16
  go_wp2_with fail
  go_loopw [0, 5] (fun v o wr => ∃ (s1 o1 : ByteArray), v = .string s1 ∧ o = .string o1 ∧ s1.size ≤ s.size ∧ Below w.heap.size w wr ∧ o1.size ≤ 6 * (s.size - s1.size) ∧ Hid (bs o1 ++ dec attr (bs s1) = dec attr (bs s))) (fun v _ _ => match v with | .string s1 => s1.size | _ => 0)
  case atStart => exact ⟨s, ⟨#[]⟩, rfl, rfl, Nat.le_refl _, Below.refl _ _, Nat.zero_le _, rfl⟩
  case round =>
    obtain ⟨s1, o1, rfl, rfl, hs1, hbel, hlen, HD⟩ := hrel
    by_cases h0 : 0 < s1.size
    · have hd0 : Hid (bs s1 = s1[0] :: (bs s1).drop 1) := by have := drop_bs s1 0 h0; rwa [List.drop_zero] at this
      have h1 : bs (s1.extract 0 1) = [s1[0]] := by rw [bs_to, hd0.out]; rfl
      have h2 : bs (s1.extract 1 s1.size) = (bs s1).drop 1 := bs_from _ _
      have hz1 : (s1.extract 0 1).size = 1 := by rw [ByteArray.size_extract]; omega
      have hz2 : (s1.extract 1 s1.size).size = s1.size - 1 := by rw [ByteArray.size_extract]; omega
      have H1 := Lib.hid h1
      have H2 := Lib.hid h2
      clear h1 h2
      rcases Bool.eq_false_or_eq_true ((s1[0].toNat : Int) == (38 : Nat)) with h38 | h38
      · have hne : ((s1[0].toNat : Int) != 38) = false := bne_of _ _ _ h38
        have hc := byte_yes _ 38 (by decide) h38
        have HT : Hid (dec attr (bs s1) = (taken (bs s1) attr).1 ++ dec attr ((bs s1).drop (taken (bs s1) attr).2)) := by
          show _ = _
          have e : bs s1 = 38 :: (bs s1).drop 1 := by have := hd0.out; rw [hc] at this; exact this
          rw [e]; exact dec_amp attr _
        have ht : Hid (∀ w, Calls Try.prog 27 #[.string s1, .bool attr] w fun e w' => e = .returned (.tuple #[.string (mk (taken (bs s1) attr).1), .int .i64 (taken (bs s1) attr).2]) ∧ Below w.heap.size w w') := fun w => one_any s1 attr w (by omega) h0
        have htl := taken_len (bs s1) attr
        have htp := taken_pos (bs s1) attr
        have hte := taken_le (bs s1) attr (by rw [hd0.out]; simp)
        rw [← size_bs] at hte
        generalize taken (bs s1) attr = t at *
        obtain ⟨c, n⟩ := t
        simp only at htl htp hte HT ht
        have hxs : (s1.extract n s1.size).size = s1.size - n := by rw [ByteArray.size_extract]; omega
        have hcs : (mk c).size ≤ 6 := by rw [size_mk]; exact htl
        clear h38 hc
        go_wp2_with (go_at_call 27; (with_reducible refine (ht.out _).mono ?_); rintro e w' ⟨rfl, hb⟩)
        refine ⟨⟨_, _, rfl, rfl, by omega, hbel.trans (hb.mono hbel.size), by rw [size_append]; omega, ?_⟩, by simp only; omega⟩
        show _ = _
        rw [bs_append, bs_mk, bs_from, ← HD.out, HT.out]; simp
      · have hne : ((s1[0].toNat : Int) != 38) = true := bne_of _ _ _ h38
        have hc := byte_no _ 38 (by decide) h38
        have HT : Hid (dec attr (bs s1) = s1[0] :: dec attr ((bs s1).drop 1)) := by
          show dec attr (bs s1) = _
          conv => lhs; rw [hd0.out]
          exact dec_cons attr _ _ hc
        clear h38 hc
        go_wp2
        refine ⟨⟨_, _, rfl, rfl, by omega, hbel, by rw [size_append]; omega, ?_⟩, by simp only; omega⟩
        show _ = _
        rw [bs_append, H1.out, H2.out, ← HD.out, HT.out]; simp
    · have hb : bs s1 = [] := List.eq_nil_of_length_eq_zero (by rw [← size_bs]; omega)
      have HF : Hid (bs o1 = dec attr (bs s)) := by have := HD.out; rw [hb, dec_nil, List.append_nil] at this; exact this
      clear HD hb
      go_wp2
      go_ret
      exact ⟨ret_str (by rw [← HF.out, mk_bs]), hbel⟩
end Tym
