/- The walks of Decode, of both. The walks of the reference's Decode, and of Mark, of both. -/
import Derived.Test.YtpgdkhdnnegmaaaGreatEntH
import Derived.Test.YtpgdkhdnnegmaaaGreatEntI

namespace Tym
set_option linter.unusedSimpArgs false
set_option linter.unusedVariables false
open Go Go.RowKit Go.Proofs

theorem enc_len (r : Int) : (enc r).length ≤ 4 := by
  unfold enc Go.Utf8.encode
  simp only
  generalize (if Go.Utf8.valid r then r.toNat else Go.Utf8.runeError) = c
  (repeat' split) <;> simp

theorem taken_len (s : Bs) (attr : Bool) : (taken s attr).1.length ≤ 6 := by
  unfold taken
  simp only
  split
  · have := enc_len (number (numeric 16777216 s).1)
    simp only; omega
  · split
    · simp
    · have hb := namedR_best (s.drop 1)
      rw [← named_eq] at hb
      have hp : ∀ e ∈ table, e.is.length ≤ 6 := by decide +kernel
      rcases hb with ⟨h1, _⟩ | ⟨e, he, _, h3, _⟩
      · rw [h1]; simp
      · simp only; rw [h3]; exact hp e he

theorem dec_none (attr : Bool) (s : Bs) (h : ¬ upto 38 s < s.length) : dec attr s = s := by
  have h1 : s.take (upto 38 s) = s := List.take_of_length_le (by omega)
  have h2 := not_mem_upto 38 s
  rw [h1] at h2
  have := dec_plain attr s [] h2
  simpa [dec_nil] using this

theorem dec_some (attr : Bool) (s : Bs) (h : upto 38 s < s.length) : dec attr s = s.take (upto 38 s) ++ ((taken (s.drop (upto 38 s)) attr).1 ++ dec attr ((s.drop (upto 38 s)).drop (taken (s.drop (upto 38 s)) attr).2)) := by
  conv => lhs; rw [← List.take_append_drop (upto 38 s) s]
  rw [dec_plain _ _ _ (not_mem_upto 38 s)]
  congr 1
  rw [drop_upto 38 s h]
  exact dec_amp attr _

attribute [local irreducible] dec taken upto

theorem cutc_yes (s : ByteArray) (w : World) (hs : s.size ≤ 1000000000) (u : Nat) (hu : u = upto 38 (bs s)) (h : u < s.size) : Calls Tryz.prog 45 #[.string s, .string ⟨#[38]⟩] w fun e w' => e = .returned (.tuple #[.string (s.extract 0 u), .string (s.extract (u + 1) s.size), .bool true]) ∧ Below w.heap.size w w' := by
  subst hu; exact cut_yes s 38 w hs h

set_option maxHeartbeats 2000000 in
theorem decode_any (s : ByteArray) (attr : Bool) (w : World) (hs : s.size ≤ 1000000000) : Calls Tryz.prog 17 #[.string s, .bool attr] w fun e w' => e = .returned (.string (mk (dec attr (bs s)))) ∧ Below w.heap.size w w' := by
  go_enter Tryz.func17, Tryz.ntmps17
  go_wp2_with fail
  go_loopw [0] (fun v wr => ∃ (s1 : ByteArray) (l : Bs), v = .string s1 ∧ s1.size ≤ s.size ∧ Bld w.heap.size w.heap.size l wr ∧ Below w.heap.size w wr ∧ w.heap.size < wr.heap.size ∧ l.length ≤ 6 * (s.size - s1.size) ∧ Hid (l ++ dec attr (bs s1) = dec attr (bs s))) (fun v _ => match v with | .string s1 => s1.size | _ => 0)
  case atStart => exact ⟨s, [], rfl, Nat.le_refl _, Lib.fresh_isBuilder _ _ _, (Below.refl _ _).alloc (Nat.le_refl _) _, by simp, by simp, rfl⟩
  case round =>
    obtain ⟨s1, l, rfl, hs1, hB, hbel, hsz, hlen, HD⟩ := hrel
    by_cases hu : upto 38 (bs s1) < s1.size
    · have hu' : upto 38 (bs s1) < (bs s1).length := by rw [← size_bs]; exact hu
      have HS : Hid (dec attr (bs s1) = (bs s1).take (upto 38 (bs s1)) ++ ((taken ((bs s1).drop (upto 38 (bs s1))) attr).1 ++ dec attr (((bs s1).drop (upto 38 (bs s1))).drop (taken ((bs s1).drop (upto 38 (bs s1))) attr).2))) := dec_some attr (bs s1) hu'
      have hcut : Hid (∀ w, Calls Tryz.prog 45 #[.string s1, .string ⟨#[38]⟩] w fun e w' => e = .returned (.tuple #[.string (s1.extract 0 (upto 38 (bs s1))), .string (s1.extract (upto 38 (bs s1) + 1) s1.size), .bool true]) ∧ Below w.heap.size w w') := fun w => cut_yes s1 38 w (by omega) hu
      have ht : Hid (∀ w, Calls Tryz.prog 48 #[.string (s1.extract (upto 38 (bs s1)) s1.size), .bool attr] w fun e w' => e = .returned (.tuple #[.string (mk (taken ((bs s1).drop (upto 38 (bs s1))) attr).1), .int .i64 (taken ((bs s1).drop (upto 38 (bs s1))) attr).2]) ∧ Below w.heap.size w w') := fun w => by
        rw [← bs_from]
        exact taken_any _ attr w (by rw [ByteArray.size_extract]; omega) (by rw [ByteArray.size_extract]; omega)
      have htl := taken_len ((bs s1).drop (upto 38 (bs s1))) attr
      have htp := taken_pos ((bs s1).drop (upto 38 (bs s1))) attr
      have hte := taken_le ((bs s1).drop (upto 38 (bs s1))) attr (by rw [drop_upto 38 (bs s1) hu']; simp)
      rw [List.length_drop, ← size_bs] at hte
      generalize taken ((bs s1).drop (upto 38 (bs s1))) attr = t at *
      obtain ⟨c, n⟩ := t
      simp only at htl htp hte HS ht
      have hxs : ((s1.extract (upto 38 (bs s1)) s1.size).extract n (s1.size - upto 38 (bs s1))).size = s1.size - upto 38 (bs s1) - n := by
        rw [ByteArray.size_extract, ByteArray.size_extract]; omega
      have hxb : Hid (bs ((s1.extract (upto 38 (bs s1)) s1.size).extract n (s1.size - upto 38 (bs s1))) = ((bs s1).drop (upto 38 (bs s1))).drop n) := by
        have e : (s1.extract (upto 38 (bs s1)) s1.size).size = s1.size - upto 38 (bs s1) := by rw [ByteArray.size_extract]; omega
        show bs _ = _
        rw [← e, bs_from, bs_from]
      have hlo : Hid (bs (s1.extract 0 (upto 38 (bs s1))) = (bs s1).take (upto 38 (bs s1))) := bs_to _ _
      have hsl : (s1.extract 0 (upto 38 (bs s1))).size = upto 38 (bs s1) := by rw [ByteArray.size_extract]; omega
      have hsr : (s1.extract (upto 38 (bs s1)) s1.size).size = s1.size - upto 38 (bs s1) := by rw [ByteArray.size_extract]; omega
      clear hu'
      generalize upto 38 (bs s1) = u at *
      go_wp2_with fail
      refine (hcut.out _).mono ?_
      rintro e w1 ⟨rfl, hb1⟩
      have hB1 := hB.kept hb1
      go_wp2_with fail
      refine (write_any w.heap.size w.heap.size l (s1.extract 0 u) w1 hB1 (by omega) (by have := hb1.size; omega)).mono ?_
      rintro e w2 ⟨rfl, hB2, hb2⟩
      go_wp2_with fail
      refine (ht.out _).mono ?_
      rintro e w3 ⟨rfl, hb3⟩
      have hB3 := hB2.kept hb3
      go_wp2_with fail
      refine (write_any w.heap.size w.heap.size (l ++ bs (s1.extract 0 u)) (mk c) w3 hB3 (by rw [List.length_append, ← size_bs, size_mk]; omega) (by have := hb1.size; have := hb2.size; have := hb3.size; omega)).mono ?_
      rintro e w4 ⟨rfl, hB4, hb4⟩
      go_wp2
      refine ⟨⟨_, l ++ bs (s1.extract 0 u) ++ c, rfl, by omega, hB4, (((hbel.trans (hb1.mono (Nat.le_of_lt hsz))).trans hb2).trans (hb3.mono (by have := hb1.size; have := hb2.size; omega))).trans hb4, by have := hb1.size; have := hb2.size; have := hb3.size; have := hb4.size; omega, ?_, ?_⟩, ?_⟩
      · rw [List.length_append, List.length_append, ← size_bs]; omega
      · show _ = _
        rw [hxb.out, hlo.out, ← HD.out, HS.out]; simp
      · simp only; omega
    · have hcut : Hid (∀ w, Calls Tryz.prog 45 #[.string s1, .string ⟨#[38]⟩] w fun e w' => e = .returned (.tuple #[.string s1, .string ⟨#[]⟩, .bool false]) ∧ Below w.heap.size w w') := fun w => cut_no s1 38 w hu
      have HF : Hid (l ++ bs s1 = dec attr (bs s)) := by have := HD.out; rwa [dec_none attr (bs s1) (by rw [← size_bs]; exact hu)] at this
      clear hu HD
      go_wp2_with fail
      refine (hcut.out _).mono ?_
      rintro e w1 ⟨rfl, hb1⟩
      have hB1 := hB.kept hb1
      go_wp2_with fail
      refine (write_any w.heap.size w.heap.size l s1 w1 hB1 (by omega) (by have := hb1.size; omega)).mono ?_
      rintro e w2 ⟨rfl, hB2, hb2⟩
      go_wp2_with fail
      refine (string_any w.heap.size w.heap.size _ w2 hB2 (by have := hb1.size; have := hb2.size; omega)).mono ?_
      rintro e w3 ⟨rfl, hb3⟩
      go_wp2
      go_ret
      exact ⟨by rw [HF.out]; rfl, ((hbel.trans (hb1.mono (Nat.le_of_lt hsz))).trans hb2).trans hb3⟩
end Tym

namespace Tym
set_option linter.unusedSimpArgs false
set_option linter.unusedVariables false
open Go Go.RowKit Go.Proofs
attribute [local irreducible] dec taken upto

theorem size_append (a b : ByteArray) : (a ++ b).size = a.size + b.size := by rw [size_bs, bs_append, List.length_append, ← size_bs, ← size_bs]

set_option maxHeartbeats 2000000 in
theorem decodeR_any (s : ByteArray) (attr : Bool) (w : World) (hs : s.size ≤ 1000000000) : Calls Tryz.prog 28 #[.string s, .bool attr] w fun e w' => e = .returned (.string (mk (dec attr (bs s)))) ∧ Below w.heap.size w w' := by
  go_enter Tryz.func28, Tryz.ntmps28
  go_wp2_with fail
  go_loopw [0, 5] (fun v o wr => ∃ (s1 o1 : ByteArray), v = .string s1 ∧ o = .string o1 ∧ s1.size ≤ s.size ∧ Below w.heap.size w wr ∧ o1.size ≤ 6 * (s.size - s1.size) ∧ Hid (bs o1 ++ dec attr (bs s1) = dec attr (bs s))) (fun v _ _ => match v with | .string s1 => s1.size | _ => 0)
  case atStart => exact ⟨s, ⟨#[]⟩, rfl, rfl, Nat.le_refl _, Below.refl _ _, Nat.zero_le _, rfl⟩
  case round =>
    obtain ⟨s1, o1, rfl, rfl, hs1, hbel, hlen, HD⟩ := hrel
    by_cases h0 : 0 < s1.size
    · have hd0 : Hid (bs s1 = s1[0] :: (bs s1).drop 1) := by have := drop_bs s1 0 h0; rwa [List.drop_zero] at this
      have h1 : bs (s1.extract 0 1) = [s1[0]] := by rw [bs_to, hd0.out]; rfl
      have h2 : bs (s1.extract 1 s1.size) = (bs s1).drop 1 := bs_from _ _
      have hz1 : (s1.extract 0 1).size = 1 := by rw [ByteArray.size_extract]; omega
      have hz2 : (s1.extract 1 s1.size).size = s1.size - 1 := by rw [ByteArray.size_extract]; omega
      have H1 := Lib.hid h1
      have H2 := Lib.hid h2
      clear h1 h2
      rcases Bool.eq_false_or_eq_true ((s1[0].toNat : Int) == (38 : Nat)) with h38 | h38
      · have hne : ((s1[0].toNat : Int) != 38) = false := bne_of _ _ _ h38
        have hc := byte_yes _ 38 (by decide) h38
        have HT : Hid (dec attr (bs s1) = (taken (bs s1) attr).1 ++ dec attr ((bs s1).drop (taken (bs s1) attr).2)) := by
          show _ = _
          have e : bs s1 = 38 :: (bs s1).drop 1 := by have := hd0.out; rw [hc] at this; exact this
          rw [e]; exact dec_amp attr _
        have ht : Hid (∀ w, Calls Tryz.prog 61 #[.string s1, .bool attr] w fun e w' => e = .returned (.tuple #[.string (mk (taken (bs s1) attr).1), .int .i64 (taken (bs s1) attr).2]) ∧ Below w.heap.size w w') := fun w => one_any s1 attr w (by omega) h0
        have htl := taken_len (bs s1) attr
        have htp := taken_pos (bs s1) attr
        have hte := taken_le (bs s1) attr (by rw [hd0.out]; simp)
        rw [← size_bs] at hte
        generalize taken (bs s1) attr = t at *
        obtain ⟨c, n⟩ := t
        simp only at htl htp hte HT ht
        have hxs : (s1.extract n s1.size).size = s1.size - n := by rw [ByteArray.size_extract]; omega
        have hcs : (mk c).size ≤ 6 := by rw [size_mk]; exact htl
        clear h38 hc
        go_wp2_with (go_at_call 61; (with_reducible refine (ht.out _).mono ?_); rintro e w' ⟨rfl, hb⟩)
        refine ⟨⟨_, _, rfl, rfl, by omega, hbel.trans (hb.mono hbel.size), by rw [size_append]; omega, ?_⟩, by simp only; omega⟩
        show _ = _
        rw [bs_append, bs_mk, bs_from, ← HD.out, HT.out]; simp
      · have hne : ((s1[0].toNat : Int) != 38) = true := bne_of _ _ _ h38
        have hc := byte_no _ 38 (by decide) h38
        have HT : Hid (dec attr (bs s1) = s1[0] :: dec attr ((bs s1).drop 1)) := by
          show dec attr (bs s1) = _
          conv => lhs; rw [hd0.out]
          exact dec_cons attr _ _ hc
        clear h38 hc
        go_wp2
        refine ⟨⟨_, _, rfl, rfl, by omega, hbel, by rw [size_append]; omega, ?_⟩, by simp only; omega⟩
        show _ = _
        rw [bs_append, H1.out, H2.out, ← HD.out, HT.out]; simp
    · have hb : bs s1 = [] := List.eq_nil_of_length_eq_zero (by rw [← size_bs]; omega)
      have HF : Hid (bs o1 = dec attr (bs s)) := by have := HD.out; rw [hb, dec_nil, List.append_nil] at this; exact this
      clear HD hb
      go_wp2
      go_ret
      exact ⟨ret_str (by rw [← HF.out, mk_bs]), hbel⟩
end Tym
