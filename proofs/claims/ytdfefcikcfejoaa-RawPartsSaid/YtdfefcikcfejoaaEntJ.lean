/- The walks of Decode, of both. -/
import Derived.Test.YtdfefcikcfejoaaEntH
import Derived.Test.YtdfefcikcfejoaaEntI
set_option linter.unusedSimpArgs false
set_option linter.unusedVariables false
open Go Go.RowKit Go.Proofs
namespace Tym

theorem enc_len (r : Int) : (enc r).length ≤ 4 := by
  unfold enc Go.Utf8.encode
  simp only
  generalize (if Go.Utf8.valid r then r.toNat else Go.Utf8.runeError) = c
  (repeat' split) <;> simp

theorem taken_len (s : Bs) (attr : Bool) : (taken s attr).1.length ≤ 6 := by
  unfold taken
  simp only
  split
  · have := enc_len (number (numeric 16777216 s).1)
    simp only; omega
  · split
    · simp
    · have hb := namedR_best (s.drop 1)
      rw [← named_eq] at hb
      have hp : ∀ e ∈ table, e.is.length ≤ 6 := by decide +kernel
      rcases hb with ⟨h1, _⟩ | ⟨e, he, _, h3, _⟩
      · rw [h1]; simp
      · simp only; rw [h3]; exact hp e he

theorem dec_none (attr : Bool) (s : Bs) (h : ¬ upto 38 s < s.length) : dec attr s = s := by
  have h1 : s.take (upto 38 s) = s := List.take_of_length_le (by omega)
  have h2 := not_mem_upto 38 s
  rw [h1] at h2
  have := dec_plain attr s [] h2
  simpa [dec_nil] using this

theorem dec_some (attr : Bool) (s : Bs) (h : upto 38 s < s.length) : dec attr s = s.take (upto 38 s) ++ ((taken (s.drop (upto 38 s)) attr).1 ++ dec attr ((s.drop (upto 38 s)).drop (taken (s.drop (upto 38 s)) attr).2)) := by
  conv => lhs; rw [← List.take_append_drop (upto 38 s) s]
  rw [dec_plain _ _ _ (not_mem_upto 38 s)]
  congr 1
  rw [drop_upto 38 s h]
  exact dec_amp attr _

attribute [local irreducible] dec taken upto

theorem cutc_yes (s : ByteArray) (w : World) (hs : s.size ≤ 1000000000) (u : Nat) (hu : u = upto 38 (bs s)) (h : u < s.size) : Calls Try.prog 21 #[.string s, .string ⟨#[38]⟩] w fun e w' => e = .returned (.tuple #[.string (s.extract 0 u), .string (s.extract (u + 1) s.size), .bool true]) ∧ Below w.heap.size w w' := by
  subst hu; exact cut_yes s 38 w hs h

set_option maxHeartbeats 2000000 in
theorem decode_any (s : ByteArray) (attr : Bool) (w : World) (hs : s.size ≤ 1000000000) : Calls Try.prog 13 #[.string s, .bool attr] w fun e w' => e = .returned (.string (mk (dec attr (bs s)))) ∧ Below w.heap.size w w' := by
  go_enter Try.func13, Try.ntmps13
  go_wp2_with fail
  go_loopw [0] (fun v wr => ∃ (s1 : ByteArray) (l : Bs), v = .string s1 ∧ s1.size ≤ s.size ∧ Bld w.heap.size w.heap.size l wr ∧ Below w.heap.size w wr ∧ w.heap.size < wr.heap.size ∧ l.length ≤ 6 * (s.size - s1.size) ∧ Hid (l ++ dec attr (bs s1) = dec attr (bs s))) (fun v _ => match v with | .string s1 => s1.size | _ => 0)
  case atStart => exact ⟨s, [], rfl, Nat.le_refl _, Lib.fresh_isBuilder _ _ _, (Below.refl _ _).alloc (Nat.le_refl _) _, by simp, by simp, rfl⟩
  case round =>
    obtain ⟨s1, l, rfl, hs1, hB, hbel, hsz, hlen, HD⟩ := hrel
    by_cases hu : upto 38 (bs s1) < s1.size
    · have hu' : upto 38 (bs s1) < (bs s1).length := by rw [← size_bs]; exact hu
      have HS : Hid (dec attr (bs s1) = (bs s1).take (upto 38 (bs s1)) ++ ((taken ((bs s1).drop (upto 38 (bs s1))) attr).1 ++ dec attr (((bs s1).drop (upto 38 (bs s1))).drop (taken ((bs s1).drop (upto 38 (bs s1))) attr).2))) := dec_some attr (bs s1) hu'
      have hcut : Hid (∀ w, Calls Try.prog 21 #[.string s1, .string ⟨#[38]⟩] w fun e w' => e = .returned (.tuple #[.string (s1.extract 0 (upto 38 (bs s1))), .string (s1.extract (upto 38 (bs s1) + 1) s1.size), .bool true]) ∧ Below w.heap.size w w') := fun w => cut_yes s1 38 w (by omega) hu
      have ht : Hid (∀ w, Calls Try.prog 24 #[.string (s1.extract (upto 38 (bs s1)) s1.size), .bool attr] w fun e w' => e = .returned (.tuple #[.string (mk (taken ((bs s1).drop (upto 38 (bs s1))) attr).1), .int .i64 (taken ((bs s1).drop (upto 38 (bs s1))) attr).2]) ∧ Below w.heap.size w w') := fun w => by
        rw [← bs_from]
        exact taken_any _ attr w (by rw [ByteArray.size_extract]; omega) (by rw [ByteArray.size_extract]; omega)
      have htl := taken_len ((bs s1).drop (upto 38 (bs s1))) attr
      have htp := taken_pos ((bs s1).drop (upto 38 (bs s1))) attr
      have hte := taken_le ((bs s1).drop (upto 38 (bs s1))) attr (by rw [drop_upto 38 (bs s1) hu']; simp)
      rw [List.length_drop, ← size_bs] at hte
      generalize taken ((bs s1).drop (upto 38 (bs s1))) attr = t at *
      obtain ⟨c, n⟩ := t
      simp only at htl htp hte HS ht
      have hxs : ((s1.extract (upto 38 (bs s1)) s1.size).extract n (s1.size - upto 38 (bs s1))).size = s1.size - upto 38 (bs s1) - n := by
        rw [ByteArray.size_extract, ByteArray.size_extract]; omega
      have hxb : Hid (bs ((s1.extract (upto 38 (bs s1)) s1.size).extract n (s1.size - upto 38 (bs s1))) = ((bs s1).drop (upto 38 (bs s1))).drop n) := by
        have e : (s1.extract (upto 38 (bs s1)) s1.size).size = s1.size - upto 38 (bs s1) := by rw [ByteArray.size_extract]; omega
        show bs _ = _
        rw [← e, bs_from, bs_from]
      have hlo : Hid (bs (s1.extract 0 (upto 38 (bs s1))) = (bs s1).take (upto 38 (bs s1))) := bs_to _ _
      have hsl : (s1.extract 0 (upto 38 (bs s1))).size = upto 38 (bs s1) := by rw [ByteArray.size_extract]; omega
      have hsr : (s1.extract (upto 38 (bs s1)) s1.size).size = s1.size - upto 38 (bs s1) := by rw [ByteArray.size_extract]; omega
      clear hu'
      generalize upto 38 (bs s1) = u at *
      go_wp2_with fail
      refine (hcut.out _).mono ?_
      rintro e w1 ⟨rfl, hb1⟩
      have hB1 := hB.kept hb1
      go_wp2_with fail
      refine (write_any w.heap.size w.heap.size l (s1.extract 0 u) w1 hB1 (by omega) (by have := hb1.size; omega)).mono ?_
      rintro e w2 ⟨rfl, hB2, hb2⟩
      go_wp2_with fail
      refine (ht.out _).mono ?_
      rintro e w3 ⟨rfl, hb3⟩
      have hB3 := hB2.kept hb3
      go_wp2_with fail
      refine (write_any w.heap.size w.heap.size (l ++ bs (s1.extract 0 u)) (mk c) w3 hB3 (by rw [List.length_append, ← size_bs, size_mk]; omega) (by have := hb1.size; have := hb2.size; have := hb3.size; omega)).mono ?_
      rintro e w4 ⟨rfl, hB4, hb4⟩
      go_wp2
      refine ⟨⟨_, l ++ bs (s1.extract 0 u) ++ c, rfl, by omega, hB4, (((hbel.trans (hb1.mono (Nat.le_of_lt hsz))).trans hb2).trans (hb3.mono (by have := hb1.size; have := hb2.size; omega))).trans hb4, by have := hb1.size; have := hb2.size; have := hb3.size; have := hb4.size; omega, ?_, ?_⟩, ?_⟩
      · rw [List.length_append, List.length_append, ← size_bs]; omega
      · show _ = _
        rw [hxb.out, hlo.out, ← HD.out, HS.out]; simp
      · simp only; omega
    · have hcut : Hid (∀ w, Calls Try.prog 21 #[.string s1, .string ⟨#[38]⟩] w fun e w' => e = .returned (.tuple #[.string s1, .string ⟨#[]⟩, .bool false]) ∧ Below w.heap.size w w') := fun w => cut_no s1 38 w hu
      have HF : Hid (l ++ bs s1 = dec attr (bs s)) := by have := HD.out; rwa [dec_none attr (bs s1) (by rw [← size_bs]; exact hu)] at this
      clear hu HD
      go_wp2_with fail
      refine (hcut.out _).mono ?_
      rintro e w1 ⟨rfl, hb1⟩
      have hB1 := hB.kept hb1
      go_wp2_with fail
      refine (write_any w.heap.size w.heap.size l s1 w1 hB1 (by omega) (by have := hb1.size; omega)).mono ?_
      rintro e w2 ⟨rfl, hB2, hb2⟩
      go_wp2_with fail
      refine (string_any w.heap.size w.heap.size _ w2 hB2 (by have := hb1.size; have := hb2.size; omega)).mono ?_
      rintro e w3 ⟨rfl, hb3⟩
      go_wp2
      go_ret
      exact ⟨by rw [HF.out]; rfl, ((hbel.trans (hb1.mono (Nat.le_of_lt hsz))).trans hb2).trans hb3⟩
end Tym
