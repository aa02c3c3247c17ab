/- What the reader's attr does, whatever stands there. -/
import Derived.Test.YtfioncakgjpmaaaTagD
set_option linter.unusedSimpArgs false
set_option linter.unusedVariables false
open Go Go.RowKit Go.Proofs
namespace Tym
set_option maxRecDepth 20000

theorem name_text (p : UInt8 → Bool) (s : ByteArray) (k : Nat) (c : UInt8) (t : Bs) (hd : (bs s).drop k = c :: t) (ht : (bs s).drop (k + 1) = t) : bs (s.extract k (skip p s (k + 1))) = c :: t.takeWhile p := by
  rw [bs_extract, hd]
  unfold skip
  rw [ht, show k + 1 + (t.takeWhile p).length - k = (t.takeWhile p).length + 1 from by omega, List.take_succ_cons, ← take_while_take]

/-- What an attribute is that begins with the byte c, and where the reader is behind it. -/
theorem attr_some (b : Nat) (s : ByteArray) (k : Nat) (w : World) (hs : s.size ≤ 1000000) (hk : k < s.size) (hb : RdAt w b s k) (c : UInt8) (t : Bs) (hd : (bs s).drop k = c :: t) (n v u : Bs) (h : attrOf c t = some ((n, v), u)) :
    Calls Try.prog 24 #[.pointer (some ⟨b, 0, none⟩)] w fun e w' => e = .returned (.tuple #[.agg #[.string (mk n), .string (mk v)], .bool true]) ∧ RdAt w' b s (s.size - u.length) ∧ w.grownBy w' (some b) := by
  obtain ⟨_, hc, ht⟩ := drop_cons_get s k c t hd
  have hs2 := skip_le keyB s (k + 1) (by omega)
  have hs3 := skip_le isSpace s (skip keyB s (k + 1)) (by omega)
  have hd2 := skip_drop keyB s (k + 1)
  have hd3 := skip_drop isSpace s (skip keyB s (k + 1))
  rw [ht] at hd2
  rw [hd2] at hd3
  have hn : mk (lower (bs (s.extract k (skip keyB s (k + 1))))) = mk (lower (c :: t.takeWhile keyB)) := by rw [name_text keyB s k c t hd ht]
  unfold attrOf at h
  cases hr : (t.dropWhile keyB).dropWhile isSpace with
  | nil =>
    rw [hr] at h hd3
    simp only [Option.some.injEq, Prod.mk.injEq] at h
    obtain ⟨⟨rfl, rfl⟩, rfl⟩ := h
    have he := (drop_nil_iff s _ hs3.2).1 hd3
    have := attr_plain b s k _ _ w hs hk hb rfl rfl _ hn.symm 0 false (fun h => by cases h) (fun w hb => see_out b s _ w hs he hb)
    rw [drop_len s _ _ hs3.2 hd3] at this
    exact this
  | cons d x =>
    rw [hr] at h hd3
    simp only at h
    obtain ⟨hlt3, hc3, ht3⟩ := drop_cons_get s _ d x hd3
    by_cases hq : d = 61
    · rw [if_pos hq] at h
      cases hv : valueOf x with
      | none => rw [hv] at h; cases h
      | some p =>
        rw [hv] at h
        simp only [Option.some.injEq, Prod.mk.injEq] at h
        have := attr_value b s k _ _ w hs hk hb rfl rfl _ hn.symm (mk p.1) (s.size - p.2.length) true hlt3
          (fun w hb => (value_some b s _ w hs (by omega) hb p.1 p.2 (by rw [ht3]; exact hv)).mono fun _ _ h => ⟨⟨_, h.1, fun _ => ⟨rfl, h.2.1⟩⟩, h.2.2⟩)
          (fun w hb => by have := see_in b s _ w hs hlt3 hb; rw [hc3, hq] at this; exact this)
        refine this.mono ?_
        rintro e w' ⟨⟨v', rfl, hv'⟩, hg⟩
        obtain ⟨rfl, hr'⟩ := hv' rfl
        rw [h.1.1, h.1.2, h.2] at *
        exact ⟨rfl, hr', hg⟩
    · rw [if_neg hq] at h
      simp only [Option.some.injEq, Prod.mk.injEq] at h
      have := attr_plain b s k _ _ w hs hk hb rfl rfl _ hn.symm (d.toNat : Int) true (fun _ => by rw [bne_iff_ne]; intro h; apply hq; exact UInt8.toNat.inj (by simpa using (by omega : d.toNat = 61)))
        (fun w hb => by have := see_in b s _ w hs hlt3 hb; rw [hc3] at this; exact this)
      rw [h.1.1, drop_len s _ _ hs3.2 hd3, h.2] at this
      rw [← h.1.2]
      exact this

theorem attr_none (b : Nat) (s : ByteArray) (k : Nat) (w : World) (hs : s.size ≤ 1000000) (hk : k < s.size) (hb : RdAt w b s k) (c : UInt8) (t : Bs) (hd : (bs s).drop k = c :: t) (h : attrOf c t = none) :
    Calls Try.prog 24 #[.pointer (some ⟨b, 0, none⟩)] w fun e w' => (∃ n v, e = .returned (.tuple #[.agg #[.string n, .string v], .bool false])) ∧ w.grownBy w' (some b) := by
  obtain ⟨_, hc, ht⟩ := drop_cons_get s k c t hd
  have hs2 := skip_le keyB s (k + 1) (by omega)
  have hs3 := skip_le isSpace s (skip keyB s (k + 1)) (by omega)
  have hd2 := skip_drop keyB s (k + 1)
  have hd3 := skip_drop isSpace s (skip keyB s (k + 1))
  rw [ht] at hd2
  rw [hd2] at hd3
  unfold attrOf at h
  cases hr : (t.dropWhile keyB).dropWhile isSpace with
  | nil => rw [hr] at h; cases h
  | cons d x =>
    rw [hr] at h hd3
    simp only at h
    obtain ⟨hlt3, hc3, ht3⟩ := drop_cons_get s _ d x hd3
    by_cases hq : d = 61
    · rw [if_pos hq] at h
      cases hv : valueOf x with
      | some p => rw [hv] at h; cases h
      | none =>
        have := attr_value b s k _ _ w hs hk hb rfl rfl _ rfl ⟨#[]⟩ 0 false hlt3
          (fun w hb => (value_none b s _ w hs (by omega) hb (by rw [ht3]; exact hv)).mono fun _ _ h => by obtain ⟨⟨t, h1⟩, h2⟩ := h; exact ⟨⟨t, h1, fun h => by cases h⟩, h2⟩)
          (fun w hb => by have := see_in b s _ w hs hlt3 hb; rw [hc3, hq] at this; exact this)
        refine this.mono ?_
        rintro e w' ⟨⟨v', rfl, hv'⟩, hg⟩
        exact ⟨⟨_, _, rfl⟩, hg⟩
    · rw [if_neg hq] at h; cases h
end Tym
