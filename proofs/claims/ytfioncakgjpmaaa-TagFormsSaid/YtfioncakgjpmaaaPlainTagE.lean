/- Plain: how long a tag's names may be. No program in sight. -/
import Derived.Test.YtfioncakgjpmaaaPlainTagD
set_option linter.unusedVariables false
namespace Tym

theorem tw_len (p : UInt8 → Bool) (r : Bs) : (r.takeWhile p).length ≤ r.length := (List.takeWhile_prefix p).length_le

theorem tagF_names : ∀ f N l r l' c u, r.length ≤ N → (∀ a ∈ l, a.1.length ≤ N) → tagF f l r = some (l', c, u) → ∀ a ∈ l', a.1.length ≤ N := by
  intro f
  induction f with
  | zero => intro N l r l' c u _ _ h; cases h
  | succ f ih =>
    intro N l r l' cl u hN hl h
    unfold tagF at h
    have h0 := drop_while_len isSpace r
    cases hr : r.dropWhile isSpace with
    | nil => rw [hr] at h; cases h
    | cons c t =>
      rw [hr] at h h0
      rw [List.length_cons] at h0
      simp only at h
      by_cases h1 : c = 62
      · rw [if_pos h1] at h
        simp only [Option.some.injEq, Prod.mk.injEq] at h
        rw [← h.1]; exact hl
      · rw [if_neg h1] at h
        by_cases h2 : c = 47
        · rw [if_pos h2] at h
          by_cases h3 : t.head? = some 62
          · rw [if_pos h3] at h
            simp only [Option.some.injEq, Prod.mk.injEq] at h
            rw [← h.1]; exact hl
          · rw [if_neg h3] at h
            exact ih N l t l' cl u (by omega) hl h
        · rw [if_neg h2] at h
          cases ha : attrOf c t with
          | none => rw [ha] at h; cases h
          | some p =>
            rw [ha] at h
            simp only at h
            have h5 := attr_len c t p.1 p.2 ha
            have h6 := attr_name c t p.1 p.2 ha
            have h7 := tw_len keyB t
            refine ih N _ _ l' cl u (by omega) ?_ h
            intro a hm
            unfold addAtt at hm
            split at hm
            · exact hl a hm
            · rcases List.mem_append.1 hm with hm | hm
              · exact hl a hm
              · rw [List.mem_singleton.1 hm, h6, lower_len, List.length_cons]; omega

theorem readTag_names (r : Bs) (o : TagOut) (h : readTag r = some o) : o.name.length ≤ r.length ∧ ∀ a ∈ o.atts, a.1.length ≤ r.length := by
  unfold readTag at h
  have e1 : r.tail.length ≤ r.length := by rw [List.length_tail]; omega
  have e2 : r.tail.tail.length ≤ r.length := by rw [List.length_tail, List.length_tail]; omega
  by_cases hb : beginsTag r = true
  · rw [if_pos hb] at h
    by_cases h1 : r.tail.head? = some 47
    · rw [if_pos h1] at h
      cases ht : tagL [] (r.tail.tail.dropWhile namedB) with
      | none => rw [ht] at h; cases h
      | some p =>
        rw [ht] at h; simp only [Option.some.injEq] at h
        have := tw_len namedB r.tail.tail
        rw [← h]
        refine ⟨?_, by simp⟩
        show (lower _).length ≤ _
        rw [lower_len]; omega
    · rw [if_neg h1] at h
      cases ht : tagL [] (r.tail.dropWhile namedB) with
      | none => rw [ht] at h; cases h
      | some p =>
        rw [ht] at h
        simp only [Option.some.injEq] at h
        have := tw_len namedB r.tail
        have h3 := drop_while_len namedB r.tail
        have h2 := tagF_names _ r.length _ _ p.1 p.2.1 p.2.2 (by omega) (by simp) ht
        rw [← h]
        refine ⟨?_, h2⟩
        show (lower _).length ≤ _
        rw [lower_len]; omega
  · rw [if_neg hb] at h; cases h
end Tym
