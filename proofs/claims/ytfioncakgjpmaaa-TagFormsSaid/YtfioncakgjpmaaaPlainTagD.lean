/- Plain: how many attributes a tag may have. No program in sight. -/
import Derived.Test.YtfioncakgjpmaaaPlainTagB
set_option linter.unusedVariables false
namespace Tym

theorem addAtt_len (l : List Att) (a : Att) : (addAtt l a).length ≤ l.length + 1 := by
  unfold addAtt
  split
  · omega
  · simp

theorem tagF_len : ∀ f l r l' c u, tagF f l r = some (l', c, u) → l'.length ≤ l.length + r.length := by
  intro f
  induction f with
  | zero => intro l r l' c u h; cases h
  | succ f ih =>
    intro l r l' cl u h
    unfold tagF at h
    have h0 := drop_while_len isSpace r
    cases hr : r.dropWhile isSpace with
    | nil => rw [hr] at h; cases h
    | cons c t =>
      rw [hr] at h h0
      rw [List.length_cons] at h0
      simp only at h
      by_cases h1 : c = 62
      · rw [if_pos h1] at h
        simp only [Option.some.injEq, Prod.mk.injEq] at h
        rw [← h.1]; omega
      · rw [if_neg h1] at h
        by_cases h2 : c = 47
        · rw [if_pos h2] at h
          by_cases h3 : t.head? = some 62
          · rw [if_pos h3] at h
            simp only [Option.some.injEq, Prod.mk.injEq] at h
            rw [← h.1]; omega
          · rw [if_neg h3] at h
            have := ih l t l' cl u h; omega
        · rw [if_neg h2] at h
          cases ha : attrOf c t with
          | none => rw [ha] at h; cases h
          | some p =>
            rw [ha] at h
            simp only at h
            have := ih _ _ l' cl u h
            have h5 := attr_len c t p.1 p.2 ha
            have h6 := addAtt_len l p.1
            omega

theorem readTag_len (r : Bs) (o : TagOut) (h : readTag r = some o) : o.atts.length ≤ r.length := by
  unfold readTag at h
  by_cases hb : beginsTag r = true
  · rw [if_pos hb] at h
    by_cases h1 : r.tail.head? = some 47
    · rw [if_pos h1] at h
      cases ht : tagL [] (r.tail.tail.dropWhile namedB) with
      | none => rw [ht] at h; cases h
      | some p => rw [ht] at h; simp only [Option.some.injEq] at h; rw [← h]; exact Nat.zero_le _
    · rw [if_neg h1] at h
      cases ht : tagL [] (r.tail.dropWhile namedB) with
      | none => rw [ht] at h; cases h
      | some p =>
        rw [ht] at h
        simp only [Option.some.injEq] at h
        have h2 := tagF_len _ _ _ p.1 p.2.1 p.2.2 ht
        have h3 := drop_while_len namedB r.tail
        have h4 : r.tail.length ≤ r.length := by rw [List.length_tail]; omega
        rw [← h]
        simp only [List.length_nil] at h2
        show p.1.length ≤ r.length
        omega
  · rw [if_neg hb] at h; cases h
end Tym
