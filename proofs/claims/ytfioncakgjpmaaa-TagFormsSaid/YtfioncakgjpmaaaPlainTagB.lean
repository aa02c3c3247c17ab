/- Plain laws of a tag: its form; the size of its letters. No program in sight. -/
import Derived.Test.YtfioncakgjpmaaaPlainTag
import Derived.Test.YtfioncakgjpmaaaPlainRaw
set_option linter.unusedVariables false
namespace Tym

theorem dw_suffix (p : UInt8 → Bool) (r : Bs) : r.dropWhile p <:+ r := List.dropWhile_suffix p

theorem value_suffix (r v u : Bs) (h : valueOf r = some (v, u)) : u <:+ r := by
  unfold valueOf at h
  have h0 := dw_suffix isSpace r
  cases hr : r.dropWhile isSpace with
  | nil => rw [hr] at h; cases h
  | cons c t =>
    rw [hr] at h h0
    simp only at h
    by_cases hc : c = 34 ∨ c = 39
    · rw [if_pos hc] at h
      have h1 := dw_suffix (· != c) t
      cases hq : t.dropWhile (· != c) with
      | nil => rw [hq] at h; cases h
      | cons d w =>
        rw [hq] at h h1
        simp only [Option.some.injEq, Prod.mk.injEq] at h
        rw [← h.2]
        exact ((List.suffix_cons d w).trans h1).trans ((List.suffix_cons c t).trans h0)
    · rw [if_neg hc] at h
      simp only [Option.some.injEq, Prod.mk.injEq] at h
      rw [← h.2]
      exact (dw_suffix bareB (c :: t)).trans h0

theorem attr_suffix (c : UInt8) (t : Bs) (a : Att) (u : Bs) (h : attrOf c t = some (a, u)) : u <:+ t := by
  unfold attrOf at h
  have h0 := (dw_suffix isSpace (t.dropWhile keyB)).trans (dw_suffix keyB t)
  cases hr : (t.dropWhile keyB).dropWhile isSpace with
  | nil =>
    rw [hr] at h
    simp only [Option.some.injEq, Prod.mk.injEq] at h
    rw [← h.2]; exact List.nil_suffix
  | cons d w =>
    rw [hr] at h h0
    simp only at h
    by_cases hc : d = 61
    · rw [if_pos hc] at h
      cases hv : valueOf w with
      | none => rw [hv] at h; cases h
      | some p =>
        rw [hv] at h
        simp only [Option.some.injEq, Prod.mk.injEq] at h
        have h2 := value_suffix w p.1 p.2 hv
        rw [← h.2]; exact h2.trans ((List.suffix_cons d w).trans h0)
    · rw [if_neg hc] at h
      simp only [Option.some.injEq, Prod.mk.injEq] at h
      rw [← h.2]; exact h0

theorem attr_name (c : UInt8) (t : Bs) (a : Att) (u : Bs) (h : attrOf c t = some (a, u)) : a.1 = lower (c :: t.takeWhile keyB) := by
  unfold attrOf at h
  cases hr : (t.dropWhile keyB).dropWhile isSpace with
  | nil => rw [hr] at h; simp only [Option.some.injEq, Prod.mk.injEq] at h; rw [← h.1]
  | cons d w =>
    rw [hr] at h
    simp only at h
    by_cases hc : d = 61
    · rw [if_pos hc] at h
      cases hv : valueOf w with
      | none => rw [hv] at h; cases h
      | some p => rw [hv] at h; simp only [Option.some.injEq, Prod.mk.injEq] at h; rw [← h.1]
    · rw [if_neg hc] at h
      simp only [Option.some.injEq, Prod.mk.injEq] at h; rw [← h.1]

def goodC (c : UInt8) : Bool := !isSpace c && c != 62 && c != 47
def GoodN (n : Bs) : Prop := n ≠ [] ∧ lower n = n ∧ ∀ c ∈ n, goodC c = true
def GoodL (l : List Att) : Prop := (∀ a ∈ l, GoodN a.1) ∧ (l.map (·.1)).Nodup

theorem goodC_small (c : UInt8) : goodC (small c) = goodC c := byte_all (p := fun c => goodC (small c) = goodC c) (by decide +kernel) c
theorem key_good (c : UInt8) : keyB c = true → goodC c = true := byte_all (p := fun c => keyB c = true → goodC c = true) (by decide +kernel) c
theorem named_good (c : UInt8) : namedB c = true → goodC c = true := byte_all (p := fun c => namedB c = true → goodC c = true) (by decide +kernel) c

theorem tw_all (p : UInt8 → Bool) (r : Bs) : ∀ c ∈ r.takeWhile p, p c = true := by
  intro c hc
  have := List.all_takeWhile (p := p) (l := r)
  rw [List.all_eq_true] at this
  exact this c hc

theorem good_lower (l : Bs) (h0 : l ≠ []) (h : ∀ c ∈ l, goodC c = true) : GoodN (lower l) := by
  refine ⟨?_, lower_lower l, ?_⟩
  · intro he; apply h0; unfold lower at he; exact List.map_eq_nil_iff.1 he
  · intro c hc
    unfold lower at hc
    obtain ⟨d, hd, rfl⟩ := List.mem_map.1 hc
    rw [goodC_small]; exact h d hd

theorem attr_good (c : UInt8) (t : Bs) (a : Att) (u : Bs) (hc : goodC c = true) (h : attrOf c t = some (a, u)) : GoodN a.1 := by
  rw [attr_name c t a u h]
  refine good_lower _ (by simp) ?_
  intro d hd
  rcases List.mem_cons.1 hd with rfl | hd
  · exact hc
  · exact key_good d (tw_all keyB t d hd)

theorem addAtt_good (l : List Att) (a : Att) (h : GoodL l) (ha : GoodN a.1) : GoodL (addAtt l a) := by
  unfold addAtt
  by_cases hx : (l.any fun x => x.1 == a.1) = true
  · rw [if_pos hx]; exact h
  · rw [if_neg hx]
    refine ⟨?_, ?_⟩
    · intro b hb
      rcases List.mem_append.1 hb with hb | hb
      · exact h.1 b hb
      · rw [List.mem_singleton.1 hb]; exact ha
    · rw [List.map_append, List.nodup_append]
      refine ⟨h.2, by simp, ?_⟩
      intro x hx1 y hy he
      simp at hy
      subst hy
      subst he
      apply hx
      rw [List.any_eq_true]
      obtain ⟨b, hb, hbe⟩ := List.mem_map.1 hx1
      exact ⟨b, hb, by simp [hbe]⟩

theorem dw_head (p : UInt8 → Bool) (r : Bs) (c : UInt8) (t : Bs) (h : r.dropWhile p = c :: t) : p c = false := by
  have := List.head?_dropWhile_not p r
  rw [h] at this
  simpa using this

theorem tagF_form : ∀ f l r l' cl u, GoodL l → tagF f l r = some (l', cl, u) → GoodL l' ∧ (62 :: u) <:+ r := by
  intro f
  induction f with
  | zero => intro l r l' cl u _ h; cases h
  | succ f ih =>
    intro l r l' cl u hg h
    unfold tagF at h
    have h0 := dw_suffix isSpace r
    cases hr : r.dropWhile isSpace with
    | nil => rw [hr] at h; cases h
    | cons c t =>
      rw [hr] at h h0
      simp only at h
      have hsp := dw_head isSpace r c t hr
      by_cases h1 : c = 62
      · rw [if_pos h1] at h
        simp only [Option.some.injEq, Prod.mk.injEq] at h
        obtain ⟨rfl, rfl, rfl⟩ := h
        exact ⟨hg, by rw [← h1]; exact h0⟩
      · rw [if_neg h1] at h
        by_cases h2 : c = 47
        · rw [if_pos h2] at h
          by_cases h3 : t.head? = some 62
          · rw [if_pos h3] at h
            simp only [Option.some.injEq, Prod.mk.injEq] at h
            obtain ⟨rfl, rfl, rfl⟩ := h
            refine ⟨hg, ?_⟩
            cases t with
            | nil => simp at h3
            | cons d t =>
              simp at h3
              subst h3
              exact (List.suffix_cons c _).trans h0
          · rw [if_neg h3] at h
            obtain ⟨g, hs⟩ := ih l t l' cl u hg h
            exact ⟨g, hs.trans ((List.suffix_cons c t).trans h0)⟩
        · rw [if_neg h2] at h
          cases ha : attrOf c t with
          | none => rw [ha] at h; cases h
          | some p =>
            rw [ha] at h
            simp only at h
            have hgc : goodC c = true := by unfold goodC; rw [hsp]; simp [h1, h2]
            obtain ⟨g, hs⟩ := ih _ _ l' cl u (addAtt_good l p.1 hg (attr_good c t p.1 p.2 hgc ha)) h
            exact ⟨g, hs.trans ((attr_suffix c t p.1 p.2 ha).trans ((List.suffix_cons c t).trans h0))⟩

theorem letter_named (c : UInt8) : isLetter c = true → namedB c = true := byte_all (p := fun c => isLetter c = true → namedB c = true) (by decide +kernel) c

theorem begins_cons (r : Bs) (h : beginsTag r = true) : ∃ t, r = 60 :: t ∧ ((t.head? = some 47 ∧ ∃ d u, t = 47 :: d :: u ∧ isLetter d = true) ∨ (t.head? ≠ some 47 ∧ ∃ d u, t = d :: u ∧ isLetter d = true)) := by
  cases r with
  | nil => cases h
  | cons c t =>
    unfold beginsTag at h
    simp only [Bool.and_eq_true, beq_iff_eq] at h
    obtain ⟨rfl, h⟩ := h
    refine ⟨t, rfl, ?_⟩
    by_cases h1 : t.head? = some 47
    · rw [if_pos h1] at h
      cases t with
      | nil => cases h1
      | cons d t =>
        simp at h1; subst h1
        rw [List.tail_cons] at h
        cases t with
        | nil => cases h
        | cons e t => exact .inl ⟨rfl, e, t, rfl, h⟩
    · rw [if_neg h1] at h
      cases t with
      | nil => cases h
      | cons d t => exact .inr ⟨h1, d, t, rfl, h⟩

theorem readTag_form (r : Bs) (o : TagOut) (h : readTag r = some o) : ∃ a, r = 60 :: a ++ 62 :: o.rest ∧ GoodN o.name ∧ GoodL o.atts ∧ (o.kind = 2 ∨ o.kind = 3) := by
  unfold readTag at h
  by_cases hb : beginsTag r = true
  · rw [if_pos hb] at h
    obtain ⟨t, rfl, hh⟩ := begins_cons r hb
    have key : ∀ (d : UInt8) (u v : Bs), isLetter d = true → u = d :: v → GoodN (lower (u.takeWhile namedB)) := by
      intro d u v hd he
      subst he
      refine good_lower _ ?_ fun c hc => named_good c (tw_all namedB _ c hc)
      rw [List.takeWhile_cons, letter_named d hd]; simp
    rcases hh with ⟨h1, d, u, rfl, hd⟩ | ⟨h1, d, u, rfl, hd⟩
    · rw [if_pos (show (60 :: 47 :: d :: u : Bs).tail.head? = some 47 from rfl)] at h
      cases ht : tagL [] ((60 :: 47 :: d :: u : Bs).tail.tail.dropWhile namedB) with
      | none => rw [ht] at h; cases h
      | some p =>
        rw [ht] at h
        simp only [Option.some.injEq] at h
        obtain ⟨g, hs⟩ := tagF_form _ _ _ p.1 p.2.1 p.2.2 ⟨by simp, by simp⟩ ht
        obtain ⟨a, ha⟩ := hs.trans ((dw_suffix namedB (d :: u)).trans (List.suffix_cons 47 _))
        subst h
        refine ⟨a, ?_, key d _ u hd rfl, ⟨by simp, by simp⟩, .inr rfl⟩
        rw [← ha]; rfl
    · rw [if_neg (show ¬ (60 :: d :: u : Bs).tail.head? = some 47 from h1)] at h
      cases ht : tagL [] ((60 :: d :: u : Bs).tail.dropWhile namedB) with
      | none => rw [ht] at h; cases h
      | some p =>
        rw [ht] at h
        simp only [Option.some.injEq] at h
        obtain ⟨g, hs⟩ := tagF_form _ _ _ p.1 p.2.1 p.2.2 ⟨by simp, by simp⟩ ht
        obtain ⟨a, ha⟩ := hs.trans (dw_suffix namedB (d :: u))
        subst h
        refine ⟨a, ?_, key d _ u hd rfl, g, .inl rfl⟩
        rw [← ha]; rfl
  · rw [if_neg hb] at h; cases h

/-! The size of letters. -/
theorem dw_lower (p : UInt8 → Bool) (h : ∀ c, p (small c) = p c) (r : Bs) : (lower r).dropWhile p = lower (r.dropWhile p) := by
  induction r with
  | nil => rfl
  | cons c t ih =>
    unfold lower at ih ⊢
    rw [List.map_cons, List.dropWhile_cons, List.dropWhile_cons, h c]
    split
    · exact ih
    · rfl
theorem tw_lower (p : UInt8 → Bool) (h : ∀ c, p (small c) = p c) (r : Bs) : (lower r).takeWhile p = lower (r.takeWhile p) := by
  induction r with
  | nil => rfl
  | cons c t ih =>
    unfold lower at ih ⊢
    rw [List.map_cons, List.takeWhile_cons, List.takeWhile_cons, h c]
    split
    · rw [ih, List.map_cons]
    · rfl
theorem sp_small (c : UInt8) : isSpace (small c) = isSpace c := byte_all (p := fun c => isSpace (small c) = isSpace c) (by decide +kernel) c
theorem named_small (c : UInt8) : namedB (small c) = namedB c := byte_all (p := fun c => namedB (small c) = namedB c) (by decide +kernel) c
theorem key_small (c : UInt8) : keyB (small c) = keyB c := byte_all (p := fun c => keyB (small c) = keyB c) (by decide +kernel) c
theorem bare_small (c : UInt8) : bareB (small c) = bareB c := byte_all (p := fun c => bareB (small c) = bareB c) (by decide +kernel) c
theorem letter_small (c : UInt8) : isLetter (small c) = isLetter c := byte_all (p := fun c => isLetter (small c) = isLetter c) (by decide +kernel) c
theorem sign_small (x : UInt8) (h : x = 34 ∨ x = 39 ∨ x = 47 ∨ x = 60 ∨ x = 61 ∨ x = 62) (c : UInt8) : small c = x ↔ c = x := by
  rcases h with rfl | rfl | rfl | rfl | rfl | rfl
  · exact byte_all (p := fun c => small c = 34 ↔ c = 34) (by decide +kernel) c
  · exact byte_all (p := fun c => small c = 39 ↔ c = 39) (by decide +kernel) c
  · exact byte_all (p := fun c => small c = 47 ↔ c = 47) (by decide +kernel) c
  · exact byte_all (p := fun c => small c = 60 ↔ c = 60) (by decide +kernel) c
  · exact byte_all (p := fun c => small c = 61 ↔ c = 61) (by decide +kernel) c
  · exact byte_all (p := fun c => small c = 62 ↔ c = 62) (by decide +kernel) c

theorem lower_cons (c : UInt8) (t : Bs) : lower (c :: t) = small c :: lower t := rfl

theorem value_size (r : Bs) : match valueOf r with
    | none => valueOf (lower r) = none
    | some (v, u) => ∃ v', valueOf (lower r) = some (v', lower u) := by
  have e := dw_lower isSpace sp_small r
  unfold valueOf
  rw [e]
  cases hr : r.dropWhile isSpace with
  | nil => rfl
  | cons c t =>
    rw [lower_cons]
    simp only
    by_cases hc : c = 34 ∨ c = 39
    · have hcs : small c = c := by rcases hc with rfl | rfl <;> rfl
      rw [if_pos hc, hcs, if_pos hc]
      have hp : ∀ d, (fun x => x != c) (small d) = (fun x => x != c) d := by
        intro d
        have := sign_small c (by rcases hc with rfl | rfl <;> simp) d
        show (small d != c) = (d != c)
        rw [Bool.eq_iff_iff, bne_iff_ne, bne_iff_ne, Ne, Ne, this]
      rw [dw_lower _ hp t]
      cases hq : t.dropWhile (· != c) with
      | nil => rfl
      | cons d w => exact ⟨_, rfl⟩
    · have hcs : ¬ (small c = 34 ∨ small c = 39) := by
        rw [sign_small 34 (by simp) c, sign_small 39 (by simp) c]; exact hc
      rw [if_neg hc, if_neg hcs, ← lower_cons, dw_lower bareB bare_small]
      exact ⟨_, rfl⟩

theorem attr_size (c : UInt8) (t : Bs) : match attrOf c t with
    | none => attrOf (small c) (lower t) = none
    | some (a, u) => ∃ v', attrOf (small c) (lower t) = some ((a.1, v'), lower u) := by
  have e1 := dw_lower keyB key_small t
  have e2 := dw_lower isSpace sp_small (t.dropWhile keyB)
  have e3 := tw_lower keyB key_small t
  have e4 : lower (small c :: lower (t.takeWhile keyB)) = lower (c :: t.takeWhile keyB) := by rw [← lower_cons, lower_lower]
  unfold attrOf
  rw [e1, e2, e3, e4]
  cases hr : (t.dropWhile keyB).dropWhile isSpace with
  | nil => exact ⟨_, rfl⟩
  | cons d u =>
    rw [show lower (d :: u) = small d :: lower u from rfl]
    simp only
    by_cases hd : d = 61
    · rw [if_pos hd, if_pos ((sign_small 61 (by simp) d).2 hd)]
      have hv := value_size u
      cases hw : valueOf u with
      | none => rw [hw] at hv; simp only at hv; rw [hv]
      | some p =>
        rw [hw] at hv; simp only at hv
        obtain ⟨v', hv⟩ := hv
        rw [hv]; exact ⟨v', rfl⟩
    · rw [if_neg hd, if_neg (fun h => hd ((sign_small 61 (by simp) d).1 h))]
      exact ⟨_, rfl⟩

theorem add_size (l l' : List Att) (a : Att) (v : Bs) (h : l'.map (·.1) = l.map (·.1)) : (addAtt l' (a.1, v)).map (·.1) = (addAtt l a).map (·.1) := by
  have e : (l'.any fun x => x.1 == a.1) = (l.any fun x => x.1 == a.1) := by
    have : ∀ l : List Att, (l.any fun x => x.1 == a.1) = ((l.map (·.1)).any fun x => x == a.1) := fun l => by rw [List.any_map]; rfl
    rw [this l', this l, h]
  unfold addAtt
  rw [e]
  split
  · exact h
  · rw [List.map_append, List.map_append, h]; rfl

theorem tagF_size : ∀ f l l' r, l'.map (·.1) = l.map (·.1) → match tagF f l r with
    | none => tagF f l' (lower r) = none
    | some (k, cl, u) => ∃ k', tagF f l' (lower r) = some (k', cl, lower u) ∧ k'.map (·.1) = k.map (·.1) := by
  intro f
  induction f with
  | zero => intro l l' r _; rfl
  | succ f ih =>
    intro l l' r hl
    have e := dw_lower isSpace sp_small r
    unfold tagF
    rw [e]
    cases hr : r.dropWhile isSpace with
    | nil => rfl
    | cons c t =>
      rw [lower_cons]
      simp only
      by_cases h1 : c = 62
      · rw [if_pos h1, if_pos ((sign_small 62 (by simp) c).2 h1)]
        exact ⟨l', rfl, hl⟩
      · rw [if_neg h1, if_neg (fun h => h1 ((sign_small 62 (by simp) c).1 h))]
        by_cases h2 : c = 47
        · rw [if_pos h2, if_pos ((sign_small 47 (by simp) c).2 h2)]
          have hh : (lower t).head? = some 62 ↔ t.head? = some 62 := by
            cases t with
            | nil => simp [lower]
            | cons d t => rw [lower_cons]; simp [sign_small 62 (by simp) d]
          by_cases h3 : t.head? = some 62
          · rw [if_pos h3, if_pos (hh.2 h3)]
            refine ⟨l', ?_, hl⟩
            cases t <;> rfl
          · rw [if_neg h3, if_neg (fun h => h3 (hh.1 h))]
            exact ih l l' t hl
        · rw [if_neg h2, if_neg (fun h => h2 ((sign_small 47 (by simp) c).1 h))]
          have ha := attr_size c t
          cases hq : attrOf c t with
          | none => rw [hq] at ha; simp only at ha; rw [ha]
          | some p =>
            rw [hq] at ha; simp only at ha
            obtain ⟨v', ha⟩ := ha
            rw [ha]
            exact ih _ _ _ (add_size l l' p.1 v' hl)

theorem tagL_size (r : Bs) : match tagL [] r with
    | none => tagL [] (lower r) = none
    | some (k, cl, u) => ∃ k', tagL [] (lower r) = some (k', cl, lower u) ∧ k'.map (·.1) = k.map (·.1) := by
  have := tagF_size r.length [] [] r rfl
  unfold tagL
  rw [lower_len]
  exact this

theorem begins_size (r : Bs) : beginsTag (lower r) = beginsTag r := by
  cases r with
  | nil => rfl
  | cons c t =>
    unfold beginsTag
    rw [lower_cons]
    simp only
    have h60 : (small c == 60) = (c == 60) := by rw [Bool.eq_iff_iff, beq_iff_eq, beq_iff_eq]; exact sign_small 60 (by simp) c
    rw [h60]
    congr 1
    have hh : (lower t).head? = some 47 ↔ t.head? = some 47 := by
      cases t with
      | nil => simp [lower]
      | cons d t => rw [lower_cons]; simp [sign_small 47 (by simp) d]
    have ht : (lower t).tail = lower t.tail := by cases t <;> rfl
    rw [show (if (lower t).head? = some 47 then (lower t).tail else lower t) = lower (if t.head? = some 47 then t.tail else t) from by
      by_cases h : t.head? = some 47
      · rw [if_pos h, if_pos (hh.2 h), ht]
      · rw [if_neg h, if_neg (fun x => h (hh.1 x))]]
    cases (if t.head? = some 47 then t.tail else t) with
    | nil => rfl
    | cons d u => exact letter_small d

theorem readTag_size (r : Bs) : match readTag r with
    | none => readTag (lower r) = none
    | some o => ∃ l', readTag (lower r) = some ⟨o.kind, o.name, l', o.closing, lower o.rest⟩ ∧ l'.map (·.1) = o.atts.map (·.1) := by
  unfold readTag
  rw [begins_size]
  by_cases hb : beginsTag r = true
  · rw [if_pos hb, if_pos hb]
    have htl : ∀ t : Bs, (lower t).tail = lower t.tail := fun t => by cases t <;> rfl
    rw [htl r]
    have hh : ∀ t : Bs, (lower t).head? = some 47 ↔ t.head? = some 47 := by
      intro t
      cases t with
      | nil => simp [lower]
      | cons d t => rw [lower_cons]; simp [sign_small 47 (by simp) d]
    by_cases h : r.tail.head? = some 47
    · rw [if_pos h, if_pos ((hh _).2 h), htl, dw_lower namedB named_small, tw_lower namedB named_small, lower_lower]
      have := tagL_size (r.tail.tail.dropWhile namedB)
      cases hq : tagL [] (r.tail.tail.dropWhile namedB) with
      | none => rw [hq] at this; simp only at this; rw [this]
      | some p =>
        rw [hq] at this; simp only at this
        obtain ⟨k', e, he⟩ := this
        rw [e]; exact ⟨[], rfl, rfl⟩
    · rw [if_neg h, if_neg (fun x => h ((hh _).1 x)), dw_lower namedB named_small, tw_lower namedB named_small, lower_lower]
      have := tagL_size (r.tail.dropWhile namedB)
      cases hq : tagL [] (r.tail.dropWhile namedB) with
      | none => rw [hq] at this; simp only at this; rw [this]
      | some p =>
        rw [hq] at this; simp only at this
        obtain ⟨k', e, he⟩ := this
        rw [e]; exact ⟨k', rfl, he⟩
  · rw [if_neg hb, if_neg hb]
end Tym
