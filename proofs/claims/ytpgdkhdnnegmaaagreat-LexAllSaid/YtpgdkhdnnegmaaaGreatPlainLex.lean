/- The plain functions of lex: a token, all tokens, over what stands from a place on. -/
import Derived.Test.YtpgdkhdnnegmaaaGreatNoteI
import Derived.Test.YtpgdkhdnnegmaaaGreatRawG
set_option linter.unusedVariables false
open Go Go.RowKit Go.Proofs
namespace Tym

def markup (r : Bs) : Bool := beginsTag r || beginsNote r
/-- How far text goes. -/
def upMark : Bs → Nat
  | [] => 0
  | c :: t => if markup (c :: t) then 0 else 1 + upMark t
theorem upMark_le (r : Bs) : upMark r ≤ r.length := by
  induction r with
  | nil => exact Nat.le_refl _
  | cons c t ih => unfold upMark; split <;> simp only [List.length_cons] <;> omega

def tokText (t : Bs) : Tok := ⟨1, [], [], false, t⟩
def tokLast : Tok := ⟨6, [], [], false, []⟩

/-- What begins at a place, behind the modes' text: none: a note that tells no token. -/
def stepL (cd : Bool) (r : Bs) : Option (Tok × Bs) :=
  if beginsTag r then
    match readTag r with
    | none => some (tokLast, [])
    | some o => some (tokOf o, o.rest)
  else if beginsNote r then
    (if (noteL cd r).1 = 0 then none else some (noteTok (noteL cd r), r.drop (noteL cd r).2.2))
  else some (tokText (dec false (r.take (1 + upMark r.tail))), r.drop (1 + upMark r.tail))

/-- The token that stands at the front, and what stands behind it. -/
def nextF (m : Nat) (E : Bs) (cd : Bool) : Nat → Bs → Tok × Bs
  | 0, _ => (tokLast, [])
  | f + 1, r =>
    if r = [] then (tokLast, [])
    else if 1 ≤ m ∧ m ≤ 4 then
      (if rawT m E r ≠ [] then (tokText (rawT m E r), r.drop (rawN m E r))
      else if r.drop (rawN m E r) = [] then (tokLast, [])
      else match stepL cd (r.drop (rawN m E r)) with
        | some q => q
        | none => nextF m E cd f ((r.drop (rawN m E r)).drop (noteL cd (r.drop (rawN m E r))).2.2))
    else match stepL cd r with
      | some q => q
      | none => nextF m E cd f (r.drop (noteL cd r).2.2)

theorem step_none (cd : Bool) (r : Bs) (h : stepL cd r = none) : beginsTag r = false ∧ beginsNote r = true ∧ (noteL cd r).1 = 0 := by
  unfold stepL at h
  by_cases h1 : beginsTag r = true
  · rw [if_pos h1] at h; cases hr : readTag r <;> rw [hr] at h <;> cases h
  · rw [if_neg h1] at h
    by_cases h2 : beginsNote r = true
    · rw [if_pos h2] at h
      by_cases h3 : (noteL cd r).1 = 0
      · exact ⟨by simpa using h1, h2, h3⟩
      · rw [if_neg h3] at h; cases h
    · rw [if_neg h2] at h; cases h
theorem step_none_len (cd : Bool) (r : Bs) (h : stepL cd r = none) : (r.drop (noteL cd r).2.2).length < r.length := by
  obtain ⟨_, h2, _⟩ := step_none cd r h
  have := noteL_le cd r h2
  rw [List.length_drop]; omega

theorem nextF_fuel (m : Nat) (E : Bs) (cd : Bool) : ∀ f g r, r.length ≤ f → r.length ≤ g → nextF m E cd f r = nextF m E cd g r := by
  intro f
  induction f with
  | zero =>
    intro g r h _
    have : r = [] := List.eq_nil_of_length_eq_zero (by omega)
    subst this
    cases g with
    | zero => rfl
    | succ g => rw [nextF, nextF, if_pos rfl]
  | succ f ih =>
    intro g r hf hg
    cases g with
    | zero =>
      have : r = [] := List.eq_nil_of_length_eq_zero (by omega)
      subst this
      rw [nextF, nextF, if_pos rfl]
    | succ g =>
      rw [nextF, nextF]
      by_cases h0 : r = []
      · rw [if_pos h0, if_pos h0]
      · rw [if_neg h0, if_neg h0]
        have hl : ∀ r', r'.length ≤ r.length → stepL cd r' = none → nextF m E cd f (r'.drop (noteL cd r').2.2) = nextF m E cd g (r'.drop (noteL cd r').2.2) := fun r' hr' h => by
          have := step_none_len cd r' h
          exact ih g _ (by omega) (by omega)
        by_cases hm : 1 ≤ m ∧ m ≤ 4
        · rw [if_pos hm, if_pos hm]
          by_cases h1 : rawT m E r ≠ []
          · rw [if_pos h1, if_pos h1]
          · rw [if_neg h1, if_neg h1]
            by_cases h2 : r.drop (rawN m E r) = []
            · rw [if_pos h2, if_pos h2]
            · rw [if_neg h2, if_neg h2]
              cases hs : stepL cd (r.drop (rawN m E r)) with
              | some q => rfl
              | none => exact hl _ (by rw [List.length_drop]; omega) hs
        · rw [if_neg hm, if_neg hm]
          cases hs : stepL cd r with
          | some q => rfl
          | none => exact hl _ (Nat.le_refl _) hs

def nextL (m : Nat) (E : Bs) (cd : Bool) (r : Bs) : Tok × Bs := nextF m E cd r.length r

theorem nextL_nil (m : Nat) (E : Bs) (cd : Bool) : nextL m E cd [] = (tokLast, []) := rfl
/-- One step. -/
theorem nextL_eq (m : Nat) (E : Bs) (cd : Bool) (r : Bs) (h0 : r ≠ []) : nextL m E cd r =
    if 1 ≤ m ∧ m ≤ 4 then
      (if rawT m E r ≠ [] then (tokText (rawT m E r), r.drop (rawN m E r))
      else if r.drop (rawN m E r) = [] then (tokLast, [])
      else match stepL cd (r.drop (rawN m E r)) with
        | some q => q
        | none => nextL m E cd ((r.drop (rawN m E r)).drop (noteL cd (r.drop (rawN m E r))).2.2))
    else match stepL cd r with
      | some q => q
      | none => nextL m E cd (r.drop (noteL cd r).2.2) := by
  unfold nextL
  cases hr : r with
  | nil => exact absurd hr h0
  | cons c t =>
    rw [← hr]
    have hlen : r.length = t.length + 1 := by rw [hr]; rfl
    rw [hlen, nextF, if_neg h0]
    have hl : ∀ r', r'.length ≤ r.length → stepL cd r' = none → nextF m E cd t.length (r'.drop (noteL cd r').2.2) = nextF m E cd (r'.drop (noteL cd r').2.2).length (r'.drop (noteL cd r').2.2) := fun r' hr' h => by
      have := step_none_len cd r' h
      exact nextF_fuel m E cd _ _ _ (by omega) (Nat.le_refl _)
    by_cases hm : 1 ≤ m ∧ m ≤ 4
    · rw [if_pos hm, if_pos hm]
      by_cases h1 : rawT m E r ≠ []
      · rw [if_pos h1, if_pos h1]
      · rw [if_neg h1, if_neg h1]
        by_cases h2 : r.drop (rawN m E r) = []
        · rw [if_pos h2, if_pos h2]
        · rw [if_neg h2, if_neg h2]
          cases hs : stepL cd (r.drop (rawN m E r)) with
          | some q => rfl
          | none => exact hl _ (by rw [List.length_drop]; omega) hs
    · rw [if_neg hm, if_neg hm]
      cases hs : stepL cd r with
      | some q => rfl
      | none => exact hl _ (Nat.le_refl _) hs

/-! How much is left; which tokens there are. -/
theorem readTag_lt (r : Bs) (o : TagOut) (h : readTag r = some o) : o.rest.length < r.length := by
  obtain ⟨a, e, _⟩ := readTag_form r o h
  have := congrArg List.length e
  simp only [List.length_cons, List.length_append] at this
  omega
theorem step_lt (cd : Bool) (r : Bs) (h0 : r ≠ []) (q : Tok × Bs) (h : stepL cd r = some q) : q.2.length < r.length := by
  have hpos := List.length_pos_iff.2 h0
  unfold stepL at h
  by_cases h1 : beginsTag r = true
  · rw [if_pos h1] at h
    cases hr : readTag r with
    | none => rw [hr] at h; cases h; exact hpos
    | some o => rw [hr] at h; cases h; exact readTag_lt r o hr
  · rw [if_neg h1] at h
    by_cases h2 : beginsNote r = true
    · rw [if_pos h2] at h
      by_cases h3 : (noteL cd r).1 = 0
      · rw [if_pos h3] at h; cases h
      · rw [if_neg h3] at h; cases h
        have := noteL_le cd r h2
        show (r.drop _).length < _
        rw [List.length_drop]; omega
    · rw [if_neg h2] at h; cases h
      show (r.drop _).length < _
      rw [List.length_drop]; omega

theorem enc_ne (n : Int) : enc n ≠ [] := by
  unfold enc Go.Utf8.encode
  simp only
  generalize (if Go.Utf8.valid n = true then n.toNat else Go.Utf8.runeError) = c
  split
  · exact List.cons_ne_nil _ _
  · split
    · exact List.cons_ne_nil _ _
    · split
      · exact List.cons_ne_nil _ _
      · exact List.cons_ne_nil _ _
theorem taken_ne (attr : Bool) (s : Bs) : (taken s attr).1 ≠ [] := by
  unfold taken
  simp only
  split
  · exact enc_ne _
  · split
    · exact List.cons_ne_nil _ _
    · rename_i h
      simp only [Bool.or_eq_true, decide_eq_true_eq, not_or] at h
      exact (named_zero (s.drop 1)).2 (Nat.pos_of_ne_zero h.1)
theorem dec_ne (attr : Bool) (r : Bs) (h : r ≠ []) : dec attr r ≠ [] := by
  cases r with
  | nil => exact absurd rfl h
  | cons c t =>
    by_cases hc : c = 38
    · subst hc
      rw [dec_amp]
      intro e
      exact taken_ne attr (38 :: t) (List.append_eq_nil_iff.1 e).1
    · rw [dec_cons _ _ _ hc]; exact List.cons_ne_nil _ _

theorem note_kind (r : Bs) (h : (noteL false r).1 ≠ 0) : (noteL false r).1 = 4 ∨ (noteL false r).1 = 5 := by
  unfold noteL at h ⊢
  split
  · exact .inl rfl
  · split
    · exact .inr rfl
    · rename_i h1 h2
      rw [if_neg h1, if_neg h2] at h
      simp only [Bool.false_and, Bool.false_eq_true, if_false] at h ⊢
      split
      · rename_i h3; rw [if_pos h3] at h; exact absurd rfl h
      · exact .inl rfl

/-- What a token is that comes in the plain mode. -/
def TokOk (t : Tok) (u : Bs) : Prop := (t.kind = 6 ∧ u = [] ∧ t = tokLast) ∨ (1 ≤ t.kind ∧ t.kind ≤ 5 ∧ (t.kind = 1 → t.text ≠ []))
theorem step_ok (r : Bs) (h0 : r ≠ []) (q : Tok × Bs) (h : stepL false r = some q) : TokOk q.1 q.2 := by
  unfold stepL at h
  by_cases h1 : beginsTag r = true
  · rw [if_pos h1] at h
    cases hr : readTag r with
    | none => rw [hr] at h; cases h; exact .inl ⟨rfl, rfl, rfl⟩
    | some o =>
      rw [hr] at h; cases h
      obtain ⟨_, _, _, _, hk⟩ := readTag_form r o hr
      show TokOk (tokOf o) _
      rcases hk with hk | hk
      · exact .inr ⟨by show 1 ≤ o.kind; omega, by show o.kind ≤ 5; omega, fun e => by have : o.kind = 1 := e; omega⟩
      · exact .inr ⟨by show 1 ≤ o.kind; omega, by show o.kind ≤ 5; omega, fun e => by have : o.kind = 1 := e; omega⟩
  · rw [if_neg h1] at h
    by_cases h2 : beginsNote r = true
    · rw [if_pos h2] at h
      by_cases h3 : (noteL false r).1 = 0
      · rw [if_pos h3] at h; cases h
      · rw [if_neg h3] at h; cases h
        have hk := note_kind r h3
        exact .inr ⟨by show 1 ≤ (noteL false r).1; omega, by show (noteL false r).1 ≤ 5; omega, fun e => by have : (noteL false r).1 = 1 := e; omega⟩
    · rw [if_neg h2] at h; cases h
      refine .inr ⟨Nat.le_refl 1, (by decide : 1 ≤ 5), fun _ => dec_ne _ _ ?_⟩
      intro e
      have := congrArg List.length e
      have hp := List.length_pos_iff.2 h0
      rw [List.length_take, List.length_nil] at this; omega

def nextD (r : Bs) : Tok × Bs := nextL 0 [] false r
theorem nextL_zero (E : Bs) (cd : Bool) : ∀ n (r : Bs), r.length ≤ n → nextL 0 E cd r = nextL 0 [] cd r := by
  intro n
  induction n with
  | zero => intro r h; rw [List.eq_nil_of_length_eq_zero (by omega : r.length = 0)]; rfl
  | succ n ih =>
    intro r h
    by_cases h0 : r = []
    · subst h0; rfl
    · rw [nextL_eq 0 E cd r h0, nextL_eq 0 [] cd r h0, if_neg (by omega), if_neg (by omega)]
      cases hs : stepL cd r with
      | some q => rfl
      | none => have := step_none_len cd r hs; exact ih _ (by omega)
theorem nextD_eq (r : Bs) (h0 : r ≠ []) : nextD r = match stepL false r with | some q => q | none => nextD (r.drop (noteL false r).2.2) := by
  unfold nextD
  rw [nextL_eq 0 [] false r h0, if_neg (by omega)]
theorem nextD_ok : ∀ n (r : Bs), r.length ≤ n → TokOk (nextD r).1 (nextD r).2 ∧ (r ≠ [] → (nextD r).2.length < r.length) := by
  intro n
  induction n with
  | zero => intro r h; rw [List.eq_nil_of_length_eq_zero (by omega : r.length = 0)]; exact ⟨.inl ⟨rfl, rfl, rfl⟩, fun h => absurd rfl h⟩
  | succ n ih =>
    intro r h
    by_cases h0 : r = []
    · subst h0; exact ⟨.inl ⟨rfl, rfl, rfl⟩, fun h => absurd rfl h⟩
    · rw [nextD_eq r h0]
      cases hs : stepL false r with
      | some q => exact ⟨step_ok r h0 q hs, fun _ => step_lt false r h0 q hs⟩
      | none =>
        have hl := step_none_len false r hs
        have := ih (r.drop (noteL false r).2.2) (by omega)
        refine ⟨this.1, fun _ => ?_⟩
        by_cases h1 : r.drop (noteL false r).2.2 = []
        · simp only; rw [h1]; exact List.length_pos_iff.2 h0
        · have := this.2 h1; simp only; omega

def allF : Nat → Bs → List Tok
  | 0, _ => []
  | f + 1, r => if (nextD r).1.kind = 6 then [] else (nextD r).1 :: allF f (nextD r).2
def allL (r : Bs) : List Tok := allF r.length r
theorem nextD_lt (r : Bs) (h : (nextD r).1.kind ≠ 6) : (nextD r).2.length < r.length := by
  by_cases h0 : r = []
  · subst h0; exact absurd rfl h
  · exact (nextD_ok r.length r (Nat.le_refl _)).2 h0
theorem allF_fuel : ∀ f g r, r.length ≤ f → r.length ≤ g → allF f r = allF g r := by
  intro f
  induction f with
  | zero =>
    intro g r h _
    have : r = [] := List.eq_nil_of_length_eq_zero (by omega)
    subst this
    cases g with
    | zero => rfl
    | succ g => rfl
  | succ f ih =>
    intro g r hf hg
    cases g with
    | zero =>
      have : r = [] := List.eq_nil_of_length_eq_zero (by omega)
      subst this
      rfl
    | succ g =>
      rw [allF, allF]
      by_cases hk : (nextD r).1.kind = 6
      · rw [if_pos hk, if_pos hk]
      · rw [if_neg hk, if_neg hk]
        have := nextD_lt r hk
        rw [ih g _ (by omega) (by omega)]
theorem allL_last (r : Bs) (h : (nextD r).1.kind = 6) : allL r = [] := by
  unfold allL
  cases hr : r.length with
  | zero => rfl
  | succ n => rw [allF, if_pos h]
theorem allL_more (r : Bs) (h : (nextD r).1.kind ≠ 6) : allL r = (nextD r).1 :: allL (nextD r).2 := by
  have hl := nextD_lt r h
  unfold allL
  cases hr : r.length with
  | zero => omega
  | succ n => rw [allF, if_neg h, allF_fuel n (nextD r).2.length _ (by omega) (Nat.le_refl _)]
theorem allL_len : ∀ n (r : Bs), r.length ≤ n → (allL r).length ≤ r.length := by
  intro n
  induction n with
  | zero => intro r h; rw [List.eq_nil_of_length_eq_zero (by omega : r.length = 0)]; exact Nat.le_refl _
  | succ n ih =>
    intro r h
    by_cases hk : (nextD r).1.kind = 6
    · rw [allL_last r hk]; exact Nat.zero_le _
    · have hl := nextD_lt r hk
      rw [allL_more r hk, List.length_cons]
      have := ih (nextD r).2 (by omega)
      omega
end Tym
