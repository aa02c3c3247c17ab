/- Plain functions of the package raw, and what ties them to the document's answer. No program in sight. Plain functions of the package tag. No program in sight. Plain laws of a tag: its form; the size of its letters. No program in sight. Plain: how many attributes a tag may have. No program in sight. Plain functions of the packages note and lex. No program in sight. -/
import Derived.Test.YtpgdkhdnnegmaaaGreatPlainEnt

namespace Tym
set_option linter.unusedVariables false

def isClose (c : UInt8) : Bool := isSpace c || c == 47 || c == 62
def wordIn (r small : Bs) : Bool := decide (small.length ≤ r.length) && lower (r.take small.length) == small
def closedIn (r : Bs) (j : Nat) : Bool := decide (j < r.length) && isClose (r.getD j 0)
def follows (r e : Bs) : Bool := wordIn r e && closedIn r e.length

def plainAt (e : Bs) : Bs → Nat
  | [] => 0
  | c :: t => if follows (c :: t) e then 0 else 1 + plainAt e t

def endOf (name : Bs) : Bs := 60 :: 47 :: lower name

/-- How far a script's text goes: the state, the dashes, what is left. -/
def scr (e : Bs) : Nat → Nat → Nat → Bs → Nat
  | 0, _, _, _ => 0
  | _ + 1, _, _, [] => 0
  | f + 1, st, d, c :: t =>
    if st ≠ 2 ∧ follows (c :: t) e = true then 0
    else if st = 0 then
      (if begins (c :: t) [60, 33, 45, 45] then 4 + scr e f 1 2 ((c :: t).drop 4) else 1 + scr e f 0 d t)
    else if c = 45 then 1 + scr e f st (d + 1) t
    else if c = 62 ∧ 2 ≤ d then 1 + scr e f 0 0 t
    else if st = 1 ∧ follows (c :: t) [60, 115, 99, 114, 105, 112, 116] = true then 8 + scr e f 2 0 ((c :: t).drop 8)
    else if st = 2 ∧ follows (c :: t) [60, 47, 115, 99, 114, 105, 112, 116] = true then 9 + scr e f 1 0 ((c :: t).drop 9)
    else 1 + scr e f st 0 t

def script (e r : Bs) : Nat := scr e r.length 0 0 r

theorem follows_len (r e : Bs) (h : follows r e = true) : e.length < r.length := by
  unfold follows closedIn at h
  simp only [Bool.and_eq_true, decide_eq_true_eq] at h
  exact h.2.1

theorem begins_len (s w : Bs) (h : begins s w = true) : w.length ≤ s.length := by
  have := congrArg List.length ((begins_iff s w).1 h)
  rw [List.length_take] at this; omega

theorem scr_fuel (e : Bs) : ∀ f g st d r, r.length ≤ f → r.length ≤ g → scr e f st d r = scr e g st d r := by
  intro f
  induction f with
  | zero => intro g st d r h _; rw [List.eq_nil_of_length_eq_zero (by omega : r.length = 0)]; cases g <;> rfl
  | succ f ih =>
    intro g st d r hf hg
    cases r with
    | nil => cases g <;> rfl
    | cons c t =>
      cases g with
      | zero => simp at hg
      | succ g =>
        rw [List.length_cons] at hf hg
        unfold scr
        rw [ih g 0 d t (by omega) (by omega), ih g st (d + 1) t (by omega) (by omega), ih g 0 0 t (by omega) (by omega), ih g st 0 t (by omega) (by omega),
          ih g 1 2 ((c :: t).drop 4) (by rw [List.length_drop, List.length_cons]; omega) (by rw [List.length_drop, List.length_cons]; omega),
          ih g 2 0 ((c :: t).drop 8) (by rw [List.length_drop, List.length_cons]; omega) (by rw [List.length_drop, List.length_cons]; omega),
          ih g 1 0 ((c :: t).drop 9) (by rw [List.length_drop, List.length_cons]; omega) (by rw [List.length_drop, List.length_cons]; omega)]

theorem scr_le (e : Bs) : ∀ f st d r, scr e f st d r ≤ r.length := by
  intro f
  induction f with
  | zero => intro st d r; exact Nat.zero_le _
  | succ f ih =>
    intro st d r
    cases r with
    | nil => exact Nat.zero_le _
    | cons c t =>
      unfold scr
      have i1 := ih 0 d t
      have i2 := ih st (d + 1) t
      have i3 := ih 0 0 t
      have i4 := ih st 0 t
      have i5 := ih 1 2 ((c :: t).drop 4)
      have i6 := ih 2 0 ((c :: t).drop 8)
      have i7 := ih 1 0 ((c :: t).drop 9)
      rw [List.length_drop] at i5 i6 i7
      rw [List.length_cons] at *
      split
      · omega
      · split
        · split
          · rename_i hb
            have := begins_len _ _ hb
            simp at this
            omega
          · omega
        · split
          · omega
          · split
            · omega
            · split
              · rename_i hb
                have := follows_len _ _ hb.2
                simp at this
                omega
              · split
                · rename_i hb
                  have := follows_len _ _ hb.2
                  simp at this
                  omega
                · omega

theorem plainAt_le (e : Bs) (r : Bs) : plainAt e r ≤ r.length := by
  induction r with
  | nil => exact Nat.le_refl _
  | cons c t ih => unfold plainAt; rw [List.length_cons]; split <;> omega

theorem small_60 (c : UInt8) : small c = 60 ↔ c = 60 := byte_all (p := fun c => small c = 60 ↔ c = 60) (by decide +kernel) c
theorem follows_head (c : UInt8) (t e : Bs) (h : follows (c :: t) (60 :: e) = true) : c = 60 := by
  unfold follows wordIn at h
  simp only [Bool.and_eq_true, beq_iff_eq] at h
  have h2 := h.1.2
  rw [List.length_cons, List.take_succ_cons] at h2
  unfold lower at h2
  rw [List.map_cons, List.cons.injEq] at h2
  exact (small_60 c).1 h2.1

theorem plainAt_skip (e : Bs) (r : Bs) : plainAt (60 :: e) r = upto 60 r + plainAt (60 :: e) (r.drop (upto 60 r)) := by
  induction r with
  | nil => rfl
  | cons c t ih =>
    by_cases hc : c = 60
    · subst hc
      rw [show upto 60 (60 :: t) = 0 from by simp [upto]]; simp
    · rw [show upto 60 (c :: t) = 1 + upto 60 t from by simp [upto, hc, Nat.add_comm]]
      have hf : follows (c :: t) (60 :: e) = false := by
        rw [Bool.eq_false_iff]; exact fun h => hc (follows_head c t e h)
      rw [show plainAt (60 :: e) (c :: t) = 1 + plainAt (60 :: e) t from by rw [plainAt, hf]; rfl, ih, Nat.add_comm 1 (upto 60 t), List.drop_succ_cons]
      omega

theorem small_small (c : UInt8) : small (small c) = small c := byte_all (p := fun c => small (small c) = small c) (by decide +kernel) c
theorem lower_lower (l : Bs) : lower (lower l) = lower l := by unfold lower; rw [List.map_map]; congr 1; funext c; exact small_small c
theorem lower_len (l : Bs) : (lower l).length = l.length := List.length_map ..

theorem small_mark (c : UInt8) (x : UInt8) (h : x = 60 ∨ x = 33 ∨ x = 45) : small c = x ↔ c = x := by
  rcases h with rfl | rfl | rfl
  · exact small_60 c
  · exact byte_all (p := fun c => small c = 33 ↔ c = 33) (by decide +kernel) c
  · exact byte_all (p := fun c => small c = 45 ↔ c = 45) (by decide +kernel) c

theorem lower_mark : ∀ (w l : Bs), (∀ x ∈ w, x = 60 ∨ x = 33 ∨ x = 45) → (lower l = w ↔ l = w) := by
  intro w
  induction w with
  | nil => intro l _; simp [lower]
  | cons x w ih =>
    intro l h
    cases l with
    | nil => simp [lower]
    | cons c l =>
      have h1 := small_mark c x (h x (List.mem_cons_self ..))
      have h2 := ih l (fun y hy => h y (List.mem_cons_of_mem _ hy))
      unfold lower at h2 ⊢
      rw [List.map_cons, List.cons.injEq, List.cons.injEq, h1, h2]

theorem word_begins (r : Bs) : wordIn r [60, 33, 45, 45] = begins r [60, 33, 45, 45] := by
  rw [Bool.eq_iff_iff, begins_iff]
  unfold wordIn
  rw [Bool.and_eq_true, decide_eq_true_iff, beq_iff_eq, lower_mark _ _ (by decide)]
  refine ⟨fun h => h.2, fun h => ⟨?_, h⟩⟩
  have := congrArg List.length h
  rw [List.length_take] at this
  simp at this ⊢
  omega
end Tym

namespace Tym
set_option linter.unusedVariables false
abbrev Att := Bs × Bs

def namedB (c : UInt8) : Bool := !isSpace c && c != 47 && c != 62
def keyB (c : UInt8) : Bool := !isSpace c && c != 47 && c != 62 && c != 61
def bareB (c : UInt8) : Bool := !isSpace c && c != 62

/-- An attribute's value: what is read, and what stands behind it. -/
def valueOf (r : Bs) : Option (Bs × Bs) :=
  match r.dropWhile isSpace with
  | [] => none
  | c :: t =>
    if c = 34 ∨ c = 39 then
      match t.dropWhile (· != c) with
      | [] => none
      | _ :: u => some (dec true (t.takeWhile (· != c)), u)
    else some (dec true ((c :: t).takeWhile bareB), (c :: t).dropWhile bareB)

/-- An attribute that begins with the byte c. -/
def attrOf (c : UInt8) (t : Bs) : Option (Att × Bs) :=
  match (t.dropWhile keyB).dropWhile isSpace with
  | [] => some ((lower (c :: t.takeWhile keyB), []), [])
  | d :: u =>
    if d = 61 then
      match valueOf u with
      | none => none
      | some (v, r) => some ((lower (c :: t.takeWhile keyB), v), r)
    else some ((lower (c :: t.takeWhile keyB), []), d :: u)

def addAtt (l : List Att) (a : Att) : List Att := if l.any (fun x => x.1 == a.1) then l else l ++ [a]

/-- A tag's attributes, whether it closes itself, what stands behind it. -/
def tagF : Nat → List Att → Bs → Option (List Att × Bool × Bs)
  | 0, _, _ => none
  | f + 1, l, r =>
    match r.dropWhile isSpace with
    | [] => none
    | c :: t =>
      if c = 62 then some (l, false, t)
      else if c = 47 then (if t.head? = some 62 then some (l, true, t.tail) else tagF f l t)
      else match attrOf c t with
        | none => none
        | some (a, u) => tagF f (addAtt l a) u

def tagL (l : List Att) (r : Bs) : Option (List Att × Bool × Bs) := tagF r.length l r

/-- Does a tag begin here? -/
def beginsTag (r : Bs) : Bool :=
  match r with
  | [] => false
  | c :: t => c == 60 && (match (if t.head? = some 47 then t.tail else t) with | [] => false | d :: _ => isLetter d)

structure TagOut where
  kind : Nat
  name : Bs
  atts : List Att
  closing : Bool
  rest : Bs

def readTag (r : Bs) : Option TagOut :=
  if beginsTag r then
    if r.tail.head? = some 47 then
      match tagL [] (r.tail.tail.dropWhile namedB) with
      | none => none
      | some (_, _, u) => some ⟨3, lower (r.tail.tail.takeWhile namedB), [], false, u⟩
    else
      match tagL [] (r.tail.dropWhile namedB) with
      | none => none
      | some (l, c, u) => some ⟨2, lower (r.tail.takeWhile namedB), l, c, u⟩
  else none

theorem drop_while_len (p : UInt8 → Bool) (r : Bs) : (r.dropWhile p).length ≤ r.length := (List.dropWhile_sublist p).length_le

theorem value_len (r : Bs) (v u : Bs) (h : valueOf r = some (v, u)) : u.length ≤ r.length := by
  unfold valueOf at h
  have h0 := drop_while_len isSpace r
  cases hr : r.dropWhile isSpace with
  | nil => rw [hr] at h; cases h
  | cons c t =>
    rw [hr] at h h0
    rw [List.length_cons] at h0
    simp only at h
    by_cases hc : c = 34 ∨ c = 39
    · rw [if_pos hc] at h
      have h1 := drop_while_len (· != c) t
      cases hq : t.dropWhile (· != c) with
      | nil => rw [hq] at h; cases h
      | cons d w =>
        rw [hq] at h h1
        rw [List.length_cons] at h1
        simp only [Option.some.injEq, Prod.mk.injEq] at h
        rw [← h.2]; omega
    · rw [if_neg hc] at h
      simp only [Option.some.injEq, Prod.mk.injEq] at h
      have h1 := drop_while_len bareB (c :: t)
      rw [List.length_cons] at h1
      rw [← h.2]; omega

theorem attr_len (c : UInt8) (t : Bs) (a : Att) (u : Bs) (h : attrOf c t = some (a, u)) : u.length ≤ t.length := by
  unfold attrOf at h
  have h0 := drop_while_len isSpace (t.dropWhile keyB)
  have h1 := drop_while_len keyB t
  cases hr : (t.dropWhile keyB).dropWhile isSpace with
  | nil =>
    rw [hr] at h
    simp only [Option.some.injEq, Prod.mk.injEq] at h
    rw [← h.2]; exact Nat.zero_le _
  | cons d w =>
    rw [hr] at h h0
    rw [List.length_cons] at h0
    simp only at h
    by_cases hc : d = 61
    · rw [if_pos hc] at h
      cases hv : valueOf w with
      | none => rw [hv] at h; cases h
      | some p =>
        rw [hv] at h
        simp only [Option.some.injEq, Prod.mk.injEq] at h
        have h2 := value_len w p.1 p.2 hv
        rw [← h.2]; omega
    · rw [if_neg hc] at h
      simp only [Option.some.injEq, Prod.mk.injEq] at h
      rw [← h.2, List.length_cons]; omega

theorem tagF_nil (f : Nat) (l : List Att) : tagF f l [] = none := by cases f <;> rfl

theorem tagF_fuel : ∀ f g l r, r.length ≤ f → r.length ≤ g → tagF f l r = tagF g l r := by
  intro f
  induction f with
  | zero => intro g l r h _; rw [List.eq_nil_of_length_eq_zero (by omega : r.length = 0), tagF_nil, tagF_nil]
  | succ f ih =>
    intro g l r hf hg
    cases g with
    | zero => rw [List.eq_nil_of_length_eq_zero (by omega : r.length = 0), tagF_nil, tagF_nil]
    | succ g =>
      unfold tagF
      have h0 := drop_while_len isSpace r
      cases hr : r.dropWhile isSpace with
      | nil => rfl
      | cons c t =>
        rw [hr, List.length_cons] at h0
        simp only
        rw [ih g l t (by omega) (by omega)]
        cases ha : attrOf c t with
        | none => rfl
        | some p =>
          have := attr_len c t p.1 p.2 ha
          simp only
          rw [ih g (addAtt l p.1) p.2 (by omega) (by omega)]

/-- The steps of a tag's attributes. -/
theorem tagL_none (l : List Att) (r : Bs) (h : r.dropWhile isSpace = []) : tagL l r = none := by
  unfold tagL
  cases hn : r.length with
  | zero => rfl
  | succ n => unfold tagF; rw [h]
theorem tagL_cons (l : List Att) (r : Bs) (c : UInt8) (t : Bs) (h : r.dropWhile isSpace = c :: t) : tagL l r =
    if c = 62 then some (l, false, t)
    else if c = 47 then (if t.head? = some 62 then some (l, true, t.tail) else tagL l t)
    else match attrOf c t with
      | none => none
      | some (a, u) => tagL (addAtt l a) u := by
  have h0 := drop_while_len isSpace r
  rw [h, List.length_cons] at h0
  unfold tagL
  cases hn : r.length with
  | zero => omega
  | succ n =>
    rw [tagF, h]
    simp only
    rw [tagF_fuel n t.length l t (by omega) (Nat.le_refl _)]
    cases ha : attrOf c t with
    | none => rfl
    | some p =>
      have := attr_len c t p.1 p.2 ha
      simp only
      rw [tagF_fuel n p.2.length (addAtt l p.1) p.2 (by omega) (Nat.le_refl _)]
theorem tagL_end (l : List Att) (r t : Bs) (h : r.dropWhile isSpace = 62 :: t) : tagL l r = some (l, false, t) := by
  rw [tagL_cons l r 62 t h, if_pos rfl]
theorem tagL_shut (l : List Att) (r t : Bs) (h : r.dropWhile isSpace = 47 :: t) (ht : t.head? = some 62) : tagL l r = some (l, true, t.tail) := by
  rw [tagL_cons l r 47 t h, if_neg (by decide), if_pos rfl, if_pos ht]
theorem tagL_slash (l : List Att) (r t : Bs) (h : r.dropWhile isSpace = 47 :: t) (ht : t.head? ≠ some 62) : tagL l r = tagL l t := by
  rw [tagL_cons l r 47 t h, if_neg (by decide), if_pos rfl, if_neg ht]
theorem tagL_bad (l : List Att) (r t : Bs) (c : UInt8) (h : r.dropWhile isSpace = c :: t) (h1 : c ≠ 62) (h2 : c ≠ 47) (ha : attrOf c t = none) : tagL l r = none := by
  rw [tagL_cons l r c t h, if_neg h1, if_neg h2, ha]
theorem tagL_attr (l : List Att) (r t : Bs) (c : UInt8) (a : Att) (u : Bs) (h : r.dropWhile isSpace = c :: t) (h1 : c ≠ 62) (h2 : c ≠ 47) (ha : attrOf c t = some (a, u)) : tagL l r = tagL (addAtt l a) u := by
  rw [tagL_cons l r c t h, if_neg h1, if_neg h2, ha]
end Tym

namespace Tym
set_option linter.unusedVariables false

theorem dw_suffix (p : UInt8 → Bool) (r : Bs) : r.dropWhile p <:+ r := List.dropWhile_suffix p

theorem value_suffix (r v u : Bs) (h : valueOf r = some (v, u)) : u <:+ r := by
  unfold valueOf at h
  have h0 := dw_suffix isSpace r
  cases hr : r.dropWhile isSpace with
  | nil => rw [hr] at h; cases h
  | cons c t =>
    rw [hr] at h h0
    simp only at h
    by_cases hc : c = 34 ∨ c = 39
    · rw [if_pos hc] at h
      have h1 := dw_suffix (· != c) t
      cases hq : t.dropWhile (· != c) with
      | nil => rw [hq] at h; cases h
      | cons d w =>
        rw [hq] at h h1
        simp only [Option.some.injEq, Prod.mk.injEq] at h
        rw [← h.2]
        exact ((List.suffix_cons d w).trans h1).trans ((List.suffix_cons c t).trans h0)
    · rw [if_neg hc] at h
      simp only [Option.some.injEq, Prod.mk.injEq] at h
      rw [← h.2]
      exact (dw_suffix bareB (c :: t)).trans h0

theorem attr_suffix (c : UInt8) (t : Bs) (a : Att) (u : Bs) (h : attrOf c t = some (a, u)) : u <:+ t := by
  unfold attrOf at h
  have h0 := (dw_suffix isSpace (t.dropWhile keyB)).trans (dw_suffix keyB t)
  cases hr : (t.dropWhile keyB).dropWhile isSpace with
  | nil =>
    rw [hr] at h
    simp only [Option.some.injEq, Prod.mk.injEq] at h
    rw [← h.2]; exact List.nil_suffix
  | cons d w =>
    rw [hr] at h h0
    simp only at h
    by_cases hc : d = 61
    · rw [if_pos hc] at h
      cases hv : valueOf w with
      | none => rw [hv] at h; cases h
      | some p =>
        rw [hv] at h
        simp only [Option.some.injEq, Prod.mk.injEq] at h
        have h2 := value_suffix w p.1 p.2 hv
        rw [← h.2]; exact h2.trans ((List.suffix_cons d w).trans h0)
    · rw [if_neg hc] at h
      simp only [Option.some.injEq, Prod.mk.injEq] at h
      rw [← h.2]; exact h0

theorem attr_name (c : UInt8) (t : Bs) (a : Att) (u : Bs) (h : attrOf c t = some (a, u)) : a.1 = lower (c :: t.takeWhile keyB) := by
  unfold attrOf at h
  cases hr : (t.dropWhile keyB).dropWhile isSpace with
  | nil => rw [hr] at h; simp only [Option.some.injEq, Prod.mk.injEq] at h; rw [← h.1]
  | cons d w =>
    rw [hr] at h
    simp only at h
    by_cases hc : d = 61
    · rw [if_pos hc] at h
      cases hv : valueOf w with
      | none => rw [hv] at h; cases h
      | some p => rw [hv] at h; simp only [Option.some.injEq, Prod.mk.injEq] at h; rw [← h.1]
    · rw [if_neg hc] at h
      simp only [Option.some.injEq, Prod.mk.injEq] at h; rw [← h.1]

def goodC (c : UInt8) : Bool := !isSpace c && c != 62 && c != 47
def GoodN (n : Bs) : Prop := n ≠ [] ∧ lower n = n ∧ ∀ c ∈ n, goodC c = true
def GoodL (l : List Att) : Prop := (∀ a ∈ l, GoodN a.1) ∧ (l.map (·.1)).Nodup

theorem goodC_small (c : UInt8) : goodC (small c) = goodC c := byte_all (p := fun c => goodC (small c) = goodC c) (by decide +kernel) c
theorem key_good (c : UInt8) : keyB c = true → goodC c = true := byte_all (p := fun c => keyB c = true → goodC c = true) (by decide +kernel) c
theorem named_good (c : UInt8) : namedB c = true → goodC c = true := byte_all (p := fun c => namedB c = true → goodC c = true) (by decide +kernel) c

theorem tw_all (p : UInt8 → Bool) (r : Bs) : ∀ c ∈ r.takeWhile p, p c = true := by
  intro c hc
  have := List.all_takeWhile (p := p) (l := r)
  rw [List.all_eq_true] at this
  exact this c hc

theorem good_lower (l : Bs) (h0 : l ≠ []) (h : ∀ c ∈ l, goodC c = true) : GoodN (lower l) := by
  refine ⟨?_, lower_lower l, ?_⟩
  · intro he; apply h0; unfold lower at he; exact List.map_eq_nil_iff.1 he
  · intro c hc
    unfold lower at hc
    obtain ⟨d, hd, rfl⟩ := List.mem_map.1 hc
    rw [goodC_small]; exact h d hd

theorem attr_good (c : UInt8) (t : Bs) (a : Att) (u : Bs) (hc : goodC c = true) (h : attrOf c t = some (a, u)) : GoodN a.1 := by
  rw [attr_name c t a u h]
  refine good_lower _ (by simp) ?_
  intro d hd
  rcases List.mem_cons.1 hd with rfl | hd
  · exact hc
  · exact key_good d (tw_all keyB t d hd)

theorem addAtt_good (l : List Att) (a : Att) (h : GoodL l) (ha : GoodN a.1) : GoodL (addAtt l a) := by
  unfold addAtt
  by_cases hx : (l.any fun x => x.1 == a.1) = true
  · rw [if_pos hx]; exact h
  · rw [if_neg hx]
    refine ⟨?_, ?_⟩
    · intro b hb
      rcases List.mem_append.1 hb with hb | hb
      · exact h.1 b hb
      · rw [List.mem_singleton.1 hb]; exact ha
    · rw [List.map_append, List.nodup_append]
      refine ⟨h.2, by simp, ?_⟩
      intro x hx1 y hy he
      simp at hy
      subst hy
      subst he
      apply hx
      rw [List.any_eq_true]
      obtain ⟨b, hb, hbe⟩ := List.mem_map.1 hx1
      exact ⟨b, hb, by simp [hbe]⟩

theorem dw_head (p : UInt8 → Bool) (r : Bs) (c : UInt8) (t : Bs) (h : r.dropWhile p = c :: t) : p c = false := by
  have := List.head?_dropWhile_not p r
  rw [h] at this
  simpa using this

theorem tagF_form : ∀ f l r l' cl u, GoodL l → tagF f l r = some (l', cl, u) → GoodL l' ∧ (62 :: u) <:+ r := by
  intro f
  induction f with
  | zero => intro l r l' cl u _ h; cases h
  | succ f ih =>
    intro l r l' cl u hg h
    unfold tagF at h
    have h0 := dw_suffix isSpace r
    cases hr : r.dropWhile isSpace with
    | nil => rw [hr] at h; cases h
    | cons c t =>
      rw [hr] at h h0
      simp only at h
      have hsp := dw_head isSpace r c t hr
      by_cases h1 : c = 62
      · rw [if_pos h1] at h
        simp only [Option.some.injEq, Prod.mk.injEq] at h
        obtain ⟨rfl, rfl, rfl⟩ := h
        exact ⟨hg, by rw [← h1]; exact h0⟩
      · rw [if_neg h1] at h
        by_cases h2 : c = 47
        · rw [if_pos h2] at h
          by_cases h3 : t.head? = some 62
          · rw [if_pos h3] at h
            simp only [Option.some.injEq, Prod.mk.injEq] at h
            obtain ⟨rfl, rfl, rfl⟩ := h
            refine ⟨hg, ?_⟩
            cases t with
            | nil => simp at h3
            | cons d t =>
              simp at h3
              subst h3
              exact (List.suffix_cons c _).trans h0
          · rw [if_neg h3] at h
            obtain ⟨g, hs⟩ := ih l t l' cl u hg h
            exact ⟨g, hs.trans ((List.suffix_cons c t).trans h0)⟩
        · rw [if_neg h2] at h
          cases ha : attrOf c t with
          | none => rw [ha] at h; cases h
          | some p =>
            rw [ha] at h
            simp only at h
            have hgc : goodC c = true := by unfold goodC; rw [hsp]; simp [h1, h2]
            obtain ⟨g, hs⟩ := ih _ _ l' cl u (addAtt_good l p.1 hg (attr_good c t p.1 p.2 hgc ha)) h
            exact ⟨g, hs.trans ((attr_suffix c t p.1 p.2 ha).trans ((List.suffix_cons c t).trans h0))⟩

theorem letter_named (c : UInt8) : isLetter c = true → namedB c = true := byte_all (p := fun c => isLetter c = true → namedB c = true) (by decide +kernel) c

theorem begins_cons (r : Bs) (h : beginsTag r = true) : ∃ t, r = 60 :: t ∧ ((t.head? = some 47 ∧ ∃ d u, t = 47 :: d :: u ∧ isLetter d = true) ∨ (t.head? ≠ some 47 ∧ ∃ d u, t = d :: u ∧ isLetter d = true)) := by
  cases r with
  | nil => cases h
  | cons c t =>
    unfold beginsTag at h
    simp only [Bool.and_eq_true, beq_iff_eq] at h
    obtain ⟨rfl, h⟩ := h
    refine ⟨t, rfl, ?_⟩
    by_cases h1 : t.head? = some 47
    · rw [if_pos h1] at h
      cases t with
      | nil => cases h1
      | cons d t =>
        simp at h1; subst h1
        rw [List.tail_cons] at h
        cases t with
        | nil => cases h
        | cons e t => exact .inl ⟨rfl, e, t, rfl, h⟩
    · rw [if_neg h1] at h
      cases t with
      | nil => cases h
      | cons d t => exact .inr ⟨h1, d, t, rfl, h⟩

theorem readTag_form (r : Bs) (o : TagOut) (h : readTag r = some o) : ∃ a, r = 60 :: a ++ 62 :: o.rest ∧ GoodN o.name ∧ GoodL o.atts ∧ (o.kind = 2 ∨ o.kind = 3) := by
  unfold readTag at h
  by_cases hb : beginsTag r = true
  · rw [if_pos hb] at h
    obtain ⟨t, rfl, hh⟩ := begins_cons r hb
    have key : ∀ (d : UInt8) (u v : Bs), isLetter d = true → u = d :: v → GoodN (lower (u.takeWhile namedB)) := by
      intro d u v hd he
      subst he
      refine good_lower _ ?_ fun c hc => named_good c (tw_all namedB _ c hc)
      rw [List.takeWhile_cons, letter_named d hd]; simp
    rcases hh with ⟨h1, d, u, rfl, hd⟩ | ⟨h1, d, u, rfl, hd⟩
    · rw [if_pos (show (60 :: 47 :: d :: u : Bs).tail.head? = some 47 from rfl)] at h
      cases ht : tagL [] ((60 :: 47 :: d :: u : Bs).tail.tail.dropWhile namedB) with
      | none => rw [ht] at h; cases h
      | some p =>
        rw [ht] at h
        simp only [Option.some.injEq] at h
        obtain ⟨g, hs⟩ := tagF_form _ _ _ p.1 p.2.1 p.2.2 ⟨by simp, by simp⟩ ht
        obtain ⟨a, ha⟩ := hs.trans ((dw_suffix namedB (d :: u)).trans (List.suffix_cons 47 _))
        subst h
        refine ⟨a, ?_, key d _ u hd rfl, ⟨by simp, by simp⟩, .inr rfl⟩
        rw [← ha]; rfl
    · rw [if_neg (show ¬ (60 :: d :: u : Bs).tail.head? = some 47 from h1)] at h
      cases ht : tagL [] ((60 :: d :: u : Bs).tail.dropWhile namedB) with
      | none => rw [ht] at h; cases h
      | some p =>
        rw [ht] at h
        simp only [Option.some.injEq] at h
        obtain ⟨g, hs⟩ := tagF_form _ _ _ p.1 p.2.1 p.2.2 ⟨by simp, by simp⟩ ht
        obtain ⟨a, ha⟩ := hs.trans (dw_suffix namedB (d :: u))
        subst h
        refine ⟨a, ?_, key d _ u hd rfl, g, .inl rfl⟩
        rw [← ha]; rfl
  · rw [if_neg hb] at h; cases h

/-! The size of letters. -/
theorem dw_lower (p : UInt8 → Bool) (h : ∀ c, p (small c) = p c) (r : Bs) : (lower r).dropWhile p = lower (r.dropWhile p) := by
  induction r with
  | nil => rfl
  | cons c t ih =>
    unfold lower at ih ⊢
    rw [List.map_cons, List.dropWhile_cons, List.dropWhile_cons, h c]
    split
    · exact ih
    · rfl
theorem tw_lower (p : UInt8 → Bool) (h : ∀ c, p (small c) = p c) (r : Bs) : (lower r).takeWhile p = lower (r.takeWhile p) := by
  induction r with
  | nil => rfl
  | cons c t ih =>
    unfold lower at ih ⊢
    rw [List.map_cons, List.takeWhile_cons, List.takeWhile_cons, h c]
    split
    · rw [ih, List.map_cons]
    · rfl
theorem sp_small (c : UInt8) : isSpace (small c) = isSpace c := byte_all (p := fun c => isSpace (small c) = isSpace c) (by decide +kernel) c
theorem named_small (c : UInt8) : namedB (small c) = namedB c := byte_all (p := fun c => namedB (small c) = namedB c) (by decide +kernel) c
theorem key_small (c : UInt8) : keyB (small c) = keyB c := byte_all (p := fun c => keyB (small c) = keyB c) (by decide +kernel) c
theorem bare_small (c : UInt8) : bareB (small c) = bareB c := byte_all (p := fun c => bareB (small c) = bareB c) (by decide +kernel) c
theorem letter_small (c : UInt8) : isLetter (small c) = isLetter c := byte_all (p := fun c => isLetter (small c) = isLetter c) (by decide +kernel) c
theorem sign_small (x : UInt8) (h : x = 34 ∨ x = 39 ∨ x = 47 ∨ x = 60 ∨ x = 61 ∨ x = 62) (c : UInt8) : small c = x ↔ c = x := by
  rcases h with rfl | rfl | rfl | rfl | rfl | rfl
  · exact byte_all (p := fun c => small c = 34 ↔ c = 34) (by decide +kernel) c
  · exact byte_all (p := fun c => small c = 39 ↔ c = 39) (by decide +kernel) c
  · exact byte_all (p := fun c => small c = 47 ↔ c = 47) (by decide +kernel) c
  · exact byte_all (p := fun c => small c = 60 ↔ c = 60) (by decide +kernel) c
  · exact byte_all (p := fun c => small c = 61 ↔ c = 61) (by decide +kernel) c
  · exact byte_all (p := fun c => small c = 62 ↔ c = 62) (by decide +kernel) c

theorem lower_cons (c : UInt8) (t : Bs) : lower (c :: t) = small c :: lower t := rfl

theorem value_size (r : Bs) : match valueOf r with
    | none => valueOf (lower r) = none
    | some (v, u) => ∃ v', valueOf (lower r) = some (v', lower u) := by
  have e := dw_lower isSpace sp_small r
  unfold valueOf
  rw [e]
  cases hr : r.dropWhile isSpace with
  | nil => rfl
  | cons c t =>
    rw [lower_cons]
    simp only
    by_cases hc : c = 34 ∨ c = 39
    · have hcs : small c = c := by rcases hc with rfl | rfl <;> rfl
      rw [if_pos hc, hcs, if_pos hc]
      have hp : ∀ d, (fun x => x != c) (small d) = (fun x => x != c) d := by
        intro d
        have := sign_small c (by rcases hc with rfl | rfl <;> simp) d
        show (small d != c) = (d != c)
        rw [Bool.eq_iff_iff, bne_iff_ne, bne_iff_ne, Ne, Ne, this]
      rw [dw_lower _ hp t]
      cases hq : t.dropWhile (· != c) with
      | nil => rfl
      | cons d w => exact ⟨_, rfl⟩
    · have hcs : ¬ (small c = 34 ∨ small c = 39) := by
        rw [sign_small 34 (by simp) c, sign_small 39 (by simp) c]; exact hc
      rw [if_neg hc, if_neg hcs, ← lower_cons, dw_lower bareB bare_small]
      exact ⟨_, rfl⟩

theorem attr_size (c : UInt8) (t : Bs) : match attrOf c t with
    | none => attrOf (small c) (lower t) = none
    | some (a, u) => ∃ v', attrOf (small c) (lower t) = some ((a.1, v'), lower u) := by
  have e1 := dw_lower keyB key_small t
  have e2 := dw_lower isSpace sp_small (t.dropWhile keyB)
  have e3 := tw_lower keyB key_small t
  have e4 : lower (small c :: lower (t.takeWhile keyB)) = lower (c :: t.takeWhile keyB) := by rw [← lower_cons, lower_lower]
  unfold attrOf
  rw [e1, e2, e3, e4]
  cases hr : (t.dropWhile keyB).dropWhile isSpace with
  | nil => exact ⟨_, rfl⟩
  | cons d u =>
    rw [show lower (d :: u) = small d :: lower u from rfl]
    simp only
    by_cases hd : d = 61
    · rw [if_pos hd, if_pos ((sign_small 61 (by simp) d).2 hd)]
      have hv := value_size u
      cases hw : valueOf u with
      | none => rw [hw] at hv; simp only at hv; rw [hv]
      | some p =>
        rw [hw] at hv; simp only at hv
        obtain ⟨v', hv⟩ := hv
        rw [hv]; exact ⟨v', rfl⟩
    · rw [if_neg hd, if_neg (fun h => hd ((sign_small 61 (by simp) d).1 h))]
      exact ⟨_, rfl⟩

theorem add_size (l l' : List Att) (a : Att) (v : Bs) (h : l'.map (·.1) = l.map (·.1)) : (addAtt l' (a.1, v)).map (·.1) = (addAtt l a).map (·.1) := by
  have e : (l'.any fun x => x.1 == a.1) = (l.any fun x => x.1 == a.1) := by
    have : ∀ l : List Att, (l.any fun x => x.1 == a.1) = ((l.map (·.1)).any fun x => x == a.1) := fun l => by rw [List.any_map]; rfl
    rw [this l', this l, h]
  unfold addAtt
  rw [e]
  split
  · exact h
  · rw [List.map_append, List.map_append, h]; rfl

theorem tagF_size : ∀ f l l' r, l'.map (·.1) = l.map (·.1) → match tagF f l r with
    | none => tagF f l' (lower r) = none
    | some (k, cl, u) => ∃ k', tagF f l' (lower r) = some (k', cl, lower u) ∧ k'.map (·.1) = k.map (·.1) := by
  intro f
  induction f with
  | zero => intro l l' r _; rfl
  | succ f ih =>
    intro l l' r hl
    have e := dw_lower isSpace sp_small r
    unfold tagF
    rw [e]
    cases hr : r.dropWhile isSpace with
    | nil => rfl
    | cons c t =>
      rw [lower_cons]
      simp only
      by_cases h1 : c = 62
      · rw [if_pos h1, if_pos ((sign_small 62 (by simp) c).2 h1)]
        exact ⟨l', rfl, hl⟩
      · rw [if_neg h1, if_neg (fun h => h1 ((sign_small 62 (by simp) c).1 h))]
        by_cases h2 : c = 47
        · rw [if_pos h2, if_pos ((sign_small 47 (by simp) c).2 h2)]
          have hh : (lower t).head? = some 62 ↔ t.head? = some 62 := by
            cases t with
            | nil => simp [lower]
            | cons d t => rw [lower_cons]; simp [sign_small 62 (by simp) d]
          by_cases h3 : t.head? = some 62
          · rw [if_pos h3, if_pos (hh.2 h3)]
            refine ⟨l', ?_, hl⟩
            cases t <;> rfl
          · rw [if_neg h3, if_neg (fun h => h3 (hh.1 h))]
            exact ih l l' t hl
        · rw [if_neg h2, if_neg (fun h => h2 ((sign_small 47 (by simp) c).1 h))]
          have ha := attr_size c t
          cases hq : attrOf c t with
          | none => rw [hq] at ha; simp only at ha; rw [ha]
          | some p =>
            rw [hq] at ha; simp only at ha
            obtain ⟨v', ha⟩ := ha
            rw [ha]
            exact ih _ _ _ (add_size l l' p.1 v' hl)

theorem tagL_size (r : Bs) : match tagL [] r with
    | none => tagL [] (lower r) = none
    | some (k, cl, u) => ∃ k', tagL [] (lower r) = some (k', cl, lower u) ∧ k'.map (·.1) = k.map (·.1) := by
  have := tagF_size r.length [] [] r rfl
  unfold tagL
  rw [lower_len]
  exact this

theorem begins_size (r : Bs) : beginsTag (lower r) = beginsTag r := by
  cases r with
  | nil => rfl
  | cons c t =>
    unfold beginsTag
    rw [lower_cons]
    simp only
    have h60 : (small c == 60) = (c == 60) := by rw [Bool.eq_iff_iff, beq_iff_eq, beq_iff_eq]; exact sign_small 60 (by simp) c
    rw [h60]
    congr 1
    have hh : (lower t).head? = some 47 ↔ t.head? = some 47 := by
      cases t with
      | nil => simp [lower]
      | cons d t => rw [lower_cons]; simp [sign_small 47 (by simp) d]
    have ht : (lower t).tail = lower t.tail := by cases t <;> rfl
    rw [show (if (lower t).head? = some 47 then (lower t).tail else lower t) = lower (if t.head? = some 47 then t.tail else t) from by
      by_cases h : t.head? = some 47
      · rw [if_pos h, if_pos (hh.2 h), ht]
      · rw [if_neg h, if_neg (fun x => h (hh.1 x))]]
    cases (if t.head? = some 47 then t.tail else t) with
    | nil => rfl
    | cons d u => exact letter_small d

theorem readTag_size (r : Bs) : match readTag r with
    | none => readTag (lower r) = none
    | some o => ∃ l', readTag (lower r) = some ⟨o.kind, o.name, l', o.closing, lower o.rest⟩ ∧ l'.map (·.1) = o.atts.map (·.1) := by
  unfold readTag
  rw [begins_size]
  by_cases hb : beginsTag r = true
  · rw [if_pos hb, if_pos hb]
    have htl : ∀ t : Bs, (lower t).tail = lower t.tail := fun t => by cases t <;> rfl
    rw [htl r]
    have hh : ∀ t : Bs, (lower t).head? = some 47 ↔ t.head? = some 47 := by
      intro t
      cases t with
      | nil => simp [lower]
      | cons d t => rw [lower_cons]; simp [sign_small 47 (by simp) d]
    by_cases h : r.tail.head? = some 47
    · rw [if_pos h, if_pos ((hh _).2 h), htl, dw_lower namedB named_small, tw_lower namedB named_small, lower_lower]
      have := tagL_size (r.tail.tail.dropWhile namedB)
      cases hq : tagL [] (r.tail.tail.dropWhile namedB) with
      | none => rw [hq] at this; simp only at this; rw [this]
      | some p =>
        rw [hq] at this; simp only at this
        obtain ⟨k', e, he⟩ := this
        rw [e]; exact ⟨[], rfl, rfl⟩
    · rw [if_neg h, if_neg (fun x => h ((hh _).1 x)), dw_lower namedB named_small, tw_lower namedB named_small, lower_lower]
      have := tagL_size (r.tail.dropWhile namedB)
      cases hq : tagL [] (r.tail.dropWhile namedB) with
      | none => rw [hq] at this; simp only at this; rw [this]
      | some p =>
        rw [hq] at this; simp only at this
        obtain ⟨k', e, he⟩ := this
        rw [e]; exact ⟨k', rfl, he⟩
  · rw [if_neg hb, if_neg hb]
end Tym

namespace Tym
set_option linter.unusedVariables false

theorem addAtt_len (l : List Att) (a : Att) : (addAtt l a).length ≤ l.length + 1 := by
  unfold addAtt
  split
  · omega
  · simp

theorem tagF_len : ∀ f l r l' c u, tagF f l r = some (l', c, u) → l'.length ≤ l.length + r.length := by
  intro f
  induction f with
  | zero => intro l r l' c u h; cases h
  | succ f ih =>
    intro l r l' cl u h
    unfold tagF at h
    have h0 := drop_while_len isSpace r
    cases hr : r.dropWhile isSpace with
    | nil => rw [hr] at h; cases h
    | cons c t =>
      rw [hr] at h h0
      rw [List.length_cons] at h0
      simp only at h
      by_cases h1 : c = 62
      · rw [if_pos h1] at h
        simp only [Option.some.injEq, Prod.mk.injEq] at h
        rw [← h.1]; omega
      · rw [if_neg h1] at h
        by_cases h2 : c = 47
        · rw [if_pos h2] at h
          by_cases h3 : t.head? = some 62
          · rw [if_pos h3] at h
            simp only [Option.some.injEq, Prod.mk.injEq] at h
            rw [← h.1]; omega
          · rw [if_neg h3] at h
            have := ih l t l' cl u h; omega
        · rw [if_neg h2] at h
          cases ha : attrOf c t with
          | none => rw [ha] at h; cases h
          | some p =>
            rw [ha] at h
            simp only at h
            have := ih _ _ l' cl u h
            have h5 := attr_len c t p.1 p.2 ha
            have h6 := addAtt_len l p.1
            omega

theorem readTag_len (r : Bs) (o : TagOut) (h : readTag r = some o) : o.atts.length ≤ r.length := by
  unfold readTag at h
  by_cases hb : beginsTag r = true
  · rw [if_pos hb] at h
    by_cases h1 : r.tail.head? = some 47
    · rw [if_pos h1] at h
      cases ht : tagL [] (r.tail.tail.dropWhile namedB) with
      | none => rw [ht] at h; cases h
      | some p => rw [ht] at h; simp only [Option.some.injEq] at h; rw [← h]; exact Nat.zero_le _
    · rw [if_neg h1] at h
      cases ht : tagL [] (r.tail.dropWhile namedB) with
      | none => rw [ht] at h; cases h
      | some p =>
        rw [ht] at h
        simp only [Option.some.injEq] at h
        have h2 := tagF_len _ _ _ p.1 p.2.1 p.2.2 ht
        have h3 := drop_while_len namedB r.tail
        have h4 : r.tail.length ≤ r.length := by rw [List.length_tail]; omega
        rw [← h]
        simp only [List.length_nil] at h2
        show p.1.length ≤ r.length
        omega
  · rw [if_neg hb] at h; cases h
end Tym

namespace Tym
set_option linter.unusedVariables false

/-- Where a sign first stands (its length, if nowhere). -/
def findAt (w : Bs) : Bs → Nat
  | [] => 0
  | c :: t => if begins (c :: t) w then 0 else findAt w t + 1

theorem findAt_le (w : Bs) (r : Bs) : findAt w r ≤ r.length := by
  induction r with
  | nil => exact Nat.le_refl _
  | cons c t ih => unfold findAt; split <;> simp only [List.length_cons] <;> omega
theorem findAt_begins (w : Bs) (r : Bs) (h : findAt w r < r.length) : begins (r.drop (findAt w r)) w = true := by
  induction r with
  | nil => simp [findAt] at h
  | cons c t ih =>
    unfold findAt at h ⊢
    by_cases hb : begins (c :: t) w = true
    · rw [if_pos hb]; exact hb
    · rw [if_neg hb] at h ⊢
      rw [List.drop_succ_cons]
      exact ih (by simp only [List.length_cons] at h; omega)
theorem findAt_not (w : Bs) (r : Bs) : ∀ k, k < findAt w r → begins (r.drop k) w = false := by
  induction r with
  | nil => intro k h; simp [findAt] at h
  | cons c t ih =>
    intro k h
    unfold findAt at h
    by_cases hb : begins (c :: t) w = true
    · rw [if_pos hb] at h; omega
    · rw [if_neg hb] at h
      cases k with
      | zero => simpa using hb
      | succ k => rw [List.drop_succ_cons]; exact ih k (by omega)
theorem findAt_eq (w : Bs) (r : Bs) (k : Nat) (hk : k < r.length) (h : begins (r.drop k) w = true) (hn : ∀ j, j < k → begins (r.drop j) w = false) : findAt w r = k := by
  rcases Nat.lt_trichotomy (findAt w r) k with hlt | heq | hgt
  · have := findAt_begins w r (by omega)
    rw [hn _ hlt] at this; cases this
  · exact heq
  · have := findAt_not w r k hgt
    rw [h] at this; cases this
theorem findAt_none (w : Bs) (r : Bs) (hn : ∀ j, j < r.length → begins (r.drop j) w = false) : findAt w r = r.length := by
  have hl := findAt_le w r
  by_cases h : findAt w r < r.length
  · have := findAt_begins w r h
    rw [hn _ h] at this; cases this
  · omega
theorem bgn_cons (c : UInt8) (t : Bs) (x : UInt8) (w : Bs) : begins (c :: t) (x :: w) = (x == c && begins t w) := rfl
theorem bgn_nil (t : Bs) : begins t [] = true := by cases t <;> rfl
theorem bgn_nil_cons (x : UInt8) (w : Bs) : begins [] (x :: w) = false := rfl

/-- What stands ahead of a sign, and how many bytes that is with it. -/
def upToL (w r : Bs) : Bs × Nat := (r.take (findAt w r), if findAt w r < r.length then findAt w r + w.length else r.length)
theorem upTo_le (w r : Bs) : (upToL w r).2 ≤ r.length := by
  unfold upToL
  simp only
  split
  · rename_i h
    have := begins_len _ _ (findAt_begins w r h)
    rw [List.length_drop] at this; omega
  · exact Nat.le_refl _

def endsWith (r w : Bs) : Bool := decide (w.length ≤ r.length) && r.drop (r.length - w.length) == w
def cutEnd (r : Bs) : Bs :=
  if endsWith r [45, 45, 33] then r.take (r.length - 3)
  else if endsWith r [45, 45] then r.take (r.length - 2)
  else if endsWith r [45] then r.take (r.length - 1) else r
/-- A comment, behind its beginning. -/
def commentL (r : Bs) : Bs × Nat :=
  if begins r [62] then ([], 1) else if begins r [45, 62] then ([], 2)
  else if findAt [45, 45, 62] r < findAt [45, 45, 33, 62] r then (r.take (findAt [45, 45, 62] r), findAt [45, 45, 62] r + 3)
  else if findAt [45, 45, 33, 62] r < findAt [45, 45, 62] r then (r.take (findAt [45, 45, 33, 62] r), findAt [45, 45, 33, 62] r + 4)
  else (cutEnd r, r.length)

/-- Does something begin here that is no tag? -/
def beginsNote (r : Bs) : Bool :=
  match r with
  | a :: c :: t => a == 60 && (c == 33 || c == 63 || (c == 47 && (match t with | [] => false | d :: _ => !isLetter d)))
  | _ => false

def doctypeIn (r : Bs) : Bool := decide (9 ≤ r.length) && lower (r.take 9) == [60, 33, 100, 111, 99, 116, 121, 112, 101]
/-- What begins here: its kind (0: none), its text, how many bytes it has. -/
def noteL (cdata : Bool) (r : Bs) : Nat × Bs × Nat :=
  if begins r [60, 33, 45, 45] then (4, (commentL (r.drop 4)).1, 4 + (commentL (r.drop 4)).2)
  else if doctypeIn r then (5, [], 9 + (upToL [62] (r.drop 9)).2)
  else if cdata && begins r [60, 33, 91, 67, 68, 65, 84, 65, 91] then (1, (upToL [93, 93, 62] (r.drop 9)).1, 9 + (upToL [93, 93, 62] (r.drop 9)).2)
  else if begins r [60, 47, 62] then (0, [], 3)
  else (4, (upToL [62] (r.drop (if r.getD 1 0 = 63 then 1 else 2))).1, (if r.getD 1 0 = 63 then 1 else 2) + (upToL [62] (r.drop (if r.getD 1 0 = 63 then 1 else 2))).2)

theorem beginsNote_len (r : Bs) (h : beginsNote r = true) : 2 ≤ r.length := by
  match r with
  | [] => cases h
  | [_] => cases h
  | _ :: _ :: _ => simp
theorem commentL_le (r : Bs) : (commentL r).2 ≤ r.length := by
  unfold commentL
  split
  · rename_i h; exact begins_len _ _ h
  · split
    · rename_i h; exact begins_len _ _ h
    · split
      · rename_i h
        have h2 := findAt_le [45, 45, 33, 62] r
        have := begins_len _ _ (findAt_begins [45, 45, 62] r (by omega))
        rw [List.length_drop] at this
        simp only [List.length_cons, List.length_nil] at this ⊢; omega
      · split
        · rename_i h
          have h2 := findAt_le [45, 45, 62] r
          have := begins_len _ _ (findAt_begins [45, 45, 33, 62] r (by omega))
          rw [List.length_drop] at this
          simp only [List.length_cons, List.length_nil] at this ⊢; omega
        · exact Nat.le_refl _
theorem noteL_le (cdata : Bool) (r : Bs) (h : beginsNote r = true) : 0 < (noteL cdata r).2.2 ∧ (noteL cdata r).2.2 ≤ r.length := by
  have h2 := beginsNote_len r h
  unfold noteL
  split
  · rename_i hb
    have h4 := begins_len _ _ hb
    have := commentL_le (r.drop 4)
    rw [List.length_drop] at this
    simp only [List.length_cons, List.length_nil] at h4 ⊢; omega
  · split
    · rename_i hd
      unfold doctypeIn at hd
      rw [Bool.and_eq_true, decide_eq_true_eq] at hd
      have := upTo_le [62] (r.drop 9)
      rw [List.length_drop] at this
      simp only; omega
    · split
      · rename_i hc
        rw [Bool.and_eq_true] at hc
        have h9 := begins_len _ _ hc.2
        have := upTo_le [93, 93, 62] (r.drop 9)
        rw [List.length_drop] at this
        simp only [List.length_cons, List.length_nil] at h9 ⊢; omega
      · split
        · rename_i hs
          have h3 := begins_len _ _ hs
          simp only [List.length_cons, List.length_nil] at h3 ⊢; omega
        · have := upTo_le [62] (r.drop (if r.getD 1 0 = 63 then 1 else 2))
          rw [List.length_drop] at this
          have : (if r.getD 1 0 = 63 then 1 else 2) ≤ 2 := by split <;> omega
          have : 0 < (if r.getD 1 0 = 63 then 1 else 2) := by split <;> omega
          simp only; omega
end Tym
