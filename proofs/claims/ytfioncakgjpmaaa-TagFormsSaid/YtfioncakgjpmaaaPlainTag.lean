/- Plain functions of the package tag. No program in sight. -/
import Derived.Test.YtfioncakgjpmaaaPlainEnt
set_option linter.unusedVariables false
namespace Tym
abbrev Att := Bs × Bs

def namedB (c : UInt8) : Bool := !isSpace c && c != 47 && c != 62
def keyB (c : UInt8) : Bool := !isSpace c && c != 47 && c != 62 && c != 61
def bareB (c : UInt8) : Bool := !isSpace c && c != 62

/-- An attribute's value: what is read, and what stands behind it. -/
def valueOf (r : Bs) : Option (Bs × Bs) :=
  match r.dropWhile isSpace with
  | [] => none
  | c :: t =>
    if c = 34 ∨ c = 39 then
      match t.dropWhile (· != c) with
      | [] => none
      | _ :: u => some (dec true (t.takeWhile (· != c)), u)
    else some (dec true ((c :: t).takeWhile bareB), (c :: t).dropWhile bareB)

/-- An attribute that begins with the byte c. -/
def attrOf (c : UInt8) (t : Bs) : Option (Att × Bs) :=
  match (t.dropWhile keyB).dropWhile isSpace with
  | [] => some ((lower (c :: t.takeWhile keyB), []), [])
  | d :: u =>
    if d = 61 then
      match valueOf u with
      | none => none
      | some (v, r) => some ((lower (c :: t.takeWhile keyB), v), r)
    else some ((lower (c :: t.takeWhile keyB), []), d :: u)

def addAtt (l : List Att) (a : Att) : List Att := if l.any (fun x => x.1 == a.1) then l else l ++ [a]

/-- A tag's attributes, whether it closes itself, what stands behind it. -/
def tagF : Nat → List Att → Bs → Option (List Att × Bool × Bs)
  | 0, _, _ => none
  | f + 1, l, r =>
    match r.dropWhile isSpace with
    | [] => none
    | c :: t =>
      if c = 62 then some (l, false, t)
      else if c = 47 then (if t.head? = some 62 then some (l, true, t.tail) else tagF f l t)
      else match attrOf c t with
        | none => none
        | some (a, u) => tagF f (addAtt l a) u

def tagL (l : List Att) (r : Bs) : Option (List Att × Bool × Bs) := tagF r.length l r

/-- Does a tag begin here? -/
def beginsTag (r : Bs) : Bool :=
  match r with
  | [] => false
  | c :: t => c == 60 && (match (if t.head? = some 47 then t.tail else t) with | [] => false | d :: _ => isLetter d)

structure TagOut where
  kind : Nat
  name : Bs
  atts : List Att
  closing : Bool
  rest : Bs

def readTag (r : Bs) : Option TagOut :=
  if beginsTag r then
    if r.tail.head? = some 47 then
      match tagL [] (r.tail.tail.dropWhile namedB) with
      | none => none
      | some (_, _, u) => some ⟨3, lower (r.tail.tail.takeWhile namedB), [], false, u⟩
    else
      match tagL [] (r.tail.dropWhile namedB) with
      | none => none
      | some (l, c, u) => some ⟨2, lower (r.tail.takeWhile namedB), l, c, u⟩
  else none

theorem drop_while_len (p : UInt8 → Bool) (r : Bs) : (r.dropWhile p).length ≤ r.length := (List.dropWhile_sublist p).length_le

theorem value_len (r : Bs) (v u : Bs) (h : valueOf r = some (v, u)) : u.length ≤ r.length := by
  unfold valueOf at h
  have h0 := drop_while_len isSpace r
  cases hr : r.dropWhile isSpace with
  | nil => rw [hr] at h; cases h
  | cons c t =>
    rw [hr] at h h0
    rw [List.length_cons] at h0
    simp only at h
    by_cases hc : c = 34 ∨ c = 39
    · rw [if_pos hc] at h
      have h1 := drop_while_len (· != c) t
      cases hq : t.dropWhile (· != c) with
      | nil => rw [hq] at h; cases h
      | cons d w =>
        rw [hq] at h h1
        rw [List.length_cons] at h1
        simp only [Option.some.injEq, Prod.mk.injEq] at h
        rw [← h.2]; omega
    · rw [if_neg hc] at h
      simp only [Option.some.injEq, Prod.mk.injEq] at h
      have h1 := drop_while_len bareB (c :: t)
      rw [List.length_cons] at h1
      rw [← h.2]; omega

theorem attr_len (c : UInt8) (t : Bs) (a : Att) (u : Bs) (h : attrOf c t = some (a, u)) : u.length ≤ t.length := by
  unfold attrOf at h
  have h0 := drop_while_len isSpace (t.dropWhile keyB)
  have h1 := drop_while_len keyB t
  cases hr : (t.dropWhile keyB).dropWhile isSpace with
  | nil =>
    rw [hr] at h
    simp only [Option.some.injEq, Prod.mk.injEq] at h
    rw [← h.2]; exact Nat.zero_le _
  | cons d w =>
    rw [hr] at h h0
    rw [List.length_cons] at h0
    simp only at h
    by_cases hc : d = 61
    · rw [if_pos hc] at h
      cases hv : valueOf w with
      | none => rw [hv] at h; cases h
      | some p =>
        rw [hv] at h
        simp only [Option.some.injEq, Prod.mk.injEq] at h
        have h2 := value_len w p.1 p.2 hv
        rw [← h.2]; omega
    · rw [if_neg hc] at h
      simp only [Option.some.injEq, Prod.mk.injEq] at h
      rw [← h.2, List.length_cons]; omega

theorem tagF_nil (f : Nat) (l : List Att) : tagF f l [] = none := by cases f <;> rfl

theorem tagF_fuel : ∀ f g l r, r.length ≤ f → r.length ≤ g → tagF f l r = tagF g l r := by
  intro f
  induction f with
  | zero => intro g l r h _; rw [List.eq_nil_of_length_eq_zero (by omega : r.length = 0), tagF_nil, tagF_nil]
  | succ f ih =>
    intro g l r hf hg
    cases g with
    | zero => rw [List.eq_nil_of_length_eq_zero (by omega : r.length = 0), tagF_nil, tagF_nil]
    | succ g =>
      unfold tagF
      have h0 := drop_while_len isSpace r
      cases hr : r.dropWhile isSpace with
      | nil => rfl
      | cons c t =>
        rw [hr, List.length_cons] at h0
        simp only
        rw [ih g l t (by omega) (by omega)]
        cases ha : attrOf c t with
        | none => rfl
        | some p =>
          have := attr_len c t p.1 p.2 ha
          simp only
          rw [ih g (addAtt l p.1) p.2 (by omega) (by omega)]

/-- The steps of a tag's attributes. -/
theorem tagL_none (l : List Att) (r : Bs) (h : r.dropWhile isSpace = []) : tagL l r = none := by
  unfold tagL
  cases hn : r.length with
  | zero => rfl
  | succ n => unfold tagF; rw [h]
theorem tagL_cons (l : List Att) (r : Bs) (c : UInt8) (t : Bs) (h : r.dropWhile isSpace = c :: t) : tagL l r =
    if c = 62 then some (l, false, t)
    else if c = 47 then (if t.head? = some 62 then some (l, true, t.tail) else tagL l t)
    else match attrOf c t with
      | none => none
      | some (a, u) => tagL (addAtt l a) u := by
  have h0 := drop_while_len isSpace r
  rw [h, List.length_cons] at h0
  unfold tagL
  cases hn : r.length with
  | zero => omega
  | succ n =>
    rw [tagF, h]
    simp only
    rw [tagF_fuel n t.length l t (by omega) (Nat.le_refl _)]
    cases ha : attrOf c t with
    | none => rfl
    | some p =>
      have := attr_len c t p.1 p.2 ha
      simp only
      rw [tagF_fuel n p.2.length (addAtt l p.1) p.2 (by omega) (Nat.le_refl _)]
theorem tagL_end (l : List Att) (r t : Bs) (h : r.dropWhile isSpace = 62 :: t) : tagL l r = some (l, false, t) := by
  rw [tagL_cons l r 62 t h, if_pos rfl]
theorem tagL_shut (l : List Att) (r t : Bs) (h : r.dropWhile isSpace = 47 :: t) (ht : t.head? = some 62) : tagL l r = some (l, true, t.tail) := by
  rw [tagL_cons l r 47 t h, if_neg (by decide), if_pos rfl, if_pos ht]
theorem tagL_slash (l : List Att) (r t : Bs) (h : r.dropWhile isSpace = 47 :: t) (ht : t.head? ≠ some 62) : tagL l r = tagL l t := by
  rw [tagL_cons l r 47 t h, if_neg (by decide), if_pos rfl, if_neg ht]
theorem tagL_bad (l : List Att) (r t : Bs) (c : UInt8) (h : r.dropWhile isSpace = c :: t) (h1 : c ≠ 62) (h2 : c ≠ 47) (ha : attrOf c t = none) : tagL l r = none := by
  rw [tagL_cons l r c t h, if_neg h1, if_neg h2, ha]
theorem tagL_attr (l : List Att) (r t : Bs) (c : UInt8) (a : Att) (u : Bs) (h : r.dropWhile isSpace = c :: t) (h1 : c ≠ 62) (h2 : c ≠ 47) (ha : attrOf c t = some (a, u)) : tagL l r = tagL (addAtt l a) u := by
  rw [tagL_cons l r c t h, if_neg h1, if_neg h2, ha]
end Tym
