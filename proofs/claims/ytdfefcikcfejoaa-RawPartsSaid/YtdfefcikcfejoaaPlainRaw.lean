/- Plain functions of the package raw, and what ties them to the document's answer. No program in sight. -/
import Derived.Test.YtdfefcikcfejoaaPlainEnt
set_option linter.unusedVariables false
namespace Tym

def isClose (c : UInt8) : Bool := isSpace c || c == 47 || c == 62
def wordIn (r small : Bs) : Bool := decide (small.length ≤ r.length) && lower (r.take small.length) == small
def closedIn (r : Bs) (j : Nat) : Bool := decide (j < r.length) && isClose (r.getD j 0)
def follows (r e : Bs) : Bool := wordIn r e && closedIn r e.length

def plainAt (e : Bs) : Bs → Nat
  | [] => 0
  | c :: t => if follows (c :: t) e then 0 else 1 + plainAt e t

def endOf (name : Bs) : Bs := 60 :: 47 :: lower name

/-- How far a script's text goes: the state, the dashes, what is left. -/
def scr (e : Bs) : Nat → Nat → Nat → Bs → Nat
  | 0, _, _, _ => 0
  | _ + 1, _, _, [] => 0
  | f + 1, st, d, c :: t =>
    if st ≠ 2 ∧ follows (c :: t) e = true then 0
    else if st = 0 then
      (if begins (c :: t) [60, 33, 45, 45] then 4 + scr e f 1 2 ((c :: t).drop 4) else 1 + scr e f 0 d t)
    else if c = 45 then 1 + scr e f st (d + 1) t
    else if c = 62 ∧ 2 ≤ d then 1 + scr e f 0 0 t
    else if st = 1 ∧ follows (c :: t) [60, 115, 99, 114, 105, 112, 116] = true then 8 + scr e f 2 0 ((c :: t).drop 8)
    else if st = 2 ∧ follows (c :: t) [60, 47, 115, 99, 114, 105, 112, 116] = true then 9 + scr e f 1 0 ((c :: t).drop 9)
    else 1 + scr e f st 0 t

def script (e r : Bs) : Nat := scr e r.length 0 0 r

theorem follows_len (r e : Bs) (h : follows r e = true) : e.length < r.length := by
  unfold follows closedIn at h
  simp only [Bool.and_eq_true, decide_eq_true_eq] at h
  exact h.2.1

theorem begins_len (s w : Bs) (h : begins s w = true) : w.length ≤ s.length := by
  have := congrArg List.length ((begins_iff s w).1 h)
  rw [List.length_take] at this; omega

theorem scr_fuel (e : Bs) : ∀ f g st d r, r.length ≤ f → r.length ≤ g → scr e f st d r = scr e g st d r := by
  intro f
  induction f with
  | zero => intro g st d r h _; rw [List.eq_nil_of_length_eq_zero (by omega : r.length = 0)]; cases g <;> rfl
  | succ f ih =>
    intro g st d r hf hg
    cases r with
    | nil => cases g <;> rfl
    | cons c t =>
      cases g with
      | zero => simp at hg
      | succ g =>
        rw [List.length_cons] at hf hg
        unfold scr
        rw [ih g 0 d t (by omega) (by omega), ih g st (d + 1) t (by omega) (by omega), ih g 0 0 t (by omega) (by omega), ih g st 0 t (by omega) (by omega),
          ih g 1 2 ((c :: t).drop 4) (by rw [List.length_drop, List.length_cons]; omega) (by rw [List.length_drop, List.length_cons]; omega),
          ih g 2 0 ((c :: t).drop 8) (by rw [List.length_drop, List.length_cons]; omega) (by rw [List.length_drop, List.length_cons]; omega),
          ih g 1 0 ((c :: t).drop 9) (by rw [List.length_drop, List.length_cons]; omega) (by rw [List.length_drop, List.length_cons]; omega)]

theorem scr_le (e : Bs) : ∀ f st d r, scr e f st d r ≤ r.length := by
  intro f
  induction f with
  | zero => intro st d r; exact Nat.zero_le _
  | succ f ih =>
    intro st d r
    cases r with
    | nil => exact Nat.zero_le _
    | cons c t =>
      unfold scr
      have i1 := ih 0 d t
      have i2 := ih st (d + 1) t
      have i3 := ih 0 0 t
      have i4 := ih st 0 t
      have i5 := ih 1 2 ((c :: t).drop 4)
      have i6 := ih 2 0 ((c :: t).drop 8)
      have i7 := ih 1 0 ((c :: t).drop 9)
      rw [List.length_drop] at i5 i6 i7
      rw [List.length_cons] at *
      split
      · omega
      · split
        · split
          · rename_i hb
            have := begins_len _ _ hb
            simp at this
            omega
          · omega
        · split
          · omega
          · split
            · omega
            · split
              · rename_i hb
                have := follows_len _ _ hb.2
                simp at this
                omega
              · split
                · rename_i hb
                  have := follows_len _ _ hb.2
                  simp at this
                  omega
                · omega

theorem plainAt_le (e : Bs) (r : Bs) : plainAt e r ≤ r.length := by
  induction r with
  | nil => exact Nat.le_refl _
  | cons c t ih => unfold plainAt; rw [List.length_cons]; split <;> omega

theorem small_60 (c : UInt8) : small c = 60 ↔ c = 60 := byte_all (p := fun c => small c = 60 ↔ c = 60) (by decide +kernel) c
theorem follows_head (c : UInt8) (t e : Bs) (h : follows (c :: t) (60 :: e) = true) : c = 60 := by
  unfold follows wordIn at h
  simp only [Bool.and_eq_true, beq_iff_eq] at h
  have h2 := h.1.2
  rw [List.length_cons, List.take_succ_cons] at h2
  unfold lower at h2
  rw [List.map_cons, List.cons.injEq] at h2
  exact (small_60 c).1 h2.1

theorem plainAt_skip (e : Bs) (r : Bs) : plainAt (60 :: e) r = upto 60 r + plainAt (60 :: e) (r.drop (upto 60 r)) := by
  induction r with
  | nil => rfl
  | cons c t ih =>
    by_cases hc : c = 60
    · subst hc
      rw [show upto 60 (60 :: t) = 0 from by simp [upto]]; simp
    · rw [show upto 60 (c :: t) = 1 + upto 60 t from by simp [upto, hc, Nat.add_comm]]
      have hf : follows (c :: t) (60 :: e) = false := by
        rw [Bool.eq_false_iff]; exact fun h => hc (follows_head c t e h)
      rw [show plainAt (60 :: e) (c :: t) = 1 + plainAt (60 :: e) t from by rw [plainAt, hf]; rfl, ih, Nat.add_comm 1 (upto 60 t), List.drop_succ_cons]
      omega

theorem small_small (c : UInt8) : small (small c) = small c := byte_all (p := fun c => small (small c) = small c) (by decide +kernel) c
theorem lower_lower (l : Bs) : lower (lower l) = lower l := by unfold lower; rw [List.map_map]; congr 1; funext c; exact small_small c
theorem lower_len (l : Bs) : (lower l).length = l.length := List.length_map ..

theorem small_mark (c : UInt8) (x : UInt8) (h : x = 60 ∨ x = 33 ∨ x = 45) : small c = x ↔ c = x := by
  rcases h with rfl | rfl | rfl
  · exact small_60 c
  · exact byte_all (p := fun c => small c = 33 ↔ c = 33) (by decide +kernel) c
  · exact byte_all (p := fun c => small c = 45 ↔ c = 45) (by decide +kernel) c

theorem lower_mark : ∀ (w l : Bs), (∀ x ∈ w, x = 60 ∨ x = 33 ∨ x = 45) → (lower l = w ↔ l = w) := by
  intro w
  induction w with
  | nil => intro l _; simp [lower]
  | cons x w ih =>
    intro l h
    cases l with
    | nil => simp [lower]
    | cons c l =>
      have h1 := small_mark c x (h x (List.mem_cons_self ..))
      have h2 := ih l (fun y hy => h y (List.mem_cons_of_mem _ hy))
      unfold lower at h2 ⊢
      rw [List.map_cons, List.cons.injEq, List.cons.injEq, h1, h2]

theorem word_begins (r : Bs) : wordIn r [60, 33, 45, 45] = begins r [60, 33, 45, 45] := by
  rw [Bool.eq_iff_iff, begins_iff]
  unfold wordIn
  rw [Bool.and_eq_true, decide_eq_true_iff, beq_iff_eq, lower_mark _ _ (by decide)]
  refine ⟨fun h => h.2, fun h => ⟨?_, h⟩⟩
  have := congrArg List.length h
  rw [List.length_take] at this
  simp at this ⊢
  omega
end Tym
