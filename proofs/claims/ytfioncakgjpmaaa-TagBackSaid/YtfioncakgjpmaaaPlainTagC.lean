/- Plain law: a tag that is written well is read as it is. No program in sight. -/
import Derived.Test.YtfioncakgjpmaaaPlainTagB
set_option linter.unusedVariables false
namespace Tym

def escq (s : Bs) : Bs := s.flatMap fun c => if c = 38 then [38, 97, 109, 112, 59] else if c = 34 then [38, 113, 117, 111, 116, 59] else [c]
def nameOf (s : Bs) (i : Nat) : Bs := UInt8.ofNat (97 + i % 26) :: UInt8.ofNat (97 + i / 26 % 26) :: (s.take 20).filter isLower
def attsText : Nat → List Bs → Bs
  | _, [] => []
  | i, v :: l => 32 :: nameOf v i ++ [32, 61, 32, 34] ++ escq v ++ [34] ++ attsText (i + 1) l
def attsOf : Nat → List Bs → List Att
  | _, [] => []
  | i, v :: l => (nameOf v i, v) :: attsOf (i + 1) l
def shutText (c : Bool) : Bs := if c then [47, 62] else [62]
def tagText (l : List Bs) (c : Bool) : Bs := [60, 120, 121] ++ attsText 0 l ++ shutText c

theorem taken_quot (attr : Bool) (t : Bs) : taken (38 :: 113 :: 117 :: 111 :: 116 :: 59 :: t) attr = ([34], 6) := by
  have hm : (⟨[113, 117, 111, 116], [34], true⟩ : Ent) ∈ table := by decide +kernel
  have hn : named (113 :: 117 :: 111 :: 116 :: 59 :: t) = ([34], 5) := by
    refine named_of _ ⟨[113, 117, 111, 116], [34], true⟩ 5 hm ?_ fun e' he' m h => ?_
    · unfold cand
      rw [if_pos (by simp [begins])]; rfl
    · exact cand_semi [113, 117, 111, 116] t e' he' m h
  unfold taken
  have h0 : numeric 16777216 (38 :: 113 :: 117 :: 111 :: 116 :: 59 :: t) = (0, 0, 0) := by
    unfold numeric; rw [if_neg (by simp [begins])]
  simp only [h0, List.drop_succ_cons, List.drop_zero, hn]
  simp [literal]

theorem dec_escq (attr : Bool) (s : Bs) : dec attr (escq s) = s := by
  induction s with
  | nil => rfl
  | cons c s ih =>
    unfold escq at *
    rw [List.flatMap_cons]
    by_cases h : c = 38
    · rw [if_pos h, h]
      show dec attr (38 :: 97 :: 109 :: 112 :: 59 :: _) = _
      rw [dec_amp, taken_escaped]
      simp [ih]
    · rw [if_neg h]
      by_cases h2 : c = 34
      · rw [if_pos h2, h2]
        show dec attr (38 :: 113 :: 117 :: 111 :: 116 :: 59 :: _) = _
        rw [dec_amp, taken_quot]
        simp [ih]
      · rw [if_neg h2, List.singleton_append, dec_cons _ _ _ h, ih]

theorem escq_quote (s : Bs) : ∀ c ∈ escq s, (c != 34) = true := by
  intro c hc
  unfold escq at hc
  obtain ⟨d, hd, hc⟩ := List.mem_flatMap.1 hc
  by_cases h : d = 38
  · rw [if_pos h] at hc; exact (by decide : ∀ c ∈ ([38, 97, 109, 112, 59] : Bs), (c != 34) = true) c hc
  · rw [if_neg h] at hc
    by_cases h2 : d = 34
    · rw [if_pos h2] at hc; exact (by decide : ∀ c ∈ ([38, 113, 117, 111, 116, 59] : Bs), (c != 34) = true) c hc
    · rw [if_neg h2] at hc
      rw [List.mem_singleton.1 hc]; simpa using h2

theorem split_while (p : UInt8 → Bool) (a : Bs) (d : UInt8) (b : Bs) (ha : ∀ c ∈ a, p c = true) (hd : p d = false) : (a ++ d :: b).takeWhile p = a ∧ (a ++ d :: b).dropWhile p = d :: b := by
  induction a with
  | nil => simp [hd]
  | cons c a ih =>
    have hc := ha c (List.mem_cons_self ..)
    obtain ⟨h1, h2⟩ := ih fun x hx => ha x (List.mem_cons_of_mem _ hx)
    rw [List.cons_append, List.takeWhile_cons, List.dropWhile_cons, hc]
    simp [h1, h2]

theorem low_of (k : Nat) (h : k < 26) : isLower (UInt8.ofNat (97 + k)) = true := by
  have : ∀ k, k < 26 → isLower (UInt8.ofNat (97 + k)) = true := by decide +kernel
  exact this k h

theorem nameOf_low (s : Bs) (i : Nat) : ∀ c ∈ nameOf s i, isLower c = true := by
  intro c hc
  unfold nameOf at hc
  rcases List.mem_cons.1 hc with rfl | hc
  · exact low_of _ (Nat.mod_lt _ (by omega))
  · rcases List.mem_cons.1 hc with rfl | hc
    · exact low_of _ (Nat.mod_lt _ (by omega))
    · exact (List.mem_filter.1 hc).2

theorem low_small (c : UInt8) : isLower c = true → small c = c := byte_all (p := fun c => isLower c = true → small c = c) (by decide +kernel) c
theorem low_key (c : UInt8) : isLower c = true → keyB c = true := byte_all (p := fun c => isLower c = true → keyB c = true) (by decide +kernel) c
theorem low_signs (c : UInt8) : isLower c = true → isSpace c = false ∧ c ≠ 62 ∧ c ≠ 47 := byte_all (p := fun c => isLower c = true → isSpace c = false ∧ c ≠ 62 ∧ c ≠ 47) (by decide +kernel) c
theorem lower_low (l : Bs) (h : ∀ c ∈ l, isLower c = true) : lower l = l := by
  unfold lower
  induction l with
  | nil => rfl
  | cons c l ih => rw [List.map_cons, low_small c (h c (List.mem_cons_self ..)), ih fun x hx => h x (List.mem_cons_of_mem _ hx)]

theorem ofNat_inj (a b : Nat) (ha : a < 256) (hb : b < 256) (h : UInt8.ofNat a = UInt8.ofNat b) : a = b := by
  have := congrArg UInt8.toNat h
  rw [UInt8.toNat_ofNat', UInt8.toNat_ofNat', Nat.mod_eq_of_lt ha, Nat.mod_eq_of_lt hb] at this
  exact this

theorem nameOf_ne (a b : Bs) (i j : Nat) (hi : i < 676) (hj : j < 676) (h : nameOf a i = nameOf b j) : i = j := by
  unfold nameOf at h
  rw [List.cons.injEq, List.cons.injEq] at h
  have h1 := ofNat_inj _ _ (by omega) (by omega) h.1
  have h2 := ofNat_inj _ _ (by omega) (by omega) h.2.1
  omega

theorem value_written (v rest : Bs) : valueOf (32 :: 34 :: (escq v ++ 34 :: rest)) = some (v, rest) := by
  unfold valueOf
  rw [show (32 :: 34 :: (escq v ++ 34 :: rest) : Bs).dropWhile isSpace = 34 :: (escq v ++ 34 :: rest) from by simp [isSpace]]
  obtain ⟨h1, h2⟩ := split_while (· != 34) (escq v) 34 rest (escq_quote v) (by decide)
  simp only [true_or, if_true]
  rw [h1, h2]
  simp only
  rw [dec_escq]

theorem attr_written (v : Bs) (i : Nat) (rest : Bs) : ∃ c t, nameOf v i ++ [32, 61, 32, 34] ++ escq v ++ [34] ++ rest = c :: t ∧ isLower c = true ∧ attrOf c t = some ((nameOf v i, v), rest) := by
  have hl := nameOf_low v i
  obtain ⟨c, n, hn⟩ : ∃ c n, nameOf v i = c :: n := ⟨_, _, rfl⟩
  rw [hn] at hl ⊢
  refine ⟨c, n ++ 32 :: 61 :: 32 :: 34 :: (escq v ++ 34 :: rest), by simp, hl c (List.mem_cons_self ..), ?_⟩
  obtain ⟨h1, h2⟩ := split_while keyB n 32 (61 :: 32 :: 34 :: (escq v ++ 34 :: rest)) (fun x hx => low_key x (hl x (List.mem_cons_of_mem _ hx))) (by decide)
  unfold attrOf
  rw [h1, h2, show (32 :: 61 :: 32 :: 34 :: (escq v ++ 34 :: rest) : Bs).dropWhile isSpace = 61 :: 32 :: 34 :: (escq v ++ 34 :: rest) from by simp [isSpace]]
  simp only [if_true]
  rw [value_written, lower_low _ hl]

theorem tagL_written (closing : Bool) (more : Bs) : ∀ (l : List Bs) (i : Nat) (acc : List Att), i + l.length ≤ 676 → (∀ a ∈ acc, ∃ s j, j < i ∧ a.1 = nameOf s j) →
    tagL acc (attsText i l ++ (shutText closing ++ more)) = some (acc ++ attsOf i l, closing, more) := by
  intro l
  induction l with
  | nil =>
    intro i acc _ _
    rw [show attsText i [] ++ (shutText closing ++ more) = shutText closing ++ more from rfl, show attsOf i [] = [] from rfl, List.append_nil]
    cases closing with
    | false => exact tagL_end acc _ more (by simp [shutText, isSpace])
    | true => exact tagL_shut acc _ (62 :: more) (by simp [shutText, isSpace]) rfl
  | cons v l ih =>
    intro i acc hi hacc
    rw [List.length_cons] at hi
    obtain ⟨c, t, he, hc, ha⟩ := attr_written v i (attsText (i + 1) l ++ (shutText closing ++ more))
    obtain ⟨h1, h2, h3⟩ := low_signs c hc
    rw [show attsText i (v :: l) ++ (shutText closing ++ more) = 32 :: c :: t from by rw [← he]; simp [attsText]]
    rw [tagL_attr acc (32 :: c :: t) t c _ _ (by rw [List.dropWhile_cons, show isSpace 32 = true from rfl, if_pos rfl, List.dropWhile_cons, h1]; rfl) h2 h3 ha]
    have hne : ¬ (acc.any fun x => x.1 == (nameOf v i, v).1) = true := by
      rw [List.any_eq_true]
      rintro ⟨a, hm, hh⟩
      obtain ⟨s, j, hj, hs⟩ := hacc a hm
      rw [beq_iff_eq, hs] at hh
      have := nameOf_ne s v j i (by omega) (by omega) hh
      omega
    unfold addAtt
    rw [if_neg hne, ih (i + 1) _ (by omega) ?_]
    · rw [attsOf, List.append_assoc]; rfl
    · intro a ha
      rcases List.mem_append.1 ha with ha | ha
      · obtain ⟨s, j, hj, hs⟩ := hacc a ha
        exact ⟨s, j, by omega, hs⟩
      · rw [List.mem_singleton.1 ha]; exact ⟨v, i, by omega, rfl⟩

theorem readTag_written (l : List Bs) (closing : Bool) (more : Bs) (hl : l.length ≤ 676) :
    readTag (tagText l closing ++ more) = some ⟨2, [120, 121], attsOf 0 l, closing, more⟩ := by
  have hx : tagText l closing ++ more = 60 :: 120 :: 121 :: (attsText 0 l ++ (shutText closing ++ more)) := by simp [tagText]
  have hh : ∃ d b, attsText 0 l ++ (shutText closing ++ more) = d :: b ∧ namedB d = false := by
    cases l with
    | nil => cases closing <;> exact ⟨_, _, rfl, by decide⟩
    | cons v l => exact ⟨_, _, rfl, by decide⟩
  obtain ⟨d, b, hd, hnd⟩ := hh
  have hw := tagL_written closing more l 0 [] (by omega) (by simp)
  rw [hx]
  rw [hd] at hw ⊢
  obtain ⟨h1, h2⟩ := split_while namedB [120, 121] d b (by decide) hnd
  unfold readTag
  rw [if_pos (by simp [beginsTag, isLetter, isLower])]
  rw [if_neg (by simp)]
  simp only [List.tail_cons]
  rw [show (120 :: 121 :: d :: b : Bs) = [120, 121] ++ d :: b from rfl, h1, h2, hw]
  rfl
end Tym
