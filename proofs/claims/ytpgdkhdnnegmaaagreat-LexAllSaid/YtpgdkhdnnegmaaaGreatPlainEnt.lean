/- Plain functions on bytes that the packages class and ent compute, and the laws that tie them to the document's answer. No program in sight. -/
import GoSem.Core.Utf8
namespace Tym

abbrev Bs := List UInt8

def isLower (c : UInt8) : Bool := decide (97 ≤ c) && decide (c ≤ 122)
def isUpper (c : UInt8) : Bool := decide (65 ≤ c) && decide (c ≤ 90)
def isLetter (c : UInt8) : Bool := isLower c || isUpper c
def isDigit (c : UInt8) : Bool := decide (48 ≤ c) && decide (c ≤ 57)
def isSpace (c : UInt8) : Bool := c == 9 || c == 10 || c == 12 || c == 13 || c == 32
def small (c : UInt8) : UInt8 := if isUpper c then c + 32 else c
def lower (s : Bs) : Bs := s.map small
def hex (c : UInt8) : Int :=
  if isDigit c then (c.toNat : Int) - 48
  else if decide (97 ≤ c) && decide (c ≤ 102) then (c.toNat : Int) - 87
  else if decide (65 ≤ c) && decide (c ≤ 70) then (c.toNat : Int) - 55 else -1

/-- An entry: the name, what it stands for, whether it counts without its sign. -/
structure Ent where
  name : Bs
  is : Bs
  bare : Bool
deriving DecidableEq

def tableRows : List (Bs × Bs × Bool) := [
([97, 109, 112], [38], true),
  ([65, 77, 80], [38], true),
  ([108, 116], [60], true),
  ([76, 84], [60], true),
  ([103, 116], [62], true),
  ([71, 84], [62], true),
  ([113, 117, 111, 116], [34], true),
  ([81, 85, 79, 84], [34], true),
  ([110, 98, 115, 112], [194, 160], true),
  ([99, 111, 112, 121], [194, 169], true),
  ([67, 79, 80, 89], [194, 169], true),
  ([114, 101, 103], [194, 174], true),
  ([110, 111, 116], [194, 172], true),
  ([112, 97, 114, 97], [194, 182], true),
  ([115, 101, 99, 116], [194, 167], true),
  ([99, 101, 110, 116], [194, 162], true),
  ([112, 111, 117, 110, 100], [194, 163], true),
  ([121, 101, 110], [194, 165], true),
  ([100, 101, 103], [194, 176], true),
  ([109, 105, 99, 114, 111], [194, 181], true),
  ([116, 105, 109, 101, 115], [195, 151], true),
  ([100, 105, 118, 105, 100, 101], [195, 183], true),
  ([102, 114, 97, 99, 49, 50], [194, 189], true),
  ([108, 97, 113, 117, 111], [194, 171], true),
  ([114, 97, 113, 117, 111], [194, 187], true),
  ([105, 101, 120, 99, 108], [194, 161], true),
  ([105, 113, 117, 101, 115, 116], [194, 191], true),
  ([109, 105, 100, 100, 111, 116], [194, 183], true),
  ([112, 108, 117, 115, 109, 110], [194, 177], true),
  ([101, 97, 99, 117, 116, 101], [195, 169], true),
  ([69, 97, 99, 117, 116, 101], [195, 137], true),
  ([97, 103, 114, 97, 118, 101], [195, 160], true),
  ([99, 99, 101, 100, 105, 108], [195, 167], true),
  ([111, 117, 109, 108], [195, 182], true),
  ([79, 117, 109, 108], [195, 150], true),
  ([97, 117, 109, 108], [195, 164], true),
  ([65, 117, 109, 108], [195, 132], true),
  ([117, 117, 109, 108], [195, 188], true),
  ([85, 117, 109, 108], [195, 156], true),
  ([115, 122, 108, 105, 103], [195, 159], true),
  ([110, 116, 105, 108, 100, 101], [195, 177], true),
  ([115, 104, 121], [194, 173], true),
  ([97, 112, 111, 115], [39], false),
  ([104, 101, 108, 108, 105, 112], [226, 128, 166], false),
  ([109, 100, 97, 115, 104], [226, 128, 148], false),
  ([110, 100, 97, 115, 104], [226, 128, 147], false),
  ([108, 115, 113, 117, 111], [226, 128, 152], false),
  ([114, 115, 113, 117, 111], [226, 128, 153], false),
  ([108, 100, 113, 117, 111], [226, 128, 156], false),
  ([114, 100, 113, 117, 111], [226, 128, 157], false),
  ([98, 117, 108, 108], [226, 128, 162], false),
  ([101, 117, 114, 111], [226, 130, 172], false),
  ([116, 114, 97, 100, 101], [226, 132, 162], false),
  ([108, 97, 114, 114], [226, 134, 144], false),
  ([114, 97, 114, 114], [226, 134, 146], false),
  ([104, 97, 114, 114], [226, 134, 148], false),
  ([105, 110, 102, 105, 110], [226, 136, 158], false),
  ([110, 101], [226, 137, 160], false),
  ([108, 101], [226, 137, 164], false),
  ([103, 101], [226, 137, 165], false),
  ([115, 117, 109], [226, 136, 145], false),
  ([112, 114, 111, 100], [226, 136, 143], false),
  ([114, 97, 100, 105, 99], [226, 136, 154], false),
  ([110, 111, 116, 105, 110], [226, 136, 137], false),
  ([97, 108, 112, 104, 97], [206, 177], false),
  ([98, 101, 116, 97], [206, 178], false),
  ([103, 97, 109, 109, 97], [206, 179], false),
  ([100, 101, 108, 116, 97], [206, 180], false),
  ([101, 112, 115, 105, 108, 111, 110], [206, 181], false),
  ([108, 97, 109, 98, 100, 97], [206, 187], false),
  ([109, 117], [206, 188], false),
  ([112, 105], [207, 128], false),
  ([115, 105, 103, 109, 97], [207, 131], false),
  ([111, 109, 101, 103, 97], [207, 137], false),
  ([79, 109, 101, 103, 97], [206, 169], false),
  ([83, 105, 103, 109, 97], [206, 163], false),
  ([108, 98, 114, 97, 99, 101], [123], false),
  ([114, 98, 114, 97, 99, 101], [125], false),
  ([108, 98, 114, 97, 99, 107], [91], false),
  ([114, 98, 114, 97, 99, 107], [93], false),
  ([108, 112, 97, 114], [40], false),
  ([114, 112, 97, 114], [41], false),
  ([97, 115, 116], [42], false),
  ([110, 117, 109], [35], false),
  ([115, 111, 108], [47], false),
  ([98, 115, 111, 108], [92], false),
  ([99, 111, 108, 111, 110], [58], false),
  ([115, 101, 109, 105], [59], false),
  ([101, 120, 99, 108], [33], false),
  ([101, 113, 117, 97, 108, 115], [61], false),
  ([103, 114, 97, 118, 101], [96], false),
  ([108, 111, 119, 98, 97, 114], [95], false),
  ([118, 101, 114, 116], [124], false),
  ([84, 97, 98], [9], false),
  ([78, 101, 119, 76, 105, 110, 101], [10], false),
  ([110, 103, 69], [226, 137, 167, 204, 184], false),
  ([110, 118, 108, 116], [60, 226, 131, 146], false),
  ([97, 99, 69], [226, 136, 190, 204, 179], false)
  ]
def table : List Ent := tableRows.map fun x => ⟨x.1, x.2.1, x.2.2⟩

def find (k : Bs) : Option Ent := table.find? fun e => e.name == k

/-- The program's loop over how long a name is. -/
def namedP (s : Bs) : Nat → Bs × Nat
  | 0 => ([], 0)
  | k + 1 =>
    match find (s.take (k + 1)) with
    | none => namedP s k
    | some e => if (s.drop (k + 1)).head? = some 59 then (e.is, k + 2) else if e.bare then (e.is, k + 1) else namedP s k

def named (s : Bs) : Bs × Nat := namedP s (min 8 s.length)

def begins (s w : Bs) : Bool := w.isPrefixOf s

/-- The reference's step. -/
def nstep (s : Bs) (acc : Bs × Nat) (e : Ent) : Bs × Nat :=
  let a := if begins s (e.name ++ [59]) && decide (acc.2 < e.name.length + 1) then (e.is, e.name.length + 1) else acc
  if e.bare && begins s e.name && decide (a.2 < e.name.length) then (e.is, e.name.length) else a

def namedR (s : Bs) : Bs × Nat := table.foldl (nstep s) ([], 0)

def cand (s : Bs) (e : Ent) : Option Nat :=
  if begins s (e.name ++ [59]) then some (e.name.length + 1) else if e.bare && begins s e.name then some e.name.length else none

theorem begins_iff (s w : Bs) : begins s w = true ↔ s.take w.length = w := by
  unfold begins
  rw [List.isPrefixOf_iff_prefix, List.prefix_iff_eq_take]
  exact eq_comm

theorem begins_semi (s n : Bs) : begins s (n ++ [59]) = true ↔ s.take n.length = n ∧ (s.drop n.length).head? = some 59 := by
  unfold begins
  rw [List.isPrefixOf_iff_prefix]
  constructor
  · rintro ⟨t, rfl⟩
    simp
  · rintro ⟨h1, h2⟩
    refine ⟨(s.drop n.length).tail, ?_⟩
    have h3 : s = n ++ s.drop n.length := by
      conv => lhs; rw [← List.take_append_drop n.length s, h1]
    cases hd : s.drop n.length with
    | nil => simp [hd] at h2
    | cons a l =>
      rw [hd] at h2 h3
      simp at h2
      rw [h3, h2]; simp

theorem nstep_cand (s : Bs) (acc : Bs × Nat) (e : Ent) :
    nstep s acc e = match cand s e with | none => acc | some n => if acc.2 < n then (e.is, n) else acc := by
  unfold nstep cand
  by_cases h1 : begins s (e.name ++ [59]) = true
  · by_cases h2 : acc.2 < e.name.length + 1
    · simp [h1, h2]
    · have : ¬ acc.2 < e.name.length := by omega
      simp [h1, h2, this]
  · simp only [h1, Bool.false_and, if_false, Bool.false_eq_true]
    by_cases h3 : (e.bare && begins s e.name) = true
    · simp [h3]
    · simp [h3]

def Best (s : Bs) (l : List Ent) (r : Bs × Nat) : Prop :=
  (r = ([], 0) ∧ ∀ e ∈ l, cand s e = none) ∨
  (∃ e ∈ l, cand s e = some r.2 ∧ r.1 = e.is ∧ ∀ e' ∈ l, ∀ n, cand s e' = some n → n ≤ r.2)

theorem cand_pos (s : Bs) (e : Ent) (he : e ∈ table) (n : Nat) (h : cand s e = some n) : 0 < n := by
  have hp : ∀ e ∈ table, 0 < e.name.length := by decide +kernel
  have := hp e he
  unfold cand at h
  split at h
  · cases h; omega
  · split at h
    · cases h; omega
    · cases h

theorem best_fold (s : Bs) : ∀ (l done : List Ent) (acc : Bs × Nat), (∀ e ∈ l, e ∈ table) → Best s done acc → Best s (done ++ l) (l.foldl (nstep s) acc) := by
  intro l
  induction l with
  | nil => intro done acc _ h; simpa using h
  | cons e l ih =>
    intro done acc hl h
    have hh : done ++ e :: l = (done ++ [e]) ++ l := by simp
    rw [hh, List.foldl_cons]
    refine ih _ _ (fun x hx => hl x (by simp [hx])) ?_
    rw [nstep_cand]
    have het := hl e (by simp)
    cases hc : cand s e with
    | none =>
      simp only
      rcases h with ⟨h1, h2⟩ | ⟨e', h1, h2, h3, h4⟩
      · refine .inl ⟨h1, fun x hx => ?_⟩
        rcases List.mem_append.1 hx with hx | hx
        · exact h2 x hx
        · simp at hx; rw [hx, hc]
      · refine .inr ⟨e', by simp [h1], h2, h3, fun x hx n hn => ?_⟩
        rcases List.mem_append.1 hx with hx | hx
        · exact h4 x hx n hn
        · simp at hx; rw [hx, hc] at hn; cases hn
    | some n =>
      simp only
      have hpos := cand_pos s e het n hc
      split
      · rename_i hlt
        refine .inr ⟨e, by simp, hc, rfl, fun x hx m hm => ?_⟩
        rcases List.mem_append.1 hx with hx | hx
        · rcases h with ⟨h1, h2⟩ | ⟨e', h1, h2, h3, h4⟩
          · rw [h2 x hx] at hm; cases hm
          · have := h4 x hx m hm; simp only; omega
        · simp at hx; rw [hx, hc] at hm; cases hm; exact Nat.le_refl _
      · rename_i hge
        rcases h with ⟨h1, h2⟩ | ⟨e', h1, h2, h3, h4⟩
        · rw [h1] at hge; simp at hge; omega
        · refine .inr ⟨e', by simp [h1], h2, h3, fun x hx m hm => ?_⟩
          rcases List.mem_append.1 hx with hx | hx
          · exact h4 x hx m hm
          · simp at hx; rw [hx, hc] at hm; cases hm; omega

theorem namedR_best (s : Bs) : Best s table (namedR s) := by
  have := best_fold s table [] ([], 0) (fun _ h => h) (.inl ⟨rfl, by simp⟩)
  simpa [namedR] using this

theorem semi_not_in (e : Ent) (he : e ∈ table) : (59 : UInt8) ∉ e.name := by
  have h : ∀ e ∈ table, (59 : UInt8) ∉ e.name := by decide +kernel
  exact h e he

theorem cand_some (s : Bs) (e : Ent) (n : Nat) (h : cand s e = some n) :
    s.take e.name.length = e.name ∧ ((n = e.name.length + 1 ∧ (s.drop e.name.length).head? = some 59) ∨ (n = e.name.length ∧ e.bare = true)) := by
  unfold cand at h
  split at h
  · rename_i hb
    cases h
    obtain ⟨h1, h2⟩ := (begins_semi s e.name).1 hb
    exact ⟨h1, .inl ⟨rfl, h2⟩⟩
  · split at h
    · rename_i hb
      cases h
      rw [Bool.and_eq_true] at hb
      exact ⟨(begins_iff s e.name).1 hb.2, .inr ⟨rfl, hb.1⟩⟩
    · cases h

theorem name_le (s : Bs) (e : Ent) (h : s.take e.name.length = e.name) : e.name.length ≤ s.length := by
  have := congrArg List.length h
  rw [List.length_take] at this
  omega

theorem cand_same (s : Bs) (e e' : Ent) (he : e ∈ table) (he' : e' ∈ table) (n : Nat) (h : cand s e = some n) (h' : cand s e' = some n) : e = e' := by
  have hd : ∀ e ∈ table, ∀ e' ∈ table, e.name = e'.name → e = e' := by decide +kernel
  refine hd e he e' he' ?_
  obtain ⟨h1, h2⟩ := cand_some s e n h
  obtain ⟨h1', h2'⟩ := cand_some s e' n h'
  have key : ∀ a b : Ent, b ∈ table → s.take a.name.length = a.name → s.take b.name.length = b.name → (s.drop a.name.length).head? = some 59 → b.name.length = a.name.length + 1 → False := by
    intro a b hb ha1 hb1 hs hl
    apply semi_not_in b hb
    rw [← hb1, hl]
    have : s.take (a.name.length + 1) = s.take a.name.length ++ [59] := by
      cases hdr : s.drop a.name.length with
      | nil => simp [hdr] at hs
      | cons x l =>
        rw [hdr] at hs
        simp at hs
        subst hs
        have hx : s[a.name.length]? = some 59 := by
          have := congrArg List.head? hdr
          simpa [List.head?_drop] using this
        rw [List.take_add_one, hx]; rfl
    rw [this]; simp
  rcases h2 with ⟨h2, h3⟩ | ⟨h2, h3⟩ <;> rcases h2' with ⟨h2', h3'⟩ | ⟨h2', h3'⟩
  · have : e.name.length = e'.name.length := by omega
    rw [← h1, ← h1', this]
  · exact (key e e' he' h1 h1' h3 (by omega)).elim
  · exact (key e' e he h1' h1 h3' (by omega)).elim
  · have : e.name.length = e'.name.length := by omega
    rw [← h1, ← h1', this]

theorem best_unique (s : Bs) (a b : Bs × Nat) (ha : Best s table a) (hb : Best s table b) : a = b := by
  rcases ha with ⟨ha1, ha2⟩ | ⟨e, ha1, ha2, ha3, ha4⟩ <;> rcases hb with ⟨hb1, hb2⟩ | ⟨e', hb1, hb2, hb3, hb4⟩
  · rw [ha1, hb1]
  · rw [ha2 e' hb1] at hb2; cases hb2
  · rw [hb2 e ha1] at ha2; cases ha2
  · have h1 := ha4 e' hb1 _ hb2
    have h2 := hb4 e ha1 _ ha2
    have h3 : a.2 = b.2 := by omega
    rw [h3] at ha2
    have := cand_same s e e' ha1 hb1 _ ha2 hb2
    subst this
    exact Prod.ext (ha3.trans hb3.symm) h3

theorem find_mem (k : Bs) (e : Ent) (h : find k = some e) : e ∈ table ∧ e.name = k :=
  ⟨List.mem_of_find?_eq_some h, by have := List.find?_some h; simpa using this⟩

theorem find_of (e : Ent) (he : e ∈ table) : find e.name = some e := by
  have hd : ∀ e ∈ table, find e.name = some e := by decide +kernel
  exact hd e he

theorem namedP_best (s : Bs) : ∀ k, k ≤ s.length → (∀ e ∈ table, k < e.name.length → cand s e = none) → Best s table (namedP s k) := by
  intro k
  induction k with
  | zero =>
    intro _ h
    refine .inl ⟨rfl, fun e he => h e he ?_⟩
    have hp : ∀ e ∈ table, 0 < e.name.length := by decide +kernel
    exact hp e he
  | succ k ih =>
    intro hk h
    unfold namedP
    have hlen : (s.take (k + 1)).length = k + 1 := by rw [List.length_take]; omega
    have down : ∀ (h1 : ∀ e ∈ table, e.name.length = k + 1 → cand s e = none), Best s table (namedP s k) := fun h1 =>
      ih (by omega) fun e he hlt => by
        by_cases hh : e.name.length = k + 1
        · exact h1 e he hh
        · exact h e he (by omega)
    have win : ∀ (e : Ent) (n : Nat), e ∈ table → e.name = s.take (k + 1) → cand s e = some n → Best s table (e.is, n) := by
      intro e n he hn hc
      refine .inr ⟨e, he, hc, rfl, fun e' he' m hm => ?_⟩
      obtain ⟨h1, h2⟩ := cand_some s e n hc
      obtain ⟨h1', h2'⟩ := cand_some s e' m hm
      have hl : e.name.length = k + 1 := by rw [hn, hlen]
      have hle : ¬ k + 1 < e'.name.length := fun hlt => by rw [h e' he' hlt] at hm; cases hm
      by_cases heq : e'.name.length = k + 1
      · have hd : ∀ e ∈ table, ∀ e' ∈ table, e.name = e'.name → e = e' := by decide +kernel
        have : e' = e := hd e' he' e he (by rw [← h1', ← h1, heq, hl])
        subst this
        rw [hm] at hc; cases hc; exact Nat.le_refl _
      · simp only; omega
    cases hf : find (s.take (k + 1)) with
    | none =>
      refine down fun e he hl => ?_
      cases hc : cand s e with
      | none => rfl
      | some n =>
        obtain ⟨h1, _⟩ := cand_some s e n hc
        have := find_of e he
        rw [← h1, hl, hf] at this; cases this
    | some e =>
      obtain ⟨he, hn⟩ := find_mem _ _ hf
      have hl : e.name.length = k + 1 := by rw [hn, hlen]
      simp only
      split
      · rename_i hs
        refine win e (k + 2) he hn ?_
        unfold cand
        rw [if_pos ((begins_semi s e.name).2 ⟨by rw [hl]; exact hn.symm, by rw [hl]; exact hs⟩), hl]
      · rename_i hs
        have hns : ¬ begins s (e.name ++ [59]) = true := fun hb => hs (by have := ((begins_semi s e.name).1 hb).2; rwa [hl] at this)
        split
        · rename_i hb
          refine win e (k + 1) he hn ?_
          unfold cand
          rw [if_neg hns, if_pos (by rw [hb, Bool.true_and]; exact (begins_iff s e.name).2 (by rw [hl]; exact hn.symm)), hl]
        · rename_i hb
          refine down fun e' he' hl' => ?_
          cases hc : cand s e' with
          | none => rfl
          | some n =>
            exfalso
            obtain ⟨h1', h2'⟩ := cand_some s e' n hc
            have hd : ∀ e ∈ table, ∀ e' ∈ table, e.name = e'.name → e = e' := by decide +kernel
            have : e' = e := hd e' he' e he (by rw [← h1', hl', hn])
            subst this
            rcases h2' with ⟨_, h3⟩ | ⟨_, h3⟩
            · rw [hl] at h3; exact hs h3
            · exact hb h3

theorem named_eq (s : Bs) : named s = namedR s := by
  refine best_unique s _ _ (namedP_best s _ (Nat.min_le_right _ _) fun e he hlt => ?_) (namedR_best s)
  cases hc : cand s e with
  | none => rfl
  | some n =>
    exfalso
    obtain ⟨h1, _⟩ := cand_some s e n hc
    have := name_le s e h1
    have hp : ∀ e ∈ table, e.name.length ≤ 8 := by decide +kernel
    have := hp e he
    omega


theorem byte_all {p : UInt8 → Prop} (h : ∀ n, n < 256 → p (UInt8.ofNat n)) (c : UInt8) : p c := by
  have := h c.toNat c.toNat_lt
  rwa [UInt8.ofNat_toNat] at this

def enc (r : Int) : Bs := (Go.Utf8.encode r).data.toList

def wide : List Int := [
  0x20ac, 0, 0x201a, 0x192, 0x201e, 0x2026, 0x2020, 0x2021, 0x2c6, 0x2030, 0x160, 0x2039, 0x152, 0, 0x17d, 0,
  0, 0x2018, 0x2019, 0x201c, 0x201d, 0x2022, 0x2013, 0x2014, 0x2dc, 0x2122, 0x161, 0x203a, 0x153, 0, 0x17e, 0x178]

def right (n : Int) : Bool := decide (0 < n) && decide (n ≤ 1114111) && (decide (n < 55296) || decide (57343 < n))

def number (n : Int) : Int :=
  if right n then
    (if 128 ≤ n ∧ n < 160 ∧ wide.getD (n - 128).toNat 0 ≠ 0 then wide.getD (n - 128).toNat 0 else n)
  else 65533

def digT (cap base : Nat) : Bs → Nat → Nat → Nat × Nat
  | [], n, i => (n, i)
  | c :: t, n, i => if hex c < 0 ∨ (base : Int) ≤ hex c then (n, i) else digT cap base t (min (n * base + (hex c).toNat) cap) (i + 1)

theorem hex_bd (c : UInt8) : -1 ≤ hex c ∧ hex c ≤ 15 := byte_all (p := fun c => -1 ≤ hex c ∧ hex c ≤ 15) (by decide +kernel) c

def isX (s : Bs) : Bool := decide (2 < s.length) && (s.getD 2 0 ||| 32 == 120)

def numAt (s : Bs) : Nat := if isX s then 3 else 2
def numBase (s : Bs) : Nat := if isX s then 16 else 10

/-- (number, digits, end) with the number no greater than cap. -/
def numeric (cap : Nat) (s : Bs) : Nat × Nat × Nat :=
  if begins s [38, 35] then
    let r := digT cap (numBase s) (s.drop (numAt s)) 0 (numAt s)
    if r.2 = numAt s then (0, 0, 0) else (r.1, r.2 - numAt s, r.2)
  else (0, 0, 0)

theorem digT_shift (cap base : Nat) (l : Bs) : ∀ n i j, digT cap base l n (i + j) = ((digT cap base l n i).1, (digT cap base l n i).2 + j) := by
  induction l with
  | nil => intro n i j; rfl
  | cons c t ih =>
    intro n i j
    unfold digT
    split
    · rfl
    · rw [← ih]; congr 1; omega

theorem digT_ge (cap base : Nat) (l : Bs) : ∀ n i, i ≤ (digT cap base l n i).2 ∧ (digT cap base l n i).2 ≤ i + l.length := by
  induction l with
  | nil => intro n i; exact ⟨Nat.le_refl _, by simp [digT]⟩
  | cons c t ih =>
    intro n i
    unfold digT
    split
    · simp
    · have := ih (min (n * base + (hex c).toNat) cap) (i + 1)
      simp only [List.length_cons]
      omega

theorem digT_le (cap base : Nat) (l : Bs) : ∀ n i, n ≤ cap → (digT cap base l n i).1 ≤ cap := by
  induction l with
  | nil => intro n i h; exact h
  | cons c t ih =>
    intro n i h
    unfold digT
    split
    · exact h
    · exact ih _ _ (Nat.min_le_right _ _)

theorem digT_caps (cap cap' base : Nat) (hc : cap ≤ cap') (hb : 1 ≤ base) (l : Bs) : ∀ n n' i, n = min n' cap →
    (digT cap base l n i).1 = min (digT cap' base l n' i).1 cap ∧ (digT cap base l n i).2 = (digT cap' base l n' i).2 := by
  induction l with
  | nil => intro n n' i h; exact ⟨h, rfl⟩
  | cons c t ih =>
    intro n n' i h
    unfold digT
    split
    · exact ⟨h, rfl⟩
    · refine ih _ _ _ ?_
      by_cases hle : n' ≤ cap
      · have : n = n' := by omega
        subst this
        omega
      · have h1 : n = cap := by omega
        have h2 : cap ≤ n * base := by rw [h1]; exact Nat.le_mul_of_pos_right _ hb
        have h3 : cap ≤ n' * base := Nat.le_trans (by omega) (Nat.le_mul_of_pos_right _ hb)
        omega

theorem numeric_caps (cap cap' : Nat) (hc : cap ≤ cap') (s : Bs) :
    (numeric cap s).1 = min (numeric cap' s).1 cap ∧ (numeric cap s).2 = (numeric cap' s).2 := by
  unfold numeric
  split
  · have hb : 1 ≤ numBase s := by unfold numBase; split <;> omega
    obtain ⟨h1, h2⟩ := digT_caps cap cap' (numBase s) hc hb (s.drop (numAt s)) 0 0 (numAt s) (by omega)
    simp only [h2]
    split
    · simp
    · exact ⟨h1, by simp⟩
  · simp

theorem number_cap (n : Nat) : number ((min n 16777216 : Nat) : Int) = number (n : Int) := by
  by_cases h : n ≤ 16777216
  · rw [Nat.min_eq_left h]
  · have h1 : right (n : Int) = false := by
      have : ¬ ((n : Int) ≤ 1114111) := by omega
      simp [right, this]
    have h2 : min n 16777216 = 16777216 := by omega
    rw [h2]
    have h3 : number 16777216 = 65533 := by decide +kernel
    have h4 : number (n : Int) = 65533 := by unfold number; rw [h1]; rfl
    exact h3.trans h4.symm

/-- What stands at the front, in place of a reference. -/
def literal (s : Bs) (attr : Bool) (n : Nat) : Bool :=
  attr && decide (0 < n) && !(s.getD n 0 == 59) && !(s.drop (1 + n)).isEmpty && (((s.drop (1 + n)).getD 0 0 == 61) || isLetter ((s.drop (1 + n)).getD 0 0) || isDigit ((s.drop (1 + n)).getD 0 0))

def taken (s : Bs) (attr : Bool) : Bs × Nat :=
  let q := numeric 16777216 s
  if 0 < q.2.2 then
    (enc (number q.1), if begins (s.drop q.2.2) [59] then q.2.2 + 1 else q.2.2)
  else
    let m := named (s.drop 1)
    if m.2 = 0 || literal s attr m.2 then ([38], 1) else (m.1, m.2 + 1)

theorem named_le (s : Bs) : (named s).2 ≤ s.length := by
  have hb := namedR_best s
  rw [← named_eq] at hb
  rcases hb with ⟨h1, _⟩ | ⟨e, he, h2, _, _⟩
  · rw [h1]; exact Nat.zero_le _
  · obtain ⟨h3, h4⟩ := cand_some s e _ h2
    have := name_le s e h3
    rcases h4 with ⟨h4, h5⟩ | ⟨h4, _⟩
    · rw [h4]
      have : s.drop e.name.length ≠ [] := by intro h; rw [h] at h5; cases h5
      have : 0 < (s.drop e.name.length).length := List.length_pos_iff.2 this
      rw [List.length_drop] at this; omega
    · omega

theorem numeric_end (cap : Nat) (s : Bs) : (numeric cap s).2.2 ≤ s.length := by
  unfold numeric
  split
  · rename_i h
    simp only
    split
    · exact Nat.zero_le _
    · have := (digT_ge cap (numBase s) (s.drop (numAt s)) 0 (numAt s)).2
      rw [List.length_drop] at this
      have h2 : 2 ≤ s.length := by
        have := (begins_iff s [38, 35]).1 h
        have := congrArg List.length this
        rw [List.length_take] at this
        simp at this; omega
      have h3 : numAt s ≤ s.length := by
        unfold numAt
        split
        · rename_i hx
          unfold isX at hx
          rw [Bool.and_eq_true] at hx
          have := of_decide_eq_true hx.1
          omega
        · exact h2
      simp only; omega
  · exact Nat.zero_le _

theorem taken_pos (s : Bs) (attr : Bool) : 0 < (taken s attr).2 := by
  unfold taken
  simp only
  split
  · simp only; split <;> omega
  · split <;> simp

theorem taken_le (s : Bs) (attr : Bool) (hs : s ≠ []) : (taken s attr).2 ≤ s.length := by
  have hl : 0 < s.length := List.length_pos_iff.2 hs
  unfold taken
  simp only
  split
  · have := numeric_end 16777216 s
    simp only
    split
    · rename_i h
      have := (begins_iff _ _).1 h
      have := congrArg List.length this
      rw [List.length_take, List.length_drop] at this
      simp at this; omega
    · omega
  · have := named_le (s.drop 1)
    rw [List.length_drop] at this
    split <;> simp only <;> omega

def decF (attr : Bool) : Nat → Bs → Bs
  | 0, _ => []
  | _ + 1, [] => []
  | f + 1, c :: t => if c = 38 then (taken (c :: t) attr).1 ++ decF attr f ((c :: t).drop (taken (c :: t) attr).2) else c :: decF attr f t

theorem decF_fuel (attr : Bool) : ∀ f g s, s.length ≤ f → s.length ≤ g → decF attr f s = decF attr g s := by
  intro f
  induction f with
  | zero =>
    intro g s hf hg
    have : s = [] := List.eq_nil_of_length_eq_zero (by omega)
    subst this
    cases g <;> rfl
  | succ f ih =>
    intro g s hf hg
    cases s with
    | nil => cases g <;> rfl
    | cons c t =>
      cases g with
      | zero => simp at hg
      | succ g =>
        unfold decF
        have hp := taken_pos (c :: t) attr
        simp only [List.length_cons] at hf hg
        split
        · rw [ih g _ (by rw [List.length_drop, List.length_cons]; omega) (by rw [List.length_drop, List.length_cons]; omega)]
        · rw [ih g t (by omega) (by omega)]

def dec (attr : Bool) (s : Bs) : Bs := decF attr s.length s

theorem dec_nil (attr : Bool) : dec attr [] = [] := rfl

theorem dec_cons (attr : Bool) (c : UInt8) (t : Bs) (h : c ≠ 38) : dec attr (c :: t) = c :: dec attr t := by
  show decF attr (t.length + 1) (c :: t) = _
  unfold decF
  rw [if_neg h]; rfl

theorem dec_amp (attr : Bool) (t : Bs) : dec attr (38 :: t) = (taken (38 :: t) attr).1 ++ dec attr ((38 :: t).drop (taken (38 :: t) attr).2) := by
  show decF attr (t.length + 1) (38 :: t) = _
  unfold decF
  rw [if_pos rfl]
  congr 1
  have hp := taken_pos (38 :: t) attr
  exact decF_fuel attr _ _ _ (by rw [List.length_drop, List.length_cons]; omega) (Nat.le_refl _)

theorem dec_plain (attr : Bool) (a t : Bs) (h : (38 : UInt8) ∉ a) : dec attr (a ++ t) = a ++ dec attr t := by
  induction a with
  | nil => rfl
  | cons c a ih =>
    rw [List.cons_append, dec_cons _ _ _ (fun e => h (by simp [e])), ih (fun e => h (by simp [e]))]; rfl

/-! The reference. -/
def digitsR (base : Nat) (s : Bs) : Nat × Nat := ((digT 100000000 base s 0 0).2, (digT 100000000 base s 0 0).1)

/-- (end, digits, number). -/
def numericR (s : Bs) : Nat × Nat × Nat :=
  if begins s [38, 35] then
    if 2 < s.length ∧ (s.getD 2 0 = 120 ∨ s.getD 2 0 = 88) then
      let r := digitsR 16 (s.drop 3)
      if r.1 = 0 then (0, 0, 0) else (3 + r.1, r.1, r.2)
    else
      let r := digitsR 10 (s.drop 2)
      if r.1 = 0 then (0, 0, 0) else (2 + r.1, r.1, r.2)
  else (0, 0, 0)

theorem isX_iff (s : Bs) : isX s = true ↔ 2 < s.length ∧ (s.getD 2 0 = 120 ∨ s.getD 2 0 = 88) := by
  have := byte_all (p := fun c => (c ||| 32 == 120) = true ↔ c = 120 ∨ c = 88) (by decide +kernel) (s.getD 2 0)
  unfold isX
  rw [Bool.and_eq_true, decide_eq_true_iff, this]

theorem numericR_eq (s : Bs) : numericR s = ((numeric 100000000 s).2.2, (numeric 100000000 s).2.1, (numeric 100000000 s).1) := by
  unfold numericR numeric
  split
  · split
    · rename_i h
      have hx := (isX_iff s).2 h
      have e1 : numAt s = 3 := by simp [numAt, hx]
      have e2 : numBase s = 16 := by simp [numBase, hx]
      rw [e1, e2]
      have hs := digT_shift 100000000 16 (s.drop 3) 0 0 3
      simp only [Nat.zero_add] at hs
      rw [hs]
      unfold digitsR
      generalize digT 100000000 16 (s.drop 3) 0 0 = q
      obtain ⟨n, d⟩ := q
      by_cases h0 : d = 0
      · subst h0; rfl
      · have h1 : ¬ d + 3 = 3 := by omega
        simp only [h0, h1, if_false]
        simp only [Prod.mk.injEq, and_true]; omega
    · rename_i h
      have hx : ¬ isX s = true := fun hx => h ((isX_iff s).1 hx)
      have e1 : numAt s = 2 := by simp [numAt, hx]
      have e2 : numBase s = 10 := by simp [numBase, hx]
      rw [e1, e2]
      have hs := digT_shift 100000000 10 (s.drop 2) 0 0 2
      simp only [Nat.zero_add] at hs
      rw [hs]
      unfold digitsR
      generalize digT 100000000 10 (s.drop 2) 0 0 = q
      obtain ⟨n, d⟩ := q
      by_cases h0 : d = 0
      · subst h0; rfl
      · have h1 : ¬ d + 2 = 2 := by omega
        simp only [h0, h1, if_false]
        simp only [Prod.mk.injEq, and_true]; omega
  · rfl

def litR (s : Bs) (attr : Bool) (m : Nat) : Bool :=
  attr && !(s.getD m 0 == 59) && decide (m + 1 < s.length) && ((s.getD (m + 1) 0 == 61) || isLetter (s.getD (m + 1) 0) || isDigit (s.getD (m + 1) 0))

def oneR (s : Bs) (attr : Bool) : Bs × Nat :=
  let q := numericR s
  if 0 < q.1 then
    (enc (number q.2.2), if q.1 < s.length ∧ s.getD q.1 0 = 59 then q.1 + 1 else q.1)
  else
    let m := namedR (s.drop 1)
    if m.2 = 0 then ([38], 1) else if litR s attr m.2 then ([38], 1) else (m.1, m.2 + 1)

theorem begins_one (s : Bs) (k : Nat) (c : UInt8) : begins (s.drop k) [c] = true ↔ k < s.length ∧ s.getD k 0 = c := by
  rw [begins_iff]
  rw [List.getD_eq_getElem?_getD]
  cases h : s.drop k with
  | nil =>
    have : s.length ≤ k := by have := congrArg List.length h; rw [List.length_drop] at this; simp at this; omega
    simp; omega
  | cons a l =>
    have hk : k < s.length := by
      have := congrArg List.length h; rw [List.length_drop] at this; simp at this; omega
    have hx : s[k]? = some a := by
      have := congrArg List.head? h
      simpa [List.head?_drop] using this
    rw [hx]
    simp [hk]

theorem oneR_eq (s : Bs) (attr : Bool) : oneR s attr = taken s attr := by
  unfold oneR taken
  rw [numericR_eq]
  obtain ⟨h1, h2⟩ := numeric_caps 16777216 100000000 (by omega) s
  simp only [h2]
  split
  · rw [h1, number_cap]
    congr 1
    by_cases hb : begins (s.drop (numeric 100000000 s).2.2) [59] = true
    · rw [if_pos ((begins_one _ _ _).1 hb), if_pos hb]
    · rw [if_neg (fun h => hb ((begins_one _ _ _).2 h)), if_neg hb]
  · rw [← named_eq]
    by_cases h0 : (named (s.drop 1)).2 = 0
    · rw [if_pos h0, if_pos (by rw [h0]; rfl)]
    · have e : litR s attr (named (s.drop 1)).2 = literal s attr (named (s.drop 1)).2 := by
        unfold litR literal
        generalize (named (s.drop 1)).2 = m at *
        have hm : decide (0 < m) = true := by simp; omega
        rw [hm, Bool.and_true, Nat.add_comm 1 m]
        have hd : (s.drop (m + 1)).getD 0 0 = s.getD (m + 1) 0 := by
          simp [List.getD_eq_getElem?_getD, List.getElem?_drop]
        rw [hd]
        congr 2
        by_cases hl : m + 1 < s.length
        · have : ¬ s.drop (m + 1) = [] := by
            intro h; have := congrArg List.length h; rw [List.length_drop] at this; simp at this; omega
          simp [hl, this]
        · have : s.drop (m + 1) = [] := List.drop_eq_nil_of_le (by omega)
          simp [hl, this]
      rw [e, if_neg h0]
      have e2 : decide ((named (s.drop 1)).2 = 0) = false := decide_eq_false h0
      rw [e2, Bool.false_or]

/-- Where a byte stands first; the length, if nowhere. -/
def upto (c : UInt8) (s : Bs) : Nat := (s.takeWhile (· != c)).length

theorem upto_le (c : UInt8) (s : Bs) : upto c s ≤ s.length := by
  unfold upto; exact (List.takeWhile_sublist _).length_le

theorem take_upto (c : UInt8) (s : Bs) : s.take (upto c s) = s.takeWhile (· != c) := by
  unfold upto
  induction s with
  | nil => rfl
  | cons a s ih =>
    simp only [List.takeWhile_cons]
    split
    · simp [ih]
    · rfl

theorem not_mem_upto (c : UInt8) (s : Bs) : c ∉ s.take (upto c s) := by
  rw [take_upto]
  intro h
  have := List.all_takeWhile (p := (· != c)) (l := s)
  rw [List.all_eq_true] at this
  have := this c h
  simp at this

theorem drop_upto (c : UInt8) (s : Bs) (h : upto c s < s.length) : s.drop (upto c s) = c :: s.drop (upto c s + 1) := by
  induction s with
  | nil => simp [upto] at h
  | cons a s ih =>
    unfold upto at *
    simp only [List.takeWhile_cons] at *
    split
    · rename_i hne
      simp only [hne, if_true, List.length_cons] at h
      simp only [List.length_cons, List.drop_succ_cons]
      exact ih (by omega)
    · rename_i heq
      simp at heq
      simp [heq]

theorem upto_eq (c : UInt8) (s a b : Bs) (h : s = a ++ c :: b) (ha : c ∉ a) : upto c s = a.length := by
  subst h
  unfold upto
  induction a with
  | nil => simp
  | cons x a ih =>
    have hx : (x != c) = true := by simp; intro e; exact ha (by simp [e])
    rw [List.cons_append, List.takeWhile_cons, if_pos hx]
    simp only [List.length_cons]
    rw [ih (fun h => ha (by simp [h]))]

/-! Marks. -/
def markFix (n : Int) : Int := if right n then n else 65533

def mark (s : Bs) : Bs × Nat :=
  let q := numeric 16777216 s
  if 0 < q.2.2 then
    if (if isX s then 6 else 7) < q.2.1 || !begins (s.drop q.2.2) [59] then ([], 0) else (enc (markFix q.1), q.2.2 + 1)
  else if !decide (upto 59 s < s.length) || !begins (s.take (upto 59 s)) [38] then ([], 0)
  else match find ((s.take (upto 59 s)).drop 1) with
    | none => ([], 0)
    | some e => (e.is, upto 59 s + 1)

def markFind (s : Bs) (l : List Ent) : Bs × Nat :=
  match l.find? (fun e => begins s (38 :: e.name ++ [59])) with
  | none => ([], 0)
  | some e => (e.is, e.name.length + 2)

def markR (s : Bs) : Bs × Nat :=
  let q := numericR s
  if 0 < q.1 then
    if (if 2 < s.length ∧ (s.getD 2 0 = 120 ∨ s.getD 2 0 = 88) then 6 else 7) < q.2.1 || !decide (q.1 < s.length ∧ s.getD q.1 0 = 59) then ([], 0) else (enc (markFix q.2.2), q.1 + 1)
  else markFind s table

theorem markFix_cap (n : Nat) : markFix ((min n 16777216 : Nat) : Int) = markFix (n : Int) := by
  by_cases h : n ≤ 16777216
  · rw [Nat.min_eq_left h]
  · have h1 : right (n : Int) = false := by
      have : ¬ ((n : Int) ≤ 1114111) := by omega
      simp [right, this]
    have h2 : min n 16777216 = 16777216 := by omega
    rw [h2]
    have h3 : markFix 16777216 = 65533 := by decide +kernel
    have h4 : markFix (n : Int) = 65533 := by unfold markFix; rw [h1]; rfl
    exact h3.trans h4.symm

theorem begins_name (s n : Bs) (hn : (59 : UInt8) ∉ n) : begins s (38 :: n ++ [59]) = true ↔
    upto 59 s < s.length ∧ begins (s.take (upto 59 s)) [38] = true ∧ (s.take (upto 59 s)).drop 1 = n := by
  constructor
  · intro h
    unfold begins at h
    rw [List.isPrefixOf_iff_prefix] at h
    obtain ⟨t, ht⟩ := h
    have hs : s = (38 :: n) ++ 59 :: t := by rw [← ht]; simp
    have hu : upto 59 s = (38 :: n).length := upto_eq 59 s _ t hs (by simp [hn])
    rw [hu, hs]
    refine ⟨by simp, ?_, ?_⟩
    · simp [begins]
    · simp
  · rintro ⟨h1, h2, h3⟩
    have hs : s = s.take (upto 59 s) ++ (59 :: s.drop (upto 59 s + 1)) := by
      rw [← drop_upto 59 s h1, List.take_append_drop]
    generalize hq : s.take (upto 59 s) = q at *
    cases q with
    | nil => simp [begins] at h2
    | cons a q =>
      simp [begins] at h2 h3
      subst h2 h3
      rw [hs]
      unfold begins
      rw [List.isPrefixOf_iff_prefix]
      exact ⟨s.drop (upto 59 s + 1), by simp⟩

theorem mark_eq (s : Bs) : markR s = mark s := by
  unfold markR mark
  rw [numericR_eq]
  obtain ⟨h1, h2⟩ := numeric_caps 16777216 100000000 (by omega) s
  simp only [h2]
  split
  · have e1 : (if 2 < s.length ∧ (s.getD 2 0 = 120 ∨ s.getD 2 0 = 88) then 6 else 7) = (if isX s then 6 else 7) := by
      by_cases h : isX s = true
      · rw [if_pos h, if_pos ((isX_iff s).1 h)]
      · rw [if_neg h, if_neg (fun h' => h ((isX_iff s).2 h'))]
    have e2 : decide ((numeric 100000000 s).2.2 < s.length ∧ s.getD (numeric 100000000 s).2.2 0 = 59) = begins (s.drop (numeric 100000000 s).2.2) [59] := by
      rw [Bool.eq_iff_iff, decide_eq_true_iff, begins_one]
    rw [e1, e2, h1, markFix_cap]
  · unfold markFind
    have hn : ∀ e ∈ table, (59 : UInt8) ∉ e.name := semi_not_in
    cases hf : table.find? (fun e => begins s (38 :: e.name ++ [59])) with
    | none =>
      simp only
      split
      · rfl
      · rename_i h
        simp at h
        cases hg : find ((s.take (upto 59 s)).drop 1) with
        | none => rfl
        | some e =>
          exfalso
          obtain ⟨he, hee⟩ := find_mem _ _ hg
          have := (List.find?_eq_none.1 hf) e he
          exact this ((begins_name s e.name (hn e he)).2 ⟨h.1, h.2, hee.symm⟩)
    | some e =>
      have he := List.mem_of_find?_eq_some hf
      have hb := List.find?_some hf
      obtain ⟨g1, g2, g3⟩ := (begins_name s e.name (hn e he)).1 hb
      have : (!decide (upto 59 s < s.length) || !begins (s.take (upto 59 s)) [38]) = false := by simp [g1, g2]
      simp only [this, Bool.false_eq_true, if_false]
      rw [g3, find_of e he]
      simp only [Prod.mk.injEq, true_and]
      have hl := congrArg List.length g3
      simp only [List.length_drop, List.length_take] at hl
      have h2 : 0 < (s.take (upto 59 s)).length := by
        have := congrArg List.length ((begins_iff _ _).1 g2)
        simp only [List.length_take, List.length_cons, List.length_nil] at this ⊢
        omega
      rw [List.length_take] at h2
      omega

/-! The laws without the document. -/
def esc (s : Bs) : Bs := s.flatMap fun c => if c = 38 then [38, 97, 109, 112, 59] else [c]
def bare (s : Bs) : Bs := s.filter (· != 38)

theorem named_of (s : Bs) (e : Ent) (n : Nat) (he : e ∈ table) (hc : cand s e = some n) (h : ∀ e' ∈ table, ∀ m, cand s e' = some m → m ≤ n) : named s = (e.is, n) := by
  rw [named_eq]
  exact best_unique s _ _ (namedR_best s) (.inr ⟨e, he, hc, rfl, h⟩)

theorem cand_semi (n t : Bs) (e' : Ent) (he' : e' ∈ table) (m : Nat) (h : cand (n ++ 59 :: t) e' = some m) : m ≤ n.length + 1 := by
  obtain ⟨h1, h2⟩ := cand_some _ _ _ h
  have hns := semi_not_in e' he'
  have hle : e'.name.length ≤ n.length := by
    rcases Nat.lt_or_ge n.length e'.name.length with hlt | hge
    · exfalso
      apply hns
      rw [← h1]
      have : (n ++ [59]).length ≤ e'.name.length := by simp; omega
      have hp : (n ++ 59 :: t).take e'.name.length = (n ++ [59]) ++ t.take (e'.name.length - (n ++ [59]).length) := by
        have : n ++ 59 :: t = (n ++ [59]) ++ t := by simp
        rw [this, List.take_append]
        rw [List.take_of_length_le (by omega)]
      rw [hp]; simp
    · exact hge
  rcases h2 with ⟨h2, _⟩ | ⟨h2, _⟩ <;> omega

theorem taken_escaped (attr : Bool) (t : Bs) : taken (38 :: 97 :: 109 :: 112 :: 59 :: t) attr = ([38], 5) := by
  have hm : (⟨[97, 109, 112], [38], true⟩ : Ent) ∈ table := by decide +kernel
  have hn : named (97 :: 109 :: 112 :: 59 :: t) = ([38], 4) := by
    refine named_of _ ⟨[97, 109, 112], [38], true⟩ 4 hm ?_ fun e' he' m h => ?_
    · unfold cand
      rw [if_pos (by simp [begins])]; rfl
    · exact cand_semi [97, 109, 112] t e' he' m h
  unfold taken
  have h0 : numeric 16777216 (38 :: 97 :: 109 :: 112 :: 59 :: t) = (0, 0, 0) := by
    unfold numeric; rw [if_neg (by simp [begins])]
  simp only [h0, List.drop_succ_cons, List.drop_zero, hn]
  simp [literal]

theorem dec_esc (attr : Bool) (s : Bs) : dec attr (esc s) = s := by
  induction s with
  | nil => rfl
  | cons c s ih =>
    unfold esc at *
    rw [List.flatMap_cons]
    by_cases h : c = 38
    · rw [if_pos h, h]
      show dec attr (38 :: 97 :: 109 :: 112 :: 59 :: _) = _
      rw [dec_amp, taken_escaped]
      simp [ih]
    · rw [if_neg h, List.singleton_append, dec_cons _ _ _ h, ih]

theorem dec_bare (attr : Bool) (s : Bs) : dec attr (bare s) = bare s := by
  have h : (38 : UInt8) ∉ bare s := by simp [bare]
  have := dec_plain attr (bare s) [] h
  simpa [dec_nil] using this

theorem named_zero (s : Bs) : ((named s).2 = 0 → (named s).1 = []) ∧ (0 < (named s).2 → (named s).1 ≠ []) := by
  have hb := namedR_best s
  rw [← named_eq] at hb
  have hne : ∀ e ∈ table, e.is ≠ [] := by decide +kernel
  rcases hb with ⟨h1, _⟩ | ⟨e, he, h2, h3, _⟩
  · rw [h1]; simp
  · have := cand_pos s e he _ h2
    exact ⟨fun h => by omega, fun _ => by rw [h3]; exact hne e he⟩

theorem named_again (s t : Bs) (ht : t = [] ∨ t = [32]) : named (s.take (named s).2 ++ t) = named s := by
  have hb := namedR_best s
  rw [← named_eq] at hb
  have hle := named_le s
  generalize hr : named s = r at *
  obtain ⟨is, n⟩ := r
  simp only at hle
  have hno : ∀ e ∈ table, (32 : UInt8) ∉ e.name ∧ 0 < e.name.length := by decide +kernel
  have hlen : (s.take n).length = n := by rw [List.length_take]; omega
  -- a word without a blank that the cut text begins with, s begins with
  have hpre : ∀ w : Bs, (32 : UInt8) ∉ w → begins (s.take n ++ t) w = true → begins s w = true ∧ w.length ≤ n := by
    intro w hw h
    rw [begins_iff] at h
    have hwl : w.length ≤ n := by
      rcases ht with rfl | rfl
      · have := congrArg List.length h
        rw [List.append_nil, List.length_take, hlen] at this; omega
      · rcases Nat.lt_or_ge n w.length with hlt | hge
        · exfalso; apply hw; rw [← h, List.take_of_length_le (by simp; omega)]; simp
        · exact hge
    rw [List.take_append_of_le_length (by rw [hlen]; exact hwl), List.take_take, Nat.min_eq_left hwl] at h
    exact ⟨(begins_iff s w).2 h, hwl⟩
  have hpre' : ∀ w : Bs, w.length ≤ n → begins s w = true → begins (s.take n ++ t) w = true := by
    intro w hw h
    rw [begins_iff] at h ⊢
    rw [List.take_append_of_le_length (by rw [hlen]; exact hw), List.take_take, Nat.min_eq_left hw, h]
  have hsemi : ∀ e ∈ table, (32 : UInt8) ∉ e.name ++ [59] := fun e he => by simp [(hno e he).1]
  have hc : ∀ e ∈ table, ∀ m, cand (s.take n ++ t) e = some m → m ≤ n ∧ (cand s e = some m ∨ cand s e = some (m + 1)) := by
    intro e he m h
    unfold cand at h
    split at h
    · rename_i h1
      cases h
      obtain ⟨g1, g2⟩ := hpre _ (hsemi e he) h1
      refine ⟨by simpa using g2, .inl ?_⟩
      unfold cand; rw [if_pos g1]
    · split at h
      · rename_i h1 h2
        cases h
        rw [Bool.and_eq_true] at h2
        obtain ⟨g1, g2⟩ := hpre _ (hno e he).1 h2.2
        refine ⟨g2, ?_⟩
        unfold cand
        split
        · exact .inr rfl
        · rw [if_pos (by rw [h2.1, g1]; rfl)]; exact .inl rfl
      · cases h
  rcases hb with ⟨h1, h2⟩ | ⟨e, he, h2, h3, h4⟩
  · rw [named_eq]
    refine best_unique _ _ _ (namedR_best _) (.inl ⟨h1, fun e he => ?_⟩)
    cases hh : cand (s.take n ++ t) e with
    | none => rfl
    | some m =>
      rcases (hc e he m hh).2 with g | g <;> rw [h2 e he] at g <;> cases g
  · simp only at h2 h3 h4
    rw [h3]
    refine named_of _ e n he ?_ fun e' he' m hm => (hc e' he' m hm).1
    unfold cand at h2
    split at h2
    · rename_i h5
      simp only [Option.some.injEq] at h2
      unfold cand
      rw [if_pos (hpre' _ (by simp; omega) h5), h2]
    · split at h2
      · rename_i h5 h6
        simp only [Option.some.injEq] at h2
        rw [Bool.and_eq_true] at h6
        unfold cand
        rw [if_neg (fun h7 => h5 (hpre _ (hsemi e he) h7).1), if_pos (by rw [h6.1, hpre' _ (by omega) h6.2]; rfl), h2]
      · cases h2

end Tym
