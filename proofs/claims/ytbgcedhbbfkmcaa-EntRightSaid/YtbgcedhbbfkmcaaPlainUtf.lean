/- Plain functions on bytes of the document's layer 1 (utf), and the law: of a text, what is decoded is a text. No program in sight. -/
import Derived.Test.YtbgcedhbbfkmcaaPlainEnt
set_option linter.unusedVariables false
namespace Tym

def many (a : UInt8) : Nat := if a.toNat < 128 then 1 else if 194 ≤ a.toNat ∧ a.toNat ≤ 223 then 2 else if 224 ≤ a.toNat ∧ a.toNat ≤ 239 then 3 else if 240 ≤ a.toNat ∧ a.toNat ≤ 244 then 4 else 0
def second (a b : UInt8) : Bool :=
  if a.toNat = 224 then decide (160 ≤ b.toNat ∧ b.toNat ≤ 191) else if a.toNat = 237 then decide (128 ≤ b.toNat ∧ b.toNat ≤ 159)
  else if a.toNat = 240 then decide (144 ≤ b.toNat ∧ b.toNat ≤ 191) else if a.toNat = 244 then decide (128 ≤ b.toNat ∧ b.toNat ≤ 143) else decide (128 ≤ b.toNat ∧ b.toNat ≤ 191)
def isTail (b : UInt8) : Bool := decide (128 ≤ b.toNat ∧ b.toNat ≤ 191)

def frontAt (n : Nat) (a : UInt8) : Bs → Nat → Nat × Bool
  | [], i => (i, decide (i = n))
  | c :: t, i => if i < n then (if (if i = 1 then second a c else isTail c) then frontAt n a t (i + 1) else (i, false)) else (i, decide (i = n))

def front : Bs → Nat × Bool
  | [] => (0, false)
  | a :: t => if many a = 0 then (1, false) else frontAt (many a) a t 1

def utf : Nat → Bs → Bs
  | 0, _ => []
  | _ + 1, [] => []
  | f + 1, c :: t => (if (front (c :: t)).2 && c != 0 then (c :: t).take (front (c :: t)).1 else [0xef, 0xbf, 0xbd]) ++ utf f ((c :: t).drop (front (c :: t)).1)

def text (l : Bs) : Bs := if begins l [0xef, 0xbb, 0xbf] then utf (l.drop 3).length (l.drop 3) else utf l.length l

theorem frontAt_cons (n : Nat) (a c : UInt8) (t : Bs) (i : Nat) : frontAt n a (c :: t) i = if i < n then (if (if i = 1 then second a c else isTail c) then frontAt n a t (i + 1) else (i, false)) else (i, decide (i = n)) := rfl
theorem front_cons (a : UInt8) (t : Bs) : front (a :: t) = if many a = 0 then (1, false) else frontAt (many a) a t 1 := rfl

theorem frontAt_2 (n : Nat) (a c : UInt8) (t : Bs) (i : Nat) (h1 : i < n) (h2 : i ≠ 1) (hc : isTail c = true) : frontAt n a (c :: t) i = frontAt n a t (i + 1) := by
  rw [frontAt_cons, if_pos h1, if_pos (by rw [if_neg h2]; exact hc)]
theorem frontAt_1 (n : Nat) (a c : UInt8) (t : Bs) (h1 : 1 < n) (hs : second a c = true) : frontAt n a (c :: t) 1 = frontAt n a t 2 := by
  rw [frontAt_cons, if_pos h1, if_pos (by rw [if_pos rfl]; exact hs)]

theorem second_ge (a b : UInt8) (h : second a b = true) : 128 ≤ b.toNat := by
  unfold second at h
  repeat' (split at h)
  all_goals (have := of_decide_eq_true h; omega)

theorem frontAt_end (n : Nat) (a : UInt8) (rest : Bs) : frontAt n a rest n = (n, true) := by
  cases rest <;> simp [frontAt]

theorem frontAt_ge (n : Nat) (a : UInt8) (t : Bs) : ∀ i, i ≤ (frontAt n a t i).1 ∧ (frontAt n a t i).1 ≤ i + t.length := by
  induction t with
  | nil => intro i; simp [frontAt]
  | cons c t ih =>
    intro i
    rw [frontAt_cons]
    have := ih (i + 1)
    rw [List.length_cons]
    by_cases h1 : i < n
    · rw [if_pos h1]
      by_cases h2 : (if i = 1 then second a c else isTail c) = true
      · rw [if_pos h2]; omega
      · rw [if_neg h2]; simp
    · rw [if_neg h1]; simp

theorem frontAt_true (n : Nat) (a : UInt8) (t : Bs) : ∀ i, i ≤ n → (frontAt n a t i).2 = true →
    (frontAt n a t i).1 = n ∧ n - i ≤ t.length ∧ (∀ rest, frontAt n a (t.take (n - i) ++ rest) i = (n, true)) ∧ ∀ x ∈ t.take (n - i), 128 ≤ x.toNat := by
  induction t with
  | nil =>
    intro i hi h
    have : i = n := by simpa [frontAt] using h
    subst this
    refine ⟨rfl, by omega, ?_, ?_⟩
    · intro rest; rw [Nat.sub_self, List.take_zero, List.nil_append]; exact frontAt_end _ _ _
    · simp
  | cons c t ih =>
    intro i hi h
    rw [frontAt_cons] at h ⊢
    by_cases hlt : i < n
    · rw [if_pos hlt] at h ⊢
      by_cases hc : (if i = 1 then second a c else isTail c) = true
      · rw [if_pos hc] at h ⊢
        obtain ⟨h1, h2, h3, h4⟩ := ih (i + 1) hlt h
        have e : n - i = (n - (i + 1)) + 1 := by omega
        refine ⟨h1, by rw [List.length_cons]; omega, ?_, ?_⟩
        · intro rest
          rw [e, List.take_succ_cons, List.cons_append]
          rw [frontAt_cons, if_pos hlt, if_pos hc]
          exact h3 rest
        · rw [e, List.take_succ_cons]
          intro x hx
          rcases List.mem_cons.1 hx with rfl | hx
          · split at hc
            · exact second_ge _ _ hc
            · exact (of_decide_eq_true hc).1
          · exact h4 x hx
      · rw [if_neg hc] at h; simp at h
    · have : i = n := by omega
      subst this
      rw [if_neg hlt]
      refine ⟨rfl, by omega, ?_, ?_⟩
      · intro rest; rw [Nat.sub_self, List.take_zero, List.nil_append]; exact frontAt_end _ _ _
      · rw [Nat.sub_self]; simp

def Whole (c : Bs) : Prop := c ≠ [] ∧ c.headD 0 ≠ 0 ∧ (∀ rest, front (c ++ rest) = (c.length, true)) ∧ ((c.length = 1 ∧ (c.headD 0).toNat < 128) ∨ ∀ x ∈ c, 128 ≤ x.toNat)

inductive Txt : Bs → Prop
  | nil : Txt []
  | cons (c r : Bs) : Whole c → Txt r → Txt (c ++ r)

theorem many_hi (a : UInt8) (h : many a ≠ 1) (h0 : many a ≠ 0) : 128 ≤ a.toNat := by
  unfold many at h h0
  by_cases h1 : a.toNat < 128
  · rw [if_pos h1] at h; exact absurd rfl h
  · omega
theorem many_lo (a : UInt8) (h : a.toNat < 128) : many a = 1 := by unfold many; rw [if_pos h]
theorem many_one (a : UInt8) (h : many a = 1) : a.toNat < 128 := by
  unfold many at h
  by_cases h1 : a.toNat < 128
  · exact h1
  · rw [if_neg h1] at h
    repeat' (split at h)
    all_goals omega

theorem whole_take (a : UInt8) (t : Bs) (h : (front (a :: t)).2 = true) (ha : a ≠ 0) : Whole ((a :: t).take (front (a :: t)).1) ∧ 0 < (front (a :: t)).1 := by
  rw [front_cons] at h ⊢
  by_cases hm : many a = 0
  · rw [if_pos hm] at h; simp at h
  · rw [if_neg hm] at h ⊢
    obtain ⟨h1, h2, h3, h4⟩ := frontAt_true (many a) a t 1 (by omega) h
    rw [h1]
    have e : many a = (many a - 1) + 1 := by omega
    have e2 : (a :: t).take (many a) = a :: t.take (many a - 1) := by rw [e]; simp
    refine ⟨⟨by rw [e2]; simp, by rw [e2]; exact ha, ?_, ?_⟩, by omega⟩
    · intro rest
      rw [e2, List.cons_append]
      show (if many a = 0 then (1, false) else frontAt (many a) a (t.take (many a - 1) ++ rest) 1) = _
      rw [if_neg hm, h3 rest, List.length_cons, List.length_take, Nat.min_eq_left h2, ← e]
    · rw [e2]
      by_cases h1 : many a = 1
      · left
        exact ⟨by rw [h1]; simp, many_one a h1⟩
      · right
        intro x hx
        rcases List.mem_cons.1 hx with rfl | hx
        · exact many_hi _ h1 hm
        · exact h4 x hx

theorem front_pos (a : UInt8) (t : Bs) : 0 < (front (a :: t)).1 ∧ (front (a :: t)).1 ≤ (a :: t).length := by
  rw [front_cons]
  split
  · simp
  · have := frontAt_ge (many a) a t 1
    rw [List.length_cons]; omega

theorem whole_bad : Whole [0xef, 0xbf, 0xbd] := by
  refine ⟨by simp, by decide, ?_, .inr (by decide)⟩
  intro rest
  show (if many 0xef = 0 then (1, false) else frontAt (many 0xef) 0xef (0xbf :: 0xbd :: rest) 1) = _
  rw [show many 0xef = 3 from by decide, if_neg (by omega), frontAt_1 _ _ _ _ (by omega) (by decide), frontAt_2 _ _ _ _ _ (by omega) (by omega) (by decide), frontAt_end]; rfl

theorem txt_utf : ∀ f l, Txt (utf f l) := by
  intro f
  induction f with
  | zero => intro l; exact .nil
  | succ f ih =>
    intro l
    cases l with
    | nil => exact .nil
    | cons c t =>
      unfold utf
      refine .cons _ _ ?_ (ih _)
      split
      · rename_i h
        rw [Bool.and_eq_true, bne_iff_ne] at h
        exact (whole_take c t h.1 h.2).1
      · exact whole_bad

theorem utf_txt {l : Bs} (h : Txt l) : ∀ f, l.length ≤ f → utf f l = l := by
  induction h with
  | nil => intro f _; cases f <;> rfl
  | cons c r hc _ ih =>
    intro f hf
    obtain ⟨h1, h2, h3, _⟩ := hc
    cases c with
    | nil => exact absurd rfl h1
    | cons a t =>
      rw [List.length_append, List.length_cons] at hf
      cases f with
      | zero => omega
      | succ f =>
        have h3r := h3 r
        rw [List.cons_append] at h3r ⊢
        unfold utf
        rw [h3r]
        have h2' : (a != 0) = true := bne_iff_ne.2 h2
        rw [h2', Bool.and_self, if_pos rfl, ← List.cons_append, List.take_left, List.drop_left, ih f (by omega)]

theorem txt_app {a b : Bs} (ha : Txt a) (hb : Txt b) : Txt (a ++ b) := by
  induction ha with
  | nil => exact hb
  | cons c r hc _ ih => rw [List.append_assoc]; exact .cons c _ hc ih

theorem txt_one {c : Bs} (h : Whole c) : Txt c := by have := Txt.cons c [] h .nil; rwa [List.append_nil] at this

theorem whole_asc (a : UInt8) (h : a.toNat < 128) (h0 : a ≠ 0) : Whole [a] := by
  refine ⟨by simp, h0, ?_, .inl ⟨rfl, h⟩⟩
  intro rest
  show (if many a = 0 then (1, false) else frontAt (many a) a rest 1) = _
  rw [many_lo a h, if_neg (by omega), frontAt_end]; rfl

theorem whole2 (a b : UInt8) (h : 194 ≤ a.toNat ∧ a.toNat ≤ 223) (hb : 128 ≤ b.toNat ∧ b.toNat ≤ 191) : Whole [a, b] := by
  have hm : many a = 2 := by unfold many; rw [if_neg (by omega), if_pos h]
  have hs : second a b = true := by unfold second; rw [if_neg (by omega), if_neg (by omega), if_neg (by omega), if_neg (by omega)]; exact decide_eq_true hb
  refine ⟨by simp, (by intro e; have := congrArg UInt8.toNat e; simp at this; omega), ?_, .inr (by simp; omega)⟩
  intro rest
  show (if many a = 0 then (1, false) else frontAt (many a) a (b :: rest) 1) = _
  rw [hm, if_neg (by omega)]
  rw [frontAt_1 _ _ _ _ (by omega) hs, frontAt_end]; rfl

theorem whole3 (a b c : UInt8) (h : 224 ≤ a.toNat ∧ a.toNat ≤ 239) (hs : second a b = true) (hc : 128 ≤ c.toNat ∧ c.toNat ≤ 191) : Whole [a, b, c] := by
  have hm : many a = 3 := by unfold many; rw [if_neg (by omega), if_neg (by omega), if_pos h]
  have hb := second_ge a b hs
  refine ⟨by simp, (by intro e; have := congrArg UInt8.toNat e; simp at this; omega), ?_, .inr (by simp; omega)⟩
  intro rest
  show (if many a = 0 then (1, false) else frontAt (many a) a (b :: c :: rest) 1) = _
  rw [hm, if_neg (by omega)]
  rw [frontAt_1 _ _ _ _ (by omega) hs]
  rw [frontAt_2 _ _ _ _ _ (by omega) (by omega) (show isTail c = true from decide_eq_true hc), frontAt_end]; rfl

theorem whole4 (a b c d : UInt8) (h : 240 ≤ a.toNat ∧ a.toNat ≤ 244) (hs : second a b = true) (hc : 128 ≤ c.toNat ∧ c.toNat ≤ 191) (hd : 128 ≤ d.toNat ∧ d.toNat ≤ 191) : Whole [a, b, c, d] := by
  have hm : many a = 4 := by unfold many; rw [if_neg (by omega), if_neg (by omega), if_neg (by omega), if_pos h]
  have hb := second_ge a b hs
  refine ⟨by simp, (by intro e; have := congrArg UInt8.toNat e; simp at this; omega), ?_, .inr (by simp; omega)⟩
  intro rest
  show (if many a = 0 then (1, false) else frontAt (many a) a (b :: c :: d :: rest) 1) = _
  rw [hm, if_neg (by omega)]
  rw [frontAt_1 _ _ _ _ (by omega) hs]
  rw [frontAt_2 _ _ _ _ _ (by omega) (by omega) (show isTail c = true from decide_eq_true hc)]
  rw [frontAt_2 _ _ _ _ _ (by omega) (by omega) (show isTail d = true from decide_eq_true hd), frontAt_end]; rfl

theorem whole_enc (r : Int) (h : right r = true) : Whole (enc r) := by
  have hr : 0 < r ∧ r ≤ 1114111 ∧ (r < 55296 ∨ 57343 < r) := by
    unfold right at h
    simp only [Bool.and_eq_true, Bool.or_eq_true, decide_eq_true_eq] at h
    exact ⟨h.1.1, h.1.2, h.2⟩
  have hv : Go.Utf8.valid r = true := by
    unfold Go.Utf8.valid
    simp; omega
  unfold enc Go.Utf8.encode
  simp only [hv, if_true]
  generalize hn : r.toNat = n
  have hn0 : 0 < n ∧ n ≤ 1114111 ∧ (n < 55296 ∨ 57343 < n) := by omega
  split
  · refine whole_asc _ (by rw [UInt8.toNat_ofNat']; omega) ?_
    intro e
    have := congrArg UInt8.toNat e
    rw [UInt8.toNat_ofNat'] at this; simp at this; omega
  · split
    · refine whole2 _ _ ?_ ?_ <;> (rw [UInt8.toNat_ofNat']; omega)
    · split
      · refine whole3 _ _ _ (by rw [UInt8.toNat_ofNat']; omega) ?_ (by rw [UInt8.toNat_ofNat']; omega)
        unfold second
        rw [UInt8.toNat_ofNat', UInt8.toNat_ofNat']
        repeat' split
        all_goals (apply decide_eq_true; omega)
      · refine whole4 _ _ _ _ (by rw [UInt8.toNat_ofNat']; omega) ?_ (by rw [UInt8.toNat_ofNat']; omega) (by rw [UInt8.toNat_ofNat']; omega)
        unfold second
        rw [UInt8.toNat_ofNat', UInt8.toNat_ofNat']
        repeat' split
        all_goals (apply decide_eq_true; omega)
theorem right_number (n : Int) : right (number n) = true := by
  have hw : ∀ k : Fin 32, wide.getD k 0 ≠ 0 → right (wide.getD k 0) = true := by decide +kernel
  unfold number
  split
  · rename_i h
    split
    · rename_i h2
      exact hw ⟨(n - 128).toNat, by omega⟩ h2.2.2
    · exact h
  · decide

theorem txt_is (e : Ent) (he : e ∈ table) : Txt e.is := by
  have h : ∀ e ∈ table, utf e.is.length e.is = e.is := by decide +kernel
  rw [← h e he]; exact txt_utf _ _

theorem txt_tail {c : UInt8} {t : Bs} (hc : c.toNat < 128) : ∀ {s : Bs}, Txt s → s = c :: t → Txt t := by
  intro s h
  induction h with
  | nil => intro e; simp at e
  | cons d r hd hr ih =>
    intro e
    obtain ⟨h1, h2, h3, h4⟩ := hd
    cases d with
    | nil => exact absurd rfl h1
    | cons a d =>
      rw [List.cons_append, List.cons.injEq] at e
      obtain ⟨rfl, e⟩ := e
      rcases h4 with ⟨h5, _⟩ | h5
      · have : d = [] := List.eq_nil_of_length_eq_zero (by simpa using h5)
        subst this
        rw [← e]; exact hr
      · have := h5 a (List.mem_cons_self ..)
        omega

theorem txt_drop : ∀ (k : Nat) (s : Bs), Txt s → (∀ x ∈ s.take k, x.toNat < 128) → Txt (s.drop k) := by
  intro k
  induction k with
  | zero => intro s h _; exact h
  | succ k ih =>
    intro s h ha
    cases s with
    | nil => exact .nil
    | cons c t =>
      rw [List.take_succ_cons] at ha
      exact ih t (txt_tail (ha c (List.mem_cons_self ..)) h rfl) (fun x hx => ha x (List.mem_cons_of_mem _ hx))

theorem hex_asc (c : UInt8) (h : ¬ hex c < 0) : c.toNat < 128 :=
  byte_all (p := fun c => ¬ hex c < 0 → c.toNat < 128) (by decide +kernel) c h

theorem digT_asc (cap base : Nat) (l : Bs) : ∀ n i, ∀ x ∈ l.take ((digT cap base l n i).2 - i), x.toNat < 128 := by
  induction l with
  | nil => intro n i x hx; simp at hx
  | cons c t ih =>
    intro n i x hx
    unfold digT at hx
    split at hx
    · simp at hx
    · rename_i hc
      have hg := (digT_ge cap base t (min (n * base + (hex c).toNat) cap) (i + 1)).1
      rw [show (digT cap base t (min (n * base + (hex c).toNat) cap) (i + 1)).2 - i = ((digT cap base t (min (n * base + (hex c).toNat) cap) (i + 1)).2 - (i + 1)) + 1 from by omega, List.take_succ_cons] at hx
      rcases List.mem_cons.1 hx with rfl | hx
      · exact hex_asc _ (fun h => hc (.inl h))
      · exact ih _ _ x hx

theorem take_add_mem {l : Bs} {a b : Nat} {x : UInt8} (h : x ∈ l.take (a + b)) : x ∈ l.take a ∨ x ∈ (l.drop a).take b := by
  rw [List.take_add] at h
  exact List.mem_append.1 h

theorem begins_asc (s w : Bs) (h : begins s w = true) (hw : ∀ x ∈ w, x.toNat < 128) : ∀ x ∈ s.take w.length, x.toNat < 128 := by
  rw [(begins_iff s w).1 h]; exact hw

theorem drop_one (s : Bs) (i : Nat) (h : i < s.length) : (s.drop i).take 1 = [s.getD i 0] := by
  rw [List.drop_eq_getElem_cons h, List.getD_eq_getElem?_getD, List.getElem?_eq_getElem h]; rfl

theorem numeric_asc (cap : Nat) (s : Bs) : ∀ x ∈ s.take (numeric cap s).2.2, x.toNat < 128 := by
  unfold numeric
  split
  · rename_i hb
    simp only
    split
    · simp
    · intro x hx
      have hg := (digT_ge cap (numBase s) (s.drop (numAt s)) 0 (numAt s)).1
      rw [show (digT cap (numBase s) (s.drop (numAt s)) 0 (numAt s)).2 = numAt s + ((digT cap (numBase s) (s.drop (numAt s)) 0 (numAt s)).2 - numAt s) from by omega] at hx
      rcases take_add_mem hx with h | h
      · have h2 := begins_asc s [38, 35] hb (by decide)
        unfold numAt at h
        split at h
        · rename_i hX
          rcases take_add_mem (a := 2) (b := 1) h with h | h
          · exact h2 x h
          · have h3 := (isX_iff s).1 hX
            have := drop_one s 2 h3.1
            rw [this, List.mem_singleton] at h
            subst h
            rcases h3.2 with h4 | h4 <;> rw [h4] <;> decide
        · exact h2 x h
      · exact digT_asc _ _ _ _ _ x h
  · simp

theorem named_asc (s : Bs) : ∀ x ∈ s.take (named s).2, x.toNat < 128 := by
  have hb := namedR_best s
  rw [← named_eq] at hb
  have hn : ∀ e ∈ table, ∀ x ∈ e.name, x.toNat < 128 := by decide +kernel
  rcases hb with ⟨h1, _⟩ | ⟨e, he, h2, _, _⟩
  · rw [h1]; simp
  · obtain ⟨h3, h4⟩ := cand_some s e _ h2
    have hname : ∀ x ∈ s.take e.name.length, x.toNat < 128 := by rw [h3]; exact hn e he
    rcases h4 with ⟨h5, h6⟩ | ⟨h5, _⟩
    · rw [h5]
      intro x hx
      rcases take_add_mem hx with h | h
      · exact hname x h
      · cases hd : s.drop e.name.length with
        | nil => rw [hd] at h; simp at h
        | cons c t =>
          rw [hd] at h h6
          simp at h h6
          subst h6; subst h; decide
    · rw [h5]; exact hname

theorem taken_asc (t : Bs) (attr : Bool) : ∀ x ∈ (38 :: t).take (taken (38 :: t) attr).2, x.toNat < 128 := by
  unfold taken
  simp only
  split
  · intro x hx
    split at hx
    · rename_i hb
      rcases take_add_mem hx with h | h
      · exact numeric_asc _ _ x h
      · exact begins_asc _ [59] hb (by decide) x h
    · exact numeric_asc _ _ x hx
  · split
    · intro x hx; simp at hx; subst hx; decide
    · intro x hx
      simp only [List.take_succ_cons, List.drop_one, List.tail_cons] at hx
      rcases List.mem_cons.1 hx with rfl | hx
      · decide
      · exact named_asc t x hx

theorem txt_taken (s : Bs) (attr : Bool) : Txt (taken s attr).1 := by
  have h38 : Txt [38] := txt_one (whole_asc 38 (by decide) (by decide))
  unfold taken
  simp only
  split
  · exact txt_one (whole_enc _ (right_number _))
  · split
    · exact h38
    · rename_i h
      have hb := namedR_best (s.drop 1)
      rw [← named_eq] at hb
      rcases hb with ⟨h1, _⟩ | ⟨e, he, _, h3, _⟩
      · rw [h1]; exact .nil
      · rw [h3]; exact txt_is e he

theorem txt_dec (attr : Bool) : ∀ (n : Nat) (s : Bs), s.length ≤ n → Txt s → Txt (dec attr s) := by
  intro n
  induction n with
  | zero => intro s hs _; rw [List.eq_nil_of_length_eq_zero (by omega : s.length = 0)]; exact .nil
  | succ n ih =>
    intro s hs h
    cases h with
    | nil => exact .nil
    | cons c r hc hr =>
      have hc' := hc
      obtain ⟨h1, h2, h3, h4⟩ := hc
      cases c with
      | nil => exact absurd rfl h1
      | cons a c =>
        rw [List.length_append, List.length_cons] at hs
        by_cases ha : a = 38
        · subst ha
          have hT : Txt (38 :: (c ++ r)) := by rw [← List.cons_append]; exact .cons _ _ hc' hr
          rw [List.cons_append, dec_amp]
          refine txt_app (txt_taken _ _) (ih _ ?_ (txt_drop _ _ hT (taken_asc _ _)))
          have := taken_pos (38 :: (c ++ r)) attr
          rw [List.length_drop, List.length_cons, List.length_append]; omega
        · have hn : (38 : UInt8) ∉ a :: c := by
            rcases h4 with ⟨h5, _⟩ | h5
            · have : c = [] := List.eq_nil_of_length_eq_zero (by simpa using h5)
              subst this
              simp; exact fun h => ha h.symm
            · intro hm
              have := h5 38 hm
              exact absurd this (by decide)
          rw [dec_plain attr _ _ hn]
          exact .cons _ _ hc' (ih r (by omega) hr)

theorem right_dec (attr : Bool) (l : Bs) : utf (dec attr (text l)).length (dec attr (text l)) = dec attr (text l) := by
  refine utf_txt (txt_dec attr _ _ (Nat.le_refl _) ?_) _ (Nat.le_refl _)
  unfold text
  split <;> exact txt_utf _ _
end Tym
