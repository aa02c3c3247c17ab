/- The law RawParts: where the text ends short of the end, an end of the name stands. -/
import Derived.Test.YtdfefcikcfejoaaRawK
set_option linter.unusedSimpArgs false
set_option linter.unusedVariables false
open Go Go.RowKit Go.Proofs
namespace Tym
set_option maxRecDepth 100000

theorem plainAt_ends (e : Bs) (r : Bs) (h : plainAt e r < r.length) : follows (r.drop (plainAt e r)) e = true := by
  induction r with
  | nil => simp at h
  | cons c t ih =>
    by_cases hf : follows (c :: t) e = true
    · rw [plainAt_stop e _ hf]; exact hf
    · rw [Bool.not_eq_true] at hf
      have h1 := plainAt_go e (c :: t) (by simp) hf
      rw [List.drop_one, List.tail_cons] at h1
      rw [h1, List.length_cons] at h
      rw [h1, Nat.add_comm, List.drop_succ_cons]
      exact ih (by omega)

theorem scr_ends (e : Bs) : ∀ f st d r, r.length ≤ f → scr e f st d r < r.length → follows (r.drop (scr e f st d r)) e = true := by
  intro f
  induction f with
  | zero => intro st d r h1 h2; omega
  | succ f ih =>
    intro st d r hf h
    cases r with
    | nil => simp at h
    | cons c t =>
      have g : ∀ n st d, 1 ≤ n → n + scr e f st d ((c :: t).drop n) < (c :: t).length → follows ((c :: t).drop (n + scr e f st d ((c :: t).drop n))) e = true := by
        intro n st d hn h
        rw [← List.drop_drop]
        refine ih st d _ ?_ ?_
        · rw [List.length_drop, List.length_cons]; rw [List.length_cons] at hf; omega
        · rw [List.length_drop]; omega
      have g1 : ∀ st d, 1 + scr e f st d t < (c :: t).length → follows ((c :: t).drop (1 + scr e f st d t)) e = true := fun st d => g 1 st d (Nat.le_refl _)
      unfold scr at h ⊢
      by_cases c1 : st ≠ 2 ∧ follows (c :: t) e = true
      · rw [if_pos c1]; exact c1.2
      · rw [if_neg c1] at h ⊢
        by_cases c2 : st = 0
        · rw [if_pos c2] at h ⊢
          by_cases c3 : begins (c :: t) [60, 33, 45, 45] = true
          · rw [if_pos c3] at h ⊢; exact g 4 _ _ (by omega) h
          · rw [if_neg c3] at h ⊢; exact g1 _ _ h
        · rw [if_neg c2] at h ⊢
          by_cases c3 : c = 45
          · rw [if_pos c3] at h ⊢; exact g1 _ _ h
          · rw [if_neg c3] at h ⊢
            by_cases c4 : c = 62 ∧ 2 ≤ d
            · rw [if_pos c4] at h ⊢; exact g1 _ _ h
            · rw [if_neg c4] at h ⊢
              by_cases c5 : st = 1 ∧ follows (c :: t) [60, 115, 99, 114, 105, 112, 116] = true
              · rw [if_pos c5] at h ⊢; exact g 8 _ _ (by omega) h
              · rw [if_neg c5] at h ⊢
                by_cases c6 : st = 2 ∧ follows (c :: t) [60, 47, 115, 99, 114, 105, 112, 116] = true
                · rw [if_pos c6] at h ⊢; exact g 9 _ _ (by omega) h
                · rw [if_neg c6] at h ⊢; exact g1 _ _ h

theorem rawN_ends (m : Nat) (E r : Bs) (h : rawN m E r < r.length) : m ≤ 3 ∧ follows (r.drop (rawN m E r)) E = true ∨ m = 0 := by
  by_cases h1 : m = 1 ∨ m = 2
  · have e : rawN m E r = plainAt E r := by unfold rawN; rw [if_pos h1]
    rw [e] at h ⊢
    exact .inl ⟨by omega, plainAt_ends E r h⟩
  · by_cases h2 : m = 3
    · have e : rawN m E r = scrL E 0 0 r := by unfold rawN; rw [if_neg h1, if_pos h2]
      rw [e] at h ⊢
      exact .inl ⟨by omega, scr_ends E _ 0 0 r (Nat.le_refl _) h⟩
    · have e : rawN m E r = r.length := by unfold rawN; rw [if_neg h1, if_neg h2]
      omega

theorem rawN_word (m : Nat) (E r : Bs) (hm : 1 ≤ m) (h : rawN m E r < r.length) : m ≠ 4 ∧ E.length + rawN m E r < r.length ∧ lower ((r.drop (rawN m E r)).take E.length) = E := by
  rcases rawN_ends m E r h with ⟨h1, h2⟩ | h1
  · have h3 := follows_len _ _ h2
    rw [List.length_drop] at h3
    refine ⟨by omega, by omega, ?_⟩
    unfold follows wordIn at h2
    simp only [Bool.and_eq_true, beq_iff_eq] at h2
    exact h2.1.2
  · omega

attribute [local irreducible] rawN lower dec follows wordIn plainAt scrL

theorem parts_end (s name t : ByteArray) (q : Int) (p : Nat) (w : World) (hs : ¬ (3000 : Int) < (s.size : Int)) (hn : ¬ (3000 : Int) < (name.size : Int)) (hp : (p = 1 ∧ q.tmod 4 = 0) ∨ (p = 2 ∧ q.tmod 4 = 1) ∨ (p = 3 ∧ q.tmod 4 = 2) ∨ (p = 4 ∧ q.tmod 4 = 3))
    (hneg : ¬ (s.size : Int) < 0) (ht : p ≠ 1 → t = s)
    (HT : Hid (∀ w, Calls Try.prog 6 #[.string s, .int .i64 0, .string name, .int .u8 p] w fun e w' => e = .returned (.tuple #[.string t, .int .i64 s.size]) ∧ Below w.heap.size w w')) : Calls Try.prog 4 #[.string s, .string name, .int .u8 q] w fun e w' => e = .returned (.bool true) ∧ Below w.heap.size w w' := by
  have hb : (p ≠ 1 → (t.toList == s.toList) = true) := fun h => by rw [ht h]; simp
  clear ht
  rcases hp with ⟨rfl, hr⟩ | ⟨rfl, hr⟩ | ⟨rfl, hr⟩ | ⟨rfl, hr⟩
  all_goals
    first | (have hb1 := hb (by decide); clear hb) | clear hb
    go_enter Try.func4, Try.ntmps4
    go_wp2_with fail
    refine (rknown _).mono ?_; rintro e w0 ⟨rfl, b0⟩
    go_wp2_with fail
    refine (HT.out _).mono ?_; rintro e w1 ⟨rfl, b1⟩
    go_wp2_with fail
    go_ret
    exact ⟨rfl, below_then b0 b1⟩

theorem parts_tag (s name t : ByteArray) (q : Int) (n p : Nat) (w : World) (hs : ¬ (3000 : Int) < (s.size : Int)) (hn : ¬ (3000 : Int) < (name.size : Int)) (hp : (p = 1 ∧ q.tmod 4 = 0) ∨ (p = 2 ∧ q.tmod 4 = 1) ∨ (p = 3 ∧ q.tmod 4 = 2))
    (hle : ¬ (n : Int) = (s.size : Int)) (hlt : n ≤ s.size) (hneg : ¬ (n : Int) < 0) (ht : p ≠ 1 → t = s.extract 0 n)
    (nm l : ByteArray) (hm : nm.size ≤ 3000) (hlen : n + 2 + nm.size < s.size) (heq : (l.toList == (⟨#[60, 47]⟩ ++ nm : ByteArray).toList) = true)
    (HL : Hid (∀ w, Calls Try.prog 9 #[.string name] w fun e w' => e = .returned (.string nm) ∧ Below w.heap.size w w'))
    (HM : Hid (∀ w, Calls Try.prog 9 #[.string (s.extract n (n + (2 + nm.size)))] w fun e w' => e = .returned (.string l) ∧ Below w.heap.size w w'))
    (HT : Hid (∀ w, Calls Try.prog 6 #[.string s, .int .i64 0, .string name, .int .u8 p] w fun e w' => e = .returned (.tuple #[.string t, .int .i64 n]) ∧ Below w.heap.size w w')) : Calls Try.prog 4 #[.string s, .string name, .int .u8 q] w fun e w' => e = .returned (.bool true) ∧ Below w.heap.size w w' := by
  have hb : (p ≠ 1 → (t.toList == (s.extract 0 n).toList) = true) := fun h => by rw [ht h]; simp
  clear ht
  have hsz : (⟨#[60, 47]⟩ ++ nm : ByteArray).size = 2 + nm.size := by rw [ByteArray.size_append]; rfl
  rcases hp with ⟨rfl, hr⟩ | ⟨rfl, hr⟩ | ⟨rfl, hr⟩
  all_goals
    first | (have hb1 := hb (by decide); clear hb) | clear hb
    go_enter Try.func4, Try.ntmps4
    go_wp2_with fail
    refine (rknown _).mono ?_; rintro e w0 ⟨rfl, b0⟩
    go_wp2_with fail
    refine (HT.out _).mono ?_; rintro e w1 ⟨rfl, b1⟩
    go_wp2_with fail
    refine (HL.out _).mono ?_; rintro e w2 ⟨rfl, b2⟩
    go_wp2_with fail
    refine (HM.out _).mono ?_; rintro e w3 ⟨rfl, b3⟩
    go_wp2_with fail
    go_ret
    exact ⟨rfl, below_then (below_then (below_then b0 b1) b2) b3⟩
theorem tmod4 (q : Int) (hq : 0 ≤ q ∧ q ≤ 255) : ∃ p : Nat, (p = 1 ∧ q.tmod 4 = 0) ∨ (p = 2 ∧ q.tmod 4 = 1) ∨ (p = 3 ∧ q.tmod 4 = 2) ∨ (p = 4 ∧ q.tmod 4 = 3) := by
  have : q.tmod 4 = q % 4 := Int.tmod_eq_emod_of_nonneg hq.1
  rw [this]
  have h : q % 4 = 0 ∨ q % 4 = 1 ∨ q % 4 = 2 ∨ q % 4 = 3 := by omega
  rcases h with h | h | h | h
  · exact ⟨1, .inl ⟨rfl, h⟩⟩
  · exact ⟨2, .inr (.inl ⟨rfl, h⟩)⟩
  · exact ⟨3, .inr (.inr (.inl ⟨rfl, h⟩))⟩
  · exact ⟨4, .inr (.inr (.inr ⟨rfl, h⟩))⟩

theorem u8_of (q : Int) (h : (Lit.int .u8 q).wf = true) : 0 ≤ q ∧ q ≤ 255 := by
  unfold Lit.wf at h
  simp only [Bool.and_eq_true, decide_eq_true_eq] at h
  exact h

theorem law_rawparts (s name : ByteArray) (q : Int) (hq : 0 ≤ q ∧ q ≤ 255) (w : World) : Calls Try.prog 4 #[.string s, .string name, .int .u8 q] w fun e w' => e = .returned (.bool true) ∧ Below w.heap.size w w' := by
  by_cases h1 : (3000 : Int) < (s.size : Int)
  · go_enter Try.func4, Try.ntmps4
    go_wp2_with fail
    refine (rknown _).mono ?_; rintro e w1 ⟨rfl, b1⟩
    go_wp2_with fail
    go_ret
    exact ⟨rfl, b1⟩
  · by_cases h2 : (3000 : Int) < (name.size : Int)
    · go_enter Try.func4, Try.ntmps4
      go_wp2_with fail
      refine (rknown _).mono ?_; rintro e w1 ⟨rfl, b1⟩
      go_wp2_with fail
      go_ret
      exact ⟨rfl, b1⟩
    · obtain ⟨p, hp⟩ := tmod4 q hq
      have HT := fun w => rawText_in s name 0 p w (by omega) (by omega) (Nat.zero_le _) (by omega)
      have hle := rawN_le p (endOf (bs name)) (bs s)
      rw [← size_bs] at hle
      have hwd := rawN_word p (endOf (bs name)) (bs s) (by omega)
      rw [← size_bs] at hwd
      have hT : p ≠ 1 → mk (rawT p (endOf (bs name)) (bs s)) = s.extract 0 (rawN p (endOf (bs name)) (bs s)) := by
        intro h; unfold rawT; rw [if_neg h, mk_take]
      rw [List.drop_zero] at HT
      simp only [Nat.zero_add] at HT
      have hE : endOf (bs name) = bs (⟨#[60, 47]⟩ ++ mk (lower (bs name))) := by rw [bs_append]; rfl
      have hnm : (mk (lower (bs name))).size ≤ 3000 := by rw [size_mk, lower_len, ← size_bs]; omega
      have hEl : (endOf (bs name)).length = 2 + (mk (lower (bs name))).size := by rw [hE, ← size_bs, ByteArray.size_append]; rfl
      have HL : Hid (∀ w, Calls Try.prog 9 #[.string name] w fun e w' => e = .returned (.string (mk (lower (bs name)))) ∧ Below w.heap.size w w') := fun w => lowerR_any name w (by omega)
      rw [hEl] at hwd
      by_cases he : rawN p (endOf (bs name)) (bs s) = s.size
      · rw [he] at HT hT
        exact parts_end s name _ q p w h1 h2 hp (by omega) (fun h => by rw [hT h]; exact bs_inj (by rw [bs_to, size_bs, List.take_length])) HT
      · obtain ⟨h4, h5, h6⟩ := hwd (by omega)
        have HM := fun w => lowerR_any (s.extract (rawN p (endOf (bs name)) (bs s)) (rawN p (endOf (bs name)) (bs s) + (2 + (mk (lower (bs name))).size))) w (by rw [ByteArray.size_extract]; omega)
        refine parts_tag s name _ q _ p w h1 h2 (by omega) (by omega) hle (by omega) hT (mk (lower (bs name))) _ hnm (by omega) ?_ HL HM HT
        rw [toList_beq, bs_mk, bs_extract, Nat.add_sub_cancel_left, h6, hE]
        simp
end Tym
