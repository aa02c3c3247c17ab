/- The chapter's example of lex; the law LexNext. How many attributes a token may have; how much is left behind it. -/
import Derived.Test.YtpgdkhdnnegmaaaLexI
import Derived.Test.YtpgdkhdnnegmaaaPlainNote

namespace Tym
set_option linter.unusedSimpArgs false
set_option linter.unusedVariables false
open Go Go.RowKit Go.Proofs
set_option maxRecDepth 100000

theorem own_cell {W : World} {g : Nat} {cur : Array Value} {t : TypeId} {n : Nat} {xs : List Value} (hg : W.heap[g]? = some (.cells cur t (0, 0))) (h : cur.toList.take n = xs) (i : Nat) (x : Value) (hx : xs[i]? = some x) : W.cell? ⟨g, i, none⟩ = some x := by
  refine row_cell hg i x ?_
  rw [← h] at hx
  have hi : i < n := by
    by_cases hi : i < n
    · exact hi
    · rw [List.getElem?_eq_none (by rw [List.length_take]; omega)] at hx; cases hx
  rw [List.getElem?_take_of_lt hi] at hx
  simpa using hx
theorem tok_form {W : World} {B : Nat} {t : Tok} {c : List Value} (h : TokVal W B t (.agg c.toArray)) : ∃ p n cc, c = [.int .u8 t.kind, .string (mk t.name), .slice p n cc, .bool t.closing, .string (mk t.text)] ∧ AttsAt W B (.slice p n cc) t.atts := by
  obtain ⟨x, hx, ha⟩ := h
  obtain ⟨p, n, cc, rfl⟩ := ha.shape
  refine ⟨p, n, cc, ?_, ha⟩
  have := congrArg (fun v => match v with | .agg a => a.toList | _ => []) hx
  simpa using this
theorem ToksAt.shape {W : World} {B : Nat} {v : Value} {l : List Tok} (h : ToksAt W B v l) : ∃ p c, v = .slice p l.length c := by
  obtain ⟨vals, ho, _⟩ := h
  rcases ho.2 with ⟨rfl, hn⟩ | ⟨g, cap, _, rfl, _⟩
  · exact ⟨none, 0, by rw [hn]⟩
  · exact ⟨_, cap, rfl⟩

theorem lk1 : allL [97, 32, 60, 32, 98, 60, 47, 120, 62, 60, 33, 45, 45, 99, 45, 45, 62, 38, 108, 116, 59, 60] = [⟨1, [], [], false, [97, 32, 60, 32, 98]⟩, ⟨3, [120], [], false, []⟩, ⟨4, [], [], false, [99]⟩, ⟨1, [], [], false, [60, 60]⟩] := by decide +kernel
theorem lk2 : lexNext ⟨#[120, 60, 47, 116, 105, 116, 108, 101, 62]⟩ 1 1 ⟨#[116, 105, 116, 108, 101]⟩ false = (⟨3, [116, 105, 116, 108, 101], [], false, []⟩, 9) := by decide +kernel

theorem ln1 (w : World) (hm : Mx w) : Calls Try.prog 11 #[.string ⟨#[97, 32, 60, 32, 98, 60, 47, 120, 62, 60, 33, 45, 45, 99, 45, 45, 62, 38, 108, 116, 59, 60]⟩] w fun e w' =>
    (∃ g c cur, e = .returned (.slice (some ⟨g, 0, none⟩) 4 c) ∧ w'.heap[g]? = some (.cells cur 24 (0, 0)) ∧ 4 ≤ c ∧ c ≤ maxLen ∧
      w'.cell? ⟨g, 4, none⟩ = some (.string ⟨#[97, 32, 60, 32, 98]⟩) ∧ w'.cell? ⟨g, 6, none⟩ = some (.string ⟨#[120]⟩) ∧ w'.cell? ⟨g, 14, none⟩ = some (.string ⟨#[99]⟩) ∧ w'.cell? ⟨g, 19, none⟩ = some (.string ⟨#[60, 60]⟩)) ∧ Below w.heap.size w w' := by
  have := lexAll_any ⟨#[97, 32, 60, 32, 98, 60, 47, 120, 62, 60, 33, 45, 45, 99, 45, 45, 62, 38, 108, 116, 59, 60]⟩ w hm (by decide)
  have e : bs ⟨#[97, 32, 60, 32, 98, 60, 47, 120, 62, 60, 33, 45, 45, 99, 45, 45, 62, 38, 108, 116, 59, 60]⟩ = [97, 32, 60, 32, 98, 60, 47, 120, 62, 60, 33, 45, 45, 99, 45, 45, 62, 38, 108, 116, 59, 60] := rfl
  rw [e, lk1] at this
  refine this.mono ?_
  rintro e w' ⟨⟨v, rfl, vals, ho, ht⟩, hb⟩
  refine ⟨?_, hb⟩
  match vals, ht with
  | [c0, c1, c2, c3], ⟨_, h0, _, h1, _, h2, _, h3, _⟩ =>
    obtain ⟨p0, n0, k0, rfl, _⟩ := tok_form h0
    obtain ⟨p1, n1, k1, rfl, _⟩ := tok_form h1
    obtain ⟨p2, n2, k2, rfl, _⟩ := tok_form h2
    obtain ⟨p3, n3, k3, rfl, _⟩ := tok_form h3
    rcases ho.2 with ⟨_, hn⟩ | ⟨g, cap, cur, rfl, _, hg, hl, hc, _, hx⟩
    · cases hn
    · exact ⟨g, cap, cur, rfl, hg, hl, hc, own_cell hg hx 4 _ rfl, own_cell hg hx 6 _ rfl, own_cell hg hx 14 _ rfl, own_cell hg hx 19 _ rfl⟩

theorem ln2 (w : World) (hm : Mx w) : Calls Try.prog 7 #[.string ⟨#[120, 60, 47, 116, 105, 116, 108, 101, 62]⟩, .int .i64 1, .int .u8 1, .string ⟨#[116, 105, 116, 108, 101]⟩, .bool false] w fun e w' =>
    (∃ p n c, e = .returned (.tuple #[.agg #[.int .u8 3, .string ⟨#[116, 105, 116, 108, 101]⟩, .slice p n c, .bool false, .string ⟨#[]⟩], .int .i64 9])) ∧ Below w.heap.size w w' := by
  have := lexNext_any ⟨#[120, 60, 47, 116, 105, 116, 108, 101, 62]⟩ ⟨#[116, 105, 116, 108, 101]⟩ 1 1 false w hm (by decide) (by decide)
  rw [lk2] at this
  refine this.mono ?_
  rintro e w' ⟨⟨v, rfl, x, rfl, hx⟩, hb⟩
  obtain ⟨p, n, c, rfl⟩ := hx.shape
  exact ⟨⟨p, n, c, rfl⟩, hb⟩

set_option maxHeartbeats 1000000 in
theorem lknown (w : World) (hm : Mx w) : Calls Try.prog 9 #[] w fun e w' => e = .returned (.bool true) ∧ Below w.heap.size w w' := by
  have H1 := Lib.hid ln1
  have H2 := Lib.hid ln2
  have HM := Lib.hid hm
  clear hm
  go_enter Try.func9, Try.ntmps9
  go_wp2_with fail
  refine (H1.out _ HM.out).mono ?_; rintro e w1 ⟨⟨g, c, cur, rfl, hg, hl, hc, c4, c6, c14, c19⟩, b1⟩
  go_wp2_with fail
  refine (H2.out _ (HM.out.below b1)).mono ?_; rintro e w2 ⟨⟨p2, n2, k2, rfl⟩, b2⟩
  have hg1 := lt_of_block hg
  have d4 : w2.cell? ⟨g, 4, none⟩ = _ := (b2.cell (p := ⟨g, 4, none⟩) hg1).trans c4
  have d6 : w2.cell? ⟨g, 6, none⟩ = _ := (b2.cell (p := ⟨g, 6, none⟩) hg1).trans c6
  have d14 : w2.cell? ⟨g, 14, none⟩ = _ := (b2.cell (p := ⟨g, 14, none⟩) hg1).trans c14
  have d19 : w2.cell? ⟨g, 19, none⟩ = _ := (b2.cell (p := ⟨g, 19, none⟩) hg1).trans c19
  have hg2 := lt_of_block (below_block b2 hg)
  have hb2 := below_then b1 b2
  clear c4 c6 c14 c19 b1 b2 hg hg1
  unfold maxLen at hc
  go_wp2_with fail
  go_ret
  exact ⟨rfl, hb2.alloc hb2.size _⟩
end Tym

namespace Tym
set_option linter.unusedSimpArgs false
set_option linter.unusedVariables false
open Go Go.RowKit Go.Proofs
set_option maxRecDepth 100000

theorem step_atts (cd : Bool) (r : Bs) (q : Tok × Bs) (h : stepL cd r = some q) : q.1.atts.length ≤ r.length := by
  unfold stepL at h
  by_cases h1 : beginsTag r = true
  · rw [if_pos h1] at h
    cases hr : readTag r with
    | none => rw [hr] at h; cases h; exact Nat.zero_le _
    | some o => rw [hr] at h; cases h; exact readTag_len r o hr
  · rw [if_neg h1] at h
    by_cases h2 : beginsNote r = true
    · rw [if_pos h2] at h
      by_cases h3 : (noteL cd r).1 = 0
      · rw [if_pos h3] at h; cases h
      · rw [if_neg h3] at h; cases h; exact Nat.zero_le _
    · rw [if_neg h2] at h; cases h; exact Nat.zero_le _
theorem nextL_bounds (m : Nat) (E : Bs) (cd : Bool) : ∀ n (r : Bs), r.length ≤ n → (nextL m E cd r).1.atts.length ≤ r.length ∧ (nextL m E cd r).2.length ≤ r.length := by
  intro n
  induction n with
  | zero => intro r h; rw [List.eq_nil_of_length_eq_zero (by omega : r.length = 0), nextL_nil]; exact ⟨Nat.le_refl _, Nat.le_refl _⟩
  | succ n ih =>
    intro r h
    by_cases h0 : r = []
    · subst h0; rw [nextL_nil]; exact ⟨Nat.le_refl _, Nat.le_refl _⟩
    · rw [nextL_eq m E cd r h0]
      have key : ∀ r' : Bs, r'.length ≤ r.length → r' ≠ [] → (match stepL cd r' with | some q => q | none => nextL m E cd (r'.drop (noteL cd r').2.2)).1.atts.length ≤ r.length ∧ (match stepL cd r' with | some q => q | none => nextL m E cd (r'.drop (noteL cd r').2.2)).2.length ≤ r.length := fun r' hr' h' => by
        cases hs : stepL cd r' with
        | some q => have a := step_atts cd r' q hs; have b := step_lt cd r' h' q hs; simp only; exact ⟨by omega, by omega⟩
        | none =>
          have hl := step_none_len cd r' hs
          have := ih (r'.drop (noteL cd r').2.2) (by omega)
          simp only; exact ⟨by omega, by omega⟩
      split
      · split
        · exact ⟨Nat.zero_le _, by show (r.drop _).length ≤ _; rw [List.length_drop]; omega⟩
        · split
          · exact ⟨Nat.zero_le _, Nat.zero_le _⟩
          · rename_i h2; exact key _ (by rw [List.length_drop]; omega) h2
      · exact key r (Nat.le_refl _) h0
theorem lexNext_atts (s : ByteArray) (i m : Int) (name : ByteArray) (cd : Bool) : (lexNext s i m name cd).1.atts.length ≤ s.size := by
  unfold lexNext
  split
  · exact Nat.zero_le _
  · have := (nextL_bounds m.toNat (endOf (bs name)) cd _ ((bs s).drop i.toNat) (Nat.le_refl _)).1
    rw [List.length_drop, ← size_bs] at this
    show (nextL _ _ _ _).1.atts.length ≤ _
    omega
end Tym
