/- Lists of attributes as they lie in memory; what looks through them. -/
import Derived.Test.YtfioncakgjpmaaaTagF
set_option linter.unusedSimpArgs false
set_option linter.unusedVariables false
open Go Go.RowKit Go.Proofs
namespace Tym
set_option maxRecDepth 20000

def cellsA (a : Att) : List Value := [.string (mk a.1), .string (mk a.2)]
def flat (l : List Att) : List Value := l.flatMap cellsA
theorem flat_len (l : List Att) : (flat l).length = l.length * 2 := by
  induction l with
  | nil => rfl
  | cons a l ih => unfold flat at *; rw [List.flatMap_cons, List.length_append, ih, List.length_cons]; simp [cellsA]; omega
theorem flat_append (l m : List Att) : flat (l ++ m) = flat l ++ flat m := List.flatMap_append
theorem flat_get (l : List Att) : ∀ j (h : j < l.length), (flat l)[j * 2]? = some (.string (mk (l[j]'h).1)) ∧ (flat l)[j * 2 + 1]? = some (.string (mk (l[j]'h).2)) := by
  induction l with
  | nil => intro j h; simp at h
  | cons a l ih =>
    intro j h
    cases j with
    | zero => exact ⟨rfl, rfl⟩
    | succ j =>
      have := ih j (by simpa using h)
      have e : flat (a :: l) = .string (mk a.1) :: .string (mk a.2) :: flat l := rfl
      rw [e, show (j + 1) * 2 = j * 2 + 1 + 1 from by omega]
      simp only [List.getElem?_cons_succ, List.getElem_cons_succ]
      exact this

/-- A slice that reads as a list of attributes. -/
def AttsAt (w : World) (B : Nat) (v : Value) (l : List Att) : Prop :=
  (v = .slice none 0 0 ∧ l = []) ∨ ∃ g cap cur, v = .slice (some ⟨g, 0, none⟩) l.length cap ∧ B ≤ g ∧ w.heap[g]? = some (.cells cur 35 (0, 0)) ∧ l.length ≤ cap ∧ cap ≤ maxLen ∧ cur.toList.take (l.length * 2) = flat l

theorem AttsAt.own {w : World} {B : Nat} {v : Value} {l : List Att} (h : w.ownsRow B 35 2 v l.length (flat l)) : AttsAt w B v l := by
  rcases h.2 with ⟨rfl, hn⟩ | ⟨g, cap, cur, rfl, hb, hg, hl, hc, _, ht⟩
  · exact .inl ⟨rfl, List.eq_nil_of_length_eq_zero hn⟩
  · exact .inr ⟨g, cap, cur, rfl, hb, hg, hl, hc, ht⟩

theorem AttsAt.grown {w w' : World} {B : Nat} {v : Value} {l : List Att} (h : AttsAt w B v l) {r : Option Nat} (hg : w.grownBy w' r) (hr : ∀ g, v.ownBlock = some g → some g ≠ r) : AttsAt w' B v l := by
  rcases h with h | ⟨g, cap, cur, rfl, hb, hgg, rest⟩
  · exact .inl h
  · exact .inr ⟨g, cap, cur, rfl, hb, grown_block hg hgg (hr g rfl), rest⟩
theorem AttsAt.below {w w' : World} {B : Nat} {v : Value} {l : List Att} (h : AttsAt w B v l) (hb : Below w.heap.size w w') : AttsAt w' B v l :=
  h.grown (grown_below hb none) (fun _ _ => by simp)
theorem AttsAt.mono {w : World} {B B' : Nat} {v : Value} {l : List Att} (h : AttsAt w B v l) (hb : B' ≤ B) : AttsAt w B' v l := by
  rcases h with h | ⟨g, cap, cur, rfl, hb', rest⟩
  · exact .inl h
  · exact .inr ⟨g, cap, cur, rfl, by omega, rest⟩

/-- The two cells of an attribute. -/
theorem atts_cells {w : World} {g : Nat} {cur : Array Value} {t : TypeId} {l : List Att} (hg : w.heap[g]? = some (.cells cur t (0, 0))) (ht : cur.toList.take (l.length * 2) = flat l) (j : Nat) (hj : j < l.length) :
    w.cell? ⟨g, j * 2, none⟩ = some (.string (mk (l[j]'hj).1)) ∧ w.cell? ⟨g, j * 2 + 1, none⟩ = some (.string (mk (l[j]'hj).2)) := by
  obtain ⟨h1, h2⟩ := flat_get l j hj
  rw [← ht, List.getElem?_take_of_lt (by omega)] at h1
  rw [← ht, List.getElem?_take_of_lt (by omega)] at h2
  exact ⟨by rw [cell_of_row w g _ cur t _ hg]; simpa using h1, by rw [cell_of_row w g _ cur t _ hg]; simpa using h2⟩

theorem sameName_any (a n : Bs × Bs) (b : Nat) (w : World) (hb : w.heap[b]? = some (.cells #[.string (mk n.1), .string (mk n.2)] 35 (0, 0))) :
    Calls Try.prog 26 #[.agg #[.string (mk a.1), .string (mk a.2)], .pointer (some ⟨b, 0, none⟩)] w fun e w' => e = .returned (.bool (a.1 == n.1)) ∧ Below w.heap.size w w' := by
  have c0 := two_cell0 hb
  have hlt := lt_of_block hb
  have hq : ((mk a.1).toList == (mk n.1).toList) = (a.1 == n.1) := by rw [toList_beq, bs_mk, bs_mk]
  generalize hx : (a.1 == n.1) = x at *
  go_enter Try.func26, Try.ntmps26
  go_wp2_with fail
  go_ret
  exact ⟨rfl, (Below.refl _ _).alloc (Nat.le_refl _) _⟩

theorem indexOf_any (l : List Att) (n : Att) (q : Bool) (hq : Hid ((l.any fun x => x.1 == n.1) = q)) (g b cap : Nat) (cur : Array Value) (w : World) (hlen : l.length ≤ 1000000) (hcap : l.length ≤ cap) (hg : w.heap[g]? = some (.cells cur 35 (0, 0))) (ht : cur.toList.take (l.length * 2) = flat l)
    (hb : w.heap[b]? = some (.cells #[.string (mk n.1), .string (mk n.2)] 35 (0, 0))) :
    Calls Try.prog 39 #[.slice (some ⟨g, 0, none⟩) l.length cap, .func (.func 26) #[] #[.pointer (some ⟨b, 0, none⟩)]] w fun e w' => (∃ k : Int, e = .returned (.int .i64 k) ∧ (0 ≤ k ↔ q = true)) ∧ Below w.heap.size w w' := by
  go_enter Try.func39, Try.ntmps39
  go_wp2_with fail
  go_loopw [8] (fun v8 wr => ∃ j : Nat, j ≤ l.length ∧ v8 = .int .i64 j ∧ Hid (((l.drop j).any fun x => x.1 == n.1) = q) ∧ Below w.heap.size w wr) (fun v8 _ => l.length - (intOf v8).toNat)
  case atStart => exact ⟨0, Nat.zero_le _, rfl, hq, Below.refl _ _⟩
  case round =>
    obtain ⟨j, hj, rfl, HA, hbl⟩ := hrel
    by_cases hlt : j < l.length
    · obtain ⟨x0, x1⟩ := atts_cells (below_block hbl hg) ht j hlt
      have hd : l.drop j = (l[j]'hlt) :: l.drop (j + 1) := List.drop_eq_getElem_cons hlt
      have HC : Hid (Calls Try.prog 26 #[.agg #[.string (mk (l[j]'hlt).1), .string (mk (l[j]'hlt).2)], .pointer (some ⟨b, 0, none⟩)] wr fun e w' => e = .returned (.bool ((l[j]'hlt).1 == n.1)) ∧ Below wr.heap.size wr w') := sameName_any _ n b wr (below_block hbl hb)
      have HA2 := HA.out
      rw [hd, List.any_cons] at HA2
      have HA := Lib.hid HA2
      clear HA2 hd hb
      generalize hx : ((l[j]'hlt).1 == n.1) = x at *
      cases x with
      | true =>
        go_wp2_with fail
        refine HC.out.mono ?_; rintro e w2 ⟨rfl, hB2⟩
        go_wp2_with fail
        go_ret
        refine ⟨⟨_, rfl, ?_⟩, below_then hbl hB2⟩
        have := HA.out
        rw [Bool.true_or] at this
        exact ⟨fun _ => this.symm, fun _ => by omega⟩
      | false =>
        go_wp2_with fail
        refine HC.out.mono ?_; rintro e w2 ⟨rfl, hB2⟩
        go_wp2_with fail
        go_roundw
        case rel => exact ⟨j + 1, by omega, by go_num, by have := HA.out; rwa [Bool.false_or] at this, below_then hbl hB2⟩
        case measure => simp [intOf]; omega
    · have hz : ¬ (j : Int) < (l.length : Int) := by omega
      have HA2 := HA.out
      rw [List.drop_eq_nil_of_le (by omega), List.any_nil] at HA2
      have HA := Lib.hid HA2
      clear HA2
      go_wp2_with fail
      go_ret
      refine ⟨⟨_, rfl, ?_⟩, hbl⟩
      have := HA.out
      exact ⟨fun h => by omega, fun h => by rw [← this] at h; cases h⟩

theorem indexOf_nil (n : Att) (b : Nat) (w : World) :
    Calls Try.prog 39 #[.slice none 0 0, .func (.func 26) #[] #[.pointer (some ⟨b, 0, none⟩)]] w fun e w' => e = .returned (.int .i64 (-1)) ∧ Below w.heap.size w w' := by
  go_enter Try.func39, Try.ntmps39
  go_wp2_with fail
  go_loopw [8] (fun v8 wr => v8 = .int .i64 0 ∧ wr = w) (fun v8 _ => 0)
  case atStart => exact ⟨rfl, rfl⟩
  case round =>
    obtain ⟨rfl, rfl⟩ := hrel
    go_wp2_with fail
    go_ret
    exact ⟨rfl, Below.refl _ _⟩

theorem index_atts (B : Nat) (l : List Att) (n : Att) (q : Bool) (hq : (l.any fun x => x.1 == n.1) = q) (v : Value) (b : Nat) (w : World) (hlen : l.length ≤ 1000000) (h : AttsAt w B v l) (hb : w.heap[b]? = some (.cells #[.string (mk n.1), .string (mk n.2)] 35 (0, 0))) :
    Calls Try.prog 39 #[v, .func (.func 26) #[] #[.pointer (some ⟨b, 0, none⟩)]] w fun e w' => (∃ k : Int, e = .returned (.int .i64 k) ∧ (0 ≤ k ↔ q = true)) ∧ Below w.heap.size w w' := by
  rcases h with ⟨rfl, rfl⟩ | ⟨g, cap, cur, rfl, _, hg, hl, _, ht⟩
  · exact (indexOf_nil n b w).mono fun _ _ h => ⟨⟨_, h.1, by rw [← hq]; simp⟩, h.2⟩
  · exact indexOf_any l n q hq g b cap cur w hlen hl hg ht hb

theorem contains_atts (B : Nat) (l : List Att) (n : Att) (v : Value) (b : Nat) (w : World) (hlen : l.length ≤ 1000000) (h : AttsAt w B v l) (hb : w.heap[b]? = some (.cells #[.string (mk n.1), .string (mk n.2)] 35 (0, 0))) :
    Calls Try.prog 25 #[v, .func (.func 26) #[] #[.pointer (some ⟨b, 0, none⟩)]] w fun e w' => e = .returned (.bool (l.any fun x => x.1 == n.1)) ∧ Below w.heap.size w w' := by
  generalize hq : (l.any fun x => x.1 == n.1) = q
  have HI := Lib.hid (index_atts B l n q hq v b w hlen h hb)
  clear hq
  clear h hb
  go_enter Try.func25, Try.ntmps25
  go_wp2_with fail
  refine HI.out.mono ?_; rintro e w1 ⟨⟨k, rfl, hk⟩, hB1⟩
  go_wp2_with fail
  go_ret
  refine ⟨ret_bool ?_, hB1⟩
  rw [Bool.eq_iff_iff, ← hk]

theorem clip_atts (B : Nat) (l : List Att) (v : Value) (w : World) (hlen : l.length ≤ 1000000) (h : AttsAt w B v l) :
    Calls Try.prog 27 #[v] w fun e w' => (∃ v', e = .returned v' ∧ AttsAt w' B v' l ∧ v'.ownBlock = v.ownBlock) ∧ w = w' := by
  rcases h with ⟨rfl, rfl⟩ | ⟨g, cap, cur, rfl, hB, hg, hl, hc, ht⟩
  · go_enter Try.func27, Try.ntmps27
    go_wp2_with fail
    go_ret
    exact ⟨⟨_, rfl, .inl ⟨rfl, rfl⟩, rfl⟩, rfl⟩
  · go_enter Try.func27, Try.ntmps27
    go_wp2_with fail
    go_ret
    exact ⟨⟨_, rfl, .inr ⟨g, l.length, cur, rfl, hB, hg, Nat.le_refl _, by simp only [maxLen]; omega, ht⟩, rfl⟩, rfl⟩
end Tym
