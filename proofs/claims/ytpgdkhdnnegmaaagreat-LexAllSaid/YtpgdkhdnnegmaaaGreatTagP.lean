/- What the reference's Read hands back; tokens alike. -/
import Derived.Test.YtpgdkhdnnegmaaaGreatTagO
set_option linter.unusedSimpArgs false
set_option linter.unusedVariables false
open Go Go.RowKit Go.Proofs
namespace Tym
set_option maxRecDepth 20000

theorem readR_in (s : ByteArray) (k : Nat) (w : World) (hs : s.size ≤ 1000000) (hk : k < s.size) : Calls Tryz.prog 24 #[.string s, .int .i64 k] w (TagPost w (tagAt s.size k ((bs s).drop k))) := by
  have hB := fun w => beginsR_in s k w hs hk
  cases hb : beginsTag ((bs s).drop k) with
  | false =>
    rw [hb] at hB
    refine (readR_not s k w hB).mono ?_
    rintro e w' ⟨rfl, h⟩
    unfold tagAt
    rw [hb]
    exact ⟨⟨_, rfl, tokval_none _ _⟩, h⟩
  | true =>
    rw [hb] at hB
    obtain ⟨t, ht, hh⟩ := begins_cons _ hb
    obtain ⟨_, hc, ht1⟩ := drop_cons_get s k 60 t ht
    rcases hh with ⟨h1, d, u, rfl, hd⟩ | ⟨h1, d, u, rfl, hd⟩
    · obtain ⟨hk1, hc1, ht2⟩ := drop_cons_get s (k + 1) 47 (d :: u) ht1
      have hsd := skip_drop namedB s (k + 2)
      rw [show k + 2 = k + 1 + 1 from rfl, ht2] at hsd
      have hst := skip_text namedB s (k + 2)
      rw [show k + 2 = k + 1 + 1 from rfl, ht2] at hst
      refine (readR_walk3 s k w hs hk1 3 (k + 2) ⟨rfl, rfl, hc1⟩ hB _ _ rfl rfl _ rfl).mono ?_
      intro e w' h
      rw [show k + 2 = k + 1 + 1 from rfl, hsd, ← hst, bs_mk] at h
      refine read_post s k 3 _ w _ e w' _ hb ?_ h
      rw [ht]
      unfold readTag
      rw [if_pos (by rw [← ht]; exact hb), if_pos (by rfl)]
      simp only [List.tail_cons]
      cases tagL [] (List.dropWhile namedB (d :: u)) with
      | none => rfl
      | some p => rfl
    · obtain ⟨hk1, hc1, ht2⟩ := drop_cons_get s (k + 1) d u ht1
      have hsd := skip_drop namedB s (k + 1)
      rw [ht1] at hsd
      have hst := skip_text namedB s (k + 1)
      rw [ht1] at hst
      refine (readR_walk2 s k w hs hk1 2 (k + 1) ⟨rfl, rfl, by rw [hc1]; intro h; apply h1; rw [h]; rfl⟩ hB _ _ rfl rfl _ rfl).mono ?_
      intro e w' h
      rw [hsd, ← hst, bs_mk] at h
      refine read_post s k 2 _ w _ e w' _ hb ?_ h
      rw [ht]
      unfold readTag
      rw [if_pos (by rw [← ht]; exact hb), if_neg (by exact h1)]
      simp only [List.tail_cons]
      cases tagL [] (List.dropWhile namedB (d :: u)) with
      | none => rfl
      | some p => rfl

theorem readR_any (s : ByteArray) (i : Int) (w : World) (hs : s.size ≤ 1000000) : Calls Tryz.prog 24 #[.string s, .int .i64 i] w (TagPost w (tagRead s i)) := by
  unfold tagRead
  by_cases h : i < 0 ∨ (s.size : Int) ≤ i
  · rw [if_pos h]
    refine (readR_not s i w fun w => beginsR_out s i w hs (by omega)).mono ?_
    rintro e w' ⟨rfl, hb⟩
    exact ⟨⟨_, rfl, tokval_none _ _⟩, hb⟩
  · rw [if_neg h]
    obtain ⟨k, rfl⟩ : ∃ k : Nat, i = k := ⟨i.toNat, by omega⟩
    rw [Int.toNat_natCast]
    exact readR_in s k w hs (by omega)

theorem sameAtts_nil (w : World) : Calls Tryz.prog 19 #[.slice none 0 0, .slice none 0 0] w fun e w' => e = .returned (.bool true) ∧ Below w.heap.size w w' := by
  go_enter Tryz.func19, Tryz.ntmps19
  go_wp2_with fail
  go_loopw [5] (fun v5 wr => v5 = .int .i64 0 ∧ wr = w) (fun _ _ => 0)
  case atStart => exact ⟨rfl, rfl⟩
  case round =>
    obtain ⟨rfl, rfl⟩ := hrel
    go_wp2_with fail
    go_ret
    exact ⟨rfl, Below.refl _ _⟩

theorem sameAtts_cons (l : List Att) (n : Nat) (hn : l.length = n) (hlen : n ≤ 1000000) (g1 c1 g2 c2 : Nat) (cur1 cur2 : Array Value) (w : World) (h1 : n ≤ c1) (h2 : n ≤ c2) (hg1 : w.heap[g1]? = some (.cells cur1 59 (0, 0))) (hg2 : w.heap[g2]? = some (.cells cur2 59 (0, 0)))
    (ht1 : cur1.toList.take (l.length * 2) = flat l) (ht2 : cur2.toList.take (l.length * 2) = flat l) : Calls Tryz.prog 19 #[.slice (some ⟨g1, 0, none⟩) n c1, .slice (some ⟨g2, 0, none⟩) n c2] w fun e w' => e = .returned (.bool true) ∧ Below w.heap.size w w' := by
  go_enter Tryz.func19, Tryz.ntmps19
  go_wp2_with fail
  go_loopw [5] (fun v5 wr => ∃ j : Nat, v5 = .int .i64 j ∧ j ≤ n ∧ Below w.heap.size w wr) (fun v5 _ => n - (intOf v5).toNat)
  case atStart => exact ⟨0, rfl, Nat.zero_le _, Below.refl _ _⟩
  case round =>
    obtain ⟨j, rfl, hj, hbl⟩ := hrel
    by_cases hlt : j < n
    · have hltz : (j : Int) < (n : Int) := by omega
      obtain ⟨x0, x1⟩ := atts_cells (below_block hbl hg1) ht1 j (by omega)
      obtain ⟨y0, y1⟩ := atts_cells (below_block hbl hg2) ht2 j (by omega)
      generalize mk (l[j]'(by omega)).1 = a at *
      generalize mk (l[j]'(by omega)).2 = b at *
      go_wp2_with fail
      go_quiet (fail)
      go_wp2_with fail
      go_roundw
      case rel => exact ⟨j + 1, by go_num, by omega, below_drewN hbl _⟩
      case measure => simp [intOf]; omega
    · have hltz : ¬ (j : Int) < (n : Int) := by omega
      go_wp2_with fail
      go_ret
      exact ⟨rfl, hbl⟩
theorem sameAtts_any (l : List Att) (B1 B2 : Nat) (v1 v2 : Value) (w : World) (hlen : l.length ≤ 1000000) (h1 : AttsAt w B1 v1 l) (h2 : AttsAt w B2 v2 l) : Calls Tryz.prog 19 #[v1, v2] w fun e w' => e = .returned (.bool true) ∧ Below w.heap.size w w' := by
  rcases h1 with ⟨rfl, rfl⟩ | ⟨g1, c1, cur1, rfl, _, hg1, hl1, _, ht1⟩
  · rcases h2 with ⟨rfl, _⟩ | ⟨g2, c2, cur2, rfl, _, hg2, hl2, _, ht2⟩
    · exact sameAtts_nil w
    · go_enter Tryz.func19, Tryz.ntmps19
      go_wp2_with fail
      go_loopw [5] (fun v5 wr => v5 = .int .i64 0 ∧ wr = w) (fun _ _ => 0)
      case atStart => exact ⟨rfl, rfl⟩
      case round =>
        obtain ⟨rfl, rfl⟩ := hrel
        go_wp2_with fail
        go_ret
        exact ⟨rfl, Below.refl _ _⟩
  · rcases h2 with ⟨rfl, rfl⟩ | ⟨g2, c2, cur2, rfl, _, hg2, hl2, _, ht2⟩
    · go_enter Tryz.func19, Tryz.ntmps19
      go_wp2_with fail
      go_loopw [5] (fun v5 wr => v5 = .int .i64 0 ∧ wr = w) (fun _ _ => 0)
      case atStart => exact ⟨rfl, rfl⟩
      case round =>
        obtain ⟨rfl, rfl⟩ := hrel
        go_wp2_with fail
        go_ret
        exact ⟨rfl, Below.refl _ _⟩
    · exact sameAtts_cons l _ rfl hlen g1 c1 g2 c2 cur1 cur2 w hl1 hl2 hg1 hg2 ht1 ht2

theorem sameTok_any (t : Tok) (B1 B2 : Nat) (v1 v2 : Value) (w : World) (hlen : t.atts.length ≤ 1000000) (h1 : TokVal w B1 t v1) (h2 : TokVal w B2 t v2) : Calls Tryz.prog 9 #[v1, v2] w fun e w' => e = .returned (.bool true) ∧ Below w.heap.size w w' := by
  obtain ⟨x1, rfl, hx1⟩ := h1
  obtain ⟨x2, rfl, hx2⟩ := h2
  obtain ⟨p1, n1, c1, rfl⟩ := hx1.shape
  obtain ⟨p2, n2, c2, rfl⟩ := hx2.shape
  have HS : Hid (∀ w', Below w.heap.size w w' → Calls Tryz.prog 19 #[.slice p1 n1 c1, .slice p2 n2 c2] w' fun e w'' => e = .returned (.bool true) ∧ Below w'.heap.size w' w'') := fun w' hb => sameAtts_any t.atts B1 B2 _ _ w' hlen (hx1.below hb) (hx2.below hb)
  clear hx1 hx2 hlen
  generalize mk t.name = nm at *
  generalize mk t.text = tx at *
  generalize (t.kind : Int) = kd at *
  generalize t.closing = cl at *
  go_enter Tryz.func9, Tryz.ntmps9
  go_wp2_with fail
  refine (HS.out _ (two_below w _ _)).mono ?_; rintro e w1 ⟨rfl, hb1⟩
  go_wp2_with fail
  go_ret
  exact ⟨rfl, (two_below w _ _).trans (hb1.mono (two_below w _ _).size)⟩
end Tym
