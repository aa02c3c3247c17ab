/- SameTokens; the law LexAll. -/
import Derived.Test.YtpgdkhdnnegmaaaGreatLexO
import Derived.Test.YtpgdkhdnnegmaaaGreatLexJb
import Derived.StillTailTactics
set_option linter.unusedSimpArgs false
set_option linter.unusedVariables false
open Go Go.RowKit Go.Proofs
namespace Tym
set_option maxRecDepth 20000

theorem ToksVal.lens {W : World} {B : Nat} : ∀ {l : List Tok} {cs : List (List Value)}, ToksVal W B l cs → ∀ c ∈ cs, c.length = 5
  | [], [], _, _, hc => by cases hc
  | _ :: _, _ :: _, h, c, hc => by
    rcases List.mem_cons.1 hc with rfl | hc
    · exact h.1
    · exact h.2.2.lens c hc
  | [], _ :: _, h, _, _ => h.elim
  | _ :: _, [], h, _, _ => h.elim
theorem ToksVal.get {W : World} {B : Nat} : ∀ {l : List Tok} {cs : List (List Value)}, ToksVal W B l cs → ∀ (j : Nat) (hj : j < l.length), ∃ c : List Value, (∀ i, i < 5 → (flatV cs)[j * 5 + i]? = c[i]?) ∧ TokVal W B (l[j]'hj) (.agg c.toArray)
  | [], [], _, j, hj => by simp at hj
  | t :: l, c :: cs, h, j, hj => by
    have hf : flatV (c :: cs) = c ++ flatV cs := by simp [flatV]
    cases j with
    | zero =>
      refine ⟨c, fun i hi => ?_, h.2.1⟩
      rw [hf, Nat.zero_mul, Nat.zero_add, List.getElem?_append_left (by rw [h.1]; exact hi)]
    | succ j =>
      obtain ⟨c', h1, h2⟩ := h.2.2.get j (by simpa using hj)
      refine ⟨c', fun i hi => ?_, h2⟩
      rw [hf, List.getElem?_append_right (by rw [h.1]; omega), h.1, show (j + 1) * 5 + i - 5 = j * 5 + i from by omega]
      exact h1 i hi
  | [], _ :: _, h, _, _ => h.elim
  | _ :: _, [], h, _, _ => h.elim

theorem toks_cells {W : World} {B g : Nat} {cur : Array Value} {l : List Tok} {vals : List (List Value)} (hg : W.heap[g]? = some (.cells cur 29 (0, 0))) (hx : cur.toList.take (l.length * 5) = flatV vals) (ht : ToksVal W B l vals) (j : Nat) (hj : j < l.length) :
    ∃ p n cc, W.cell? ⟨g, j * 5, none⟩ = some (.int .u8 (l[j]'hj).kind) ∧ W.cell? ⟨g, j * 5 + 1, none⟩ = some (.string (mk (l[j]'hj).name)) ∧ W.cell? ⟨g, j * 5 + 2, none⟩ = some (.slice p n cc) ∧ W.cell? ⟨g, j * 5 + 3, none⟩ = some (.bool (l[j]'hj).closing) ∧ W.cell? ⟨g, j * 5 + 4, none⟩ = some (.string (mk (l[j]'hj).text)) ∧
      TokVal W B (l[j]'hj) (.agg (TokC (l[j]'hj) p n cc)) := by
  obtain ⟨c, h1, h2⟩ := ht.get j hj
  obtain ⟨p, n, cc, rfl, ha⟩ := tok_form h2
  refine ⟨p, n, cc, ?_, ?_, ?_, ?_, ?_, ⟨_, rfl, ha⟩⟩
  · exact own_cell hg hx _ _ (h1 0 (by decide))
  · exact own_cell hg hx _ _ (h1 1 (by decide))
  · exact own_cell hg hx _ _ (h1 2 (by decide))
  · exact own_cell hg hx _ _ (h1 3 (by decide))
  · exact own_cell hg hx _ _ (h1 4 (by decide))

theorem sameToks_none (p1 p2 : Option Addr) (c1 c2 : Nat) (w : World) : Calls Tryz.prog 5 #[.slice p1 0 c1, .slice p2 0 c2] w fun e w' => e = .returned (.bool true) ∧ Below w.heap.size w w' := by
  go_enter Tryz.func5, Tryz.ntmps5
  go_wp2_with fail
  go_loopw [5] (fun v5 wr => v5 = .int .i64 0 ∧ wr = w) (fun _ _ => 0)
  case atStart => exact ⟨rfl, rfl⟩
  case round =>
    obtain ⟨rfl, rfl⟩ := hrel
    go_wp2_with fail
    go_ret
    exact ⟨rfl, Below.refl _ _⟩

theorem drew_below (W : World) : Below W.heap.size W W.drew := ⟨rfl, rfl, rfl, Nat.le_refl _, fun _ _ => rfl⟩

set_option maxHeartbeats 2000000 in
theorem sameToks_some (l : List Tok) (n : Nat) (hn : l.length = n) (hlen : n ≤ 1000000) (hatt : ∀ t ∈ l, t.atts.length ≤ 1000000) (B1 B2 g1 c1 g2 c2 : Nat) (cur1 cur2 : Array Value) (vals1 vals2 : List (List Value)) (w : World) (h1 : n ≤ c1) (h2 : n ≤ c2) (hg1 : w.heap[g1]? = some (.cells cur1 29 (0, 0))) (hg2 : w.heap[g2]? = some (.cells cur2 29 (0, 0)))
    (hx1 : cur1.toList.take (l.length * 5) = flatV vals1) (hx2 : cur2.toList.take (l.length * 5) = flatV vals2) (ht1 : ToksVal w B1 l vals1) (ht2 : ToksVal w B2 l vals2) : Calls Tryz.prog 5 #[.slice (some ⟨g1, 0, none⟩) n c1, .slice (some ⟨g2, 0, none⟩) n c2] w fun e w' => e = .returned (.bool true) ∧ Below w.heap.size w w' := by
  go_enter Tryz.func5, Tryz.ntmps5
  go_wp2_with fail
  go_loopw [5] (fun v5 wr => ∃ j : Nat, v5 = .int .i64 j ∧ j ≤ n ∧ Below w.heap.size w wr) (fun v5 _ => n - (intOf v5).toNat)
  case atStart => exact ⟨0, rfl, Nat.zero_le _, Below.refl _ _⟩
  case round =>
    obtain ⟨j, rfl, hj, hbl⟩ := hrel
    by_cases hlt : j < n
    · have hltz : (j : Int) < (n : Int) := by omega
      have hjl : j < l.length := by omega
      obtain ⟨p1, n1, k1, x0, x1, x2, x3, x4, hv1⟩ := toks_cells (below_block hbl hg1) hx1 (ht1.below hbl) j hjl
      obtain ⟨p2, n2, k2, y0, y1, y2, y3, y4, hv2⟩ := toks_cells (below_block hbl hg2) hx2 (ht2.below hbl) j hjl
      have hm := hatt _ (List.getElem_mem hjl)
      have hd := drew_below wr
      generalize l[j]'hjl = t at *
      have HS : Hid (Calls Tryz.prog 9 #[.agg (TokC t p1 n1 k1), .agg (TokC t p2 n2 k2)] wr.drew fun e w' => e = .returned (.bool true) ∧ Below wr.drew.heap.size wr.drew w') := sameTok_any t B1 B2 _ _ wr.drew hm (hv1.below hd) (hv2.below hd)
      clear hv1 hv2 hm hjl
      go_wp2_with fail
      go_still_tail 8, (by kernel_rfl)
      change wpList _ _ _ _ _ wr.drew
      generalize wr.drew = w2 at *
      go_wp2_with fail
      refine HS.out.mono ?_; rintro e w3 ⟨rfl, hB3⟩
      go_wp2_with fail
      go_roundw
      case rel => exact ⟨j + 1, by go_num, by omega, hbl.trans ((hd.mono hbl.size).trans (hB3.mono (Nat.le_trans hbl.size hd.size)))⟩
      case measure => simp [intOf]; omega
    · have hltz : ¬ (j : Int) < (n : Int) := by omega
      go_wp2_with fail
      go_ret
      exact ⟨rfl, hbl⟩
theorem sameToks_any (l : List Tok) (hlen : l.length ≤ 1000000) (hatt : ∀ t ∈ l, t.atts.length ≤ 1000000) (B1 B2 : Nat) (v1 v2 : Value) (w : World) (h1 : ToksAt w B1 v1 l) (h2 : ToksAt w B2 v2 l) : Calls Tryz.prog 5 #[v1, v2] w fun e w' => e = .returned (.bool true) ∧ Below w.heap.size w w' := by
  by_cases h0 : l = []
  · subst h0
    obtain ⟨p1, c1, rfl⟩ := h1.shape
    obtain ⟨p2, c2, rfl⟩ := h2.shape
    exact sameToks_none p1 p2 c1 c2 w
  · have hp := List.length_pos_iff.2 h0
    obtain ⟨vals1, ho1, ht1⟩ := h1
    obtain ⟨vals2, ho2, ht2⟩ := h2
    rcases ho1.2 with ⟨_, hn⟩ | ⟨g1, c1, cur1, rfl, _, hg1, hl1, _, _, hx1⟩
    · omega
    · rcases ho2.2 with ⟨_, hn⟩ | ⟨g2, c2, cur2, rfl, _, hg2, hl2, _, _, hx2⟩
      · omega
      · exact sameToks_some l _ rfl hlen hatt B1 B2 g1 c1 g2 c2 cur1 cur2 vals1 vals2 w hl1 hl2 hg1 hg2 hx1 hx2 ht1 ht2

theorem allL_atts : ∀ n (r : Bs), r.length ≤ n → ∀ t ∈ allL r, t.atts.length ≤ r.length := by
  intro n
  induction n with
  | zero => intro r h t ht; rw [List.eq_nil_of_length_eq_zero (by omega : r.length = 0)] at ht; exact absurd ht (by unfold allL; simp [allF])
  | succ n ih =>
    intro r h t ht
    by_cases hk : (nextD r).1.kind = 6
    · rw [allL_last r hk] at ht; cases ht
    · rw [allL_more r hk] at ht
      have hl := nextD_lt r hk
      rcases List.mem_cons.1 ht with rfl | ht
      · exact (nextL_bounds 0 [] false _ r (Nat.le_refl _)).1
      · have := ih _ (by omega) t ht; omega
theorem ToksAt.below {W W' : World} {B : Nat} {v : Value} {l : List Tok} (h : ToksAt W B v l) (hb : Below W.heap.size W W') : ToksAt W' B v l := by
  obtain ⟨vals, ho, ht⟩ := h
  exact ⟨vals, own_below ho hb, ht.below hb⟩

theorem law_lexall (s : ByteArray) (w : World) (hm : Mx w) : Calls Tryz.prog 3 #[.string s] w fun e w' => e = .returned (.bool true) ∧ Below w.heap.size w w' := by
  have HM := Lib.hid hm
  clear hm
  by_cases h1 : (2000 : Int) < (s.size : Int)
  · go_enter Tryz.func3, Tryz.ntmps3
    go_wp2_with fail
    go_ret
    exact ⟨rfl, Below.refl _ _⟩
  · have HA := Lib.hid (fun w hm => lexAll_any s w hm (by omega))
    have HB := Lib.hid (fun w => refAll_any s w (by omega))
    have hLen := allL_len _ (bs s) (Nat.le_refl _)
    have hAt := allL_atts _ (bs s) (Nat.le_refl _)
    rw [← size_bs] at hLen hAt
    have HS : Hid (∀ (B1 B2 : Nat) (v1 v2 : Value) (w : World), ToksAt w B1 v1 (allL (bs s)) → ToksAt w B2 v2 (allL (bs s)) → Calls Tryz.prog 5 #[v1, v2] w fun e w' => e = .returned (.bool true) ∧ Below w.heap.size w w') := fun B1 B2 v1 v2 w h1 h2 =>
      sameToks_any _ (by omega) (fun t ht => by have := hAt t ht; omega) B1 B2 v1 v2 w h1 h2
    clear hLen hAt
    generalize allL (bs s) = l at *
    go_enter Tryz.func3, Tryz.ntmps3
    go_wp2_with fail
    refine (lknown _ HM.out).mono ?_; rintro e w0 ⟨rfl, b0⟩
    go_wp2_with fail
    refine (HA.out _ (HM.out.below b0)).mono ?_; rintro e w1 ⟨⟨v1, rfl, hv1⟩, b1⟩
    go_wp2_with fail
    refine (HB.out _).mono ?_; rintro e w2 ⟨⟨v2, rfl, hv2⟩, b2⟩
    go_wp2_with fail
    refine (HS.out _ _ _ _ _ (hv1.below b2) hv2).mono ?_; rintro e w3 ⟨rfl, b3⟩
    go_wp2_with fail
    go_ret
    exact ⟨rfl, below_then (below_then (below_then b0 b1) b2) b3⟩
end Tym
