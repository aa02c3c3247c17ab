/- The law TagBack (under way). -/
import Derived.Test.YtfioncakgjpmaaaTagT
import Derived.Deep.RegionHeld3
import Derived.Deep.CutRange
set_option linter.unusedSimpArgs false
set_option linter.unusedVariables false
open Go Go.RowKit Go.Proofs
namespace Tym
set_option maxRecDepth 20000

/-- A slice of strings that came in. -/
def StrsAt (w : World) (p : Option Addr) (cap : Nat) (ss : List ByteArray) : Prop :=
  (p = none ∧ ss = []) ∨ ∃ b off, p = some ⟨b, off, none⟩ ∧ b < w.heap.size ∧ ss.length ≤ cap ∧ ∀ j (h : j < ss.length), w.cell? ⟨b, off + j, none⟩ = some (.string (ss[j]'h))

def sizes : List ByteArray → Nat
  | [] => 0
  | s :: l => min s.size 3000 + 1 + sizes l
theorem sizes_take (l : List ByteArray) : ∀ i (h : i < l.length), sizes (l.take (i + 1)) = sizes (l.take i) + (min (l[i]'h).size 3000 + 1) := by
  induction l with
  | nil => intro i h; simp at h
  | cons s l ih =>
    intro i h
    cases i with
    | zero => simp [sizes]
    | succ i =>
      have := ih i (by simpa using h)
      simp only [List.take_succ_cons, sizes, List.getElem_cons_succ]
      rw [this]; omega
theorem sizes_take_le (l : List ByteArray) : ∀ i, sizes (l.take i) ≤ sizes l := by
  induction l with
  | nil => intro i; simp [sizes]
  | cons a l ih =>
    intro i
    cases i with
    | zero => simp [sizes]
    | succ i => rw [List.take_succ_cons, sizes, sizes]; have := ih i; omega
theorem sizes_le (l : List ByteArray) (n : Nat) (hn : n ≤ 3000) (h : sizes l ≤ n) : ∀ s ∈ l, s.size ≤ 3000 := by
  induction l with
  | nil => intro s hs; cases hs
  | cons a l ih =>
    intro s hs
    rw [sizes] at h
    rcases List.mem_cons.1 hs with rfl | hs
    · omega
    · exact ih (by omega) s hs

def attText (v : Bs) (i : Nat) : Bs := 32 :: nameOf v i ++ [32, 61, 32] ++ (34 :: escq v ++ [34])
theorem attsText_snoc (v : Bs) : ∀ (l : List Bs) (k : Nat), attsText k (l ++ [v]) = attsText k l ++ attText v (k + l.length) := by
  intro l
  induction l with
  | nil => intro k; simp [attsText, attText]
  | cons a l ih =>
    intro k
    rw [List.cons_append, attsText, attsText, ih (k + 1)]
    simp only [List.append_assoc, List.length_cons]
    rw [show k + 1 + l.length = k + (l.length + 1) from by omega]
theorem text_step (ss : List ByteArray) (i : Nat) (h : i < ss.length) : attsText 0 ((ss.take (i + 1)).map bs) = attsText 0 ((ss.take i).map bs) ++ attText (bs (ss[i]'h)) i := by
  rw [List.take_succ_eq_append_getElem h, List.map_append]
  show attsText 0 ((ss.take i).map bs ++ [bs (ss[i]'h)]) = _
  rw [attsText_snoc, List.length_map, List.length_take, Nat.zero_add, Nat.min_eq_left (by omega)]
theorem escq_len (v : Bs) : (escq v).length ≤ 6 * v.length := by
  induction v with
  | nil => exact Nat.le_refl _
  | cons c v ih =>
    unfold escq at *
    rw [List.flatMap_cons, List.length_append, List.length_cons]
    have : (if c = 38 then [38, 97, 109, 112, 59] else if c = 34 then [38, 113, 117, 111, 116, 59] else [c] : Bs).length ≤ 6 := by
      split
      · decide
      · split
        · decide
        · simp
    omega
theorem nameOf_len (v : Bs) (i : Nat) : (nameOf v i).length ≤ 22 := by
  unfold nameOf
  have := List.length_filter_le isLower (v.take 20)
  rw [List.length_take] at this
  simp only [List.length_cons]; omega

theorem attsOf_len : ∀ (l : List Bs) (i : Nat), (attsOf i l).length = l.length
  | [], _ => rfl
  | _ :: l, i => by rw [attsOf, List.length_cons, List.length_cons, attsOf_len l]
theorem attsOf_get : ∀ (l : List Bs) (k i : Nat) (h : i < l.length) (hb : i < (attsOf k l).length), (attsOf k l)[i]'hb = (nameOf (l[i]'h) (k + i), l[i]'h) := by
  intro l
  induction l with
  | nil => intro k i h; simp at h
  | cons v l ih =>
    intro k i h hb
    cases i with
    | zero => rfl
    | succ i =>
      have := ih (k + 1) i (by simpa using h) (by rw [attsOf_len]; simpa using h)
      simp only [attsOf, List.getElem_cons_succ]
      rw [this, show k + 1 + i = k + (i + 1) from by omega]
theorem tag_written (X : ByteArray) (l : List Bs) (c : Bool) (more : Bs) (hX : bs X = tagText l c ++ more) (hl : l.length ≤ 676) :
    tagRead X 0 = (⟨2, [120, 121], attsOf 0 l, c, []⟩, ((tagText l c).length : Int), true) := by
  have hr := readTag_written l c more hl
  have hb : beginsTag (tagText l c ++ more) = true := by
    by_cases h : beginsTag (tagText l c ++ more) = true
    · exact h
    · unfold readTag at hr; rw [if_neg h] at hr; cases hr
  have hsz : X.size = (tagText l c).length + more.length := by rw [size_bs, hX, List.length_append]
  have hpos : 0 < (tagText l c).length := by simp [tagText]
  unfold tagRead
  rw [if_neg (by omega)]
  unfold tagAt
  rw [show (0 : Int).toNat = 0 from rfl, List.drop_zero, hX, if_pos hb, hr]
  simp only [tokOf]
  rw [hsz, Nat.add_sub_cancel]

theorem cells_below {w w' : World} {a b c d : Addr} {x y z u : Value} (hB : Below w.heap.size w w') (h : w.cell? a = some x ∧ w.cell? b = some y ∧ w.cell? c = some z ∧ w.cell? d = some u) :
    w'.cell? a = some x ∧ w'.cell? b = some y ∧ w'.cell? c = some z ∧ w'.cell? d = some u :=
  ⟨(hB.cell (World.block_lt_of_cell? _ _ h.1)).trans h.1, (hB.cell (World.block_lt_of_cell? _ _ h.2.1)).trans h.2.1, (hB.cell (World.block_lt_of_cell? _ _ h.2.2.1)).trans h.2.2.1, (hB.cell (World.block_lt_of_cell? _ _ h.2.2.2)).trans h.2.2.2⟩

theorem read_written (X : ByteArray) (l : List Bs) (c : Bool) (more : Bs) (N : Nat) (hX : bs X = tagText l c ++ more) (hl : l.length ≤ 676) (hs : X.size ≤ 1000000) (hN : (tagText l c).length = N) (w : World) :
    Calls Try.prog 8 #[.string X, .int .i64 0] w fun e w' => (∃ p cc, e = .returned (.tuple #[.agg #[.int .u8 2, .string ⟨#[120, 121]⟩, .slice p l.length cc, .bool c, .string ⟨#[]⟩], .int .i64 N, .bool true]) ∧ AttsAt w' w.heap.size (.slice p l.length cc) (attsOf 0 l)) ∧ Below w.heap.size w w' := by
  refine (read_any X 0 w hs).mono ?_
  rintro e w' ⟨⟨v, rfl, hv⟩, hb⟩
  rw [tag_written X l c more hX hl, hN] at hv ⊢
  obtain ⟨p2, n2, c2, rfl, ha2⟩ := hv.cells
  have e2 := ha2.len
  simp only [attsOf_len] at e2
  subst e2
  exact ⟨⟨p2, c2, rfl, ha2⟩, hb⟩

set_option maxHeartbeats 2000000 in
theorem law_tagback (b off cap : Nat) (ss : List ByteArray) (closing : Bool) (more : ByteArray) (w : World) (hb : b < w.heap.size) (hcap : ss.length ≤ cap) (hlen : ss.length ≤ maxLen) (hmore : more.size ≤ maxLen)
    (hc : ∀ j (h : j < ss.length), w.cell? ⟨b, off + j, none⟩ = some (.string (ss[j]'h))) :
    Calls Try.prog 5 #[.slice (some ⟨b, off, none⟩) ss.length cap, .bool closing, .string more] w fun e w' => e = .returned (.bool true) ∧ Below w.heap.size w w' := by
  have HC := Lib.hid hc
  clear hc
  unfold maxLen at hlen hmore
  go_enter Try.func5, Try.ntmps5
  go_wp2_with fail
  go_loopw [7, 8] (fun v7 v8 wr => ∃ (n i : Nat), v7 = .int .i64 n ∧ v8 = .int .i64 i ∧ i ≤ ss.length ∧ Hid (n = more.size + sizes (ss.take i)) ∧ (n ≤ 6001 ∨ i = 0) ∧ wr = w) (fun _ v8 _ => ss.length - (intOf v8).toNat)
  case atStart => exact ⟨more.size, 0, rfl, rfl, Nat.zero_le _, by simp [sizes, Hid], .inr rfl, rfl⟩
  case round =>
    obtain ⟨n, i, rfl, rfl, hi, HN, hn6, hw⟩ := hrel
    obtain rfl : w = wr := hw.symm
    by_cases hlt : i < ss.length
    · have hltz : (i : Int) < (ss.length : Int) := by omega
      by_cases hn : n ≤ 3000
      · have hnz : (n : Int) ≤ 3000 := by omega
        have hci := HC.out i hlt
        have HS := Lib.hid (sizes_take ss i hlt)
        generalize hsi : ss[i]'hlt = s at *
        go_wp2_with fail
        go_roundw
        case rel => exact ⟨n + (min s.size 3000 + 1), i + 1, congrArg _ (by omega), by go_num, by omega, by show _ = _; have := HN.out; have := HS.out; omega, .inl (by omega), by first | rfl | trivial⟩
        case measure => simp [intOf]; omega
      · have hnz : ¬ (n : Int) ≤ 3000 := by omega
        have hnz2 : (3000 : Int) < (n : Int) := by omega
        go_wp2_with fail
        refine (tknown _).mono ?_; rintro e w1 ⟨rfl, b1⟩
        go_wp2_with fail
        go_ret
        exact ⟨rfl, b1⟩
    · obtain rfl : i = ss.length := by omega
      by_cases hn : n ≤ 3000
      · have hnz : ¬ (3000 : Int) < (n : Int) := by omega
        by_cases h60 : ss.length ≤ 60
        · have h60z : ¬ (60 : Int) < (ss.length : Int) := by omega
          have HN2 := HN.out
          rw [List.take_length] at HN2
          have hmo : more.size ≤ 3000 := by omega
          have HSz := Lib.hid (sizes_le ss n hn (by omega))
          have HTot : Hid (∀ i, sizes (ss.take i) ≤ 3000) := fun i => by have := sizes_take_le ss i; omega
          clear hlen hmore hn6 HN2 HN
          go_wp2_with fail
          refine (tknown _).mono ?_; rintro e w1 ⟨rfl, b1⟩
          go_wp2_with fail
          go_loopw [9, 10] (fun v9 v10 wr => ∃ (x : ByteArray) (i : Nat), v9 = .string x ∧ v10 = .int .i64 i ∧ i ≤ ss.length ∧ Hid (bs x = [60, 120, 121] ++ attsText 0 ((ss.take i).map bs)) ∧ x.size ≤ 3 + 28 * i + 6 * sizes (ss.take i) ∧ Below w.heap.size w wr) (fun _ v10 _ => ss.length - (intOf v10).toNat)
          case atStart => exact ⟨⟨#[60, 120, 121]⟩, 0, rfl, rfl, Nat.zero_le _, rfl, by show 3 ≤ _; omega, b1⟩
          case round =>
            obtain ⟨x, i, rfl, rfl, hi2, HX, hx, hbl⟩ := hrel
            by_cases hlt2 : i < ss.length
            · have hltz2 : (i : Int) < (ss.length : Int) := by omega
              have hci : wr.cell? ⟨b, off + i, none⟩ = some (.string (ss[i]'hlt2)) := (hbl.cell (by exact hb)).trans (HC.out i hlt2)
              have hbr : b < wr.heap.size := Nat.lt_of_lt_of_le hb hbl.size
              have hsz := HSz.out _ (List.getElem_mem hlt2)
              have HT := Lib.hid (text_step ss i hlt2)
              have HS := Lib.hid (sizes_take ss i hlt2)
              have HNm : Hid (∀ w, Calls Try.prog 14 #[.string (ss[i]'hlt2), .int .i64 i] w fun e w' => e = .returned (.string (mk (nameOf (bs (ss[i]'hlt2)) i))) ∧ Below w.heap.size w w') := fun w => name_any _ i w hsz (by omega)
              have HQu : Hid (∀ w, Calls Try.prog 15 #[.string (ss[i]'hlt2)] w fun e w' => e = .returned (.string (mk (34 :: escq (bs (ss[i]'hlt2)) ++ [34]))) ∧ Below w.heap.size w w') := fun w => quoted_any _ w hsz
              have hnl : (mk (nameOf (bs (ss[i]'hlt2)) i)).size ≤ 22 := by rw [size_mk]; exact nameOf_len _ _
              have hql : (mk (34 :: escq (bs (ss[i]'hlt2)) ++ [34])).size ≤ 2 + 6 * (ss[i]'hlt2).size := by
                rw [size_mk, List.length_append, List.length_cons, List.length_singleton]
                have := escq_len (bs (ss[i]'hlt2)); rw [← size_bs] at this; omega
              have HB1 := Lib.hid (bs_mk (nameOf (bs (ss[i]'hlt2)) i))
              have HB2 := Lib.hid (bs_mk (34 :: escq (bs (ss[i]'hlt2)) ++ [34]))
              generalize mk (nameOf (bs (ss[i]'hlt2)) i) = nmv at *
              generalize mk (34 :: escq (bs (ss[i]'hlt2)) ++ [34]) = quv at *
              generalize hsi : ss[i]'hlt2 = s at *
              have hstot : sizes (ss.take i) ≤ 3000 := by have := HTot.out i; omega
              have hz1 : ¬ (9223372036854775806 : Nat) < x.size := by omega
              have hz5 : ¬ (9223372036854775807 : Nat) < x.size + 1 := by omega
              have hz6 : ¬ (9223372036854775807 : Nat) < x.size + 1 + nmv.size + 3 := by omega
              have hz7 : ¬ (9223372036854775807 : Nat) ≤ x.size + 1 + nmv.size + 2 := by omega
              have hz2 : ¬ (9223372036854775807 : Nat) < x.size + 1 + nmv.size := by omega
              have hz3 : ¬ (9223372036854775804 : Nat) < x.size + 1 + nmv.size := by omega
              have hz4 : ¬ (9223372036854775807 : Nat) < x.size + 1 + nmv.size + 3 + quv.size := by omega
              go_wp2_with fail
              go_region_held3 (fun w' => w'.cell? ⟨b, off + i, none⟩ = some (.string s)) (first | assumption | (simp [*]; done)) (first | (go_at_call 14; (with_reducible refine (HNm.out _).mono ?_); rintro e w2 ⟨rfl, hB2⟩; have hk2 : w2.cell? ⟨b, off + i, none⟩ = some (.string s) := (hB2.cell (p := ⟨b, off + i, none⟩) (World.block_lt_of_cell? _ _ (by assumption))).trans (by assumption)) | (go_at_call 15; (with_reducible refine (HQu.out _).mono ?_); rintro e w3 ⟨rfl, hB3⟩; have hk3 : w3.cell? ⟨b, off + i, none⟩ = some (.string s) := (hB3.cell (p := ⟨b, off + i, none⟩) (World.block_lt_of_cell? _ _ (by assumption))).trans (by assumption)))
              all_goals
                go_wp2_with fail
                go_roundw
                case rel =>
                  refine ⟨_, i + 1, rfl, by go_num, by omega, ?_, ?_, ?_⟩
                  · show _ = _
                    rw [bs_append, bs_append, bs_append, bs_append, HX.out, HB1.out, HB2.out, HT.out]
                    show [60, 120, 121] ++ attsText 0 ((ss.take i).map bs) ++ [32] ++ _ ++ [32, 61, 32] ++ _ = _
                    simp [attText]
                  · have h1 := HS.out
                    simp only [ByteArray.size_append]
                    show x.size + 1 + nmv.size + 3 + quv.size ≤ _
                    omega
                  · exact below_then hbl (below_then (below_undrew hB2) hB3)
                case measure => simp [intOf]; omega
            · obtain rfl : i = ss.length := by omega
              have hltz2 : ¬ (ss.length : Int) < (ss.length : Int) := by omega
              have hxs : x.size ≤ 20000 := by have := HTot.out ss.length; omega
              have HX2 := HX.out
              rw [List.take_length] at HX2
              have HX := Lib.hid HX2
              clear HX2
              cases closing with
              | true =>
                have HA : Hid (∀ w, Calls Try.prog 8 #[.string (x ++ ⟨#[47]⟩ ++ ⟨#[62]⟩ ++ more), .int .i64 0] w fun e w' => (∃ p cc, e = .returned (.tuple #[.agg #[.int .u8 2, .string ⟨#[120, 121]⟩, .slice p ss.length cc, .bool true, .string ⟨#[]⟩], .int .i64 ((x ++ ⟨#[47]⟩ ++ ⟨#[62]⟩).size : Nat), .bool true]) ∧ AttsAt w' w.heap.size (.slice p ss.length cc) (attsOf 0 (ss.map bs))) ∧ Below w.heap.size w w') := fun w => by
                  have := read_written (x ++ ⟨#[47]⟩ ++ ⟨#[62]⟩ ++ more) (ss.map bs) true (bs more) (x ++ ⟨#[47]⟩ ++ ⟨#[62]⟩).size (by simp only [bs_append]; rw [HX.out]; simp [tagText, shutText]; rfl) (by rw [List.length_map]; omega)
                    (by simp only [ByteArray.size_append]; show x.size + 1 + 1 + more.size ≤ _; omega) (by rw [size_bs]; congr 1; simp only [bs_append]; rw [HX.out]; simp [tagText, shutText]; rfl) w
                  rw [List.length_map] at this; exact this
                go_wp2_with fail
                refine (HA.out _).mono ?_; rintro e w2 ⟨⟨p2, c2, rfl, ha2⟩, b2⟩
                have hbox := heap_alloc_new w2 (.cells (tokCells 2 ⟨#[120, 121]⟩ (.slice p2 ss.length c2) true ⟨#[]⟩) 24)
                have haW := ha2.below ((Below.refl _ w2).alloc (Nat.le_refl _) (.cells (tokCells 2 ⟨#[120, 121]⟩ (.slice p2 ss.length c2) true ⟨#[]⟩) 24))
                have hbW := (below_then hbl b2).alloc (below_then hbl b2).size (.cells (tokCells 2 ⟨#[120, 121]⟩ (.slice p2 ss.length c2) true ⟨#[]⟩) 24)
                clear ha2 b2
                go_wp2_with fail
                generalize w2.alloc (.cells (tokCells 2 ⟨#[120, 121]⟩ (.slice p2 ss.length c2) true ⟨#[]⟩) 24) = W at *
                generalize w2.heap.size = B at *
                go_loopw [14] (fun v14 wx => ∃ j : Nat, v14 = .int .i64 j ∧ j ≤ ss.length ∧ Below W.heap.size W wx) (fun v14 _ => ss.length - (intOf v14).toNat)
                case atStart => exact ⟨0, rfl, Nat.zero_le _, Below.refl _ _⟩
                case round =>
                  obtain ⟨j, rfl, hj, hbj⟩ := hrel
                  by_cases hltj : j < ss.length
                  · have hltjz : (j : Int) < (ss.length : Int) := by omega
                    have hsz := HSz.out _ (List.getElem_mem hltj)
                    have HNm : Hid (∀ w, Calls Try.prog 14 #[.string (ss[j]'hltj), .int .i64 j] w fun e w' => e = .returned (.string (mk (nameOf (bs (ss[j]'hltj)) j))) ∧ Below w.heap.size w w') := fun w => name_any _ j w hsz (by omega)
                    rcases haW with ⟨hv, hl⟩ | ⟨g, k1, cur, hv, _, hg, hk1, _, ht⟩
                    · have := congrArg List.length hl; rw [attsOf_len, List.length_map] at this; simp at this; rw [this] at hltj; simp at hltj
                    · rw [attsOf_len, List.length_map] at hv hk1
                      simp only [Value.slice.injEq] at hv
                      obtain ⟨rfl, hq1, rfl⟩ := hv
                      clear hq1
                      have hlj : j < (attsOf 0 (ss.map bs)).length := by rw [attsOf_len, List.length_map]; exact hltj
                      obtain ⟨x1, x2⟩ := atts_cells (below_block hbj hg) ht j hlj
                      rw [attsOf_get (ss.map bs) 0 j (by rw [List.length_map]; exact hltj) hlj, List.getElem_map, Nat.zero_add] at x1 x2
                      simp only [mk_bs] at x1 x2
                      have x3 : wr.cell? ⟨b, off + j, none⟩ = some (.string (ss[j]'hltj)) := ((hbW.trans (hbj.mono hbW.size)).cell (by exact hb)).trans (HC.out j hltj)
                      have x4 := row_cell (below_block hbj hbox) 2 _ rfl
                      generalize mk (nameOf (bs (ss[j]'hltj)) j) = nmv at *
                      generalize hsi : ss[j]'hltj = s at *
                      clear ht hg hlj
                      go_wp2_with fail
                      go_region_held3 (fun w' => w'.cell? ⟨g, j * 2, none⟩ = some (.string nmv) ∧ w'.cell? ⟨g, j * 2 + 1, none⟩ = some (.string s) ∧ w'.cell? ⟨b, off + j, none⟩ = some (.string s) ∧ w'.cell? ⟨B, 2, none⟩ = some (.slice (some ⟨g, 0, none⟩) ss.length c2)) (first | assumption | (refine ⟨?_, ?_, ?_, ?_⟩ <;> assumption) | (simp [*]; done)) (first | (go_at_call 14; (with_reducible refine (HNm.out _).mono ?_); rintro e w5 ⟨rfl, hB5⟩; have hS5 := cells_below hB5 (show _ ∧ _ ∧ _ ∧ _ from by assumption)))
                      all_goals
                        go_wp2_with fail
                        go_roundw
                        case rel => exact ⟨j + 1, by go_num, by omega, below_then hbj (below_undrew hB5)⟩
                        case measure => simp [intOf]; omega
                  · have hltjz : ¬ (j : Int) < (ss.length : Int) := by omega
                    go_wp2_with fail
                    go_ret
                    exact ⟨rfl, hbW.trans (hbj.mono hbW.size)⟩
              | false =>
                have HA : Hid (∀ w, Calls Try.prog 8 #[.string (x ++ ⟨#[62]⟩ ++ more), .int .i64 0] w fun e w' => (∃ p cc, e = .returned (.tuple #[.agg #[.int .u8 2, .string ⟨#[120, 121]⟩, .slice p ss.length cc, .bool false, .string ⟨#[]⟩], .int .i64 ((x ++ ⟨#[62]⟩).size : Nat), .bool true]) ∧ AttsAt w' w.heap.size (.slice p ss.length cc) (attsOf 0 (ss.map bs))) ∧ Below w.heap.size w w') := fun w => by
                  have := read_written (x ++ ⟨#[62]⟩ ++ more) (ss.map bs) false (bs more) (x ++ ⟨#[62]⟩).size (by simp only [bs_append]; rw [HX.out]; simp [tagText, shutText]; rfl) (by rw [List.length_map]; omega)
                    (by simp only [ByteArray.size_append]; show x.size + 1 + more.size ≤ _; omega) (by rw [size_bs]; congr 1; simp only [bs_append]; rw [HX.out]; simp [tagText, shutText]; rfl) w
                  rw [List.length_map] at this; exact this
                go_wp2_with fail
                refine (HA.out _).mono ?_; rintro e w2 ⟨⟨p2, c2, rfl, ha2⟩, b2⟩
                have hbox := heap_alloc_new w2 (.cells (tokCells 2 ⟨#[120, 121]⟩ (.slice p2 ss.length c2) false ⟨#[]⟩) 24)
                have haW := ha2.below ((Below.refl _ w2).alloc (Nat.le_refl _) (.cells (tokCells 2 ⟨#[120, 121]⟩ (.slice p2 ss.length c2) false ⟨#[]⟩) 24))
                have hbW := (below_then hbl b2).alloc (below_then hbl b2).size (.cells (tokCells 2 ⟨#[120, 121]⟩ (.slice p2 ss.length c2) false ⟨#[]⟩) 24)
                clear ha2 b2
                go_wp2_with fail
                generalize w2.alloc (.cells (tokCells 2 ⟨#[120, 121]⟩ (.slice p2 ss.length c2) false ⟨#[]⟩) 24) = W at *
                generalize w2.heap.size = B at *
                go_loopw [14] (fun v14 wx => ∃ j : Nat, v14 = .int .i64 j ∧ j ≤ ss.length ∧ Below W.heap.size W wx) (fun v14 _ => ss.length - (intOf v14).toNat)
                case atStart => exact ⟨0, rfl, Nat.zero_le _, Below.refl _ _⟩
                case round =>
                  obtain ⟨j, rfl, hj, hbj⟩ := hrel
                  by_cases hltj : j < ss.length
                  · have hltjz : (j : Int) < (ss.length : Int) := by omega
                    have hsz := HSz.out _ (List.getElem_mem hltj)
                    have HNm : Hid (∀ w, Calls Try.prog 14 #[.string (ss[j]'hltj), .int .i64 j] w fun e w' => e = .returned (.string (mk (nameOf (bs (ss[j]'hltj)) j))) ∧ Below w.heap.size w w') := fun w => name_any _ j w hsz (by omega)
                    rcases haW with ⟨hv, hl⟩ | ⟨g, k1, cur, hv, _, hg, hk1, _, ht⟩
                    · have := congrArg List.length hl; rw [attsOf_len, List.length_map] at this; simp at this; rw [this] at hltj; simp at hltj
                    · rw [attsOf_len, List.length_map] at hv hk1
                      simp only [Value.slice.injEq] at hv
                      obtain ⟨rfl, hq1, rfl⟩ := hv
                      clear hq1
                      have hlj : j < (attsOf 0 (ss.map bs)).length := by rw [attsOf_len, List.length_map]; exact hltj
                      obtain ⟨x1, x2⟩ := atts_cells (below_block hbj hg) ht j hlj
                      rw [attsOf_get (ss.map bs) 0 j (by rw [List.length_map]; exact hltj) hlj, List.getElem_map, Nat.zero_add] at x1 x2
                      simp only [mk_bs] at x1 x2
                      have x3 : wr.cell? ⟨b, off + j, none⟩ = some (.string (ss[j]'hltj)) := ((hbW.trans (hbj.mono hbW.size)).cell (by exact hb)).trans (HC.out j hltj)
                      have x4 := row_cell (below_block hbj hbox) 2 _ rfl
                      generalize mk (nameOf (bs (ss[j]'hltj)) j) = nmv at *
                      generalize hsi : ss[j]'hltj = s at *
                      clear ht hg hlj
                      go_wp2_with fail
                      go_region_held3 (fun w' => w'.cell? ⟨g, j * 2, none⟩ = some (.string nmv) ∧ w'.cell? ⟨g, j * 2 + 1, none⟩ = some (.string s) ∧ w'.cell? ⟨b, off + j, none⟩ = some (.string s) ∧ w'.cell? ⟨B, 2, none⟩ = some (.slice (some ⟨g, 0, none⟩) ss.length c2)) (first | assumption | (refine ⟨?_, ?_, ?_, ?_⟩ <;> assumption) | (simp [*]; done)) (first | (go_at_call 14; (with_reducible refine (HNm.out _).mono ?_); rintro e w5 ⟨rfl, hB5⟩; have hS5 := cells_below hB5 (show _ ∧ _ ∧ _ ∧ _ from by assumption)))
                      all_goals
                        go_wp2_with fail
                        go_roundw
                        case rel => exact ⟨j + 1, by go_num, by omega, below_then hbj (below_undrew hB5)⟩
                        case measure => simp [intOf]; omega
                  · have hltjz : ¬ (j : Int) < (ss.length : Int) := by omega
                    go_wp2_with fail
                    go_ret
                    exact ⟨rfl, hbW.trans (hbj.mono hbW.size)⟩
        · have h60z : (60 : Int) < (ss.length : Int) := by omega
          go_wp2_with fail
          refine (tknown _).mono ?_; rintro e w1 ⟨rfl, b1⟩
          go_wp2_with fail
          go_ret
          exact ⟨rfl, b1⟩
      · have hnz2 : (3000 : Int) < (n : Int) := by omega
        go_wp2_with fail
        refine (tknown _).mono ?_; rintro e w1 ⟨rfl, b1⟩
        go_wp2_with fail
        go_ret
        exact ⟨rfl, b1⟩
end Tym
