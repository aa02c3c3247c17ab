/- The law functions of layer 6: the example; TagReads. -/
import Derived.Test.YtfioncakgjpmaaaTagP
import Derived.Test.YtfioncakgjpmaaaPlainTagD
set_option linter.unusedSimpArgs false
set_option linter.unusedVariables false
open Go Go.RowKit Go.Proofs
namespace Tym
set_option maxRecDepth 100000

theorem tk1 : tagRead ⟨#[60, 65, 32, 72, 114, 101, 102, 61, 120, 32, 116, 105, 116, 108, 101, 61, 39, 97, 38, 97, 109, 112, 59, 98, 39, 32, 104, 114, 101, 102, 61, 121, 47, 62, 122]⟩ 0 = (⟨2, [97], [([104, 114, 101, 102], [120]), ([116, 105, 116, 108, 101], [97, 38, 98])], false, []⟩, 34, true) := by decide +kernel
theorem tk2 : (tagRead ⟨#[60, 97, 32, 98, 61, 34]⟩ 0).1 = tokNone ∧ (tagRead ⟨#[60, 97, 32, 98, 61, 34]⟩ 0).2.2 = false := by decide +kernel
theorem tk3 : tagRead ⟨#[60, 47, 112, 32, 97, 62]⟩ 0 = (⟨3, [112], [], false, []⟩, 6, true) := by decide +kernel
theorem tk4 : beginsTag ((bs ⟨#[60, 47, 112]⟩).drop 0) = true := by decide +kernel
theorem tk5 : beginsTag ((bs ⟨#[60, 32, 112]⟩).drop 0) = false := by decide +kernel

theorem tr1 (w : World) : Calls Try.prog 8 #[.string ⟨#[60, 65, 32, 72, 114, 101, 102, 61, 120, 32, 116, 105, 116, 108, 101, 61, 39, 97, 38, 97, 109, 112, 59, 98, 39, 32, 104, 114, 101, 102, 61, 121, 47, 62, 122]⟩, .int .i64 0] w fun e w' => (∃ g c, e = .returned (.tuple #[.agg #[.int .u8 2, .string ⟨#[97]⟩, .slice (some ⟨g, 0, none⟩) 2 c, .bool false, .string ⟨#[]⟩], .int .i64 34, .bool true]) ∧ w'.cell? ⟨g, 3, none⟩ = some (.string ⟨#[97, 38, 98]⟩) ∧ g < w'.heap.size) ∧ Below w.heap.size w w' := by
  refine (read_any ⟨#[60, 65, 32, 72, 114, 101, 102, 61, 120, 32, 116, 105, 116, 108, 101, 61, 39, 97, 38, 97, 109, 112, 59, 98, 39, 32, 104, 114, 101, 102, 61, 121, 47, 62, 122]⟩ 0 w (by decide)).mono ?_
  rintro e w' ⟨⟨v, rfl, hv⟩, hb⟩
  rw [tk1] at hv ⊢
  obtain ⟨x, rfl, ⟨_, h⟩ | ⟨g, c, cur, rfl, _, hg, _, _, ht⟩⟩ := hv
  · cases h
  · exact ⟨⟨g, c, rfl, (atts_cells hg ht 1 (by decide)).2, lt_of_block hg⟩, hb⟩
theorem tr2 (w : World) : Calls Try.prog 8 #[.string ⟨#[60, 97, 32, 98, 61, 34]⟩, .int .i64 0] w fun e w' => (∃ (x : Value) (p : Option Addr) (n c : Nat) (i : Int), e = .returned (.tuple #[.agg #[.int .u8 0, .string ⟨#[]⟩, .slice p n c, .bool false, .string ⟨#[]⟩], .int .i64 i, .bool false])) ∧ Below w.heap.size w w' := by
  refine (read_any ⟨#[60, 97, 32, 98, 61, 34]⟩ 0 w (by decide)).mono ?_
  rintro e w' ⟨⟨v, rfl, hv⟩, hb⟩
  rw [tk2.2]
  rw [tk2.1] at hv
  obtain ⟨x, rfl, hx⟩ := hv
  obtain ⟨p, n, c, rfl⟩ := hx.shape
  exact ⟨⟨.bool true, p, n, c, _, rfl⟩, hb⟩
theorem tr3 (w : World) : Calls Try.prog 8 #[.string ⟨#[60, 47, 112, 32, 97, 62]⟩, .int .i64 0] w fun e w' => (∃ (p : Option Addr) (c : Nat), e = .returned (.tuple #[.agg #[.int .u8 3, .string ⟨#[112]⟩, .slice p 0 c, .bool false, .string ⟨#[]⟩], .int .i64 6, .bool true])) ∧ Below w.heap.size w w' := by
  refine (read_any ⟨#[60, 47, 112, 32, 97, 62]⟩ 0 w (by decide)).mono ?_
  rintro e w' ⟨⟨v, rfl, hv⟩, hb⟩
  rw [tk3] at hv ⊢
  obtain ⟨x, rfl, ⟨rfl, _⟩ | ⟨g, c, cur, rfl, _⟩⟩ := hv
  · exact ⟨⟨none, 0, rfl⟩, hb⟩
  · exact ⟨⟨_, c, rfl⟩, hb⟩
theorem tr4 (w : World) : Calls Try.prog 12 #[.string ⟨#[60, 47, 112]⟩, .int .i64 0] w fun e w' => e = .returned (.bool true) ∧ Below w.heap.size w w' := by
  have := begins_in ⟨#[60, 47, 112]⟩ 0 w (by decide) (by decide); rw [tk4] at this; exact this
theorem tr5 (w : World) : Calls Try.prog 12 #[.string ⟨#[60, 32, 112]⟩, .int .i64 0] w fun e w' => e = .returned (.bool false) ∧ Below w.heap.size w w' := by
  have := begins_in ⟨#[60, 32, 112]⟩ 0 w (by decide) (by decide); rw [tk5] at this; exact this

theorem tknown (w : World) : Calls Try.prog 10 #[] w fun e w' => e = .returned (.bool true) ∧ Below w.heap.size w w' := by
  have H1 := Lib.hid tr1
  have H2 := Lib.hid tr2
  have H3 := Lib.hid tr3
  have H4 := Lib.hid tr4
  have H5 := Lib.hid tr5
  go_enter Try.func10, Try.ntmps10
  go_wp2_with fail
  refine (H1.out _).mono ?_; rintro e w1 ⟨⟨g, c, rfl, hc, hg⟩, b1⟩
  go_wp2_with fail
  refine (H2.out _).mono ?_; rintro e w2 ⟨⟨_, p2, n2, c2, i2, rfl⟩, b2⟩
  have hb2 : Below w.heap.size w w2 := b1.trans ((below_alloc_then b2).mono b1.size)
  have hc2 : w2.cell? ⟨g, 3, none⟩ = some (.string ⟨#[97, 38, 98]⟩) := by
    rw [b2.cell (p := ⟨g, 3, none⟩) (by simp; omega)]; rw [World.cell?_alloc_past _ _ _ hg]; exact hc
  have ht := below_block b2 (heap_alloc_new _ _)
  obtain ⟨⟨z0, z1, z2, z3, z4⟩, _⟩ := five ht
  have hg2 : g < w2.heap.size := by have := b2.size; simp at this; omega
  have hg1 := lt_of_block ht
  clear b2 hc b1
  go_wp2_with fail
  refine (H3.out _).mono ?_; rintro e w3 ⟨⟨p3, c3, rfl⟩, b3⟩
  have hb3 := hb2.trans ((below_alloc_then b3).mono hb2.size)
  clear z0 z1 z2 z3 z4 hc2
  go_wp2_with fail
  refine (H4.out _).mono ?_; rintro e w4 ⟨rfl, b4⟩
  have hb4 := hb3.trans ((below_alloc_then b4).mono hb3.size)
  go_wp2_with fail
  refine (H5.out _).mono ?_; rintro e w5 ⟨rfl, b5⟩
  go_wp2_with fail
  go_ret
  exact ⟨rfl, below_then hb4 b5⟩

def tagBeg (s : ByteArray) (i : Int) : Bool := if i < 0 ∨ (s.size : Int) ≤ i then false else beginsTag ((bs s).drop i.toNat)
theorem tbegins_any (s : ByteArray) (i : Int) (w : World) (hs : s.size ≤ 1000000) : Calls Try.prog 12 #[.string s, .int .i64 i] w fun e w' => e = .returned (.bool (tagBeg s i)) ∧ Below w.heap.size w w' := by
  unfold tagBeg
  by_cases h : i < 0 ∨ (s.size : Int) ≤ i
  · rw [if_pos h]; exact begins_out s i w (by omega)
  · rw [if_neg h]
    obtain ⟨k, rfl⟩ : ∃ k : Nat, i = k := ⟨i.toNat, by omega⟩
    rw [Int.toNat_natCast]; exact begins_in s k w hs (by omega)
theorem tbeginsR_any (s : ByteArray) (i : Int) (w : World) (hs : s.size ≤ 1000000) : Calls Try.prog 13 #[.string s, .int .i64 i] w fun e w' => e = .returned (.bool (tagBeg s i)) ∧ Below w.heap.size w w' := by
  unfold tagBeg
  by_cases h : i < 0 ∨ (s.size : Int) ≤ i
  · rw [if_pos h]; exact beginsR_out s i w hs (by omega)
  · rw [if_neg h]
    obtain ⟨k, rfl⟩ : ∃ k : Nat, i = k := ⟨i.toNat, by omega⟩
    rw [Int.toNat_natCast]; exact beginsR_in s k w hs (by omega)

theorem tagRead_len (s : ByteArray) (i : Int) : (tagRead s i).1.atts.length ≤ s.size := by
  unfold tagRead
  split
  · exact Nat.zero_le _
  · unfold tagAt
    split
    · cases h : readTag ((bs s).drop i.toNat) with
      | none => exact Nat.zero_le _
      | some o =>
        have := readTag_len _ o h
        rw [List.length_drop, ← size_bs] at this
        show o.atts.length ≤ _
        omega
    · exact Nat.zero_le _

theorem TokVal.cells {w : World} {B : Nat} {t : Tok} {v : Value} (h : TokVal w B t v) : ∃ p n c, v = .agg (tokCells t.kind (mk t.name) (.slice p n c) t.closing (mk t.text)) ∧ AttsAt w B (.slice p n c) t.atts := by
  obtain ⟨x, rfl, hx⟩ := h
  obtain ⟨p, n, c, rfl⟩ := hx.shape
  exact ⟨p, n, c, rfl, hx⟩

theorem law_tagreads (s : ByteArray) (i : Int) (w : World) : Calls Try.prog 3 #[.string s, .int .i64 i] w fun e w' => e = .returned (.bool true) ∧ Below w.heap.size w w' := by
  by_cases h1 : (3000 : Int) < (s.size : Int)
  · go_enter Try.func3, Try.ntmps3
    go_wp2_with fail
    go_ret
    exact ⟨rfl, Below.refl _ _⟩
  · have hs : s.size ≤ 1000000 := by omega
    have HA := Lib.hid (fun w => read_any s i w hs)
    have HB := Lib.hid (fun w => readR_any s i w hs)
    have HC := Lib.hid (fun w => tbegins_any s i w hs)
    have HD := Lib.hid (fun w => tbeginsR_any s i w hs)
    have hlen := tagRead_len s i
    generalize tagRead s i = q at *
    generalize tagBeg s i = b at *
    obtain ⟨t, n, is⟩ := q
    have HS : Hid (∀ (B1 B2 : Nat) (v1 v2 : Value) (w : World), TokVal w B1 t v1 → TokVal w B2 t v2 → Calls Try.prog 11 #[v1, v2] w fun e w' => e = .returned (.bool true) ∧ Below w.heap.size w w') := fun B1 B2 v1 v2 w h1 h2 => sameTok_any t B1 B2 v1 v2 w (by simp only at hlen; omega) h1 h2
    clear hlen
    go_enter Try.func3, Try.ntmps3
    go_wp2_with fail
    refine (HA.out _).mono ?_; rintro e w1 ⟨⟨v1, rfl, hv1⟩, b1⟩
    obtain ⟨p1, n1, c1, rfl, ha1⟩ := hv1.cells
    go_wp2_with fail
    refine (HB.out _).mono ?_; rintro e w2 ⟨⟨v2, rfl, hv2⟩, b2⟩
    have hb2 : Below w.heap.size w w2 := b1.trans ((below_alloc_then b2).mono b1.size)
    have ht2 := below_block b2 (heap_alloc_new _ _)
    have hv12 : TokVal w2 w.heap.size t (.agg (tokCells t.kind (mk t.name) (.slice p1 n1 c1) t.closing (mk t.text))) := hv1.below (below_alloc_then b2)
    obtain ⟨p2, n2, c2, rfl, ha2⟩ := hv2.cells
    obtain ⟨⟨z0, z1, z2, z3, z4⟩, _⟩ := five ht2
    clear b2 ha1 ha2
    have hsz := lt_of_block ht2
    go_wp2_with fail
    refine (tknown _).mono ?_; rintro e w3 ⟨rfl, b3⟩
    have hx2 := below_block b3 (heap_alloc_new _ _)
    have hx1 := below_block b3 ((Below.heap_alloc _ (.cells (tokCells t.kind (mk t.name) (.slice p2 n2 c2) t.closing (mk t.text)) 24) _ hsz).trans ht2)
    have hv1' := hv12.below (below_alloc_then b3)
    have hv2' := hv2.below (below_alloc_then b3)
    have hb3 := hb2.trans ((below_alloc_then b3).mono hb2.size)
    obtain ⟨⟨y0, y1, y2, y3, y4⟩, _⟩ := five hx1
    obtain ⟨⟨x0, x1, x2, x3, x4⟩, _⟩ := five hx2
    clear z0 z1 z2 z3 z4 b3 ht2
    go_wp2_with fail
    refine (HS.out _ _ _ _ _ hv1' hv2').mono ?_; rintro e w4 ⟨rfl, b4⟩
    go_wp2_with fail
    refine (HC.out _).mono ?_; rintro e w5 ⟨rfl, b5⟩
    go_wp2_with fail
    refine (HD.out _).mono ?_; rintro e w6 ⟨rfl, b6⟩
    go_wp2_with fail
    go_ret
    exact ⟨rfl, below_then (below_then (below_then hb3 b4) b5) b6⟩
end Tym
