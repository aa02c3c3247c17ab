/- The walk of the reference's Read of layer 7. -/
import Derived.Test.YtpgdkhdnnegmaaaGreatNoteE
import Derived.Test.YtpgdkhdnnegmaaaGreatNoteG
import Derived.Test.YtpgdkhdnnegmaaaGreatWorlds
set_option linter.unusedSimpArgs false
set_option linter.unusedVariables false
open Go Go.RowKit Go.Proofs
namespace Tym
set_option maxRecDepth 20000

/-- Where the walk stands: the result's block b0 (nothing yet), the token's block b1. -/
def St2 (B : Nat) (w0 W : World) (b0 b1 : Nat) : Prop := Below B w0 W ∧ W.heap[b0]? = some (.cells tokZero 29 (0, 0)) ∧ W.heap[b1]? = some (.cells (tokCells 4 ⟨#[]⟩ (.slice none 0 0) false ⟨#[]⟩) 29 (0, 0)) ∧ B ≤ b0 ∧ b0 < b1
theorem St2.bel {B : Nat} {w0 W : World} {b0 b1 : Nat} (h : St2 B w0 W b0 b1) : Below B w0 W := h.1
theorem St2.blk0 {B : Nat} {w0 W : World} {b0 b1 : Nat} (h : St2 B w0 W b0 b1) : W.heap[b0]? = some (.cells tokZero 29 (0, 0)) := h.2.1
theorem St2.blk1 {B : Nat} {w0 W : World} {b0 b1 : Nat} (h : St2 B w0 W b0 b1) : W.heap[b1]? = some (.cells (tokCells 4 ⟨#[]⟩ (.slice none 0 0) false ⟨#[]⟩) 29 (0, 0)) := h.2.2.1
theorem St2.le {B : Nat} {w0 W : World} {b0 b1 : Nat} (h : St2 B w0 W b0 b1) : B ≤ b0 := h.2.2.2.1
theorem St2.lt {B : Nat} {w0 W : World} {b0 b1 : Nat} (h : St2 B w0 W b0 b1) : b0 < b1 := h.2.2.2.2
theorem St2.go {B : Nat} {w0 W W' : World} {b0 b1 : Nat} (h : St2 B w0 W b0 b1) (hb : Below W.heap.size W W') : St2 B w0 W' b0 b1 :=
  ⟨h.1.trans (hb.mono (by have := lt_of_block h.2.1; have := h.le; omega)), below_block hb h.2.1, below_block hb h.2.2.1, h.2.2.2.1, h.2.2.2.2⟩
theorem St2.start (w : World) : St2 w.heap.size w ((w.alloc (.cells tokZero 29)).alloc (.cells (tokCells 4 ⟨#[]⟩ (.slice none 0 0) false ⟨#[]⟩) 29)) w.heap.size (w.heap.size + 1) :=
  ⟨((Below.refl _ w).alloc (Nat.le_refl _) _).alloc (by simp) _, (Below.heap_alloc _ _ _ (by simp)).trans (heap_alloc_new _ _), by have := heap_alloc_new (w.alloc (.cells tokZero 29)) (.cells (tokCells 4 ⟨#[]⟩ (.slice none 0 0) false ⟨#[]⟩) 29); rwa [World.size_alloc] at this, Nat.le_refl _, Nat.lt_succ_self _⟩

theorem St2.text {B : Nat} {w0 W : World} {b0 b1 : Nat} (h : St2 B w0 W b0 b1) (T : ByteArray) : Below B w0 (W.setCell ⟨b1, 4, none⟩ (.string T)) ∧ (W.setCell ⟨b1, 4, none⟩ (.string T)).heap[b0]? = some (.cells tokZero 29 (0, 0)) ∧
    (W.setCell ⟨b1, 4, none⟩ (.string T)).heap[b1]? = some (.cells (tokCells 4 ⟨#[]⟩ (.slice none 0 0) false T) 29 (0, 0)) :=
  ⟨h.bel.setCell (p := ⟨b1, 4, none⟩) (by show B ≤ b1; have := h.le; have := h.lt; omega) _, block_other h.blk0 (by show b0 ≠ b1; have := h.lt; omega) _, row_set h.blk1 4 _⟩

theorem refNoteRead_not (s : ByteArray) (i : Int) (cd : Bool) (w : World) (HB : Hid (∀ w, Calls Tryz.prog 25 #[.string s, .int .i64 i] w fun e w' => e = .returned (.bool false) ∧ w = w')) :
    Calls Tryz.prog 26 #[.string s, .int .i64 i, .bool cd] w fun e w' => e = .returned (.tuple #[.agg tokZero, .int .i64 i]) ∧ Below w.heap.size w w' := by
  have h0 := heap_alloc_new w (.cells tokZero 29)
  have hb1 := (Below.refl _ w).alloc (Nat.le_refl _) (.cells tokZero 29)
  go_enter Tryz.func26, Tryz.ntmps26
  go_wp2_with fail
  refine (HB.out _).mono ?_; rintro e w1 ⟨rfl, rfl⟩
  generalize w.alloc (.cells tokZero 29) = W at *
  obtain ⟨⟨z0, z1, z2, z3, z4⟩, f0, f1, f2, f3, f4⟩ := five h0
  have hlt := lt_of_block h0
  go_wp2_with fail
  exact ret_cell_tmp rfl rfl rfl (set5_row h0) Tryz.underlying29 rfl (by kernel_rfl) ⟨rfl, set5_below hb1 (Nat.le_refl _) _ _ _ _ _⟩

set_option maxHeartbeats 1000000 in
theorem refNoteRead_comment (s : ByteArray) (k : Nat) (cd : Bool) (w : World) (hs : s.size ≤ 1000000) (hk : k < s.size) (HB : Hid (∀ w, Calls Tryz.prog 25 #[.string s, .int .i64 k] w fun e w' => e = .returned (.bool true) ∧ w = w'))
    (HP1 : Hid (∀ w, Calls Tryz.prog 58 #[.string s, .int .i64 k, .string ⟨#[60, 33, 45, 45]⟩] w fun e w' => e = .returned (.bool true) ∧ w = w'))
    (t : Bs) (n : Nat) (hn : k + n ≤ 1000000) (HC : Hid (∀ w, Calls Tryz.prog 59 #[.string s, .int .i64 ((k : Int) + 4)] w fun e w' => e = .returned (.tuple #[.string (mk t), .int .i64 ((k + n : Nat) : Int)]) ∧ Below w.heap.size w w')) :
    Calls Tryz.prog 26 #[.string s, .int .i64 k, .bool cd] w (NotePost w k (4, t, n)) := by
  have HS := St2.start w
  go_enter Tryz.func26, Tryz.ntmps26
  go_wp2_with fail
  refine (HB.out _).mono ?_; rintro e w1 ⟨rfl, rfl⟩
  go_wp2_with fail
  refine (HP1.out _).mono ?_; rintro e w1 ⟨rfl, rfl⟩
  generalize (w.alloc (.cells tokZero 29)).alloc (.cells (tokCells 4 ⟨#[]⟩ (.slice none 0 0) false ⟨#[]⟩) 29) = W at *
  go_wp2_with fail
  refine (HC.out _).mono ?_; rintro e w2 ⟨rfl, hB2⟩
  replace HS := HS.go hB2
  clear hB2
  have hlt0 := lt_of_block HS.blk0
  have hlt1 := lt_of_block HS.blk1
  obtain ⟨⟨y0, y1, y2, y3, y4⟩, g0, g1, g2, g3, g4⟩ := five HS.blk1
  go_upto_region 8 with (fail)
  obtain ⟨hbT, k0, k1⟩ := HS.text (mk t)
  generalize w2.setCell ⟨w.heap.size + 1, 4, none⟩ (.string (mk t)) = W3 at *
  have hlt0 := lt_of_block k0
  have hlt1 := lt_of_block k1
  obtain ⟨⟨z0, z1, z2, z3, z4⟩, f0, f1, f2, f3, f4⟩ := five k0
  clear y0 y1 y2 y3 y4 g0 g1 g2 g3 g4
  obtain ⟨⟨y0, y1, y2, y3, y4⟩, g0, g1, g2, g3, g4⟩ := five k1
  go_wp2_with fail
  refine ret_cell_tmp rfl rfl rfl (set5_row k0) Tryz.underlying29 rfl (by kernel_rfl) ⟨?_, set5_below hbT (Nat.le_refl _) _ _ _ _ _⟩
  exact ret_note (by dsimp only; omega)

set_option maxHeartbeats 1000000 in
theorem refNoteRead_doc (s : ByteArray) (k : Nat) (cd : Bool) (w : World) (hs : s.size ≤ 1000000) (hk : k < s.size) (HB : Hid (∀ w, Calls Tryz.prog 25 #[.string s, .int .i64 k] w fun e w' => e = .returned (.bool true) ∧ w = w'))
    (HP1 : Hid (∀ w, Calls Tryz.prog 58 #[.string s, .int .i64 k, .string ⟨#[60, 33, 45, 45]⟩] w fun e w' => e = .returned (.bool false) ∧ w = w'))
    (HP2 : Hid (∀ w, Calls Tryz.prog 58 #[.string s, .int .i64 k, .string ⟨#[60, 33]⟩] w fun e w' => e = .returned (.bool true) ∧ w = w')) (h9 : (9 : Int) ≤ (s.size : Int) - (k : Int)) (L : ByteArray) (hL : (L.toList == [100, 111, 99, 116, 121, 112, 101]) = true) (HL : Hid (∀ w, Calls Tryz.prog 55 #[.string (s.extract (k + 2) (k + 9))] w fun e w' => e = .returned (.string L) ∧ Below w.heap.size w w'))
    (t : Bs) (n : Nat) (hn : k + n ≤ 1000000) (HU : Hid (∀ w, Calls Tryz.prog 60 #[.string s, .int .i64 (k), .string ⟨#[62]⟩] w fun e w' => e = .returned (.tuple #[.string (mk t), .int .i64 ((k + n : Nat) : Int)]) ∧ w = w')) :
    Calls Tryz.prog 26 #[.string s, .int .i64 k, .bool cd] w (NotePost w k (5, [], n)) := by
  have HS := St2.start w
  go_enter Tryz.func26, Tryz.ntmps26
  go_wp2_with fail
  refine (HB.out _).mono ?_; rintro e w1 ⟨rfl, rfl⟩
  go_wp2_with fail
  refine (HP1.out _).mono ?_; rintro e w1 ⟨rfl, rfl⟩
  generalize (w.alloc (.cells tokZero 29)).alloc (.cells (tokCells 4 ⟨#[]⟩ (.slice none 0 0) false ⟨#[]⟩) 29) = W at *
  go_wp2_with fail
  refine (HP2.out _).mono ?_; rintro e w1 ⟨rfl, rfl⟩
  go_wp2_with fail
  refine (HL.out _).mono ?_; rintro e w2 ⟨rfl, hB2⟩
  replace HS := HS.go hB2
  clear hB2
  go_wp2_with fail
  refine (HU.out _).mono ?_; rintro e w1 ⟨rfl, rfl⟩
  obtain ⟨⟨z0, z1, z2, z3, z4⟩, f0, f1, f2, f3, f4⟩ := five HS.blk0
  have hlt0 := lt_of_block HS.blk0
  go_wp2_with fail
  refine ret_cell_tmp rfl rfl rfl (set5_row HS.blk0) Tryz.underlying29 rfl (by kernel_rfl) ⟨?_, set5_below HS.bel (Nat.le_refl _) _ _ _ _ _⟩
  exact ret_note (by dsimp only; omega)

set_option maxHeartbeats 1000000 in
theorem refNoteRead_cdata (s : ByteArray) (k : Nat) (w : World) (hs : s.size ≤ 1000000) (hk : k < s.size) (HB : Hid (∀ w, Calls Tryz.prog 25 #[.string s, .int .i64 k] w fun e w' => e = .returned (.bool true) ∧ w = w'))
    (HP1 : Hid (∀ w, Calls Tryz.prog 58 #[.string s, .int .i64 k, .string ⟨#[60, 33, 45, 45]⟩] w fun e w' => e = .returned (.bool false) ∧ w = w'))
    (hD : Hid (∀ w, Calls Tryz.prog 58 #[.string s, .int .i64 k, .string ⟨#[60, 33]⟩] w fun e w' => e = .returned (.bool false) ∧ w = w') ∨ (Hid (∀ w, Calls Tryz.prog 58 #[.string s, .int .i64 k, .string ⟨#[60, 33]⟩] w fun e w' => e = .returned (.bool true) ∧ w = w') ∧ (¬ (9 : Int) ≤ (s.size : Int) - (k : Int) ∨ ((9 : Int) ≤ (s.size : Int) - (k : Int) ∧ ∃ L : ByteArray, (L.toList == [100, 111, 99, 116, 121, 112, 101]) = false ∧ Hid (∀ w, Calls Tryz.prog 55 #[.string (s.extract (k + 2) (k + 9))] w fun e w' => e = .returned (.string L) ∧ Below w.heap.size w w')))))
    (HP3 : Hid (∀ w, Calls Tryz.prog 58 #[.string s, .int .i64 k, .string ⟨#[60, 33, 91, 67, 68, 65, 84, 65, 91]⟩] w fun e w' => e = .returned (.bool true) ∧ w = w'))
    (t : Bs) (n : Nat) (hn : k + n ≤ 1000000) (HU : Hid (∀ w, Calls Tryz.prog 60 #[.string s, .int .i64 ((k : Int) + 9), .string ⟨#[93, 93, 62]⟩] w fun e w' => e = .returned (.tuple #[.string (mk t), .int .i64 ((k + n : Nat) : Int)]) ∧ w = w')) :
    Calls Tryz.prog 26 #[.string s, .int .i64 k, .bool true] w (NotePost w k (1, t, n)) := by
  have HS := St2.start w
  rcases hD with HP2 | ⟨HP2, h9 | ⟨h9, L, hL, HL⟩⟩
  all_goals
    go_enter Tryz.func26, Tryz.ntmps26
    go_wp2_with fail
    refine (HB.out _).mono ?_; rintro e w1 ⟨rfl, rfl⟩
    go_wp2_with fail
    refine (HP1.out _).mono ?_; rintro e w1 ⟨rfl, rfl⟩
    generalize (w.alloc (.cells tokZero 29)).alloc (.cells (tokCells 4 ⟨#[]⟩ (.slice none 0 0) false ⟨#[]⟩) 29) = W at *
    go_wp2_with fail
    refine (HP2.out _).mono ?_; rintro e w1 ⟨rfl, rfl⟩
    go_wp2_with fail
    try
      refine (HL.out _).mono ?_; rintro e w2 ⟨rfl, hB2⟩
      replace HS := HS.go hB2
      clear hB2
      go_wp2_with fail
    refine (HP3.out _).mono ?_; rintro e w3 ⟨rfl, rfl⟩
    go_wp2_with fail
    refine (HU.out _).mono ?_; rintro e w3 ⟨rfl, rfl⟩
    obtain ⟨⟨z0, z1, z2, z3, z4⟩, f0, f1, f2, f3, f4⟩ := five HS.blk0
    have hlt0 := lt_of_block HS.blk0
    go_wp2_with fail
    refine ret_cell_tmp rfl rfl rfl (set5_row HS.blk0) Tryz.underlying29 rfl (by kernel_rfl) ⟨?_, set5_below HS.bel (Nat.le_refl _) _ _ _ _ _⟩
    exact ret_note (by dsimp only; omega)

set_option maxHeartbeats 1000000 in
theorem refNoteRead_none (s : ByteArray) (k : Nat) (cd : Bool) (w : World) (hs : s.size ≤ 1000000) (hk : k < s.size) (HB : Hid (∀ w, Calls Tryz.prog 25 #[.string s, .int .i64 k] w fun e w' => e = .returned (.bool true) ∧ w = w'))
    (HP1 : Hid (∀ w, Calls Tryz.prog 58 #[.string s, .int .i64 k, .string ⟨#[60, 33, 45, 45]⟩] w fun e w' => e = .returned (.bool false) ∧ w = w'))
    (hD : Hid (∀ w, Calls Tryz.prog 58 #[.string s, .int .i64 k, .string ⟨#[60, 33]⟩] w fun e w' => e = .returned (.bool false) ∧ w = w') ∨ (Hid (∀ w, Calls Tryz.prog 58 #[.string s, .int .i64 k, .string ⟨#[60, 33]⟩] w fun e w' => e = .returned (.bool true) ∧ w = w') ∧ (¬ (9 : Int) ≤ (s.size : Int) - (k : Int) ∨ ((9 : Int) ≤ (s.size : Int) - (k : Int) ∧ ∃ L : ByteArray, (L.toList == [100, 111, 99, 116, 121, 112, 101]) = false ∧ Hid (∀ w, Calls Tryz.prog 55 #[.string (s.extract (k + 2) (k + 9))] w fun e w' => e = .returned (.string L) ∧ Below w.heap.size w w')))))
    (hcd : cd = false ∨ (cd = true ∧ Hid (∀ w, Calls Tryz.prog 58 #[.string s, .int .i64 k, .string ⟨#[60, 33, 91, 67, 68, 65, 84, 65, 91]⟩] w fun e w' => e = .returned (.bool false) ∧ w = w')))
    (HP4 : Hid (∀ w, Calls Tryz.prog 58 #[.string s, .int .i64 k, .string ⟨#[60, 47, 62]⟩] w fun e w' => e = .returned (.bool true) ∧ w = w')) :
    Calls Tryz.prog 26 #[.string s, .int .i64 k, .bool cd] w (NotePost w k (0, [], 3)) := by
  have HS := St2.start w
  rcases hD with HP2 | ⟨HP2, h9 | ⟨h9, L, hL, HL⟩⟩ <;> rcases hcd with rfl | ⟨rfl, HP3⟩
  all_goals
    go_enter Tryz.func26, Tryz.ntmps26
    go_wp2_with fail
    refine (HB.out _).mono ?_; rintro e w1 ⟨rfl, rfl⟩
    go_wp2_with fail
    refine (HP1.out _).mono ?_; rintro e w1 ⟨rfl, rfl⟩
    generalize (w.alloc (.cells tokZero 29)).alloc (.cells (tokCells 4 ⟨#[]⟩ (.slice none 0 0) false ⟨#[]⟩) 29) = W at *
    go_wp2_with fail
    refine (HP2.out _).mono ?_; rintro e w1 ⟨rfl, rfl⟩
    go_wp2_with fail
    try
      refine (HL.out _).mono ?_; rintro e w2 ⟨rfl, hB2⟩
      replace HS := HS.go hB2
      clear hB2
      go_wp2_with fail
    try
      refine (HP3.out _).mono ?_; rintro e w3 ⟨rfl, rfl⟩
      go_wp2_with fail
    refine (HP4.out _).mono ?_; rintro e w3 ⟨rfl, rfl⟩
    obtain ⟨⟨z0, z1, z2, z3, z4⟩, f0, f1, f2, f3, f4⟩ := five HS.blk0
    have hlt0 := lt_of_block HS.blk0
    go_wp2_with fail
    refine ret_cell_tmp rfl rfl rfl (set5_row HS.blk0) Tryz.underlying29 rfl (by kernel_rfl) ⟨?_, set5_below HS.bel (Nat.le_refl _) _ _ _ _ _⟩
    exact ret_note (by dsimp only; omega)

set_option maxHeartbeats 2000000 in
theorem refNoteRead_else (s : ByteArray) (k : Nat) (cd : Bool) (w : World) (hs : s.size ≤ 1000000) (hk : k < s.size) (HB : Hid (∀ w, Calls Tryz.prog 25 #[.string s, .int .i64 k] w fun e w' => e = .returned (.bool true) ∧ w = w'))
    (HP1 : Hid (∀ w, Calls Tryz.prog 58 #[.string s, .int .i64 k, .string ⟨#[60, 33, 45, 45]⟩] w fun e w' => e = .returned (.bool false) ∧ w = w'))
    (hD : Hid (∀ w, Calls Tryz.prog 58 #[.string s, .int .i64 k, .string ⟨#[60, 33]⟩] w fun e w' => e = .returned (.bool false) ∧ w = w') ∨ (Hid (∀ w, Calls Tryz.prog 58 #[.string s, .int .i64 k, .string ⟨#[60, 33]⟩] w fun e w' => e = .returned (.bool true) ∧ w = w') ∧ (¬ (9 : Int) ≤ (s.size : Int) - (k : Int) ∨ ((9 : Int) ≤ (s.size : Int) - (k : Int) ∧ ∃ L : ByteArray, (L.toList == [100, 111, 99, 116, 121, 112, 101]) = false ∧ Hid (∀ w, Calls Tryz.prog 55 #[.string (s.extract (k + 2) (k + 9))] w fun e w' => e = .returned (.string L) ∧ Below w.heap.size w w')))))
    (hcd : cd = false ∨ (cd = true ∧ Hid (∀ w, Calls Tryz.prog 58 #[.string s, .int .i64 k, .string ⟨#[60, 33, 91, 67, 68, 65, 84, 65, 91]⟩] w fun e w' => e = .returned (.bool false) ∧ w = w')))
    (HP4 : Hid (∀ w, Calls Tryz.prog 58 #[.string s, .int .i64 k, .string ⟨#[60, 47, 62]⟩] w fun e w' => e = .returned (.bool false) ∧ w = w')) (h2 : k + 1 < s.size)
    (f : Nat) (hf : ((((s[k + 1]'h2).toNat : Int) == 63) = true ∧ f = 1) ∨ ((((s[k + 1]'h2).toNat : Int) == 63) = false ∧ f = 2))
    (t : Bs) (n : Nat) (hn : k + n ≤ 1000000) (HU : Hid (∀ w, Calls Tryz.prog 60 #[.string s, .int .i64 ((k : Int) + f), .string ⟨#[62]⟩] w fun e w' => e = .returned (.tuple #[.string (mk t), .int .i64 ((k + n : Nat) : Int)]) ∧ w = w')) :
    Calls Tryz.prog 26 #[.string s, .int .i64 k, .bool cd] w (NotePost w k (4, t, n)) := by
  have HS := St2.start w
  rcases hf with ⟨hq, rfl⟩ | ⟨hq, rfl⟩ <;> rcases hD with HP2 | ⟨HP2, h9 | ⟨h9, L, hL, HL⟩⟩ <;> rcases hcd with rfl | ⟨rfl, HP3⟩
  all_goals
    try rw [show ((1 : Nat) : Int) = 1 from rfl] at HU
    try rw [show ((2 : Nat) : Int) = 2 from rfl] at HU
    go_enter Tryz.func26, Tryz.ntmps26
    go_wp2_with fail
    refine (HB.out _).mono ?_; rintro e w1 ⟨rfl, rfl⟩
    go_wp2_with fail
    refine (HP1.out _).mono ?_; rintro e w1 ⟨rfl, rfl⟩
    generalize (w.alloc (.cells tokZero 29)).alloc (.cells (tokCells 4 ⟨#[]⟩ (.slice none 0 0) false ⟨#[]⟩) 29) = W at *
    go_wp2_with fail
    refine (HP2.out _).mono ?_; rintro e w1 ⟨rfl, rfl⟩
    go_wp2_with fail
    try
      refine (HL.out _).mono ?_; rintro e w2 ⟨rfl, hB2⟩
      replace HS := HS.go hB2
      clear hB2
      go_wp2_with fail
    try
      refine (HP3.out _).mono ?_; rintro e w3 ⟨rfl, rfl⟩
      go_wp2_with fail
    refine (HP4.out _).mono ?_; rintro e w3 ⟨rfl, rfl⟩
    go_wp2_with fail
    refine (HU.out _).mono ?_; rintro e w3 ⟨rfl, rfl⟩
    have hlt0 := lt_of_block HS.blk0
    have hlt1 := lt_of_block HS.blk1
    obtain ⟨⟨y0, y1, y2, y3, y4⟩, g0, g1, g2, g3, g4⟩ := five HS.blk1
    go_upto_region 22 with (fail)
    obtain ⟨hbT, k0, k1⟩ := HS.text (mk t)
    first | generalize W.setCell ⟨w.heap.size + 1, 4, none⟩ (.string (mk t)) = W3 at * | generalize w2.setCell ⟨w.heap.size + 1, 4, none⟩ (.string (mk t)) = W3 at *
    have hlt0 := lt_of_block k0
    have hlt1 := lt_of_block k1
    obtain ⟨⟨z0, z1, z2, z3, z4⟩, f0, f1, f2, f3, f4⟩ := five k0
    clear y0 y1 y2 y3 y4 g0 g1 g2 g3 g4
    obtain ⟨⟨y0, y1, y2, y3, y4⟩, g0, g1, g2, g3, g4⟩ := five k1
    go_wp2_with fail
    refine ret_cell_tmp rfl rfl rfl (set5_row k0) Tryz.underlying29 rfl (by kernel_rfl) ⟨?_, set5_below hbT (Nat.le_refl _) _ _ _ _ _⟩
    exact ret_note (by dsimp only; omega)
end Tym
