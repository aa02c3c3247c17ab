/- The walk of note's Read. note's Read, whatever stands there. -/
import Derived.Test.YtpgdkhdnnegmaaaGreatNoteE
import Derived.Test.YtpgdkhdnnegmaaaGreatTagH
import Derived.Deep.CutRange
import Derived.Test.YtpgdkhdnnegmaaaGreatTagK

namespace Tym
set_option linter.unusedSimpArgs false
set_option linter.unusedVariables false
open Go Go.RowKit Go.Proofs
set_option maxRecDepth 20000

/-- Where a walk stands whose result lies in block b: what was, is; the library's variable; the result's block. -/
def St (B : Nat) (w0 W : World) (b : Nat) : Prop := Below B w0 W ∧ Mx W ∧ W.heap[b]? = some (.cells tokZero 29 (0, 0)) ∧ B ≤ b
theorem St.next {B : Nat} {w0 W W' : World} {b : Nat} (h : St B w0 W b) (hb : Below W.heap.size W W') (hB : B ≤ W.heap.size) : St B w0 W' b :=
  ⟨h.1.trans (hb.mono hB), h.2.1.below hb, below_block hb h.2.2.1, h.2.2.2⟩
theorem St.bel {B : Nat} {w0 W : World} {b : Nat} (h : St B w0 W b) : Below B w0 W := h.1
theorem St.mx {B : Nat} {w0 W : World} {b : Nat} (h : St B w0 W b) : Mx W := h.2.1
theorem St.blk {B : Nat} {w0 W : World} {b : Nat} (h : St B w0 W b) : W.heap[b]? = some (.cells tokZero 29 (0, 0)) := h.2.2.1
theorem St.lt {B : Nat} {w0 W : World} {b : Nat} (h : St B w0 W b) : B ≤ W.heap.size := by have := lt_of_block h.2.2.1; have := h.2.2.2; omega
theorem St.go {B : Nat} {w0 W W' : World} {b : Nat} (h : St B w0 W b) (hb : Below W.heap.size W W') : St B w0 W' b := h.next hb h.lt
theorem St.start {w : World} (hm : Mx w) : St w.heap.size w (w.alloc (.cells tokZero 29)) w.heap.size :=
  ⟨(Below.refl _ w).alloc (Nat.le_refl _) _, hm.below ((Below.refl _ w).alloc (Nat.le_refl _) _), heap_alloc_new _ _, Nat.le_refl _⟩

def NotePost (w : World) (k : Nat) (q : Nat × Bs × Nat) (e : Ending) (w' : World) : Prop :=
  e = .returned (.tuple #[.agg (tokCells q.1 ⟨#[]⟩ (.slice none 0 0) false (mk q.2.1)), .int .i64 ((k + q.2.2 : Nat) : Int)]) ∧ Below w.heap.size w w'

theorem ret_note {cs : Array Value} {x y : Int} (h : x = y) : Ending.returned (.tuple #[.agg cs, .int .i64 x]) = .returned (.tuple #[.agg cs, .int .i64 y]) := by rw [h]

theorem noteRead_not (s : ByteArray) (i : Int) (cd : Bool) (w : World) (hm : Mx w) (HB : Hid (∀ w, Calls Tryz.prog 15 #[.string s, .int .i64 i] w fun e w' => e = .returned (.bool false) ∧ Below w.heap.size w w')) :
    Calls Tryz.prog 18 #[.string s, .int .i64 i, .bool cd] w fun e w' => e = .returned (.tuple #[.agg tokZero, .int .i64 i]) ∧ Below w.heap.size w w' := by
  have HS := St.start hm
  go_enter Tryz.func18, Tryz.ntmps18
  go_wp2_with fail
  refine (HB.out _).mono ?_; rintro e w1 ⟨rfl, hB1⟩
  replace HS := HS.go hB1
  obtain ⟨⟨z0, z1, z2, z3, z4⟩, f0, f1, f2, f3, f4⟩ := five HS.blk
  have hlt := lt_of_block HS.blk
  clear hB1
  go_wp2_with fail
  exact ret_cell_tmp rfl rfl rfl (set5_row HS.blk) Tryz.underlying29 rfl (by kernel_rfl) ⟨rfl, set5_below HS.bel (Nat.le_refl _) _ _ _ _ _⟩

set_option maxHeartbeats 1000000 in
theorem noteRead_comment (s : ByteArray) (k : Nat) (cd : Bool) (w : World) (hm : Mx w) (hs : s.size ≤ 1000000) (hk : k < s.size) (HB : Hid (∀ w, Calls Tryz.prog 15 #[.string s, .int .i64 k] w fun e w' => e = .returned (.bool true) ∧ Below w.heap.size w w'))
    (X : ByteArray) (HX : Hid (s.extract k s.size = X)) (hX4 : 4 ≤ X.size) (hXs : k + X.size ≤ 1000000) (HP1 : Hid (∀ w, Calls Tryz.prog 38 #[.string X, .string ⟨#[60, 33, 45, 45]⟩] w fun e w' => e = .returned (.bool true) ∧ w = w'))
    (t : Bs) (n : Nat) (hn : n ≤ 1000000) (HC : Hid (∀ w, Mx w → Calls Tryz.prog 49 #[.string (X.extract 4 X.size)] w fun e w' => e = .returned (.tuple #[.string (mk t), .int .i64 (n : Int)]) ∧ Below w.heap.size w w')) :
    Calls Tryz.prog 18 #[.string s, .int .i64 k, .bool cd] w (NotePost w k (4, t, 4 + n)) := by
  have HS := St.start hm
  have h4 : (4 : Int) ≤ (X.size : Int) := by omega
  go_enter Tryz.func18, Tryz.ntmps18
  go_wp2_with fail
  refine (HB.out _).mono ?_; rintro e w1 ⟨rfl, hB1⟩
  replace HS := HS.go hB1
  clear hB1
  go_upto_region 4 with (fail)
  rw [HX.out]
  go_wp2_with fail
  refine (HP1.out _).mono ?_; rintro e w2 ⟨rfl, rfl⟩
  go_wp2_with fail
  refine (HC.out _ HS.mx).mono ?_; rintro e w2 ⟨rfl, hB2⟩
  replace HS := HS.go hB2
  clear hB2
  obtain ⟨⟨z0, z1, z2, z3, z4⟩, f0, f1, f2, f3, f4⟩ := five HS.blk
  have hlt := lt_of_block HS.blk
  go_wp2_with fail
  refine ret_cell_tmp rfl rfl rfl (set5_row HS.blk) Tryz.underlying29 rfl (by kernel_rfl) ⟨?_, set5_below HS.bel (Nat.le_refl _) _ _ _ _ _⟩
  exact ret_note (by dsimp only; omega)

set_option maxHeartbeats 1000000 in
theorem noteRead_doc (s : ByteArray) (k : Nat) (cd : Bool) (w : World) (hm : Mx w) (hs : s.size ≤ 1000000) (hk : k < s.size) (HB : Hid (∀ w, Calls Tryz.prog 15 #[.string s, .int .i64 k] w fun e w' => e = .returned (.bool true) ∧ Below w.heap.size w w'))
    (X : ByteArray) (HX : Hid (s.extract k s.size = X)) (hXs : k + X.size ≤ 1000000) (HP1 : Hid (∀ w, Calls Tryz.prog 38 #[.string X, .string ⟨#[60, 33, 45, 45]⟩] w fun e w' => e = .returned (.bool false) ∧ w = w'))
    (h9 : 9 ≤ X.size) (L : ByteArray) (hL : (L.toList == [60, 33, 100, 111, 99, 116, 121, 112, 101]) = true) (HL : Hid (∀ w, Calls Tryz.prog 29 #[.string (X.extract 0 9)] w fun e w' => e = .returned (.string L) ∧ Below w.heap.size w w'))
    (T : ByteArray) (n : Nat) (hn : n ≤ 1000000) (HU : Hid (∀ w, Mx w → Calls Tryz.prog 50 #[.string (X.extract 9 X.size), .string ⟨#[62]⟩] w fun e w' => e = .returned (.tuple #[.string T, .int .i64 (n : Int)]) ∧ Below w.heap.size w w')) :
    Calls Tryz.prog 18 #[.string s, .int .i64 k, .bool cd] w (NotePost w k (5, [], 9 + n)) := by
  have HS := St.start hm
  have h9z : (9 : Int) ≤ (X.size : Int) := by omega
  go_enter Tryz.func18, Tryz.ntmps18
  go_wp2_with fail
  refine (HB.out _).mono ?_; rintro e w1 ⟨rfl, hB1⟩
  replace HS := HS.go hB1
  clear hB1
  go_upto_region 4 with (fail)
  rw [HX.out]
  go_wp2_with fail
  refine (HP1.out _).mono ?_; rintro e w2 ⟨rfl, rfl⟩
  go_wp2_with fail
  refine (HL.out _).mono ?_; rintro e w2 ⟨rfl, hB2⟩
  replace HS := HS.go hB2
  clear hB2
  go_wp2_with fail
  refine (HU.out _ HS.mx).mono ?_; rintro e w3 ⟨rfl, hB2⟩
  replace HS := HS.go hB2
  clear hB2
  obtain ⟨⟨z0, z1, z2, z3, z4⟩, f0, f1, f2, f3, f4⟩ := five HS.blk
  have hlt := lt_of_block HS.blk
  go_wp2_with fail
  refine ret_cell_tmp rfl rfl rfl (set5_row HS.blk) Tryz.underlying29 rfl (by kernel_rfl) ⟨?_, set5_below HS.bel (Nat.le_refl _) _ _ _ _ _⟩
  exact ret_note (by dsimp only; omega)

set_option maxHeartbeats 1000000 in
theorem noteRead_cdata (s : ByteArray) (k : Nat) (w : World) (hm : Mx w) (hs : s.size ≤ 1000000) (hk : k < s.size) (HB : Hid (∀ w, Calls Tryz.prog 15 #[.string s, .int .i64 k] w fun e w' => e = .returned (.bool true) ∧ Below w.heap.size w w'))
    (X : ByteArray) (HX : Hid (s.extract k s.size = X)) (hXs : k + X.size ≤ 1000000) (HP1 : Hid (∀ w, Calls Tryz.prog 38 #[.string X, .string ⟨#[60, 33, 45, 45]⟩] w fun e w' => e = .returned (.bool false) ∧ w = w'))
    (hD : ¬ (9 : Int) ≤ (X.size : Int) ∨ ((9 : Int) ≤ (X.size : Int) ∧ ∃ L : ByteArray, (L.toList == [60, 33, 100, 111, 99, 116, 121, 112, 101]) = false ∧ Hid (∀ w, Calls Tryz.prog 29 #[.string (X.extract 0 9)] w fun e w' => e = .returned (.string L) ∧ Below w.heap.size w w')))
    (h9 : (9 : Int) ≤ (X.size : Int)) (HP3 : Hid (∀ w, Calls Tryz.prog 38 #[.string X, .string ⟨#[60, 33, 91, 67, 68, 65, 84, 65, 91]⟩] w fun e w' => e = .returned (.bool true) ∧ w = w'))
    (t : Bs) (n : Nat) (hn : n ≤ 1000000) (HU : Hid (∀ w, Mx w → Calls Tryz.prog 50 #[.string (X.extract 9 X.size), .string ⟨#[93, 93, 62]⟩] w fun e w' => e = .returned (.tuple #[.string (mk t), .int .i64 (n : Int)]) ∧ Below w.heap.size w w')) :
    Calls Tryz.prog 18 #[.string s, .int .i64 k, .bool true] w (NotePost w k (1, t, 9 + n)) := by
  have HS := St.start hm
  rcases hD with h9' | ⟨_, L, hL, HL⟩
  · exact absurd h9 h9'
  go_enter Tryz.func18, Tryz.ntmps18
  go_wp2_with fail
  refine (HB.out _).mono ?_; rintro e w1 ⟨rfl, hB1⟩
  replace HS := HS.go hB1
  clear hB1
  go_upto_region 4 with (fail)
  rw [HX.out]
  go_wp2_with fail
  refine (HP1.out _).mono ?_; rintro e w2 ⟨rfl, rfl⟩
  go_wp2_with fail
  refine (HL.out _).mono ?_; rintro e w2 ⟨rfl, hB2⟩
  replace HS := HS.go hB2
  clear hB2
  go_wp2_with fail
  refine (HP3.out _).mono ?_; rintro e w3 ⟨rfl, rfl⟩
  go_wp2_with fail
  refine (HU.out _ HS.mx).mono ?_; rintro e w4 ⟨rfl, hB2⟩
  replace HS := HS.go hB2
  clear hB2
  obtain ⟨⟨z0, z1, z2, z3, z4⟩, f0, f1, f2, f3, f4⟩ := five HS.blk
  have hlt := lt_of_block HS.blk
  go_wp2_with fail
  refine ret_cell_tmp rfl rfl rfl (set5_row HS.blk) Tryz.underlying29 rfl (by kernel_rfl) ⟨?_, set5_below HS.bel (Nat.le_refl _) _ _ _ _ _⟩
  exact ret_note (by dsimp only; omega)

set_option maxHeartbeats 1000000 in
theorem noteRead_none (s : ByteArray) (k : Nat) (cd : Bool) (w : World) (hm : Mx w) (hs : s.size ≤ 1000000) (hk : k < s.size) (HB : Hid (∀ w, Calls Tryz.prog 15 #[.string s, .int .i64 k] w fun e w' => e = .returned (.bool true) ∧ Below w.heap.size w w'))
    (X : ByteArray) (HX : Hid (s.extract k s.size = X)) (hXs : k + X.size ≤ 1000000) (HP1 : Hid (∀ w, Calls Tryz.prog 38 #[.string X, .string ⟨#[60, 33, 45, 45]⟩] w fun e w' => e = .returned (.bool false) ∧ w = w'))
    (hD : ¬ (9 : Int) ≤ (X.size : Int) ∨ ((9 : Int) ≤ (X.size : Int) ∧ ∃ L : ByteArray, (L.toList == [60, 33, 100, 111, 99, 116, 121, 112, 101]) = false ∧ Hid (∀ w, Calls Tryz.prog 29 #[.string (X.extract 0 9)] w fun e w' => e = .returned (.string L) ∧ Below w.heap.size w w')))
    (hcd : cd = false ∨ (cd = true ∧ Hid (∀ w, Calls Tryz.prog 38 #[.string X, .string ⟨#[60, 33, 91, 67, 68, 65, 84, 65, 91]⟩] w fun e w' => e = .returned (.bool false) ∧ w = w')))
    (HP4 : Hid (∀ w, Calls Tryz.prog 38 #[.string X, .string ⟨#[60, 47, 62]⟩] w fun e w' => e = .returned (.bool true) ∧ w = w')) :
    Calls Tryz.prog 18 #[.string s, .int .i64 k, .bool cd] w (NotePost w k (0, [], 3)) := by
  have HS := St.start hm
  rcases hD with h9 | ⟨h9, L, hL, HL⟩ <;> rcases hcd with rfl | ⟨rfl, HP3⟩
  all_goals
    go_enter Tryz.func18, Tryz.ntmps18
    go_wp2_with fail
    refine (HB.out _).mono ?_; rintro e w1 ⟨rfl, hB1⟩
    replace HS := HS.go hB1
    clear hB1
    go_upto_region 4 with (fail)
    rw [HX.out]
    go_wp2_with fail
    refine (HP1.out _).mono ?_; rintro e w2 ⟨rfl, rfl⟩
    go_wp2_with fail
    try
      refine (HL.out _).mono ?_; rintro e w2 ⟨rfl, hB2⟩
      replace HS := HS.go hB2
      clear hB2
      go_wp2_with fail
    try
      refine (HP3.out _).mono ?_; rintro e w3 ⟨rfl, rfl⟩
      go_wp2_with fail
    refine (HP4.out _).mono ?_; rintro e w3 ⟨rfl, rfl⟩
    obtain ⟨⟨z0, z1, z2, z3, z4⟩, f0, f1, f2, f3, f4⟩ := five HS.blk
    have hlt := lt_of_block HS.blk
    go_wp2_with fail
    refine ret_cell_tmp rfl rfl rfl (set5_row HS.blk) Tryz.underlying29 rfl (by kernel_rfl) ⟨?_, set5_below HS.bel (Nat.le_refl _) _ _ _ _ _⟩
    exact ret_note (by dsimp only; omega)

set_option maxHeartbeats 1000000 in
theorem noteRead_else (s : ByteArray) (k : Nat) (cd : Bool) (w : World) (hm : Mx w) (hs : s.size ≤ 1000000) (hk : k < s.size) (HB : Hid (∀ w, Calls Tryz.prog 15 #[.string s, .int .i64 k] w fun e w' => e = .returned (.bool true) ∧ Below w.heap.size w w'))
    (X : ByteArray) (HX : Hid (s.extract k s.size = X)) (hXs : k + X.size ≤ 1000000) (HP1 : Hid (∀ w, Calls Tryz.prog 38 #[.string X, .string ⟨#[60, 33, 45, 45]⟩] w fun e w' => e = .returned (.bool false) ∧ w = w'))
    (hD : ¬ (9 : Int) ≤ (X.size : Int) ∨ ((9 : Int) ≤ (X.size : Int) ∧ ∃ L : ByteArray, (L.toList == [60, 33, 100, 111, 99, 116, 121, 112, 101]) = false ∧ Hid (∀ w, Calls Tryz.prog 29 #[.string (X.extract 0 9)] w fun e w' => e = .returned (.string L) ∧ Below w.heap.size w w')))
    (hcd : cd = false ∨ (cd = true ∧ Hid (∀ w, Calls Tryz.prog 38 #[.string X, .string ⟨#[60, 33, 91, 67, 68, 65, 84, 65, 91]⟩] w fun e w' => e = .returned (.bool false) ∧ w = w')))
    (HP4 : Hid (∀ w, Calls Tryz.prog 38 #[.string X, .string ⟨#[60, 47, 62]⟩] w fun e w' => e = .returned (.bool false) ∧ w = w')) (h2 : 1 < X.size)
    (f : Nat) (hf : ((((X[1]'h2).toNat : Int) == 63) = true ∧ f = 1) ∨ ((((X[1]'h2).toNat : Int) == 63) = false ∧ f = 2))
    (t : Bs) (n : Nat) (hn : n ≤ 1000000) (HU : Hid (∀ w, Mx w → Calls Tryz.prog 50 #[.string (X.extract f X.size), .string ⟨#[62]⟩] w fun e w' => e = .returned (.tuple #[.string (mk t), .int .i64 (n : Int)]) ∧ Below w.heap.size w w')) :
    Calls Tryz.prog 18 #[.string s, .int .i64 k, .bool cd] w (NotePost w k (4, t, f + n)) := by
  have HS := St.start hm
  have h1z : (1 : Int) ≤ (X.size : Int) := by omega
  have h2z : (2 : Int) ≤ (X.size : Int) := by omega
  rcases hf with ⟨hq, rfl⟩ | ⟨hq, rfl⟩ <;> rcases hD with h9 | ⟨h9, L, hL, HL⟩ <;> rcases hcd with rfl | ⟨rfl, HP3⟩
  all_goals
    go_enter Tryz.func18, Tryz.ntmps18
    go_wp2_with fail
    refine (HB.out _).mono ?_; rintro e w1 ⟨rfl, hB1⟩
    replace HS := HS.go hB1
    clear hB1
    go_upto_region 4 with (fail)
    rw [HX.out]
    go_wp2_with fail
    refine (HP1.out _).mono ?_; rintro e w2 ⟨rfl, rfl⟩
    go_wp2_with fail
    try
      refine (HL.out _).mono ?_; rintro e w2 ⟨rfl, hB2⟩
      replace HS := HS.go hB2
      clear hB2
      go_wp2_with fail
    try
      refine (HP3.out _).mono ?_; rintro e w3 ⟨rfl, rfl⟩
      go_wp2_with fail
    refine (HP4.out _).mono ?_; rintro e w3 ⟨rfl, rfl⟩
    go_wp2_with fail
    refine (HU.out _ HS.mx).mono ?_; rintro e w4 ⟨rfl, hB2⟩
    replace HS := HS.go hB2
    clear hB2
    obtain ⟨⟨z0, z1, z2, z3, z4⟩, f0, f1, f2, f3, f4⟩ := five HS.blk
    have hlt := lt_of_block HS.blk
    go_wp2_with fail
    refine ret_cell_tmp rfl rfl rfl (set5_row HS.blk) Tryz.underlying29 rfl (by kernel_rfl) ⟨?_, set5_below HS.bel (Nat.le_refl _) _ _ _ _ _⟩
    exact ret_note (by dsimp only; omega)
end Tym

namespace Tym
set_option linter.unusedSimpArgs false
set_option linter.unusedVariables false
open Go Go.RowKit Go.Proofs
set_option maxRecDepth 20000

theorem noteRead_in (s : ByteArray) (k : Nat) (cd : Bool) (w : World) (hm : Mx w) (hs : s.size ≤ 1000000) (hb : beginsNote ((bs s).drop k) = true) :
    Calls Tryz.prog 18 #[.string s, .int .i64 k, .bool cd] w (NotePost w k (noteL cd ((bs s).drop k))) := by
  have hlen := beginsNote_len _ hb
  rw [List.length_drop, ← size_bs] at hlen
  have HB : Hid (∀ w, Calls Tryz.prog 15 #[.string s, .int .i64 k] w fun e w' => e = .returned (.bool true) ∧ Below w.heap.size w w') := fun w => by
    have := noteBegins_in s k w hs (by omega); rwa [hb] at this
  obtain ⟨X, hX⟩ : ∃ X, s.extract k s.size = X := ⟨_, rfl⟩
  have hXb : bs X = (bs s).drop k := by rw [← hX, bs_from]
  have hXs : X.size = s.size - k := by rw [← hX, ByteArray.size_extract]; omega
  rw [← hXb]
  have hP : ∀ (x : Bs) (b : Bool), begins (bs X) x = b → Hid (∀ w, Calls Tryz.prog 38 #[.string X, .string ⟨x.toArray⟩] w fun e w' => e = .returned (.bool b) ∧ w = w') := fun x b h w => by
    have := prefix_lit X x w; rwa [h] at this
  have hU : ∀ (f : Nat) (x : Bs), f ≤ X.size → 0 < x.length → x.length ≤ 1000000 → (upToL x ((bs X).drop f)).2 ≤ 1000000 ∧ Hid (∀ w, Mx w → Calls Tryz.prog 50 #[.string (X.extract f X.size), .string ⟨x.toArray⟩] w fun e w' => e = .returned (.tuple #[.string (mk (upToL x ((bs X).drop f)).1), .int .i64 (((upToL x ((bs X).drop f)).2 : Nat) : Int)]) ∧ Below w.heap.size w w') := fun f x hf h0 h1 =>
    ⟨by have := upTo_le x ((bs X).drop f); rw [List.length_drop, ← size_bs] at this; omega, fun w hm => by
      have := noteUpTo_any (X.extract f X.size) x w (by rw [ByteArray.size_extract]; omega) h1 h0 hm
      rwa [bs_from] at this⟩
  unfold noteL
  cases c1 : begins (bs X) [60, 33, 45, 45] with
  | true =>
    have h4 := begins_len _ _ c1
    rw [← size_bs] at h4
    simp only [List.length_cons, List.length_nil] at h4
    have hc := commentL_le ((bs X).drop 4)
    rw [List.length_drop, ← size_bs] at hc
    simp only [if_true]
    exact noteRead_comment s k cd w hm hs (by omega) HB X hX h4 (by omega) (hP _ _ c1) _ _ (by omega) (fun w hm => by
      have := noteComment_any (X.extract 4 X.size) w (by rw [ByteArray.size_extract]; omega) hm
      rwa [bs_from] at this)
  | false =>
    simp only [Bool.false_eq_true, if_false]
    have HL : Hid (∀ w, Calls Tryz.prog 29 #[.string (X.extract 0 9)] w fun e w' => e = .returned (.string (mk (lower ((bs X).take 9)))) ∧ Below w.heap.size w w') := fun w => by
      have := lower_any (X.extract 0 9) w (by rw [ByteArray.size_extract]; omega)
      rwa [bs_to] at this
    cases c2 : doctypeIn (bs X) with
    | true =>
      unfold doctypeIn at c2
      rw [Bool.and_eq_true, decide_eq_true_eq, ← size_bs] at c2
      simp only [if_true]
      exact noteRead_doc s k cd w hm hs (by omega) HB X hX (by omega) (hP _ _ c1) c2.1 (mk (lower ((bs X).take 9))) (by rw [Lib.toList_data]; exact c2.2) HL _ _ (hU 9 [62] c2.1 (by decide) (by decide)).1 (hU 9 [62] c2.1 (by decide) (by decide)).2
    | false =>
      have hD : ¬ (9 : Int) ≤ (X.size : Int) ∨ ((9 : Int) ≤ (X.size : Int) ∧ ∃ L : ByteArray, (L.toList == [60, 33, 100, 111, 99, 116, 121, 112, 101]) = false ∧ Hid (∀ w, Calls Tryz.prog 29 #[.string (X.extract 0 9)] w fun e w' => e = .returned (.string L) ∧ Below w.heap.size w w')) := by
        by_cases h9 : 9 ≤ X.size
        · refine .inr ⟨by omega, _, ?_, HL⟩
          unfold doctypeIn at c2
          rw [← size_bs, decide_eq_true h9, Bool.true_and] at c2
          rw [Lib.toList_data]; exact c2
        · exact .inl (by omega)
      simp only [Bool.false_eq_true, if_false]
      cases c3 : (cd && begins (bs X) [60, 33, 91, 67, 68, 65, 84, 65, 91]) with
      | true =>
        rw [Bool.and_eq_true] at c3
        obtain ⟨rfl, c3⟩ := c3
        have h9 := begins_len _ _ c3
        rw [← size_bs] at h9
        simp only [List.length_cons, List.length_nil] at h9
        simp only [if_true]
        exact noteRead_cdata s k w hm hs (by omega) HB X hX (by omega) (hP _ _ c1) hD (by omega) (hP _ _ c3) _ _ (hU 9 [93, 93, 62] h9 (by decide) (by decide)).1 (hU 9 [93, 93, 62] h9 (by decide) (by decide)).2
      | false =>
        have hcd : cd = false ∨ (cd = true ∧ Hid (∀ w, Calls Tryz.prog 38 #[.string X, .string ⟨#[60, 33, 91, 67, 68, 65, 84, 65, 91]⟩] w fun e w' => e = .returned (.bool false) ∧ w = w')) := by
          cases cd with
          | false => exact .inl rfl
          | true => exact .inr ⟨rfl, hP _ _ (by simpa using c3)⟩
        simp only [Bool.false_eq_true, if_false]
        cases c4 : begins (bs X) [60, 47, 62] with
        | true =>
          simp only [if_true]
          exact noteRead_none s k cd w hm hs (by omega) HB X hX (by omega) (hP _ _ c1) hD hcd (hP _ _ c4)
        | false =>
          simp only [Bool.false_eq_true, if_false]
          have h2 : 1 < X.size := by omega
          have e1 : (bs X).getD 1 0 = X[1]'h2 := (get_bs X 1 h2).symm
          rw [e1]
          by_cases hq : X[1]'h2 = 63
          · rw [if_pos hq]
            exact noteRead_else s k cd w hm hs (by omega) HB X hX (by omega) (hP _ _ c1) hD hcd (hP _ _ c4) h2 1 (.inl ⟨by rw [hq]; rfl, rfl⟩) _ _ (hU 1 [62] (by omega) (by decide) (by decide)).1 (hU 1 [62] (by omega) (by decide) (by decide)).2
          · rw [if_neg hq]
            have hq2 : (((X[1]'h2).toNat : Int) == 63) = false := by rw [show (63 : Int) = ((63 : UInt8).toNat : Int) from rfl, u8_eq]; simpa using hq
            exact noteRead_else s k cd w hm hs (by omega) HB X hX (by omega) (hP _ _ c1) hD hcd (hP _ _ c4) h2 2 (.inr ⟨hq2, rfl⟩) _ _ (hU 2 [62] (by omega) (by decide) (by decide)).1 (hU 2 [62] (by omega) (by decide) (by decide)).2

/-- What is read at a place: the token, and where it ends. -/
def noteTok (q : Nat × Bs × Nat) : Tok := ⟨q.1, [], [], false, q.2.1⟩
def noteRd (s : ByteArray) (i : Int) (cd : Bool) : Tok × Int := if noteBeg s i then (noteTok (noteL cd ((bs s).drop i.toNat)), i + ((noteL cd ((bs s).drop i.toNat)).2.2 : Nat)) else (tokNone, i)
/-- What a function that tells a token and a place hands back. -/
def TokPost (w : World) (q : Tok × Int) (e : Ending) (w' : World) : Prop := (∃ v, e = .returned (.tuple #[v, .int .i64 q.2]) ∧ TokVal w' w.heap.size q.1 v) ∧ Below w.heap.size w w'

theorem note_post {w : World} {k : Nat} {q : Nat × Bs × Nat} {e : Ending} {w' : World} (h : NotePost w k q e w') : TokPost w (noteTok q, (k : Int) + (q.2.2 : Nat)) e w' := by
  obtain ⟨rfl, hb⟩ := h
  exact ⟨⟨_, ret_note (by omega), ⟨_, rfl, .inl ⟨rfl, rfl⟩⟩⟩, hb⟩
theorem noteRead_any (s : ByteArray) (i : Int) (cd : Bool) (w : World) (hm : Mx w) (hs : s.size ≤ 1000000) : Calls Tryz.prog 18 #[.string s, .int .i64 i, .bool cd] w (TokPost w (noteRd s i cd)) := by
  unfold noteRd
  cases hb : noteBeg s i with
  | false =>
    simp only [Bool.false_eq_true, if_false]
    refine (noteRead_not s i cd w hm fun w => by have := noteBegins_any s i w hs; rwa [hb] at this).mono ?_
    rintro e w' ⟨rfl, h⟩
    exact ⟨⟨_, rfl, tokval_none _ _⟩, h⟩
  | true =>
    simp only [if_true]
    unfold noteBeg at hb
    by_cases h : i < 0
    · rw [if_pos h] at hb; cases hb
    · rw [if_neg h] at hb
      obtain ⟨k, rfl⟩ : ∃ k : Nat, i = k := ⟨i.toNat, by omega⟩
      rw [Int.toNat_natCast] at hb ⊢
      exact (noteRead_in s k cd w hm hs hb).mono fun _ _ h => note_post h
end Tym
