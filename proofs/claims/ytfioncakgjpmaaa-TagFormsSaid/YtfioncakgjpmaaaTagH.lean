/- What is wanted of memory in the walk of Read. -/
import Derived.Test.YtfioncakgjpmaaaTagG
import Derived.Scope
set_option linter.unusedSimpArgs false
set_option linter.unusedVariables false
open Go Go.RowKit Go.Proofs
namespace Tym
set_option maxRecDepth 20000

/-- A token as a value; as a block. -/
abbrev tokCells (kd : Int) (nm : ByteArray) (v : Value) (cl : Bool) (tx : ByteArray) : Array Value := #[.int .u8 kd, .string nm, v, .bool cl, .string tx]
abbrev tokZero : Array Value := #[.int .u8 0, .string ⟨#[]⟩, .slice none 0 0, .bool false, .string ⟨#[]⟩]

theorem five {w : World} {b : Nat} {a0 a1 a2 a3 a4 : Value} {t : TypeId} (h : w.heap[b]? = some (.cells #[a0, a1, a2, a3, a4] t (0, 0))) :
    (w.cell? ⟨b, 0, none⟩ = some a0 ∧ w.cell? ⟨b, 1, none⟩ = some a1 ∧ w.cell? ⟨b, 2, none⟩ = some a2 ∧ w.cell? ⟨b, 3, none⟩ = some a3 ∧ w.cell? ⟨b, 4, none⟩ = some a4) ∧
    (w.frozen? ⟨b, 0, none⟩ = false ∧ w.frozen? ⟨b, 1, none⟩ = false ∧ w.frozen? ⟨b, 2, none⟩ = false ∧ w.frozen? ⟨b, 3, none⟩ = false ∧ w.frozen? ⟨b, 4, none⟩ = false) :=
  ⟨⟨row_cell h 0 _ rfl, row_cell h 1 _ rfl, row_cell h 2 _ rfl, row_cell h 3 _ rfl, row_cell h 4 _ rfl⟩, row_free h 0, row_free h 1, row_free h 2, row_free h 3, row_free h 4⟩
def set5 (w : World) (b : Nat) (c0 c1 c2 c3 c4 : Value) : World := ((((w.setCell ⟨b, 0, none⟩ c0).setCell ⟨b, 1, none⟩ c1).setCell ⟨b, 2, none⟩ c2).setCell ⟨b, 3, none⟩ c3).setCell ⟨b, 4, none⟩ c4
theorem set5_row {w : World} {b : Nat} {a0 a1 a2 a3 a4 c0 c1 c2 c3 c4 : Value} {t : TypeId} (h : w.heap[b]? = some (.cells #[a0, a1, a2, a3, a4] t (0, 0))) :
    (((((w.setCell ⟨b, 0, none⟩ c0).setCell ⟨b, 1, none⟩ c1).setCell ⟨b, 2, none⟩ c2).setCell ⟨b, 3, none⟩ c3).setCell ⟨b, 4, none⟩ c4).heap[b]? = some (.cells #[c0, c1, c2, c3, c4] t (0, 0)) :=
  row_set (row_set (row_set (row_set (row_set h 0 _) 1 _) 2 _) 3 _) 4 _
theorem set5_below {B : Nat} {a w : World} {b : Nat} (h : Below B a w) (hb : B ≤ b) (c0 c1 c2 c3 c4 : Value) :
    Below B a (((((w.setCell ⟨b, 0, none⟩ c0).setCell ⟨b, 1, none⟩ c1).setCell ⟨b, 2, none⟩ c2).setCell ⟨b, 3, none⟩ c3).setCell ⟨b, 4, none⟩ c4) :=
  ((((h.setCell (p := ⟨b, 0, none⟩) hb _).setCell (p := ⟨b, 1, none⟩) hb _).setCell (p := ⟨b, 2, none⟩) hb _).setCell (p := ⟨b, 3, none⟩) hb _).setCell (p := ⟨b, 4, none⟩) hb _
theorem set5_other {w : World} {b g : Nat} {o : Obj} (h : w.heap[g]? = some o) (hb : g ≠ b) (c0 c1 c2 c3 c4 : Value) :
    (((((w.setCell ⟨b, 0, none⟩ c0).setCell ⟨b, 1, none⟩ c1).setCell ⟨b, 2, none⟩ c2).setCell ⟨b, 3, none⟩ c3).setCell ⟨b, 4, none⟩ c4).heap[g]? = some o :=
  block_other (block_other (block_other (block_other (block_other h hb _) hb _) hb _) hb _) hb _

theorem read_not (s : ByteArray) (i : Int) (w : World) (HB : Hid (∀ w, Calls Try.prog 12 #[.string s, .int .i64 i] w fun e w' => e = .returned (.bool false) ∧ Below w.heap.size w w')) :
    Calls Try.prog 8 #[.string s, .int .i64 i] w fun e w' => e = .returned (.tuple #[.agg tokZero, .int .i64 i, .bool false]) ∧ Below w.heap.size w w' := by
  go_enter Try.func8, Try.ntmps8
  go_wp2_with fail
  refine wp_scope_straight ?_
  go_wp2_with fail
  refine (HB.out _).mono ?_; rintro e w1 ⟨rfl, hB1⟩
  have h0 := below_block hB1 (heap_alloc_new _ _)
  have hb1 := below_alloc_then hB1
  obtain ⟨⟨z0, z1, z2, z3, z4⟩, f0, f1, f2, f3, f4⟩ := five h0
  clear hB1
  go_wp2_with fail
  simp only [Exit.noGoto]
  exact ret_cell_tmp2 rfl rfl rfl (set5_row h0) Try.underlying24 rfl (by kernel_rfl) ⟨rfl, set5_below hb1 (Nat.le_refl _) _ _ _ _ _⟩

/-- What Read hands back. -/
def ReadPost (s : ByteArray) (kd : Int) (nm : ByteArray) (w : World) (res : Option (List Att × Bool × Bs)) (e : Ending) (w' : World) : Prop :=
  Below w.heap.size w w' ∧
  match res with
  | none => e = .returned (.tuple #[.agg tokZero, .int .i64 s.size, .bool false])
  | some (l, cl, u) =>
    (kd = 3 ∧ e = .returned (.tuple #[.agg (tokCells 3 nm (.slice none 0 0) false ⟨#[]⟩), .int .i64 ((s.size - u.length : Nat) : Int), .bool true])) ∨
    (kd = 2 ∧ ∃ v, e = .returned (.tuple #[.agg (tokCells 2 nm v cl ⟨#[]⟩), .int .i64 ((s.size - u.length : Nat) : Int), .bool true]) ∧ AttsAt w' w.heap.size v l)
end Tym
