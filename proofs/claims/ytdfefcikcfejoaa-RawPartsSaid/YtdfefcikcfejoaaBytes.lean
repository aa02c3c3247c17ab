/- Rows of bytes: conversions, both ways. -/
import Derived.Test.YtdfefcikcfejoaaEntK
set_option linter.unusedSimpArgs false
set_option linter.unusedVariables false
open Go Go.RowKit Go.Proofs
namespace Tym

def cellOf (b : UInt8) : Value := .int .u8 b.toNat

theorem byteInfo : (Try.prog.info? 5).map (fun i => (i.zero, i.size, i.bytes)) = some (some (.int .u8 0), 1, 1) := by kernel_rfl

theorem bytes_of (s : ByteArray) (w : World) : ∃ cap w1, (convert 9 32 (.string s)).run Try.prog w = .ok (.slice (some ⟨w.heap.size, 0, none⟩) s.size cap) w1 ∧ w1.heap.size = w.heap.size + 1 ∧ Below w.heap.size w w1 ∧
    (∀ j, j < s.size → w1.cell? ⟨w.heap.size, j, none⟩ = some (cellOf ((bs s).getD j 0))) ∧ (∀ j, j < s.size → w1.frozen? ⟨w.heap.size, j, none⟩ = false) ∧ s.size ≤ cap ∧ (s.size ≤ maxLen → cap ≤ maxLen) := by
  refine ⟨_, _, run_bytes_of_string w 9 32 5 s Try.underlying9 Try.underlying32 Try.underlying5, by show (w.heap.push _).size = _; rw [Array.size_push], ((Below.refl _ _).drew).alloc (Nat.le_refl _) _, ?_, ?_, grownCap_ge _ _ _ _, fun h => grownCap_le_maxLen _ _ _ _ h⟩
  · intro j hj
    have hj' : j < s.data.size := hj
    have h1 := World.cell?_alloc_mark w.drew (bytesRow s (grownCap w s.size 0 5)) 5 ((bytesRow s (grownCap w s.size 0 5)).size, (bytesRow s (grownCap w s.size 0 5)).size + 1) j
    refine h1.trans ((bytesRow_at s _ j hj').trans ?_)
    have := get_bs s j hj
    unfold cellOf
    rw [← this]; rfl
  · intro j hj
    have h1 := World.frozen?_alloc_mark w.drew (bytesRow s (grownCap w s.size 0 5)) 5 (bytesRow s (grownCap w s.size 0 5)).size ((bytesRow s (grownCap w s.size 0 5)).size + 1) j
    refine h1.trans ?_
    have hsz : s.size ≤ (bytesRow s (grownCap w s.size 0 5)).size := by unfold bytesRow; rw [Array.size_append, Array.size_map]; exact Nat.le_add_right _ _
    rw [decide_eq_false (by omega)]; rfl

theorem string_of (l : Bs) (a : Addr) (cap : Nat) (w : World) (hc : ∀ j, j < l.length → w.cell? (a.add j) = some (cellOf (l.getD j 0))) :
    (convert 32 9 (.slice (some a) l.length cap)).run Try.prog w = .ok (.string (mk l)) w :=
  run_convert_bytes_back w 32 9 5 a cap l Try.underlying32 Try.underlying5 Try.underlying9 (fun j hj => by
    rw [hc j hj, List.getD_eq_getElem?_getD, List.getElem?_eq_getElem hj]; rfl)

theorem string_own (l : Bs) (base : Nat) (v : Value) (w : World) (h : w.ownsRow base 5 1 v l.length (l.map cellOf)) :
    (convert 32 9 v).run Try.prog w = .ok (.string (mk l)) w := by
  rcases h.2 with ⟨rfl, h0⟩ | ⟨g, cap, cur, rfl, hb, hg, hr⟩
  · have : l = [] := List.eq_nil_of_length_eq_zero h0
    subst this
    exact run_convert_bytes_nil w 32 5 Try.underlying32 Try.underlying5 0 0 9 Try.underlying9
  · refine string_of l _ _ w fun j hj => ?_
    refine h.cells (g := g) rfl j _ ?_
    rw [List.getElem?_map, List.getElem?_eq_getElem hj, List.getD_eq_getElem?_getD, List.getElem?_eq_getElem hj]; rfl
end Tym
