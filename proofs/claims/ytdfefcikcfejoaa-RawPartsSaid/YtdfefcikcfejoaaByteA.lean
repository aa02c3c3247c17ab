/- Lower, of the program; blanks, of both. -/
import Derived.Test.YtdfefcikcfejoaaBytes
set_option linter.unusedSimpArgs false
set_option linter.unusedVariables false
open Go Go.RowKit Go.Proofs
namespace Tym

theorem isSpace_ints (c : UInt8) : isSpace c = ((c.toNat : Int) == 9 || (c.toNat : Int) == 10 || (c.toNat : Int) == 12 || (c.toNat : Int) == 13 || (c.toNat : Int) == 32) :=
  byte_all (p := fun c => isSpace c = ((c.toNat : Int) == 9 || (c.toNat : Int) == 10 || (c.toNat : Int) == 12 || (c.toNat : Int) == 13 || (c.toNat : Int) == 32)) (by decide +kernel) c

theorem space_any (c : UInt8) (w : World) : Calls Try.prog 29 #[.int .u8 (c.toNat : Int)] w fun e w' => e = .returned (.bool (isSpace c)) ∧ w = w' := by
  go_enter Try.func29, Try.ntmps29
  go_wp2
  all_goals (go_ret; refine ⟨ret_bool ?_, rfl⟩; rw [isSpace_ints]; simp [*])

theorem spaceR_any (c : UInt8) (w : World) : Calls Try.prog 38 #[.int .u8 (c.toNat : Int)] w fun e w' => e = .returned (.bool (isSpace c)) ∧ w = w' := by
  go_enter Try.func38, Try.ntmps38
  go_wp2
  all_goals (go_ret; refine ⟨ret_bool ?_, rfl⟩; rw [isSpace_ints]; first | done | rfl | simp [*])

theorem take_oneA (l : Bs) (i : Nat) (h : i < l.length) : l.take (i + 1) = l.take i ++ [l.getD i 0] := by
  rw [List.take_add_one, List.getD_eq_getElem?_getD, List.getElem?_eq_getElem h]; rfl
def lowAt (l : Bs) (i : Nat) : Bs := lower (l.take i) ++ l.drop i
theorem lowAt_zero (l : Bs) : lowAt l 0 = l := by simp [lowAt, lower]
theorem lowAt_len (l : Bs) (i : Nat) : (lowAt l i).length = l.length := by simp [lowAt, lower]; omega
theorem lowAt_get (l : Bs) (i : Nat) : (lowAt l i).getD i 0 = l.getD i 0 := by
  rw [List.getD_eq_getElem?_getD, List.getD_eq_getElem?_getD]
  rcases Nat.lt_or_ge i l.length with h | h
  · rw [lowAt, List.getElem?_append_right (by simp [lower]; omega)]
    simp [lower]; congr 1; congr 1; omega
  · rw [List.getElem?_eq_none (by rw [lowAt_len]; exact h), List.getElem?_eq_none h]
theorem lowAt_all (l : Bs) (i : Nat) (h : l.length ≤ i) : lowAt l i = lower l := by simp [lowAt, List.take_of_length_le h, List.drop_eq_nil_of_le h]
theorem lowAt_step (l : Bs) (i : Nat) (h : i < l.length) : lowAt l (i + 1) = (lowAt l i).set i (small (l.getD i 0)) := by
  unfold lowAt lower
  rw [take_oneA l i h, List.map_append, List.set_append_right _ _ (by simp; omega), List.append_assoc]
  congr 1
  rw [show i - (List.map small (List.take i l)).length = 0 from by simp; omega, List.drop_eq_getElem_cons h, List.getD_eq_getElem?_getD, List.getElem?_eq_getElem h]
  rfl

/-- What a row of bytes holds. -/
def Cells (w : World) (b : Nat) (l : Bs) : Prop := ∀ j, j < l.length → w.cell? ⟨b, j, none⟩ = some (cellOf (l.getD j 0)) ∧ w.frozen? ⟨b, j, none⟩ = false
theorem Cells.store {w : World} {b : Nat} {l : Bs} (h : Cells w b l) (i : Nat) (hi : i < l.length) (c : UInt8) : Cells (w.setCell ⟨b, i, none⟩ (cellOf c)) b (l.set i c) := by
  intro j hj
  rw [List.length_set] at hj
  refine ⟨?_, by rw [World.frozen?_setCell]; exact (h j hj).2⟩
  by_cases e : i = j
  · subst e
    rw [World.cell?_setCell_same _ _ _ (h i hi).1]
    simp [List.getD_eq_getElem?_getD, hi]
  · rw [World.cell?_setCell_other (a := ⟨b, i, none⟩) (b := ⟨b, j, none⟩) (h := by simp [e]), (h j hj).1]
    simp [List.getD_eq_getElem?_getD, List.getElem?_set_ne e]

theorem lower_any (s : ByteArray) (w : World) (hs : s.size ≤ 1000000000) : Calls Try.prog 10 #[.string s] w fun e w' => e = .returned (.string (mk (lower (bs s)))) ∧ Below w.heap.size w w' := by
  obtain ⟨cap, w1, hcv, hsz, hbel, hc, hf, _, _⟩ := bytes_of s w
  have hC : Cells w1 w.heap.size (lowAt (bs s) 0) := fun j hj => by
    rw [lowAt_zero] at hj ⊢
    rw [← size_bs] at hj
    exact ⟨hc j hj, hf j hj⟩
  have hlt1 : w.heap.size < w1.heap.size := by omega
  have HC := Lib.hid hC
  clear hc hf hC
  go_enter Try.func10, Try.ntmps10
  go_wp2_with fail
  clear hcv
  go_loopw [10] (fun k wr => ∃ i : Nat, i ≤ s.size ∧ k = .int .i64 i ∧ Hid (Cells wr w.heap.size (lowAt (bs s) i)) ∧ Below w.heap.size w wr) (fun k _ => s.size - (intOf k).toNat)
  case atStart => exact ⟨0, by omega, rfl, HC, hbel⟩
  case round =>
    obtain ⟨i, hi, rfl, HCi, hb⟩ := hrel
    by_cases hlt : i < s.size
    · have hl : i < (lowAt (bs s) i).length := by rw [lowAt_len, ← size_bs]; exact hlt
      have h1 := (HCi.out i hl).1
      have h2 := (HCi.out i hl).2
      rw [lowAt_get] at h1
      unfold cellOf at h1
      have HS := Lib.hid (HCi.out.store i hl (small ((bs s).getD i 0)))
      rw [← lowAt_step _ _ (by rw [← size_bs]; exact hlt)] at HS
      generalize (bs s).getD i 0 = c at *
      go_wp2_with (go_at_call 17; (with_reducible refine (small_any _ _).mono ?_); rintro e w' ⟨rfl, rfl⟩)
      go_roundw
      case rel => exact ⟨i + 1, by omega, by go_num, HS, hb.setCell (Nat.le_refl _) _⟩
      case measure => simp [intOf]; omega
    · have hie : i = s.size := by omega
      have hst := string_of (lower (bs s)) ⟨w.heap.size, 0, none⟩ cap wr (fun j hj => by
        have hX := HCi.out
        rw [lowAt_all _ _ (by rw [← size_bs]; omega)] at hX
        rw [Addr.add_lit, Nat.zero_add]
        exact (hX j hj).1)
      rw [show (lower (bs s)).length = s.size from by rw [size_bs]; simp [lower]] at hst
      go_wp2
      go_ret
      exact ⟨rfl, hb⟩
end Tym
