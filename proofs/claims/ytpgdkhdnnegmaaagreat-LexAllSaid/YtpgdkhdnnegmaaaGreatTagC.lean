/- The walk of the tag's reader: attr. -/
import Derived.Test.YtpgdkhdnnegmaaaGreatTagB
import Derived.Deep.RegionWith
import Derived.Deep.CutRange
set_option linter.unusedSimpArgs false
set_option linter.unusedVariables false
open Go Go.RowKit Go.Proofs
namespace Tym
set_option maxRecDepth 20000

set_option maxHeartbeats 4000000 in
theorem attr_plain (b : Nat) (s : ByteArray) (k k2 k3 : Nat) (w : World) (hs : s.size ≤ 1000000) (hk : k < s.size) (hb : RdAt w b s k) (h2 : skip keyB s (k + 1) = k2) (h3 : skip isSpace s k2 = k3) (nm : ByteArray) (hnm : nm = mk (lower (bs (s.extract k k2))))
    (x : Int) (is : Bool) (hx : is = true → (x != 61) = true) (H5 : Hid (∀ w, RdAt w b s k3 → Calls Tryz.prog 37 #[.pointer (some ⟨b, 0, none⟩)] w fun e w' => e = .returned (.tuple #[.int .u8 x, .bool is]) ∧ Below w.heap.size w w')) :
    Calls Tryz.prog 39 #[.pointer (some ⟨b, 0, none⟩)] w fun e w' => e = .returned (.tuple #[.agg #[.string nm, .string ⟨#[]⟩], .bool true]) ∧ RdAt w' b s k3 ∧ w.grownBy w' (some b) := by
  have hs2 := skip_le keyB s (k + 1) (by omega)
  have hs3 := skip_le isSpace s k2 (by omega)
  have HB := Lib.hid hb
  have H1 : Hid (∀ w, RdAt w b s (k + 1) → Calls Tryz.prog 34 #[.pointer (some ⟨b, 0, none⟩), .func (.func 66) #[] #[]] w fun e w' =>
      e = .returned (.string (s.extract (k + 1) k2)) ∧ RdAt w' b s k2 ∧ w.grownBy w' (some b)) := fun w hb => by rw [← h2]; exact take_skip _ _ keyB b s (k + 1) w hs (by omega) hb (pays_key w b)
  have H2 : Hid (∀ w, Calls Tryz.prog 29 #[.string (s.extract k k2)] w fun e w' => e = .returned (.string nm) ∧ Below w.heap.size w w') := fun w => by rw [hnm]; exact lower_any _ w (by rw [ByteArray.size_extract]; omega)
  have H3 : Hid (∀ w, RdAt w b s k2 → Calls Tryz.prog 34 #[.pointer (some ⟨b, 0, none⟩), .func (.func 36) #[] #[]] w fun e w' =>
      e = .returned (.string (s.extract k2 k3)) ∧ RdAt w' b s k3 ∧ w.grownBy w' (some b)) := fun w hb => by rw [← h3]; exact take_skip _ _ isSpace b s k2 w hs (by omega) hb (pays_space w b)
  have c0 := two_cell0 hb
  have c1 := two_cell1 hb
  have f1 := two_free1 hb
  have hlt := lt_of_block hb
  rw [h2] at hs2
  have hb' := hb.step
  clear hb h2 h3 hnm
  go_enter Tryz.func39, Tryz.ntmps39
  go_wp2_with fail
  refine (H1.out _ (hb'.alloc _)).mono ?_; rintro e w1 ⟨rfl, hb1, hg1⟩
  have hr1 := grown_block hg1 (set_alloc_new _ _ _ _) (by simp; omega)
  clear c0 c1 f1
  have c0 := two_cell0 hb1
  have c1 := two_cell1 hb1
  have hlt1 := lt_of_block hb1
  go_wp2_with fail
  go_cut [5] from 23 to 34 (fun v5 wx => ∃ ba : Nat, v5 = .pointer (some ⟨ba, 0, none⟩) ∧ w1.heap.size ≤ ba ∧ wx.heap[ba]? = some (.cells #[.string nm, .string ⟨#[]⟩] 59 (0, 0)) ∧ Below w1.heap.size w1 wx)
  case first =>
    go_region_with (go_at_call 29; (with_reducible refine (H2.out _).mono ?_); rintro e w2 ⟨rfl, hB2⟩; try (have hx : w2.heap[w1.heap.size]? = some (.cells #[.string ⟨#[]⟩, .string ⟨#[]⟩] 59 (0, 0)) := below_block hB2 (heap_alloc_new _ _); have x0 := two_cell0 hx; have x1 := two_cell1 hx; have y0 := two_free0 hx; have y1 := two_free1 hx))
    all_goals (go_wp2_with fail; go_meet)
    all_goals first
      | exact ⟨_, rfl, hB2.size, heap_alloc_new _ _, (show Below w1.heap.size w1 w2 from ⟨hB2.os, hB2.tape, hB2.output, hB2.size, hB2.block⟩).alloc hB2.size _⟩
      | exact ⟨_, rfl, Nat.le_refl _, row_set (row_set hx 0 _) 1 _, ((below_alloc_then (below_undrew hB2)).setCell (p := ⟨w1.heap.size, 0, none⟩) (Nat.le_refl _) _).setCell (p := ⟨w1.heap.size, 1, none⟩) (Nat.le_refl _) _⟩
  case rest =>
    obtain ⟨ba, rfl, hba, hbk, hbl⟩ := hcut
    have hb2 := hb1.below hbl
    have hr2 := below_block hbl hr1
    clear c0 c1
    go_wp2_with fail
    refine (H3.out _ hb2).mono ?_; rintro e w3 ⟨rfl, hb3, hg3⟩
    go_wp2_with fail
    refine (H5.out _ hb3).mono ?_; rintro e w4 ⟨rfl, hB4⟩
    have hrl := lt_of_block hr1
    have hbk4 := below_block hB4 (grown_block hg3 hbk (by simp; omega))
    have hr4 := below_block hB4 (grown_block hg3 hr2 (by simp; omega))
    have a0 := two_cell0 hbk4
    have a1 := two_cell1 hbk4
    have r0 := two_cell0 hr4
    have r1 := two_cell1 hr4
    have s0 := two_free0 hr4
    have s1 := two_free1 hr4
    have hne : w.heap.size ≠ ba := by omega
    have G : w.grownBy w4 (some b) := grown_trans (grown_trans (grown_trans (grown_trans (grown_alloc (grown_set w ⟨b, 1, none⟩ _) _) hg1) (grown_below hbl _)) hg3) (grown_below hB4 _)
    have hb4 := hb3.below hB4
    cases is with
    | false =>
      go_wp2_with fail
      exact ret_cell_tmp rfl rfl rfl (row_set (row_set hr4 0 _) 1 _) Tryz.underlying59 rfl (by kernel_rfl) ⟨rfl, block_other (block_other hb4 (by show b ≠ w.heap.size; omega) _) (by show b ≠ w.heap.size; omega) _, grown_setNew (grown_setNew G (Nat.le_refl _) _) (Nat.le_refl _) _⟩
    | true =>
      have hx1 := hx rfl
      go_wp2_with fail
      exact ret_cell_tmp rfl rfl rfl (row_set (row_set hr4 0 _) 1 _) Tryz.underlying59 rfl (by kernel_rfl) ⟨rfl, block_other (block_other hb4 (by show b ≠ w.heap.size; omega) _) (by show b ≠ w.heap.size; omega) _, grown_setNew (grown_setNew G (Nat.le_refl _) _) (Nat.le_refl _) _⟩
end Tym
