/- The walk of the reference's Mark. -/
import Derived.Test.YtbgcedhbbfkmcaaEntL
set_option linter.unusedSimpArgs false
set_option linter.unusedVariables false
open Go Go.RowKit Go.Proofs
namespace Tym
attribute [local irreducible] dec taken upto mark markFix find tableObj markR markFind numericR Go.Utf8.encode enc

def MarkRk (s : ByteArray) (w : World) (e : Ending) (w' : World) : Prop := e = .returned (.tuple #[.string (mk (markR (bs s)).1), .int .i64 (markR (bs s)).2]) ∧ Below w.heap.size w w'
theorem MarkRk.mk' {s : ByteArray} {w w' : World} {l : Bs} {n : Nat} (hm : markR (bs s) = (l, n)) (hb : Below w.heap.size w w') : MarkRk s w (.returned (.tuple #[.string (mk l), .int .i64 n])) w' := by
  unfold MarkRk; rw [hm]; exact ⟨rfl, hb⟩
theorem MarkRk.enc {s : ByteArray} {w w' : World} {r : Int} {n : Nat} (hm : markR (bs s) = (Tym.enc r, n + 1)) (hb : Below w.heap.size w w') : MarkRk s w (.returned (.tuple #[.string (Go.Utf8.encode r), .int .i64 ((n : Int) + 1)])) w' := by
  rw [← mk_enc]; exact MarkRk.mk' (n := n + 1) hm hb
theorem MarkRk.no {s : ByteArray} {w w' : World} (hm : markR (bs s) = ([], 0)) (hb : Below w.heap.size w w') : MarkRk s w (.returned (.tuple #[.string ⟨#[]⟩, .int .i64 0])) w' := MarkRk.mk' hm hb

theorem begins_ref_any (s : ByteArray) (n : Bs) (w : World) : Calls Try.prog 24 #[.string s, .string (⟨#[38]⟩ ++ mk n ++ ⟨#[59]⟩)] w fun e w' => e = .returned (.bool (begins (bs s) (38 :: n ++ [59]))) ∧ w = w' := by
  have := begins_any s (⟨#[38]⟩ ++ mk n ++ ⟨#[59]⟩) w
  rw [bs_append, bs_append, bs_mk] at this
  exact this

set_option maxHeartbeats 1000000 in
set_option maxRecDepth 100000 in
theorem markR_name (s : ByteArray) (w : World) (hs : s.size ≤ 1000000000) (n d : Nat) (HC : Hid (∀ w, Calls Try.prog 35 #[.string s] w fun e' w' => e' = .returned (.tuple #[.int .i64 0, .int .i64 d, .int .i64 n]) ∧ w = w')) (HT : Hid (markR (bs s) = markFind (bs s) table)) : Calls Try.prog 18 #[.string s] w (MarkRk s w) := by
  go_enter Try.func18, Try.ntmps18
  go_wp2_with (first | (go_at_call 35; (with_reducible refine (HC.out _).mono ?_); rintro e w' ⟨rfl, rfl⟩) | (go_at_call 23; refine (names_any _).mono ?_; rintro e w' ⟨rfl, rfl⟩))
  have hc : ∀ j, (w.alloc (.cells namesV 42)).cell? ⟨w.heap.size, j, none⟩ = namesV[j]? := fun j => cell_of_row _ _ _ _ _ (0, 0) (blk_new _ _)
  have HCc := Lib.hid hc
  have hbel : Below w.heap.size w (w.alloc (.cells namesV 42)) := (Below.refl _ _).alloc (Nat.le_refl _) _
  clear hc
  generalize w.alloc (.cells namesV 42) = w1 at *
  go_loop [10] (fun k => ∃ i : Nat, i ≤ 98 ∧ k = .int .i64 i ∧ Hid (markFind (bs s) (table.drop i) = markR (bs s))) (fun k => 98 - (intOf k).toNat)
  case atStart => exact ⟨0, by omega, rfl, HT.out.symm⟩
  case round =>
    obtain ⟨i, hi, rfl, HN⟩ := hrel
    by_cases hlt : i < 98
    · obtain ⟨c1, c2, c3⟩ := namesV_cells i hlt
      have h1 := (HCc.out (i * 3)).trans c1
      have h2 := (HCc.out (i * 3 + 1)).trans c2
      clear c1 c2 c3
      have hname : (mk (table.getD i ⟨[], [], false⟩).name).size ≤ 8 := by
        have hp : ∀ e ∈ table, e.name.length ≤ 8 := by decide +kernel
        rw [size_mk, List.getD_eq_getElem?_getD]
        cases hh : table[i]? with
        | none => simp
        | some e => exact hp e (List.mem_of_getElem? hh)
      have hdrop : table.drop i = table.getD i ⟨[], [], false⟩ :: table.drop (i + 1) := by
        have : i < table.length := hlt
        rw [List.drop_eq_getElem_cons this, List.getD_eq_getElem?_getD, List.getElem?_eq_getElem this]; rfl
      have HN2 : Hid (markFind (bs s) (table.getD i ⟨[], [], false⟩ :: table.drop (i + 1)) = markR (bs s)) := by
        have := HN.out; rwa [hdrop] at this
      clear hdrop HN
      generalize table.getD i ⟨[], [], false⟩ = e at *
      have hz2 : (⟨#[38]⟩ ++ mk e.name : ByteArray).size ≤ 9 := by rw [size_append]; have : (⟨#[38]⟩ : ByteArray).size = 1 := rfl; omega
      have HB : Hid (∀ w, Calls Try.prog 24 #[.string s, .string (⟨#[38]⟩ ++ mk e.name ++ ⟨#[59]⟩)] w fun e' w' => e' = .returned (.bool (begins (bs s) (38 :: e.name ++ [59]))) ∧ w = w') := fun w => begins_ref_any s e.name w
      cases hb : begins (bs s) (38 :: e.name ++ [59])
      · have HN3 : Hid (markFind (bs s) (table.drop (i + 1)) = markR (bs s)) := by
          have := HN2.out; unfold markFind at this; rw [List.find?_cons, hb] at this; unfold Hid markFind; exact this
        rw [hb] at HB
        clear hb HN2
        go_wp2_with (go_at_call 24; (with_reducible refine (HB.out _).mono ?_); rintro e w' ⟨rfl, rfl⟩)
        go_round
        case rel => exact ⟨i + 1, by omega, by go_num, HN3⟩
        case measure => simp [intOf]; omega
      · have HM : Hid (markR (bs s) = (e.is, e.name.length + 2)) := by
          have := HN2.out; unfold markFind at this; rw [List.find?_cons, hb] at this; exact this.symm
        rw [hb] at HB
        clear hb HN2
        go_wp2_with (go_at_call 24; (with_reducible refine (HB.out _).mono ?_); rintro e w' ⟨rfl, rfl⟩)
        go_quiet (fail)
        go_wp2
        go_ret2
        rw [← size_mk] at HM
        exact MarkRk.mk' (n := (mk e.name).size + 2) HM.out (below_drewN hbel _)
    · have : i = 98 := by omega
      subst this
      have HM : Hid (markR (bs s) = ([], 0)) := by have := HN.out; exact this.symm.trans (by unfold markFind; rfl)
      clear HN
      go_wp2
      go_ret2
      exact MarkRk.no HM.out hbel
end Tym
