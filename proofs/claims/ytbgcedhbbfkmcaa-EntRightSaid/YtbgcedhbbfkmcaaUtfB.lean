/- The walk of front. -/
import Derived.Test.YtbgcedhbbfkmcaaUtfA
import Derived.BigQuiet
set_option linter.unusedSimpArgs false
set_option linter.unusedVariables false
open Go Go.RowKit Go.Proofs
namespace Tym
set_option maxRecDepth 20000

/-- What a slice of bytes reads: from off on, in block b. -/
def Reads (w : World) (b off : Nat) (l : Bs) : Prop := ∀ j, j < l.length → w.cell? ⟨b, off + j, none⟩ = some (.int .u8 ((l.getD j 0).toNat : Int))
theorem Reads.kept {w w' : World} {b off : Nat} {l : Bs} (h : Reads w b off l) (hb : Below w.heap.size w w') (hl : b < w.heap.size) : Reads w' b off l := fun j hj => (hb.cell (p := ⟨b, off + j, none⟩) hl).trans (h j hj)

theorem front_next (n : Nat) (a c : UInt8) (l : Bs) (i : Nat) (hi : i < l.length) (hn : i < n) (hc : c = l.getD i 0) (ok : (if i = 1 then second a c else isTail c) = true) : frontAt n a (l.drop i) i = frontAt n a (l.drop (i + 1)) (i + 1) := by
  rw [List.drop_eq_getElem_cons hi, frontAt_cons, if_pos hn]
  rw [List.getD_eq_getElem?_getD, List.getElem?_eq_getElem hi] at hc
  rw [show l[i] = c from hc.symm, if_pos ok]
theorem front_stop (n : Nat) (a c : UInt8) (l : Bs) (i : Nat) (hi : i < l.length) (hn : i < n) (hc : c = l.getD i 0) (ok : (if i = 1 then second a c else isTail c) = false) : frontAt n a (l.drop i) i = (i, false) := by
  rw [List.drop_eq_getElem_cons hi, frontAt_cons, if_pos hn]
  rw [List.getD_eq_getElem?_getD, List.getElem?_eq_getElem hi] at hc
  rw [show l[i] = c from hc.symm, if_neg (by rw [ok]; simp)]
theorem front_out (n : Nat) (a : UInt8) (l : Bs) (i : Nat) (h : ¬ (i < n ∧ i < l.length)) : frontAt n a (l.drop i) i = (i, decide (i = n)) := by
  rcases Nat.lt_or_ge i l.length with h1 | h1
  · rw [List.drop_eq_getElem_cons h1, frontAt_cons, if_neg (by omega)]
  · rw [List.drop_eq_nil_of_le h1]; rfl

theorem ret_tib {a b : Int} {x y : Bool} (h : a = b) (h' : x = y) : Ending.returned (.tuple #[.int .i64 a, .bool x]) = .returned (.tuple #[.int .i64 b, .bool y]) := by rw [h, h']

attribute [local irreducible] front frontAt second isTail many

theorem front_any (b off cap : Nat) (l : Bs) (w : World) (hl : 0 < l.length) (hlen : l.length ≤ 1000000000) (hcap : l.length ≤ cap) (hb : b < w.heap.size) (hc : Reads w b off l) :
    Calls Try.prog 46 #[.slice (some ⟨b, off, none⟩) l.length cap] w fun e w' => e = .returned (.tuple #[.int .i64 (front l).1, .bool (front l).2]) ∧ Below w.heap.size w w' := by
  obtain ⟨a, ha⟩ : ∃ a, a = l.getD 0 0 := ⟨_, rfl⟩
  have hF : front l = if many a = 0 then (1, false) else frontAt (many a) a (l.drop 1) 1 := by
    cases l with
    | nil => simp at hl
    | cons x t => rw [show a = x from ha]; exact front_cons x t
  have h0 := hc 0 hl
  rw [← ha] at h0
  simp only [Nat.add_zero] at h0
  have HC := Lib.hid hc
  have HA := Lib.hid ha
  have HF := Lib.hid hF
  have hmany := Lib.hid (many_any a)
  clear hc ha hF
  have hm4 : many a ≤ 4 := by unfold many; repeat' split
                              all_goals omega
  generalize many a = n at *
  by_cases hn0 : n = 0
  · have hz : ((n : Int) == 0) = true := by rw [beq_iff_eq]; omega
    have HF2 : Hid (front l = (1, false)) := by have := HF.out; rw [if_pos hn0] at this; exact this
    clear HF hn0
    go_enter Try.func46, Try.ntmps46
    go_wp2_with (go_at_call 52; (with_reducible refine (hmany.out _).mono ?_); rintro e w' ⟨rfl, rfl⟩)
    go_ret2
    exact ⟨by rw [HF2.out]; rfl, Below.refl _ _⟩
  · have hz : ((n : Int) == 0) = false := by rw [beq_eq_false_iff_ne]; omega
    have HF2 : Hid (front l = frontAt n a (l.drop 1) 1) := by have := HF.out; rw [if_neg hn0] at this; exact this
    clear HF
    go_enter Try.func46, Try.ntmps46
    go_wp2_with (go_at_call 52; (with_reducible refine (hmany.out _).mono ?_); rintro e w' ⟨rfl, rfl⟩)
    go_loopw [5] (fun k wr => ∃ i : Nat, 1 ≤ i ∧ i ≤ l.length ∧ i ≤ n ∧ k = .int .i64 i ∧ Hid (frontAt n a (l.drop i) i = front l) ∧ Below w.heap.size w wr) (fun k _ => 5 - (intOf k).toNat)
    case atStart => exact ⟨1, by omega, by omega, by omega, rfl, HF2.out.symm, Below.refl _ _⟩
    case round =>
      obtain ⟨i, hi1, hil, hin, rfl, HN, hbel⟩ := hrel
      have hc0 := (hbel.cell (p := ⟨b, off, none⟩) hb).trans h0
      by_cases hlt : i < n
      · by_cases hll : i < l.length
        · obtain ⟨c, hcc⟩ : ∃ c, c = l.getD i 0 := ⟨_, rfl⟩
          have hci := (hbel.cell (p := ⟨b, off + i, none⟩) hb).trans (HC.out i hll)
          rw [← hcc] at hci
          have hs1 := hbel.size
          by_cases h1 : i = 1
          · subst h1
            have hS : Hid (∀ w, Calls Try.prog 53 #[.int .u8 (a.toNat : Int), .int .u8 (c.toNat : Int)] w fun e w' => e = .returned (.bool (second a c)) ∧ w = w') := second_any a c
            cases hsec : second a c
            · have HX : Hid (front l = (1, false)) := (HN.out.symm).trans (front_stop n a c l 1 hll hlt hcc (by rw [if_pos rfl]; exact hsec))
              rw [hsec] at hS
              clear HN hcc hsec
              go_wp2_with fail
              go_quiet ((go_at_call 53; exact Calls.quiet_of_same ((hS.out _).mono fun _ _ h => ⟨h.1, h.2.symm⟩)))
              go_wp2
              go_ret2
              exact ⟨by rw [HX.out]; rfl, below_drewN hbel _⟩
            · have HX : Hid (frontAt n a (l.drop 2) 2 = front l) := by
                have := HN.out; rwa [front_next n a c l 1 hll hlt hcc (by rw [if_pos rfl]; exact hsec)] at this
              rw [hsec] at hS
              clear HN hcc hsec
              go_wp2_with fail
              go_quiet ((go_at_call 53; exact Calls.quiet_of_same ((hS.out _).mono fun _ _ h => ⟨h.1, h.2.symm⟩)))
              go_wp2
              go_roundw
              case rel => exact ⟨2, by omega, by omega, by omega, by go_num, HX, below_drewN hbel _⟩
              case measure => simp [intOf]
          · have hz1 : ((i : Int) == 1) = false := by rw [beq_eq_false_iff_ne]; omega
            have hgt : (1 : Int) < (i : Int) := by omega
            by_cases ht1 : c.toNat < 128
            · have HX : Hid (front l = (i, false)) := (HN.out.symm).trans (front_stop n a c l i hll hlt hcc (by rw [if_neg h1]; unfold isTail; exact decide_eq_false (by omega)))
              have hd1 : decide ((c.toNat : Int) < 128) = true := decide_eq_true (by omega)
              have hd2 : (c.toNat : Int) < 128 := by omega
              clear HN hcc h1
              go_wp2_with fail
              go_quiet (fail)
              go_wp2
              go_ret2
              exact ⟨by rw [HX.out]; rfl, below_drewN hbel _⟩
            · by_cases ht2 : 191 < c.toNat
              · have HX : Hid (front l = (i, false)) := (HN.out.symm).trans (front_stop n a c l i hll hlt hcc (by rw [if_neg h1]; unfold isTail; exact decide_eq_false (by omega)))
                have hd1 : decide ((c.toNat : Int) < 128) = false := decide_eq_false (by omega)
                have hd2 : (191 : Int) < (c.toNat : Int) := by omega
                clear HN hcc h1
                go_wp2_with fail
                go_quiet (fail)
                go_wp2
                go_ret2
                exact ⟨by rw [HX.out]; rfl, below_drewN hbel _⟩
              · have HX : Hid (frontAt n a (l.drop (i + 1)) (i + 1) = front l) := by
                  have := HN.out; rwa [front_next n a c l i hll hlt hcc (by rw [if_neg h1]; unfold isTail; exact decide_eq_true (by omega))] at this
                have hd1 : decide ((c.toNat : Int) < 128) = false := decide_eq_false (by omega)
                have hd2 : decide ((191 : Int) < (c.toNat : Int)) = false := decide_eq_false (by omega)
                clear HN hcc h1
                go_wp2_with fail
                go_quiet (fail)
                go_wp2
                go_roundw
                case rel => exact ⟨i + 1, by omega, by omega, by omega, by go_num, HX, below_drewN hbel _⟩
                case measure => simp [intOf]; omega
        · have HX : Hid (front l = (i, decide (i = n))) := (HN.out.symm).trans (front_out n a l i (by omega))
          have hz1 : ((i : Int) == (n : Int)) = false := by rw [beq_eq_false_iff_ne]; omega
          clear HN
          go_wp2
          go_ret2
          exact ⟨by rw [HX.out]; exact ret_tib rfl (decide_eq_false (by omega)).symm, hbel⟩
      · have HX : Hid (front l = (i, decide (i = n))) := (HN.out.symm).trans (front_out n a l i (by omega))
        have hz1 : ((i : Int) == (n : Int)) = true := by rw [beq_iff_eq]; omega
        clear HN
        go_wp2
        go_ret2
        exact ⟨by rw [HX.out]; exact ret_tib rfl (decide_eq_true (by omega)).symm, hbel⟩
end Tym
