/- The walks of the tag's reader: take, see, and what a byte may be. -/
import Derived.Test.YtpgdkhdnnegmaaaGreatWorlds
import Derived.Test.YtpgdkhdnnegmaaaGreatPlainNote
import Derived.BigQuiet
set_option linter.unusedSimpArgs false
set_option linter.unusedVariables false
open Go Go.RowKit Go.Proofs
namespace Tym
set_option maxRecDepth 20000

/-- The reader's block: what it reads, and where it is. -/
def RdAt (w : World) (b : Nat) (s : ByteArray) (k : Nat) : Prop := w.heap[b]? = some (.cells #[.string s, .int .i64 k] 53 (0, 0))

/-- A function value that says whether a byte may be. -/
def Pays (g : Nat) (lb : Array Value) (p : UInt8 → Bool) (w : World) (b : Nat) : Prop :=
  (∀ args w, (callFunc g args).run Tryz.prog w = .ok (.enter g args) w) ∧
  ∀ (c : UInt8) W, w.grownBy W (some b) → Calls Tryz.prog g (#[.int .u8 c.toNat] ++ lb) W fun e w' => e = .returned (.bool (p c)) ∧ W = w'

theorem Pays.later {g : Nat} {lb : Array Value} {p : UInt8 → Bool} {w w' : World} {b : Nat} (h : Pays g lb p w b) (hg : w.grownBy w' (some b)) : Pays g lb p w' b :=
  ⟨h.1, fun c W hW => h.2 c W (grown_trans hg hW)⟩

def atOf (w : World) (b : Nat) : Nat := match w.cell? ⟨b, 1, none⟩ with | some v => (intOf v).toNat | none => 0
theorem atOf_rd {w : World} {b : Nat} {s : ByteArray} {k : Nat} (h : RdAt w b s k) : atOf w b = k := by
  unfold atOf; rw [two_cell1 h]; simp [intOf]
theorem RdAt.below {w w' : World} {b : Nat} {s : ByteArray} {k : Nat} (h : RdAt w b s k) (hb : Below w.heap.size w w') : RdAt w' b s k := below_block hb h

theorem grown_drewN {w w' : World} {r : Option Nat} (h : w.grownBy w' r) (n : Nat) : w.grownBy (w'.drewN n) r := grown_trans h (grown_below (below_drewN (Below.refl _ _) n) r)

theorem see_in (b : Nat) (s : ByteArray) (k : Nat) (w : World) (hs : s.size ≤ 1000000) (hk : k < s.size) (hb : RdAt w b s k) :
    Calls Tryz.prog 37 #[.pointer (some ⟨b, 0, none⟩)] w fun e w' => e = .returned (.tuple #[.int .u8 (s[k]'hk).toNat, .bool true]) ∧ Below w.heap.size w w' := by
  have h0 := two_cell0 hb
  have h1 := two_cell1 hb
  have ht : ¬ (s.size : Int) ≤ (k : Int) := by omega
  have ht2 : ¬ ((k : Int) ≥ (s.size : Int)) := by omega
  go_enter Tryz.func37, Tryz.ntmps37
  go_wp2_with fail
  go_quiet (fail)
  go_wp2_with fail
  go_quiet (fail)
  go_wp2_with fail
  go_ret2
  exact ⟨rfl, below_drewN (below_drewN (Below.refl _ _) _) _⟩

theorem see_out (b : Nat) (s : ByteArray) (k : Nat) (w : World) (hs : s.size ≤ 1000000) (hk : k = s.size) (hb : RdAt w b s k) :
    Calls Tryz.prog 37 #[.pointer (some ⟨b, 0, none⟩)] w fun e w' => e = .returned (.tuple #[.int .u8 0, .bool false]) ∧ Below w.heap.size w w' := by
  have h0 := two_cell0 hb
  have h1 := two_cell1 hb
  have ht : (s.size : Int) ≤ (k : Int) := by omega
  go_enter Tryz.func37, Tryz.ntmps37
  go_wp2_with fail
  go_quiet (fail)
  go_wp2_with fail
  go_ret2
  exact ⟨rfl, below_drewN (Below.refl _ _) _⟩

theorem take_step (p : UInt8 → Bool) (l : Bs) (j n : Nat) (hj : j < l.length) (h : j + ((l.drop j).takeWhile p).length = n) : if p (l.getD j 0) then j + 1 + ((l.drop (j + 1)).takeWhile p).length = n else j = n := by
  have hd : l.drop j = l.getD j 0 :: l.drop (j + 1) := by
    rw [List.drop_eq_getElem_cons hj, List.getD_eq_getElem?_getD, List.getElem?_eq_getElem hj]; rfl
  rw [hd, List.takeWhile_cons] at h
  by_cases hp : p (l.getD j 0) = true
  · rw [if_pos hp] at h ⊢; rw [List.length_cons] at h; omega
  · rw [if_neg hp] at h ⊢; simpa using h

theorem take_while_take (p : UInt8 → Bool) (r : Bs) : r.takeWhile p = r.take (r.takeWhile p).length := by
  have := List.takeWhile_prefix p (l := r)
  exact List.prefix_iff_eq_take.1 this

theorem rd_set {w : World} {b : Nat} {s : ByteArray} {k : Nat} (h : RdAt w b s k) (n : Nat) : RdAt ((w.drewN n).setCell ⟨b, 1, none⟩ (.int .i64 ((k : Int) + 1))) b s (k + 1) :=
  two_set1 (h.below (below_drewN (Below.refl _ _) n))

set_option maxHeartbeats 1000000 in
theorem take_any (g : Nat) (lb : Array Value) (p : UInt8 → Bool) (b : Nat) (s : ByteArray) (k : Nat) (w : World) (hs : s.size ≤ 1000000) (hk : k ≤ s.size) (hb : RdAt w b s k) (hp : Pays g lb p w b) :
    Calls Tryz.prog 34 #[.pointer (some ⟨b, 0, none⟩), .func (.func g) #[] lb] w fun e w' =>
      e = .returned (.string (mk (((bs s).drop k).takeWhile p))) ∧ RdAt w' b s (k + (((bs s).drop k).takeWhile p).length) ∧ w.grownBy w' (some b) := by
  have eg := hp.1
  have HP := Lib.hid hp.2
  clear hp
  have hle : k + (((bs s).drop k).takeWhile p).length ≤ s.size := by
    have := (List.takeWhile_prefix p (l := (bs s).drop k)).length_le
    rw [List.length_drop, ← size_bs] at this; omega
  have hres : mk (((bs s).drop k).takeWhile p) = s.extract k (k + (((bs s).drop k).takeWhile p).length) := by
    apply bs_inj
    rw [bs_mk, bs_extract, Nat.add_sub_cancel_left]
    exact take_while_take p _
  rw [hres]
  clear hres
  generalize hn : k + (((bs s).drop k).takeWhile p).length = n at hle ⊢
  have HN := Lib.hid hn
  clear hn
  have h0 := two_cell0 hb
  have h1 := two_cell1 hb
  have HB := Lib.hid hb
  clear hb
  go_enter Tryz.func34, Tryz.ntmps34
  go_wp2_with fail
  go_loopw [] (fun wr => ∃ j : Nat, j ≤ s.size ∧ k ≤ j ∧ RdAt wr b s j ∧ Hid (j + (((bs s).drop j).takeWhile p).length = n) ∧ w.grownBy wr (some b)) (fun wr => s.size - atOf wr b)
  case atStart => exact ⟨k, hk, Nat.le_refl _, HB.out, HN, grown_refl _ _⟩
  case round =>
    obtain ⟨j, hj, hkj, hb, HNj, hg⟩ := hrel
    clear h0 h1
    have h0 := two_cell0 hb
    have h1 := two_cell1 hb
    have f1 := two_free1 hb
    by_cases hlt : j < s.size
    · have hst := take_step p (bs s) j n (by rw [← size_bs]; exact hlt) HNj.out
      have hc : (bs s).getD j 0 = s[j]'hlt := by rw [get_bs s j hlt]
      rw [hc] at hst
      have HC := Lib.hid (fun n => HP.out (s[j]'hlt) (wr.drewN n) (grown_drewN hg n))
      clear hc
      cases hpc : p (s[j]'hlt) with
      | true =>
        rw [hpc] at hst
        simp only [if_true, Bool.false_eq_true, if_false] at hst
        have HS := Lib.hid hst
        clear hst
        go_wp2_with fail
        go_quiet ((go_at_fn g; exact Calls.quiet_of_same ((HC.out _).mono fun _ _ h => ⟨h.1, h.2.symm⟩)))
        go_wp2_with fail
        go_roundw
        case rel =>
          refine ⟨j + 1, by omega, by omega, ?_, HS, ?_⟩
          · exact rd_set hb _
          · exact grown_trans (grown_drewN hg _) (grown_set _ ⟨b, 1, none⟩ _)
        case measure =>
          rw [atOf_rd (rd_set hb _), atOf_rd hb]; omega
      | false =>
        rw [hpc] at hst
        simp only [if_true, Bool.false_eq_true, if_false] at hst
        have HS := Lib.hid hst
        clear hst
        go_wp2_with fail
        go_quiet ((go_at_fn g; exact Calls.quiet_of_same ((HC.out _).mono fun _ _ h => ⟨h.1, h.2.symm⟩)))
        go_wp2_with fail
        go_quiet (fail)
        go_wp2_with fail
        go_ret
        have hjn := HS.out
        subst hjn
        exact ⟨rfl, hb.below (below_drewN (below_drewN (Below.refl _ _) _) _), grown_drewN (grown_drewN hg _) _⟩
    · obtain rfl : j = s.size := by omega
      have hjn : n = s.size := by
        have := HNj.out
        rw [List.drop_eq_nil_of_le (by rw [← size_bs]; omega)] at this
        simpa using this.symm
      subst hjn
      go_wp2_with fail
      go_quiet (fail)
      go_wp2_with fail
      go_quiet (fail)
      go_wp2_with fail
      go_ret
      exact ⟨rfl, hb.below (below_drewN (below_drewN (Below.refl _ _) _) _), grown_drewN (grown_drewN hg _) _⟩
/-! What a byte may be. -/
theorem namedB_any (c : UInt8) (w : World) : Calls Tryz.prog 35 #[.int .u8 (c.toNat : Int)] w fun e w' => e = .returned (.bool (namedB c)) ∧ w = w' := by
  have h1 : (c == 47) = ((c.toNat : Int) == 47) := byte_all (p := fun c => (c == 47) = ((c.toNat : Int) == 47)) (by decide +kernel) c
  have h2 : (c == 62) = ((c.toNat : Int) == 62) := byte_all (p := fun c => (c == 62) = ((c.toNat : Int) == 62)) (by decide +kernel) c
  have hN : namedB c = (!isSpace c && !((c.toNat : Int) == 47) && !((c.toNat : Int) == 62)) := by
    unfold namedB; rw [bne, bne, h1, h2]
  rw [hN]
  have HS : Hid (∀ w, Calls Tryz.prog 36 #[.int .u8 (c.toNat : Int)] w fun e w' => e = .returned (.bool (isSpace c)) ∧ w = w') := fun w => space_any c w
  clear hN h1 h2
  generalize isSpace c = x at *
  have k47 : ((c.toNat : Int) != 47) = !((c.toNat : Int) == 47) := rfl
  have k62 : ((c.toNat : Int) != 62) = !((c.toNat : Int) == 62) := rfl
  cases h47 : ((c.toNat : Int) == 47) <;> cases h62 : ((c.toNat : Int) == 62) <;> rw [h47] at k47 <;> rw [h62] at k62 <;> simp only [Bool.not_true, Bool.not_false] at k47 k62 <;> cases x
  all_goals
    go_enter Tryz.func35, Tryz.ntmps35
    go_wp2_with fail
    refine (HS.out _).mono ?_; rintro e w1 ⟨rfl, rfl⟩
    go_wp2_with fail
    go_ret
    exact ⟨rfl, rfl⟩
theorem keyB_any (c : UInt8) (w : World) : Calls Tryz.prog 66 #[.int .u8 (c.toNat : Int)] w fun e w' => e = .returned (.bool (keyB c)) ∧ w = w' := by
  have h1 : (c == 61) = ((c.toNat : Int) == 61) := byte_all (p := fun c => (c == 61) = ((c.toNat : Int) == 61)) (by decide +kernel) c
  have hN : keyB c = (namedB c && !((c.toNat : Int) == 61)) := by
    unfold keyB namedB; rw [show (c != 61) = !(c == 61) from rfl, h1]
  rw [hN]
  have HS : Hid (∀ w, Calls Tryz.prog 35 #[.int .u8 (c.toNat : Int)] w fun e w' => e = .returned (.bool (namedB c)) ∧ w = w') := fun w => namedB_any c w
  clear hN h1
  generalize namedB c = x at *
  have k61 : ((c.toNat : Int) != 61) = !((c.toNat : Int) == 61) := rfl
  cases h61 : ((c.toNat : Int) == 61) <;> rw [h61] at k61 <;> simp only [Bool.not_true, Bool.not_false] at k61 <;> cases x
  all_goals
    go_enter Tryz.func66, Tryz.ntmps66
    go_wp2_with fail
    refine (HS.out _).mono ?_; rintro e w1 ⟨rfl, rfl⟩
    go_wp2_with fail
    go_ret
    exact ⟨rfl, rfl⟩

theorem bareB_any (c : UInt8) (w : World) : Calls Tryz.prog 84 #[.int .u8 (c.toNat : Int)] w fun e w' => e = .returned (.bool (bareB c)) ∧ w = w' := by
  have h1 : (c == 62) = ((c.toNat : Int) == 62) := byte_all (p := fun c => (c == 62) = ((c.toNat : Int) == 62)) (by decide +kernel) c
  have hN : bareB c = (!isSpace c && !((c.toNat : Int) == 62)) := by
    unfold bareB; rw [show (c != 62) = !(c == 62) from rfl, h1]
  rw [hN]
  have HS : Hid (∀ w, Calls Tryz.prog 36 #[.int .u8 (c.toNat : Int)] w fun e w' => e = .returned (.bool (isSpace c)) ∧ w = w') := fun w => space_any c w
  clear hN h1
  generalize isSpace c = x at *
  have k62 : ((c.toNat : Int) != 62) = !((c.toNat : Int) == 62) := rfl
  cases h62 : ((c.toNat : Int) == 62) <;> rw [h62] at k62 <;> simp only [Bool.not_true, Bool.not_false] at k62 <;> cases x
  all_goals
    go_enter Tryz.func84, Tryz.ntmps84
    go_wp2_with fail
    refine (HS.out _).mono ?_; rintro e w1 ⟨rfl, rfl⟩
    go_wp2_with fail
    go_ret
    exact ⟨rfl, rfl⟩

theorem quoteB_any (c q : UInt8) (b : Nat) (w : World) (hb : w.cell? ⟨b, 0, none⟩ = some (.int .u8 (q.toNat : Int))) : Calls Tryz.prog 85 #[.int .u8 (c.toNat : Int), .pointer (some ⟨b, 0, none⟩)] w fun e w' => e = .returned (.bool (c != q)) ∧ w = w' := by
  have h1 : (c != q) = ((c.toNat : Int) != (q.toNat : Int)) := by
    rw [Bool.eq_iff_iff, bne_iff_ne, bne_iff_ne, Ne, Ne]
    constructor
    · intro h h'; apply h; exact UInt8.toNat.inj (by omega)
    · intro h h'; apply h; rw [h']
  rw [h1]
  go_enter Tryz.func85, Tryz.ntmps85
  go_wp2_with fail
  go_ret
  exact ⟨rfl, rfl⟩

theorem pays_space (w : World) (b : Nat) : Pays 36 #[] isSpace w b := ⟨enters_of Tryz.func36 (by kernel_rfl) rfl, fun c W _ => space_any c W⟩
theorem pays_named (w : World) (b : Nat) : Pays 35 #[] namedB w b := ⟨enters_of Tryz.func35 (by kernel_rfl) rfl, fun c W _ => namedB_any c W⟩
theorem pays_key (w : World) (b : Nat) : Pays 66 #[] keyB w b := ⟨enters_of Tryz.func66 (by kernel_rfl) rfl, fun c W _ => keyB_any c W⟩
theorem pays_bare (w : World) (b : Nat) : Pays 84 #[] bareB w b := ⟨enters_of Tryz.func84 (by kernel_rfl) rfl, fun c W _ => bareB_any c W⟩
theorem pays_quote (w : World) (b bc : Nat) (q : UInt8) (t : TypeId) (hne : bc ≠ b) (h : w.heap[bc]? = some (.cells #[.int .u8 (q.toNat : Int)] t (0, 0))) : Pays 85 #[.pointer (some ⟨bc, 0, none⟩)] (· != q) w b :=
  ⟨enters_of Tryz.func85 (by kernel_rfl) rfl, fun c W hW => quoteB_any c q bc W (cell_of_one (grown_block hW h (fun e => hne (by cases e; rfl))))⟩
end Tym
