/- The walks of the reference's one. -/
import Derived.Test.YtpgdkhdnnegmaaaGreatEntG
set_option linter.unusedSimpArgs false
set_option linter.unusedVariables false
open Go Go.RowKit Go.Proofs
namespace Tym
attribute [local irreducible] named namedR litR isLetter isDigit number numericR

theorem numericR_end (s : Bs) : (numericR s).1 ≤ s.length := by rw [numericR_eq]; exact numeric_end 100000000 s

set_option maxHeartbeats 1000000 in
theorem one_end (s : ByteArray) (attr : Bool) (w : World) (hs : s.size ≤ 1000000000) (n d e : Nat) (HC : Hid (∀ w : World, Calls Tryz.prog 80 #[.string s] w fun e' w' => e' = .returned (.tuple #[.int .i64 e, .int .i64 d, .int .i64 n]) ∧ w = w')) (he : 0 < e) (HT : Hid (oneR (bs s) attr = (enc (number n), e))) (hlt : ¬ e < s.size) : Calls Tryz.prog 61 #[.string s, .bool attr] w fun e w' => e = .returned (.tuple #[.string (mk (oneR (bs s) attr).1), .int .i64 (oneR (bs s) attr).2]) ∧ Below w.heap.size w w' := by
  have hbd := build_one
  have hcv := conv_one
  go_enter Tryz.func61, Tryz.ntmps61
  go_wp2_with (first | (go_at_call 80; (with_reducible refine (HC.out _).mono ?_); rintro e w' ⟨rfl, rfl⟩) | (go_at_call 81; (with_reducible refine (numberR_any _ _).mono ?_); rintro e w' ⟨rfl, hb⟩))
  go_ret2
  exact ⟨by rw [HT.out]; rfl, hb.trans (((Below.refl _ _).alloc (Nat.le_refl _) _).mono hb.size)⟩

set_option maxHeartbeats 1000000 in
theorem one_semi (s : ByteArray) (attr : Bool) (w : World) (hs : s.size ≤ 1000000000) (n d e : Nat) (HC : Hid (∀ w : World, Calls Tryz.prog 80 #[.string s] w fun e' w' => e' = .returned (.tuple #[.int .i64 e, .int .i64 d, .int .i64 n]) ∧ w = w')) (he : 0 < e) (HT : Hid (oneR (bs s) attr = (enc (number n), e + 1))) (hlt : e < s.size) (h59 : ((s[e].toNat : Int) == 59) = true) : Calls Tryz.prog 61 #[.string s, .bool attr] w fun e w' => e = .returned (.tuple #[.string (mk (oneR (bs s) attr).1), .int .i64 (oneR (bs s) attr).2]) ∧ Below w.heap.size w w' := by
  have hbd := build_one
  have hcv := conv_one
  go_enter Tryz.func61, Tryz.ntmps61
  go_wp2_with (first | (go_at_call 80; (with_reducible refine (HC.out _).mono ?_); rintro e w' ⟨rfl, rfl⟩) | (go_at_call 81; (with_reducible refine (numberR_any _ _).mono ?_); rintro e w' ⟨rfl, hb⟩))
  go_ret2
  exact ⟨by rw [HT.out]; rfl, hb.trans (((Below.refl _ _).alloc (Nat.le_refl _) _).mono hb.size)⟩

set_option maxHeartbeats 1000000 in
theorem one_bare (s : ByteArray) (attr : Bool) (w : World) (hs : s.size ≤ 1000000000) (n d e : Nat) (HC : Hid (∀ w : World, Calls Tryz.prog 80 #[.string s] w fun e' w' => e' = .returned (.tuple #[.int .i64 e, .int .i64 d, .int .i64 n]) ∧ w = w')) (he : 0 < e) (HT : Hid (oneR (bs s) attr = (enc (number n), e))) (hlt : e < s.size) (h59 : ((s[e].toNat : Int) == 59) = false) : Calls Tryz.prog 61 #[.string s, .bool attr] w fun e w' => e = .returned (.tuple #[.string (mk (oneR (bs s) attr).1), .int .i64 (oneR (bs s) attr).2]) ∧ Below w.heap.size w w' := by
  have hbd := build_one
  have hcv := conv_one
  go_enter Tryz.func61, Tryz.ntmps61
  go_wp2_with (first | (go_at_call 80; (with_reducible refine (HC.out _).mono ?_); rintro e w' ⟨rfl, rfl⟩) | (go_at_call 81; (with_reducible refine (numberR_any _ _).mono ?_); rintro e w' ⟨rfl, hb⟩))
  go_ret2
  exact ⟨by rw [HT.out]; rfl, hb.trans (((Below.refl _ _).alloc (Nat.le_refl _) _).mono hb.size)⟩

set_option maxHeartbeats 1000000 in
theorem one_zero (s : ByteArray) (attr : Bool) (w : World) (hs : s.size ≤ 1000000000) (n d k : Nat) (l : Bs) (HC : Hid (∀ w : World, Calls Tryz.prog 80 #[.string s] w fun e' w' => e' = .returned (.tuple #[.int .i64 0, .int .i64 d, .int .i64 n]) ∧ w = w')) (HN : Hid (∀ w : World, Calls Tryz.prog 82 #[.string (s.extract 1 s.size)] w fun e w' => e = .returned (.tuple #[.string (mk l), .int .i64 0]) ∧ Below w.heap.size w w')) (HT : Hid (oneR (bs s) attr = ([38], 1))) (h1 : 1 ≤ s.size) : Calls Tryz.prog 61 #[.string s, .bool attr] w fun e w' => e = .returned (.tuple #[.string (mk (oneR (bs s) attr).1), .int .i64 (oneR (bs s) attr).2]) ∧ Below w.heap.size w w' := by
  go_enter Tryz.func61, Tryz.ntmps61
  go_wp2_with (first | (go_at_call 80; (with_reducible refine (HC.out _).mono ?_); rintro e w' ⟨rfl, rfl⟩) | (go_at_call 82; (with_reducible refine (HN.out _).mono ?_); rintro e w' ⟨rfl, hb⟩) | (go_at_call 53; (with_reducible refine (letterR_any _ _).mono ?_); rintro e w' ⟨rfl, rfl⟩) | (go_at_call 83; (with_reducible refine (digitR_any _ _).mono ?_); rintro e w' ⟨rfl, rfl⟩))
  go_ret2
  exact ⟨by rw [HT.out]; rfl, hb⟩

set_option maxHeartbeats 1000000 in
theorem one_f (s : ByteArray) (w : World) (hs : s.size ≤ 1000000000) (n d k : Nat) (l : Bs) (HC : Hid (∀ w : World, Calls Tryz.prog 80 #[.string s] w fun e' w' => e' = .returned (.tuple #[.int .i64 0, .int .i64 d, .int .i64 n]) ∧ w = w')) (HN : Hid (∀ w : World, Calls Tryz.prog 82 #[.string (s.extract 1 s.size)] w fun e w' => e = .returned (.tuple #[.string (mk l), .int .i64 k]) ∧ Below w.heap.size w w')) (HT : Hid (oneR (bs s) false = (l, k + 1))) (hk : k < s.size) (hz : ((k : Int) == 0) = false) : Calls Tryz.prog 61 #[.string s, .bool false] w fun e w' => e = .returned (.tuple #[.string (mk (oneR (bs s) false).1), .int .i64 (oneR (bs s) false).2]) ∧ Below w.heap.size w w' := by
  go_enter Tryz.func61, Tryz.ntmps61
  go_wp2_with (first | (go_at_call 80; (with_reducible refine (HC.out _).mono ?_); rintro e w' ⟨rfl, rfl⟩) | (go_at_call 82; (with_reducible refine (HN.out _).mono ?_); rintro e w' ⟨rfl, hb⟩) | (go_at_call 53; (with_reducible refine (letterR_any _ _).mono ?_); rintro e w' ⟨rfl, rfl⟩) | (go_at_call 83; (with_reducible refine (digitR_any _ _).mono ?_); rintro e w' ⟨rfl, rfl⟩))
  go_ret2
  exact ⟨by rw [HT.out]; rfl, hb⟩

set_option maxHeartbeats 1000000 in
theorem one_semi2 (s : ByteArray) (w : World) (hs : s.size ≤ 1000000000) (n d k : Nat) (l : Bs) (HC : Hid (∀ w : World, Calls Tryz.prog 80 #[.string s] w fun e' w' => e' = .returned (.tuple #[.int .i64 0, .int .i64 d, .int .i64 n]) ∧ w = w')) (HN : Hid (∀ w : World, Calls Tryz.prog 82 #[.string (s.extract 1 s.size)] w fun e w' => e = .returned (.tuple #[.string (mk l), .int .i64 k]) ∧ Below w.heap.size w w')) (HT : Hid (oneR (bs s) true = (l, k + 1))) (hk : k < s.size) (hz : ((k : Int) == 0) = false) (h59 : ((s[k].toNat : Int) != 59) = false) : Calls Tryz.prog 61 #[.string s, .bool true] w fun e w' => e = .returned (.tuple #[.string (mk (oneR (bs s) true).1), .int .i64 (oneR (bs s) true).2]) ∧ Below w.heap.size w w' := by
  go_enter Tryz.func61, Tryz.ntmps61
  go_wp2_with (first | (go_at_call 80; (with_reducible refine (HC.out _).mono ?_); rintro e w' ⟨rfl, rfl⟩) | (go_at_call 82; (with_reducible refine (HN.out _).mono ?_); rintro e w' ⟨rfl, hb⟩) | (go_at_call 53; (with_reducible refine (letterR_any _ _).mono ?_); rintro e w' ⟨rfl, rfl⟩) | (go_at_call 83; (with_reducible refine (digitR_any _ _).mono ?_); rintro e w' ⟨rfl, rfl⟩))
  go_ret2
  exact ⟨by rw [HT.out]; rfl, hb⟩

set_option maxHeartbeats 1000000 in
theorem one_end2 (s : ByteArray) (w : World) (hs : s.size ≤ 1000000000) (n d k : Nat) (l : Bs) (HC : Hid (∀ w : World, Calls Tryz.prog 80 #[.string s] w fun e' w' => e' = .returned (.tuple #[.int .i64 0, .int .i64 d, .int .i64 n]) ∧ w = w')) (HN : Hid (∀ w : World, Calls Tryz.prog 82 #[.string (s.extract 1 s.size)] w fun e w' => e = .returned (.tuple #[.string (mk l), .int .i64 k]) ∧ Below w.heap.size w w')) (HT : Hid (oneR (bs s) true = (l, k + 1))) (hk : k < s.size) (hz : ((k : Int) == 0) = false) (h59 : ((s[k].toNat : Int) != 59) = true) (hend : ¬ k + 1 < s.size) : Calls Tryz.prog 61 #[.string s, .bool true] w fun e w' => e = .returned (.tuple #[.string (mk (oneR (bs s) true).1), .int .i64 (oneR (bs s) true).2]) ∧ Below w.heap.size w w' := by
  go_enter Tryz.func61, Tryz.ntmps61
  go_wp2_with (first | (go_at_call 80; (with_reducible refine (HC.out _).mono ?_); rintro e w' ⟨rfl, rfl⟩) | (go_at_call 82; (with_reducible refine (HN.out _).mono ?_); rintro e w' ⟨rfl, hb⟩) | (go_at_call 53; (with_reducible refine (letterR_any _ _).mono ?_); rintro e w' ⟨rfl, rfl⟩) | (go_at_call 83; (with_reducible refine (digitR_any _ _).mono ?_); rintro e w' ⟨rfl, rfl⟩))
  go_ret2
  exact ⟨by rw [HT.out]; rfl, hb⟩

set_option maxHeartbeats 1000000 in
theorem one_eq (s : ByteArray) (w : World) (hs : s.size ≤ 1000000000) (n d k : Nat) (l : Bs) (HC : Hid (∀ w : World, Calls Tryz.prog 80 #[.string s] w fun e' w' => e' = .returned (.tuple #[.int .i64 0, .int .i64 d, .int .i64 n]) ∧ w = w')) (HN : Hid (∀ w : World, Calls Tryz.prog 82 #[.string (s.extract 1 s.size)] w fun e w' => e = .returned (.tuple #[.string (mk l), .int .i64 k]) ∧ Below w.heap.size w w')) (HT : Hid (oneR (bs s) true = ([38], 1))) (hk : k < s.size) (hz : ((k : Int) == 0) = false) (h59 : ((s[k].toNat : Int) != 59) = true) (hlt : k + 1 < s.size) (hq : ((s[k + 1].toNat : Int) == 61) = true) : Calls Tryz.prog 61 #[.string s, .bool true] w fun e w' => e = .returned (.tuple #[.string (mk (oneR (bs s) true).1), .int .i64 (oneR (bs s) true).2]) ∧ Below w.heap.size w w' := by
  go_enter Tryz.func61, Tryz.ntmps61
  go_wp2_with (first | (go_at_call 80; (with_reducible refine (HC.out _).mono ?_); rintro e w' ⟨rfl, rfl⟩) | (go_at_call 82; (with_reducible refine (HN.out _).mono ?_); rintro e w' ⟨rfl, hb⟩) | (go_at_call 53; (with_reducible refine (letterR_any _ _).mono ?_); rintro e w' ⟨rfl, rfl⟩) | (go_at_call 83; (with_reducible refine (digitR_any _ _).mono ?_); rintro e w' ⟨rfl, rfl⟩))
  go_ret2
  exact ⟨by rw [HT.out]; rfl, hb⟩

set_option maxHeartbeats 1000000 in
theorem one_letter (s : ByteArray) (w : World) (hs : s.size ≤ 1000000000) (n d k : Nat) (l : Bs) (HC : Hid (∀ w : World, Calls Tryz.prog 80 #[.string s] w fun e' w' => e' = .returned (.tuple #[.int .i64 0, .int .i64 d, .int .i64 n]) ∧ w = w')) (HN : Hid (∀ w : World, Calls Tryz.prog 82 #[.string (s.extract 1 s.size)] w fun e w' => e = .returned (.tuple #[.string (mk l), .int .i64 k]) ∧ Below w.heap.size w w')) (HT : Hid (oneR (bs s) true = ([38], 1))) (hk : k < s.size) (hz : ((k : Int) == 0) = false) (h59 : ((s[k].toNat : Int) != 59) = true) (hlt : k + 1 < s.size) (hq : ((s[k + 1].toNat : Int) == 61) = false) (hl : isLetter s[k + 1] = true) : Calls Tryz.prog 61 #[.string s, .bool true] w fun e w' => e = .returned (.tuple #[.string (mk (oneR (bs s) true).1), .int .i64 (oneR (bs s) true).2]) ∧ Below w.heap.size w w' := by
  go_enter Tryz.func61, Tryz.ntmps61
  go_wp2_with (first | (go_at_call 80; (with_reducible refine (HC.out _).mono ?_); rintro e w' ⟨rfl, rfl⟩) | (go_at_call 82; (with_reducible refine (HN.out _).mono ?_); rintro e w' ⟨rfl, hb⟩) | (go_at_call 53; (with_reducible refine (letterR_any _ _).mono ?_); rintro e w' ⟨rfl, rfl⟩) | (go_at_call 83; (with_reducible refine (digitR_any _ _).mono ?_); rintro e w' ⟨rfl, rfl⟩))
  go_ret2
  exact ⟨by rw [HT.out]; rfl, hb⟩

set_option maxHeartbeats 1000000 in
theorem one_digit (s : ByteArray) (w : World) (hs : s.size ≤ 1000000000) (n d k : Nat) (l : Bs) (HC : Hid (∀ w : World, Calls Tryz.prog 80 #[.string s] w fun e' w' => e' = .returned (.tuple #[.int .i64 0, .int .i64 d, .int .i64 n]) ∧ w = w')) (HN : Hid (∀ w : World, Calls Tryz.prog 82 #[.string (s.extract 1 s.size)] w fun e w' => e = .returned (.tuple #[.string (mk l), .int .i64 k]) ∧ Below w.heap.size w w')) (HT : Hid (oneR (bs s) true = ([38], 1))) (hk : k < s.size) (hz : ((k : Int) == 0) = false) (h59 : ((s[k].toNat : Int) != 59) = true) (hlt : k + 1 < s.size) (hq : ((s[k + 1].toNat : Int) == 61) = false) (hl : isLetter s[k + 1] = false) (hd : isDigit s[k + 1] = true) : Calls Tryz.prog 61 #[.string s, .bool true] w fun e w' => e = .returned (.tuple #[.string (mk (oneR (bs s) true).1), .int .i64 (oneR (bs s) true).2]) ∧ Below w.heap.size w w' := by
  go_enter Tryz.func61, Tryz.ntmps61
  go_wp2_with (first | (go_at_call 80; (with_reducible refine (HC.out _).mono ?_); rintro e w' ⟨rfl, rfl⟩) | (go_at_call 82; (with_reducible refine (HN.out _).mono ?_); rintro e w' ⟨rfl, hb⟩) | (go_at_call 53; (with_reducible refine (letterR_any _ _).mono ?_); rintro e w' ⟨rfl, rfl⟩) | (go_at_call 83; (with_reducible refine (digitR_any _ _).mono ?_); rintro e w' ⟨rfl, rfl⟩))
  go_ret2
  exact ⟨by rw [HT.out]; rfl, hb⟩

set_option maxHeartbeats 1000000 in
theorem one_none (s : ByteArray) (w : World) (hs : s.size ≤ 1000000000) (n d k : Nat) (l : Bs) (HC : Hid (∀ w : World, Calls Tryz.prog 80 #[.string s] w fun e' w' => e' = .returned (.tuple #[.int .i64 0, .int .i64 d, .int .i64 n]) ∧ w = w')) (HN : Hid (∀ w : World, Calls Tryz.prog 82 #[.string (s.extract 1 s.size)] w fun e w' => e = .returned (.tuple #[.string (mk l), .int .i64 k]) ∧ Below w.heap.size w w')) (HT : Hid (oneR (bs s) true = (l, k + 1))) (hk : k < s.size) (hz : ((k : Int) == 0) = false) (h59 : ((s[k].toNat : Int) != 59) = true) (hlt : k + 1 < s.size) (hq : ((s[k + 1].toNat : Int) == 61) = false) (hl : isLetter s[k + 1] = false) (hd : isDigit s[k + 1] = false) : Calls Tryz.prog 61 #[.string s, .bool true] w fun e w' => e = .returned (.tuple #[.string (mk (oneR (bs s) true).1), .int .i64 (oneR (bs s) true).2]) ∧ Below w.heap.size w w' := by
  go_enter Tryz.func61, Tryz.ntmps61
  go_wp2_with (first | (go_at_call 80; (with_reducible refine (HC.out _).mono ?_); rintro e w' ⟨rfl, rfl⟩) | (go_at_call 82; (with_reducible refine (HN.out _).mono ?_); rintro e w' ⟨rfl, hb⟩) | (go_at_call 53; (with_reducible refine (letterR_any _ _).mono ?_); rintro e w' ⟨rfl, rfl⟩) | (go_at_call 83; (with_reducible refine (digitR_any _ _).mono ?_); rintro e w' ⟨rfl, rfl⟩))
  go_ret2
  exact ⟨by rw [HT.out]; rfl, hb⟩

theorem one_name (s : ByteArray) (attr : Bool) (w : World) (hs : s.size ≤ 1000000000) (h1 : 1 ≤ s.size) (n d : Nat) (hq : numericR (bs s) = (0, d, n)) : Calls Tryz.prog 61 #[.string s, .bool attr] w fun e w' => e = .returned (.tuple #[.string (mk (oneR (bs s) attr).1), .int .i64 (oneR (bs s) attr).2]) ∧ Below w.heap.size w w' := by
  have HC : Hid (∀ w, Calls Tryz.prog 80 #[.string s] w fun e' w' => e' = .returned (.tuple #[.int .i64 0, .int .i64 d, .int .i64 n]) ∧ w = w') := fun w => by have := numericR_any s w hs; rwa [hq] at this
  have HN : Hid (∀ w : World, Calls Tryz.prog 82 #[.string (s.extract 1 s.size)] w fun e w' => e = .returned (.tuple #[.string (mk (namedR ((bs s).drop 1)).1), .int .i64 (namedR ((bs s).drop 1)).2]) ∧ Below w.heap.size w w') := fun w => namedR_from1 s w hs
  have HT : oneR (bs s) attr = if (namedR ((bs s).drop 1)).2 = 0 then ([38], 1) else if litR (bs s) attr (namedR ((bs s).drop 1)).2 then ([38], 1) else ((namedR ((bs s).drop 1)).1, (namedR ((bs s).drop 1)).2 + 1) := by
    unfold oneR; rw [hq]; simp only; rw [if_neg (by omega)]
  have hle := named_le ((bs s).drop 1)
  rw [List.length_drop, ← size_bs, named_eq] at hle
  generalize namedR ((bs s).drop 1) = m at *
  obtain ⟨l, k⟩ := m
  simp only at HT HN hle
  by_cases hk0 : k = 0
  · subst hk0
    exact one_zero s attr w hs n d 0 l HC HN (by rw [HT]; rfl) h1
  · have hk : k < s.size := by omega
    have hz : ((k : Int) == 0) = false := by rw [beq_eq_false_iff_ne]; omega
    rw [if_neg hk0] at HT
    have hlit : litR (bs s) attr k = (attr && !(s[k] == 59) && decide (k + 1 < s.size) && (((bs s).getD (k + 1) 0 == 61) || isLetter ((bs s).getD (k + 1) 0) || isDigit ((bs s).getD (k + 1) 0))) := by
      unfold litR; rw [get_bs s k hk, size_bs]
    cases attr
    · rw [Bool.false_and, Bool.false_and, Bool.false_and] at hlit
      rw [hlit] at HT
      exact one_f s w hs n d k l HC HN HT hk hz
    · rw [Bool.true_and] at hlit
      have hb59 := byte_beq s[k] 59 (by decide)
      rcases Bool.eq_false_or_eq_true ((s[k].toNat : Int) == (59 : Nat)) with h59 | h59
      · rw [h59] at hb59
        rw [← show (s[k] == UInt8.ofNat 59) = (s[k] == 59) from rfl, ← hb59] at hlit
        rw [hlit] at HT
        exact one_semi2 s w hs n d k l HC HN HT hk hz (bne_of _ _ _ h59)
      · rw [h59] at hb59
        rw [← show (s[k] == UInt8.ofNat 59) = (s[k] == 59) from rfl, ← hb59] at hlit
        by_cases hend : k + 1 < s.size
        · rw [decide_eq_true hend, ← get_bs s (k + 1) hend] at hlit
          have hb61 := byte_beq s[k + 1] 61 (by decide)
          rcases Bool.eq_false_or_eq_true ((s[k + 1].toNat : Int) == (61 : Nat)) with h61 | h61
          · rw [h61] at hb61
            rw [← show (s[k + 1] == UInt8.ofNat 61) = (s[k + 1] == 61) from rfl, ← hb61] at hlit
            rw [hlit] at HT
            exact one_eq s w hs n d k l HC HN HT hk hz (bne_of _ _ _ h59) hend h61
          · rw [h61] at hb61
            rw [← show (s[k + 1] == UInt8.ofNat 61) = (s[k + 1] == 61) from rfl, ← hb61] at hlit
            cases hl : isLetter s[k + 1]
            · cases hd : isDigit s[k + 1]
              · rw [hl, hd] at hlit
                rw [hlit] at HT
                exact one_none s w hs n d k l HC HN HT hk hz (bne_of _ _ _ h59) hend h61 hl hd
              · rw [hl, hd] at hlit
                rw [hlit] at HT
                exact one_digit s w hs n d k l HC HN HT hk hz (bne_of _ _ _ h59) hend h61 hl hd
            · rw [hl] at hlit
              rw [hlit] at HT
              exact one_letter s w hs n d k l HC HN HT hk hz (bne_of _ _ _ h59) hend h61 hl
        · rw [decide_eq_false hend] at hlit
          rw [hlit] at HT
          exact one_end2 s w hs n d k l HC HN HT hk hz (bne_of _ _ _ h59) hend

theorem one_any (s : ByteArray) (attr : Bool) (w : World) (hs : s.size ≤ 1000000000) (h1 : 1 ≤ s.size) : Calls Tryz.prog 61 #[.string s, .bool attr] w fun e w' => e = .returned (.tuple #[.string (mk (taken (bs s) attr).1), .int .i64 (taken (bs s) attr).2]) ∧ Below w.heap.size w w' := by
  rw [← oneR_eq]
  generalize hq : numericR (bs s) = q
  obtain ⟨e, d, n⟩ := q
  rcases Nat.eq_zero_or_pos e with rfl | he
  · exact one_name s attr w hs h1 n d hq
  · have HC : Hid (∀ w, Calls Tryz.prog 80 #[.string s] w fun e' w' => e' = .returned (.tuple #[.int .i64 e, .int .i64 d, .int .i64 n]) ∧ w = w') := fun w => by have := numericR_any s w hs; rwa [hq] at this
    have HT : oneR (bs s) attr = (enc (number n), if e < (bs s).length ∧ (bs s).getD e 0 = 59 then e + 1 else e) := by
      unfold oneR; rw [hq]; simp only; rw [if_pos he]
    rw [← size_bs] at HT
    by_cases hlt : e < s.size
    · rw [← get_bs s e hlt] at HT
      rcases Bool.eq_false_or_eq_true ((s[e].toNat : Int) == (59 : Nat)) with h59 | h59
      · exact one_semi s attr w hs n d e HC he (by rw [if_pos ⟨hlt, byte_yes _ 59 (by decide) h59⟩] at HT; exact HT) hlt h59
      · exact one_bare s attr w hs n d e HC he (by rw [if_neg (fun h => byte_no _ 59 (by decide) h59 h.2)] at HT; exact HT) hlt h59
    · exact one_end s attr w hs n d e HC he (by rw [if_neg (fun h => hlt h.1)] at HT; exact HT) hlt
end Tym
