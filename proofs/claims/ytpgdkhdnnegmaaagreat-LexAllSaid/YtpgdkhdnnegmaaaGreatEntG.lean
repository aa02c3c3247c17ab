/- The walks of the reference's Number, and of one reference, of both. -/
import Derived.Test.YtpgdkhdnnegmaaaGreatEntE
import Derived.Test.YtpgdkhdnnegmaaaGreatEntF
set_option linter.unusedSimpArgs false
set_option linter.unusedVariables false
open Go Go.RowKit Go.Proofs
namespace Tym

attribute [local irreducible] number

theorem numberR_any (n : Int) (w : World) : Calls Tryz.prog 81 #[.int .i64 n] w fun e w' => e = .returned (.int .i32 (number n)) ∧ Below w.heap.size w w' := by
  by_cases hr : right n = true
  · have hr' := hr
    unfold right at hr'
    simp only [Bool.and_eq_true, decide_eq_true_eq] at hr'
    obtain ⟨⟨h0, h1⟩, -⟩ := hr'
    by_cases hw : 128 ≤ n ∧ n < 160
    · obtain ⟨h2, h3⟩ := hw
      have hnum : number n = if wide.getD (n - 128).toNat 0 = 0 then n else wide.getD (n - 128).toNat 0 := by
        unfold number; rw [if_pos hr]; by_cases h : wide.getD (n - 128).toNat 0 = 0 <;> simp [h, h2, h3]
      have HN := Lib.hid hnum
      clear hnum
      have hcell : (w.alloc (.cells wideV 21)).cell? ⟨w.heap.size, (n - 128).toNat, none⟩ = some (.int .i32 (wide.getD (n - 128).toNat 0)) :=
        (cell_of_row _ _ _ _ _ (0, 0) (blk_new _ _)).trans (wideV_get _ (by omega))
      have hbel : Below w.heap.size w (w.alloc (.cells wideV 21)) := (Below.refl _ _).alloc (Nat.le_refl _) _
      have h2' : 0 ≤ n - 128 := by omega
      have h3' : n - 128 < 32 := by omega
      generalize wide.getD (n - 128).toNat 0 = x at *
      go_enter Tryz.func81, Tryz.ntmps81
      go_wp2_with (first | (go_at_call 96; refine (rightR_any _ _).mono ?_; rintro e w' ⟨rfl, rfl⟩) | (go_at_call 97; refine (window_any _).mono ?_; rintro e w' ⟨rfl, rfl⟩))
      · go_ret
        have hx : (x != 0) = true := by assumption
        exact ⟨ret_int (by rw [HN.out, if_neg (by simpa using hx)]), hbel⟩
      · go_ret
        have hx : (x != 0) = false := by assumption
        exact ⟨ret_int (by rw [HN.out, if_pos (by simpa using hx)]), hbel⟩
    · have hnum : number n = n := by
        unfold number; rw [if_pos hr, if_neg (fun h => hw ⟨h.1, h.2.1⟩)]
      have HN := Lib.hid hnum
      clear hnum
      go_enter Tryz.func81, Tryz.ntmps81
      go_wp2_with (first | (go_at_call 96; refine (rightR_any _ _).mono ?_; rintro e w' ⟨rfl, rfl⟩) | (go_at_call 97; refine (window_any _).mono ?_; rintro e w' ⟨rfl, rfl⟩))
      all_goals (go_ret; exact ⟨ret_int HN.out.symm, Below.refl _ _⟩)
  · have hnum : number n = 65533 := by unfold number; rw [if_neg hr]
    have hr' : right n = false := by simpa using hr
    go_enter Tryz.func81, Tryz.ntmps81
    go_wp2_with (first | (go_at_call 96; refine (rightR_any _ _).mono ?_; rintro e w' ⟨rfl, rfl⟩))
    go_ret
    exact ⟨ret_int (by first | rfl | exact hnum.symm), Below.refl _ _⟩

theorem build_one (x : Int) (w : World) : (Instr.buildSlice 99 1 #[(0, .int .i32 x)]).run Tryz.prog w = .ok (.slice (some ⟨w.heap.size, 0, none⟩) 1 1) (w.alloc (.cells #[.int .i32 x] 21)) := by kernel_rfl

theorem conv_one (x : Int) (w : World) : (convert 99 9 (.slice (some ⟨w.heap.size, 0, none⟩) 1 1)).run Tryz.prog (w.alloc (.cells #[.int .i32 x] 21)) = .ok (.string (Go.Utf8.encode x)) (w.alloc (.cells #[.int .i32 x] 21)) := by
  have hl := run_loadCells_list (P := Tryz.prog) (w.alloc (.cells #[.int .i32 x] 21)) ⟨w.heap.size, 0, none⟩ [.int .i32 x] (fun j v hv => by
      rw [Addr.add_lit, cell_of_row _ _ _ _ _ (0, 0) (blk_new _ _)]; simpa using hv)
  simp only [List.length_cons, List.length_nil, Nat.zero_add] at hl
  unfold convert
  rw [Sem.run_bind, run_underlying Tryz.underlying99, Result.andThen_ok, Sem.run_bind, run_underlying Tryz.underlying9, Result.andThen_ok]
  simp only [Sem.run_bind, run_underlying Tryz.underlying21, Result.andThen_ok]
  have he : (ByteArray.empty ++ Go.Utf8.encode x) = Go.Utf8.encode x := by
    apply bs_inj; rw [bs_append]; rfl
  simp [Conv.runesToString, hl, he]

set_option maxHeartbeats 1000000 in
theorem taken_num (s : ByteArray) (attr : Bool) (w : World) (hs : s.size ≤ 1000000000) (n d e : Nat) (hq : numeric 16777216 (bs s) = (n, d, e)) (he : 0 < e) : Calls Tryz.prog 48 #[.string s, .bool attr] w fun e w' => e = .returned (.tuple #[.string (mk (taken (bs s) attr).1), .int .i64 (taken (bs s) attr).2]) ∧ Below w.heap.size w w' := by
  have hle : e ≤ s.size := by have := numeric_end 16777216 (bs s); rw [hq, ← size_bs] at this; exact this
  have hc : ∀ w, Calls Tryz.prog 72 #[.string s] w fun e' w' => e' = .returned (.tuple #[.int .i64 n, .int .i64 d, .int .i64 e]) ∧ w = w' := fun w => by have := numeric_any s w hs; rwa [hq] at this
  have HC := Lib.hid hc
  have HQ := Lib.hid hq
  clear hc hq
  have HP : Hid (∀ w : World, Calls Tryz.prog 38 #[.string (s.extract e s.size), .string ⟨#[59]⟩] w fun e' w' => e' = .returned (.bool (begins ((bs s).drop e) [59])) ∧ w = w') := fun w => prefix_from s e [59] w
  have HT : Hid (taken (bs s) attr = (enc (number n), if begins ((bs s).drop e) [59] = true then e + 1 else e)) := by
    show taken (bs s) attr = _
    unfold taken; rw [HQ.out]; simp only; rw [if_pos he]
  generalize begins ((bs s).drop e) [59] = b at *
  go_enter Tryz.func48, Tryz.ntmps48
  cases b
  · go_wp2_with (first | (go_at_call 72; (with_reducible refine (HC.out _).mono ?_); rintro e w' ⟨rfl, rfl⟩) | (go_at_call 38; (with_reducible refine (HP.out _).mono ?_); rintro e w' ⟨rfl, rfl⟩) | (go_at_call 73; (with_reducible refine (number_any _ _).mono ?_); rintro e w' ⟨rfl, hb⟩))
    go_ret2
    exact ⟨by rw [HT.out]; rfl, hb⟩
  · go_wp2_with (first | (go_at_call 72; (with_reducible refine (HC.out _).mono ?_); rintro e w' ⟨rfl, rfl⟩) | (go_at_call 38; (with_reducible refine (HP.out _).mono ?_); rintro e w' ⟨rfl, rfl⟩) | (go_at_call 73; (with_reducible refine (number_any _ _).mono ?_); rintro e w' ⟨rfl, hb⟩))
    go_ret2
    exact ⟨by rw [HT.out]; rfl, hb⟩

theorem named_from1 (s : ByteArray) (w : World) (hs : s.size ≤ 1000000000) : Calls Tryz.prog 74 #[.string (s.extract 1 s.size)] w fun e w' => e = .returned (.tuple #[.string (mk (named ((bs s).drop 1)).1), .int .i64 (named ((bs s).drop 1)).2]) ∧ Below w.heap.size w w' := by
  rw [← bs_from]
  exact named_any _ w (by rw [ByteArray.size_extract]; omega)
theorem namedR_from1 (s : ByteArray) (w : World) (hs : s.size ≤ 1000000000) : Calls Tryz.prog 82 #[.string (s.extract 1 s.size)] w fun e w' => e = .returned (.tuple #[.string (mk (namedR ((bs s).drop 1)).1), .int .i64 (namedR ((bs s).drop 1)).2]) ∧ Below w.heap.size w w' := by
  rw [← bs_from]
  exact namedR_any _ w (by rw [ByteArray.size_extract]; omega)

theorem one_byte (s : ByteArray) (k : Nat) (h : 1 + k < s.size) (h' : 0 < (s.extract (1 + k) s.size).size) : (s.extract (1 + k) s.size)[0] = s[1 + k] := by
  rw [get_bs _ _ h', bs_from, get_bs _ _ h]; simp [List.getD_eq_getElem?_getD]
theorem lit_eval (s : ByteArray) (attr : Bool) (k : Nat) (hk : 0 < k) (h : k < s.size) : literal (bs s) attr k = (attr && !(s[k] == 59) && !decide (s.size ≤ 1 + k) && (((bs s).getD (1 + k) 0 == 61) || isLetter ((bs s).getD (1 + k) 0) || isDigit ((bs s).getD (1 + k) 0))) := by
  unfold literal
  have hd : ((bs s).drop (1 + k)).getD 0 0 = (bs s).getD (1 + k) 0 := by simp [List.getD_eq_getElem?_getD, List.getElem?_drop]
  have he : ((bs s).drop (1 + k)).isEmpty = decide (s.size ≤ 1 + k) := by
    rw [Bool.eq_iff_iff, List.isEmpty_iff, decide_eq_true_iff, List.drop_eq_nil_iff, size_bs]
  rw [hd, he, decide_eq_true hk, Bool.and_true, get_bs s k h]
theorem empty_iff (s : ByteArray) (k : Nat) : (s.extract (1 + k) s.size).toList.isEmpty = decide (s.size ≤ 1 + k) := by
  rw [Lib.toList_data, ← show bs (s.extract (1 + k) s.size) = (s.extract (1 + k) s.size).data.toList from rfl, bs_from, Bool.eq_iff_iff, List.isEmpty_iff, decide_eq_true_iff, List.drop_eq_nil_iff, size_bs]
theorem byte_beq (c : UInt8) (n : Nat) (hn : n < 256) : ((c.toNat : Int) == (n : Int)) = (c == UInt8.ofNat n) := by
  rw [Bool.eq_iff_iff, beq_iff_eq, beq_iff_eq, ← UInt8.toNat_inj]; simp; omega

attribute [local irreducible] named namedR literal isLetter isDigit

set_option maxHeartbeats 1000000 in
theorem taken_zero (s : ByteArray) (attr : Bool) (w : World) (hs : s.size ≤ 1000000000) (n d : Nat) (l : Bs) (HC : Hid (∀ w : World, Calls Tryz.prog 72 #[.string s] w fun e' w' => e' = .returned (.tuple #[.int .i64 n, .int .i64 d, .int .i64 0]) ∧ w = w')) (HN : Hid (∀ w : World, Calls Tryz.prog 74 #[.string (s.extract 1 s.size)] w fun e w' => e = .returned (.tuple #[.string (mk l), .int .i64 0]) ∧ Below w.heap.size w w')) (HT : Hid (taken (bs s) attr = ([38], 1))) (h1 : 1 ≤ s.size) : Calls Tryz.prog 48 #[.string s, .bool attr] w fun e w' => e = .returned (.tuple #[.string (mk (taken (bs s) attr).1), .int .i64 (taken (bs s) attr).2]) ∧ Below w.heap.size w w' := by
  cases attr
  all_goals
    go_enter Tryz.func48, Tryz.ntmps48
    go_wp2_with (first | (go_at_call 72; (with_reducible refine (HC.out _).mono ?_); rintro e w' ⟨rfl, rfl⟩) | (go_at_call 74; (with_reducible refine (HN.out _).mono ?_); rintro e w' ⟨rfl, hb⟩) | (go_at_call 33; (with_reducible refine (letter_any _ _).mono ?_); rintro e w' ⟨rfl, rfl⟩) | (go_at_call 75; (with_reducible refine (digit_any _ _).mono ?_); rintro e w' ⟨rfl, rfl⟩))
    go_ret2
    exact ⟨by rw [HT.out]; rfl, hb⟩

set_option maxHeartbeats 1000000 in
theorem taken_f (s : ByteArray) (w : World) (hs : s.size ≤ 1000000000) (n d k : Nat) (l : Bs) (HC : Hid (∀ w : World, Calls Tryz.prog 72 #[.string s] w fun e' w' => e' = .returned (.tuple #[.int .i64 n, .int .i64 d, .int .i64 0]) ∧ w = w')) (HN : Hid (∀ w : World, Calls Tryz.prog 74 #[.string (s.extract 1 s.size)] w fun e w' => e = .returned (.tuple #[.string (mk l), .int .i64 k]) ∧ Below w.heap.size w w')) (HT : Hid (taken (bs s) false = (l, k + 1))) (hk0 : 0 < k) (hk : k < s.size) (hz : ((k : Int) == 0) = false) : Calls Tryz.prog 48 #[.string s, .bool false] w fun e w' => e = .returned (.tuple #[.string (mk (taken (bs s) false).1), .int .i64 (taken (bs s) false).2]) ∧ Below w.heap.size w w' := by
  go_enter Tryz.func48, Tryz.ntmps48
  go_wp2_with (first | (go_at_call 72; (with_reducible refine (HC.out _).mono ?_); rintro e w' ⟨rfl, rfl⟩) | (go_at_call 74; (with_reducible refine (HN.out _).mono ?_); rintro e w' ⟨rfl, hb⟩) | (go_at_call 33; (with_reducible refine (letter_any _ _).mono ?_); rintro e w' ⟨rfl, rfl⟩) | (go_at_call 75; (with_reducible refine (digit_any _ _).mono ?_); rintro e w' ⟨rfl, rfl⟩))
  go_ret2
  exact ⟨by rw [HT.out]; rfl, hb⟩

set_option maxHeartbeats 1000000 in
theorem taken_semi (s : ByteArray) (w : World) (hs : s.size ≤ 1000000000) (n d k : Nat) (l : Bs) (HC : Hid (∀ w : World, Calls Tryz.prog 72 #[.string s] w fun e' w' => e' = .returned (.tuple #[.int .i64 n, .int .i64 d, .int .i64 0]) ∧ w = w')) (HN : Hid (∀ w : World, Calls Tryz.prog 74 #[.string (s.extract 1 s.size)] w fun e w' => e = .returned (.tuple #[.string (mk l), .int .i64 k]) ∧ Below w.heap.size w w')) (HT : Hid (taken (bs s) true = (l, k + 1))) (hk0 : 0 < k) (hk : k < s.size) (hz : ((k : Int) == 0) = false) (h59 : ((s[k].toNat : Int) != 59) = false) : Calls Tryz.prog 48 #[.string s, .bool true] w fun e w' => e = .returned (.tuple #[.string (mk (taken (bs s) true).1), .int .i64 (taken (bs s) true).2]) ∧ Below w.heap.size w w' := by
  go_enter Tryz.func48, Tryz.ntmps48
  go_wp2_with (first | (go_at_call 72; (with_reducible refine (HC.out _).mono ?_); rintro e w' ⟨rfl, rfl⟩) | (go_at_call 74; (with_reducible refine (HN.out _).mono ?_); rintro e w' ⟨rfl, hb⟩) | (go_at_call 33; (with_reducible refine (letter_any _ _).mono ?_); rintro e w' ⟨rfl, rfl⟩) | (go_at_call 75; (with_reducible refine (digit_any _ _).mono ?_); rintro e w' ⟨rfl, rfl⟩))
  go_ret2
  exact ⟨by rw [HT.out]; rfl, hb⟩

set_option maxHeartbeats 1000000 in
theorem taken_end (s : ByteArray) (w : World) (hs : s.size ≤ 1000000000) (n d k : Nat) (l : Bs) (HC : Hid (∀ w : World, Calls Tryz.prog 72 #[.string s] w fun e' w' => e' = .returned (.tuple #[.int .i64 n, .int .i64 d, .int .i64 0]) ∧ w = w')) (HN : Hid (∀ w : World, Calls Tryz.prog 74 #[.string (s.extract 1 s.size)] w fun e w' => e = .returned (.tuple #[.string (mk l), .int .i64 k]) ∧ Below w.heap.size w w')) (HT : Hid (taken (bs s) true = (l, k + 1))) (hk0 : 0 < k) (hk : k < s.size) (hz : ((k : Int) == 0) = false) (h59 : ((s[k].toNat : Int) != 59) = true) (he : (s.extract (1 + k) s.size).toList.isEmpty = true) : Calls Tryz.prog 48 #[.string s, .bool true] w fun e w' => e = .returned (.tuple #[.string (mk (taken (bs s) true).1), .int .i64 (taken (bs s) true).2]) ∧ Below w.heap.size w w' := by
  go_enter Tryz.func48, Tryz.ntmps48
  go_wp2_with (first | (go_at_call 72; (with_reducible refine (HC.out _).mono ?_); rintro e w' ⟨rfl, rfl⟩) | (go_at_call 74; (with_reducible refine (HN.out _).mono ?_); rintro e w' ⟨rfl, hb⟩) | (go_at_call 33; (with_reducible refine (letter_any _ _).mono ?_); rintro e w' ⟨rfl, rfl⟩) | (go_at_call 75; (with_reducible refine (digit_any _ _).mono ?_); rintro e w' ⟨rfl, rfl⟩))
  go_ret2
  exact ⟨by rw [HT.out]; rfl, hb⟩

set_option maxHeartbeats 1000000 in
theorem taken_eq (s : ByteArray) (w : World) (hs : s.size ≤ 1000000000) (n d k : Nat) (l : Bs) (HC : Hid (∀ w : World, Calls Tryz.prog 72 #[.string s] w fun e' w' => e' = .returned (.tuple #[.int .i64 n, .int .i64 d, .int .i64 0]) ∧ w = w')) (HN : Hid (∀ w : World, Calls Tryz.prog 74 #[.string (s.extract 1 s.size)] w fun e w' => e = .returned (.tuple #[.string (mk l), .int .i64 k]) ∧ Below w.heap.size w w')) (HT : Hid (taken (bs s) true = ([38], 1))) (hk0 : 0 < k) (hk : k < s.size) (hz : ((k : Int) == 0) = false) (h59 : ((s[k].toNat : Int) != 59) = true) (he : (s.extract (1 + k) s.size).toList.isEmpty = false) (hlt : 1 + k < s.size) (h0 : 0 < s.size - (1 + k)) (c : UInt8) (h' : 0 < (s.extract (1 + k) s.size).size) (hc : (s.extract (1 + k) s.size)[0] = c) (hq : ((c.toNat : Int) == 61) = true) : Calls Tryz.prog 48 #[.string s, .bool true] w fun e w' => e = .returned (.tuple #[.string (mk (taken (bs s) true).1), .int .i64 (taken (bs s) true).2]) ∧ Below w.heap.size w w' := by
  go_enter Tryz.func48, Tryz.ntmps48
  go_wp2_with (first | (go_at_call 72; (with_reducible refine (HC.out _).mono ?_); rintro e w' ⟨rfl, rfl⟩) | (go_at_call 74; (with_reducible refine (HN.out _).mono ?_); rintro e w' ⟨rfl, hb⟩) | (go_at_call 33; (with_reducible refine (letter_any _ _).mono ?_); rintro e w' ⟨rfl, rfl⟩) | (go_at_call 75; (with_reducible refine (digit_any _ _).mono ?_); rintro e w' ⟨rfl, rfl⟩))
  go_ret2
  exact ⟨by rw [HT.out]; rfl, hb⟩

set_option maxHeartbeats 1000000 in
theorem taken_letter (s : ByteArray) (w : World) (hs : s.size ≤ 1000000000) (n d k : Nat) (l : Bs) (HC : Hid (∀ w : World, Calls Tryz.prog 72 #[.string s] w fun e' w' => e' = .returned (.tuple #[.int .i64 n, .int .i64 d, .int .i64 0]) ∧ w = w')) (HN : Hid (∀ w : World, Calls Tryz.prog 74 #[.string (s.extract 1 s.size)] w fun e w' => e = .returned (.tuple #[.string (mk l), .int .i64 k]) ∧ Below w.heap.size w w')) (HT : Hid (taken (bs s) true = ([38], 1))) (hk0 : 0 < k) (hk : k < s.size) (hz : ((k : Int) == 0) = false) (h59 : ((s[k].toNat : Int) != 59) = true) (he : (s.extract (1 + k) s.size).toList.isEmpty = false) (hlt : 1 + k < s.size) (h0 : 0 < s.size - (1 + k)) (c : UInt8) (h' : 0 < (s.extract (1 + k) s.size).size) (hc : (s.extract (1 + k) s.size)[0] = c) (hq : ((c.toNat : Int) == 61) = false) (hl : isLetter c = true) : Calls Tryz.prog 48 #[.string s, .bool true] w fun e w' => e = .returned (.tuple #[.string (mk (taken (bs s) true).1), .int .i64 (taken (bs s) true).2]) ∧ Below w.heap.size w w' := by
  go_enter Tryz.func48, Tryz.ntmps48
  go_wp2_with (first | (go_at_call 72; (with_reducible refine (HC.out _).mono ?_); rintro e w' ⟨rfl, rfl⟩) | (go_at_call 74; (with_reducible refine (HN.out _).mono ?_); rintro e w' ⟨rfl, hb⟩) | (go_at_call 33; (with_reducible refine (letter_any _ _).mono ?_); rintro e w' ⟨rfl, rfl⟩) | (go_at_call 75; (with_reducible refine (digit_any _ _).mono ?_); rintro e w' ⟨rfl, rfl⟩))
  go_ret2
  exact ⟨by rw [HT.out]; rfl, hb⟩

set_option maxHeartbeats 1000000 in
theorem taken_digit (s : ByteArray) (w : World) (hs : s.size ≤ 1000000000) (n d k : Nat) (l : Bs) (HC : Hid (∀ w : World, Calls Tryz.prog 72 #[.string s] w fun e' w' => e' = .returned (.tuple #[.int .i64 n, .int .i64 d, .int .i64 0]) ∧ w = w')) (HN : Hid (∀ w : World, Calls Tryz.prog 74 #[.string (s.extract 1 s.size)] w fun e w' => e = .returned (.tuple #[.string (mk l), .int .i64 k]) ∧ Below w.heap.size w w')) (HT : Hid (taken (bs s) true = ([38], 1))) (hk0 : 0 < k) (hk : k < s.size) (hz : ((k : Int) == 0) = false) (h59 : ((s[k].toNat : Int) != 59) = true) (he : (s.extract (1 + k) s.size).toList.isEmpty = false) (hlt : 1 + k < s.size) (h0 : 0 < s.size - (1 + k)) (c : UInt8) (h' : 0 < (s.extract (1 + k) s.size).size) (hc : (s.extract (1 + k) s.size)[0] = c) (hq : ((c.toNat : Int) == 61) = false) (hl : isLetter c = false) (hd : isDigit c = true) : Calls Tryz.prog 48 #[.string s, .bool true] w fun e w' => e = .returned (.tuple #[.string (mk (taken (bs s) true).1), .int .i64 (taken (bs s) true).2]) ∧ Below w.heap.size w w' := by
  go_enter Tryz.func48, Tryz.ntmps48
  go_wp2_with (first | (go_at_call 72; (with_reducible refine (HC.out _).mono ?_); rintro e w' ⟨rfl, rfl⟩) | (go_at_call 74; (with_reducible refine (HN.out _).mono ?_); rintro e w' ⟨rfl, hb⟩) | (go_at_call 33; (with_reducible refine (letter_any _ _).mono ?_); rintro e w' ⟨rfl, rfl⟩) | (go_at_call 75; (with_reducible refine (digit_any _ _).mono ?_); rintro e w' ⟨rfl, rfl⟩))
  go_ret2
  exact ⟨by rw [HT.out]; rfl, hb⟩

set_option maxHeartbeats 1000000 in
theorem taken_none (s : ByteArray) (w : World) (hs : s.size ≤ 1000000000) (n d k : Nat) (l : Bs) (HC : Hid (∀ w : World, Calls Tryz.prog 72 #[.string s] w fun e' w' => e' = .returned (.tuple #[.int .i64 n, .int .i64 d, .int .i64 0]) ∧ w = w')) (HN : Hid (∀ w : World, Calls Tryz.prog 74 #[.string (s.extract 1 s.size)] w fun e w' => e = .returned (.tuple #[.string (mk l), .int .i64 k]) ∧ Below w.heap.size w w')) (HT : Hid (taken (bs s) true = (l, k + 1))) (hk0 : 0 < k) (hk : k < s.size) (hz : ((k : Int) == 0) = false) (h59 : ((s[k].toNat : Int) != 59) = true) (he : (s.extract (1 + k) s.size).toList.isEmpty = false) (hlt : 1 + k < s.size) (h0 : 0 < s.size - (1 + k)) (c : UInt8) (h' : 0 < (s.extract (1 + k) s.size).size) (hc : (s.extract (1 + k) s.size)[0] = c) (hq : ((c.toNat : Int) == 61) = false) (hl : isLetter c = false) (hd : isDigit c = false) : Calls Tryz.prog 48 #[.string s, .bool true] w fun e w' => e = .returned (.tuple #[.string (mk (taken (bs s) true).1), .int .i64 (taken (bs s) true).2]) ∧ Below w.heap.size w w' := by
  go_enter Tryz.func48, Tryz.ntmps48
  go_wp2_with (first | (go_at_call 72; (with_reducible refine (HC.out _).mono ?_); rintro e w' ⟨rfl, rfl⟩) | (go_at_call 74; (with_reducible refine (HN.out _).mono ?_); rintro e w' ⟨rfl, hb⟩) | (go_at_call 33; (with_reducible refine (letter_any _ _).mono ?_); rintro e w' ⟨rfl, rfl⟩) | (go_at_call 75; (with_reducible refine (digit_any _ _).mono ?_); rintro e w' ⟨rfl, rfl⟩))
  go_ret2
  exact ⟨by rw [HT.out]; rfl, hb⟩

theorem bne_of (a b : Int) (x : Bool) (h : (a == b) = x) : (a != b) = !x := by rw [bne, h]

theorem taken_name (s : ByteArray) (attr : Bool) (w : World) (hs : s.size ≤ 1000000000) (h1 : 1 ≤ s.size) (n d : Nat) (hq : numeric 16777216 (bs s) = (n, d, 0)) : Calls Tryz.prog 48 #[.string s, .bool attr] w fun e w' => e = .returned (.tuple #[.string (mk (taken (bs s) attr).1), .int .i64 (taken (bs s) attr).2]) ∧ Below w.heap.size w w' := by
  have HC : Hid (∀ w, Calls Tryz.prog 72 #[.string s] w fun e' w' => e' = .returned (.tuple #[.int .i64 n, .int .i64 d, .int .i64 0]) ∧ w = w') := fun w => by have := numeric_any s w hs; rwa [hq] at this
  have HN : Hid (∀ w : World, Calls Tryz.prog 74 #[.string (s.extract 1 s.size)] w fun e w' => e = .returned (.tuple #[.string (mk (named ((bs s).drop 1)).1), .int .i64 (named ((bs s).drop 1)).2]) ∧ Below w.heap.size w w') := fun w => named_from1 s w hs
  have HT : taken (bs s) attr = if (named ((bs s).drop 1)).2 = 0 || literal (bs s) attr (named ((bs s).drop 1)).2 then ([38], 1) else ((named ((bs s).drop 1)).1, (named ((bs s).drop 1)).2 + 1) := by
    unfold taken; rw [hq]; simp only; rw [if_neg (by omega)]
  have hle := named_le ((bs s).drop 1)
  rw [List.length_drop, ← size_bs] at hle
  generalize named ((bs s).drop 1) = m at *
  obtain ⟨l, k⟩ := m
  simp only at HT HN hle
  by_cases hk0 : k = 0
  · subst hk0
    exact taken_zero s attr w hs n d l HC HN (by rw [HT]; rfl) h1
  · have hk : k < s.size := by omega
    have hz : ((k : Int) == 0) = false := by rw [beq_eq_false_iff_ne]; omega
    have hz' : decide (k = 0) = false := decide_eq_false hk0
    rw [hz', Bool.false_or] at HT
    have hlit := lit_eval s attr k (by omega) hk
    cases attr
    · rw [Bool.false_and, Bool.false_and, Bool.false_and] at hlit
      rw [hlit] at HT
      exact taken_f s w hs n d k l HC HN HT (by omega) hk hz
    · rw [Bool.true_and] at hlit
      have hb59 := byte_beq s[k] 59 (by decide)
      rcases Bool.eq_false_or_eq_true ((s[k].toNat : Int) == (59 : Nat)) with h59 | h59
      · rw [h59] at hb59
        rw [← show (s[k] == UInt8.ofNat 59) = (s[k] == 59) from rfl, ← hb59] at hlit
        rw [hlit] at HT
        exact taken_semi s w hs n d k l HC HN HT (by omega) hk hz (bne_of _ _ _ h59)
      · rw [h59] at hb59
        rw [← show (s[k] == UInt8.ofNat 59) = (s[k] == 59) from rfl, ← hb59] at hlit
        by_cases hend : s.size ≤ 1 + k
        · rw [decide_eq_true hend] at hlit
          rw [hlit] at HT
          exact taken_end s w hs n d k l HC HN HT (by omega) hk hz (bne_of _ _ _ h59) (by rw [empty_iff]; exact decide_eq_true hend)
        · rw [decide_eq_false hend, ← get_bs s (1 + k) (by omega)] at hlit
          have h' : 0 < (s.extract (1 + k) s.size).size := by rw [ByteArray.size_extract]; omega
          have hc := one_byte s k (by omega) h'
          have he : (s.extract (1 + k) s.size).toList.isEmpty = false := by rw [empty_iff]; exact decide_eq_false hend
          generalize s[1 + k] = c at *
          have hb61 := byte_beq c 61 (by decide)
          rcases Bool.eq_false_or_eq_true ((c.toNat : Int) == (61 : Nat)) with h61 | h61
          · rw [h61] at hb61
            rw [← show (c == UInt8.ofNat 61) = (c == 61) from rfl, ← hb61] at hlit
            rw [hlit] at HT
            exact taken_eq s w hs n d k l HC HN HT (by omega) hk hz (bne_of _ _ _ h59) he (by omega) (by omega) c h' hc h61
          · rw [h61] at hb61
            rw [← show (c == UInt8.ofNat 61) = (c == 61) from rfl, ← hb61] at hlit
            cases hl : isLetter c
            · cases hd : isDigit c
              · rw [hl, hd] at hlit
                rw [hlit] at HT
                exact taken_none s w hs n d k l HC HN HT (by omega) hk hz (bne_of _ _ _ h59) he (by omega) (by omega) c h' hc h61 hl hd
              · rw [hl, hd] at hlit
                rw [hlit] at HT
                exact taken_digit s w hs n d k l HC HN HT (by omega) hk hz (bne_of _ _ _ h59) he (by omega) (by omega) c h' hc h61 hl hd
            · rw [hl] at hlit
              rw [hlit] at HT
              exact taken_letter s w hs n d k l HC HN HT (by omega) hk hz (bne_of _ _ _ h59) he (by omega) (by omega) c h' hc h61 hl

theorem taken_any (s : ByteArray) (attr : Bool) (w : World) (hs : s.size ≤ 1000000000) (h1 : 1 ≤ s.size) : Calls Tryz.prog 48 #[.string s, .bool attr] w fun e w' => e = .returned (.tuple #[.string (mk (taken (bs s) attr).1), .int .i64 (taken (bs s) attr).2]) ∧ Below w.heap.size w w' := by
  generalize hq : numeric 16777216 (bs s) = q
  obtain ⟨n, d, e⟩ := q
  rcases Nat.eq_zero_or_pos e with rfl | he
  · exact taken_name s attr w hs h1 n d hq
  · exact taken_num s attr w hs n d e hq he
end Tym
