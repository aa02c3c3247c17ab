/- The walk of the reference's Named. The walks of the numbers behind a sign: ent.numeric, and the reference's digits and numeric. -/
import Derived.Test.YtpgdkhdnnegmaaaGreatEntC

namespace Tym
set_option linter.unusedSimpArgs false
set_option linter.unusedVariables false
open Go Go.RowKit Go.Proofs

theorem namesV_cells (i : Nat) (h : i < 98) : namesV[i * 3]? = some (.string (mk (table.getD i ⟨[], [], false⟩).name)) ∧ namesV[i * 3 + 1]? = some (.string (mk (table.getD i ⟨[], [], false⟩).is)) ∧ namesV[i * 3 + 2]? = some (.bool (table.getD i ⟨[], [], false⟩).bare) := by
  have gen : ∀ (l : List (Bs × Bs × Bool)) (i : Nat), i < l.length → ∃ r, l[i]? = some r ∧ ((l.flatMap fun r => [Value.string (mk r.1), .string (mk r.2.1), .bool r.2.2]).drop (i * 3)).take 3 = [.string (mk r.1), .string (mk r.2.1), .bool r.2.2] := by
    intro l
    induction l with
    | nil => intro i h; simp at h
    | cons r l ih =>
      intro i h
      cases i with
      | zero => exact ⟨r, rfl, by simp⟩
      | succ i =>
        obtain ⟨r', h1, h2⟩ := ih i (by simpa using h)
        refine ⟨r', by simpa using h1, ?_⟩
        have : (i + 1) * 3 = i * 3 + 3 := by omega
        rw [this, List.flatMap_cons]
        simpa using h2
  obtain ⟨r, h1, h2⟩ := gen tableRows i h
  have ht : table.getD i ⟨[], [], false⟩ = ⟨r.1, r.2.1, r.2.2⟩ := by
    unfold table; rw [List.getD_eq_getElem?_getD, List.getElem?_map, h1]; rfl
  rw [ht]
  have g : ∀ j, j < 3 → namesV[i * 3 + j]? = [Value.string (mk r.1), .string (mk r.2.1), .bool r.2.2][j]? := by
    intro j hj
    rw [← h2]
    unfold namesV
    rw [List.getElem?_take_of_lt hj, List.getElem?_drop]
    simp
  exact ⟨g 0 (by omega), g 1 (by omega), g 2 (by omega)⟩

theorem bs_append (a b : ByteArray) : bs (a ++ b) = bs a ++ bs b := by
  obtain ⟨⟨x⟩⟩ := a; obtain ⟨⟨y⟩⟩ := b
  show (ByteArray.append _ _).data.toList = _
  simp [bs, ByteArray.append, ByteArray.copySlice, ByteArray.size]

theorem begins_semi_any (s : ByteArray) (n : Bs) (w : World) : Calls Tryz.prog 94 #[.string s, .string (mk n ++ ⟨#[59]⟩)] w fun e w' => e = .returned (.bool (begins (bs s) (n ++ [59]))) ∧ w = w' := by
  have := begins_any s (mk n ++ ⟨#[59]⟩) w
  rw [bs_append, bs_mk] at this
  exact this

theorem begins_mk_any (s : ByteArray) (n : Bs) (w : World) : Calls Tryz.prog 94 #[.string s, .string (mk n)] w fun e w' => e = .returned (.bool (begins (bs s) n)) ∧ w = w' := by
  have := begins_any s (mk n) w
  rw [bs_mk] at this
  exact this

theorem nA (s l : Bs) (m : Nat) (e : Ent) (h1 : begins s (e.name ++ [59]) = true) (h2 : (m : Int) < ((mk e.name).size : Int) + 1) : nstep s (l, m) e = (e.is, (mk e.name).size + 1) := by
  rw [size_mk] at *
  rw [nstep_cand, cand, if_pos h1]; simp only; rw [if_pos (by omega)]
theorem nB (s l : Bs) (m : Nat) (e : Ent) (h1 : begins s (e.name ++ [59]) = true) (h2 : ((mk e.name).size : Int) + 1 ≤ (m : Int)) : nstep s (l, m) e = (l, m) := by
  rw [size_mk] at *
  rw [nstep_cand, cand, if_pos h1]; simp only; rw [if_neg (by omega)]
theorem nC (s l : Bs) (m : Nat) (e : Ent) (h1 : ¬ begins s (e.name ++ [59]) = true) (h3 : e.bare = true) (h4 : begins s e.name = true) (h2 : m < (mk e.name).size) : nstep s (l, m) e = (e.is, (mk e.name).size) := by
  rw [size_mk] at *
  rw [nstep_cand, cand, if_neg h1, if_pos (by rw [h3, h4]; rfl)]; simp only; rw [if_pos h2]
theorem nD (s l : Bs) (m : Nat) (e : Ent) (h1 : ¬ begins s (e.name ++ [59]) = true) (h3 : e.bare = true) (h4 : begins s e.name = true) (h2 : ¬ m < (mk e.name).size) : nstep s (l, m) e = (l, m) := by
  rw [size_mk] at *
  rw [nstep_cand, cand, if_neg h1, if_pos (by rw [h3, h4]; rfl)]; simp only; rw [if_neg h2]
theorem nE (s l : Bs) (m : Nat) (e : Ent) (h1 : ¬ begins s (e.name ++ [59]) = true) (h4 : ¬ begins s e.name = true) : nstep s (l, m) e = (l, m) := by
  rw [nstep_cand, cand, if_neg h1, if_neg (by simp [h4])]
theorem nF (s l : Bs) (m : Nat) (e : Ent) (h1 : ¬ begins s (e.name ++ [59]) = true) (h4 : ¬ e.bare = true) : nstep s (l, m) e = (l, m) := by
  rw [nstep_cand, cand, if_neg h1, if_neg (by simp [h4])]

set_option maxHeartbeats 1000000 in
theorem namedR_any (s : ByteArray) (w : World) (hs : s.size ≤ 1000000000) : Calls Tryz.prog 82 #[.string s] w fun e w' => e = .returned (.tuple #[.string (mk (namedR (bs s)).1), .int .i64 (namedR (bs s)).2]) ∧ Below w.heap.size w w' := by
  go_enter Tryz.func82, Tryz.ntmps82
  go_wp2_with (first | (go_at_call 98; refine (names_any _).mono ?_; rintro e w' ⟨rfl, rfl⟩))
  have hc : ∀ j, (w.alloc (.cells namesV 117)).cell? ⟨w.heap.size, j, none⟩ = namesV[j]? := fun j => cell_of_row _ _ _ _ _ (0, 0) (blk_new _ _)
  have HC := Lib.hid hc
  have hbel : Below w.heap.size w (w.alloc (.cells namesV 117)) := (Below.refl _ _).alloc (Nat.le_refl _) _
  clear hc
  generalize w.alloc (.cells namesV 117) = w1 at *
  go_loop [5, 6, 7] (fun is n k => ∃ i m : Nat, i ≤ 98 ∧ m ≤ 10000 ∧ k = .int .i64 i ∧ n = .int .i64 m ∧ ∃ l : Bs, is = .string (mk l) ∧ Hid ((table.drop i).foldl (nstep (bs s)) (l, m) = namedR (bs s))) (fun _ _ k => 98 - (intOf k).toNat)
  case atStart => exact ⟨0, 0, by omega, by omega, rfl, rfl, [], rfl, rfl⟩
  case round =>
    obtain ⟨i, m, hi, hm, rfl, rfl, l, rfl, HN⟩ := hrel
    by_cases hlt : i < 98
    · obtain ⟨c1, c2, c3⟩ := namesV_cells i hlt
      have h1 := (HC.out (i * 3)).trans c1
      have h2 := (HC.out (i * 3 + 1)).trans c2
      have h3 := (HC.out (i * 3 + 2)).trans c3
      clear c1 c2 c3
      have hname : (mk (table.getD i ⟨[], [], false⟩).name).size ≤ 8 := by
        have hp : ∀ e ∈ table, e.name.length ≤ 8 := by decide +kernel
        rw [size_mk, List.getD_eq_getElem?_getD]
        cases hh : table[i]? with
        | none => simp
        | some e => exact hp e (List.mem_of_getElem? hh)
      have hdrop : table.drop i = table.getD i ⟨[], [], false⟩ :: table.drop (i + 1) := by
        have : i < table.length := hlt
        rw [List.drop_eq_getElem_cons this, List.getD_eq_getElem?_getD, List.getElem?_eq_getElem this]; rfl
      have HN2 : Hid ((table.drop (i + 1)).foldl (nstep (bs s)) (nstep (bs s) (l, m) (table.getD i ⟨[], [], false⟩)) = namedR (bs s)) := by
        have := HN.out
        rwa [hdrop, List.foldl_cons] at this
      clear hdrop
      generalize table.getD i ⟨[], [], false⟩ = e at *
      go_wp2_with (first | (go_at_call 94; (with_reducible refine (begins_semi_any _ _ _).mono ?_); rintro e w' ⟨rfl, rfl⟩) | (go_at_call 94; (with_reducible refine (begins_mk_any _ _ _).mono ?_); rintro e w' ⟨rfl, rfl⟩))
      · exact ⟨⟨i + 1, (mk e.name).size + 1, by omega, by omega, by go_num, by go_num, e.is, rfl, by have := HN2.out; rwa [nA _ _ _ _ ‹_› ‹_›] at this⟩, by simp [intOf]; omega⟩
      · exact ⟨⟨i + 1, (mk e.name).size + 1, by omega, by omega, by go_num, by go_num, e.is, rfl, by have := HN2.out; rwa [nA _ _ _ _ ‹_› ‹_›] at this⟩, by simp [intOf]; omega⟩
      · exact ⟨⟨i + 1, (mk e.name).size + 1, by omega, by omega, by go_num, by go_num, e.is, rfl, by have := HN2.out; rwa [nA _ _ _ _ ‹_› ‹_›] at this⟩, by simp [intOf]; omega⟩
      · exact ⟨⟨i + 1, m, by omega, by omega, by go_num, rfl, l, rfl, by have := HN2.out; rwa [nB _ _ _ _ ‹_› ‹_›] at this⟩, by simp [intOf]; omega⟩
      · exact ⟨⟨i + 1, m, by omega, by omega, by go_num, rfl, l, rfl, by have := HN2.out; rwa [nB _ _ _ _ ‹_› ‹_›] at this⟩, by simp [intOf]; omega⟩
      · exact ⟨⟨i + 1, m, by omega, by omega, by go_num, rfl, l, rfl, by have := HN2.out; rwa [nB _ _ _ _ ‹_› ‹_›] at this⟩, by simp [intOf]; omega⟩
      · exact ⟨⟨i + 1, (mk e.name).size, by omega, by omega, by go_num, by go_num, e.is, rfl, by have := HN2.out; rwa [nC _ _ _ _ ‹_› ‹_› ‹_› ‹_›] at this⟩, by simp [intOf]; omega⟩
      · exact ⟨⟨i + 1, m, by omega, by omega, by go_num, rfl, l, rfl, by have := HN2.out; rwa [nD _ _ _ _ ‹_› ‹_› ‹_› ‹_›] at this⟩, by simp [intOf]; omega⟩
      · exact ⟨⟨i + 1, m, by omega, by omega, by go_num, rfl, l, rfl, by have := HN2.out; rwa [nE _ _ _ _ ‹_› ‹_›] at this⟩, by simp [intOf]; omega⟩
      · exact ⟨⟨i + 1, m, by omega, by omega, by go_num, rfl, l, rfl, by have := HN2.out; rwa [nF _ _ _ _ ‹_› ‹_›] at this⟩, by simp [intOf]; omega⟩
    · have : i = 98 := by omega
      subst this
      have hn : Hid ((l, m) = namedR (bs s)) := HN.out
      clear HN
      go_wp2
      go_ret2
      exact ⟨by rw [← hn.out]; rfl, hbel⟩
end Tym

namespace Tym
set_option linter.unusedSimpArgs false
set_option linter.unusedVariables false
open Go Go.RowKit Go.Proofs

theorem digT_nil (cap base n i : Nat) : digT cap base [] n i = (n, i) := rfl
theorem digT_stop (cap base : Nat) (c : UInt8) (t : Bs) (n i : Nat) (h : hex c < 0 ∨ (base : Int) ≤ hex c) : digT cap base (c :: t) n i = (n, i) := by rw [digT, if_pos h]
theorem digT_go (cap base : Nat) (c : UInt8) (t : Bs) (n i : Nat) (h : 0 ≤ hex c) (h' : hex c < (base : Int)) : digT cap base (c :: t) n i = digT cap base t (min (n * base + (hex c).toNat) cap) (i + 1) := by
  rw [digT, if_neg (by omega)]

theorem numeric_of (cap A B : Nat) (s : Bs) (hb : begins s [38, 35] = true) (hA : numAt s = A) (hB : numBase s = B) :
    numeric cap s = if (digT cap B (s.drop A) 0 A).2 = A then (0, 0, 0) else ((digT cap B (s.drop A) 0 A).1, (digT cap B (s.drop A) 0 A).2 - A, (digT cap B (s.drop A) 0 A).2) := by
  unfold numeric; rw [if_pos hb, hA, hB]
theorem numeric_not (cap : Nat) (s : Bs) (h : begins s [38, 35] = false) : numeric cap s = (0, 0, 0) := by unfold numeric; rw [if_neg (by rw [h]; exact Bool.false_ne_true)]
theorem num_fin (N : Nat × Nat × Nat) (R : Nat × Nat) (A k i : Nat) (hx : N = if R.2 = A then (0, 0, 0) else (R.1, R.2 - A, R.2)) (hr : R = (k, i)) : (i = A → N = (0, 0, 0)) ∧ (i ≠ A → N = (k, i - A, i)) := by
  subst hr; constructor <;> intro h <;> simpa [h] using hx
theorem num_step (k B : Nat) (x : Int) (h : 0 ≤ x) : Value.int .i64 ((min (k * B + x.toNat) 16777216 : Nat) : Int) = .int .i64 (min ((k : Int) * (B : Int) + x) 16777216) := by
  congr 1
  have e : ((k * B + x.toNat : Nat) : Int) = (k : Int) * (B : Int) + x := by rw [Int.natCast_add, Int.natCast_mul, Int.toNat_of_nonneg h]
  rw [← e]; omega
theorem ret3 {a b c a' b' c' : Int} (h1 : a = a') (h2 : b = b') (h3 : c = c') : Ending.returned (.tuple #[.int .i64 a, .int .i64 b, .int .i64 c]) = .returned (.tuple #[.int .i64 a', .int .i64 b', .int .i64 c']) := by rw [h1, h2, h3]
theorem isX_yes (s : ByteArray) (h : 2 < s.size) (hx : (((s[2].toNat ||| 32 : Nat) : Int) == 120) = true) : isX (bs s) = true := by
  unfold isX
  rw [Bool.and_eq_true, decide_eq_true_iff, ← size_bs, ← get_bs s 2 h]
  refine ⟨h, ?_⟩
  have h2 : s[2].toNat ||| 32 = 120 := by have h := beq_iff_eq.1 hx; omega
  rw [beq_iff_eq, ← UInt8.toNat_inj, UInt8.toNat_or]; exact h2
theorem isX_no (s : ByteArray) (h : 2 < s.size) (hx : (((s[2].toNat ||| 32 : Nat) : Int) == 120) = false) : isX (bs s) = false := by
  unfold isX
  rw [Bool.and_eq_false_iff]
  refine .inr ?_
  rw [← get_bs s 2 h, beq_eq_false_iff_ne]
  intro e
  have h2 : s[2].toNat ||| 32 = 120 := by have := congrArg UInt8.toNat e; rwa [UInt8.toNat_or] at this
  rw [h2] at hx; simp at hx
theorem isX_short (s : ByteArray) (h : s.size ≤ 2) : isX (bs s) = false := by
  unfold isX; rw [← size_bs, decide_eq_false (by omega), Bool.false_and]

attribute [local irreducible] digT hex numeric

set_option maxHeartbeats 1000000 in
theorem numeric_x (s : ByteArray) (w : World) (hs : s.size ≤ 1000000000) (hbg : begins (bs s) [38, 35] = true) (h2 : 2 < s.size) (hc : (((s[2].toNat ||| 32 : Nat) : Int) == 120) = true) : Calls Tryz.prog 72 #[.string s] w fun e w' => e = .returned (.tuple #[.int .i64 (numeric 16777216 (bs s)).1, .int .i64 (numeric 16777216 (bs s)).2.1, .int .i64 (numeric 16777216 (bs s)).2.2]) ∧ w = w' := by
    have hx := isX_yes s h2 hc
    have hA : numAt (bs s) = 3 := by simp [numAt, hx]
    have hB : numBase (bs s) = 16 := by simp [numBase, hx]
    clear hx
    have HX : Hid (numeric 16777216 (bs s) = if (digT 16777216 16 ((bs s).drop 3) 0 3).2 = 3 then (0, 0, 0) else ((digT 16777216 16 ((bs s).drop 3) 0 3).1, (digT 16777216 16 ((bs s).drop 3) 0 3).2 - 3, (digT 16777216 16 ((bs s).drop 3) 0 3).2)) := numeric_of _ _ _ _ hbg hA hB
    clear hA hB
    go_enter Tryz.func72, Tryz.ntmps72
    go_wp2_with (first | simp only [or32] | (go_at_call 38; (with_reducible refine (prefix_lit _ _ _).mono ?_); rintro e w' ⟨rfl, rfl⟩))
    have H0 : Hid (digT 16777216 16 ((bs s).drop 3) 0 3 = digT 16777216 16 ((bs s).drop 3) 0 3) := rfl
    go_loop [2, 4, 7] (fun n e _ => ∃ k i : Nat, 3 ≤ i ∧ i ≤ s.size ∧ k ≤ 16777216 ∧ n = .int .i64 k ∧ e = .int .i64 i ∧ Hid (digT 16777216 16 ((bs s).drop i) k i = digT 16777216 16 ((bs s).drop 3) 0 3)) (fun _ i _ => s.size - (intOf i).toNat)
    case atStart => exact ⟨0, 3, by omega, by omega, by omega, rfl, rfl, H0⟩
    case round =>
      obtain ⟨k, i, hi1, hi2, hk, rfl, rfl, HD⟩ := hrel
      clear H0
      by_cases hlt : i < s.size
      · have hb1 := (hex_bd s[i]).1
        have hb2 := (hex_bd s[i]).2
        have Hd : Hid ((bs s).drop i = s[i] :: (bs s).drop (i + 1)) := drop_bs s i hlt
        by_cases hx0 : hex s[i] < 0
        · have HF : Hid (digT 16777216 16 ((bs s).drop 3) 0 3 = (k, i)) := by have := HD.out; rw [Hd.out, digT_stop _ _ _ _ _ _ (.inl hx0)] at this; exact this.symm
          clear HD
          go_wp2_with (go_at_call 89; (with_reducible refine (hex_any _ _).mono ?_); rintro e w' ⟨rfl, rfl⟩)
          all_goals (go_ret3; first | (have hi : ((i : Int) == 3) = true := (by assumption); exact ⟨by rw [(num_fin _ _ _ _ _ HX.out HF.out).1 (by have := beq_iff_eq.1 hi; omega)]; rfl, rfl⟩) | (have hi : ((i : Int) == 3) = false := (by assumption); exact ⟨by rw [(num_fin _ _ _ _ _ HX.out HF.out).2 (by intro h; subst h; simp at hi)]; exact ret3 rfl (by simp only; omega) rfl, rfl⟩))
        · by_cases hx1 : hex s[i] < 16
          · have HD2 : Hid (digT 16777216 16 ((bs s).drop (i + 1)) (min (k * 16 + (hex s[i]).toNat) 16777216) (i + 1) = digT 16777216 16 ((bs s).drop 3) 0 3) := by have := HD.out; rw [Hd.out, digT_go _ _ _ _ _ _ (by omega) (by omega)] at this; exact this
            clear HD
            have hx0' : 0 ≤ hex s[i] := by omega
            clear hx0
            go_wp2_with (go_at_call 89; (with_reducible refine (hex_any _ _).mono ?_); rintro e w' ⟨rfl, rfl⟩)
            go_round
            case rel => exact ⟨min (k * 16 + (hex s[i]).toNat) 16777216, i + 1, by omega, by omega, by omega, by rw [num_step _ _ _ hx0']; rfl, by go_num, HD2⟩
            case measure => simp [intOf]; omega
          · have HF : Hid (digT 16777216 16 ((bs s).drop 3) 0 3 = (k, i)) := by have := HD.out; rw [Hd.out, digT_stop _ _ _ _ _ _ (.inr (by omega))] at this; exact this.symm
            clear HD
            have hx0' : 0 ≤ hex s[i] := by omega
            have hx1' : 16 ≤ hex s[i] := by omega
            clear hx0 hx1
            go_wp2_with (go_at_call 89; (with_reducible refine (hex_any _ _).mono ?_); rintro e w' ⟨rfl, rfl⟩)
            all_goals (go_ret3; first | (have hi : ((i : Int) == 3) = true := (by assumption); exact ⟨by rw [(num_fin _ _ _ _ _ HX.out HF.out).1 (by have := beq_iff_eq.1 hi; omega)]; rfl, rfl⟩) | (have hi : ((i : Int) == 3) = false := (by assumption); exact ⟨by rw [(num_fin _ _ _ _ _ HX.out HF.out).2 (by intro h; subst h; simp at hi)]; exact ret3 rfl (by simp only; omega) rfl, rfl⟩))
      · have hie : i = s.size := by omega
        have HF : Hid (digT 16777216 16 ((bs s).drop 3) 0 3 = (k, i)) := by have := HD.out; rw [List.drop_eq_nil_of_le (by rw [← size_bs]; omega), digT_nil] at this; exact this.symm
        clear HD hie
        go_wp2
        all_goals (go_ret3; first | (have hi : ((i : Int) == 3) = true := (by assumption); exact ⟨by rw [(num_fin _ _ _ _ _ HX.out HF.out).1 (by have := beq_iff_eq.1 hi; omega)]; rfl, rfl⟩) | (have hi : ((i : Int) == 3) = false := (by assumption); exact ⟨by rw [(num_fin _ _ _ _ _ HX.out HF.out).2 (by intro h; subst h; simp at hi)]; exact ret3 rfl (by simp only; omega) rfl, rfl⟩))

set_option maxHeartbeats 1000000 in
theorem numeric_n (s : ByteArray) (w : World) (hs : s.size ≤ 1000000000) (hbg : begins (bs s) [38, 35] = true) (h2 : 2 < s.size) (hc : (((s[2].toNat ||| 32 : Nat) : Int) == 120) = false) : Calls Tryz.prog 72 #[.string s] w fun e w' => e = .returned (.tuple #[.int .i64 (numeric 16777216 (bs s)).1, .int .i64 (numeric 16777216 (bs s)).2.1, .int .i64 (numeric 16777216 (bs s)).2.2]) ∧ w = w' := by
    have hx := isX_no s h2 hc
    have hA : numAt (bs s) = 2 := by simp [numAt, hx]
    have hB : numBase (bs s) = 10 := by simp [numBase, hx]
    clear hx
    have HX : Hid (numeric 16777216 (bs s) = if (digT 16777216 10 ((bs s).drop 2) 0 2).2 = 2 then (0, 0, 0) else ((digT 16777216 10 ((bs s).drop 2) 0 2).1, (digT 16777216 10 ((bs s).drop 2) 0 2).2 - 2, (digT 16777216 10 ((bs s).drop 2) 0 2).2)) := numeric_of _ _ _ _ hbg hA hB
    clear hA hB
    go_enter Tryz.func72, Tryz.ntmps72
    go_wp2_with (first | simp only [or32] | (go_at_call 38; (with_reducible refine (prefix_lit _ _ _).mono ?_); rintro e w' ⟨rfl, rfl⟩))
    have H0 : Hid (digT 16777216 10 ((bs s).drop 2) 0 2 = digT 16777216 10 ((bs s).drop 2) 0 2) := rfl
    go_loop [2, 4, 7] (fun n e _ => ∃ k i : Nat, 2 ≤ i ∧ i ≤ s.size ∧ k ≤ 16777216 ∧ n = .int .i64 k ∧ e = .int .i64 i ∧ Hid (digT 16777216 10 ((bs s).drop i) k i = digT 16777216 10 ((bs s).drop 2) 0 2)) (fun _ i _ => s.size - (intOf i).toNat)
    case atStart => exact ⟨0, 2, by omega, by omega, by omega, rfl, rfl, H0⟩
    case round =>
      obtain ⟨k, i, hi1, hi2, hk, rfl, rfl, HD⟩ := hrel
      clear H0
      by_cases hlt : i < s.size
      · have hb1 := (hex_bd s[i]).1
        have hb2 := (hex_bd s[i]).2
        have Hd : Hid ((bs s).drop i = s[i] :: (bs s).drop (i + 1)) := drop_bs s i hlt
        by_cases hx0 : hex s[i] < 0
        · have HF : Hid (digT 16777216 10 ((bs s).drop 2) 0 2 = (k, i)) := by have := HD.out; rw [Hd.out, digT_stop _ _ _ _ _ _ (.inl hx0)] at this; exact this.symm
          clear HD
          go_wp2_with (go_at_call 89; (with_reducible refine (hex_any _ _).mono ?_); rintro e w' ⟨rfl, rfl⟩)
          all_goals (go_ret3; first | (have hi : ((i : Int) == 2) = true := (by assumption); exact ⟨by rw [(num_fin _ _ _ _ _ HX.out HF.out).1 (by have := beq_iff_eq.1 hi; omega)]; rfl, rfl⟩) | (have hi : ((i : Int) == 2) = false := (by assumption); exact ⟨by rw [(num_fin _ _ _ _ _ HX.out HF.out).2 (by intro h; subst h; simp at hi)]; exact ret3 rfl (by simp only; omega) rfl, rfl⟩))
        · by_cases hx1 : hex s[i] < 10
          · have HD2 : Hid (digT 16777216 10 ((bs s).drop (i + 1)) (min (k * 10 + (hex s[i]).toNat) 16777216) (i + 1) = digT 16777216 10 ((bs s).drop 2) 0 2) := by have := HD.out; rw [Hd.out, digT_go _ _ _ _ _ _ (by omega) (by omega)] at this; exact this
            clear HD
            have hx0' : 0 ≤ hex s[i] := by omega
            clear hx0
            go_wp2_with (go_at_call 89; (with_reducible refine (hex_any _ _).mono ?_); rintro e w' ⟨rfl, rfl⟩)
            go_round
            case rel => exact ⟨min (k * 10 + (hex s[i]).toNat) 16777216, i + 1, by omega, by omega, by omega, by rw [num_step _ _ _ hx0']; rfl, by go_num, HD2⟩
            case measure => simp [intOf]; omega
          · have HF : Hid (digT 16777216 10 ((bs s).drop 2) 0 2 = (k, i)) := by have := HD.out; rw [Hd.out, digT_stop _ _ _ _ _ _ (.inr (by omega))] at this; exact this.symm
            clear HD
            have hx0' : 0 ≤ hex s[i] := by omega
            have hx1' : 10 ≤ hex s[i] := by omega
            clear hx0 hx1
            go_wp2_with (go_at_call 89; (with_reducible refine (hex_any _ _).mono ?_); rintro e w' ⟨rfl, rfl⟩)
            all_goals (go_ret3; first | (have hi : ((i : Int) == 2) = true := (by assumption); exact ⟨by rw [(num_fin _ _ _ _ _ HX.out HF.out).1 (by have := beq_iff_eq.1 hi; omega)]; rfl, rfl⟩) | (have hi : ((i : Int) == 2) = false := (by assumption); exact ⟨by rw [(num_fin _ _ _ _ _ HX.out HF.out).2 (by intro h; subst h; simp at hi)]; exact ret3 rfl (by simp only; omega) rfl, rfl⟩))
      · have hie : i = s.size := by omega
        have HF : Hid (digT 16777216 10 ((bs s).drop 2) 0 2 = (k, i)) := by have := HD.out; rw [List.drop_eq_nil_of_le (by rw [← size_bs]; omega), digT_nil] at this; exact this.symm
        clear HD hie
        go_wp2
        all_goals (go_ret3; first | (have hi : ((i : Int) == 2) = true := (by assumption); exact ⟨by rw [(num_fin _ _ _ _ _ HX.out HF.out).1 (by have := beq_iff_eq.1 hi; omega)]; rfl, rfl⟩) | (have hi : ((i : Int) == 2) = false := (by assumption); exact ⟨by rw [(num_fin _ _ _ _ _ HX.out HF.out).2 (by intro h; subst h; simp at hi)]; exact ret3 rfl (by simp only; omega) rfl, rfl⟩))

set_option maxHeartbeats 1000000 in
theorem numeric_s (s : ByteArray) (w : World) (hs : s.size ≤ 1000000000) (hbg : begins (bs s) [38, 35] = true) (h2 : ¬ 2 < s.size) : Calls Tryz.prog 72 #[.string s] w fun e w' => e = .returned (.tuple #[.int .i64 (numeric 16777216 (bs s)).1, .int .i64 (numeric 16777216 (bs s)).2.1, .int .i64 (numeric 16777216 (bs s)).2.2]) ∧ w = w' := by
    have h2' : 2 ≤ s.size := by have h3 := congrArg List.length ((begins_iff _ _).1 hbg); rw [List.length_take, ← size_bs] at h3; simp at h3; omega
    have hx := isX_short s (by omega)
    have hA : numAt (bs s) = 2 := by simp [numAt, hx]
    have hB : numBase (bs s) = 10 := by simp [numBase, hx]
    clear hx
    have HX : Hid (numeric 16777216 (bs s) = if (digT 16777216 10 ((bs s).drop 2) 0 2).2 = 2 then (0, 0, 0) else ((digT 16777216 10 ((bs s).drop 2) 0 2).1, (digT 16777216 10 ((bs s).drop 2) 0 2).2 - 2, (digT 16777216 10 ((bs s).drop 2) 0 2).2)) := numeric_of _ _ _ _ hbg hA hB
    clear hA hB
    go_enter Tryz.func72, Tryz.ntmps72
    go_wp2_with (first | simp only [or32] | (go_at_call 38; (with_reducible refine (prefix_lit _ _ _).mono ?_); rintro e w' ⟨rfl, rfl⟩))
    have H0 : Hid (digT 16777216 10 ((bs s).drop 2) 0 2 = digT 16777216 10 ((bs s).drop 2) 0 2) := rfl
    go_loop [2, 4, 7] (fun n e _ => ∃ k i : Nat, 2 ≤ i ∧ i ≤ s.size ∧ k ≤ 16777216 ∧ n = .int .i64 k ∧ e = .int .i64 i ∧ Hid (digT 16777216 10 ((bs s).drop i) k i = digT 16777216 10 ((bs s).drop 2) 0 2)) (fun _ i _ => s.size - (intOf i).toNat)
    case atStart => exact ⟨0, 2, by omega, by omega, by omega, rfl, rfl, H0⟩
    case round =>
      obtain ⟨k, i, hi1, hi2, hk, rfl, rfl, HD⟩ := hrel
      clear H0
      by_cases hlt : i < s.size
      · exfalso; omega
      · have hie : i = s.size := by omega
        have HF : Hid (digT 16777216 10 ((bs s).drop 2) 0 2 = (k, i)) := by have := HD.out; rw [List.drop_eq_nil_of_le (by rw [← size_bs]; omega), digT_nil] at this; exact this.symm
        clear HD hie
        go_wp2
        all_goals (go_ret3; first | (have hi : ((i : Int) == 2) = true := (by assumption); exact ⟨by rw [(num_fin _ _ _ _ _ HX.out HF.out).1 (by have := beq_iff_eq.1 hi; omega)]; rfl, rfl⟩) | (have hi : ((i : Int) == 2) = false := (by assumption); exact ⟨by rw [(num_fin _ _ _ _ _ HX.out HF.out).2 (by intro h; subst h; simp at hi)]; exact ret3 rfl (by simp only; omega) rfl, rfl⟩))

set_option maxHeartbeats 1000000 in
theorem numeric_no (s : ByteArray) (w : World) (hs : s.size ≤ 1000000000) (hbg : begins (bs s) [38, 35] = false) : Calls Tryz.prog 72 #[.string s] w fun e w' => e = .returned (.tuple #[.int .i64 (numeric 16777216 (bs s)).1, .int .i64 (numeric 16777216 (bs s)).2.1, .int .i64 (numeric 16777216 (bs s)).2.2]) ∧ w = w' := by
    have hn := numeric_not 16777216 _ hbg
    go_enter Tryz.func72, Tryz.ntmps72
    go_wp2_with (first | simp only [or32] | (go_at_call 38; (with_reducible refine (prefix_lit _ _ _).mono ?_); rintro e w' ⟨rfl, rfl⟩))
    go_ret3
    exact ⟨by rw [hn]; rfl, rfl⟩

theorem numeric_any (s : ByteArray) (w : World) (hs : s.size ≤ 1000000000) : Calls Tryz.prog 72 #[.string s] w fun e w' => e = .returned (.tuple #[.int .i64 (numeric 16777216 (bs s)).1, .int .i64 (numeric 16777216 (bs s)).2.1, .int .i64 (numeric 16777216 (bs s)).2.2]) ∧ w = w' := by
  rcases Bool.eq_false_or_eq_true (begins (bs s) [38, 35]) with hbg | hbg
  · by_cases h2 : 2 < s.size
    · rcases Bool.eq_false_or_eq_true (((s[2].toNat ||| 32 : Nat) : Int) == 120) with hc | hc
      · exact numeric_x s w hs hbg h2 hc
      · exact numeric_n s w hs hbg h2 hc
    · exact numeric_s s w hs hbg h2
  · exact numeric_no s w hs hbg
end Tym
