/- The walks of raw.follows and of the reference's closed, word, ends. The walks of the reference's ends, and of raw.plainly. The walk of the reference's script. The walk of raw.script (goto). Printed by wip/gen_script.py. -/
import Derived.Test.YtpgdkhdnnegmaaaWorlds
import Derived.Test.YtpgdkhdnnegmaaaPlainNote
import Derived.ScopeJumps

namespace Tym
set_option linter.unusedSimpArgs false
set_option linter.unusedVariables false
open Go Go.RowKit Go.Proofs
set_option maxRecDepth 20000
attribute [local irreducible] lower isSpace

theorem isClose_int (c : UInt8) : isClose c = (isSpace c || ((c.toNat : Int) == (47 : Nat)) || ((c.toNat : Int) == (62 : Nat))) := by
  unfold isClose
  rw [byte_beq c 47 (by decide), byte_beq c 62 (by decide)]; rfl

theorem follows_yes (r e : Bs) (h : e.length < r.length) (hl : lower (r.take e.length) = e) : follows r e = isClose (r.getD e.length 0) := by
  unfold follows wordIn closedIn
  rw [hl, decide_eq_true h, decide_eq_true (Nat.le_of_lt h)]; simp
theorem follows_no (r e : Bs) (h : e.length < r.length → lower (r.take e.length) ≠ e) : follows r e = false := by
  rw [Bool.eq_false_iff]
  intro hf
  have hlt := follows_len r e hf
  unfold follows wordIn at hf
  simp only [Bool.and_eq_true, beq_iff_eq] at hf
  exact h hlt hf.1.2

set_option maxHeartbeats 1000000 in
theorem follows_walk (s word : ByteArray) (w : World) (hs : s.size ≤ 1000000000) (hlt : word.size < s.size) (l : ByteArray) (b : Bool) (hb1 : (l.toList == word.toList) = b) (sp x y : Bool)
    (HL : Hid (∀ w, Calls Try.prog 28 #[.string (s.extract 0 word.size)] w fun e w' => e = .returned (.string l) ∧ Below w.heap.size w w'))
    (HS : Hid (∀ w, Calls Try.prog 35 #[.int .u8 (s[word.size].toNat : Int)] w fun e w' => e = .returned (.bool sp) ∧ w = w'))
    (hx : ((s[word.size].toNat : Int) == 47) = x) (hy : ((s[word.size].toNat : Int) == 62) = y) :
    Calls Try.prog 64 #[.string s, .string word] w fun e w' => e = .returned (.bool (b && (sp || x || y))) ∧ Below w.heap.size w w' := by
  cases b <;> cases sp <;> cases x <;> cases y
  all_goals
    go_enter Try.func64, Try.ntmps64
    go_wp2_with (first | (go_at_call 28; (with_reducible refine (HL.out _).mono ?_); rintro e w' ⟨rfl, hb⟩) | (go_at_call 35; (with_reducible refine (HS.out _).mono ?_); rintro e w' ⟨rfl, rfl⟩))
    go_ret
    exact ⟨ret_bool (by simp [hx, hy]), hb⟩

theorem follows_any (s word : ByteArray) (w : World) (hs : s.size ≤ 1000000000) : Calls Try.prog 64 #[.string s, .string word] w fun e w' => e = .returned (.bool (follows (bs s) (bs word))) ∧ Below w.heap.size w w' := by
  by_cases hlt : word.size < s.size
  · have hL := fun w => lower_any (s.extract 0 word.size) w (by rw [ByteArray.size_extract]; omega)
    rw [bs_to] at hL
    refine (follows_walk s word w hs hlt _ _ rfl _ _ _ hL (space_any _) rfl rfl).mono ?_
    rintro e w' ⟨rfl, hb⟩
    refine ⟨ret_bool ?_, hb⟩
    have hz : word.size = (bs word).length := size_bs word
    rw [show ((mk (lower (List.take word.size (bs s)))).toList == word.toList) = (lower ((bs s).take word.size) == bs word) from by rw [toList_beq, bs_mk]]
    have hic := isClose_int (s[word.size]'hlt)
    rw [get_bs s word.size hlt] at hic
    by_cases hl : lower ((bs s).take word.size) = bs word
    · rw [follows_yes (bs s) (bs word) (by rw [← hz, ← size_bs]; exact hlt) (by rw [← hz]; exact hl), ← hz, hic, hl]
      simp only [BEq.rfl, Bool.not_true, Bool.not_false, Bool.true_and]
      rw [get_bs s word.size hlt]; rfl
    · rw [follows_no (bs s) (bs word) (fun _ h => hl (by rw [← hz] at h; exact h)), show (lower ((bs s).take word.size) == bs word) = false from beq_eq_false_iff_ne.2 hl]; rfl
  · have hf : follows (bs s) (bs word) = false := follows_no _ _ (fun h => absurd h (by rw [← size_bs, ← size_bs]; exact hlt))
    rw [hf]
    go_enter Try.func64, Try.ntmps64
    go_wp2
    go_ret
    exact ⟨rfl, Below.refl _ _⟩

theorem closed_walk (s : ByteArray) (i : Nat) (w : World) (hs : s.size ≤ 1000000000) (hlt : i < s.size) (sp x y : Bool)
    (HS : Hid (∀ w, Calls Try.prog 80 #[.int .u8 (s[i].toNat : Int)] w fun e w' => e = .returned (.bool sp) ∧ w = w'))
    (hx : ((s[i].toNat : Int) == 47) = x) (hy : ((s[i].toNat : Int) == 62) = y) :
    Calls Try.prog 79 #[.string s, .int .i64 i] w fun e w' => e = .returned (.bool (sp || x || y)) ∧ w = w' := by
  cases sp <;> cases x <;> cases y
  all_goals
    go_enter Try.func79, Try.ntmps79
    go_wp2_with (first | (go_at_call 80; (with_reducible refine (HS.out _).mono ?_); rintro e w' ⟨rfl, rfl⟩))
    go_ret
    exact ⟨ret_bool (by simp [hx, hy]), rfl⟩

theorem closed_any (s : ByteArray) (i : Nat) (w : World) (hs : s.size ≤ 1000000000) (hi : i ≤ 100000000000) : Calls Try.prog 79 #[.string s, .int .i64 i] w fun e w' => e = .returned (.bool (closedIn (bs s) i)) ∧ w = w' := by
  by_cases hlt : i < s.size
  · refine (closed_walk s i w hs hlt _ _ _ (spaceR_any _) rfl rfl).mono ?_
    rintro e w' ⟨rfl, hb⟩
    refine ⟨ret_bool ?_, hb⟩
    have hic := isClose_int (s[i]'hlt)
    unfold closedIn
    rw [← size_bs, decide_eq_true hlt, Bool.true_and, ← get_bs s i hlt, hic]; rfl
  · have hf : closedIn (bs s) i = false := by unfold closedIn; rw [← size_bs, decide_eq_false hlt, Bool.false_and]
    rw [hf]
    go_enter Try.func79, Try.ntmps79
    go_wp2
    go_ret
    exact ⟨rfl, rfl⟩

theorem word_walk (s small : ByteArray) (i : Nat) (w : World) (hs : s.size ≤ 1000000000) (hi : i ≤ s.size) (hle : i + small.size ≤ s.size) (l : ByteArray) (b : Bool) (hb1 : (l.toList == small.toList) = b)
    (HL : Hid (∀ w, Calls Try.prog 54 #[.string (s.extract i (i + small.size))] w fun e w' => e = .returned (.string l) ∧ Below w.heap.size w w')) :
    Calls Try.prog 78 #[.string s, .int .i64 i, .string small] w fun e w' => e = .returned (.bool b) ∧ Below w.heap.size w w' := by
  cases b
  all_goals
    go_enter Try.func78, Try.ntmps78
    go_wp2_with (first | (go_at_call 54; (with_reducible refine (HL.out _).mono ?_); rintro e w' ⟨rfl, hb⟩))
    go_ret
    exact ⟨rfl, hb⟩

theorem word_any (s small : ByteArray) (i : Nat) (w : World) (hs : s.size ≤ 1000000000) (hi : i ≤ s.size) (hsm : small.size ≤ 1000000000) : Calls Try.prog 78 #[.string s, .int .i64 i, .string small] w fun e w' => e = .returned (.bool (wordIn ((bs s).drop i) (bs small))) ∧ Below w.heap.size w w' := by
  have hz : small.size = (bs small).length := size_bs small
  by_cases hle : i + small.size ≤ s.size
  · have hL := fun w => lowerR_any (s.extract i (i + small.size)) w (by rw [ByteArray.size_extract]; omega)
    rw [bs_extract, show i + small.size - i = small.size from by omega] at hL
    refine (word_walk s small i w hs hi hle _ _ rfl hL).mono ?_
    rintro e w' ⟨rfl, hb⟩
    refine ⟨ret_bool ?_, hb⟩
    unfold wordIn
    rw [toList_beq, bs_mk, ← hz, List.length_drop, ← size_bs, decide_eq_true (by omega), Bool.true_and]
  · have hf : wordIn ((bs s).drop i) (bs small) = false := by unfold wordIn; rw [← hz, List.length_drop, ← size_bs, decide_eq_false (by omega), Bool.false_and]
    have hd : ¬ (small.size : Int) ≤ (s.size : Int) - (i : Int) := by omega
    rw [hf]
    go_enter Try.func78, Try.ntmps78
    go_wp2
    go_ret
    exact ⟨rfl, Below.refl _ _⟩
end Tym

namespace Tym
set_option linter.unusedSimpArgs false
set_option linter.unusedVariables false
open Go Go.RowKit Go.Proofs
set_option maxRecDepth 20000
attribute [local irreducible] lower isSpace follows wordIn closedIn plainAt upto

theorem closed_drop (l : Bs) (i j : Nat) : closedIn (l.drop i) j = closedIn l (i + j) := by
  unfold closedIn
  rw [List.length_drop, List.getD_eq_getElem?_getD, List.getElem?_drop, ← List.getD_eq_getElem?_getD]
  congr 1
  rw [decide_eq_decide]; omega

theorem ends_any (s name : ByteArray) (i : Nat) (w : World) (hs : s.size ≤ 1000000) (hn : name.size ≤ 1000000) (hi : i ≤ s.size) : Calls Try.prog 51 #[.string s, .int .i64 i, .string name] w fun e w' => e = .returned (.bool (follows ((bs s).drop i) (endOf (bs name)))) ∧ Below w.heap.size w w' := by
  have HL : Hid (∀ w, Calls Try.prog 54 #[.string name] w fun e w' => e = .returned (.string (mk (lower (bs name)))) ∧ Below w.heap.size w w') := fun w => lowerR_any name w (by omega)
  have hsz : (mk (lower (bs name))).size = name.size := by rw [size_mk, lower_len, ← size_bs]
  have hbs : bs (⟨#[60, 47]⟩ ++ mk (lower (bs name))) = endOf (bs name) := by rw [bs_append]; rfl
  have hes : (⟨#[60, 47]⟩ ++ mk (lower (bs name)) : ByteArray).size = 2 + name.size := by rw [size_append, hsz]; rfl
  have HW : Hid (∀ w, Calls Try.prog 78 #[.string s, .int .i64 i, .string (⟨#[60, 47]⟩ ++ mk (lower (bs name)))] w fun e w' => e = .returned (.bool (wordIn ((bs s).drop i) (endOf (bs name)))) ∧ Below w.heap.size w w') := fun w => by
    have := word_any s (⟨#[60, 47]⟩ ++ mk (lower (bs name))) i w (by omega) hi (by omega)
    rwa [hbs] at this
  have HCl : Hid (∀ w, Calls Try.prog 79 #[.string s, .int .i64 ((i : Int) + (2 + (name.size : Int)))] w fun e w' => e = .returned (.bool (closedIn ((bs s).drop i) (endOf (bs name)).length)) ∧ w = w') := fun w => by
    have := closed_any s (i + (2 + name.size)) w (by omega) (by omega)
    rw [closed_drop, ← hbs, ← size_bs, hes]
    have e : (((i + (2 + name.size) : Nat)) : Int) = (i : Int) + (2 + (name.size : Int)) := by omega
    rwa [e] at this
  have HF : Hid (follows ((bs s).drop i) (endOf (bs name)) = (wordIn ((bs s).drop i) (endOf (bs name)) && closedIn ((bs s).drop i) (endOf (bs name)).length)) := by show follows _ _ = _; unfold follows; rfl
  generalize wordIn ((bs s).drop i) (endOf (bs name)) = x at *
  generalize closedIn ((bs s).drop i) (endOf (bs name)).length = y at *
  clear hbs
  generalize mk (lower (bs name)) = nm at *
  cases x
  all_goals
    go_enter Try.func51, Try.ntmps51
    go_wp2_with fail
    refine (HL.out _).mono ?_
    rintro e w1 ⟨rfl, b1⟩
    go_wp2_with fail
    refine (HW.out _).mono ?_
    rintro e w2 ⟨rfl, b2⟩
    go_wp2_with (go_at_call 79; (with_reducible refine (HCl.out _).mono ?_); rintro e w' ⟨rfl, rfl⟩)
    go_ret
    exact ⟨by rw [HF.out]; rfl, below_then b1 b2⟩

theorem plainAt_nil (e : Bs) : plainAt e [] = 0 := by unfold plainAt; rfl
theorem plainAt_stop (e r : Bs) (h : follows r e = true) : plainAt e r = 0 := by
  cases r with
  | nil => exact plainAt_nil e
  | cons c t => unfold plainAt; rw [h]; rfl
theorem plainAt_go (e r : Bs) (hr : 0 < r.length) (h : follows r e = false) : plainAt e r = 1 + plainAt e (r.drop 1) := by
  cases r with
  | nil => simp at hr
  | cons c t => rw [plainAt, h]; rfl

theorem plainly_any (s e : ByteArray) (e' : Bs) (he : bs e = 60 :: e') (w : World) (hs : s.size ≤ 1000000) : Calls Try.prog 29 #[.string s, .string e] w fun x w' => x = .returned (.int .i64 (plainAt (bs e) (bs s))) ∧ Below w.heap.size w w' := by
  go_enter Try.func29, Try.ntmps29
  go_wp2_with fail
  go_loopw [5] (fun v wr => ∃ k : Nat, k ≤ s.size ∧ v = .int .i64 k ∧ Hid (k + plainAt (bs e) ((bs s).drop k) = plainAt (bs e) (bs s)) ∧ Below w.heap.size w wr) (fun v _ => s.size - (intOf v).toNat)
  case atStart => exact ⟨0, by omega, rfl, by rw [List.drop_zero]; exact Nat.zero_add _, Below.refl _ _⟩
  case round =>
    obtain ⟨k, hk, rfl, HN, hbel⟩ := hrel
    have hI : Hid (∀ w, Calls Try.prog 42 #[.string (s.extract k s.size), .int .u8 60] w fun e w' => e = .returned (.int .i64 (idxI 60 ((bs s).drop k))) ∧ w = w') := fun w => by
      have := index_any (s.extract k s.size) 60 w
      rwa [bs_from] at this
    have hsk := plainAt_skip e' ((bs s).drop k)
    rw [← he] at hsk
    have hul := upto_le 60 ((bs s).drop k)
    rw [List.length_drop, ← size_bs] at hul
    have hidx : Hid (idxI 60 ((bs s).drop k) = if upto 60 ((bs s).drop k) < ((bs s).drop k).length then (upto 60 ((bs s).drop k) : Int) else -1) := by unfold idxI; rfl
    have HSK := Lib.hid hsk
    clear hsk
    by_cases hu : k + upto 60 ((bs s).drop k) < s.size
    · have hidx2 : idxI 60 ((bs s).drop k) = (upto 60 ((bs s).drop k) : Int) := by rw [hidx.out, if_pos (by rw [List.length_drop, ← size_bs]; omega)]
      rw [hidx2] at hI
      clear hidx hidx2
      have HN2 : Hid (k + (upto 60 ((bs s).drop k) + plainAt (bs e) ((bs s).drop (k + upto 60 ((bs s).drop k)))) = plainAt (bs e) (bs s)) := by
        have := HN.out
        rw [HSK.out, List.drop_drop] at this
        exact this
      clear HN HSK
      generalize upto 60 ((bs s).drop k) = u at *
      have hFw : Hid (∀ w, Calls Try.prog 64 #[.string (s.extract (k + u) s.size), .string e] w fun x w' => x = .returned (.bool (follows ((bs s).drop (k + u)) (bs e))) ∧ Below w.heap.size w w') := fun w => by
        have := follows_any (s.extract (k + u) s.size) e w (by rw [ByteArray.size_extract]; omega)
        rwa [bs_from] at this
      cases hf : follows ((bs s).drop (k + u)) (bs e)
      · have HN3 : Hid (k + u + 1 + plainAt (bs e) ((bs s).drop (k + u + 1)) = plainAt (bs e) (bs s)) := by
          have := HN2.out
          rw [plainAt_go _ _ (by rw [List.length_drop, ← size_bs]; omega) hf, List.drop_drop] at this
          show _ = _
          omega
        rw [hf] at hFw
        clear HN2 hf
        go_wp2_with fail
        refine (hI.out _).mono ?_
        rintro x w1 ⟨rfl, rfl⟩
        go_wp2_with fail
        refine (hFw.out _).mono ?_
        rintro x w2 ⟨rfl, b2⟩
        go_wp2
        go_roundw
        case rel => exact ⟨k + u + 1, by omega, by go_num, HN3, below_then hbel b2⟩
        case measure => simp [intOf]; omega
      · have HN3 : Hid (plainAt (bs e) (bs s) = k + u) := by
          have := HN2.out
          rw [plainAt_stop _ _ hf] at this
          show _ = _
          omega
        rw [hf] at hFw
        clear HN2 hf
        go_wp2_with fail
        refine (hI.out _).mono ?_
        rintro x w1 ⟨rfl, rfl⟩
        go_wp2_with fail
        refine (hFw.out _).mono ?_
        rintro x w2 ⟨rfl, b2⟩
        go_wp2
        go_ret
        exact ⟨by rw [HN3.out]; exact ret_int (by omega), below_then hbel b2⟩
    · have hidx2 : idxI 60 ((bs s).drop k) = -1 := by rw [hidx.out, if_neg (by rw [List.length_drop, ← size_bs]; omega)]
      rw [hidx2] at hI
      have HN3 : Hid (plainAt (bs e) (bs s) = s.size) := by
        have := HN.out
        rw [HSK.out, List.drop_drop, show (bs s).drop (k + upto 60 ((bs s).drop k)) = [] from List.drop_eq_nil_of_le (by rw [← size_bs]; omega), plainAt_nil] at this
        show _ = _
        omega
      clear HN HSK hidx hidx2 hul hu
      go_wp2_with fail
      refine (hI.out _).mono ?_
      rintro x w1 ⟨rfl, rfl⟩
      go_wp2
      go_ret
      exact ⟨by rw [HN3.out]; rfl, hbel⟩
end Tym

namespace Tym
set_option linter.unusedSimpArgs false
set_option linter.unusedVariables false
open Go Go.RowKit Go.Proofs
set_option maxRecDepth 20000

def scrL (e : Bs) (st d : Nat) (r : Bs) : Nat := scr e r.length st d r
theorem scrL_nil (e : Bs) (st d : Nat) : scrL e st d [] = 0 := rfl
theorem scrL_le (e : Bs) (st d : Nat) (r : Bs) : scrL e st d r ≤ r.length := scr_le e _ _ _ _
theorem scrL_cons (e : Bs) (st d : Nat) (r : Bs) (hr : 0 < r.length) : scrL e st d r =
    if st ≠ 2 ∧ follows r e = true then 0
    else if st = 0 then
      (if begins r [60, 33, 45, 45] then 4 + scrL e 1 2 (r.drop 4) else 1 + scrL e 0 d (r.drop 1))
    else if r.getD 0 0 = 45 then 1 + scrL e st (d + 1) (r.drop 1)
    else if r.getD 0 0 = 62 ∧ 2 ≤ d then 1 + scrL e 0 0 (r.drop 1)
    else if st = 1 ∧ follows r [60, 115, 99, 114, 105, 112, 116] = true then 8 + scrL e 2 0 (r.drop 8)
    else if st = 2 ∧ follows r [60, 47, 115, 99, 114, 105, 112, 116] = true then 9 + scrL e 1 0 (r.drop 9)
    else 1 + scrL e st 0 (r.drop 1) := by
  cases r with
  | nil => simp at hr
  | cons c t =>
    unfold scrL
    rw [List.length_cons, scr]
    have hf : ∀ (st d n : Nat), 1 ≤ n → scr e ((c :: t).drop n).length st d ((c :: t).drop n) = scr e t.length st d ((c :: t).drop n) := fun st d n hn =>
      scr_fuel e _ _ _ _ _ (Nat.le_refl _) (by rw [List.length_drop, List.length_cons]; omega)
    rw [hf 1 2 4 (by omega), hf 0 d 1 (by omega), hf st (d + 1) 1 (by omega), hf 0 0 1 (by omega), hf 2 0 8 (by omega), hf 1 0 9 (by omega), hf st 0 1 (by omega)]
    rfl
-- GEN

theorem byte45 (c : UInt8) : c = 45 ↔ ((c.toNat : Int) == 45) = true := byte_all (p := fun c => c = 45 ↔ ((c.toNat : Int) == 45) = true) (by decide +kernel) c
theorem byte62 (c : UInt8) : c = 62 ↔ ((c.toNat : Int) == 62) = true := byte_all (p := fun c => c = 62 ↔ ((c.toNat : Int) == 62) = true) (by decide +kernel) c
theorem end_script : endOf (bs ⟨#[115, 99, 114, 105, 112, 116]⟩) = [60, 47, 115, 99, 114, 105, 112, 116] := by decide +kernel

attribute [local irreducible] scrL follows begins wordIn closedIn lower isSpace scr

/-- What the two walks of a script's text need of a place in it. -/
theorem scr_end (E : Bs) (st d : Nat) (r : Bs) (hr : 0 < r.length) (h2 : st ≠ 2) (hf : follows r E = true) : scrL E st d r = 0 := by
  rw [scrL_cons E st d r hr, if_pos ⟨h2, hf⟩]
theorem scr_open (E : Bs) (d : Nat) (r : Bs) (hr : 0 < r.length) (hf : follows r E = false) (hg : begins r [60, 33, 45, 45] = true) : scrL E 0 d r = 4 + scrL E 1 2 (r.drop 4) := by
  rw [scrL_cons E 0 d r hr, if_neg (by rw [hf]; simp), if_pos rfl, if_pos hg]
theorem scr_out (E : Bs) (d : Nat) (r : Bs) (hr : 0 < r.length) (hf : follows r E = false) (hg : begins r [60, 33, 45, 45] = false) : scrL E 0 d r = 1 + scrL E 0 d (r.drop 1) := by
  rw [scrL_cons E 0 d r hr, if_neg (by rw [hf]; simp), if_pos rfl, if_neg (by rw [hg]; simp)]
theorem scr_dash (E : Bs) (st d : Nat) (r : Bs) (hr : 0 < r.length) (hn : ¬ (st ≠ 2 ∧ follows r E = true)) (h0 : st ≠ 0) (hc : r.getD 0 0 = 45) : scrL E st d r = 1 + scrL E st (d + 1) (r.drop 1) := by
  rw [scrL_cons E st d r hr, if_neg hn, if_neg h0, if_pos hc]
theorem scr_shut (E : Bs) (st d : Nat) (r : Bs) (hr : 0 < r.length) (hn : ¬ (st ≠ 2 ∧ follows r E = true)) (h0 : st ≠ 0) (hc : r.getD 0 0 ≠ 45) (hg : r.getD 0 0 = 62 ∧ 2 ≤ d) : scrL E st d r = 1 + scrL E 0 0 (r.drop 1) := by
  rw [scrL_cons E st d r hr, if_neg hn, if_neg h0, if_neg hc, if_pos hg]
theorem scr_deep (E : Bs) (d : Nat) (r : Bs) (hr : 0 < r.length) (hn : follows r E = false) (hc : r.getD 0 0 ≠ 45) (hg : ¬ (r.getD 0 0 = 62 ∧ 2 ≤ d)) (h7 : follows r [60, 115, 99, 114, 105, 112, 116] = true) : scrL E 1 d r = 8 + scrL E 2 0 (r.drop 8) := by
  rw [scrL_cons E 1 d r hr, if_neg (by rw [hn]; simp), if_neg (by omega), if_neg hc, if_neg hg, if_pos ⟨rfl, h7⟩]
theorem scr_back (E : Bs) (d : Nat) (r : Bs) (hr : 0 < r.length) (hc : r.getD 0 0 ≠ 45) (hg : ¬ (r.getD 0 0 = 62 ∧ 2 ≤ d)) (h9 : follows r [60, 47, 115, 99, 114, 105, 112, 116] = true) : scrL E 2 d r = 9 + scrL E 1 0 (r.drop 9) := by
  rw [scrL_cons E 2 d r hr, if_neg (fun h => h.1 rfl), if_neg (by omega), if_neg hc, if_neg hg, if_neg (fun h => by omega), if_pos ⟨rfl, h9⟩]
theorem scr_on1 (E : Bs) (d : Nat) (r : Bs) (hr : 0 < r.length) (hn : follows r E = false) (hc : r.getD 0 0 ≠ 45) (hg : ¬ (r.getD 0 0 = 62 ∧ 2 ≤ d)) (h7 : follows r [60, 115, 99, 114, 105, 112, 116] = false) : scrL E 1 d r = 1 + scrL E 1 0 (r.drop 1) := by
  rw [scrL_cons E 1 d r hr, if_neg (by rw [hn]; simp), if_neg (by omega), if_neg hc, if_neg hg, if_neg (by rw [h7]; simp), if_neg (fun h => by omega)]
theorem scr_on2 (E : Bs) (d : Nat) (r : Bs) (hr : 0 < r.length) (hc : r.getD 0 0 ≠ 45) (hg : ¬ (r.getD 0 0 = 62 ∧ 2 ≤ d)) (h9 : follows r [60, 47, 115, 99, 114, 105, 112, 116] = false) : scrL E 2 d r = 1 + scrL E 2 0 (r.drop 1) := by
  rw [scrL_cons E 2 d r hr, if_neg (fun h => h.1 rfl), if_neg (by omega), if_neg hc, if_neg hg, if_neg (fun h => by omega), if_neg (by rw [h9]; simp)]

theorem nextTo (E : Bs) (l : Bs) (k n st d st' d' t : Nat) (h : k + scrL E st d (l.drop k) = t) (hs : scrL E st d (l.drop k) = n + scrL E st' d' ((l.drop k).drop n)) : k + n + scrL E st' d' (l.drop (k + n)) = t := by
  rw [List.drop_drop] at hs; omega

set_option maxHeartbeats 2000000 in
theorem scriptR_any (s name : ByteArray) (i : Nat) (w : World) (hs : s.size ≤ 1000000) (hn : name.size ≤ 1000000) (hi : i ≤ s.size) : Calls Try.prog 50 #[.string s, .int .i64 i, .string name] w fun e w' => e = .returned (.int .i64 ((i + scrL (endOf (bs name)) 0 0 ((bs s).drop i) : Nat) : Int)) ∧ Below w.heap.size w w' := by
  have HE0 : Hid (∀ k, k ≤ s.size → ∀ w, Calls Try.prog 51 #[.string s, .int .i64 k, .string name] w fun e w' => e = .returned (.bool (follows ((bs s).drop k) (endOf (bs name)))) ∧ Below w.heap.size w w') := fun k hk w => ends_any s name k w hs hn hk
  generalize hT : i + scrL (endOf (bs name)) 0 0 ((bs s).drop i) = t
  generalize endOf (bs name) = E at *
  have HT := Lib.hid hT
  clear hT
  go_enter Try.func50, Try.ntmps50
  go_wp2_with fail
  go_loopw [1, 7, 8] (fun v1 v7 v8 wr => ∃ k st d : Nat, k ≤ s.size ∧ st ≤ 2 ∧ d ≤ k + 2 ∧ v1 = .int .i64 k ∧ v7 = .int .i64 st ∧ v8 = .int .i64 d ∧ Hid (k + scrL E st d ((bs s).drop k) = t) ∧ Below w.heap.size w wr) (fun v1 _ _ _ => s.size - (intOf v1).toNat)
  case atStart => exact ⟨i, 0, 0, hi, by omega, by omega, rfl, rfl, rfl, HT, Below.refl _ _⟩
  case round =>
    obtain ⟨k, st, d, hk, hst, hd, rfl, rfl, rfl, HN, hbel⟩ := hrel
    by_cases hlt : k < s.size
    · have hr : 0 < ((bs s).drop k).length := by rw [List.length_drop, ← size_bs]; omega
      have hrl : ((bs s).drop k).length = s.size - k := by rw [List.length_drop, ← size_bs]
      have hE : Hid (∀ w, Calls Try.prog 51 #[.string s, .int .i64 k, .string name] w fun e w' => e = .returned (.bool (follows ((bs s).drop k) E)) ∧ Below w.heap.size w w') := HE0.out k hk
      have hE9 : Hid (∀ w, Calls Try.prog 51 #[.string s, .int .i64 k, .string ⟨#[115, 99, 114, 105, 112, 116]⟩] w fun e w' => e = .returned (.bool (follows ((bs s).drop k) [60, 47, 115, 99, 114, 105, 112, 116])) ∧ Below w.heap.size w w') := fun w => by
        have := ends_any s ⟨#[115, 99, 114, 105, 112, 116]⟩ k w hs (by decide) hk
        rwa [show endOf (bs ⟨#[115, 99, 114, 105, 112, 116]⟩) = [60, 47, 115, 99, 114, 105, 112, 116] from end_script] at this
      have hW4 : Hid (∀ w, Calls Try.prog 78 #[.string s, .int .i64 k, .string ⟨#[60, 33, 45, 45]⟩] w fun e w' => e = .returned (.bool (begins ((bs s).drop k) [60, 33, 45, 45])) ∧ Below w.heap.size w w') := fun w => by
        have := word_any s ⟨#[60, 33, 45, 45]⟩ k w (by omega) hk (by decide)
        rwa [show bs ⟨#[60, 33, 45, 45]⟩ = [60, 33, 45, 45] from rfl, word_begins] at this
      have hW7 : Hid (∀ w, Calls Try.prog 78 #[.string s, .int .i64 k, .string ⟨#[60, 115, 99, 114, 105, 112, 116]⟩] w fun e w' => e = .returned (.bool (wordIn ((bs s).drop k) [60, 115, 99, 114, 105, 112, 116])) ∧ Below w.heap.size w w') := fun w => word_any s ⟨#[60, 115, 99, 114, 105, 112, 116]⟩ k w (by omega) hk (by decide)
      have hC7 : Hid (∀ w, Calls Try.prog 79 #[.string s, .int .i64 ((k : Int) + 7)] w fun e w' => e = .returned (.bool (closedIn ((bs s).drop k) 7)) ∧ w = w') := fun w => by
        have := closed_any s (k + 7) w (by omega) (by omega)
        rw [closed_drop]
        rwa [show ((k + 7 : Nat) : Int) = (k : Int) + 7 from by omega] at this
      have hf7 : follows ((bs s).drop k) [60, 115, 99, 114, 105, 112, 116] = (wordIn ((bs s).drop k) [60, 115, 99, 114, 105, 112, 116] && closedIn ((bs s).drop k) 7) := by unfold follows; rfl
      have hb4 := begins_len ((bs s).drop k) [60, 33, 45, 45]
      have hl7 := follows_len ((bs s).drop k) [60, 115, 99, 114, 105, 112, 116]
      have hl9 := follows_len ((bs s).drop k) [60, 47, 115, 99, 114, 105, 112, 116]
      rw [hrl] at hb4 hl7 hl9
      simp only [List.length_cons, List.length_nil] at hb4 hl7 hl9
      have hg0 : ((bs s).drop k).getD 0 0 = s[k]'hlt := by rw [get_bs s k hlt]; simp [List.getD_eq_getElem?_getD]
      have h45 : ((bs s).drop k).getD 0 0 = 45 ↔ (((s[k]'hlt).toNat : Int) == 45) = true := by rw [hg0]; exact byte45 _
      have h62 : ((bs s).drop k).getD 0 0 = 62 ↔ (((s[k]'hlt).toNat : Int) == 62) = true := by rw [hg0]; exact byte62 _
      clear hg0 hrl HE0
      rcases (by omega : st = 0 ∨ st = 1 ∨ st = 2) with rfl | rfl | rfl
      · clear hW7 hC7 hE9 hl7 hl9 hf7 h45 h62
        cases hf : follows ((bs s).drop k) E
        · cases hg : begins ((bs s).drop k) [60, 33, 45, 45]
          · have HX : Hid (k + 1 + scrL E 0 d ((bs s).drop (k + 1)) = t) := nextTo E _ k 1 _ _ _ _ t HN.out (scr_out E d _ hr hf hg)
            rw [hf] at hE
            rw [hg] at hW4
            clear HN hf hg hb4 hr
            go_wp2_with (first | (go_at_call 51; (with_reducible first | refine (hE.out _).mono ?_ | refine (hE9.out _).mono ?_); rintro e w' ⟨rfl, hb⟩; have hbel := below_then hbel hb; clear hb) | (go_at_call 78; (with_reducible first | refine (hW4.out _).mono ?_ | refine (hW7.out _).mono ?_); rintro e w' ⟨rfl, hb⟩; have hbel := below_then hbel hb; clear hb) | (go_at_call 79; (with_reducible refine (hC7.out _).mono ?_); rintro e w' ⟨rfl, rfl⟩))
            go_roundw
            case rel => exact ⟨k + 1, 0, d, by omega, by omega, by omega, by go_num, rfl, by go_num, HX, hbel⟩
            case measure => simp [intOf]; omega
          · have HX : Hid (k + 4 + scrL E 1 2 ((bs s).drop (k + 4)) = t) := nextTo E _ k 4 _ _ _ _ t HN.out (scr_open E d _ hr hf hg)
            replace hb4 := hb4 hg
            rw [hf] at hE
            rw [hg] at hW4
            clear HN hf hg hr
            go_wp2_with (first | (go_at_call 51; (with_reducible first | refine (hE.out _).mono ?_ | refine (hE9.out _).mono ?_); rintro e w' ⟨rfl, hb⟩; have hbel := below_then hbel hb; clear hb) | (go_at_call 78; (with_reducible first | refine (hW4.out _).mono ?_ | refine (hW7.out _).mono ?_); rintro e w' ⟨rfl, hb⟩; have hbel := below_then hbel hb; clear hb) | (go_at_call 79; (with_reducible refine (hC7.out _).mono ?_); rintro e w' ⟨rfl, rfl⟩))
            go_roundw
            case rel => exact ⟨k + 4, 1, 2, by omega, by omega, by omega, by go_num, rfl, by go_num, HX, hbel⟩
            case measure => simp [intOf]; omega
        · have HX : Hid (t = k) := by have := HN.out; rw [scr_end E _ d _ hr (by omega) hf] at this; exact this.symm
          rw [hf] at hE
          clear HN hf hb4 hr
          go_wp2_with (first | (go_at_call 51; (with_reducible first | refine (hE.out _).mono ?_ | refine (hE9.out _).mono ?_); rintro e w' ⟨rfl, hb⟩; have hbel := below_then hbel hb; clear hb) | (go_at_call 78; (with_reducible first | refine (hW4.out _).mono ?_ | refine (hW7.out _).mono ?_); rintro e w' ⟨rfl, hb⟩; have hbel := below_then hbel hb; clear hb) | (go_at_call 79; (with_reducible refine (hC7.out _).mono ?_); rintro e w' ⟨rfl, rfl⟩))
          go_ret
          exact ⟨by rw [HX.out]; rfl, hbel⟩
      · clear hW4 hE9 hl9 hb4
        cases hf : follows ((bs s).drop k) E
        · rw [hf] at hE
          cases hx : (((s[k]'hlt).toNat : Int) == 45)
          · rw [hx] at h45
            have hc : ((bs s).drop k).getD 0 0 ≠ 45 := fun h => by have := h45.1 h; simp at this
            by_cases hy : ((((s[k]'hlt).toNat : Int) == 62) = true) ∧ 2 ≤ d
            · have HX : Hid (k + 1 + scrL E 0 0 ((bs s).drop (k + 1)) = t) := nextTo E _ k 1 _ _ _ _ t HN.out (scr_shut E _ d _ hr (by rw [hf]; simp) (by omega) hc ⟨h62.2 hy.1, hy.2⟩)
              obtain ⟨hy1, hy2⟩ := hy
              have hd2 : (2 : Int) ≤ (d : Int) := by omega
              clear HN hc h45 h62 hr hy2 hf
              go_wp2_with (first | (go_at_call 51; (with_reducible first | refine (hE.out _).mono ?_ | refine (hE9.out _).mono ?_); rintro e w' ⟨rfl, hb⟩; have hbel := below_then hbel hb; clear hb) | (go_at_call 78; (with_reducible first | refine (hW4.out _).mono ?_ | refine (hW7.out _).mono ?_); rintro e w' ⟨rfl, hb⟩; have hbel := below_then hbel hb; clear hb) | (go_at_call 79; (with_reducible refine (hC7.out _).mono ?_); rintro e w' ⟨rfl, rfl⟩))
              go_roundw
              case rel => exact ⟨k + 1, 0, 0, by omega, by omega, by omega, by go_num, rfl, by go_num, HX, hbel⟩
              case measure => simp [intOf]; omega
            · have hg : ¬ (((bs s).drop k).getD 0 0 = 62 ∧ 2 ≤ d) := fun h => hy ⟨h62.1 h.1, h.2⟩
              have hy3 : ((((s[k]'hlt).toNat : Int) == 62) = false) ∨ (((((s[k]'hlt).toNat : Int) == 62) = true) ∧ ¬ (2 : Int) ≤ (d : Int)) := by
                cases hz : (((s[k]'hlt).toNat : Int) == 62)
                · exact .inl rfl
                · exact .inr ⟨rfl, fun h => hy ⟨hz, by omega⟩⟩
              clear hy
              cases hw : wordIn ((bs s).drop k) [60, 115, 99, 114, 105, 112, 116]
              · have h7 : follows ((bs s).drop k) [60, 115, 99, 114, 105, 112, 116] = false := by rw [hf7, hw]; rfl
                have HX : Hid (k + 1 + scrL E 1 0 ((bs s).drop (k + 1)) = t) := nextTo E _ k 1 _ _ _ _ t HN.out (scr_on1 E d _ hr hf hc hg h7)
                rw [hw] at hW7
                clear HN hc hg h45 h62 hr hf hw hf7 h7 hl7
                rcases hy3 with hy1 | ⟨hy1, hy2⟩
                all_goals
                  go_wp2_with (first | (go_at_call 51; (with_reducible first | refine (hE.out _).mono ?_ | refine (hE9.out _).mono ?_); rintro e w' ⟨rfl, hb⟩; have hbel := below_then hbel hb; clear hb) | (go_at_call 78; (with_reducible first | refine (hW4.out _).mono ?_ | refine (hW7.out _).mono ?_); rintro e w' ⟨rfl, hb⟩; have hbel := below_then hbel hb; clear hb) | (go_at_call 79; (with_reducible refine (hC7.out _).mono ?_); rintro e w' ⟨rfl, rfl⟩))
                  go_roundw
                  case rel => exact ⟨k + 1, 1, 0, by omega, by omega, by omega, by go_num, rfl, by go_num, HX, hbel⟩
                  case measure => simp [intOf]; omega
              · cases hcl : closedIn ((bs s).drop k) 7
                · have h7 : follows ((bs s).drop k) [60, 115, 99, 114, 105, 112, 116] = false := by rw [hf7, hw, hcl]; rfl
                  have HX : Hid (k + 1 + scrL E 1 0 ((bs s).drop (k + 1)) = t) := nextTo E _ k 1 _ _ _ _ t HN.out (scr_on1 E d _ hr hf hc hg h7)
                  rw [hw] at hW7
                  rw [hcl] at hC7
                  clear HN hc hg h45 h62 hr hf hw hf7 h7 hl7 hcl
                  rcases hy3 with hy1 | ⟨hy1, hy2⟩
                  all_goals
                    go_wp2_with (first | (go_at_call 51; (with_reducible first | refine (hE.out _).mono ?_ | refine (hE9.out _).mono ?_); rintro e w' ⟨rfl, hb⟩; have hbel := below_then hbel hb; clear hb) | (go_at_call 78; (with_reducible first | refine (hW4.out _).mono ?_ | refine (hW7.out _).mono ?_); rintro e w' ⟨rfl, hb⟩; have hbel := below_then hbel hb; clear hb) | (go_at_call 79; (with_reducible refine (hC7.out _).mono ?_); rintro e w' ⟨rfl, rfl⟩))
                    go_roundw
                    case rel => exact ⟨k + 1, 1, 0, by omega, by omega, by omega, by go_num, rfl, by go_num, HX, hbel⟩
                    case measure => simp [intOf]; omega
                · have h7 : follows ((bs s).drop k) [60, 115, 99, 114, 105, 112, 116] = true := by rw [hf7, hw, hcl]; rfl
                  have HX : Hid (k + 8 + scrL E 2 0 ((bs s).drop (k + 8)) = t) := nextTo E _ k 8 _ _ _ _ t HN.out (scr_deep E d _ hr hf hc hg h7)
                  replace hl7 := hl7 h7
                  rw [hw] at hW7
                  rw [hcl] at hC7
                  clear HN hc hg h45 h62 hr hf hw hf7 h7 hcl
                  rcases hy3 with hy1 | ⟨hy1, hy2⟩
                  all_goals
                    go_wp2_with (first | (go_at_call 51; (with_reducible first | refine (hE.out _).mono ?_ | refine (hE9.out _).mono ?_); rintro e w' ⟨rfl, hb⟩; have hbel := below_then hbel hb; clear hb) | (go_at_call 78; (with_reducible first | refine (hW4.out _).mono ?_ | refine (hW7.out _).mono ?_); rintro e w' ⟨rfl, hb⟩; have hbel := below_then hbel hb; clear hb) | (go_at_call 79; (with_reducible refine (hC7.out _).mono ?_); rintro e w' ⟨rfl, rfl⟩))
                    go_roundw
                    case rel => exact ⟨k + 8, 2, 0, by omega, by omega, by omega, by go_num, rfl, by go_num, HX, hbel⟩
                    case measure => simp [intOf]; omega
          · have HX : Hid (k + 1 + scrL E 1 (d + 1) ((bs s).drop (k + 1)) = t) := nextTo E _ k 1 _ _ _ _ t HN.out (scr_dash E _ d _ hr (by rw [hf]; simp) (by omega) (h45.2 hx))
            clear HN h45 h62 hr hf
            go_wp2_with (first | (go_at_call 51; (with_reducible first | refine (hE.out _).mono ?_ | refine (hE9.out _).mono ?_); rintro e w' ⟨rfl, hb⟩; have hbel := below_then hbel hb; clear hb) | (go_at_call 78; (with_reducible first | refine (hW4.out _).mono ?_ | refine (hW7.out _).mono ?_); rintro e w' ⟨rfl, hb⟩; have hbel := below_then hbel hb; clear hb) | (go_at_call 79; (with_reducible refine (hC7.out _).mono ?_); rintro e w' ⟨rfl, rfl⟩))
            go_roundw
            case rel => exact ⟨k + 1, 1, d + 1, by omega, by omega, by omega, by go_num, rfl, by go_num, HX, hbel⟩
            case measure => simp [intOf]; omega
        · have HX : Hid (t = k) := by have := HN.out; rw [scr_end E _ d _ hr (by omega) hf] at this; exact this.symm
          rw [hf] at hE
          clear HN hf hr hf7 hl7 h45 h62
          go_wp2_with (first | (go_at_call 51; (with_reducible first | refine (hE.out _).mono ?_ | refine (hE9.out _).mono ?_); rintro e w' ⟨rfl, hb⟩; have hbel := below_then hbel hb; clear hb) | (go_at_call 78; (with_reducible first | refine (hW4.out _).mono ?_ | refine (hW7.out _).mono ?_); rintro e w' ⟨rfl, hb⟩; have hbel := below_then hbel hb; clear hb) | (go_at_call 79; (with_reducible refine (hC7.out _).mono ?_); rintro e w' ⟨rfl, rfl⟩))
          go_ret
          exact ⟨by rw [HX.out]; rfl, hbel⟩
      · clear hW4 hW7 hC7 hl7 hb4 hf7
        cases hx : (((s[k]'hlt).toNat : Int) == 45)
        · rw [hx] at h45
          have hc : ((bs s).drop k).getD 0 0 ≠ 45 := fun h => by have := h45.1 h; simp at this
          by_cases hy : ((((s[k]'hlt).toNat : Int) == 62) = true) ∧ 2 ≤ d
          · have HX : Hid (k + 1 + scrL E 0 0 ((bs s).drop (k + 1)) = t) := nextTo E _ k 1 _ _ _ _ t HN.out (scr_shut E _ d _ hr (fun h => h.1 rfl) (by omega) hc ⟨h62.2 hy.1, hy.2⟩)
            obtain ⟨hy1, hy2⟩ := hy
            have hd2 : (2 : Int) ≤ (d : Int) := by omega
            clear HN hc h45 h62 hr hy2
            go_wp2_with (first | (go_at_call 51; (with_reducible first | refine (hE.out _).mono ?_ | refine (hE9.out _).mono ?_); rintro e w' ⟨rfl, hb⟩; have hbel := below_then hbel hb; clear hb) | (go_at_call 78; (with_reducible first | refine (hW4.out _).mono ?_ | refine (hW7.out _).mono ?_); rintro e w' ⟨rfl, hb⟩; have hbel := below_then hbel hb; clear hb) | (go_at_call 79; (with_reducible refine (hC7.out _).mono ?_); rintro e w' ⟨rfl, rfl⟩))
            go_roundw
            case rel => exact ⟨k + 1, 0, 0, by omega, by omega, by omega, by go_num, rfl, by go_num, HX, hbel⟩
            case measure => simp [intOf]; omega
          · have hg : ¬ (((bs s).drop k).getD 0 0 = 62 ∧ 2 ≤ d) := fun h => hy ⟨h62.1 h.1, h.2⟩
            have hy3 : ((((s[k]'hlt).toNat : Int) == 62) = false) ∨ (((((s[k]'hlt).toNat : Int) == 62) = true) ∧ ¬ (2 : Int) ≤ (d : Int)) := by
              cases hz : (((s[k]'hlt).toNat : Int) == 62)
              · exact .inl rfl
              · exact .inr ⟨rfl, fun h => hy ⟨hz, by omega⟩⟩
            clear hy
            cases h9 : follows ((bs s).drop k) [60, 47, 115, 99, 114, 105, 112, 116]
            · have HX : Hid (k + 1 + scrL E 2 0 ((bs s).drop (k + 1)) = t) := nextTo E _ k 1 _ _ _ _ t HN.out (scr_on2 E d _ hr hc hg h9)
              rw [h9] at hE9
              clear HN hc hg h45 h62 hr h9 hl9
              rcases hy3 with hy1 | ⟨hy1, hy2⟩
              all_goals
                go_wp2_with (first | (go_at_call 51; (with_reducible first | refine (hE.out _).mono ?_ | refine (hE9.out _).mono ?_); rintro e w' ⟨rfl, hb⟩; have hbel := below_then hbel hb; clear hb) | (go_at_call 78; (with_reducible first | refine (hW4.out _).mono ?_ | refine (hW7.out _).mono ?_); rintro e w' ⟨rfl, hb⟩; have hbel := below_then hbel hb; clear hb) | (go_at_call 79; (with_reducible refine (hC7.out _).mono ?_); rintro e w' ⟨rfl, rfl⟩))
                go_roundw
                case rel => exact ⟨k + 1, 2, 0, by omega, by omega, by omega, by go_num, rfl, by go_num, HX, hbel⟩
                case measure => simp [intOf]; omega
            · have HX : Hid (k + 9 + scrL E 1 0 ((bs s).drop (k + 9)) = t) := nextTo E _ k 9 _ _ _ _ t HN.out (scr_back E d _ hr hc hg h9)
              replace hl9 := hl9 h9
              rw [h9] at hE9
              clear HN hc hg h45 h62 hr h9
              rcases hy3 with hy1 | ⟨hy1, hy2⟩
              all_goals
                go_wp2_with (first | (go_at_call 51; (with_reducible first | refine (hE.out _).mono ?_ | refine (hE9.out _).mono ?_); rintro e w' ⟨rfl, hb⟩; have hbel := below_then hbel hb; clear hb) | (go_at_call 78; (with_reducible first | refine (hW4.out _).mono ?_ | refine (hW7.out _).mono ?_); rintro e w' ⟨rfl, hb⟩; have hbel := below_then hbel hb; clear hb) | (go_at_call 79; (with_reducible refine (hC7.out _).mono ?_); rintro e w' ⟨rfl, rfl⟩))
                go_roundw
                case rel => exact ⟨k + 9, 1, 0, by omega, by omega, by omega, by go_num, rfl, by go_num, HX, hbel⟩
                case measure => simp [intOf]; omega
        · have HX : Hid (k + 1 + scrL E 2 (d + 1) ((bs s).drop (k + 1)) = t) := nextTo E _ k 1 _ _ _ _ t HN.out (scr_dash E _ d _ hr (fun h => h.1 rfl) (by omega) (h45.2 hx))
          clear HN h45 h62 hr
          go_wp2_with (first | (go_at_call 51; (with_reducible first | refine (hE.out _).mono ?_ | refine (hE9.out _).mono ?_); rintro e w' ⟨rfl, hb⟩; have hbel := below_then hbel hb; clear hb) | (go_at_call 78; (with_reducible first | refine (hW4.out _).mono ?_ | refine (hW7.out _).mono ?_); rintro e w' ⟨rfl, hb⟩; have hbel := below_then hbel hb; clear hb) | (go_at_call 79; (with_reducible refine (hC7.out _).mono ?_); rintro e w' ⟨rfl, rfl⟩))
          go_roundw
          case rel => exact ⟨k + 1, 2, d + 1, by omega, by omega, by omega, by go_num, rfl, by go_num, HX, hbel⟩
          case measure => simp [intOf]; omega
    · have HX : Hid (t = k) := by
        have := HN.out
        rw [show (bs s).drop k = [] from List.drop_eq_nil_of_le (by rw [← size_bs]; omega), scrL_nil] at this
        exact this.symm
      clear HN HE0
      go_wp2
      go_ret
      exact ⟨by rw [HX.out]; rfl, hbel⟩
end Tym

namespace Tym
set_option linter.unusedSimpArgs false
set_option linter.unusedVariables false
open Go Go.RowKit Go.Proofs
set_option maxRecDepth 1000000
attribute [local irreducible] scrL follows begins wordIn closedIn lower isSpace scr

theorem ext_all (s : ByteArray) : s.extract 0 s.size = s := bs_inj (by rw [bs_from, List.drop_zero])
theorem empty_at (s : ByteArray) (k : Nat) : (s.extract k s.size).toList.isEmpty = decide (s.size ≤ k) := by
  rw [Lib.toList_data, ← show bs (s.extract k s.size) = (s.extract k s.size).data.toList from rfl, bs_from, Bool.eq_iff_iff, List.isEmpty_iff, decide_eq_true_iff, List.drop_eq_nil_iff, size_bs]

def ScrJ (s e : ByteArray) (t : Nat) (w : World) (a' : Act) (w' : World) : Prop := ∃ (k st d : Nat) (u2 u3 u4 u8 u9 u10 u11 u12 u13 u14 u15 u16 u17 u18 u19 u20 u21 u22 u23 u24 u25 u26 u27 u28 u29 u30 u31 u32 u33 u34 u35 u36 u37 u38 u39 u40 u41 u42 u43 u44 u45 u46 u47 u48 u49 u50 u51 u52 u53 u54 u55 u56 u57 u58 u59 u60 u61 u62 u63 u64 u65 u66 u67 u68 u69 u70 u71 u72 : Value), k ≤ s.size ∧ st ≤ 2 ∧ d ≤ k + 2 ∧ a' = { tmps := #[.string s, .string e, u2, u3, u4, .int .i64 st, .int .i64 d, .int .i64 k, u8, u9, u10, u11, u12, u13, u14, u15, u16, u17, u18, u19, u20, u21, u22, u23, u24, u25, u26, u27, u28, u29, u30, u31, u32, u33, u34, u35, u36, u37, u38, u39, u40, u41, u42, u43, u44, u45, u46, u47, u48, u49, u50, u51, u52, u53, u54, u55, u56, u57, u58, u59, u60, u61, u62, u63, u64, u65, u66, u67, u68, u69, u70, u71, u72], defers := [] } ∧ Hid (k + scrL (bs e) st d ((bs s).drop k) = t) ∧ Below w.heap.size w w'

set_option maxHeartbeats 4000000 in
theorem script_any (s e : ByteArray) (w : World) (hs : s.size ≤ 1000000) : Calls Try.prog 30 #[.string s, .string e] w fun x w' => x = .returned (.int .i64 (scrL (bs e) 0 0 (bs s) : Nat)) ∧ Below w.heap.size w w' := by
  generalize hT : scrL (bs e) 0 0 (bs s) = t
  have HT : Hid (0 + scrL (bs e) 0 0 ((bs s).drop 0) = t) := by rw [List.drop_zero]; show _ = _; omega
  clear hT
  have hbel := Below.refl w.heap.size w
  go_enter Try.func30, Try.ntmps30
  go_wp2_with fail
  refine wp_scope_jumps 0 (ScrJ s e t w) (fun a' _ => s.size - (intOf (a'.tmps.getD 7 undef)).toNat) rfl ?_ ?_
  · go_wp2_with fail
    go_step3
    have HN := HT
    clear HT
    by_cases hlt : 0 < s.size
    ·   skip
        have hr : 0 < ((bs s).drop 0).length := by rw [List.length_drop, ← size_bs]; omega
        have hrl : ((bs s).drop 0).length = s.size - 0 := by rw [List.length_drop, ← size_bs]
        have hne : (s).toList.isEmpty = false := by rw [← ext_all s, empty_at]; exact decide_eq_false (by omega)
        have hE : Hid (∀ w, Calls Try.prog 64 #[.string (s), .string e] w fun x w' => x = .returned (.bool (follows ((bs s).drop 0) (bs e))) ∧ Below w.heap.size w w') := fun w => by
          have := follows_any (s) e w (by omega)
          exact this
        have hW4 : Hid (∀ w, Calls Try.prog 37 #[.string (s), .string ⟨#[60, 33, 45, 45]⟩] w fun x w' => x = .returned (.bool (begins ((bs s).drop 0) [60, 33, 45, 45])) ∧ w = w') := fun w => by have := prefix_from s 0 [60, 33, 45, 45] w; rwa [ext_all] at this
        have hb4 := begins_len ((bs s).drop 0) [60, 33, 45, 45]
        simp only [hrl, List.length_cons, List.length_nil] at hb4
        clear hrl
        cases hf : follows ((bs s).drop 0) (bs e)
        · cases hg : begins ((bs s).drop 0) [60, 33, 45, 45]
          · have HX : Hid (0 + 1 + scrL (bs e) 0 0 ((bs s).drop (0 + 1)) = t) := nextTo (bs e) _ 0 1 _ _ _ _ t HN.out (scr_out (bs e) 0 _ hr hf hg)
            rw [hf] at hE
            rw [hg] at hW4
            clear HN hf hg hb4 hr
            go_wp2_with (first | (go_at_call 64; (with_reducible first | refine (hE.out _).mono ?_ | refine (hE7.out _).mono ?_ | refine (hE9.out _).mono ?_); rintro x w' ⟨rfl, hb⟩; have hbel := below_then hbel hb; clear hb) | (go_at_call 37; (with_reducible refine (hW4.out _).mono ?_); rintro x w' ⟨rfl, rfl⟩))
            try go_step3
            first | exact ⟨rfl, (by unfold ScrJ; exact ⟨0 + 1, 0, 0, _, _, _, _, _, _, _, _, _, _, _, _, _, _, _, _, _, _, _, _, _, _, _, _, _, _, _, _, _, _, _, _, _, _, _, _, _, _, _, _, _, _, _, _, _, _, _, _, _, _, _, _, _, _, _, _, _, _, _, _, _, _, _, _, _, _, _, _, by omega, by omega, by omega, rfl, HX, hbel⟩)⟩ | (unfold ScrJ; exact ⟨0 + 1, 0, 0, _, _, _, _, _, _, _, _, _, _, _, _, _, _, _, _, _, _, _, _, _, _, _, _, _, _, _, _, _, _, _, _, _, _, _, _, _, _, _, _, _, _, _, _, _, _, _, _, _, _, _, _, _, _, _, _, _, _, _, _, _, _, _, _, _, _, _, _, by omega, by omega, by omega, rfl, HX, hbel⟩)
          · have HX : Hid (0 + 4 + scrL (bs e) 1 2 ((bs s).drop (0 + 4)) = t) := nextTo (bs e) _ 0 4 _ _ _ _ t HN.out (scr_open (bs e) 0 _ hr hf hg)
            replace hb4 := hb4 hg
            rw [hf] at hE
            rw [hg] at hW4
            clear HN hf hg hr
            go_wp2_with (first | (go_at_call 64; (with_reducible first | refine (hE.out _).mono ?_ | refine (hE7.out _).mono ?_ | refine (hE9.out _).mono ?_); rintro x w' ⟨rfl, hb⟩; have hbel := below_then hbel hb; clear hb) | (go_at_call 37; (with_reducible refine (hW4.out _).mono ?_); rintro x w' ⟨rfl, rfl⟩))
            try go_step3
            first | exact ⟨rfl, (by unfold ScrJ; exact ⟨0 + 4, 1, 2, _, _, _, _, _, _, _, _, _, _, _, _, _, _, _, _, _, _, _, _, _, _, _, _, _, _, _, _, _, _, _, _, _, _, _, _, _, _, _, _, _, _, _, _, _, _, _, _, _, _, _, _, _, _, _, _, _, _, _, _, _, _, _, _, _, _, _, _, by omega, by omega, by omega, rfl, HX, hbel⟩)⟩ | (unfold ScrJ; exact ⟨0 + 4, 1, 2, _, _, _, _, _, _, _, _, _, _, _, _, _, _, _, _, _, _, _, _, _, _, _, _, _, _, _, _, _, _, _, _, _, _, _, _, _, _, _, _, _, _, _, _, _, _, _, _, _, _, _, _, _, _, _, _, _, _, _, _, _, _, _, _, _, _, _, _, by omega, by omega, by omega, rfl, HX, hbel⟩)
        · have HX : Hid (t = 0) := by have := HN.out; rw [scr_end (bs e) _ 0 _ hr (by omega) hf] at this; exact this.symm
          rw [hf] at hE
          clear HN hf hb4 hr
          go_wp2_with (first | (go_at_call 64; (with_reducible first | refine (hE.out _).mono ?_ | refine (hE7.out _).mono ?_ | refine (hE9.out _).mono ?_); rintro x w' ⟨rfl, hb⟩; have hbel := below_then hbel hb; clear hb) | (go_at_call 37; (with_reducible refine (hW4.out _).mono ?_); rintro x w' ⟨rfl, rfl⟩))
          simp only [Exit.jump]
          go_ret
          exact ⟨by rw [HX.out]; rfl, hbel⟩
    · have HX : Hid (t = 0) := by
        have := HN.out
        rw [show (bs s).drop 0 = [] from List.drop_eq_nil_of_le (by rw [← size_bs]; omega), scrL_nil] at this
        exact this.symm
      have hne : s.toList.isEmpty = true := by rw [← ext_all s, empty_at]; exact decide_eq_true (by omega)
      clear HN
      go_wp2
      simp only [Exit.jump]
      go_ret
      exact ⟨by rw [HX.out]; rfl, hbel⟩
  · clear HT hbel
    intro a' w' hJ
    unfold ScrJ at hJ
    obtain ⟨k, st, d, u2, u3, u4, u8, u9, u10, u11, u12, u13, u14, u15, u16, u17, u18, u19, u20, u21, u22, u23, u24, u25, u26, u27, u28, u29, u30, u31, u32, u33, u34, u35, u36, u37, u38, u39, u40, u41, u42, u43, u44, u45, u46, u47, u48, u49, u50, u51, u52, u53, u54, u55, u56, u57, u58, u59, u60, u61, u62, u63, u64, u65, u66, u67, u68, u69, u70, u71, u72, hk, hst, hd, rfl, HN, hbel⟩ := hJ
    by_cases hlt : k < s.size
    ·   skip
        have hr : 0 < ((bs s).drop k).length := by rw [List.length_drop, ← size_bs]; omega
        have hrl : ((bs s).drop k).length = s.size - k := by rw [List.length_drop, ← size_bs]
        have hne : (s.extract k s.size).toList.isEmpty = false := by rw [empty_at]; exact decide_eq_false (by omega)
        have hE : Hid (∀ w, Calls Try.prog 64 #[.string (s.extract k s.size), .string e] w fun x w' => x = .returned (.bool (follows ((bs s).drop k) (bs e))) ∧ Below w.heap.size w w') := fun w => by
          have := follows_any (s.extract k s.size) e w (by rw [ByteArray.size_extract]; omega)
          rwa [bs_from] at this
        have hW4 : Hid (∀ w, Calls Try.prog 37 #[.string (s.extract k s.size), .string ⟨#[60, 33, 45, 45]⟩] w fun x w' => x = .returned (.bool (begins ((bs s).drop k) [60, 33, 45, 45])) ∧ w = w') := fun w => prefix_from s k [60, 33, 45, 45] w
        have hb4 := begins_len ((bs s).drop k) [60, 33, 45, 45]
        have hE7 : Hid (∀ w, Calls Try.prog 64 #[.string (s.extract k s.size), .string ⟨#[60, 115, 99, 114, 105, 112, 116]⟩] w fun x w' => x = .returned (.bool (follows ((bs s).drop k) [60, 115, 99, 114, 105, 112, 116])) ∧ Below w.heap.size w w') := fun w => by
          have := follows_any (s.extract k s.size) ⟨#[60, 115, 99, 114, 105, 112, 116]⟩ w (by rw [ByteArray.size_extract]; omega)
          rwa [bs_from] at this
        have hE9 : Hid (∀ w, Calls Try.prog 64 #[.string (s.extract k s.size), .string ⟨#[60, 47, 115, 99, 114, 105, 112, 116]⟩] w fun x w' => x = .returned (.bool (follows ((bs s).drop k) [60, 47, 115, 99, 114, 105, 112, 116])) ∧ Below w.heap.size w w') := fun w => by
          have := follows_any (s.extract k s.size) ⟨#[60, 47, 115, 99, 114, 105, 112, 116]⟩ w (by rw [ByteArray.size_extract]; omega)
          rwa [bs_from] at this
        have hl7 := follows_len ((bs s).drop k) [60, 115, 99, 114, 105, 112, 116]
        have hl9 := follows_len ((bs s).drop k) [60, 47, 115, 99, 114, 105, 112, 116]
        rw [hrl] at hb4 hl7 hl9
        simp only [List.length_cons, List.length_nil] at hb4 hl7 hl9
        have h0 : 0 < s.size - k := by omega
        have hq0 : 0 < (s.extract k s.size).size := by rw [ByteArray.size_extract]; omega
        obtain ⟨c, hcc⟩ : ∃ c, (s.extract k s.size)[0]'hq0 = c := ⟨_, rfl⟩
        have hg0 : ((bs s).drop k).getD 0 0 = c := by rw [← bs_from, ← get_bs _ 0 hq0]; exact hcc
        have h45 : ((bs s).drop k).getD 0 0 = 45 ↔ ((c.toNat : Int) == 45) = true := by rw [hg0]; exact byte45 _
        have h62 : ((bs s).drop k).getD 0 0 = 62 ↔ ((c.toNat : Int) == 62) = true := by rw [hg0]; exact byte62 _
        clear hg0 hrl
        rcases (by omega : st = 0 ∨ st = 1 ∨ st = 2) with rfl | rfl | rfl
        · clear hE7 hE9 hl7 hl9 h45 h62
          cases hf : follows ((bs s).drop k) (bs e)
          · cases hg : begins ((bs s).drop k) [60, 33, 45, 45]
            · have HX : Hid (k + 1 + scrL (bs e) 0 d ((bs s).drop (k + 1)) = t) := nextTo (bs e) _ k 1 _ _ _ _ t HN.out (scr_out (bs e) d _ hr hf hg)
              rw [hf] at hE
              rw [hg] at hW4
              clear HN hf hg hb4 hr
              go_wp2_with (first | (go_at_call 64; (with_reducible first | refine (hE.out _).mono ?_ | refine (hE7.out _).mono ?_ | refine (hE9.out _).mono ?_); rintro x w' ⟨rfl, hb⟩; have hbel := below_then hbel hb; clear hb) | (go_at_call 37; (with_reducible refine (hW4.out _).mono ?_); rintro x w' ⟨rfl, rfl⟩))
              try go_step3
              first | refine ⟨rfl, (by unfold ScrJ; exact ⟨k + 1, 0, d, _, _, _, _, _, _, _, _, _, _, _, _, _, _, _, _, _, _, _, _, _, _, _, _, _, _, _, _, _, _, _, _, _, _, _, _, _, _, _, _, _, _, _, _, _, _, _, _, _, _, _, _, _, _, _, _, _, _, _, _, _, _, _, _, _, _, _, _, by omega, by omega, by omega, rfl, HX, hbel⟩), ?_⟩ | refine ⟨(by unfold ScrJ; exact ⟨k + 1, 0, d, _, _, _, _, _, _, _, _, _, _, _, _, _, _, _, _, _, _, _, _, _, _, _, _, _, _, _, _, _, _, _, _, _, _, _, _, _, _, _, _, _, _, _, _, _, _, _, _, _, _, _, _, _, _, _, _, _, _, _, _, _, _, _, _, _, _, _, _, by omega, by omega, by omega, rfl, HX, hbel⟩), ?_⟩
              simp [intOf]; omega
            · have HX : Hid (k + 4 + scrL (bs e) 1 2 ((bs s).drop (k + 4)) = t) := nextTo (bs e) _ k 4 _ _ _ _ t HN.out (scr_open (bs e) d _ hr hf hg)
              replace hb4 := hb4 hg
              rw [hf] at hE
              rw [hg] at hW4
              clear HN hf hg hr
              go_wp2_with (first | (go_at_call 64; (with_reducible first | refine (hE.out _).mono ?_ | refine (hE7.out _).mono ?_ | refine (hE9.out _).mono ?_); rintro x w' ⟨rfl, hb⟩; have hbel := below_then hbel hb; clear hb) | (go_at_call 37; (with_reducible refine (hW4.out _).mono ?_); rintro x w' ⟨rfl, rfl⟩))
              try go_step3
              first | refine ⟨rfl, (by unfold ScrJ; exact ⟨k + 4, 1, 2, _, _, _, _, _, _, _, _, _, _, _, _, _, _, _, _, _, _, _, _, _, _, _, _, _, _, _, _, _, _, _, _, _, _, _, _, _, _, _, _, _, _, _, _, _, _, _, _, _, _, _, _, _, _, _, _, _, _, _, _, _, _, _, _, _, _, _, _, by omega, by omega, by omega, rfl, HX, hbel⟩), ?_⟩ | refine ⟨(by unfold ScrJ; exact ⟨k + 4, 1, 2, _, _, _, _, _, _, _, _, _, _, _, _, _, _, _, _, _, _, _, _, _, _, _, _, _, _, _, _, _, _, _, _, _, _, _, _, _, _, _, _, _, _, _, _, _, _, _, _, _, _, _, _, _, _, _, _, _, _, _, _, _, _, _, _, _, _, _, _, by omega, by omega, by omega, rfl, HX, hbel⟩), ?_⟩
              simp [intOf]; omega
          · have HX : Hid (t = k) := by have := HN.out; rw [scr_end (bs e) _ d _ hr (by omega) hf] at this; exact this.symm
            rw [hf] at hE
            clear HN hf hb4 hr
            go_wp2_with (first | (go_at_call 64; (with_reducible first | refine (hE.out _).mono ?_ | refine (hE7.out _).mono ?_ | refine (hE9.out _).mono ?_); rintro x w' ⟨rfl, hb⟩; have hbel := below_then hbel hb; clear hb) | (go_at_call 37; (with_reducible refine (hW4.out _).mono ?_); rintro x w' ⟨rfl, rfl⟩))
            simp only [Exit.jump]
            go_ret
            exact ⟨by rw [HX.out]; rfl, hbel⟩
        · clear hW4 hE9 hl9 hb4
          cases hf : follows ((bs s).drop k) (bs e)
          · rw [hf] at hE
            cases hx : ((c.toNat : Int) == 45)
            · rw [hx] at h45
              have hc : ((bs s).drop k).getD 0 0 ≠ 45 := fun h => by have := h45.1 h; simp at this
              by_cases hy : (((c.toNat : Int) == 62) = true) ∧ 2 ≤ d
              · have HX : Hid (k + 1 + scrL (bs e) 0 0 ((bs s).drop (k + 1)) = t) := nextTo (bs e) _ k 1 _ _ _ _ t HN.out (scr_shut (bs e) _ d _ hr (by rw [hf]; simp) (by omega) hc ⟨h62.2 hy.1, hy.2⟩)
                obtain ⟨hy1, hy2⟩ := hy
                have hd2 : (2 : Int) ≤ (d : Int) := by omega
                clear HN hc h45 h62 hr hy2 hf
                go_wp2_with (first | (go_at_call 64; (with_reducible first | refine (hE.out _).mono ?_ | refine (hE7.out _).mono ?_ | refine (hE9.out _).mono ?_); rintro x w' ⟨rfl, hb⟩; have hbel := below_then hbel hb; clear hb) | (go_at_call 37; (with_reducible refine (hW4.out _).mono ?_); rintro x w' ⟨rfl, rfl⟩))
                try go_step3
                first | refine ⟨rfl, (by unfold ScrJ; exact ⟨k + 1, 0, 0, _, _, _, _, _, _, _, _, _, _, _, _, _, _, _, _, _, _, _, _, _, _, _, _, _, _, _, _, _, _, _, _, _, _, _, _, _, _, _, _, _, _, _, _, _, _, _, _, _, _, _, _, _, _, _, _, _, _, _, _, _, _, _, _, _, _, _, _, by omega, by omega, by omega, rfl, HX, hbel⟩), ?_⟩ | refine ⟨(by unfold ScrJ; exact ⟨k + 1, 0, 0, _, _, _, _, _, _, _, _, _, _, _, _, _, _, _, _, _, _, _, _, _, _, _, _, _, _, _, _, _, _, _, _, _, _, _, _, _, _, _, _, _, _, _, _, _, _, _, _, _, _, _, _, _, _, _, _, _, _, _, _, _, _, _, _, _, _, _, _, by omega, by omega, by omega, rfl, HX, hbel⟩), ?_⟩
                simp [intOf]; omega
              · have hg : ¬ (((bs s).drop k).getD 0 0 = 62 ∧ 2 ≤ d) := fun h => hy ⟨h62.1 h.1, h.2⟩
                have hy3 : (((c.toNat : Int) == 62) = false) ∨ ((((c.toNat : Int) == 62) = true) ∧ ¬ (2 : Int) ≤ (d : Int)) := by
                  cases hz : ((c.toNat : Int) == 62)
                  · exact .inl rfl
                  · exact .inr ⟨rfl, fun h => hy ⟨hz, by omega⟩⟩
                clear hy
                cases h7 : follows ((bs s).drop k) [60, 115, 99, 114, 105, 112, 116]
                · have HX : Hid (k + 1 + scrL (bs e) 1 0 ((bs s).drop (k + 1)) = t) := nextTo (bs e) _ k 1 _ _ _ _ t HN.out (scr_on1 (bs e) d _ hr hf hc hg h7)
                  rw [h7] at hE7
                  clear HN hc hg h45 h62 hr hf h7 hl7
                  rcases hy3 with hy1 | ⟨hy1, hy2⟩
                  all_goals
                    go_wp2_with (first | (go_at_call 64; (with_reducible first | refine (hE.out _).mono ?_ | refine (hE7.out _).mono ?_ | refine (hE9.out _).mono ?_); rintro x w' ⟨rfl, hb⟩; have hbel := below_then hbel hb; clear hb) | (go_at_call 37; (with_reducible refine (hW4.out _).mono ?_); rintro x w' ⟨rfl, rfl⟩))
                    try go_step3
                    first | refine ⟨rfl, (by unfold ScrJ; exact ⟨k + 1, 1, 0, _, _, _, _, _, _, _, _, _, _, _, _, _, _, _, _, _, _, _, _, _, _, _, _, _, _, _, _, _, _, _, _, _, _, _, _, _, _, _, _, _, _, _, _, _, _, _, _, _, _, _, _, _, _, _, _, _, _, _, _, _, _, _, _, _, _, _, _, by omega, by omega, by omega, rfl, HX, hbel⟩), ?_⟩ | refine ⟨(by unfold ScrJ; exact ⟨k + 1, 1, 0, _, _, _, _, _, _, _, _, _, _, _, _, _, _, _, _, _, _, _, _, _, _, _, _, _, _, _, _, _, _, _, _, _, _, _, _, _, _, _, _, _, _, _, _, _, _, _, _, _, _, _, _, _, _, _, _, _, _, _, _, _, _, _, _, _, _, _, _, by omega, by omega, by omega, rfl, HX, hbel⟩), ?_⟩
                    simp [intOf]; omega
                · have HX : Hid (k + 8 + scrL (bs e) 2 0 ((bs s).drop (k + 8)) = t) := nextTo (bs e) _ k 8 _ _ _ _ t HN.out (scr_deep (bs e) d _ hr hf hc hg h7)
                  replace hl7 := hl7 h7
                  rw [h7] at hE7
                  clear HN hc hg h45 h62 hr hf h7
                  rcases hy3 with hy1 | ⟨hy1, hy2⟩
                  all_goals
                    go_wp2_with (first | (go_at_call 64; (with_reducible first | refine (hE.out _).mono ?_ | refine (hE7.out _).mono ?_ | refine (hE9.out _).mono ?_); rintro x w' ⟨rfl, hb⟩; have hbel := below_then hbel hb; clear hb) | (go_at_call 37; (with_reducible refine (hW4.out _).mono ?_); rintro x w' ⟨rfl, rfl⟩))
                    try go_step3
                    first | refine ⟨rfl, (by unfold ScrJ; exact ⟨k + 8, 2, 0, _, _, _, _, _, _, _, _, _, _, _, _, _, _, _, _, _, _, _, _, _, _, _, _, _, _, _, _, _, _, _, _, _, _, _, _, _, _, _, _, _, _, _, _, _, _, _, _, _, _, _, _, _, _, _, _, _, _, _, _, _, _, _, _, _, _, _, _, by omega, by omega, by omega, rfl, HX, hbel⟩), ?_⟩ | refine ⟨(by unfold ScrJ; exact ⟨k + 8, 2, 0, _, _, _, _, _, _, _, _, _, _, _, _, _, _, _, _, _, _, _, _, _, _, _, _, _, _, _, _, _, _, _, _, _, _, _, _, _, _, _, _, _, _, _, _, _, _, _, _, _, _, _, _, _, _, _, _, _, _, _, _, _, _, _, _, _, _, _, _, by omega, by omega, by omega, rfl, HX, hbel⟩), ?_⟩
                    simp [intOf]; omega
            · have HX : Hid (k + 1 + scrL (bs e) 1 (d + 1) ((bs s).drop (k + 1)) = t) := nextTo (bs e) _ k 1 _ _ _ _ t HN.out (scr_dash (bs e) _ d _ hr (by rw [hf]; simp) (by omega) (h45.2 hx))
              clear HN h45 h62 hr hf
              go_wp2_with (first | (go_at_call 64; (with_reducible first | refine (hE.out _).mono ?_ | refine (hE7.out _).mono ?_ | refine (hE9.out _).mono ?_); rintro x w' ⟨rfl, hb⟩; have hbel := below_then hbel hb; clear hb) | (go_at_call 37; (with_reducible refine (hW4.out _).mono ?_); rintro x w' ⟨rfl, rfl⟩))
              try go_step3
              first | refine ⟨rfl, (by unfold ScrJ; exact ⟨k + 1, 1, d + 1, _, _, _, _, _, _, _, _, _, _, _, _, _, _, _, _, _, _, _, _, _, _, _, _, _, _, _, _, _, _, _, _, _, _, _, _, _, _, _, _, _, _, _, _, _, _, _, _, _, _, _, _, _, _, _, _, _, _, _, _, _, _, _, _, _, _, _, _, by omega, by omega, by omega, rfl, HX, hbel⟩), ?_⟩ | refine ⟨(by unfold ScrJ; exact ⟨k + 1, 1, d + 1, _, _, _, _, _, _, _, _, _, _, _, _, _, _, _, _, _, _, _, _, _, _, _, _, _, _, _, _, _, _, _, _, _, _, _, _, _, _, _, _, _, _, _, _, _, _, _, _, _, _, _, _, _, _, _, _, _, _, _, _, _, _, _, _, _, _, _, _, by omega, by omega, by omega, rfl, HX, hbel⟩), ?_⟩
              simp [intOf]; omega
          · have HX : Hid (t = k) := by have := HN.out; rw [scr_end (bs e) _ d _ hr (by omega) hf] at this; exact this.symm
            rw [hf] at hE
            clear HN hf hr hl7 h45 h62
            go_wp2_with (first | (go_at_call 64; (with_reducible first | refine (hE.out _).mono ?_ | refine (hE7.out _).mono ?_ | refine (hE9.out _).mono ?_); rintro x w' ⟨rfl, hb⟩; have hbel := below_then hbel hb; clear hb) | (go_at_call 37; (with_reducible refine (hW4.out _).mono ?_); rintro x w' ⟨rfl, rfl⟩))
            simp only [Exit.jump]
            go_ret
            exact ⟨by rw [HX.out]; rfl, hbel⟩
        · clear hW4 hE7 hl7 hb4
          cases hx : ((c.toNat : Int) == 45)
          · rw [hx] at h45
            have hc : ((bs s).drop k).getD 0 0 ≠ 45 := fun h => by have := h45.1 h; simp at this
            by_cases hy : (((c.toNat : Int) == 62) = true) ∧ 2 ≤ d
            · have HX : Hid (k + 1 + scrL (bs e) 0 0 ((bs s).drop (k + 1)) = t) := nextTo (bs e) _ k 1 _ _ _ _ t HN.out (scr_shut (bs e) _ d _ hr (fun h => h.1 rfl) (by omega) hc ⟨h62.2 hy.1, hy.2⟩)
              obtain ⟨hy1, hy2⟩ := hy
              have hd2 : (2 : Int) ≤ (d : Int) := by omega
              clear HN hc h45 h62 hr hy2
              go_wp2_with (first | (go_at_call 64; (with_reducible first | refine (hE.out _).mono ?_ | refine (hE7.out _).mono ?_ | refine (hE9.out _).mono ?_); rintro x w' ⟨rfl, hb⟩; have hbel := below_then hbel hb; clear hb) | (go_at_call 37; (with_reducible refine (hW4.out _).mono ?_); rintro x w' ⟨rfl, rfl⟩))
              try go_step3
              first | refine ⟨rfl, (by unfold ScrJ; exact ⟨k + 1, 0, 0, _, _, _, _, _, _, _, _, _, _, _, _, _, _, _, _, _, _, _, _, _, _, _, _, _, _, _, _, _, _, _, _, _, _, _, _, _, _, _, _, _, _, _, _, _, _, _, _, _, _, _, _, _, _, _, _, _, _, _, _, _, _, _, _, _, _, _, _, by omega, by omega, by omega, rfl, HX, hbel⟩), ?_⟩ | refine ⟨(by unfold ScrJ; exact ⟨k + 1, 0, 0, _, _, _, _, _, _, _, _, _, _, _, _, _, _, _, _, _, _, _, _, _, _, _, _, _, _, _, _, _, _, _, _, _, _, _, _, _, _, _, _, _, _, _, _, _, _, _, _, _, _, _, _, _, _, _, _, _, _, _, _, _, _, _, _, _, _, _, _, by omega, by omega, by omega, rfl, HX, hbel⟩), ?_⟩
              simp [intOf]; omega
            · have hg : ¬ (((bs s).drop k).getD 0 0 = 62 ∧ 2 ≤ d) := fun h => hy ⟨h62.1 h.1, h.2⟩
              have hy3 : (((c.toNat : Int) == 62) = false) ∨ ((((c.toNat : Int) == 62) = true) ∧ ¬ (2 : Int) ≤ (d : Int)) := by
                cases hz : ((c.toNat : Int) == 62)
                · exact .inl rfl
                · exact .inr ⟨rfl, fun h => hy ⟨hz, by omega⟩⟩
              clear hy
              cases h7 : follows ((bs s).drop k) [60, 47, 115, 99, 114, 105, 112, 116]
              · have HX : Hid (k + 1 + scrL (bs e) 2 0 ((bs s).drop (k + 1)) = t) := nextTo (bs e) _ k 1 _ _ _ _ t HN.out (scr_on2 (bs e) d _ hr hc hg h7)
                rw [h7] at hE9
                clear HN hc hg h45 h62 hr h7 hl9
                rcases hy3 with hy1 | ⟨hy1, hy2⟩
                all_goals
                  go_wp2_with (first | (go_at_call 64; (with_reducible first | refine (hE.out _).mono ?_ | refine (hE7.out _).mono ?_ | refine (hE9.out _).mono ?_); rintro x w' ⟨rfl, hb⟩; have hbel := below_then hbel hb; clear hb) | (go_at_call 37; (with_reducible refine (hW4.out _).mono ?_); rintro x w' ⟨rfl, rfl⟩))
                  try go_step3
                  first | refine ⟨rfl, (by unfold ScrJ; exact ⟨k + 1, 2, 0, _, _, _, _, _, _, _, _, _, _, _, _, _, _, _, _, _, _, _, _, _, _, _, _, _, _, _, _, _, _, _, _, _, _, _, _, _, _, _, _, _, _, _, _, _, _, _, _, _, _, _, _, _, _, _, _, _, _, _, _, _, _, _, _, _, _, _, _, by omega, by omega, by omega, rfl, HX, hbel⟩), ?_⟩ | refine ⟨(by unfold ScrJ; exact ⟨k + 1, 2, 0, _, _, _, _, _, _, _, _, _, _, _, _, _, _, _, _, _, _, _, _, _, _, _, _, _, _, _, _, _, _, _, _, _, _, _, _, _, _, _, _, _, _, _, _, _, _, _, _, _, _, _, _, _, _, _, _, _, _, _, _, _, _, _, _, _, _, _, _, by omega, by omega, by omega, rfl, HX, hbel⟩), ?_⟩
                  simp [intOf]; omega
              · have HX : Hid (k + 9 + scrL (bs e) 1 0 ((bs s).drop (k + 9)) = t) := nextTo (bs e) _ k 9 _ _ _ _ t HN.out (scr_back (bs e) d _ hr hc hg h7)
                replace hl9 := hl9 h7
                rw [h7] at hE9
                clear HN hc hg h45 h62 hr h7
                rcases hy3 with hy1 | ⟨hy1, hy2⟩
                all_goals
                  go_wp2_with (first | (go_at_call 64; (with_reducible first | refine (hE.out _).mono ?_ | refine (hE7.out _).mono ?_ | refine (hE9.out _).mono ?_); rintro x w' ⟨rfl, hb⟩; have hbel := below_then hbel hb; clear hb) | (go_at_call 37; (with_reducible refine (hW4.out _).mono ?_); rintro x w' ⟨rfl, rfl⟩))
                  try go_step3
                  first | refine ⟨rfl, (by unfold ScrJ; exact ⟨k + 9, 1, 0, _, _, _, _, _, _, _, _, _, _, _, _, _, _, _, _, _, _, _, _, _, _, _, _, _, _, _, _, _, _, _, _, _, _, _, _, _, _, _, _, _, _, _, _, _, _, _, _, _, _, _, _, _, _, _, _, _, _, _, _, _, _, _, _, _, _, _, _, by omega, by omega, by omega, rfl, HX, hbel⟩), ?_⟩ | refine ⟨(by unfold ScrJ; exact ⟨k + 9, 1, 0, _, _, _, _, _, _, _, _, _, _, _, _, _, _, _, _, _, _, _, _, _, _, _, _, _, _, _, _, _, _, _, _, _, _, _, _, _, _, _, _, _, _, _, _, _, _, _, _, _, _, _, _, _, _, _, _, _, _, _, _, _, _, _, _, _, _, _, _, by omega, by omega, by omega, rfl, HX, hbel⟩), ?_⟩
                  simp [intOf]; omega
          · have HX : Hid (k + 1 + scrL (bs e) 2 (d + 1) ((bs s).drop (k + 1)) = t) := nextTo (bs e) _ k 1 _ _ _ _ t HN.out (scr_dash (bs e) _ d _ hr (fun h => h.1 rfl) (by omega) (h45.2 hx))
            clear HN h45 h62 hr
            go_wp2_with (first | (go_at_call 64; (with_reducible first | refine (hE.out _).mono ?_ | refine (hE7.out _).mono ?_ | refine (hE9.out _).mono ?_); rintro x w' ⟨rfl, hb⟩; have hbel := below_then hbel hb; clear hb) | (go_at_call 37; (with_reducible refine (hW4.out _).mono ?_); rintro x w' ⟨rfl, rfl⟩))
            try go_step3
            first | refine ⟨rfl, (by unfold ScrJ; exact ⟨k + 1, 2, d + 1, _, _, _, _, _, _, _, _, _, _, _, _, _, _, _, _, _, _, _, _, _, _, _, _, _, _, _, _, _, _, _, _, _, _, _, _, _, _, _, _, _, _, _, _, _, _, _, _, _, _, _, _, _, _, _, _, _, _, _, _, _, _, _, _, _, _, _, _, by omega, by omega, by omega, rfl, HX, hbel⟩), ?_⟩ | refine ⟨(by unfold ScrJ; exact ⟨k + 1, 2, d + 1, _, _, _, _, _, _, _, _, _, _, _, _, _, _, _, _, _, _, _, _, _, _, _, _, _, _, _, _, _, _, _, _, _, _, _, _, _, _, _, _, _, _, _, _, _, _, _, _, _, _, _, _, _, _, _, _, _, _, _, _, _, _, _, _, _, _, _, _, by omega, by omega, by omega, rfl, HX, hbel⟩), ?_⟩
            simp [intOf]; omega
    · have HX : Hid (t = k) := by
        have := HN.out
        rw [show (bs s).drop k = [] from List.drop_eq_nil_of_le (by rw [← size_bs]; omega), scrL_nil] at this
        exact this.symm
      have hne : (s.extract k s.size).toList.isEmpty = true := by rw [empty_at]; exact decide_eq_true (by omega)
      clear HN
      go_wp2
      simp only [Exit.jump]
      go_ret
      exact ⟨by rw [HX.out]; rfl, hbel⟩
end Tym
