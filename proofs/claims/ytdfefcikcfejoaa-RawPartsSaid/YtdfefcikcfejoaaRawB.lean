/- The walks of the reference's ends, and of raw.plainly. -/
import Derived.Test.YtdfefcikcfejoaaRawA
import Derived.Test.YtdfefcikcfejoaaMore
set_option linter.unusedSimpArgs false
set_option linter.unusedVariables false
open Go Go.RowKit Go.Proofs
namespace Tym
set_option maxRecDepth 20000
attribute [local irreducible] lower isSpace follows wordIn closedIn plainAt upto

theorem closed_drop (l : Bs) (i j : Nat) : closedIn (l.drop i) j = closedIn l (i + j) := by
  unfold closedIn
  rw [List.length_drop, List.getD_eq_getElem?_getD, List.getElem?_drop, ← List.getD_eq_getElem?_getD]
  congr 1
  rw [decide_eq_decide]; omega

theorem ends_any (s name : ByteArray) (i : Nat) (w : World) (hs : s.size ≤ 1000000) (hn : name.size ≤ 1000000) (hi : i ≤ s.size) : Calls Try.prog 15 #[.string s, .int .i64 i, .string name] w fun e w' => e = .returned (.bool (follows ((bs s).drop i) (endOf (bs name)))) ∧ Below w.heap.size w w' := by
  have HL : Hid (∀ w, Calls Try.prog 9 #[.string name] w fun e w' => e = .returned (.string (mk (lower (bs name)))) ∧ Below w.heap.size w w') := fun w => lowerR_any name w (by omega)
  have hsz : (mk (lower (bs name))).size = name.size := by rw [size_mk, lower_len, ← size_bs]
  have hbs : bs (⟨#[60, 47]⟩ ++ mk (lower (bs name))) = endOf (bs name) := by rw [bs_append]; rfl
  have hes : (⟨#[60, 47]⟩ ++ mk (lower (bs name)) : ByteArray).size = 2 + name.size := by rw [size_append, hsz]; rfl
  have HW : Hid (∀ w, Calls Try.prog 25 #[.string s, .int .i64 i, .string (⟨#[60, 47]⟩ ++ mk (lower (bs name)))] w fun e w' => e = .returned (.bool (wordIn ((bs s).drop i) (endOf (bs name)))) ∧ Below w.heap.size w w') := fun w => by
    have := word_any s (⟨#[60, 47]⟩ ++ mk (lower (bs name))) i w (by omega) hi (by omega)
    rwa [hbs] at this
  have HCl : Hid (∀ w, Calls Try.prog 26 #[.string s, .int .i64 ((i : Int) + (2 + (name.size : Int)))] w fun e w' => e = .returned (.bool (closedIn ((bs s).drop i) (endOf (bs name)).length)) ∧ w = w') := fun w => by
    have := closed_any s (i + (2 + name.size)) w (by omega) (by omega)
    rw [closed_drop, ← hbs, ← size_bs, hes]
    have e : (((i + (2 + name.size) : Nat)) : Int) = (i : Int) + (2 + (name.size : Int)) := by omega
    rwa [e] at this
  have HF : Hid (follows ((bs s).drop i) (endOf (bs name)) = (wordIn ((bs s).drop i) (endOf (bs name)) && closedIn ((bs s).drop i) (endOf (bs name)).length)) := by show follows _ _ = _; unfold follows; rfl
  generalize wordIn ((bs s).drop i) (endOf (bs name)) = x at *
  generalize closedIn ((bs s).drop i) (endOf (bs name)).length = y at *
  clear hbs
  generalize mk (lower (bs name)) = nm at *
  cases x
  all_goals
    go_enter Try.func15, Try.ntmps15
    go_wp2_with fail
    refine (HL.out _).mono ?_
    rintro e w1 ⟨rfl, b1⟩
    go_wp2_with fail
    refine (HW.out _).mono ?_
    rintro e w2 ⟨rfl, b2⟩
    go_wp2_with (go_at_call 26; (with_reducible refine (HCl.out _).mono ?_); rintro e w' ⟨rfl, rfl⟩)
    go_ret
    exact ⟨by rw [HF.out]; rfl, below_then b1 b2⟩

theorem plainAt_nil (e : Bs) : plainAt e [] = 0 := by unfold plainAt; rfl
theorem plainAt_stop (e r : Bs) (h : follows r e = true) : plainAt e r = 0 := by
  cases r with
  | nil => exact plainAt_nil e
  | cons c t => unfold plainAt; rw [h]; rfl
theorem plainAt_go (e r : Bs) (hr : 0 < r.length) (h : follows r e = false) : plainAt e r = 1 + plainAt e (r.drop 1) := by
  cases r with
  | nil => simp at hr
  | cons c t => rw [plainAt, h]; rfl

theorem plainly_any (s e : ByteArray) (e' : Bs) (he : bs e = 60 :: e') (w : World) (hs : s.size ≤ 1000000) : Calls Try.prog 11 #[.string s, .string e] w fun x w' => x = .returned (.int .i64 (plainAt (bs e) (bs s))) ∧ Below w.heap.size w w' := by
  go_enter Try.func11, Try.ntmps11
  go_wp2_with fail
  go_loopw [5] (fun v wr => ∃ k : Nat, k ≤ s.size ∧ v = .int .i64 k ∧ Hid (k + plainAt (bs e) ((bs s).drop k) = plainAt (bs e) (bs s)) ∧ Below w.heap.size w wr) (fun v _ => s.size - (intOf v).toNat)
  case atStart => exact ⟨0, by omega, rfl, by rw [List.drop_zero]; exact Nat.zero_add _, Below.refl _ _⟩
  case round =>
    obtain ⟨k, hk, rfl, HN, hbel⟩ := hrel
    have hI : Hid (∀ w, Calls Try.prog 18 #[.string (s.extract k s.size), .int .u8 60] w fun e w' => e = .returned (.int .i64 (idxI 60 ((bs s).drop k))) ∧ w = w') := fun w => by
      have := index_any (s.extract k s.size) 60 w
      rwa [bs_from] at this
    have hsk := plainAt_skip e' ((bs s).drop k)
    rw [← he] at hsk
    have hul := upto_le 60 ((bs s).drop k)
    rw [List.length_drop, ← size_bs] at hul
    have hidx : Hid (idxI 60 ((bs s).drop k) = if upto 60 ((bs s).drop k) < ((bs s).drop k).length then (upto 60 ((bs s).drop k) : Int) else -1) := by unfold idxI; rfl
    have HSK := Lib.hid hsk
    clear hsk
    by_cases hu : k + upto 60 ((bs s).drop k) < s.size
    · have hidx2 : idxI 60 ((bs s).drop k) = (upto 60 ((bs s).drop k) : Int) := by rw [hidx.out, if_pos (by rw [List.length_drop, ← size_bs]; omega)]
      rw [hidx2] at hI
      clear hidx hidx2
      have HN2 : Hid (k + (upto 60 ((bs s).drop k) + plainAt (bs e) ((bs s).drop (k + upto 60 ((bs s).drop k)))) = plainAt (bs e) (bs s)) := by
        have := HN.out
        rw [HSK.out, List.drop_drop] at this
        exact this
      clear HN HSK
      generalize upto 60 ((bs s).drop k) = u at *
      have hFw : Hid (∀ w, Calls Try.prog 19 #[.string (s.extract (k + u) s.size), .string e] w fun x w' => x = .returned (.bool (follows ((bs s).drop (k + u)) (bs e))) ∧ Below w.heap.size w w') := fun w => by
        have := follows_any (s.extract (k + u) s.size) e w (by rw [ByteArray.size_extract]; omega)
        rwa [bs_from] at this
      cases hf : follows ((bs s).drop (k + u)) (bs e)
      · have HN3 : Hid (k + u + 1 + plainAt (bs e) ((bs s).drop (k + u + 1)) = plainAt (bs e) (bs s)) := by
          have := HN2.out
          rw [plainAt_go _ _ (by rw [List.length_drop, ← size_bs]; omega) hf, List.drop_drop] at this
          show _ = _
          omega
        rw [hf] at hFw
        clear HN2 hf
        go_wp2_with fail
        refine (hI.out _).mono ?_
        rintro x w1 ⟨rfl, rfl⟩
        go_wp2_with fail
        refine (hFw.out _).mono ?_
        rintro x w2 ⟨rfl, b2⟩
        go_wp2
        go_roundw
        case rel => exact ⟨k + u + 1, by omega, by go_num, HN3, below_then hbel b2⟩
        case measure => simp [intOf]; omega
      · have HN3 : Hid (plainAt (bs e) (bs s) = k + u) := by
          have := HN2.out
          rw [plainAt_stop _ _ hf] at this
          show _ = _
          omega
        rw [hf] at hFw
        clear HN2 hf
        go_wp2_with fail
        refine (hI.out _).mono ?_
        rintro x w1 ⟨rfl, rfl⟩
        go_wp2_with fail
        refine (hFw.out _).mono ?_
        rintro x w2 ⟨rfl, b2⟩
        go_wp2
        go_ret
        exact ⟨by rw [HN3.out]; exact ret_int (by omega), below_then hbel b2⟩
    · have hidx2 : idxI 60 ((bs s).drop k) = -1 := by rw [hidx.out, if_neg (by rw [List.length_drop, ← size_bs]; omega)]
      rw [hidx2] at hI
      have HN3 : Hid (plainAt (bs e) (bs s) = s.size) := by
        have := HN.out
        rw [HSK.out, List.drop_drop, show (bs s).drop (k + upto 60 ((bs s).drop k)) = [] from List.drop_eq_nil_of_le (by rw [← size_bs]; omega), plainAt_nil] at this
        show _ = _
        omega
      clear HN HSK hidx hidx2 hul hu
      go_wp2_with fail
      refine (hI.out _).mono ?_
      rintro x w1 ⟨rfl, rfl⟩
      go_wp2
      go_ret
      exact ⟨by rw [HN3.out]; rfl, hbel⟩
end Tym
