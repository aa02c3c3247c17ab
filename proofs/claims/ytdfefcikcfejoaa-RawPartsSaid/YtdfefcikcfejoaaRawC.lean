/- The walk of the reference's script. -/
import Derived.Test.YtdfefcikcfejoaaRawB
set_option linter.unusedSimpArgs false
set_option linter.unusedVariables false
open Go Go.RowKit Go.Proofs
namespace Tym
set_option maxRecDepth 20000

def scrL (e : Bs) (st d : Nat) (r : Bs) : Nat := scr e r.length st d r
theorem scrL_nil (e : Bs) (st d : Nat) : scrL e st d [] = 0 := rfl
theorem scrL_le (e : Bs) (st d : Nat) (r : Bs) : scrL e st d r ≤ r.length := scr_le e _ _ _ _
theorem scrL_cons (e : Bs) (st d : Nat) (r : Bs) (hr : 0 < r.length) : scrL e st d r =
    if st ≠ 2 ∧ follows r e = true then 0
    else if st = 0 then
      (if begins r [60, 33, 45, 45] then 4 + scrL e 1 2 (r.drop 4) else 1 + scrL e 0 d (r.drop 1))
    else if r.getD 0 0 = 45 then 1 + scrL e st (d + 1) (r.drop 1)
    else if r.getD 0 0 = 62 ∧ 2 ≤ d then 1 + scrL e 0 0 (r.drop 1)
    else if st = 1 ∧ follows r [60, 115, 99, 114, 105, 112, 116] = true then 8 + scrL e 2 0 (r.drop 8)
    else if st = 2 ∧ follows r [60, 47, 115, 99, 114, 105, 112, 116] = true then 9 + scrL e 1 0 (r.drop 9)
    else 1 + scrL e st 0 (r.drop 1) := by
  cases r with
  | nil => simp at hr
  | cons c t =>
    unfold scrL
    rw [List.length_cons, scr]
    have hf : ∀ (st d n : Nat), 1 ≤ n → scr e ((c :: t).drop n).length st d ((c :: t).drop n) = scr e t.length st d ((c :: t).drop n) := fun st d n hn =>
      scr_fuel e _ _ _ _ _ (Nat.le_refl _) (by rw [List.length_drop, List.length_cons]; omega)
    rw [hf 1 2 4 (by omega), hf 0 d 1 (by omega), hf st (d + 1) 1 (by omega), hf 0 0 1 (by omega), hf 2 0 8 (by omega), hf 1 0 9 (by omega), hf st 0 1 (by omega)]
    rfl
-- GEN

theorem byte45 (c : UInt8) : c = 45 ↔ ((c.toNat : Int) == 45) = true := byte_all (p := fun c => c = 45 ↔ ((c.toNat : Int) == 45) = true) (by decide +kernel) c
theorem byte62 (c : UInt8) : c = 62 ↔ ((c.toNat : Int) == 62) = true := byte_all (p := fun c => c = 62 ↔ ((c.toNat : Int) == 62) = true) (by decide +kernel) c
theorem end_script : endOf (bs ⟨#[115, 99, 114, 105, 112, 116]⟩) = [60, 47, 115, 99, 114, 105, 112, 116] := by decide +kernel

attribute [local irreducible] scrL follows begins wordIn closedIn lower isSpace scr

/-- What the two walks of a script's text need of a place in it. -/
theorem scr_end (E : Bs) (st d : Nat) (r : Bs) (hr : 0 < r.length) (h2 : st ≠ 2) (hf : follows r E = true) : scrL E st d r = 0 := by
  rw [scrL_cons E st d r hr, if_pos ⟨h2, hf⟩]
theorem scr_open (E : Bs) (d : Nat) (r : Bs) (hr : 0 < r.length) (hf : follows r E = false) (hg : begins r [60, 33, 45, 45] = true) : scrL E 0 d r = 4 + scrL E 1 2 (r.drop 4) := by
  rw [scrL_cons E 0 d r hr, if_neg (by rw [hf]; simp), if_pos rfl, if_pos hg]
theorem scr_out (E : Bs) (d : Nat) (r : Bs) (hr : 0 < r.length) (hf : follows r E = false) (hg : begins r [60, 33, 45, 45] = false) : scrL E 0 d r = 1 + scrL E 0 d (r.drop 1) := by
  rw [scrL_cons E 0 d r hr, if_neg (by rw [hf]; simp), if_pos rfl, if_neg (by rw [hg]; simp)]
theorem scr_dash (E : Bs) (st d : Nat) (r : Bs) (hr : 0 < r.length) (hn : ¬ (st ≠ 2 ∧ follows r E = true)) (h0 : st ≠ 0) (hc : r.getD 0 0 = 45) : scrL E st d r = 1 + scrL E st (d + 1) (r.drop 1) := by
  rw [scrL_cons E st d r hr, if_neg hn, if_neg h0, if_pos hc]
theorem scr_shut (E : Bs) (st d : Nat) (r : Bs) (hr : 0 < r.length) (hn : ¬ (st ≠ 2 ∧ follows r E = true)) (h0 : st ≠ 0) (hc : r.getD 0 0 ≠ 45) (hg : r.getD 0 0 = 62 ∧ 2 ≤ d) : scrL E st d r = 1 + scrL E 0 0 (r.drop 1) := by
  rw [scrL_cons E st d r hr, if_neg hn, if_neg h0, if_neg hc, if_pos hg]
theorem scr_deep (E : Bs) (d : Nat) (r : Bs) (hr : 0 < r.length) (hn : follows r E = false) (hc : r.getD 0 0 ≠ 45) (hg : ¬ (r.getD 0 0 = 62 ∧ 2 ≤ d)) (h7 : follows r [60, 115, 99, 114, 105, 112, 116] = true) : scrL E 1 d r = 8 + scrL E 2 0 (r.drop 8) := by
  rw [scrL_cons E 1 d r hr, if_neg (by rw [hn]; simp), if_neg (by omega), if_neg hc, if_neg hg, if_pos ⟨rfl, h7⟩]
theorem scr_back (E : Bs) (d : Nat) (r : Bs) (hr : 0 < r.length) (hc : r.getD 0 0 ≠ 45) (hg : ¬ (r.getD 0 0 = 62 ∧ 2 ≤ d)) (h9 : follows r [60, 47, 115, 99, 114, 105, 112, 116] = true) : scrL E 2 d r = 9 + scrL E 1 0 (r.drop 9) := by
  rw [scrL_cons E 2 d r hr, if_neg (fun h => h.1 rfl), if_neg (by omega), if_neg hc, if_neg hg, if_neg (fun h => by omega), if_pos ⟨rfl, h9⟩]
theorem scr_on1 (E : Bs) (d : Nat) (r : Bs) (hr : 0 < r.length) (hn : follows r E = false) (hc : r.getD 0 0 ≠ 45) (hg : ¬ (r.getD 0 0 = 62 ∧ 2 ≤ d)) (h7 : follows r [60, 115, 99, 114, 105, 112, 116] = false) : scrL E 1 d r = 1 + scrL E 1 0 (r.drop 1) := by
  rw [scrL_cons E 1 d r hr, if_neg (by rw [hn]; simp), if_neg (by omega), if_neg hc, if_neg hg, if_neg (by rw [h7]; simp), if_neg (fun h => by omega)]
theorem scr_on2 (E : Bs) (d : Nat) (r : Bs) (hr : 0 < r.length) (hc : r.getD 0 0 ≠ 45) (hg : ¬ (r.getD 0 0 = 62 ∧ 2 ≤ d)) (h9 : follows r [60, 47, 115, 99, 114, 105, 112, 116] = false) : scrL E 2 d r = 1 + scrL E 2 0 (r.drop 1) := by
  rw [scrL_cons E 2 d r hr, if_neg (fun h => h.1 rfl), if_neg (by omega), if_neg hc, if_neg hg, if_neg (fun h => by omega), if_neg (by rw [h9]; simp)]

theorem nextTo (E : Bs) (l : Bs) (k n st d st' d' t : Nat) (h : k + scrL E st d (l.drop k) = t) (hs : scrL E st d (l.drop k) = n + scrL E st' d' ((l.drop k).drop n)) : k + n + scrL E st' d' (l.drop (k + n)) = t := by
  rw [List.drop_drop] at hs; omega

set_option maxHeartbeats 2000000 in
theorem scriptR_any (s name : ByteArray) (i : Nat) (w : World) (hs : s.size ≤ 1000000) (hn : name.size ≤ 1000000) (hi : i ≤ s.size) : Calls Try.prog 14 #[.string s, .int .i64 i, .string name] w fun e w' => e = .returned (.int .i64 ((i + scrL (endOf (bs name)) 0 0 ((bs s).drop i) : Nat) : Int)) ∧ Below w.heap.size w w' := by
  have HE0 : Hid (∀ k, k ≤ s.size → ∀ w, Calls Try.prog 15 #[.string s, .int .i64 k, .string name] w fun e w' => e = .returned (.bool (follows ((bs s).drop k) (endOf (bs name)))) ∧ Below w.heap.size w w') := fun k hk w => ends_any s name k w hs hn hk
  generalize hT : i + scrL (endOf (bs name)) 0 0 ((bs s).drop i) = t
  generalize endOf (bs name) = E at *
  have HT := Lib.hid hT
  clear hT
  go_enter Try.func14, Try.ntmps14
  go_wp2_with fail
  go_loopw [1, 7, 8] (fun v1 v7 v8 wr => ∃ k st d : Nat, k ≤ s.size ∧ st ≤ 2 ∧ d ≤ k + 2 ∧ v1 = .int .i64 k ∧ v7 = .int .i64 st ∧ v8 = .int .i64 d ∧ Hid (k + scrL E st d ((bs s).drop k) = t) ∧ Below w.heap.size w wr) (fun v1 _ _ _ => s.size - (intOf v1).toNat)
  case atStart => exact ⟨i, 0, 0, hi, by omega, by omega, rfl, rfl, rfl, HT, Below.refl _ _⟩
  case round =>
    obtain ⟨k, st, d, hk, hst, hd, rfl, rfl, rfl, HN, hbel⟩ := hrel
    by_cases hlt : k < s.size
    · have hr : 0 < ((bs s).drop k).length := by rw [List.length_drop, ← size_bs]; omega
      have hrl : ((bs s).drop k).length = s.size - k := by rw [List.length_drop, ← size_bs]
      have hE : Hid (∀ w, Calls Try.prog 15 #[.string s, .int .i64 k, .string name] w fun e w' => e = .returned (.bool (follows ((bs s).drop k) E)) ∧ Below w.heap.size w w') := HE0.out k hk
      have hE9 : Hid (∀ w, Calls Try.prog 15 #[.string s, .int .i64 k, .string ⟨#[115, 99, 114, 105, 112, 116]⟩] w fun e w' => e = .returned (.bool (follows ((bs s).drop k) [60, 47, 115, 99, 114, 105, 112, 116])) ∧ Below w.heap.size w w') := fun w => by
        have := ends_any s ⟨#[115, 99, 114, 105, 112, 116]⟩ k w hs (by decide) hk
        rwa [show endOf (bs ⟨#[115, 99, 114, 105, 112, 116]⟩) = [60, 47, 115, 99, 114, 105, 112, 116] from end_script] at this
      have hW4 : Hid (∀ w, Calls Try.prog 25 #[.string s, .int .i64 k, .string ⟨#[60, 33, 45, 45]⟩] w fun e w' => e = .returned (.bool (begins ((bs s).drop k) [60, 33, 45, 45])) ∧ Below w.heap.size w w') := fun w => by
        have := word_any s ⟨#[60, 33, 45, 45]⟩ k w (by omega) hk (by decide)
        rwa [show bs ⟨#[60, 33, 45, 45]⟩ = [60, 33, 45, 45] from rfl, word_begins] at this
      have hW7 : Hid (∀ w, Calls Try.prog 25 #[.string s, .int .i64 k, .string ⟨#[60, 115, 99, 114, 105, 112, 116]⟩] w fun e w' => e = .returned (.bool (wordIn ((bs s).drop k) [60, 115, 99, 114, 105, 112, 116])) ∧ Below w.heap.size w w') := fun w => word_any s ⟨#[60, 115, 99, 114, 105, 112, 116]⟩ k w (by omega) hk (by decide)
      have hC7 : Hid (∀ w, Calls Try.prog 26 #[.string s, .int .i64 ((k : Int) + 7)] w fun e w' => e = .returned (.bool (closedIn ((bs s).drop k) 7)) ∧ w = w') := fun w => by
        have := closed_any s (k + 7) w (by omega) (by omega)
        rw [closed_drop]
        rwa [show ((k + 7 : Nat) : Int) = (k : Int) + 7 from by omega] at this
      have hf7 : follows ((bs s).drop k) [60, 115, 99, 114, 105, 112, 116] = (wordIn ((bs s).drop k) [60, 115, 99, 114, 105, 112, 116] && closedIn ((bs s).drop k) 7) := by unfold follows; rfl
      have hb4 := begins_len ((bs s).drop k) [60, 33, 45, 45]
      have hl7 := follows_len ((bs s).drop k) [60, 115, 99, 114, 105, 112, 116]
      have hl9 := follows_len ((bs s).drop k) [60, 47, 115, 99, 114, 105, 112, 116]
      rw [hrl] at hb4 hl7 hl9
      simp only [List.length_cons, List.length_nil] at hb4 hl7 hl9
      have hg0 : ((bs s).drop k).getD 0 0 = s[k]'hlt := by rw [get_bs s k hlt]; simp [List.getD_eq_getElem?_getD]
      have h45 : ((bs s).drop k).getD 0 0 = 45 ↔ (((s[k]'hlt).toNat : Int) == 45) = true := by rw [hg0]; exact byte45 _
      have h62 : ((bs s).drop k).getD 0 0 = 62 ↔ (((s[k]'hlt).toNat : Int) == 62) = true := by rw [hg0]; exact byte62 _
      clear hg0 hrl HE0
      rcases (by omega : st = 0 ∨ st = 1 ∨ st = 2) with rfl | rfl | rfl
      · clear hW7 hC7 hE9 hl7 hl9 hf7 h45 h62
        cases hf : follows ((bs s).drop k) E
        · cases hg : begins ((bs s).drop k) [60, 33, 45, 45]
          · have HX : Hid (k + 1 + scrL E 0 d ((bs s).drop (k + 1)) = t) := nextTo E _ k 1 _ _ _ _ t HN.out (scr_out E d _ hr hf hg)
            rw [hf] at hE
            rw [hg] at hW4
            clear HN hf hg hb4 hr
            go_wp2_with (first | (go_at_call 15; (with_reducible first | refine (hE.out _).mono ?_ | refine (hE9.out _).mono ?_); rintro e w' ⟨rfl, hb⟩; have hbel := below_then hbel hb; clear hb) | (go_at_call 25; (with_reducible first | refine (hW4.out _).mono ?_ | refine (hW7.out _).mono ?_); rintro e w' ⟨rfl, hb⟩; have hbel := below_then hbel hb; clear hb) | (go_at_call 26; (with_reducible refine (hC7.out _).mono ?_); rintro e w' ⟨rfl, rfl⟩))
            go_roundw
            case rel => exact ⟨k + 1, 0, d, by omega, by omega, by omega, by go_num, rfl, by go_num, HX, hbel⟩
            case measure => simp [intOf]; omega
          · have HX : Hid (k + 4 + scrL E 1 2 ((bs s).drop (k + 4)) = t) := nextTo E _ k 4 _ _ _ _ t HN.out (scr_open E d _ hr hf hg)
            replace hb4 := hb4 hg
            rw [hf] at hE
            rw [hg] at hW4
            clear HN hf hg hr
            go_wp2_with (first | (go_at_call 15; (with_reducible first | refine (hE.out _).mono ?_ | refine (hE9.out _).mono ?_); rintro e w' ⟨rfl, hb⟩; have hbel := below_then hbel hb; clear hb) | (go_at_call 25; (with_reducible first | refine (hW4.out _).mono ?_ | refine (hW7.out _).mono ?_); rintro e w' ⟨rfl, hb⟩; have hbel := below_then hbel hb; clear hb) | (go_at_call 26; (with_reducible refine (hC7.out _).mono ?_); rintro e w' ⟨rfl, rfl⟩))
            go_roundw
            case rel => exact ⟨k + 4, 1, 2, by omega, by omega, by omega, by go_num, rfl, by go_num, HX, hbel⟩
            case measure => simp [intOf]; omega
        · have HX : Hid (t = k) := by have := HN.out; rw [scr_end E _ d _ hr (by omega) hf] at this; exact this.symm
          rw [hf] at hE
          clear HN hf hb4 hr
          go_wp2_with (first | (go_at_call 15; (with_reducible first | refine (hE.out _).mono ?_ | refine (hE9.out _).mono ?_); rintro e w' ⟨rfl, hb⟩; have hbel := below_then hbel hb; clear hb) | (go_at_call 25; (with_reducible first | refine (hW4.out _).mono ?_ | refine (hW7.out _).mono ?_); rintro e w' ⟨rfl, hb⟩; have hbel := below_then hbel hb; clear hb) | (go_at_call 26; (with_reducible refine (hC7.out _).mono ?_); rintro e w' ⟨rfl, rfl⟩))
          go_ret
          exact ⟨by rw [HX.out]; rfl, hbel⟩
      · clear hW4 hE9 hl9 hb4
        cases hf : follows ((bs s).drop k) E
        · rw [hf] at hE
          cases hx : (((s[k]'hlt).toNat : Int) == 45)
          · rw [hx] at h45
            have hc : ((bs s).drop k).getD 0 0 ≠ 45 := fun h => by have := h45.1 h; simp at this
            by_cases hy : ((((s[k]'hlt).toNat : Int) == 62) = true) ∧ 2 ≤ d
            · have HX : Hid (k + 1 + scrL E 0 0 ((bs s).drop (k + 1)) = t) := nextTo E _ k 1 _ _ _ _ t HN.out (scr_shut E _ d _ hr (by rw [hf]; simp) (by omega) hc ⟨h62.2 hy.1, hy.2⟩)
              obtain ⟨hy1, hy2⟩ := hy
              have hd2 : (2 : Int) ≤ (d : Int) := by omega
              clear HN hc h45 h62 hr hy2 hf
              go_wp2_with (first | (go_at_call 15; (with_reducible first | refine (hE.out _).mono ?_ | refine (hE9.out _).mono ?_); rintro e w' ⟨rfl, hb⟩; have hbel := below_then hbel hb; clear hb) | (go_at_call 25; (with_reducible first | refine (hW4.out _).mono ?_ | refine (hW7.out _).mono ?_); rintro e w' ⟨rfl, hb⟩; have hbel := below_then hbel hb; clear hb) | (go_at_call 26; (with_reducible refine (hC7.out _).mono ?_); rintro e w' ⟨rfl, rfl⟩))
              go_roundw
              case rel => exact ⟨k + 1, 0, 0, by omega, by omega, by omega, by go_num, rfl, by go_num, HX, hbel⟩
              case measure => simp [intOf]; omega
            · have hg : ¬ (((bs s).drop k).getD 0 0 = 62 ∧ 2 ≤ d) := fun h => hy ⟨h62.1 h.1, h.2⟩
              have hy3 : ((((s[k]'hlt).toNat : Int) == 62) = false) ∨ (((((s[k]'hlt).toNat : Int) == 62) = true) ∧ ¬ (2 : Int) ≤ (d : Int)) := by
                cases hz : (((s[k]'hlt).toNat : Int) == 62)
                · exact .inl rfl
                · exact .inr ⟨rfl, fun h => hy ⟨hz, by omega⟩⟩
              clear hy
              cases hw : wordIn ((bs s).drop k) [60, 115, 99, 114, 105, 112, 116]
              · have h7 : follows ((bs s).drop k) [60, 115, 99, 114, 105, 112, 116] = false := by rw [hf7, hw]; rfl
                have HX : Hid (k + 1 + scrL E 1 0 ((bs s).drop (k + 1)) = t) := nextTo E _ k 1 _ _ _ _ t HN.out (scr_on1 E d _ hr hf hc hg h7)
                rw [hw] at hW7
                clear HN hc hg h45 h62 hr hf hw hf7 h7 hl7
                rcases hy3 with hy1 | ⟨hy1, hy2⟩
                all_goals
                  go_wp2_with (first | (go_at_call 15; (with_reducible first | refine (hE.out _).mono ?_ | refine (hE9.out _).mono ?_); rintro e w' ⟨rfl, hb⟩; have hbel := below_then hbel hb; clear hb) | (go_at_call 25; (with_reducible first | refine (hW4.out _).mono ?_ | refine (hW7.out _).mono ?_); rintro e w' ⟨rfl, hb⟩; have hbel := below_then hbel hb; clear hb) | (go_at_call 26; (with_reducible refine (hC7.out _).mono ?_); rintro e w' ⟨rfl, rfl⟩))
                  go_roundw
                  case rel => exact ⟨k + 1, 1, 0, by omega, by omega, by omega, by go_num, rfl, by go_num, HX, hbel⟩
                  case measure => simp [intOf]; omega
              · cases hcl : closedIn ((bs s).drop k) 7
                · have h7 : follows ((bs s).drop k) [60, 115, 99, 114, 105, 112, 116] = false := by rw [hf7, hw, hcl]; rfl
                  have HX : Hid (k + 1 + scrL E 1 0 ((bs s).drop (k + 1)) = t) := nextTo E _ k 1 _ _ _ _ t HN.out (scr_on1 E d _ hr hf hc hg h7)
                  rw [hw] at hW7
                  rw [hcl] at hC7
                  clear HN hc hg h45 h62 hr hf hw hf7 h7 hl7 hcl
                  rcases hy3 with hy1 | ⟨hy1, hy2⟩
                  all_goals
                    go_wp2_with (first | (go_at_call 15; (with_reducible first | refine (hE.out _).mono ?_ | refine (hE9.out _).mono ?_); rintro e w' ⟨rfl, hb⟩; have hbel := below_then hbel hb; clear hb) | (go_at_call 25; (with_reducible first | refine (hW4.out _).mono ?_ | refine (hW7.out _).mono ?_); rintro e w' ⟨rfl, hb⟩; have hbel := below_then hbel hb; clear hb) | (go_at_call 26; (with_reducible refine (hC7.out _).mono ?_); rintro e w' ⟨rfl, rfl⟩))
                    go_roundw
                    case rel => exact ⟨k + 1, 1, 0, by omega, by omega, by omega, by go_num, rfl, by go_num, HX, hbel⟩
                    case measure => simp [intOf]; omega
                · have h7 : follows ((bs s).drop k) [60, 115, 99, 114, 105, 112, 116] = true := by rw [hf7, hw, hcl]; rfl
                  have HX : Hid (k + 8 + scrL E 2 0 ((bs s).drop (k + 8)) = t) := nextTo E _ k 8 _ _ _ _ t HN.out (scr_deep E d _ hr hf hc hg h7)
                  replace hl7 := hl7 h7
                  rw [hw] at hW7
                  rw [hcl] at hC7
                  clear HN hc hg h45 h62 hr hf hw hf7 h7 hcl
                  rcases hy3 with hy1 | ⟨hy1, hy2⟩
                  all_goals
                    go_wp2_with (first | (go_at_call 15; (with_reducible first | refine (hE.out _).mono ?_ | refine (hE9.out _).mono ?_); rintro e w' ⟨rfl, hb⟩; have hbel := below_then hbel hb; clear hb) | (go_at_call 25; (with_reducible first | refine (hW4.out _).mono ?_ | refine (hW7.out _).mono ?_); rintro e w' ⟨rfl, hb⟩; have hbel := below_then hbel hb; clear hb) | (go_at_call 26; (with_reducible refine (hC7.out _).mono ?_); rintro e w' ⟨rfl, rfl⟩))
                    go_roundw
                    case rel => exact ⟨k + 8, 2, 0, by omega, by omega, by omega, by go_num, rfl, by go_num, HX, hbel⟩
                    case measure => simp [intOf]; omega
          · have HX : Hid (k + 1 + scrL E 1 (d + 1) ((bs s).drop (k + 1)) = t) := nextTo E _ k 1 _ _ _ _ t HN.out (scr_dash E _ d _ hr (by rw [hf]; simp) (by omega) (h45.2 hx))
            clear HN h45 h62 hr hf
            go_wp2_with (first | (go_at_call 15; (with_reducible first | refine (hE.out _).mono ?_ | refine (hE9.out _).mono ?_); rintro e w' ⟨rfl, hb⟩; have hbel := below_then hbel hb; clear hb) | (go_at_call 25; (with_reducible first | refine (hW4.out _).mono ?_ | refine (hW7.out _).mono ?_); rintro e w' ⟨rfl, hb⟩; have hbel := below_then hbel hb; clear hb) | (go_at_call 26; (with_reducible refine (hC7.out _).mono ?_); rintro e w' ⟨rfl, rfl⟩))
            go_roundw
            case rel => exact ⟨k + 1, 1, d + 1, by omega, by omega, by omega, by go_num, rfl, by go_num, HX, hbel⟩
            case measure => simp [intOf]; omega
        · have HX : Hid (t = k) := by have := HN.out; rw [scr_end E _ d _ hr (by omega) hf] at this; exact this.symm
          rw [hf] at hE
          clear HN hf hr hf7 hl7 h45 h62
          go_wp2_with (first | (go_at_call 15; (with_reducible first | refine (hE.out _).mono ?_ | refine (hE9.out _).mono ?_); rintro e w' ⟨rfl, hb⟩; have hbel := below_then hbel hb; clear hb) | (go_at_call 25; (with_reducible first | refine (hW4.out _).mono ?_ | refine (hW7.out _).mono ?_); rintro e w' ⟨rfl, hb⟩; have hbel := below_then hbel hb; clear hb) | (go_at_call 26; (with_reducible refine (hC7.out _).mono ?_); rintro e w' ⟨rfl, rfl⟩))
          go_ret
          exact ⟨by rw [HX.out]; rfl, hbel⟩
      · clear hW4 hW7 hC7 hl7 hb4 hf7
        cases hx : (((s[k]'hlt).toNat : Int) == 45)
        · rw [hx] at h45
          have hc : ((bs s).drop k).getD 0 0 ≠ 45 := fun h => by have := h45.1 h; simp at this
          by_cases hy : ((((s[k]'hlt).toNat : Int) == 62) = true) ∧ 2 ≤ d
          · have HX : Hid (k + 1 + scrL E 0 0 ((bs s).drop (k + 1)) = t) := nextTo E _ k 1 _ _ _ _ t HN.out (scr_shut E _ d _ hr (fun h => h.1 rfl) (by omega) hc ⟨h62.2 hy.1, hy.2⟩)
            obtain ⟨hy1, hy2⟩ := hy
            have hd2 : (2 : Int) ≤ (d : Int) := by omega
            clear HN hc h45 h62 hr hy2
            go_wp2_with (first | (go_at_call 15; (with_reducible first | refine (hE.out _).mono ?_ | refine (hE9.out _).mono ?_); rintro e w' ⟨rfl, hb⟩; have hbel := below_then hbel hb; clear hb) | (go_at_call 25; (with_reducible first | refine (hW4.out _).mono ?_ | refine (hW7.out _).mono ?_); rintro e w' ⟨rfl, hb⟩; have hbel := below_then hbel hb; clear hb) | (go_at_call 26; (with_reducible refine (hC7.out _).mono ?_); rintro e w' ⟨rfl, rfl⟩))
            go_roundw
            case rel => exact ⟨k + 1, 0, 0, by omega, by omega, by omega, by go_num, rfl, by go_num, HX, hbel⟩
            case measure => simp [intOf]; omega
          · have hg : ¬ (((bs s).drop k).getD 0 0 = 62 ∧ 2 ≤ d) := fun h => hy ⟨h62.1 h.1, h.2⟩
            have hy3 : ((((s[k]'hlt).toNat : Int) == 62) = false) ∨ (((((s[k]'hlt).toNat : Int) == 62) = true) ∧ ¬ (2 : Int) ≤ (d : Int)) := by
              cases hz : (((s[k]'hlt).toNat : Int) == 62)
              · exact .inl rfl
              · exact .inr ⟨rfl, fun h => hy ⟨hz, by omega⟩⟩
            clear hy
            cases h9 : follows ((bs s).drop k) [60, 47, 115, 99, 114, 105, 112, 116]
            · have HX : Hid (k + 1 + scrL E 2 0 ((bs s).drop (k + 1)) = t) := nextTo E _ k 1 _ _ _ _ t HN.out (scr_on2 E d _ hr hc hg h9)
              rw [h9] at hE9
              clear HN hc hg h45 h62 hr h9 hl9
              rcases hy3 with hy1 | ⟨hy1, hy2⟩
              all_goals
                go_wp2_with (first | (go_at_call 15; (with_reducible first | refine (hE.out _).mono ?_ | refine (hE9.out _).mono ?_); rintro e w' ⟨rfl, hb⟩; have hbel := below_then hbel hb; clear hb) | (go_at_call 25; (with_reducible first | refine (hW4.out _).mono ?_ | refine (hW7.out _).mono ?_); rintro e w' ⟨rfl, hb⟩; have hbel := below_then hbel hb; clear hb) | (go_at_call 26; (with_reducible refine (hC7.out _).mono ?_); rintro e w' ⟨rfl, rfl⟩))
                go_roundw
                case rel => exact ⟨k + 1, 2, 0, by omega, by omega, by omega, by go_num, rfl, by go_num, HX, hbel⟩
                case measure => simp [intOf]; omega
            · have HX : Hid (k + 9 + scrL E 1 0 ((bs s).drop (k + 9)) = t) := nextTo E _ k 9 _ _ _ _ t HN.out (scr_back E d _ hr hc hg h9)
              replace hl9 := hl9 h9
              rw [h9] at hE9
              clear HN hc hg h45 h62 hr h9
              rcases hy3 with hy1 | ⟨hy1, hy2⟩
              all_goals
                go_wp2_with (first | (go_at_call 15; (with_reducible first | refine (hE.out _).mono ?_ | refine (hE9.out _).mono ?_); rintro e w' ⟨rfl, hb⟩; have hbel := below_then hbel hb; clear hb) | (go_at_call 25; (with_reducible first | refine (hW4.out _).mono ?_ | refine (hW7.out _).mono ?_); rintro e w' ⟨rfl, hb⟩; have hbel := below_then hbel hb; clear hb) | (go_at_call 26; (with_reducible refine (hC7.out _).mono ?_); rintro e w' ⟨rfl, rfl⟩))
                go_roundw
                case rel => exact ⟨k + 9, 1, 0, by omega, by omega, by omega, by go_num, rfl, by go_num, HX, hbel⟩
                case measure => simp [intOf]; omega
        · have HX : Hid (k + 1 + scrL E 2 (d + 1) ((bs s).drop (k + 1)) = t) := nextTo E _ k 1 _ _ _ _ t HN.out (scr_dash E _ d _ hr (fun h => h.1 rfl) (by omega) (h45.2 hx))
          clear HN h45 h62 hr
          go_wp2_with (first | (go_at_call 15; (with_reducible first | refine (hE.out _).mono ?_ | refine (hE9.out _).mono ?_); rintro e w' ⟨rfl, hb⟩; have hbel := below_then hbel hb; clear hb) | (go_at_call 25; (with_reducible first | refine (hW4.out _).mono ?_ | refine (hW7.out _).mono ?_); rintro e w' ⟨rfl, hb⟩; have hbel := below_then hbel hb; clear hb) | (go_at_call 26; (with_reducible refine (hC7.out _).mono ?_); rintro e w' ⟨rfl, rfl⟩))
          go_roundw
          case rel => exact ⟨k + 1, 2, d + 1, by omega, by omega, by omega, by go_num, rfl, by go_num, HX, hbel⟩
          case measure => simp [intOf]; omega
    · have HX : Hid (t = k) := by
        have := HN.out
        rw [show (bs s).drop k = [] from List.drop_eq_nil_of_le (by rw [← size_bs]; omega), scrL_nil] at this
        exact this.symm
      clear HN HE0
      go_wp2
      go_ret
      exact ⟨by rw [HX.out]; rfl, hbel⟩
end Tym
