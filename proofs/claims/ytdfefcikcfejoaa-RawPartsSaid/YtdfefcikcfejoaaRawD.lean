/- The walk of raw.script (goto). Printed by wip/gen_script.py. -/
import Derived.Test.YtdfefcikcfejoaaRawC
import Derived.ScopeJumps
set_option linter.unusedSimpArgs false
set_option linter.unusedVariables false
open Go Go.RowKit Go.Proofs
namespace Tym
set_option maxRecDepth 1000000
attribute [local irreducible] scrL follows begins wordIn closedIn lower isSpace scr

theorem ext_all (s : ByteArray) : s.extract 0 s.size = s := bs_inj (by rw [bs_from, List.drop_zero])
theorem empty_at (s : ByteArray) (k : Nat) : (s.extract k s.size).toList.isEmpty = decide (s.size ≤ k) := by
  rw [Lib.toList_data, ← show bs (s.extract k s.size) = (s.extract k s.size).data.toList from rfl, bs_from, Bool.eq_iff_iff, List.isEmpty_iff, decide_eq_true_iff, List.drop_eq_nil_iff, size_bs]

def ScrJ (s e : ByteArray) (t : Nat) (w : World) (a' : Act) (w' : World) : Prop := ∃ (k st d : Nat) (u2 u3 u4 u8 u9 u10 u11 u12 u13 u14 u15 u16 u17 u18 u19 u20 u21 u22 u23 u24 u25 u26 u27 u28 u29 u30 u31 u32 u33 u34 u35 u36 u37 u38 u39 u40 u41 u42 u43 u44 u45 u46 u47 u48 u49 u50 u51 u52 u53 u54 u55 u56 u57 u58 u59 u60 u61 u62 u63 u64 u65 u66 u67 u68 u69 u70 u71 u72 : Value), k ≤ s.size ∧ st ≤ 2 ∧ d ≤ k + 2 ∧ a' = { tmps := #[.string s, .string e, u2, u3, u4, .int .i64 st, .int .i64 d, .int .i64 k, u8, u9, u10, u11, u12, u13, u14, u15, u16, u17, u18, u19, u20, u21, u22, u23, u24, u25, u26, u27, u28, u29, u30, u31, u32, u33, u34, u35, u36, u37, u38, u39, u40, u41, u42, u43, u44, u45, u46, u47, u48, u49, u50, u51, u52, u53, u54, u55, u56, u57, u58, u59, u60, u61, u62, u63, u64, u65, u66, u67, u68, u69, u70, u71, u72], defers := [] } ∧ Hid (k + scrL (bs e) st d ((bs s).drop k) = t) ∧ Below w.heap.size w w'

set_option maxHeartbeats 4000000 in
theorem script_any (s e : ByteArray) (w : World) (hs : s.size ≤ 1000000) : Calls Try.prog 12 #[.string s, .string e] w fun x w' => x = .returned (.int .i64 (scrL (bs e) 0 0 (bs s) : Nat)) ∧ Below w.heap.size w w' := by
  generalize hT : scrL (bs e) 0 0 (bs s) = t
  have HT : Hid (0 + scrL (bs e) 0 0 ((bs s).drop 0) = t) := by rw [List.drop_zero]; show _ = _; omega
  clear hT
  have hbel := Below.refl w.heap.size w
  go_enter Try.func12, Try.ntmps12
  go_wp2_with fail
  refine wp_scope_jumps 0 (ScrJ s e t w) (fun a' _ => s.size - (intOf (a'.tmps.getD 7 undef)).toNat) rfl ?_ ?_
  · go_wp2_with fail
    go_step3
    have HN := HT
    clear HT
    by_cases hlt : 0 < s.size
    ·   skip
        have hr : 0 < ((bs s).drop 0).length := by rw [List.length_drop, ← size_bs]; omega
        have hrl : ((bs s).drop 0).length = s.size - 0 := by rw [List.length_drop, ← size_bs]
        have hne : (s).toList.isEmpty = false := by rw [← ext_all s, empty_at]; exact decide_eq_false (by omega)
        have hE : Hid (∀ w, Calls Try.prog 19 #[.string (s), .string e] w fun x w' => x = .returned (.bool (follows ((bs s).drop 0) (bs e))) ∧ Below w.heap.size w w') := fun w => by
          have := follows_any (s) e w (by omega)
          exact this
        have hW4 : Hid (∀ w, Calls Try.prog 20 #[.string (s), .string ⟨#[60, 33, 45, 45]⟩] w fun x w' => x = .returned (.bool (begins ((bs s).drop 0) [60, 33, 45, 45])) ∧ w = w') := fun w => by have := prefix_from s 0 [60, 33, 45, 45] w; rwa [ext_all] at this
        have hb4 := begins_len ((bs s).drop 0) [60, 33, 45, 45]
        simp only [hrl, List.length_cons, List.length_nil] at hb4
        clear hrl
        cases hf : follows ((bs s).drop 0) (bs e)
        · cases hg : begins ((bs s).drop 0) [60, 33, 45, 45]
          · have HX : Hid (0 + 1 + scrL (bs e) 0 0 ((bs s).drop (0 + 1)) = t) := nextTo (bs e) _ 0 1 _ _ _ _ t HN.out (scr_out (bs e) 0 _ hr hf hg)
            rw [hf] at hE
            rw [hg] at hW4
            clear HN hf hg hb4 hr
            go_wp2_with (first | (go_at_call 19; (with_reducible first | refine (hE.out _).mono ?_ | refine (hE7.out _).mono ?_ | refine (hE9.out _).mono ?_); rintro x w' ⟨rfl, hb⟩; have hbel := below_then hbel hb; clear hb) | (go_at_call 20; (with_reducible refine (hW4.out _).mono ?_); rintro x w' ⟨rfl, rfl⟩))
            try go_step3
            first | exact ⟨rfl, (by unfold ScrJ; exact ⟨0 + 1, 0, 0, _, _, _, _, _, _, _, _, _, _, _, _, _, _, _, _, _, _, _, _, _, _, _, _, _, _, _, _, _, _, _, _, _, _, _, _, _, _, _, _, _, _, _, _, _, _, _, _, _, _, _, _, _, _, _, _, _, _, _, _, _, _, _, _, _, _, _, _, by omega, by omega, by omega, rfl, HX, hbel⟩)⟩ | (unfold ScrJ; exact ⟨0 + 1, 0, 0, _, _, _, _, _, _, _, _, _, _, _, _, _, _, _, _, _, _, _, _, _, _, _, _, _, _, _, _, _, _, _, _, _, _, _, _, _, _, _, _, _, _, _, _, _, _, _, _, _, _, _, _, _, _, _, _, _, _, _, _, _, _, _, _, _, _, _, _, by omega, by omega, by omega, rfl, HX, hbel⟩)
          · have HX : Hid (0 + 4 + scrL (bs e) 1 2 ((bs s).drop (0 + 4)) = t) := nextTo (bs e) _ 0 4 _ _ _ _ t HN.out (scr_open (bs e) 0 _ hr hf hg)
            replace hb4 := hb4 hg
            rw [hf] at hE
            rw [hg] at hW4
            clear HN hf hg hr
            go_wp2_with (first | (go_at_call 19; (with_reducible first | refine (hE.out _).mono ?_ | refine (hE7.out _).mono ?_ | refine (hE9.out _).mono ?_); rintro x w' ⟨rfl, hb⟩; have hbel := below_then hbel hb; clear hb) | (go_at_call 20; (with_reducible refine (hW4.out _).mono ?_); rintro x w' ⟨rfl, rfl⟩))
            try go_step3
            first | exact ⟨rfl, (by unfold ScrJ; exact ⟨0 + 4, 1, 2, _, _, _, _, _, _, _, _, _, _, _, _, _, _, _, _, _, _, _, _, _, _, _, _, _, _, _, _, _, _, _, _, _, _, _, _, _, _, _, _, _, _, _, _, _, _, _, _, _, _, _, _, _, _, _, _, _, _, _, _, _, _, _, _, _, _, _, _, by omega, by omega, by omega, rfl, HX, hbel⟩)⟩ | (unfold ScrJ; exact ⟨0 + 4, 1, 2, _, _, _, _, _, _, _, _, _, _, _, _, _, _, _, _, _, _, _, _, _, _, _, _, _, _, _, _, _, _, _, _, _, _, _, _, _, _, _, _, _, _, _, _, _, _, _, _, _, _, _, _, _, _, _, _, _, _, _, _, _, _, _, _, _, _, _, _, by omega, by omega, by omega, rfl, HX, hbel⟩)
        · have HX : Hid (t = 0) := by have := HN.out; rw [scr_end (bs e) _ 0 _ hr (by omega) hf] at this; exact this.symm
          rw [hf] at hE
          clear HN hf hb4 hr
          go_wp2_with (first | (go_at_call 19; (with_reducible first | refine (hE.out _).mono ?_ | refine (hE7.out _).mono ?_ | refine (hE9.out _).mono ?_); rintro x w' ⟨rfl, hb⟩; have hbel := below_then hbel hb; clear hb) | (go_at_call 20; (with_reducible refine (hW4.out _).mono ?_); rintro x w' ⟨rfl, rfl⟩))
          simp only [Exit.jump]
          go_ret
          exact ⟨by rw [HX.out]; rfl, hbel⟩
    · have HX : Hid (t = 0) := by
        have := HN.out
        rw [show (bs s).drop 0 = [] from List.drop_eq_nil_of_le (by rw [← size_bs]; omega), scrL_nil] at this
        exact this.symm
      have hne : s.toList.isEmpty = true := by rw [← ext_all s, empty_at]; exact decide_eq_true (by omega)
      clear HN
      go_wp2
      simp only [Exit.jump]
      go_ret
      exact ⟨by rw [HX.out]; rfl, hbel⟩
  · clear HT hbel
    intro a' w' hJ
    unfold ScrJ at hJ
    obtain ⟨k, st, d, u2, u3, u4, u8, u9, u10, u11, u12, u13, u14, u15, u16, u17, u18, u19, u20, u21, u22, u23, u24, u25, u26, u27, u28, u29, u30, u31, u32, u33, u34, u35, u36, u37, u38, u39, u40, u41, u42, u43, u44, u45, u46, u47, u48, u49, u50, u51, u52, u53, u54, u55, u56, u57, u58, u59, u60, u61, u62, u63, u64, u65, u66, u67, u68, u69, u70, u71, u72, hk, hst, hd, rfl, HN, hbel⟩ := hJ
    by_cases hlt : k < s.size
    ·   skip
        have hr : 0 < ((bs s).drop k).length := by rw [List.length_drop, ← size_bs]; omega
        have hrl : ((bs s).drop k).length = s.size - k := by rw [List.length_drop, ← size_bs]
        have hne : (s.extract k s.size).toList.isEmpty = false := by rw [empty_at]; exact decide_eq_false (by omega)
        have hE : Hid (∀ w, Calls Try.prog 19 #[.string (s.extract k s.size), .string e] w fun x w' => x = .returned (.bool (follows ((bs s).drop k) (bs e))) ∧ Below w.heap.size w w') := fun w => by
          have := follows_any (s.extract k s.size) e w (by rw [ByteArray.size_extract]; omega)
          rwa [bs_from] at this
        have hW4 : Hid (∀ w, Calls Try.prog 20 #[.string (s.extract k s.size), .string ⟨#[60, 33, 45, 45]⟩] w fun x w' => x = .returned (.bool (begins ((bs s).drop k) [60, 33, 45, 45])) ∧ w = w') := fun w => prefix_from s k [60, 33, 45, 45] w
        have hb4 := begins_len ((bs s).drop k) [60, 33, 45, 45]
        have hE7 : Hid (∀ w, Calls Try.prog 19 #[.string (s.extract k s.size), .string ⟨#[60, 115, 99, 114, 105, 112, 116]⟩] w fun x w' => x = .returned (.bool (follows ((bs s).drop k) [60, 115, 99, 114, 105, 112, 116])) ∧ Below w.heap.size w w') := fun w => by
          have := follows_any (s.extract k s.size) ⟨#[60, 115, 99, 114, 105, 112, 116]⟩ w (by rw [ByteArray.size_extract]; omega)
          rwa [bs_from] at this
        have hE9 : Hid (∀ w, Calls Try.prog 19 #[.string (s.extract k s.size), .string ⟨#[60, 47, 115, 99, 114, 105, 112, 116]⟩] w fun x w' => x = .returned (.bool (follows ((bs s).drop k) [60, 47, 115, 99, 114, 105, 112, 116])) ∧ Below w.heap.size w w') := fun w => by
          have := follows_any (s.extract k s.size) ⟨#[60, 47, 115, 99, 114, 105, 112, 116]⟩ w (by rw [ByteArray.size_extract]; omega)
          rwa [bs_from] at this
        have hl7 := follows_len ((bs s).drop k) [60, 115, 99, 114, 105, 112, 116]
        have hl9 := follows_len ((bs s).drop k) [60, 47, 115, 99, 114, 105, 112, 116]
        rw [hrl] at hb4 hl7 hl9
        simp only [List.length_cons, List.length_nil] at hb4 hl7 hl9
        have h0 : 0 < s.size - k := by omega
        have hq0 : 0 < (s.extract k s.size).size := by rw [ByteArray.size_extract]; omega
        obtain ⟨c, hcc⟩ : ∃ c, (s.extract k s.size)[0]'hq0 = c := ⟨_, rfl⟩
        have hg0 : ((bs s).drop k).getD 0 0 = c := by rw [← bs_from, ← get_bs _ 0 hq0]; exact hcc
        have h45 : ((bs s).drop k).getD 0 0 = 45 ↔ ((c.toNat : Int) == 45) = true := by rw [hg0]; exact byte45 _
        have h62 : ((bs s).drop k).getD 0 0 = 62 ↔ ((c.toNat : Int) == 62) = true := by rw [hg0]; exact byte62 _
        clear hg0 hrl
        rcases (by omega : st = 0 ∨ st = 1 ∨ st = 2) with rfl | rfl | rfl
        · clear hE7 hE9 hl7 hl9 h45 h62
          cases hf : follows ((bs s).drop k) (bs e)
          · cases hg : begins ((bs s).drop k) [60, 33, 45, 45]
            · have HX : Hid (k + 1 + scrL (bs e) 0 d ((bs s).drop (k + 1)) = t) := nextTo (bs e) _ k 1 _ _ _ _ t HN.out (scr_out (bs e) d _ hr hf hg)
              rw [hf] at hE
              rw [hg] at hW4
              clear HN hf hg hb4 hr
              go_wp2_with (first | (go_at_call 19; (with_reducible first | refine (hE.out _).mono ?_ | refine (hE7.out _).mono ?_ | refine (hE9.out _).mono ?_); rintro x w' ⟨rfl, hb⟩; have hbel := below_then hbel hb; clear hb) | (go_at_call 20; (with_reducible refine (hW4.out _).mono ?_); rintro x w' ⟨rfl, rfl⟩))
              try go_step3
              first | refine ⟨rfl, (by unfold ScrJ; exact ⟨k + 1, 0, d, _, _, _, _, _, _, _, _, _, _, _, _, _, _, _, _, _, _, _, _, _, _, _, _, _, _, _, _, _, _, _, _, _, _, _, _, _, _, _, _, _, _, _, _, _, _, _, _, _, _, _, _, _, _, _, _, _, _, _, _, _, _, _, _, _, _, _, _, by omega, by omega, by omega, rfl, HX, hbel⟩), ?_⟩ | refine ⟨(by unfold ScrJ; exact ⟨k + 1, 0, d, _, _, _, _, _, _, _, _, _, _, _, _, _, _, _, _, _, _, _, _, _, _, _, _, _, _, _, _, _, _, _, _, _, _, _, _, _, _, _, _, _, _, _, _, _, _, _, _, _, _, _, _, _, _, _, _, _, _, _, _, _, _, _, _, _, _, _, _, by omega, by omega, by omega, rfl, HX, hbel⟩), ?_⟩
              simp [intOf]; omega
            · have HX : Hid (k + 4 + scrL (bs e) 1 2 ((bs s).drop (k + 4)) = t) := nextTo (bs e) _ k 4 _ _ _ _ t HN.out (scr_open (bs e) d _ hr hf hg)
              replace hb4 := hb4 hg
              rw [hf] at hE
              rw [hg] at hW4
              clear HN hf hg hr
              go_wp2_with (first | (go_at_call 19; (with_reducible first | refine (hE.out _).mono ?_ | refine (hE7.out _).mono ?_ | refine (hE9.out _).mono ?_); rintro x w' ⟨rfl, hb⟩; have hbel := below_then hbel hb; clear hb) | (go_at_call 20; (with_reducible refine (hW4.out _).mono ?_); rintro x w' ⟨rfl, rfl⟩))
              try go_step3
              first | refine ⟨rfl, (by unfold ScrJ; exact ⟨k + 4, 1, 2, _, _, _, _, _, _, _, _, _, _, _, _, _, _, _, _, _, _, _, _, _, _, _, _, _, _, _, _, _, _, _, _, _, _, _, _, _, _, _, _, _, _, _, _, _, _, _, _, _, _, _, _, _, _, _, _, _, _, _, _, _, _, _, _, _, _, _, _, by omega, by omega, by omega, rfl, HX, hbel⟩), ?_⟩ | refine ⟨(by unfold ScrJ; exact ⟨k + 4, 1, 2, _, _, _, _, _, _, _, _, _, _, _, _, _, _, _, _, _, _, _, _, _, _, _, _, _, _, _, _, _, _, _, _, _, _, _, _, _, _, _, _, _, _, _, _, _, _, _, _, _, _, _, _, _, _, _, _, _, _, _, _, _, _, _, _, _, _, _, _, by omega, by omega, by omega, rfl, HX, hbel⟩), ?_⟩
              simp [intOf]; omega
          · have HX : Hid (t = k) := by have := HN.out; rw [scr_end (bs e) _ d _ hr (by omega) hf] at this; exact this.symm
            rw [hf] at hE
            clear HN hf hb4 hr
            go_wp2_with (first | (go_at_call 19; (with_reducible first | refine (hE.out _).mono ?_ | refine (hE7.out _).mono ?_ | refine (hE9.out _).mono ?_); rintro x w' ⟨rfl, hb⟩; have hbel := below_then hbel hb; clear hb) | (go_at_call 20; (with_reducible refine (hW4.out _).mono ?_); rintro x w' ⟨rfl, rfl⟩))
            simp only [Exit.jump]
            go_ret
            exact ⟨by rw [HX.out]; rfl, hbel⟩
        · clear hW4 hE9 hl9 hb4
          cases hf : follows ((bs s).drop k) (bs e)
          · rw [hf] at hE
            cases hx : ((c.toNat : Int) == 45)
            · rw [hx] at h45
              have hc : ((bs s).drop k).getD 0 0 ≠ 45 := fun h => by have := h45.1 h; simp at this
              by_cases hy : (((c.toNat : Int) == 62) = true) ∧ 2 ≤ d
              · have HX : Hid (k + 1 + scrL (bs e) 0 0 ((bs s).drop (k + 1)) = t) := nextTo (bs e) _ k 1 _ _ _ _ t HN.out (scr_shut (bs e) _ d _ hr (by rw [hf]; simp) (by omega) hc ⟨h62.2 hy.1, hy.2⟩)
                obtain ⟨hy1, hy2⟩ := hy
                have hd2 : (2 : Int) ≤ (d : Int) := by omega
                clear HN hc h45 h62 hr hy2 hf
                go_wp2_with (first | (go_at_call 19; (with_reducible first | refine (hE.out _).mono ?_ | refine (hE7.out _).mono ?_ | refine (hE9.out _).mono ?_); rintro x w' ⟨rfl, hb⟩; have hbel := below_then hbel hb; clear hb) | (go_at_call 20; (with_reducible refine (hW4.out _).mono ?_); rintro x w' ⟨rfl, rfl⟩))
                try go_step3
                first | refine ⟨rfl, (by unfold ScrJ; exact ⟨k + 1, 0, 0, _, _, _, _, _, _, _, _, _, _, _, _, _, _, _, _, _, _, _, _, _, _, _, _, _, _, _, _, _, _, _, _, _, _, _, _, _, _, _, _, _, _, _, _, _, _, _, _, _, _, _, _, _, _, _, _, _, _, _, _, _, _, _, _, _, _, _, _, by omega, by omega, by omega, rfl, HX, hbel⟩), ?_⟩ | refine ⟨(by unfold ScrJ; exact ⟨k + 1, 0, 0, _, _, _, _, _, _, _, _, _, _, _, _, _, _, _, _, _, _, _, _, _, _, _, _, _, _, _, _, _, _, _, _, _, _, _, _, _, _, _, _, _, _, _, _, _, _, _, _, _, _, _, _, _, _, _, _, _, _, _, _, _, _, _, _, _, _, _, _, by omega, by omega, by omega, rfl, HX, hbel⟩), ?_⟩
                simp [intOf]; omega
              · have hg : ¬ (((bs s).drop k).getD 0 0 = 62 ∧ 2 ≤ d) := fun h => hy ⟨h62.1 h.1, h.2⟩
                have hy3 : (((c.toNat : Int) == 62) = false) ∨ ((((c.toNat : Int) == 62) = true) ∧ ¬ (2 : Int) ≤ (d : Int)) := by
                  cases hz : ((c.toNat : Int) == 62)
                  · exact .inl rfl
                  · exact .inr ⟨rfl, fun h => hy ⟨hz, by omega⟩⟩
                clear hy
                cases h7 : follows ((bs s).drop k) [60, 115, 99, 114, 105, 112, 116]
                · have HX : Hid (k + 1 + scrL (bs e) 1 0 ((bs s).drop (k + 1)) = t) := nextTo (bs e) _ k 1 _ _ _ _ t HN.out (scr_on1 (bs e) d _ hr hf hc hg h7)
                  rw [h7] at hE7
                  clear HN hc hg h45 h62 hr hf h7 hl7
                  rcases hy3 with hy1 | ⟨hy1, hy2⟩
                  all_goals
                    go_wp2_with (first | (go_at_call 19; (with_reducible first | refine (hE.out _).mono ?_ | refine (hE7.out _).mono ?_ | refine (hE9.out _).mono ?_); rintro x w' ⟨rfl, hb⟩; have hbel := below_then hbel hb; clear hb) | (go_at_call 20; (with_reducible refine (hW4.out _).mono ?_); rintro x w' ⟨rfl, rfl⟩))
                    try go_step3
                    first | refine ⟨rfl, (by unfold ScrJ; exact ⟨k + 1, 1, 0, _, _, _, _, _, _, _, _, _, _, _, _, _, _, _, _, _, _, _, _, _, _, _, _, _, _, _, _, _, _, _, _, _, _, _, _, _, _, _, _, _, _, _, _, _, _, _, _, _, _, _, _, _, _, _, _, _, _, _, _, _, _, _, _, _, _, _, _, by omega, by omega, by omega, rfl, HX, hbel⟩), ?_⟩ | refine ⟨(by unfold ScrJ; exact ⟨k + 1, 1, 0, _, _, _, _, _, _, _, _, _, _, _, _, _, _, _, _, _, _, _, _, _, _, _, _, _, _, _, _, _, _, _, _, _, _, _, _, _, _, _, _, _, _, _, _, _, _, _, _, _, _, _, _, _, _, _, _, _, _, _, _, _, _, _, _, _, _, _, _, by omega, by omega, by omega, rfl, HX, hbel⟩), ?_⟩
                    simp [intOf]; omega
                · have HX : Hid (k + 8 + scrL (bs e) 2 0 ((bs s).drop (k + 8)) = t) := nextTo (bs e) _ k 8 _ _ _ _ t HN.out (scr_deep (bs e) d _ hr hf hc hg h7)
                  replace hl7 := hl7 h7
                  rw [h7] at hE7
                  clear HN hc hg h45 h62 hr hf h7
                  rcases hy3 with hy1 | ⟨hy1, hy2⟩
                  all_goals
                    go_wp2_with (first | (go_at_call 19; (with_reducible first | refine (hE.out _).mono ?_ | refine (hE7.out _).mono ?_ | refine (hE9.out _).mono ?_); rintro x w' ⟨rfl, hb⟩; have hbel := below_then hbel hb; clear hb) | (go_at_call 20; (with_reducible refine (hW4.out _).mono ?_); rintro x w' ⟨rfl, rfl⟩))
                    try go_step3
                    first | refine ⟨rfl, (by unfold ScrJ; exact ⟨k + 8, 2, 0, _, _, _, _, _, _, _, _, _, _, _, _, _, _, _, _, _, _, _, _, _, _, _, _, _, _, _, _, _, _, _, _, _, _, _, _, _, _, _, _, _, _, _, _, _, _, _, _, _, _, _, _, _, _, _, _, _, _, _, _, _, _, _, _, _, _, _, _, by omega, by omega, by omega, rfl, HX, hbel⟩), ?_⟩ | refine ⟨(by unfold ScrJ; exact ⟨k + 8, 2, 0, _, _, _, _, _, _, _, _, _, _, _, _, _, _, _, _, _, _, _, _, _, _, _, _, _, _, _, _, _, _, _, _, _, _, _, _, _, _, _, _, _, _, _, _, _, _, _, _, _, _, _, _, _, _, _, _, _, _, _, _, _, _, _, _, _, _, _, _, by omega, by omega, by omega, rfl, HX, hbel⟩), ?_⟩
                    simp [intOf]; omega
            · have HX : Hid (k + 1 + scrL (bs e) 1 (d + 1) ((bs s).drop (k + 1)) = t) := nextTo (bs e) _ k 1 _ _ _ _ t HN.out (scr_dash (bs e) _ d _ hr (by rw [hf]; simp) (by omega) (h45.2 hx))
              clear HN h45 h62 hr hf
              go_wp2_with (first | (go_at_call 19; (with_reducible first | refine (hE.out _).mono ?_ | refine (hE7.out _).mono ?_ | refine (hE9.out _).mono ?_); rintro x w' ⟨rfl, hb⟩; have hbel := below_then hbel hb; clear hb) | (go_at_call 20; (with_reducible refine (hW4.out _).mono ?_); rintro x w' ⟨rfl, rfl⟩))
              try go_step3
              first | refine ⟨rfl, (by unfold ScrJ; exact ⟨k + 1, 1, d + 1, _, _, _, _, _, _, _, _, _, _, _, _, _, _, _, _, _, _, _, _, _, _, _, _, _, _, _, _, _, _, _, _, _, _, _, _, _, _, _, _, _, _, _, _, _, _, _, _, _, _, _, _, _, _, _, _, _, _, _, _, _, _, _, _, _, _, _, _, by omega, by omega, by omega, rfl, HX, hbel⟩), ?_⟩ | refine ⟨(by unfold ScrJ; exact ⟨k + 1, 1, d + 1, _, _, _, _, _, _, _, _, _, _, _, _, _, _, _, _, _, _, _, _, _, _, _, _, _, _, _, _, _, _, _, _, _, _, _, _, _, _, _, _, _, _, _, _, _, _, _, _, _, _, _, _, _, _, _, _, _, _, _, _, _, _, _, _, _, _, _, _, by omega, by omega, by omega, rfl, HX, hbel⟩), ?_⟩
              simp [intOf]; omega
          · have HX : Hid (t = k) := by have := HN.out; rw [scr_end (bs e) _ d _ hr (by omega) hf] at this; exact this.symm
            rw [hf] at hE
            clear HN hf hr hl7 h45 h62
            go_wp2_with (first | (go_at_call 19; (with_reducible first | refine (hE.out _).mono ?_ | refine (hE7.out _).mono ?_ | refine (hE9.out _).mono ?_); rintro x w' ⟨rfl, hb⟩; have hbel := below_then hbel hb; clear hb) | (go_at_call 20; (with_reducible refine (hW4.out _).mono ?_); rintro x w' ⟨rfl, rfl⟩))
            simp only [Exit.jump]
            go_ret
            exact ⟨by rw [HX.out]; rfl, hbel⟩
        · clear hW4 hE7 hl7 hb4
          cases hx : ((c.toNat : Int) == 45)
          · rw [hx] at h45
            have hc : ((bs s).drop k).getD 0 0 ≠ 45 := fun h => by have := h45.1 h; simp at this
            by_cases hy : (((c.toNat : Int) == 62) = true) ∧ 2 ≤ d
            · have HX : Hid (k + 1 + scrL (bs e) 0 0 ((bs s).drop (k + 1)) = t) := nextTo (bs e) _ k 1 _ _ _ _ t HN.out (scr_shut (bs e) _ d _ hr (fun h => h.1 rfl) (by omega) hc ⟨h62.2 hy.1, hy.2⟩)
              obtain ⟨hy1, hy2⟩ := hy
              have hd2 : (2 : Int) ≤ (d : Int) := by omega
              clear HN hc h45 h62 hr hy2
              go_wp2_with (first | (go_at_call 19; (with_reducible first | refine (hE.out _).mono ?_ | refine (hE7.out _).mono ?_ | refine (hE9.out _).mono ?_); rintro x w' ⟨rfl, hb⟩; have hbel := below_then hbel hb; clear hb) | (go_at_call 20; (with_reducible refine (hW4.out _).mono ?_); rintro x w' ⟨rfl, rfl⟩))
              try go_step3
              first | refine ⟨rfl, (by unfold ScrJ; exact ⟨k + 1, 0, 0, _, _, _, _, _, _, _, _, _, _, _, _, _, _, _, _, _, _, _, _, _, _, _, _, _, _, _, _, _, _, _, _, _, _, _, _, _, _, _, _, _, _, _, _, _, _, _, _, _, _, _, _, _, _, _, _, _, _, _, _, _, _, _, _, _, _, _, _, by omega, by omega, by omega, rfl, HX, hbel⟩), ?_⟩ | refine ⟨(by unfold ScrJ; exact ⟨k + 1, 0, 0, _, _, _, _, _, _, _, _, _, _, _, _, _, _, _, _, _, _, _, _, _, _, _, _, _, _, _, _, _, _, _, _, _, _, _, _, _, _, _, _, _, _, _, _, _, _, _, _, _, _, _, _, _, _, _, _, _, _, _, _, _, _, _, _, _, _, _, _, by omega, by omega, by omega, rfl, HX, hbel⟩), ?_⟩
              simp [intOf]; omega
            · have hg : ¬ (((bs s).drop k).getD 0 0 = 62 ∧ 2 ≤ d) := fun h => hy ⟨h62.1 h.1, h.2⟩
              have hy3 : (((c.toNat : Int) == 62) = false) ∨ ((((c.toNat : Int) == 62) = true) ∧ ¬ (2 : Int) ≤ (d : Int)) := by
                cases hz : ((c.toNat : Int) == 62)
                · exact .inl rfl
                · exact .inr ⟨rfl, fun h => hy ⟨hz, by omega⟩⟩
              clear hy
              cases h7 : follows ((bs s).drop k) [60, 47, 115, 99, 114, 105, 112, 116]
              · have HX : Hid (k + 1 + scrL (bs e) 2 0 ((bs s).drop (k + 1)) = t) := nextTo (bs e) _ k 1 _ _ _ _ t HN.out (scr_on2 (bs e) d _ hr hc hg h7)
                rw [h7] at hE9
                clear HN hc hg h45 h62 hr h7 hl9
                rcases hy3 with hy1 | ⟨hy1, hy2⟩
                all_goals
                  go_wp2_with (first | (go_at_call 19; (with_reducible first | refine (hE.out _).mono ?_ | refine (hE7.out _).mono ?_ | refine (hE9.out _).mono ?_); rintro x w' ⟨rfl, hb⟩; have hbel := below_then hbel hb; clear hb) | (go_at_call 20; (with_reducible refine (hW4.out _).mono ?_); rintro x w' ⟨rfl, rfl⟩))
                  try go_step3
                  first | refine ⟨rfl, (by unfold ScrJ; exact ⟨k + 1, 2, 0, _, _, _, _, _, _, _, _, _, _, _, _, _, _, _, _, _, _, _, _, _, _, _, _, _, _, _, _, _, _, _, _, _, _, _, _, _, _, _, _, _, _, _, _, _, _, _, _, _, _, _, _, _, _, _, _, _, _, _, _, _, _, _, _, _, _, _, _, by omega, by omega, by omega, rfl, HX, hbel⟩), ?_⟩ | refine ⟨(by unfold ScrJ; exact ⟨k + 1, 2, 0, _, _, _, _, _, _, _, _, _, _, _, _, _, _, _, _, _, _, _, _, _, _, _, _, _, _, _, _, _, _, _, _, _, _, _, _, _, _, _, _, _, _, _, _, _, _, _, _, _, _, _, _, _, _, _, _, _, _, _, _, _, _, _, _, _, _, _, _, by omega, by omega, by omega, rfl, HX, hbel⟩), ?_⟩
                  simp [intOf]; omega
              · have HX : Hid (k + 9 + scrL (bs e) 1 0 ((bs s).drop (k + 9)) = t) := nextTo (bs e) _ k 9 _ _ _ _ t HN.out (scr_back (bs e) d _ hr hc hg h7)
                replace hl9 := hl9 h7
                rw [h7] at hE9
                clear HN hc hg h45 h62 hr h7
                rcases hy3 with hy1 | ⟨hy1, hy2⟩
                all_goals
                  go_wp2_with (first | (go_at_call 19; (with_reducible first | refine (hE.out _).mono ?_ | refine (hE7.out _).mono ?_ | refine (hE9.out _).mono ?_); rintro x w' ⟨rfl, hb⟩; have hbel := below_then hbel hb; clear hb) | (go_at_call 20; (with_reducible refine (hW4.out _).mono ?_); rintro x w' ⟨rfl, rfl⟩))
                  try go_step3
                  first | refine ⟨rfl, (by unfold ScrJ; exact ⟨k + 9, 1, 0, _, _, _, _, _, _, _, _, _, _, _, _, _, _, _, _, _, _, _, _, _, _, _, _, _, _, _, _, _, _, _, _, _, _, _, _, _, _, _, _, _, _, _, _, _, _, _, _, _, _, _, _, _, _, _, _, _, _, _, _, _, _, _, _, _, _, _, _, by omega, by omega, by omega, rfl, HX, hbel⟩), ?_⟩ | refine ⟨(by unfold ScrJ; exact ⟨k + 9, 1, 0, _, _, _, _, _, _, _, _, _, _, _, _, _, _, _, _, _, _, _, _, _, _, _, _, _, _, _, _, _, _, _, _, _, _, _, _, _, _, _, _, _, _, _, _, _, _, _, _, _, _, _, _, _, _, _, _, _, _, _, _, _, _, _, _, _, _, _, _, by omega, by omega, by omega, rfl, HX, hbel⟩), ?_⟩
                  simp [intOf]; omega
          · have HX : Hid (k + 1 + scrL (bs e) 2 (d + 1) ((bs s).drop (k + 1)) = t) := nextTo (bs e) _ k 1 _ _ _ _ t HN.out (scr_dash (bs e) _ d _ hr (fun h => h.1 rfl) (by omega) (h45.2 hx))
            clear HN h45 h62 hr
            go_wp2_with (first | (go_at_call 19; (with_reducible first | refine (hE.out _).mono ?_ | refine (hE7.out _).mono ?_ | refine (hE9.out _).mono ?_); rintro x w' ⟨rfl, hb⟩; have hbel := below_then hbel hb; clear hb) | (go_at_call 20; (with_reducible refine (hW4.out _).mono ?_); rintro x w' ⟨rfl, rfl⟩))
            try go_step3
            first | refine ⟨rfl, (by unfold ScrJ; exact ⟨k + 1, 2, d + 1, _, _, _, _, _, _, _, _, _, _, _, _, _, _, _, _, _, _, _, _, _, _, _, _, _, _, _, _, _, _, _, _, _, _, _, _, _, _, _, _, _, _, _, _, _, _, _, _, _, _, _, _, _, _, _, _, _, _, _, _, _, _, _, _, _, _, _, _, by omega, by omega, by omega, rfl, HX, hbel⟩), ?_⟩ | refine ⟨(by unfold ScrJ; exact ⟨k + 1, 2, d + 1, _, _, _, _, _, _, _, _, _, _, _, _, _, _, _, _, _, _, _, _, _, _, _, _, _, _, _, _, _, _, _, _, _, _, _, _, _, _, _, _, _, _, _, _, _, _, _, _, _, _, _, _, _, _, _, _, _, _, _, _, _, _, _, _, _, _, _, _, by omega, by omega, by omega, rfl, HX, hbel⟩), ?_⟩
            simp [intOf]; omega
    · have HX : Hid (t = k) := by
        have := HN.out
        rw [show (bs s).drop k = [] from List.drop_eq_nil_of_le (by rw [← size_bs]; omega), scrL_nil] at this
        exact this.symm
      have hne : (s.extract k s.size).toList.isEmpty = true := by rw [empty_at]; exact decide_eq_true (by omega)
      clear HN
      go_wp2
      simp only [Exit.jump]
      go_ret
      exact ⟨by rw [HX.out]; rfl, hbel⟩
end Tym
