/- The walk of the reference's Read: an end tag. Printed by wip/gen_readr.py. -/
import Derived.Test.YtpgdkhdnnegmaaaGreatTagN
set_option linter.unusedSimpArgs false
set_option linter.unusedVariables false
open Go Go.RowKit Go.Proofs
namespace Tym
set_option maxRecDepth 20000
attribute [local irreducible] tagL attrOf ReadPost valueOf

set_option maxHeartbeats 4000000 in
theorem readR_walk3 (s : ByteArray) (k : Nat) (w : World) (hs : s.size ≤ 1000000) (hk : k + 1 < s.size) (kd : Int) (k0 : Nat) (hh : kd = 3 ∧ k0 = k + 2 ∧ s[k + 1]'hk = 47)
    (HBg : Hid (∀ w, Calls Tryz.prog 23 #[.string s, .int .i64 k] w fun e w' => e = .returned (.bool true) ∧ Below w.heap.size w w'))
    (nm : ByteArray) (k1 : Nat) (hk1 : k1 = skip namedB s k0) (hnm : nm = mk (lower (bs (s.extract k0 k1)))) (res : Option (List Att × Bool × Bs)) (hres : tagL [] ((bs s).drop k1) = res) :
    Calls Tryz.prog 24 #[.string s, .int .i64 k] w fun e w' => ReadPost s kd nm w res e w' := by
  have hk1s := skip_le namedB s k0 (by omega)
  rw [← hk1] at hk1s
  have h47 : (((s[k + 1]'hk).toNat : Int) == 47) = true := by
    obtain ⟨rfl, rfl, h⟩ := hh
    rw [h]; rfl
  have H1 : Hid (∀ w, Calls Tryz.prog 54 #[.string s, .int .i64 k0, .bool false] w fun e w' => e = .returned (.int .i64 k1) ∧ w = w') := fun w => by rw [hk1]; exact wordR_any s k0 false w hs (by omega)
  have H2 : Hid (∀ w, Calls Tryz.prog 55 #[.string (s.extract k0 k1)] w fun e w' => e = .returned (.string nm) ∧ Below w.heap.size w w') := fun w => by rw [hnm]; exact lowerR_any _ w (by rw [ByteArray.size_extract]; omega)
  have hkz : (k : Int) + 1 < (s.size : Int) := by omega
  have hkz0 : 0 ≤ (k : Int) + 1 := by omega
  have hks : k1 ≤ s.size := hk1s.2
  have hk01 : k0 ≤ k1 := hk1s.1
  have HR := Lib.hid hres
  clear hk1 hnm hres hk1s
  obtain ⟨rfl, rfl, h⟩ := hh
  clear h
  go_enter Tryz.func24, Tryz.ntmps24
  go_wp2_with fail
  refine (HBg.out _).mono ?_; rintro e w1 ⟨rfl, hB1⟩
  have h0 := below_block hB1 (heap_alloc_new _ _)
  have hb1 := below_alloc_then hB1
  have hl0 := lt_of_block h0
  clear hB1
  go_wp2_with fail
  refine (H1.out _).mono ?_; rintro e w3 ⟨rfl, rfl⟩
  go_wp2_with fail
  refine (H2.out _).mono ?_; rintro e w4 ⟨rfl, hB4⟩
  have ht4 := below_block hB4 (heap_alloc_new _ _)
  have h04 := below_block hB4 ((Below.heap_alloc _ _ _ hl0).trans h0)
  have hbl4 := hb1.trans ((below_alloc_then hB4).mono hb1.size)
  obtain ⟨⟨z0, z1, z2, z3, z4⟩, f0, f1, f2, f3, f4⟩ := five ht4
  clear hB4 h0
  go_wp2_with fail
  clear z0 z1 z2 z3 z4 f0 f1 f2 f3 f4
  go_loopw [10, 11] (fun v10 v11 wr => RrLoop s 3 nm w w1.heap.size res v10 v11 wr) (fun v10 _ _ => s.size - (intOf v10).toNat)
  case atStart =>
    exact ⟨[], k1, rfl, hks, Nat.zero_le _, row_set ht4 1 _, block_other h04 (by show w.heap.size ≠ w1.heap.size; omega) _, World.ownsRow_nil _ _ _ _, HR.out, hbl4.setCell (p := ⟨w1.heap.size, 1, none⟩) (by show w.heap.size ≤ w1.heap.size; omega) _⟩
  case round =>
    clear ht4 h04 hbl4 hb1
    obtain ⟨l, k2, rfl, hk2, hlk, ht, h0, hown, HT, hbl⟩ := hrel
    have HT := Lib.hid HT
    have hs3 := skip_le isSpace s k2 hk2
    have hd3 := skip_drop isSpace s k2
    have HS : Hid (∀ w, Calls Tryz.prog 56 #[.string s, .int .i64 k2] w fun e w' => e = .returned (.int .i64 (skip isSpace s k2)) ∧ w = w') := fun w => blanksR_any s k2 w hs hk2
    have hobn : ∀ g, u11.ownBlock = some g → w1.heap.size + 1 ≤ g := fun g hg => (hown.lt g hg).1
    cases hr : ((bs s).drop k2).dropWhile isSpace with
    | nil =>
      rw [hr] at hd3
      have he := (drop_nil_iff s _ hs3.2).1 hd3
      have HX : Hid (res = none) := HT.out.symm.trans (tagL_none l _ hr)
      rw [he] at HS
      clear hr hd3 HT ht hown he
      obtain ⟨⟨z0, z1, z2, z3, z4⟩, f0, f1, f2, f3, f4⟩ := five h0
      go_wp2_with fail
      refine (HS.out _).mono ?_; rintro e w5 ⟨rfl, rfl⟩
      go_wp2_with fail
      exact ret_cell_tmp2 rfl rfl rfl (set5_row h0) Tryz.underlying29 rfl (by kernel_rfl) (by unfold ReadPost; rw [HX.out]; exact ⟨set5_below hbl (Nat.le_refl _) _ _ _ _ _, rfl⟩)
    | cons c t =>
      rw [hr] at hd3
      obtain ⟨hlt3, hc3, ht3⟩ := drop_cons_get s _ c t hd3
      have HTC := Lib.hid (tagL_cons l _ c t hr)
      have HRr := Lib.hid hr
      have g62 : (((s[skip isSpace s k2]'hlt3).toNat : Int) == 62) = decide (c = 62) := by rw [hc3]; exact byte_all (p := fun c => ((c.toNat : Int) == 62) = decide (c = 62)) (by decide +kernel) c
      have g47 : (((s[skip isSpace s k2]'hlt3).toNat : Int) == 47) = decide (c = 47) := by rw [hc3]; exact byte_all (p := fun c => ((c.toNat : Int) == 47) = decide (c = 47)) (by decide +kernel) c
      clear hr hc3
      have HD3 := Lib.hid hd3
      have HT3 := Lib.hid ht3
      clear hd3 ht3
      generalize skip isSpace s k2 = k3 at *
      have hne3 : ((k3 : Int) == (s.size : Int)) = false := by rw [Bool.eq_false_iff, Ne, beq_iff_eq]; omega
      by_cases h62 : c = 62
      · rw [decide_eq_true h62] at g62
        have HX : Hid (res = some (l, false, t)) := HT.out.symm.trans (by rw [HTC.out, if_pos h62])
        have hA := AttsAt.own hown
        obtain ⟨vp, vn, vc, rfl⟩ := hA.shape
        clear HTC h62 hown
        obtain ⟨⟨z0, z1, z2, z3, z4⟩, f0, f1, f2, f3, f4⟩ := five ht
        obtain ⟨⟨y0, y1, y2, y3, y4⟩, e0, e1, e2, e3, e4⟩ := five h0
        have hnc : ¬ (w.heap.size = w1.heap.size) := by omega
        go_wp2_with fail
        refine (HS.out _).mono ?_; rintro e w5 ⟨rfl, rfl⟩
        go_wp2_with fail
        exact ret_cell_tmp2 rfl rfl rfl (set5_row h0) Tryz.underlying29 rfl (by kernel_rfl)
          (by
            unfold ReadPost
            rw [HX.out]
            refine ⟨set5_below hbl (Nat.le_refl _) _ _ _ _ _, .inl ⟨rfl, ?_⟩⟩
            rw [read_pos s k3 t hlt3 HT3.out]
            rfl)
      · rw [decide_eq_false h62] at g62
        by_cases h47c : c = 47
        · rw [decide_eq_true h47c] at g47
          have hk3 : (k3 : Int) + 1 ≤ (s.size : Int) := by omega
          have hk30 : 0 ≤ (k3 : Int) + 1 := by omega
          by_cases hh : t.head? = some 62
          · have HT4 : Hid (∃ h : k3 + 1 < s.size, s[k3 + 1]'h = 62 ∧ (bs s).drop (k3 + 1 + 1) = t.tail) := by
              cases t with
              | nil => cases hh
              | cons d t =>
                obtain ⟨h1, h3, h2⟩ := drop_cons_get s (k3 + 1) d t HT3.out
                exact ⟨h1, by rw [h3]; simpa using hh, h2⟩
            obtain ⟨hlt4, hc4, ht4⟩ := HT4.out
            have hk4 : (k3 : Int) + 1 < (s.size : Int) := by omega
            have g4 : (((s[k3 + 1]'hlt4).toNat : Int) == 62) = true := by rw [hc4]; rfl
            have HX : Hid (res = some (l, true, t.tail)) := HT.out.symm.trans (by rw [HTC.out, if_neg h62, if_pos h47c, if_pos hh])
            have hA := AttsAt.own hown
            obtain ⟨vp, vn, vc, rfl⟩ := hA.shape
            have HT5 := Lib.hid ht4
            clear HTC h62 h47c hown hh hc4 ht4
            obtain ⟨⟨z0, z1, z2, z3, z4⟩, f0, f1, f2, f3, f4⟩ := five ht
            obtain ⟨⟨y0, y1, y2, y3, y4⟩, e0, e1, e2, e3, e4⟩ := five h0
            have hnc : ¬ (w.heap.size = w1.heap.size) := by omega
            go_wp2_with fail
            refine (HS.out _).mono ?_; rintro e w5 ⟨rfl, rfl⟩
            go_wp2_with fail
            exact ret_cell_tmp2 rfl rfl rfl (set5_row (block_other h0 hnc _)) Tryz.underlying29 rfl (by kernel_rfl)
              (by
                unfold ReadPost
                rw [HX.out]
                refine ⟨set5_below (hbl.setCell (p := ⟨w1.heap.size, 3, none⟩) (by show w.heap.size ≤ w1.heap.size; omega) _) (Nat.le_refl _) _ _ _ _ _, .inl ⟨rfl, ?_⟩⟩
                rw [read_pos s (k3 + 1) t.tail hlt4 HT5.out]
                rfl)
          · have HX : Hid (tagL l ((bs s).drop (k3 + 1)) = res) := by
              show _ = _
              rw [HT3.out, ← HT.out, HTC.out, if_neg h62, if_pos h47c, if_neg hh]
            have HQ : k3 + 1 = s.size ∨ (k3 + 1 < s.size ∧ ∃ h : k3 + 1 < s.size, (((s[k3 + 1]'h).toNat : Int) == 62) = false) := by
              cases t with
              | nil => exact .inl ((drop_nil_iff s _ (by omega)).1 HT3.out)
              | cons d t =>
                obtain ⟨h1, h3, h2⟩ := drop_cons_get s (k3 + 1) d t HT3.out
                refine .inr ⟨h1, h1, ?_⟩
                rw [h3, Bool.eq_false_iff, Ne, beq_iff_eq]; intro h; apply hh; simp; exact UInt8.toNat.inj (by simpa using (by omega : d.toNat = 62))
            clear HTC h62 h47c hh
            rcases HQ with hq | ⟨hq, hq1, hq2⟩
            · have hq' : ¬ (k3 : Int) + 1 < (s.size : Int) := by omega
              go_wp2_with fail
              refine (HS.out _).mono ?_; rintro e w5 ⟨rfl, rfl⟩
              go_wp2_with fail
              go_roundw
              case rel => exact ⟨l, k3 + 1, by go_num, by omega, by omega, ht, h0, hown, HX.out, hbl⟩
              case measure => simp [intOf]; omega
            · have hq' : (k3 : Int) + 1 < (s.size : Int) := by omega
              go_wp2_with fail
              refine (HS.out _).mono ?_; rintro e w5 ⟨rfl, rfl⟩
              go_wp2_with fail
              go_roundw
              case rel => exact ⟨l, k3 + 1, by go_num, by omega, by omega, ht, h0, hown, HX.out, hbl⟩
              case measure => simp [intOf]; omega
        · rw [decide_eq_false h47c] at g47
          have hsk4 := skip_le keyB s (k3 + 1) (by omega)
          have hsk5 := skip_le isSpace s (skip keyB s (k3 + 1)) (by omega)
          have hd4 := skip_drop keyB s (k3 + 1)
          have hd5 := skip_drop isSpace s (skip keyB s (k3 + 1))
          rw [HT3.out] at hd4
          rw [hd4] at hd5
          have HW : Hid (∀ w, Calls Tryz.prog 54 #[.string s, .int .i64 ((k3 : Int) + 1), .bool true] w fun e w' => e = .returned (.int .i64 (skip keyB s (k3 + 1))) ∧ w = w') := fun w => by
            have := wordR_any s (k3 + 1) true w hs (by omega); exact this
          have HL : Hid (∀ w, Calls Tryz.prog 55 #[.string (s.extract k3 (skip keyB s (k3 + 1)))] w fun e w' => e = .returned (.string (mk (lower (c :: t.takeWhile keyB)))) ∧ Below w.heap.size w w') := fun w => by
            have := lowerR_any (s.extract k3 (skip keyB s (k3 + 1))) w (by rw [ByteArray.size_extract]; omega)
            rw [name_text keyB s k3 c t HD3.out HT3.out] at this
            exact this
          have HBl : Hid (∀ w, Calls Tryz.prog 56 #[.string s, .int .i64 (skip keyB s (k3 + 1))] w fun e w' => e = .returned (.int .i64 (skip isSpace s (skip keyB s (k3 + 1)))) ∧ w = w') := fun w => blanksR_any s _ w hs (by omega)
          have HXs : Hid (∀ v u, attrOf c t = some ((lower (c :: t.takeWhile keyB), v), u) → tagL (addAtt l (lower (c :: t.takeWhile keyB), v)) u = res) := fun v u ha => by
            rw [← HT.out, tagL_attr l _ t c _ u HRr.out h62 h47c ha]
          have HXn : Hid (attrOf c t = none → res = none) := fun ha => by
            rw [← HT.out, tagL_bad l _ t c HRr.out h62 h47c ha]
          have HA1 : Hid ((t.dropWhile keyB).dropWhile isSpace = [] → attrOf c t = some ((lower (c :: t.takeWhile keyB), []), [])) := attrOf_nil c t
          have HA2 : Hid (∀ d u, (t.dropWhile keyB).dropWhile isSpace = d :: u → d ≠ 61 → attrOf c t = some ((lower (c :: t.takeWhile keyB), []), d :: u)) := attrOf_other c t
          have HA3 : Hid (∀ u, (t.dropWhile keyB).dropWhile isSpace = 61 :: u → valueOf u = none → attrOf c t = none) := attrOf_none c t
          have HA4 : Hid (∀ u v r, (t.dropWhile keyB).dropWhile isSpace = 61 :: u → valueOf u = some (v, r) → attrOf c t = some ((lower (c :: t.takeWhile keyB), v), r)) := attrOf_some c t
          generalize lower (c :: t.takeWhile keyB) = nB at *
          generalize (t.dropWhile keyB).dropWhile isSpace = y at *
          have HD5 := Lib.hid hd5
          clear HTC h62 h47c hd4 hd5
          generalize hk4 : skip keyB s (k3 + 1) = k4 at *
          generalize hk5 : skip isSpace s k4 = k5 at *
          clear hk4 hk5
          have hk45 : (k4 : Int) ≤ (s.size : Int) := by omega
          go_wp2_with fail
          refine (HS.out _).mono ?_; rintro e w5 ⟨rfl, rfl⟩
          go_wp2_with fail
          refine (HW.out _).mono ?_; rintro e w5 ⟨rfl, rfl⟩
          go_wp2_with fail
          refine (HL.out _).mono ?_; rintro e w6 ⟨rfl, hB6⟩
          have ht6 := below_block hB6 ht
          have h06 := below_block hB6 h0
          have hown6 := hown.kept (grown_below hB6 none) (by cases u11.ownBlock <;> simp)
          have hbl6 := below_then hbl hB6
          clear ht h0 hown hbl hB6
          go_wp2_with fail
          refine (HBl.out _).mono ?_; rintro e w7 ⟨rfl, rfl⟩
          have hn7 := heap_alloc_new w6 (.cells #[.string (mk nB), .string ⟨#[]⟩] 59)
          have ht7 := (Below.heap_alloc _ (.cells #[.string (mk nB), .string ⟨#[]⟩] 59) _ (lt_of_block ht6)).trans ht6
          have h07 := (Below.heap_alloc _ (.cells #[.string (mk nB), .string ⟨#[]⟩] 59) _ (lt_of_block h06)).trans h06
          have hown7 := hown6.alloc (.cells #[.string (mk nB), .string ⟨#[]⟩] 59)
          have hbl7 := hbl6.alloc hbl6.size (.cells #[.string (mk nB), .string ⟨#[]⟩] 59)
          have hszt := lt_of_block ht6
          have hobn' : ∀ b, u11.ownBlock = some b → b ≠ w6.heap.size := fun b hb e => by have := (hown6.lt b hb).2; omega
          generalize hba : w6.heap.size = ba at *
          clear ht6 h06 hown6 hbl6
          generalize w6.alloc (.cells #[.string (mk nB), .string ⟨#[]⟩] 59) = w7 at *
          clear hba
          rcases (show (y = [] ∨ (∃ d u, y = d :: u ∧ d ≠ 61)) ∨ (∃ u, y = 61 :: u) from by
            cases y with
            | nil => exact .inl (.inl rfl)
            | cons d u => by_cases hd : d = 61
                          · exact .inr ⟨u, by rw [hd]⟩
                          · exact .inl (.inr ⟨d, u, rfl, hd⟩)) with hy | ⟨u, rfl⟩
          · have HX : Hid (tagL (addAtt l (nB, [])) ((bs s).drop k5) = res) := by
              show _ = _
              rw [HD5.out]
              rcases hy with rfl | ⟨d, u, rfl, hd⟩
              · exact HXs.out [] [] (HA1.out rfl)
              · exact HXs.out [] (d :: u) (HA2.out d u rfl hd)
            have hk6 : k5 ≤ s.size := hsk5.2
            obtain ⟨k6, hk6e⟩ : ∃ k6, k6 = k5 := ⟨_, rfl⟩
            rcases hy with rfl | ⟨d, u, rfl, hd⟩
            · have he := (drop_nil_iff s _ hsk5.2).1 HD5.out
              have hz5 : ¬ (k5 : Int) < (s.size : Int) := by omega
              subst hk6e
              have hA6 := AttsAt.own hown7
              have hszt6 := lt_of_block ht7
              rcases hA6 with ⟨rfl, rfl⟩ | ⟨g, cap, cur, rfl, hgB, hgA, hlc, hcm, htA⟩
              · go_wp2_with fail
                obtain ⟨l, hl⟩ : ∃ l : List Att, l = [] := ⟨_, rfl⟩
                have HQ : Hid ((([] : List Att).any fun x => x.1 == (nB, ([] : Bs)).1) = false) := rfl
                go_loopw [17, 18] (fun v17 v18 wx => v17 = .bool false ∧ v18 = .int .i64 0 ∧ Below w7.heap.size w7 wx) (fun _ _ _ => 0)
                case atStart => exact ⟨rfl, rfl, Below.refl _ _⟩
                case round =>
                  obtain ⟨rfl, rfl, hbx⟩ := hrel
                  have HX2 : Hid (tagL ([] ++ [(nB, ([] : Bs))]) ((bs s).drop k6) = res) := by
                    have := HX.out
                    unfold addAtt at this
                    rwa [if_neg (by rw [HQ.out]; simp)] at this
                  have hn8 := below_block hbx hn7
                  have ht8 := below_block hbx ht7
                  have h08 := below_block hbx h07
                  have hown8 := hown7.kept (grown_below hbx none) (by simp [Value.ownBlock])
                  have hbl8 := below_then hbl7 hbx
                  have n0 := two_cell0 hn8
                  have n1 := two_cell1 hn8
                  have hsz8 := lt_of_block hn8
                  have hsz9 := lt_of_block ht8
                  obtain ⟨i0, hi0, hz0, hz1, hz2⟩ := info_parts attInfo
                  have HO := Lib.hid hown8
                  have HO2 : Hid (∀ b, b < w1.heap.size + 1 → some b ≠ (.slice none 0 0 : Value).ownBlock) := fun b hb e => by have := (HO.out.lt b e.symm).1; omega
                  clear hown8
                  go_wp2_with (at_builtin; refine wpList_append_own _ rfl _ _ 27 rfl (w1.heap.size + 1) 59 i0 (.agg #[.string ⟨#[]⟩, .string ⟨#[]⟩]) 2 32 Tryz.underlying27 hi0 hz0 hz1 hz2 rfl (by decide) _ _ _ rfl (HO.out.alloc _) ⟨wr.heap.size, 0, none⟩ 1 1 [.string (mk nB), .string ⟨#[]⟩] rfl rfl (by intro j u hj; (match j, hj with | 0, hj => (simp at hj; subst hj; simp [Addr.add]) | 1, hj => (simp at hj; subst hj; simp [Addr.add]))) (by intro u hu; simp at hu; rcases hu with rfl | rfl <;> rfl) (by unfold maxLen; first | omega | (simp only [List.length_nil]; omega)) (by first | omega | (simp only [List.length_nil]; omega)) (by simp; omega) ?_)
                  intro v' w9 hown9 hg9 _
                  have ht9 := grown_block hg9 ((Below.heap_alloc _ _ _ (lt_of_block ht8)).trans ht8) (HO2.out _ (by omega))
                  have h09 := grown_block hg9 ((Below.heap_alloc _ _ _ (lt_of_block h08)).trans h08) (HO2.out _ (by omega))
                  have hbl9 : Below w.heap.size w w9 := (hbl8.alloc hbl8.size _).grown hg9 (by have := hbl8.size; simp; omega) (fun b e => by have := (HO.out.lt b e).1; omega)
                  have hown10 : w9.ownsRow (w1.heap.size + 1) 59 2 v' ([] ++ [(nB, ([] : Bs))]).length (flat ([] ++ [(nB, ([] : Bs))])) := by
                    rw [flat_append, List.length_append]; exact hown9
                  go_wp2_with fail
                  go_roundw
                  case rel => exact ⟨[] ++ [(nB, ([] : Bs))], k6, by go_num, hk6, by simp; omega, ht9, h09, hown10, HX2.out, hbl9⟩
                  case measure => simp [intOf]; omega
              · go_wp2_with fail
                obtain ⟨Q, hQ⟩ : ∃ Q, (l.any fun x => x.1 == nB) = Q := ⟨_, rfl⟩
                have HQ : Hid ((l.any fun x => x.1 == (nB, ([] : Bs)).1) = Q) := hQ
                have HQ1 : Hid ((l.any fun x => x.1 == nB) = Q) := hQ
                clear hQ
                go_loopw [17, 18] (fun v17 v18 wx => ∃ (j : Nat) (q : Bool), v17 = .bool q ∧ v18 = .int .i64 j ∧ j ≤ l.length ∧ Hid ((q || ((l.drop j).any fun x => x.1 == nB)) = Q) ∧ Below w7.heap.size w7 wx) (fun _ v18 _ => l.length - (intOf v18).toNat)
                case atStart => exact ⟨0, false, rfl, rfl, Nat.zero_le _, by rw [Bool.false_or, List.drop_zero]; exact HQ1, Below.refl _ _⟩
                case round =>
                  obtain ⟨j, q, rfl, rfl, hj, HJ, hbx⟩ := hrel
                  by_cases hltj : j < l.length
                  · have hjl : (j : Int) < (l.length : Int) := by omega
                    have hdj : l.drop j = (l[j]'hltj) :: l.drop (j + 1) := List.drop_eq_getElem_cons hltj
                    have HJ2 := HJ.out
                    rw [hdj, List.any_cons] at HJ2
                    have hcj := (atts_cells (below_block hbx hgA) htA j hltj).1
                    have hca := two_cell0 (below_block hbx hn7)
                    have heq : ((mk (l[j]'hltj).1).toList == (mk nB).toList) = ((l[j]'hltj).1 == nB) := by rw [toList_beq, bs_mk, bs_mk]
                    have HJ := Lib.hid HJ2
                    clear HJ2 hdj
                    generalize ((l[j]'hltj).1 == nB) = x at *
                    cases q with
                    | true =>
                      go_wp2_with fail
                      go_quiet (fail)
                      go_wp2_with fail
                      go_roundw
                      case rel => exact ⟨j + 1, true, rfl, by go_num, by omega, by have := HJ.out; rw [Bool.true_or] at this ⊢; exact this, below_drewN hbx _⟩
                      case measure => simp [intOf]; omega
                    | false =>
                      go_wp2_with fail
                      go_quiet (fail)
                      go_wp2_with fail
                      go_roundw
                      case rel => exact ⟨j + 1, x, rfl, by go_num, by omega, by have := HJ.out; rw [Bool.false_or] at this; exact this, below_drewN hbx _⟩
                      case measure => simp [intOf]; omega
                  · have hjl : ¬ (j : Int) < (l.length : Int) := by omega
                    have HJ2 := HJ.out
                    rw [List.drop_eq_nil_of_le (by omega), List.any_nil, Bool.or_false] at HJ2
                    subst HJ2
                    cases q with
                    | true =>
                      have HX2 : Hid (tagL l ((bs s).drop k6) = res) := by
                        have := HX.out
                        unfold addAtt at this
                        rwa [if_pos HQ.out] at this
                      go_wp2_with fail
                      go_roundw
                      case rel => exact ⟨l, k6, by go_num, hk6, by omega, below_block hbx ht7, below_block hbx h07, hown7.kept (grown_below hbx none) (by simp [Value.ownBlock]), HX2.out, below_then hbl7 hbx⟩
                      case measure => simp [intOf]; omega
                    | false =>
                      have HX2 : Hid (tagL (l ++ [(nB, ([] : Bs))]) ((bs s).drop k6) = res) := by
                        have := HX.out
                        unfold addAtt at this
                        rwa [if_neg (by rw [HQ.out]; simp)] at this
                      have hn8 := below_block hbx hn7
                      have ht8 := below_block hbx ht7
                      have h08 := below_block hbx h07
                      have hown8 := hown7.kept (grown_below hbx none) (by simp [Value.ownBlock])
                      have hbl8 := below_then hbl7 hbx
                      have n0 := two_cell0 hn8
                      have n1 := two_cell1 hn8
                      have hsz8 := lt_of_block hn8
                      have hsz9 := lt_of_block ht8
                      obtain ⟨i0, hi0, hz0, hz1, hz2⟩ := info_parts attInfo
                      have HO := Lib.hid hown8
                      have HO2 : Hid (∀ b, b < w1.heap.size + 1 → some b ≠ (.slice (some ⟨g, 0, none⟩) l.length cap : Value).ownBlock) := fun b hb e => by have := (HO.out.lt b e.symm).1; omega
                      clear hown8
                      go_wp2_with (at_builtin; refine wpList_append_own _ rfl _ _ 27 rfl (w1.heap.size + 1) 59 i0 (.agg #[.string ⟨#[]⟩, .string ⟨#[]⟩]) 2 32 Tryz.underlying27 hi0 hz0 hz1 hz2 rfl (by decide) _ _ _ rfl (HO.out.alloc _) ⟨wr.heap.size, 0, none⟩ 1 1 [.string (mk nB), .string ⟨#[]⟩] rfl rfl (by intro j u hj; (match j, hj with | 0, hj => (simp at hj; subst hj; simp [Addr.add]) | 1, hj => (simp at hj; subst hj; simp [Addr.add]))) (by intro u hu; simp at hu; rcases hu with rfl | rfl <;> rfl) (by unfold maxLen; first | omega | (simp only [List.length_nil]; omega)) (by first | omega | (simp only [List.length_nil]; omega)) (by simp; omega) ?_)
                      intro v' w9 hown9 hg9 _
                      have ht9 := grown_block hg9 ((Below.heap_alloc _ _ _ (lt_of_block ht8)).trans ht8) (HO2.out _ (by omega))
                      have h09 := grown_block hg9 ((Below.heap_alloc _ _ _ (lt_of_block h08)).trans h08) (HO2.out _ (by omega))
                      have hbl9 : Below w.heap.size w w9 := (hbl8.alloc hbl8.size _).grown hg9 (by have := hbl8.size; simp; omega) (fun b e => by have := (HO.out.lt b e).1; omega)
                      have hown10 : w9.ownsRow (w1.heap.size + 1) 59 2 v' (l ++ [(nB, ([] : Bs))]).length (flat (l ++ [(nB, ([] : Bs))])) := by
                        rw [flat_append, List.length_append]; exact hown9
                      go_wp2_with fail
                      go_roundw
                      case rel => exact ⟨l ++ [(nB, ([] : Bs))], k6, by go_num, hk6, by simp; omega, ht9, h09, hown10, HX2.out, hbl9⟩
                      case measure => simp [intOf]; omega
            · obtain ⟨hlt5, hc5, _⟩ := drop_cons_get s _ d u HD5.out
              have g61 : (((s[k5]'hlt5).toNat : Int) == 61) = false := by rw [hc5, Bool.eq_false_iff, Ne, beq_iff_eq]; intro h; apply hd; exact UInt8.toNat.inj (by simpa using (by omega : d.toNat = 61))
              clear hc5 hd
              subst hk6e
              have hA6 := AttsAt.own hown7
              have hszt6 := lt_of_block ht7
              rcases hA6 with ⟨rfl, rfl⟩ | ⟨g, cap, cur, rfl, hgB, hgA, hlc, hcm, htA⟩
              · go_wp2_with fail
                obtain ⟨l, hl⟩ : ∃ l : List Att, l = [] := ⟨_, rfl⟩
                have HQ : Hid ((([] : List Att).any fun x => x.1 == (nB, ([] : Bs)).1) = false) := rfl
                go_loopw [17, 18] (fun v17 v18 wx => v17 = .bool false ∧ v18 = .int .i64 0 ∧ Below w7.heap.size w7 wx) (fun _ _ _ => 0)
                case atStart => exact ⟨rfl, rfl, Below.refl _ _⟩
                case round =>
                  obtain ⟨rfl, rfl, hbx⟩ := hrel
                  have HX2 : Hid (tagL ([] ++ [(nB, ([] : Bs))]) ((bs s).drop k6) = res) := by
                    have := HX.out
                    unfold addAtt at this
                    rwa [if_neg (by rw [HQ.out]; simp)] at this
                  have hn8 := below_block hbx hn7
                  have ht8 := below_block hbx ht7
                  have h08 := below_block hbx h07
                  have hown8 := hown7.kept (grown_below hbx none) (by simp [Value.ownBlock])
                  have hbl8 := below_then hbl7 hbx
                  have n0 := two_cell0 hn8
                  have n1 := two_cell1 hn8
                  have hsz8 := lt_of_block hn8
                  have hsz9 := lt_of_block ht8
                  obtain ⟨i0, hi0, hz0, hz1, hz2⟩ := info_parts attInfo
                  have HO := Lib.hid hown8
                  have HO2 : Hid (∀ b, b < w1.heap.size + 1 → some b ≠ (.slice none 0 0 : Value).ownBlock) := fun b hb e => by have := (HO.out.lt b e.symm).1; omega
                  clear hown8
                  go_wp2_with (at_builtin; refine wpList_append_own _ rfl _ _ 27 rfl (w1.heap.size + 1) 59 i0 (.agg #[.string ⟨#[]⟩, .string ⟨#[]⟩]) 2 32 Tryz.underlying27 hi0 hz0 hz1 hz2 rfl (by decide) _ _ _ rfl (HO.out.alloc _) ⟨wr.heap.size, 0, none⟩ 1 1 [.string (mk nB), .string ⟨#[]⟩] rfl rfl (by intro j u hj; (match j, hj with | 0, hj => (simp at hj; subst hj; simp [Addr.add]) | 1, hj => (simp at hj; subst hj; simp [Addr.add]))) (by intro u hu; simp at hu; rcases hu with rfl | rfl <;> rfl) (by unfold maxLen; first | omega | (simp only [List.length_nil]; omega)) (by first | omega | (simp only [List.length_nil]; omega)) (by simp; omega) ?_)
                  intro v' w9 hown9 hg9 _
                  have ht9 := grown_block hg9 ((Below.heap_alloc _ _ _ (lt_of_block ht8)).trans ht8) (HO2.out _ (by omega))
                  have h09 := grown_block hg9 ((Below.heap_alloc _ _ _ (lt_of_block h08)).trans h08) (HO2.out _ (by omega))
                  have hbl9 : Below w.heap.size w w9 := (hbl8.alloc hbl8.size _).grown hg9 (by have := hbl8.size; simp; omega) (fun b e => by have := (HO.out.lt b e).1; omega)
                  have hown10 : w9.ownsRow (w1.heap.size + 1) 59 2 v' ([] ++ [(nB, ([] : Bs))]).length (flat ([] ++ [(nB, ([] : Bs))])) := by
                    rw [flat_append, List.length_append]; exact hown9
                  go_wp2_with fail
                  go_roundw
                  case rel => exact ⟨[] ++ [(nB, ([] : Bs))], k6, by go_num, hk6, by simp; omega, ht9, h09, hown10, HX2.out, hbl9⟩
                  case measure => simp [intOf]; omega
              · go_wp2_with fail
                obtain ⟨Q, hQ⟩ : ∃ Q, (l.any fun x => x.1 == nB) = Q := ⟨_, rfl⟩
                have HQ : Hid ((l.any fun x => x.1 == (nB, ([] : Bs)).1) = Q) := hQ
                have HQ1 : Hid ((l.any fun x => x.1 == nB) = Q) := hQ
                clear hQ
                go_loopw [17, 18] (fun v17 v18 wx => ∃ (j : Nat) (q : Bool), v17 = .bool q ∧ v18 = .int .i64 j ∧ j ≤ l.length ∧ Hid ((q || ((l.drop j).any fun x => x.1 == nB)) = Q) ∧ Below w7.heap.size w7 wx) (fun _ v18 _ => l.length - (intOf v18).toNat)
                case atStart => exact ⟨0, false, rfl, rfl, Nat.zero_le _, by rw [Bool.false_or, List.drop_zero]; exact HQ1, Below.refl _ _⟩
                case round =>
                  obtain ⟨j, q, rfl, rfl, hj, HJ, hbx⟩ := hrel
                  by_cases hltj : j < l.length
                  · have hjl : (j : Int) < (l.length : Int) := by omega
                    have hdj : l.drop j = (l[j]'hltj) :: l.drop (j + 1) := List.drop_eq_getElem_cons hltj
                    have HJ2 := HJ.out
                    rw [hdj, List.any_cons] at HJ2
                    have hcj := (atts_cells (below_block hbx hgA) htA j hltj).1
                    have hca := two_cell0 (below_block hbx hn7)
                    have heq : ((mk (l[j]'hltj).1).toList == (mk nB).toList) = ((l[j]'hltj).1 == nB) := by rw [toList_beq, bs_mk, bs_mk]
                    have HJ := Lib.hid HJ2
                    clear HJ2 hdj
                    generalize ((l[j]'hltj).1 == nB) = x at *
                    cases q with
                    | true =>
                      go_wp2_with fail
                      go_quiet (fail)
                      go_wp2_with fail
                      go_roundw
                      case rel => exact ⟨j + 1, true, rfl, by go_num, by omega, by have := HJ.out; rw [Bool.true_or] at this ⊢; exact this, below_drewN hbx _⟩
                      case measure => simp [intOf]; omega
                    | false =>
                      go_wp2_with fail
                      go_quiet (fail)
                      go_wp2_with fail
                      go_roundw
                      case rel => exact ⟨j + 1, x, rfl, by go_num, by omega, by have := HJ.out; rw [Bool.false_or] at this; exact this, below_drewN hbx _⟩
                      case measure => simp [intOf]; omega
                  · have hjl : ¬ (j : Int) < (l.length : Int) := by omega
                    have HJ2 := HJ.out
                    rw [List.drop_eq_nil_of_le (by omega), List.any_nil, Bool.or_false] at HJ2
                    subst HJ2
                    cases q with
                    | true =>
                      have HX2 : Hid (tagL l ((bs s).drop k6) = res) := by
                        have := HX.out
                        unfold addAtt at this
                        rwa [if_pos HQ.out] at this
                      go_wp2_with fail
                      go_roundw
                      case rel => exact ⟨l, k6, by go_num, hk6, by omega, below_block hbx ht7, below_block hbx h07, hown7.kept (grown_below hbx none) (by simp [Value.ownBlock]), HX2.out, below_then hbl7 hbx⟩
                      case measure => simp [intOf]; omega
                    | false =>
                      have HX2 : Hid (tagL (l ++ [(nB, ([] : Bs))]) ((bs s).drop k6) = res) := by
                        have := HX.out
                        unfold addAtt at this
                        rwa [if_neg (by rw [HQ.out]; simp)] at this
                      have hn8 := below_block hbx hn7
                      have ht8 := below_block hbx ht7
                      have h08 := below_block hbx h07
                      have hown8 := hown7.kept (grown_below hbx none) (by simp [Value.ownBlock])
                      have hbl8 := below_then hbl7 hbx
                      have n0 := two_cell0 hn8
                      have n1 := two_cell1 hn8
                      have hsz8 := lt_of_block hn8
                      have hsz9 := lt_of_block ht8
                      obtain ⟨i0, hi0, hz0, hz1, hz2⟩ := info_parts attInfo
                      have HO := Lib.hid hown8
                      have HO2 : Hid (∀ b, b < w1.heap.size + 1 → some b ≠ (.slice (some ⟨g, 0, none⟩) l.length cap : Value).ownBlock) := fun b hb e => by have := (HO.out.lt b e.symm).1; omega
                      clear hown8
                      go_wp2_with (at_builtin; refine wpList_append_own _ rfl _ _ 27 rfl (w1.heap.size + 1) 59 i0 (.agg #[.string ⟨#[]⟩, .string ⟨#[]⟩]) 2 32 Tryz.underlying27 hi0 hz0 hz1 hz2 rfl (by decide) _ _ _ rfl (HO.out.alloc _) ⟨wr.heap.size, 0, none⟩ 1 1 [.string (mk nB), .string ⟨#[]⟩] rfl rfl (by intro j u hj; (match j, hj with | 0, hj => (simp at hj; subst hj; simp [Addr.add]) | 1, hj => (simp at hj; subst hj; simp [Addr.add]))) (by intro u hu; simp at hu; rcases hu with rfl | rfl <;> rfl) (by unfold maxLen; first | omega | (simp only [List.length_nil]; omega)) (by first | omega | (simp only [List.length_nil]; omega)) (by simp; omega) ?_)
                      intro v' w9 hown9 hg9 _
                      have ht9 := grown_block hg9 ((Below.heap_alloc _ _ _ (lt_of_block ht8)).trans ht8) (HO2.out _ (by omega))
                      have h09 := grown_block hg9 ((Below.heap_alloc _ _ _ (lt_of_block h08)).trans h08) (HO2.out _ (by omega))
                      have hbl9 : Below w.heap.size w w9 := (hbl8.alloc hbl8.size _).grown hg9 (by have := hbl8.size; simp; omega) (fun b e => by have := (HO.out.lt b e).1; omega)
                      have hown10 : w9.ownsRow (w1.heap.size + 1) 59 2 v' (l ++ [(nB, ([] : Bs))]).length (flat (l ++ [(nB, ([] : Bs))])) := by
                        rw [flat_append, List.length_append]; exact hown9
                      go_wp2_with fail
                      go_roundw
                      case rel => exact ⟨l ++ [(nB, ([] : Bs))], k6, by go_num, hk6, by simp; omega, ht9, h09, hown10, HX2.out, hbl9⟩
                      case measure => simp [intOf]; omega
          · obtain ⟨hlt5, hc5, hd6⟩ := drop_cons_get s _ 61 u HD5.out
            have g61 : (((s[k5]'hlt5).toNat : Int) == 61) = true := by rw [hc5]; rfl
            have hk56 : (k5 : Int) + 1 ≤ (s.size : Int) := by omega
            clear hc5
            cases hv : valueOf u with
            | none =>
              have HV := fun w => valueR_none s (k5 + 1) w hs (by omega) (by rw [hd6]; exact hv)
              have HX : Hid (res = none) := HXn.out (HA3.out u rfl hv)
              have HV := Lib.hid HV
              clear hv hd6
              go_wp2_with fail
              refine (HV.out _).mono ?_; rintro e w8 ⟨⟨n, rfl⟩, hB8⟩
              have h08 := below_block hB8 h07
              have hbl8 := below_then hbl7 hB8
              obtain ⟨⟨z0, z1, z2, z3, z4⟩, f0, f1, f2, f3, f4⟩ := five h08
              go_wp2_with fail
              exact ret_cell_tmp2 rfl rfl rfl (set5_row h08) Tryz.underlying29 rfl (by kernel_rfl) (by unfold ReadPost; rw [HX.out]; exact ⟨set5_below hbl8 (Nat.le_refl _) _ _ _ _ _, rfl⟩)
            | some p =>
              obtain ⟨v, r⟩ := p
              have HV := fun w => valueR_some s (k5 + 1) w hs (by omega) v r (by rw [hd6]; exact hv)
              have hrl := value_len u v r hv
              have hul : u.length = s.size - (k5 + 1) := by rw [← hd6, List.length_drop, ← size_bs]
              have hdr : (bs s).drop (s.size - r.length) = r := drop_suffix s r ((value_suffix u v r hv).trans (by rw [← hd6]; exact List.drop_suffix _ _))
              have HX : Hid (tagL (addAtt l (nB, v)) ((bs s).drop (s.size - r.length)) = res) := by
                show _ = _
                rw [hdr]
                exact HXs.out v r (HA4.out u v r rfl hv)
              have HV := Lib.hid HV
              have hk6 : s.size - r.length ≤ s.size := by omega
              have hk56 : k5 + 1 ≤ s.size - r.length := by omega
              clear hv hd6 hrl hul hdr
              generalize s.size - r.length = k6 at *
              go_wp2_with fail
              refine (HV.out _).mono ?_; rintro e w8 ⟨rfl, hB8⟩
              have hn8 := below_block hB8 hn7
              have ht8 := below_block hB8 ht7
              have h08 := below_block hB8 h07
              have hown8 := hown7.kept (grown_below hB8 none) (by cases u11.ownBlock <;> simp)
              have hbl8 := below_then hbl7 hB8
              have z0 := two_cell1 hn8
              have z1 := two_free1 hn8
              have hnT : (w8.setCell ⟨ba, 1, none⟩ (.string (mk v))).heap[ba]? = some (.cells #[.string (mk nB), .string (mk v)] 59 (0, 0)) := two_set1 hn8
              have htT := block_other (a := ⟨ba, 1, none⟩) ht8 (by show w1.heap.size ≠ ba; omega) (.string (mk v))
              have h0T := block_other (a := ⟨ba, 1, none⟩) h08 (by show w.heap.size ≠ ba; omega) (.string (mk v))
              have hownT := hown8.kept (grown_set w8 ⟨ba, 1, none⟩ (.string (mk v))) (.inr (fun e => hobn' _ e rfl))
              have hblT := hbl8.setCell (p := ⟨ba, 1, none⟩) (by show w.heap.size ≤ ba; omega) (.string (mk v))
              go_wp2_with fail
              clear z0 z1 hn8 ht8 h08 hown8 hbl8 hn7 ht7 h07 hown7 hbl7
              generalize w8.setCell ⟨ba, 1, none⟩ (.string (mk v)) = wT at *
              have hA6 := AttsAt.own hownT
              have hszt6 := lt_of_block htT
              rcases hA6 with ⟨rfl, rfl⟩ | ⟨g, cap, cur, rfl, hgB, hgA, hlc, hcm, htA⟩
              · go_wp2_with fail
                obtain ⟨l, hl⟩ : ∃ l : List Att, l = [] := ⟨_, rfl⟩
                have HQ : Hid ((([] : List Att).any fun x => x.1 == (nB, v).1) = false) := rfl
                go_loopw [17, 18] (fun v17 v18 wx => v17 = .bool false ∧ v18 = .int .i64 0 ∧ Below wT.heap.size wT wx) (fun _ _ _ => 0)
                case atStart => exact ⟨rfl, rfl, Below.refl _ _⟩
                case round =>
                  obtain ⟨rfl, rfl, hbx⟩ := hrel
                  have HX2 : Hid (tagL ([] ++ [(nB, v)]) ((bs s).drop k6) = res) := by
                    have := HX.out
                    unfold addAtt at this
                    rwa [if_neg (by rw [HQ.out]; simp)] at this
                  have hn8 := below_block hbx hnT
                  have ht8 := below_block hbx htT
                  have h08 := below_block hbx h0T
                  have hown8 := hownT.kept (grown_below hbx none) (by simp [Value.ownBlock])
                  have hbl8 := below_then hblT hbx
                  have n0 := two_cell0 hn8
                  have n1 := two_cell1 hn8
                  have hsz8 := lt_of_block hn8
                  have hsz9 := lt_of_block ht8
                  obtain ⟨i0, hi0, hz0, hz1, hz2⟩ := info_parts attInfo
                  have HO := Lib.hid hown8
                  have HO2 : Hid (∀ b, b < w1.heap.size + 1 → some b ≠ (.slice none 0 0 : Value).ownBlock) := fun b hb e => by have := (HO.out.lt b e.symm).1; omega
                  clear hown8
                  go_wp2_with (at_builtin; refine wpList_append_own _ rfl _ _ 27 rfl (w1.heap.size + 1) 59 i0 (.agg #[.string ⟨#[]⟩, .string ⟨#[]⟩]) 2 32 Tryz.underlying27 hi0 hz0 hz1 hz2 rfl (by decide) _ _ _ rfl (HO.out.alloc _) ⟨wr.heap.size, 0, none⟩ 1 1 [.string (mk nB), .string (mk v)] rfl rfl (by intro j u hj; (match j, hj with | 0, hj => (simp at hj; subst hj; simp [Addr.add]) | 1, hj => (simp at hj; subst hj; simp [Addr.add]))) (by intro u hu; simp at hu; rcases hu with rfl | rfl <;> rfl) (by unfold maxLen; first | omega | (simp only [List.length_nil]; omega)) (by first | omega | (simp only [List.length_nil]; omega)) (by simp; omega) ?_)
                  intro v' w9 hown9 hg9 _
                  have ht9 := grown_block hg9 ((Below.heap_alloc _ _ _ (lt_of_block ht8)).trans ht8) (HO2.out _ (by omega))
                  have h09 := grown_block hg9 ((Below.heap_alloc _ _ _ (lt_of_block h08)).trans h08) (HO2.out _ (by omega))
                  have hbl9 : Below w.heap.size w w9 := (hbl8.alloc hbl8.size _).grown hg9 (by have := hbl8.size; simp; omega) (fun b e => by have := (HO.out.lt b e).1; omega)
                  have hown10 : w9.ownsRow (w1.heap.size + 1) 59 2 v' ([] ++ [(nB, v)]).length (flat ([] ++ [(nB, v)])) := by
                    rw [flat_append, List.length_append]; exact hown9
                  go_wp2_with fail
                  go_roundw
                  case rel => exact ⟨[] ++ [(nB, v)], k6, by go_num, hk6, by simp; omega, ht9, h09, hown10, HX2.out, hbl9⟩
                  case measure => simp [intOf]; omega
              · go_wp2_with fail
                obtain ⟨Q, hQ⟩ : ∃ Q, (l.any fun x => x.1 == nB) = Q := ⟨_, rfl⟩
                have HQ : Hid ((l.any fun x => x.1 == (nB, v).1) = Q) := hQ
                have HQ1 : Hid ((l.any fun x => x.1 == nB) = Q) := hQ
                clear hQ
                go_loopw [17, 18] (fun v17 v18 wx => ∃ (j : Nat) (q : Bool), v17 = .bool q ∧ v18 = .int .i64 j ∧ j ≤ l.length ∧ Hid ((q || ((l.drop j).any fun x => x.1 == nB)) = Q) ∧ Below wT.heap.size wT wx) (fun _ v18 _ => l.length - (intOf v18).toNat)
                case atStart => exact ⟨0, false, rfl, rfl, Nat.zero_le _, by rw [Bool.false_or, List.drop_zero]; exact HQ1, Below.refl _ _⟩
                case round =>
                  obtain ⟨j, q, rfl, rfl, hj, HJ, hbx⟩ := hrel
                  by_cases hltj : j < l.length
                  · have hjl : (j : Int) < (l.length : Int) := by omega
                    have hdj : l.drop j = (l[j]'hltj) :: l.drop (j + 1) := List.drop_eq_getElem_cons hltj
                    have HJ2 := HJ.out
                    rw [hdj, List.any_cons] at HJ2
                    have hcj := (atts_cells (below_block hbx hgA) htA j hltj).1
                    have hca := two_cell0 (below_block hbx hnT)
                    have heq : ((mk (l[j]'hltj).1).toList == (mk nB).toList) = ((l[j]'hltj).1 == nB) := by rw [toList_beq, bs_mk, bs_mk]
                    have HJ := Lib.hid HJ2
                    clear HJ2 hdj
                    generalize ((l[j]'hltj).1 == nB) = x at *
                    cases q with
                    | true =>
                      go_wp2_with fail
                      go_quiet (fail)
                      go_wp2_with fail
                      go_roundw
                      case rel => exact ⟨j + 1, true, rfl, by go_num, by omega, by have := HJ.out; rw [Bool.true_or] at this ⊢; exact this, below_drewN hbx _⟩
                      case measure => simp [intOf]; omega
                    | false =>
                      go_wp2_with fail
                      go_quiet (fail)
                      go_wp2_with fail
                      go_roundw
                      case rel => exact ⟨j + 1, x, rfl, by go_num, by omega, by have := HJ.out; rw [Bool.false_or] at this; exact this, below_drewN hbx _⟩
                      case measure => simp [intOf]; omega
                  · have hjl : ¬ (j : Int) < (l.length : Int) := by omega
                    have HJ2 := HJ.out
                    rw [List.drop_eq_nil_of_le (by omega), List.any_nil, Bool.or_false] at HJ2
                    subst HJ2
                    cases q with
                    | true =>
                      have HX2 : Hid (tagL l ((bs s).drop k6) = res) := by
                        have := HX.out
                        unfold addAtt at this
                        rwa [if_pos HQ.out] at this
                      go_wp2_with fail
                      go_roundw
                      case rel => exact ⟨l, k6, by go_num, hk6, by omega, below_block hbx htT, below_block hbx h0T, hownT.kept (grown_below hbx none) (by simp [Value.ownBlock]), HX2.out, below_then hblT hbx⟩
                      case measure => simp [intOf]; omega
                    | false =>
                      have HX2 : Hid (tagL (l ++ [(nB, v)]) ((bs s).drop k6) = res) := by
                        have := HX.out
                        unfold addAtt at this
                        rwa [if_neg (by rw [HQ.out]; simp)] at this
                      have hn8 := below_block hbx hnT
                      have ht8 := below_block hbx htT
                      have h08 := below_block hbx h0T
                      have hown8 := hownT.kept (grown_below hbx none) (by simp [Value.ownBlock])
                      have hbl8 := below_then hblT hbx
                      have n0 := two_cell0 hn8
                      have n1 := two_cell1 hn8
                      have hsz8 := lt_of_block hn8
                      have hsz9 := lt_of_block ht8
                      obtain ⟨i0, hi0, hz0, hz1, hz2⟩ := info_parts attInfo
                      have HO := Lib.hid hown8
                      have HO2 : Hid (∀ b, b < w1.heap.size + 1 → some b ≠ (.slice (some ⟨g, 0, none⟩) l.length cap : Value).ownBlock) := fun b hb e => by have := (HO.out.lt b e.symm).1; omega
                      clear hown8
                      go_wp2_with (at_builtin; refine wpList_append_own _ rfl _ _ 27 rfl (w1.heap.size + 1) 59 i0 (.agg #[.string ⟨#[]⟩, .string ⟨#[]⟩]) 2 32 Tryz.underlying27 hi0 hz0 hz1 hz2 rfl (by decide) _ _ _ rfl (HO.out.alloc _) ⟨wr.heap.size, 0, none⟩ 1 1 [.string (mk nB), .string (mk v)] rfl rfl (by intro j u hj; (match j, hj with | 0, hj => (simp at hj; subst hj; simp [Addr.add]) | 1, hj => (simp at hj; subst hj; simp [Addr.add]))) (by intro u hu; simp at hu; rcases hu with rfl | rfl <;> rfl) (by unfold maxLen; first | omega | (simp only [List.length_nil]; omega)) (by first | omega | (simp only [List.length_nil]; omega)) (by simp; omega) ?_)
                      intro v' w9 hown9 hg9 _
                      have ht9 := grown_block hg9 ((Below.heap_alloc _ _ _ (lt_of_block ht8)).trans ht8) (HO2.out _ (by omega))
                      have h09 := grown_block hg9 ((Below.heap_alloc _ _ _ (lt_of_block h08)).trans h08) (HO2.out _ (by omega))
                      have hbl9 : Below w.heap.size w w9 := (hbl8.alloc hbl8.size _).grown hg9 (by have := hbl8.size; simp; omega) (fun b e => by have := (HO.out.lt b e).1; omega)
                      have hown10 : w9.ownsRow (w1.heap.size + 1) 59 2 v' (l ++ [(nB, v)]).length (flat (l ++ [(nB, v)])) := by
                        rw [flat_append, List.length_append]; exact hown9
                      go_wp2_with fail
                      go_roundw
                      case rel => exact ⟨l ++ [(nB, v)], k6, by go_num, hk6, by simp; omega, ht9, h09, hown10, HX2.out, hbl9⟩
                      case measure => simp [intOf]; omega
end Tym
