/- The walk of the reference's Next in plain mode (printed by wip/gen_refnext.py). -/
import Derived.Test.YtpgdkhdnnegmaaaGreatLexC
set_option linter.unusedSimpArgs false
set_option linter.unusedVariables false
open Go Go.RowKit Go.Proofs
namespace Tym
set_option maxRecDepth 20000
theorem upMark_nil : upMark [] = 0 := rfl
attribute [local irreducible] nextL stepL noteL rawT rawN dec readTag beginsTag beginsNote upMark endOf

theorem tagReadR_none (s : ByteArray) (p : Nat) (w : World) (hs : s.size ≤ 1000000) (hp : p < s.size) (hb : beginsTag ((bs s).drop p) = true) (h : readTag ((bs s).drop p) = none) :
    Calls Tryz.prog 24 #[.string s, .int .i64 p] w fun e w' => (∃ (x : Option Addr) (n c : Nat), e = .returned (.tuple #[.agg #[.int .u8 0, .string ⟨#[]⟩, .slice x n c, .bool false, .string ⟨#[]⟩], .int .i64 s.size, .bool false])) ∧ Below w.heap.size w w' := by
  refine (readR_in s p w hs hp).mono ?_
  unfold tagAt
  rw [if_pos hb, h]
  rintro e w' ⟨⟨v, rfl, x, rfl, hx⟩, hB⟩
  obtain ⟨px, nx, cx, rfl⟩ := hx.shape
  exact ⟨⟨px, nx, cx, rfl⟩, hB⟩
theorem tagReadR_some (s : ByteArray) (p : Nat) (w : World) (hs : s.size ≤ 1000000) (hp : p < s.size) (hb : beginsTag ((bs s).drop p) = true) (o : TagOut) (h : readTag ((bs s).drop p) = some o) :
    Calls Tryz.prog 24 #[.string s, .int .i64 p] w fun e w' => (∃ (x : Option Addr) (n c : Nat), e = .returned (.tuple #[.agg #[.int .u8 o.kind, .string (mk o.name), .slice x n c, .bool o.closing, .string ⟨#[]⟩], .int .i64 ((s.size - o.rest.length : Nat) : Int), .bool true]) ∧ AttsAt w' w.heap.size (.slice x n c) o.atts) ∧ Below w.heap.size w w' := by
  refine (readR_in s p w hs hp).mono ?_
  unfold tagAt
  rw [if_pos hb, h]
  rintro e w' ⟨⟨v, rfl, x, rfl, hx⟩, hB⟩
  obtain ⟨px, nx, cx, rfl⟩ := hx.shape
  exact ⟨⟨px, nx, cx, rfl, hx⟩, hB⟩

theorem refNext_out (s name : ByteArray) (i m : Int) (cd : Bool) (w : World) (hs : s.size ≤ 1000000) (h : i < 0 ∨ (¬ i < 0 ∧ (s.size : Int) ≤ i)) :
    Calls Tryz.prog 11 #[.string s, .int .i64 i, .int .u8 m, .string name, .bool cd] w (TokPost w (tokLast, (s.size : Int))) := by
  have HS := StL.start w
  rcases h with h | ⟨h, h2⟩
  all_goals
    go_enter Tryz.func11, Tryz.ntmps11
    go_upto_region 3 with (fail)
    generalize (w.alloc (.cells tokZero 29)).alloc (.cells (tokCells 6 ⟨#[]⟩ (.slice none 0 0) false ⟨#[]⟩) 29) = W at *
    have hlt0 := lt_of_block HS.blk0
    have hlt1 := lt_of_block HS.blk1
    obtain ⟨⟨z0, z1, z2, z3, z4⟩, f0, f1, f2, f3, f4⟩ := five HS.blk0
    obtain ⟨⟨y0, y1, y2, y3, y4⟩, g0, g1, g2, g3, g4⟩ := five HS.blk1
    go_wp2_with fail
    exact ret_cell_tmp rfl rfl rfl (set5_row HS.blk0) Tryz.underlying29 rfl (by kernel_rfl) ⟨⟨_, ret_note rfl, tokval_plain 6 []⟩, set5_below HS.bel (Nat.le_refl _) _ _ _ _ _⟩

set_option maxHeartbeats 4000000 in
theorem refNext_data (s name : ByteArray) (m : Int) (cd : Bool) (hs9 : s.size ≤ 900000) (hmo : ¬ (1 : Int) ≤ m ∨ ((1 : Int) ≤ m ∧ ¬ m ≤ 4)) (M : Nat) (hM : ¬ (1 ≤ M ∧ M ≤ 4)) (E : Bs) (Q : Tok × Bs) : ∀ n (k : Nat), s.size - k ≤ n → k ≤ s.size → Hid (nextL M E cd ((bs s).drop k) = Q) → ∀ w,
    Calls Tryz.prog 11 #[.string s, .int .i64 k, .int .u8 m, .string name, .bool cd] w (TokPost w (resOf s.size Q)) := by
  have hs : s.size ≤ 1000000 := by omega
  intro n
  induction n with
  | zero =>
    intro k hn hk HQ w
    obtain rfl : k = s.size := by omega
    have hq : Q = (tokLast, []) := by rw [← HQ.out, List.drop_eq_nil_of_le (by rw [← size_bs]; omega)]; exact nextL_nil _ _ _
    subst hq
    exact refNext_out s name s.size m cd w hs (.inr ⟨by omega, Int.le_refl _⟩)
  | succ n0 IH0 =>
    intro k hn hk HQ w
    by_cases hlt : k < s.size
    · have IH : ∀ k', s.size - k' ≤ n0 → k' ≤ s.size → Hid (nextL M E cd ((bs s).drop k') = Q) → ∀ w, Calls Tryz.prog 11 #[.string s, .int .i64 k', .int .u8 m, .string name, .bool cd] w (TokPost w (resOf s.size Q)) := IH0
      clear IH0
      have HS := StL.start w
      have hltz : (k : Int) < (s.size : Int) := by omega
      have h0 : (bs s).drop k ≠ [] := List.ne_nil_of_length_pos (by rw [List.length_drop, ← size_bs]; omega)
      have hx : (¬ (1 ≤ M ∧ M ≤ 4) ∧ (bs s).drop k = (bs s).drop k) ∨ ((1 ≤ M ∧ M ≤ 4) ∧ rawT M E ((bs s).drop k) = [] ∧ (bs s).drop k = ((bs s).drop k).drop (rawN M E ((bs s).drop k))) := .inl ⟨hM, rfl⟩
      obtain ⟨p, hpk, hp⟩ : ∃ p, p = k ∧ p < s.size := ⟨k, rfl, hlt⟩
      subst hpk
      have HIH := Lib.hid IH
      clear IH
      rcases hmo with hm1 | ⟨hm1, hm2⟩
      all_goals
        have hp0 : (bs s).drop p ≠ [] := List.ne_nil_of_length_pos (by rw [List.length_drop, ← size_bs]; omega)
        have HTB := Lib.hid (fun w => beginsR_in s p w hs hp)
        have HNB := Lib.hid (fun w => refNoteBegins_at s p w hs (by omega))
        cases hb1 : beginsTag ((bs s).drop p) with
        | true =>
          rw [hb1] at HTB
          cases hrt : readTag ((bs s).drop p) with
          | none =>
            have hq : Q = (tokLast, []) := by rw [← HQ.out]; exact nx_some h0 hx hp0 (st_none cd _ hb1 hrt)
            subst hq
            have HTR := Lib.hid (fun w => tagReadR_none s p w hs hp hb1 hrt)
            clear hrt hb1 HQ HIH
            go_enter Tryz.func11, Tryz.ntmps11
            go_upto_region 2 with (fail)
            generalize (w.alloc (.cells tokZero 29)).alloc (.cells (tokCells 6 ⟨#[]⟩ (.slice none 0 0) false ⟨#[]⟩) 29) = W at *
            go_wp2_with fail
            refine (HTB.out _).mono ?_; rintro e w2 ⟨rfl, hB2⟩
            replace HS := HS.go hB2
            clear hB2
            go_wp2_with fail
            refine (HTR.out _).mono ?_; rintro e w3 ⟨⟨px, nx, cx, rfl⟩, hB3⟩
            replace HS := (HS.go hB3).go ((Below.refl _ w3).alloc (Nat.le_refl _) (.cells #[.int .u8 0, .string ⟨#[]⟩, .slice px nx cx, .bool false, .string ⟨#[]⟩] 29))
            clear hB3
            go_upto_region 15 with (fail)
            generalize w3.alloc (.cells #[.int .u8 0, .string ⟨#[]⟩, .slice px nx cx, .bool false, .string ⟨#[]⟩] 29) = W3 at *
            have hlt0 := lt_of_block HS.blk0
            obtain ⟨⟨z0, z1, z2, z3, z4⟩, f0, f1, f2, f3, f4⟩ := five HS.blk0
            have hlt1 := lt_of_block HS.blk1
            obtain ⟨⟨y0, y1, y2, y3, y4⟩, g0, g1, g2, g3, g4⟩ := five HS.blk1
            go_wp2_with fail
            exact ret_cell_tmp rfl rfl rfl (set5_row HS.blk0) Tryz.underlying29 rfl (by kernel_rfl) ⟨⟨_, ret_note (by simp [resOf]), tokval_plain 6 []⟩, set5_below HS.bel (Nat.le_refl _) _ _ _ _ _⟩
          | some o =>
            have hq : Q = (tokOf o, o.rest) := by rw [← HQ.out]; exact nx_some h0 hx hp0 (st_some cd _ o hb1 hrt)
            subst hq
            have HTR := Lib.hid (fun w => tagReadR_some s p w hs hp hb1 o hrt)
            clear hrt hb1 HQ HIH
            obtain ⟨kd, nm, at_, cl, rest⟩ := o
            dsimp only at HTR
            generalize hN : s.size - rest.length = N at *
            have HN := Lib.hid hN
            clear hN
            go_enter Tryz.func11, Tryz.ntmps11
            go_upto_region 2 with (fail)
            generalize (w.alloc (.cells tokZero 29)).alloc (.cells (tokCells 6 ⟨#[]⟩ (.slice none 0 0) false ⟨#[]⟩) 29) = W at *
            go_wp2_with fail
            refine (HTB.out _).mono ?_; rintro e w2 ⟨rfl, hB2⟩
            replace HS := HS.go hB2
            clear hB2
            go_wp2_with fail
            refine (HTR.out _).mono ?_; rintro e w3 ⟨⟨px, nx, cx, rfl, hax⟩, hB3⟩
            have hlt2 := lt_of_block HS.blk0
            have hbox := heap_alloc_new w3 (.cells #[.int .u8 kd, .string (mk nm), .slice px nx cx, .bool cl, .string ⟨#[]⟩] 29)
            have hax3 := (hax.below ((Below.refl _ w3).alloc (Nat.le_refl _) (.cells #[.int .u8 kd, .string (mk nm), .slice px nx cx, .bool cl, .string ⟨#[]⟩] 29)))
            have hbb : w.heap.size < w3.heap.size := Nat.lt_of_lt_of_le hlt2 hB3.size
            replace HS := (HS.go hB3).go ((Below.refl _ w3).alloc (Nat.le_refl _) (.cells #[.int .u8 kd, .string (mk nm), .slice px nx cx, .bool cl, .string ⟨#[]⟩] 29))
            clear hB3 hax
            go_upto_region 16 with (fail)
            generalize w3.alloc (.cells #[.int .u8 kd, .string (mk nm), .slice px nx cx, .bool cl, .string ⟨#[]⟩] 29) = W3 at *
            have hlt1 := lt_of_block hbox
            obtain ⟨⟨y0, y1, y2, y3, y4⟩, g0, g1, g2, g3, g4⟩ := five hbox
            clear hbox
            have hlt0 := lt_of_block HS.blk0
            obtain ⟨⟨z0, z1, z2, z3, z4⟩, f0, f1, f2, f3, f4⟩ := five HS.blk0
            go_wp2_with fail
            exact ret_cell_tmp rfl rfl rfl (set5_row HS.blk0) Tryz.underlying29 rfl (by kernel_rfl) ⟨⟨_, ret_note (by show (N : Int) = ((s.size - rest.length : Nat) : Int); rw [HN.out]), ⟨_, rfl, (atts_set5 hax3 hlt2 _ _ _ _ _).mono (Nat.le_of_lt hlt2)⟩⟩, set5_below HS.bel (Nat.le_refl _) _ _ _ _ _⟩
        | false =>
          rw [hb1] at HTB
          cases hb2 : beginsNote ((bs s).drop p) with
          | false =>
            rw [hb2] at HNB
            have hq : Q = (tokText (dec false (((bs s).drop p).take (1 + upMark ((bs s).drop p).tail))), ((bs s).drop p).drop (1 + upMark ((bs s).drop p).tail)) := by rw [← HQ.out]; exact nx_some h0 hx hp0 (st_text cd _ hb1 hb2)
            have htl : ((bs s).drop p).tail = (bs s).drop (p + 1) := by rw [List.tail_drop]
            rw [htl] at hq
            have hul := upMark_le ((bs s).drop (p + 1))
            rw [List.length_drop, ← size_bs] at hul
            have HM := Lib.hid (fun k hk w => refMarkup_in s k w hs hk)
            obtain ⟨u, hu⟩ : ∃ u, u = upMark ((bs s).drop (p + 1)) := ⟨_, rfl⟩
            rw [← hu] at hq hul
            have HD : Hid (∀ w, Calls Tryz.prog 28 #[.string (s.extract p (p + 1 + u)), .bool false] w fun e w' => e = .returned (.string (mk (dec false (((bs s).drop p).take (1 + u))))) ∧ Below w.heap.size w w') := fun w => by
              have := decodeR_any (s.extract p (p + 1 + u)) false w (by rw [ByteArray.size_extract]; omega)
              rwa [bs_extract, show p + 1 + u - p = 1 + u from by omega] at this
            obtain ⟨z, hz⟩ : ∃ z, z = p + 1 + u := ⟨_, rfl⟩
            rw [← hz] at HD
            have hzs : (z : Int) ≤ (s.size : Int) := by omega
            have hpz : (p : Int) ≤ (z : Int) := by omega
            have hplace : s.size - (((bs s).drop p).drop (1 + u)).length = z := by rw [List.length_drop, List.length_drop, ← size_bs]; omega
            have HPl := Lib.hid hplace
            have HU : Hid (p + 1 + upMark ((bs s).drop (p + 1)) = z) := by show _ = _; omega
            generalize dec false (((bs s).drop p).take (1 + u)) = T at *
            generalize ((bs s).drop p).drop (1 + u) = R at *
            subst hq
            clear hb1 hb2 HQ hplace htl hul hz hu HIH
            go_enter Tryz.func11, Tryz.ntmps11
            go_upto_region 2 with (fail)
            generalize (w.alloc (.cells tokZero 29)).alloc (.cells (tokCells 6 ⟨#[]⟩ (.slice none 0 0) false ⟨#[]⟩) 29) = W at *
            go_wp2_with fail
            refine (HTB.out _).mono ?_; rintro e w2 ⟨rfl, hB2⟩
            replace HS := HS.go hB2
            clear hB2
            go_wp2_with fail
            refine (HNB.out _).mono ?_; rintro e w3 ⟨rfl, hB3⟩
            replace HS := HS.go hB3
            clear hB3
            go_wp2_with fail
            go_loopw [22] (fun v22 wr => ∃ j : Nat, v22 = .int .i64 j ∧ j ≤ s.size ∧ Hid (j + upMark ((bs s).drop j) = z) ∧ StL w.heap.size w wr w.heap.size (w.heap.size + 1)) (fun v22 _ => s.size - (intOf v22).toNat)
            case atStart => exact ⟨p + 1, by go_num, by omega, HU, HS⟩
            case round =>
              clear HS
              obtain ⟨j, rfl, hj, HJ, HS⟩ := hrel
              by_cases hjl : j < s.size
              · have hjz : (j : Int) < (s.size : Int) := by omega
                have HMj := HM.out j hjl
                have hgo := upMark_go ((bs s).drop j) (by rw [List.length_drop, ← size_bs]; omega)
                have hst := upMark_stop ((bs s).drop j)
                rw [List.drop_drop] at hgo
                have HJ2 := HJ.out
                generalize markup ((bs s).drop j) = b at *
                cases b with
                | true =>
                  rw [hst rfl] at HJ2
                  obtain rfl : z = j := by omega
                  have HMj := Lib.hid HMj
                  clear HJ2 hgo hst HJ
                  go_wp2_with fail
                  refine (HMj.out _).mono ?_; rintro e w4 ⟨rfl, hB4⟩
                  replace HS := HS.go hB4
                  clear hB4
                  go_wp2_with fail
                  refine (HD.out _).mono ?_; rintro e w5 ⟨rfl, hB5⟩
                  replace HS := HS.go hB5
                  clear hB5
                  have hlt0 := lt_of_block HS.blk0
                  obtain ⟨⟨z0, z1, z2, z3, z4⟩, f0, f1, f2, f3, f4⟩ := five HS.blk0
                  go_wp2_with fail
                  exact ret_cell_tmp rfl rfl rfl (set5_row HS.blk0) Tryz.underlying29 rfl (by kernel_rfl) ⟨⟨_, ret_note (by show (z : Int) = ((s.size - R.length : Nat) : Int); rw [HPl.out]), tokval_plain 1 T⟩, set5_below HS.bel (Nat.le_refl _) _ _ _ _ _⟩
                | false =>
                  rw [hgo rfl] at HJ2
                  have HJ3 : Hid (j + 1 + upMark ((bs s).drop (j + 1)) = z) := by show _ = _; omega
                  have HMj := Lib.hid HMj
                  clear HJ2 hgo hst HJ
                  go_wp2_with fail
                  refine (HMj.out _).mono ?_; rintro e w4 ⟨rfl, hB4⟩
                  replace HS := HS.go hB4
                  clear hB4
                  go_wp2_with fail
                  go_roundw
                  case rel => exact ⟨j + 1, by go_num, by omega, HJ3, HS⟩
                  case measure => simp [intOf]; omega
              · have hjz : ¬ (j : Int) < (s.size : Int) := by omega
                have hzj : j = z := by
                  have h1 := HJ.out
                  have : upMark ((bs s).drop j) = 0 := by rw [List.drop_eq_nil_of_le (by rw [← size_bs]; omega)]; exact upMark_nil
                  omega
                obtain rfl : z = j := hzj.symm
                clear HJ hzj
                go_wp2_with fail
                refine (HD.out _).mono ?_; rintro e w5 ⟨rfl, hB5⟩
                replace HS := HS.go hB5
                clear hB5
                have hlt0 := lt_of_block HS.blk0
                obtain ⟨⟨z0, z1, z2, z3, z4⟩, f0, f1, f2, f3, f4⟩ := five HS.blk0
                go_wp2_with fail
                exact ret_cell_tmp rfl rfl rfl (set5_row HS.blk0) Tryz.underlying29 rfl (by kernel_rfl) ⟨⟨_, ret_note (by show (z : Int) = ((s.size - R.length : Nat) : Int); rw [HPl.out]), tokval_plain 1 T⟩, set5_below HS.bel (Nat.le_refl _) _ _ _ _ _⟩
          | true =>
            rw [hb2] at HNB
            have hnl := noteL_le cd _ hb2
            rw [List.length_drop, ← size_bs] at hnl
            have HR := Lib.hid (fun w => refNoteRead_in s p cd w hs9 hb2)
            by_cases hk0 : (noteL cd ((bs s).drop p)).1 = 0
            · have hq : Hid (nextL M E cd ((bs s).drop (p + (noteL cd ((bs s).drop p)).2.2)) = Q) := by show _ = _; rw [← HQ.out, ← List.drop_drop]; exact (nx_none h0 hx hp0 (st_skip cd _ hb1 hb2 hk0)).symm
              generalize noteL cd ((bs s).drop p) = q at *
              obtain ⟨kd, t, n⟩ := q
              dsimp only at hk0 hnl hq
              subst hk0
              have HI : Hid (∀ w, Calls Tryz.prog 11 #[.string s, .int .i64 ((p : Int) + (n : Int)), .int .u8 m, .string name, .bool cd] w (TokPost w (resOf s.size Q))) := fun w => HIH.out (p + n) (by omega) (by omega) hq w
              clear hb1 hb2 HQ HIH
              generalize resOf s.size Q = RQ at *
              obtain ⟨⟨rk, rn, ra, rc, rt⟩, ri⟩ := RQ
              go_enter Tryz.func11, Tryz.ntmps11
              go_upto_region 2 with (fail)
              generalize (w.alloc (.cells tokZero 29)).alloc (.cells (tokCells 6 ⟨#[]⟩ (.slice none 0 0) false ⟨#[]⟩) 29) = W at *
              go_wp2_with fail
              refine (HTB.out _).mono ?_; rintro e w2 ⟨rfl, hB2⟩
              replace HS := HS.go hB2
              clear hB2
              go_wp2_with fail
              refine (HNB.out _).mono ?_; rintro e w3 ⟨rfl, hB3⟩
              replace HS := HS.go hB3
              clear hB3
              go_wp2_with fail
              refine (HR.out _).mono ?_; rintro e w4 ⟨rfl, hB4⟩
              replace HS := HS.go (hB4.alloc hB4.size (.cells #[.int .u8 0, .string ⟨#[]⟩, .slice none 0 0, .bool false, .string (mk t)] 29))
              clear hB4
              go_wp2_with fail
              refine (HI.out _).mono ?_; rintro e w5 ⟨⟨v5, rfl, ⟨x5, rfl, hax⟩⟩, hB5⟩
              obtain ⟨px, nx, cx, rfl⟩ := hax.shape
              have hlt2 := lt_of_block HS.blk0
              rw [World.size_alloc] at hlt2
              replace HS := HS.go hB5
              clear hB5
              dsimp only
              have hlt0 := lt_of_block HS.blk0
              obtain ⟨⟨z0, z1, z2, z3, z4⟩, f0, f1, f2, f3, f4⟩ := five HS.blk0
              go_wp2_with fail
              exact ret_cell_tmp rfl rfl rfl (set5_row HS.blk0) Tryz.underlying29 rfl (by kernel_rfl) ⟨⟨_, ret_note rfl, ⟨_, rfl, (atts_set5 hax (by rw [World.size_alloc]; exact hlt2) _ _ _ _ _).mono (by rw [World.size_alloc]; exact Nat.le_of_lt hlt2)⟩⟩, set5_below HS.bel (Nat.le_refl _) _ _ _ _ _⟩
            · have hq : Q = (noteTok (noteL cd ((bs s).drop p)), ((bs s).drop p).drop (noteL cd ((bs s).drop p)).2.2) := by rw [← HQ.out]; exact nx_some h0 hx hp0 (st_note cd _ hb1 hb2 hk0)
              have hplace : s.size - (((bs s).drop p).drop (noteL cd ((bs s).drop p)).2.2).length = p + (noteL cd ((bs s).drop p)).2.2 := by rw [List.length_drop, List.length_drop, ← size_bs]; omega
              have HPl := Lib.hid hplace
              generalize ((bs s).drop p).drop (noteL cd ((bs s).drop p)).2.2 = R at *
              generalize noteL cd ((bs s).drop p) = q at *
              obtain ⟨kd, t, n⟩ := q
              dsimp only at hk0 hnl hq HPl
              have hkz : (((kd : Nat) : Int) == 0) = false := by rw [beq_eq_false_iff_ne]; omega
              have hkz2 : ¬ ((kd : Nat) : Int) = 0 := by omega
              subst hq
              clear hb1 hb2 HQ hplace hk0 HIH
              go_enter Tryz.func11, Tryz.ntmps11
              go_upto_region 2 with (fail)
              generalize (w.alloc (.cells tokZero 29)).alloc (.cells (tokCells 6 ⟨#[]⟩ (.slice none 0 0) false ⟨#[]⟩) 29) = W at *
              go_wp2_with fail
              refine (HTB.out _).mono ?_; rintro e w2 ⟨rfl, hB2⟩
              replace HS := HS.go hB2
              clear hB2
              go_wp2_with fail
              refine (HNB.out _).mono ?_; rintro e w3 ⟨rfl, hB3⟩
              replace HS := HS.go hB3
              clear hB3
              go_wp2_with fail
              refine (HR.out _).mono ?_; rintro e w4 ⟨rfl, hB4⟩
              have hbox := heap_alloc_new w4 (.cells #[.int .u8 kd, .string ⟨#[]⟩, .slice none 0 0, .bool false, .string (mk t)] 29)
              replace HS := HS.go (hB4.alloc hB4.size (.cells #[.int .u8 kd, .string ⟨#[]⟩, .slice none 0 0, .bool false, .string (mk t)] 29))
              clear hB4
              go_upto_region 20 with (fail)
              generalize w4.alloc (.cells #[.int .u8 kd, .string ⟨#[]⟩, .slice none 0 0, .bool false, .string (mk t)] 29) = W4 at *
              have hlt1 := lt_of_block hbox
              obtain ⟨⟨y0, y1, y2, y3, y4⟩, g0, g1, g2, g3, g4⟩ := five hbox
              clear hbox
              have hlt0 := lt_of_block HS.blk0
              obtain ⟨⟨z0, z1, z2, z3, z4⟩, f0, f1, f2, f3, f4⟩ := five HS.blk0
              go_wp2_with fail
              exact ret_cell_tmp rfl rfl rfl (set5_row HS.blk0) Tryz.underlying29 rfl (by kernel_rfl) ⟨⟨_, ret_note (by show _ = ((s.size - R.length : Nat) : Int); rw [HPl.out]; omega), tokval_plain kd t⟩, set5_below HS.bel (Nat.le_refl _) _ _ _ _ _⟩
    · obtain rfl : k = s.size := by omega
      have hq : Q = (tokLast, []) := by rw [← HQ.out, List.drop_eq_nil_of_le (by rw [← size_bs]; omega)]; exact nextL_nil _ _ _
      subst hq
      exact refNext_out s name s.size m cd w hs (.inr ⟨by omega, Int.le_refl _⟩)
end Tym
