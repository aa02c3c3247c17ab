/- The walk of the tag's reader: attr, where a value stands. What the reader's attr does, whatever stands there. The walks of Begins, of both. Lists of attributes as they lie in memory; what looks through them. What is wanted of memory in the walk of Read. -/
import Derived.Test.YtpgdkhdnnegmaaaGreatTagC
import Derived.Scope

namespace Tym
set_option linter.unusedSimpArgs false
set_option linter.unusedVariables false
open Go Go.RowKit Go.Proofs
set_option maxRecDepth 20000

set_option maxHeartbeats 4000000 in
theorem attr_value (b : Nat) (s : ByteArray) (k k2 k3 : Nat) (w : World) (hs : s.size ≤ 1000000) (hk : k < s.size) (hb : RdAt w b s k) (h2 : skip keyB s (k + 1) = k2) (h3 : skip isSpace s k2 = k3) (nm : ByteArray) (hnm : nm = mk (lower (bs (s.extract k k2))))
    (v0 : ByteArray) (k4 : Nat) (ok : Bool) (hk3 : k3 < s.size) (HV : Hid (∀ w, RdAt w b s (k3 + 1) → Calls Tryz.prog 67 #[.pointer (some ⟨b, 0, none⟩)] w fun e w' => (∃ v, e = .returned (.tuple #[.string v, .bool ok]) ∧ (ok = true → v = v0 ∧ RdAt w' b s k4)) ∧ w.grownBy w' (some b)))
    (H5 : Hid (∀ w, RdAt w b s k3 → Calls Tryz.prog 37 #[.pointer (some ⟨b, 0, none⟩)] w fun e w' => e = .returned (.tuple #[.int .u8 61, .bool true]) ∧ Below w.heap.size w w')) :
    Calls Tryz.prog 39 #[.pointer (some ⟨b, 0, none⟩)] w fun e w' => (∃ v, e = .returned (.tuple #[.agg #[.string nm, .string v], .bool ok]) ∧ (ok = true → v = v0 ∧ RdAt w' b s k4)) ∧ w.grownBy w' (some b) := by
  have hs2 := skip_le keyB s (k + 1) (by omega)
  have hs3 := skip_le isSpace s k2 (by omega)
  have HB := Lib.hid hb
  have H1 : Hid (∀ w, RdAt w b s (k + 1) → Calls Tryz.prog 34 #[.pointer (some ⟨b, 0, none⟩), .func (.func 66) #[] #[]] w fun e w' =>
      e = .returned (.string (s.extract (k + 1) k2)) ∧ RdAt w' b s k2 ∧ w.grownBy w' (some b)) := fun w hb => by rw [← h2]; exact take_skip _ _ keyB b s (k + 1) w hs (by omega) hb (pays_key w b)
  have H2 : Hid (∀ w, Calls Tryz.prog 29 #[.string (s.extract k k2)] w fun e w' => e = .returned (.string nm) ∧ Below w.heap.size w w') := fun w => by rw [hnm]; exact lower_any _ w (by rw [ByteArray.size_extract]; omega)
  have H3 : Hid (∀ w, RdAt w b s k2 → Calls Tryz.prog 34 #[.pointer (some ⟨b, 0, none⟩), .func (.func 36) #[] #[]] w fun e w' =>
      e = .returned (.string (s.extract k2 k3)) ∧ RdAt w' b s k3 ∧ w.grownBy w' (some b)) := fun w hb => by rw [← h3]; exact take_skip _ _ isSpace b s k2 w hs (by omega) hb (pays_space w b)
  have c0 := two_cell0 hb
  have c1 := two_cell1 hb
  have f1 := two_free1 hb
  have hlt := lt_of_block hb
  rw [h2] at hs2
  have hb' := hb.step
  clear hb h2 h3 hnm
  go_enter Tryz.func39, Tryz.ntmps39
  go_wp2_with fail
  refine (H1.out _ (hb'.alloc _)).mono ?_; rintro e w1 ⟨rfl, hb1, hg1⟩
  have hr1 := grown_block hg1 (set_alloc_new _ _ _ _) (by simp; omega)
  clear c0 c1 f1
  have c0 := two_cell0 hb1
  have c1 := two_cell1 hb1
  have hlt1 := lt_of_block hb1
  go_wp2_with fail
  go_cut [5] from 23 to 34 (fun v5 wx => ∃ ba : Nat, v5 = .pointer (some ⟨ba, 0, none⟩) ∧ w1.heap.size ≤ ba ∧ wx.heap[ba]? = some (.cells #[.string nm, .string ⟨#[]⟩] 59 (0, 0)) ∧ Below w1.heap.size w1 wx)
  case first =>
    go_region_with (go_at_call 29; (with_reducible refine (H2.out _).mono ?_); rintro e w2 ⟨rfl, hB2⟩; try (have hx : w2.heap[w1.heap.size]? = some (.cells #[.string ⟨#[]⟩, .string ⟨#[]⟩] 59 (0, 0)) := below_block hB2 (heap_alloc_new _ _); have x0 := two_cell0 hx; have x1 := two_cell1 hx; have y0 := two_free0 hx; have y1 := two_free1 hx))
    all_goals (go_wp2_with fail; go_meet)
    all_goals first
      | exact ⟨_, rfl, hB2.size, heap_alloc_new _ _, (show Below w1.heap.size w1 w2 from ⟨hB2.os, hB2.tape, hB2.output, hB2.size, hB2.block⟩).alloc hB2.size _⟩
      | exact ⟨_, rfl, Nat.le_refl _, row_set (row_set hx 0 _) 1 _, ((below_alloc_then (below_undrew hB2)).setCell (p := ⟨w1.heap.size, 0, none⟩) (Nat.le_refl _) _).setCell (p := ⟨w1.heap.size, 1, none⟩) (Nat.le_refl _) _⟩
  case rest =>
    obtain ⟨ba, rfl, hba, hbk, hbl⟩ := hcut
    have hb2 := hb1.below hbl
    have hr2 := below_block hbl hr1
    clear c0 c1
    go_wp2_with fail
    refine (H3.out _ hb2).mono ?_; rintro e w3 ⟨rfl, hb3, hg3⟩
    go_wp2_with fail
    refine (H5.out _ hb3).mono ?_; rintro e w4 ⟨rfl, hB4⟩
    have hrl := lt_of_block hr1
    have hbk4 := below_block hB4 (grown_block hg3 hbk (by simp; omega))
    have hr4 := below_block hB4 (grown_block hg3 hr2 (by simp; omega))
    have a0 := two_cell0 hbk4
    have a1 := two_cell1 hbk4
    have r0 := two_cell0 hr4
    have r1 := two_cell1 hr4
    have s0 := two_free0 hr4
    have s1 := two_free1 hr4
    have hne : w.heap.size ≠ ba := by omega
    have G : w.grownBy w4 (some b) := grown_trans (grown_trans (grown_trans (grown_trans (grown_alloc (grown_set w ⟨b, 1, none⟩ _) _) hg1) (grown_below hbl _)) hg3) (grown_below hB4 _)
    have hb4 := hb3.below hB4
    have d1 := two_cell1 hb4
    have e1 := two_free1 hb4
    go_wp2_with fail
    have g5 := grown_trans G (grown_set w4 ⟨b, 1, none⟩ (.int .i64 ((k3 : Int) + 1)))
    have hbk5 := block_other (a := ⟨b, 1, none⟩) hbk4 (by show ba ≠ b; have := lt_of_block hb1; omega) (.int .i64 ((k3 : Int) + 1))
    have hr5 := block_other (a := ⟨b, 1, none⟩) hr4 (by show w.heap.size ≠ b; omega) (.int .i64 ((k3 : Int) + 1))
    clear a0 a1 r0 r1 s0 s1 d1 e1
    refine (HV.out _ hb4.step).mono ?_; rintro e w6 ⟨⟨v, rfl, HK⟩, hg6⟩
    have HK := Lib.hid HK
    have hlb := lt_of_block hb1
    have hbk6 := grown_block hg6 hbk5 (by simp; omega)
    have hr6 := grown_block hg6 hr5 (by simp; omega)
    have g6 := grown_trans g5 hg6
    have a0 := two_cell0 hbk6
    have a1 := two_cell1 hbk6
    have z0 := two_free0 hbk6
    have z1 := two_free1 hbk6
    have r0 := two_cell0 hr6
    have r1 := two_cell1 hr6
    have s0 := two_free0 hr6
    have s1 := two_free1 hr6
    go_wp2_with fail
    have hne1 : w.heap.size ≠ ba := by omega
    have hne2 : b ≠ ba := by omega
    have hne3 : b ≠ w.heap.size := by omega
    exact ret_cell_tmp rfl rfl rfl (row_set (row_set (block_other hr6 hne1 _) 0 _) 1 _) Tryz.underlying59 rfl (by kernel_rfl) ⟨⟨v, rfl, fun h => ⟨(HK.out h).1, block_other (block_other (block_other (HK.out h).2 hne2 _) hne3 _) hne3 _⟩⟩,
      grown_setNew (grown_setNew (grown_setNew g6 (by show w.heap.size ≤ ba; omega) _) (Nat.le_refl _) _) (Nat.le_refl _) _⟩
end Tym

namespace Tym
set_option linter.unusedSimpArgs false
set_option linter.unusedVariables false
open Go Go.RowKit Go.Proofs
set_option maxRecDepth 20000

theorem name_text (p : UInt8 → Bool) (s : ByteArray) (k : Nat) (c : UInt8) (t : Bs) (hd : (bs s).drop k = c :: t) (ht : (bs s).drop (k + 1) = t) : bs (s.extract k (skip p s (k + 1))) = c :: t.takeWhile p := by
  rw [bs_extract, hd]
  unfold skip
  rw [ht, show k + 1 + (t.takeWhile p).length - k = (t.takeWhile p).length + 1 from by omega, List.take_succ_cons, ← take_while_take]

/-- What an attribute is that begins with the byte c, and where the reader is behind it. -/
theorem attr_some (b : Nat) (s : ByteArray) (k : Nat) (w : World) (hs : s.size ≤ 1000000) (hk : k < s.size) (hb : RdAt w b s k) (c : UInt8) (t : Bs) (hd : (bs s).drop k = c :: t) (n v u : Bs) (h : attrOf c t = some ((n, v), u)) :
    Calls Tryz.prog 39 #[.pointer (some ⟨b, 0, none⟩)] w fun e w' => e = .returned (.tuple #[.agg #[.string (mk n), .string (mk v)], .bool true]) ∧ RdAt w' b s (s.size - u.length) ∧ w.grownBy w' (some b) := by
  obtain ⟨_, hc, ht⟩ := drop_cons_get s k c t hd
  have hs2 := skip_le keyB s (k + 1) (by omega)
  have hs3 := skip_le isSpace s (skip keyB s (k + 1)) (by omega)
  have hd2 := skip_drop keyB s (k + 1)
  have hd3 := skip_drop isSpace s (skip keyB s (k + 1))
  rw [ht] at hd2
  rw [hd2] at hd3
  have hn : mk (lower (bs (s.extract k (skip keyB s (k + 1))))) = mk (lower (c :: t.takeWhile keyB)) := by rw [name_text keyB s k c t hd ht]
  unfold attrOf at h
  cases hr : (t.dropWhile keyB).dropWhile isSpace with
  | nil =>
    rw [hr] at h hd3
    simp only [Option.some.injEq, Prod.mk.injEq] at h
    obtain ⟨⟨rfl, rfl⟩, rfl⟩ := h
    have he := (drop_nil_iff s _ hs3.2).1 hd3
    have := attr_plain b s k _ _ w hs hk hb rfl rfl _ hn.symm 0 false (fun h => by cases h) (fun w hb => see_out b s _ w hs he hb)
    rw [drop_len s _ _ hs3.2 hd3] at this
    exact this
  | cons d x =>
    rw [hr] at h hd3
    simp only at h
    obtain ⟨hlt3, hc3, ht3⟩ := drop_cons_get s _ d x hd3
    by_cases hq : d = 61
    · rw [if_pos hq] at h
      cases hv : valueOf x with
      | none => rw [hv] at h; cases h
      | some p =>
        rw [hv] at h
        simp only [Option.some.injEq, Prod.mk.injEq] at h
        have := attr_value b s k _ _ w hs hk hb rfl rfl _ hn.symm (mk p.1) (s.size - p.2.length) true hlt3
          (fun w hb => (value_some b s _ w hs (by omega) hb p.1 p.2 (by rw [ht3]; exact hv)).mono fun _ _ h => ⟨⟨_, h.1, fun _ => ⟨rfl, h.2.1⟩⟩, h.2.2⟩)
          (fun w hb => by have := see_in b s _ w hs hlt3 hb; rw [hc3, hq] at this; exact this)
        refine this.mono ?_
        rintro e w' ⟨⟨v', rfl, hv'⟩, hg⟩
        obtain ⟨rfl, hr'⟩ := hv' rfl
        rw [h.1.1, h.1.2, h.2] at *
        exact ⟨rfl, hr', hg⟩
    · rw [if_neg hq] at h
      simp only [Option.some.injEq, Prod.mk.injEq] at h
      have := attr_plain b s k _ _ w hs hk hb rfl rfl _ hn.symm (d.toNat : Int) true (fun _ => by rw [bne_iff_ne]; intro h; apply hq; exact UInt8.toNat.inj (by simpa using (by omega : d.toNat = 61)))
        (fun w hb => by have := see_in b s _ w hs hlt3 hb; rw [hc3] at this; exact this)
      rw [h.1.1, drop_len s _ _ hs3.2 hd3, h.2] at this
      rw [← h.1.2]
      exact this

theorem attr_none (b : Nat) (s : ByteArray) (k : Nat) (w : World) (hs : s.size ≤ 1000000) (hk : k < s.size) (hb : RdAt w b s k) (c : UInt8) (t : Bs) (hd : (bs s).drop k = c :: t) (h : attrOf c t = none) :
    Calls Tryz.prog 39 #[.pointer (some ⟨b, 0, none⟩)] w fun e w' => (∃ n v, e = .returned (.tuple #[.agg #[.string n, .string v], .bool false])) ∧ w.grownBy w' (some b) := by
  obtain ⟨_, hc, ht⟩ := drop_cons_get s k c t hd
  have hs2 := skip_le keyB s (k + 1) (by omega)
  have hs3 := skip_le isSpace s (skip keyB s (k + 1)) (by omega)
  have hd2 := skip_drop keyB s (k + 1)
  have hd3 := skip_drop isSpace s (skip keyB s (k + 1))
  rw [ht] at hd2
  rw [hd2] at hd3
  unfold attrOf at h
  cases hr : (t.dropWhile keyB).dropWhile isSpace with
  | nil => rw [hr] at h; cases h
  | cons d x =>
    rw [hr] at h hd3
    simp only at h
    obtain ⟨hlt3, hc3, ht3⟩ := drop_cons_get s _ d x hd3
    by_cases hq : d = 61
    · rw [if_pos hq] at h
      cases hv : valueOf x with
      | some p => rw [hv] at h; cases h
      | none =>
        have := attr_value b s k _ _ w hs hk hb rfl rfl _ rfl ⟨#[]⟩ 0 false hlt3
          (fun w hb => (value_none b s _ w hs (by omega) hb (by rw [ht3]; exact hv)).mono fun _ _ h => by obtain ⟨⟨t, h1⟩, h2⟩ := h; exact ⟨⟨t, h1, fun h => by cases h⟩, h2⟩)
          (fun w hb => by have := see_in b s _ w hs hlt3 hb; rw [hc3, hq] at this; exact this)
        refine this.mono ?_
        rintro e w' ⟨⟨v', rfl, hv'⟩, hg⟩
        exact ⟨⟨_, _, rfl⟩, hg⟩
    · rw [if_neg hq] at h; cases h
end Tym

namespace Tym
set_option linter.unusedSimpArgs false
set_option linter.unusedVariables false
open Go Go.RowKit Go.Proofs
set_option maxRecDepth 20000

def behindSlash (t : Bs) : Bs := if t.head? = some 47 then t.tail else t
theorem beginsTag_cons (c : UInt8) (t : Bs) : beginsTag (c :: t) = (c == 60 && (match behindSlash t with | [] => false | d :: _ => isLetter d)) := rfl

theorem trim_slash (s : ByteArray) (k : Nat) (w : World) : Calls Tryz.prog 32 #[.string (s.extract k s.size), .string ⟨#[47]⟩] w fun e w' => e = .returned (.string (mk (behindSlash ((bs s).drop k)))) ∧ w = w' := by
  refine (Tryz.strings_TrimPrefix _ _ w).mono ?_
  rintro e w' ⟨rfl, rfl⟩
  refine ⟨?_, rfl⟩
  have h : (s.extract k s.size).data.toList = (bs s).drop k := bs_from s k
  rw [h]
  refine ret_str (congrArg mk ?_)
  show Lib.trimPrefix ((bs s).drop k) [47] = _
  unfold Lib.trimPrefix behindSlash Lib.hasPrefix
  cases (bs s).drop k with
  | nil => rfl
  | cons c t =>
    by_cases hc : c = 47
    · subst hc; simp
    · have h1 : ¬ (47 : UInt8) = c := fun h => hc h.symm
      simp [List.isPrefixOf, hc, h1]

theorem begins_out (s : ByteArray) (i : Int) (w : World) (h : i < 0 ∨ (¬ i < 0 ∧ (s.size : Int) ≤ i)) : Calls Tryz.prog 13 #[.string s, .int .i64 i] w fun e w' => e = .returned (.bool false) ∧ Below w.heap.size w w' := by
  rcases h with h | ⟨h, h2⟩
  all_goals
    go_enter Tryz.func13, Tryz.ntmps13
    go_wp2_with fail
    go_ret
    exact ⟨rfl, Below.refl _ _⟩

theorem beginsR_out (s : ByteArray) (i : Int) (w : World) (hs : s.size ≤ 1000000) (h : i < 0 ∨ (¬ i < 0 ∧ (s.size : Int) - 1 ≤ i)) : Calls Tryz.prog 23 #[.string s, .int .i64 i] w fun e w' => e = .returned (.bool false) ∧ Below w.heap.size w w' := by
  rcases h with h | ⟨h, h2⟩
  all_goals
    go_enter Tryz.func23, Tryz.ntmps23
    go_wp2_with fail
    go_ret
    exact ⟨rfl, Below.refl _ _⟩

theorem begins_not (s : ByteArray) (k : Nat) (w : World) (hs : s.size ≤ 1000000) (hk : k < s.size) (hc : s[k]'hk ≠ 60) : Calls Tryz.prog 13 #[.string s, .int .i64 k] w fun e w' => e = .returned (.bool false) ∧ Below w.heap.size w w' := by
  have h1 : ¬ (k : Int) < 0 := by omega
  have h2 : ¬ (s.size : Int) ≤ (k : Int) := by omega
  have h3 : (((s[k]'hk).toNat : Int) != 60) = true := by rw [bne_iff_ne]; intro h; apply hc; exact UInt8.toNat.inj (by simpa using (by omega : (s[k]'hk).toNat = 60))
  go_enter Tryz.func13, Tryz.ntmps13
  go_wp2_with fail
  go_ret
  exact ⟨rfl, Below.refl _ _⟩

theorem begins_lt (s : ByteArray) (k : Nat) (w : World) (hs : s.size ≤ 1000000) (hk : k < s.size) (hc : s[k]'hk = 60) : Calls Tryz.prog 13 #[.string s, .int .i64 k] w fun e w' => e = .returned (.bool (match behindSlash ((bs s).drop (k + 1)) with | [] => false | d :: _ => isLetter d)) ∧ Below w.heap.size w w' := by
  have h1 : ¬ (k : Int) < 0 := by omega
  have h2 : ¬ (s.size : Int) ≤ (k : Int) := by omega
  have h3 : (((s[k]'hk).toNat : Int) != 60) = false := by rw [hc]; rfl
  have HT : Hid (∀ w, Calls Tryz.prog 32 #[.string (s.extract (k + 1) s.size), .string ⟨#[47]⟩] w fun e w' => e = .returned (.string (mk (behindSlash ((bs s).drop (k + 1))))) ∧ w = w') := fun w => trim_slash s (k + 1) w
  clear hc
  cases hb : behindSlash ((bs s).drop (k + 1)) with
  | nil =>
    rw [hb, show mk [] = (⟨#[]⟩ : ByteArray) from rfl] at HT
    clear hb
    go_enter Tryz.func13, Tryz.ntmps13
    go_wp2_with fail
    refine (HT.out _).mono ?_; rintro e w1 ⟨rfl, rfl⟩
    go_wp2_with fail
    go_ret
    exact ⟨rfl, Below.refl _ _⟩
  | cons d u =>
    rw [hb] at HT
    have HL : Hid (∀ w, Calls Tryz.prog 33 #[.int .u8 (d.toNat : Int)] w fun e w' => e = .returned (.bool (isLetter d)) ∧ w = w') := fun w => letter_any d w
    have hx : ∃ x : ByteArray, x = mk (d :: u) ∧ ∃ h : 0 < x.size, x[0]'h = d ∧ (x.toList.isEmpty = false) ∧ (0 : Int) < (x.size : Int) := ⟨_, rfl, by rw [size_mk]; simp, by rw [get_bs, bs_mk]; rfl, by rw [Lib.toList_data]; rfl, by rw [size_mk]; simp⟩
    obtain ⟨x, hxe, hx0, hxd, hxe2, hxi⟩ := hx
    rw [← hxe] at HT
    clear hb hxe
    simp only
    generalize isLetter d = b at *
    go_enter Tryz.func13, Tryz.ntmps13
    go_wp2_with fail
    refine (HT.out _).mono ?_; rintro e w1 ⟨rfl, rfl⟩
    go_wp2_with fail
    refine (HL.out _).mono ?_; rintro e w1 ⟨rfl, rfl⟩
    go_wp2_with fail
    go_ret
    exact ⟨rfl, Below.refl _ _⟩

theorem begins_in (s : ByteArray) (k : Nat) (w : World) (hs : s.size ≤ 1000000) (hk : k < s.size) : Calls Tryz.prog 13 #[.string s, .int .i64 k] w fun e w' => e = .returned (.bool (beginsTag ((bs s).drop k))) ∧ Below w.heap.size w w' := by
  rw [drop_bs s k hk, beginsTag_cons]
  by_cases hc : s[k]'hk = 60
  · rw [show (s[k]'hk == 60) = true from by rw [hc]; rfl, Bool.true_and]; exact begins_lt s k w hs hk hc
  · rw [show (s[k]'hk == 60) = false from by simpa using hc, Bool.false_and]; exact begins_not s k w hs hk hc
theorem beginsR_in (s : ByteArray) (k : Nat) (w : World) (hs : s.size ≤ 1000000) (hk : k < s.size) : Calls Tryz.prog 23 #[.string s, .int .i64 k] w fun e w' => e = .returned (.bool (beginsTag ((bs s).drop k))) ∧ Below w.heap.size w w' := by
  by_cases hl : (s.size : Int) - 1 ≤ (k : Int)
  · have hb : beginsTag ((bs s).drop k) = false := by
      rw [drop_bs s k hk, beginsTag_cons, List.drop_eq_nil_of_le (by rw [← size_bs]; omega)]
      simp [behindSlash]
    rw [hb]
    exact beginsR_out s k w hs (.inr ⟨by omega, hl⟩)
  · have hk1 : k + 1 < s.size := by omega
    have h1 : ¬ (k : Int) < 0 := by omega
    rw [drop_bs s k hk, beginsTag_cons, drop_bs s (k + 1) hk1]
    by_cases hc : s[k]'hk = 60
    · have h3 : (((s[k]'hk).toNat : Int) != 60) = false := by rw [hc]; rfl
      rw [show (s[k]'hk == 60) = true from by rw [hc]; rfl, Bool.true_and]
      clear hc
      by_cases h47 : s[k + 1]'hk1 = 47
      · have h4 : (((s[k + 1]'hk1).toNat : Int) == 47) = true := by rw [h47]; rfl
        rw [show behindSlash (s[k + 1]'hk1 :: (bs s).drop (k + 1 + 1)) = (bs s).drop (k + 1 + 1) from by unfold behindSlash; rw [h47]; simp]
        clear h47
        by_cases hk2 : k + 2 < s.size
        · have h5 : (k : Int) + 2 < (s.size : Int) := by omega
          rw [drop_bs s (k + 1 + 1) hk2]
          have HL : Hid (∀ w, Calls Tryz.prog 53 #[.int .u8 ((s[k + 2]'hk2).toNat : Int)] w fun e w' => e = .returned (.bool (isLetter (s[k + 2]'hk2))) ∧ w = w') := fun w => letterR_any _ w
          simp only
          generalize isLetter (s[k + 1 + 1]'hk2) = b at *
          go_enter Tryz.func23, Tryz.ntmps23
          go_wp2_with fail
          refine (HL.out _).mono ?_; rintro e w1 ⟨rfl, rfl⟩
          go_wp2_with fail
          go_ret
          exact ⟨rfl, Below.refl _ _⟩
        · have h5 : ¬ (k : Int) + 2 < (s.size : Int) := by omega
          rw [List.drop_eq_nil_of_le (by rw [← size_bs]; omega)]
          simp only
          go_enter Tryz.func23, Tryz.ntmps23
          go_wp2_with fail
          go_ret
          exact ⟨rfl, Below.refl _ _⟩
      · have h4 : (((s[k + 1]'hk1).toNat : Int) == 47) = false := by rw [Bool.eq_false_iff, Ne, beq_iff_eq]; intro h; apply h47; exact UInt8.toNat.inj (by simpa using (by omega : (s[k + 1]'hk1).toNat = 47))
        rw [show behindSlash (s[k + 1]'hk1 :: (bs s).drop (k + 1 + 1)) = s[k + 1]'hk1 :: (bs s).drop (k + 1 + 1) from by unfold behindSlash; rw [if_neg (by simpa using h47)]]
        have HL : Hid (∀ w, Calls Tryz.prog 53 #[.int .u8 ((s[k + 1]'hk1).toNat : Int)] w fun e w' => e = .returned (.bool (isLetter (s[k + 1]'hk1))) ∧ w = w') := fun w => letterR_any _ w
        clear h47
        simp only
        generalize isLetter (s[k + 1]'hk1) = b at *
        go_enter Tryz.func23, Tryz.ntmps23
        go_wp2_with fail
        refine (HL.out _).mono ?_; rintro e w1 ⟨rfl, rfl⟩
        go_wp2_with fail
        go_ret
        exact ⟨rfl, Below.refl _ _⟩
    · have h3 : (((s[k]'hk).toNat : Int) != 60) = true := by rw [bne_iff_ne]; intro h; apply hc; exact UInt8.toNat.inj (by simpa using (by omega : (s[k]'hk).toNat = 60))
      rw [show (s[k]'hk == 60) = false from by simpa using hc, Bool.false_and]
      go_enter Tryz.func23, Tryz.ntmps23
      go_wp2_with fail
      go_ret
      exact ⟨rfl, Below.refl _ _⟩
end Tym

namespace Tym
set_option linter.unusedSimpArgs false
set_option linter.unusedVariables false
open Go Go.RowKit Go.Proofs
set_option maxRecDepth 20000

def cellsA (a : Att) : List Value := [.string (mk a.1), .string (mk a.2)]
def flat (l : List Att) : List Value := l.flatMap cellsA
theorem flat_len (l : List Att) : (flat l).length = l.length * 2 := by
  induction l with
  | nil => rfl
  | cons a l ih => unfold flat at *; rw [List.flatMap_cons, List.length_append, ih, List.length_cons]; simp [cellsA]; omega
theorem flat_append (l m : List Att) : flat (l ++ m) = flat l ++ flat m := List.flatMap_append
theorem flat_get (l : List Att) : ∀ j (h : j < l.length), (flat l)[j * 2]? = some (.string (mk (l[j]'h).1)) ∧ (flat l)[j * 2 + 1]? = some (.string (mk (l[j]'h).2)) := by
  induction l with
  | nil => intro j h; simp at h
  | cons a l ih =>
    intro j h
    cases j with
    | zero => exact ⟨rfl, rfl⟩
    | succ j =>
      have := ih j (by simpa using h)
      have e : flat (a :: l) = .string (mk a.1) :: .string (mk a.2) :: flat l := rfl
      rw [e, show (j + 1) * 2 = j * 2 + 1 + 1 from by omega]
      simp only [List.getElem?_cons_succ, List.getElem_cons_succ]
      exact this

/-- A slice that reads as a list of attributes. -/
def AttsAt (w : World) (B : Nat) (v : Value) (l : List Att) : Prop :=
  (v = .slice none 0 0 ∧ l = []) ∨ ∃ g cap cur, v = .slice (some ⟨g, 0, none⟩) l.length cap ∧ B ≤ g ∧ w.heap[g]? = some (.cells cur 59 (0, 0)) ∧ l.length ≤ cap ∧ cap ≤ maxLen ∧ cur.toList.take (l.length * 2) = flat l

theorem AttsAt.own {w : World} {B : Nat} {v : Value} {l : List Att} (h : w.ownsRow B 59 2 v l.length (flat l)) : AttsAt w B v l := by
  rcases h.2 with ⟨rfl, hn⟩ | ⟨g, cap, cur, rfl, hb, hg, hl, hc, _, ht⟩
  · exact .inl ⟨rfl, List.eq_nil_of_length_eq_zero hn⟩
  · exact .inr ⟨g, cap, cur, rfl, hb, hg, hl, hc, ht⟩

theorem AttsAt.grown {w w' : World} {B : Nat} {v : Value} {l : List Att} (h : AttsAt w B v l) {r : Option Nat} (hg : w.grownBy w' r) (hr : ∀ g, v.ownBlock = some g → some g ≠ r) : AttsAt w' B v l := by
  rcases h with h | ⟨g, cap, cur, rfl, hb, hgg, rest⟩
  · exact .inl h
  · exact .inr ⟨g, cap, cur, rfl, hb, grown_block hg hgg (hr g rfl), rest⟩
theorem AttsAt.below {w w' : World} {B : Nat} {v : Value} {l : List Att} (h : AttsAt w B v l) (hb : Below w.heap.size w w') : AttsAt w' B v l :=
  h.grown (grown_below hb none) (fun _ _ => by simp)
theorem AttsAt.mono {w : World} {B B' : Nat} {v : Value} {l : List Att} (h : AttsAt w B v l) (hb : B' ≤ B) : AttsAt w B' v l := by
  rcases h with h | ⟨g, cap, cur, rfl, hb', rest⟩
  · exact .inl h
  · exact .inr ⟨g, cap, cur, rfl, by omega, rest⟩

/-- The two cells of an attribute. -/
theorem atts_cells {w : World} {g : Nat} {cur : Array Value} {t : TypeId} {l : List Att} (hg : w.heap[g]? = some (.cells cur t (0, 0))) (ht : cur.toList.take (l.length * 2) = flat l) (j : Nat) (hj : j < l.length) :
    w.cell? ⟨g, j * 2, none⟩ = some (.string (mk (l[j]'hj).1)) ∧ w.cell? ⟨g, j * 2 + 1, none⟩ = some (.string (mk (l[j]'hj).2)) := by
  obtain ⟨h1, h2⟩ := flat_get l j hj
  rw [← ht, List.getElem?_take_of_lt (by omega)] at h1
  rw [← ht, List.getElem?_take_of_lt (by omega)] at h2
  exact ⟨by rw [cell_of_row w g _ cur t _ hg]; simpa using h1, by rw [cell_of_row w g _ cur t _ hg]; simpa using h2⟩

theorem sameName_any (a n : Bs × Bs) (b : Nat) (w : World) (hb : w.heap[b]? = some (.cells #[.string (mk n.1), .string (mk n.2)] 59 (0, 0))) :
    Calls Tryz.prog 41 #[.agg #[.string (mk a.1), .string (mk a.2)], .pointer (some ⟨b, 0, none⟩)] w fun e w' => e = .returned (.bool (a.1 == n.1)) ∧ Below w.heap.size w w' := by
  have c0 := two_cell0 hb
  have hlt := lt_of_block hb
  have hq : ((mk a.1).toList == (mk n.1).toList) = (a.1 == n.1) := by rw [toList_beq, bs_mk, bs_mk]
  generalize hx : (a.1 == n.1) = x at *
  go_enter Tryz.func41, Tryz.ntmps41
  go_wp2_with fail
  go_ret
  exact ⟨rfl, (Below.refl _ _).alloc (Nat.le_refl _) _⟩

theorem indexOf_any (l : List Att) (n : Att) (q : Bool) (hq : Hid ((l.any fun x => x.1 == n.1) = q)) (g b cap : Nat) (cur : Array Value) (w : World) (hlen : l.length ≤ 1000000) (hcap : l.length ≤ cap) (hg : w.heap[g]? = some (.cells cur 59 (0, 0))) (ht : cur.toList.take (l.length * 2) = flat l)
    (hb : w.heap[b]? = some (.cells #[.string (mk n.1), .string (mk n.2)] 59 (0, 0))) :
    Calls Tryz.prog 68 #[.slice (some ⟨g, 0, none⟩) l.length cap, .func (.func 41) #[] #[.pointer (some ⟨b, 0, none⟩)]] w fun e w' => (∃ k : Int, e = .returned (.int .i64 k) ∧ (0 ≤ k ↔ q = true)) ∧ Below w.heap.size w w' := by
  go_enter Tryz.func68, Tryz.ntmps68
  go_wp2_with fail
  go_loopw [8] (fun v8 wr => ∃ j : Nat, j ≤ l.length ∧ v8 = .int .i64 j ∧ Hid (((l.drop j).any fun x => x.1 == n.1) = q) ∧ Below w.heap.size w wr) (fun v8 _ => l.length - (intOf v8).toNat)
  case atStart => exact ⟨0, Nat.zero_le _, rfl, hq, Below.refl _ _⟩
  case round =>
    obtain ⟨j, hj, rfl, HA, hbl⟩ := hrel
    by_cases hlt : j < l.length
    · obtain ⟨x0, x1⟩ := atts_cells (below_block hbl hg) ht j hlt
      have hd : l.drop j = (l[j]'hlt) :: l.drop (j + 1) := List.drop_eq_getElem_cons hlt
      have HC : Hid (Calls Tryz.prog 41 #[.agg #[.string (mk (l[j]'hlt).1), .string (mk (l[j]'hlt).2)], .pointer (some ⟨b, 0, none⟩)] wr fun e w' => e = .returned (.bool ((l[j]'hlt).1 == n.1)) ∧ Below wr.heap.size wr w') := sameName_any _ n b wr (below_block hbl hb)
      have HA2 := HA.out
      rw [hd, List.any_cons] at HA2
      have HA := Lib.hid HA2
      clear HA2 hd hb
      generalize hx : ((l[j]'hlt).1 == n.1) = x at *
      cases x with
      | true =>
        go_wp2_with fail
        refine HC.out.mono ?_; rintro e w2 ⟨rfl, hB2⟩
        go_wp2_with fail
        go_ret
        refine ⟨⟨_, rfl, ?_⟩, below_then hbl hB2⟩
        have := HA.out
        rw [Bool.true_or] at this
        exact ⟨fun _ => this.symm, fun _ => by omega⟩
      | false =>
        go_wp2_with fail
        refine HC.out.mono ?_; rintro e w2 ⟨rfl, hB2⟩
        go_wp2_with fail
        go_roundw
        case rel => exact ⟨j + 1, by omega, by go_num, by have := HA.out; rwa [Bool.false_or] at this, below_then hbl hB2⟩
        case measure => simp [intOf]; omega
    · have hz : ¬ (j : Int) < (l.length : Int) := by omega
      have HA2 := HA.out
      rw [List.drop_eq_nil_of_le (by omega), List.any_nil] at HA2
      have HA := Lib.hid HA2
      clear HA2
      go_wp2_with fail
      go_ret
      refine ⟨⟨_, rfl, ?_⟩, hbl⟩
      have := HA.out
      exact ⟨fun h => by omega, fun h => by rw [← this] at h; cases h⟩

theorem indexOf_nil (n : Att) (b : Nat) (w : World) :
    Calls Tryz.prog 68 #[.slice none 0 0, .func (.func 41) #[] #[.pointer (some ⟨b, 0, none⟩)]] w fun e w' => e = .returned (.int .i64 (-1)) ∧ Below w.heap.size w w' := by
  go_enter Tryz.func68, Tryz.ntmps68
  go_wp2_with fail
  go_loopw [8] (fun v8 wr => v8 = .int .i64 0 ∧ wr = w) (fun v8 _ => 0)
  case atStart => exact ⟨rfl, rfl⟩
  case round =>
    obtain ⟨rfl, rfl⟩ := hrel
    go_wp2_with fail
    go_ret
    exact ⟨rfl, Below.refl _ _⟩

theorem index_atts (B : Nat) (l : List Att) (n : Att) (q : Bool) (hq : (l.any fun x => x.1 == n.1) = q) (v : Value) (b : Nat) (w : World) (hlen : l.length ≤ 1000000) (h : AttsAt w B v l) (hb : w.heap[b]? = some (.cells #[.string (mk n.1), .string (mk n.2)] 59 (0, 0))) :
    Calls Tryz.prog 68 #[v, .func (.func 41) #[] #[.pointer (some ⟨b, 0, none⟩)]] w fun e w' => (∃ k : Int, e = .returned (.int .i64 k) ∧ (0 ≤ k ↔ q = true)) ∧ Below w.heap.size w w' := by
  rcases h with ⟨rfl, rfl⟩ | ⟨g, cap, cur, rfl, _, hg, hl, _, ht⟩
  · exact (indexOf_nil n b w).mono fun _ _ h => ⟨⟨_, h.1, by rw [← hq]; simp⟩, h.2⟩
  · exact indexOf_any l n q hq g b cap cur w hlen hl hg ht hb

theorem contains_atts (B : Nat) (l : List Att) (n : Att) (v : Value) (b : Nat) (w : World) (hlen : l.length ≤ 1000000) (h : AttsAt w B v l) (hb : w.heap[b]? = some (.cells #[.string (mk n.1), .string (mk n.2)] 59 (0, 0))) :
    Calls Tryz.prog 40 #[v, .func (.func 41) #[] #[.pointer (some ⟨b, 0, none⟩)]] w fun e w' => e = .returned (.bool (l.any fun x => x.1 == n.1)) ∧ Below w.heap.size w w' := by
  generalize hq : (l.any fun x => x.1 == n.1) = q
  have HI := Lib.hid (index_atts B l n q hq v b w hlen h hb)
  clear hq
  clear h hb
  go_enter Tryz.func40, Tryz.ntmps40
  go_wp2_with fail
  refine HI.out.mono ?_; rintro e w1 ⟨⟨k, rfl, hk⟩, hB1⟩
  go_wp2_with fail
  go_ret
  refine ⟨ret_bool ?_, hB1⟩
  rw [Bool.eq_iff_iff, ← hk]

theorem clip_atts (B : Nat) (l : List Att) (v : Value) (w : World) (hlen : l.length ≤ 1000000) (h : AttsAt w B v l) :
    Calls Tryz.prog 42 #[v] w fun e w' => (∃ v', e = .returned v' ∧ AttsAt w' B v' l ∧ v'.ownBlock = v.ownBlock) ∧ w = w' := by
  rcases h with ⟨rfl, rfl⟩ | ⟨g, cap, cur, rfl, hB, hg, hl, hc, ht⟩
  · go_enter Tryz.func42, Tryz.ntmps42
    go_wp2_with fail
    go_ret
    exact ⟨⟨_, rfl, .inl ⟨rfl, rfl⟩, rfl⟩, rfl⟩
  · go_enter Tryz.func42, Tryz.ntmps42
    go_wp2_with fail
    go_ret
    exact ⟨⟨_, rfl, .inr ⟨g, l.length, cur, rfl, hB, hg, Nat.le_refl _, by simp only [maxLen]; omega, ht⟩, rfl⟩, rfl⟩
end Tym

namespace Tym
set_option linter.unusedSimpArgs false
set_option linter.unusedVariables false
open Go Go.RowKit Go.Proofs
set_option maxRecDepth 20000

/-- A token as a value; as a block. -/
abbrev tokCells (kd : Int) (nm : ByteArray) (v : Value) (cl : Bool) (tx : ByteArray) : Array Value := #[.int .u8 kd, .string nm, v, .bool cl, .string tx]
abbrev tokZero : Array Value := #[.int .u8 0, .string ⟨#[]⟩, .slice none 0 0, .bool false, .string ⟨#[]⟩]

theorem five {w : World} {b : Nat} {a0 a1 a2 a3 a4 : Value} {t : TypeId} (h : w.heap[b]? = some (.cells #[a0, a1, a2, a3, a4] t (0, 0))) :
    (w.cell? ⟨b, 0, none⟩ = some a0 ∧ w.cell? ⟨b, 1, none⟩ = some a1 ∧ w.cell? ⟨b, 2, none⟩ = some a2 ∧ w.cell? ⟨b, 3, none⟩ = some a3 ∧ w.cell? ⟨b, 4, none⟩ = some a4) ∧
    (w.frozen? ⟨b, 0, none⟩ = false ∧ w.frozen? ⟨b, 1, none⟩ = false ∧ w.frozen? ⟨b, 2, none⟩ = false ∧ w.frozen? ⟨b, 3, none⟩ = false ∧ w.frozen? ⟨b, 4, none⟩ = false) :=
  ⟨⟨row_cell h 0 _ rfl, row_cell h 1 _ rfl, row_cell h 2 _ rfl, row_cell h 3 _ rfl, row_cell h 4 _ rfl⟩, row_free h 0, row_free h 1, row_free h 2, row_free h 3, row_free h 4⟩
def set5 (w : World) (b : Nat) (c0 c1 c2 c3 c4 : Value) : World := ((((w.setCell ⟨b, 0, none⟩ c0).setCell ⟨b, 1, none⟩ c1).setCell ⟨b, 2, none⟩ c2).setCell ⟨b, 3, none⟩ c3).setCell ⟨b, 4, none⟩ c4
theorem set5_row {w : World} {b : Nat} {a0 a1 a2 a3 a4 c0 c1 c2 c3 c4 : Value} {t : TypeId} (h : w.heap[b]? = some (.cells #[a0, a1, a2, a3, a4] t (0, 0))) :
    (((((w.setCell ⟨b, 0, none⟩ c0).setCell ⟨b, 1, none⟩ c1).setCell ⟨b, 2, none⟩ c2).setCell ⟨b, 3, none⟩ c3).setCell ⟨b, 4, none⟩ c4).heap[b]? = some (.cells #[c0, c1, c2, c3, c4] t (0, 0)) :=
  row_set (row_set (row_set (row_set (row_set h 0 _) 1 _) 2 _) 3 _) 4 _
theorem set5_below {B : Nat} {a w : World} {b : Nat} (h : Below B a w) (hb : B ≤ b) (c0 c1 c2 c3 c4 : Value) :
    Below B a (((((w.setCell ⟨b, 0, none⟩ c0).setCell ⟨b, 1, none⟩ c1).setCell ⟨b, 2, none⟩ c2).setCell ⟨b, 3, none⟩ c3).setCell ⟨b, 4, none⟩ c4) :=
  ((((h.setCell (p := ⟨b, 0, none⟩) hb _).setCell (p := ⟨b, 1, none⟩) hb _).setCell (p := ⟨b, 2, none⟩) hb _).setCell (p := ⟨b, 3, none⟩) hb _).setCell (p := ⟨b, 4, none⟩) hb _
theorem set5_other {w : World} {b g : Nat} {o : Obj} (h : w.heap[g]? = some o) (hb : g ≠ b) (c0 c1 c2 c3 c4 : Value) :
    (((((w.setCell ⟨b, 0, none⟩ c0).setCell ⟨b, 1, none⟩ c1).setCell ⟨b, 2, none⟩ c2).setCell ⟨b, 3, none⟩ c3).setCell ⟨b, 4, none⟩ c4).heap[g]? = some o :=
  block_other (block_other (block_other (block_other (block_other h hb _) hb _) hb _) hb _) hb _

theorem read_not (s : ByteArray) (i : Int) (w : World) (HB : Hid (∀ w, Calls Tryz.prog 13 #[.string s, .int .i64 i] w fun e w' => e = .returned (.bool false) ∧ Below w.heap.size w w')) :
    Calls Tryz.prog 14 #[.string s, .int .i64 i] w fun e w' => e = .returned (.tuple #[.agg tokZero, .int .i64 i, .bool false]) ∧ Below w.heap.size w w' := by
  go_enter Tryz.func14, Tryz.ntmps14
  go_wp2_with fail
  refine wp_scope_straight ?_
  go_wp2_with fail
  refine (HB.out _).mono ?_; rintro e w1 ⟨rfl, hB1⟩
  have h0 := below_block hB1 (heap_alloc_new _ _)
  have hb1 := below_alloc_then hB1
  obtain ⟨⟨z0, z1, z2, z3, z4⟩, f0, f1, f2, f3, f4⟩ := five h0
  clear hB1
  go_wp2_with fail
  simp only [Exit.noGoto]
  exact ret_cell_tmp2 rfl rfl rfl (set5_row h0) Tryz.underlying29 rfl (by kernel_rfl) ⟨rfl, set5_below hb1 (Nat.le_refl _) _ _ _ _ _⟩

/-- What Read hands back. -/
def ReadPost (s : ByteArray) (kd : Int) (nm : ByteArray) (w : World) (res : Option (List Att × Bool × Bs)) (e : Ending) (w' : World) : Prop :=
  Below w.heap.size w w' ∧
  match res with
  | none => e = .returned (.tuple #[.agg tokZero, .int .i64 s.size, .bool false])
  | some (l, cl, u) =>
    (kd = 3 ∧ e = .returned (.tuple #[.agg (tokCells 3 nm (.slice none 0 0) false ⟨#[]⟩), .int .i64 ((s.size - u.length : Nat) : Int), .bool true])) ∨
    (kd = 2 ∧ ∃ v, e = .returned (.tuple #[.agg (tokCells 2 nm v cl ⟨#[]⟩), .int .i64 ((s.size - u.length : Nat) : Int), .bool true]) ∧ AttsAt w' w.heap.size v l)
end Tym
