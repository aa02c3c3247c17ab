/- The law TagForms. -/
import Derived.Test.YtfioncakgjpmaaaTagR
import Derived.Test.YtfioncakgjpmaaaPlainTagE
import Derived.Deep.RegionHeld3
import Derived.Deep.CutRange
set_option linter.unusedSimpArgs false
set_option linter.unusedVariables false
open Go Go.RowKit Go.Proofs
namespace Tym
set_option maxRecDepth 100000

theorem tag_form (s : ByteArray) (i : Int) (t : Tok) (n : Int) (h : tagRead s i = (t, n, true)) :
    ∃ k m : Nat, i = k ∧ n = (m : Int) + 1 ∧ k < m ∧ ∃ (hk : k < s.size) (hm : m < s.size), s[k]'hk = 60 ∧ s[m]'hm = 62 ∧ GoodN t.name ∧ GoodL t.atts ∧ t.name.length ≤ s.size ∧ ∀ a ∈ t.atts, a.1.length ≤ s.size := by
  unfold tagRead at h
  by_cases hi : i < 0 ∨ (s.size : Int) ≤ i
  · rw [if_pos hi] at h; cases h
  · rw [if_neg hi] at h
    obtain ⟨k, rfl⟩ : ∃ k : Nat, i = k := ⟨i.toNat, by omega⟩
    rw [Int.toNat_natCast] at h
    unfold tagAt at h
    by_cases hb : beginsTag ((bs s).drop k) = true
    · rw [if_pos hb] at h
      cases hr : readTag ((bs s).drop k) with
      | none => rw [hr] at h; cases h
      | some o =>
        rw [hr] at h
        obtain ⟨a, hf, hn, hl, _⟩ := readTag_form _ o hr
        simp only [Prod.mk.injEq] at h
        obtain ⟨rfl, rfl, _⟩ := h
        have hlen := congrArg List.length hf
        rw [List.length_drop, ← size_bs] at hlen
        simp only [List.length_cons, List.length_append, List.cons_append] at hlen
        rw [List.cons_append] at hf
        obtain ⟨hk, hc, hd⟩ := drop_cons_get s k 60 _ hf
        have hdm : (bs s).drop (k + 1 + a.length) = 62 :: o.rest := by rw [← List.drop_drop, hd, List.drop_left]
        obtain ⟨hm, hc2, _⟩ := drop_cons_get s _ 62 _ hdm
        obtain ⟨hn2, hl2⟩ := readTag_names _ o hr
        rw [List.length_drop, ← size_bs] at hn2 hl2
        exact ⟨k, k + 1 + a.length, rfl, by omega, by omega, hk, hm, hc, hc2, hn, hl, by show o.name.length ≤ _; omega, fun a ha => by have := hl2 a ha; omega⟩
    · rw [if_neg hb] at h; cases h

theorem tag_noform (s : ByteArray) (i : Int) (t : Tok) (n : Int) (h : tagRead s i = (t, n, false)) : t = tokNone ∧ (n = i ∨ n = s.size) := by
  unfold tagRead at h
  by_cases hi : i < 0 ∨ (s.size : Int) ≤ i
  · rw [if_pos hi] at h; cases h; exact ⟨rfl, .inl rfl⟩
  · rw [if_neg hi] at h
    obtain ⟨k, rfl⟩ : ∃ k : Nat, i = k := ⟨i.toNat, by omega⟩
    rw [Int.toNat_natCast] at h
    unfold tagAt at h
    by_cases hb : beginsTag ((bs s).drop k) = true
    · rw [if_pos hb] at h
      cases hr : readTag ((bs s).drop k) with
      | none => rw [hr] at h; cases h; exact ⟨rfl, .inr rfl⟩
      | some o => rw [hr] at h; cases h
    · rw [if_neg hb] at h; cases h; exact ⟨rfl, .inl rfl⟩

theorem good_signs (c : UInt8) : goodC c = true → isSpace c = false ∧ ((c.toNat : Int) == 62) = false ∧ ((c.toNat : Int) == 47) = false := byte_all (p := fun c => goodC c = true → isSpace c = false ∧ ((c.toNat : Int) == 62) = false ∧ ((c.toNat : Int) == 47) = false) (by decide +kernel) c

theorem forms_no (s : ByteArray) (i : Int) (w : World) (hs : ¬ (3000 : Int) < (s.size : Int)) (t : Tok) (n : Int) (h : tagRead s i = (t, n, false)) : Calls Try.prog 6 #[.string s, .int .i64 i] w fun e w' => e = .returned (.bool true) ∧ Below w.heap.size w w' := by
  obtain ⟨rfl, hn⟩ := tag_noform s i t n h
  have HA := Lib.hid (fun w => read_any s i w (by omega))
  rw [h] at HA
  clear h
  rcases hn with rfl | rfl
  all_goals
    go_enter Try.func6, Try.ntmps6
    go_wp2_with fail
    refine (HA.out _).mono ?_; rintro e w1 ⟨⟨v1, rfl, hv1⟩, b1⟩
    obtain ⟨p1, n1, c1, rfl, ha1⟩ := hv1.cells
    go_wp2_with fail
    refine (tknown _).mono ?_; rintro e w2 ⟨rfl, b2⟩
    obtain ⟨⟨z0, z1, z2, z3, z4⟩, _⟩ := five (below_block b2 (heap_alloc_new _ _))
    go_wp2_with fail
    all_goals
      go_ret
      exact ⟨rfl, b1.trans ((below_alloc_then b2).mono b1.size)⟩

set_option maxHeartbeats 8000000 in
theorem forms_yes (s : ByteArray) (k m : Nat) (w : World) (hs : ¬ (3000 : Int) < (s.size : Int)) (t : Tok) (h : tagRead s k = (t, (m : Int) + 1, true)) (hkm : k < m) (hk : k < s.size) (hm : m < s.size) (h60 : s[k]'hk = 60) (h62 : s[m]'hm = 62) (hn : GoodN t.name) (hl : GoodL t.atts) (hnl : t.name.length ≤ s.size) (hal : ∀ a ∈ t.atts, a.1.length ≤ s.size) : Calls Try.prog 6 #[.string s, .int .i64 k] w fun e w' => e = .returned (.bool true) ∧ Below w.heap.size w w' := by
  have HA := Lib.hid (fun w => read_any s k w (by omega))
  have hlen := tagRead_len s k
  rw [h] at HA hlen
  clear h
  obtain ⟨kd, nm, l, cl, tx⟩ := t
  simp only at HA hn hl hlen hnl hal
  have g60 : (((s[k]'hk).toNat : Int) != 60) = false := by rw [h60]; rfl
  have g62 : (((s[m]'hm).toNat : Int) != 62) = false := by rw [h62]; rfl
  have hmz : (m : Int) + 1 ≤ (s.size : Int) := by omega
  have hmi : ¬ (m : Int) + 1 ≤ (k : Int) := by omega
  have hmj : ¬ (s.size : Int) < (m : Int) + 1 := by omega
  have hmk : (m : Int) < (s.size : Int) := by omega
  have hm0 : 0 ≤ (m : Int) := by omega
  have hd1 : decide ((m : Int) + 1 ≤ (k : Int)) = false := decide_eq_false hmi
  have hd2 : decide ((s.size : Int) < (m : Int) + 1) = false := decide_eq_false hmj
  have gne : (mk nm).toList.isEmpty = false := by rw [Lib.toList_data]; show nm.isEmpty = false; cases nm with | nil => exact absurd rfl hn.1 | cons _ _ => rfl
  have HLn : Hid (∀ w, Calls Try.prog 16 #[.string (mk nm)] w fun e w' => e = .returned (.string (mk nm)) ∧ Below w.heap.size w w') := fun w => by
    have := lowerR_any (mk nm) w (by rw [size_mk]; omega); rw [bs_mk, hn.2.1] at this; exact this
  have HLa : Hid (∀ j (hj : j < l.length) w, Calls Try.prog 16 #[.string (mk (l[j]'hj).1)] w fun e w' => e = .returned (.string (mk (l[j]'hj).1)) ∧ Below w.heap.size w w') := fun j hj w => by
    have h1 := hl.1 _ (List.getElem_mem hj)
    have h2 := hal _ (List.getElem_mem hj)
    have := lowerR_any (mk (l[j]'hj).1) w (by rw [size_mk]; omega); rw [bs_mk, h1.2.1] at this; exact this
  have HGd : Hid (∀ j (hj : j < l.length), GoodN (l[j]'hj).1) := fun j hj => hl.1 _ (List.getElem_mem hj)
  have HLe : Hid (∀ j (hj : j < l.length), (l[j]'hj).1.length ≤ s.size) := fun j hj => hal _ (List.getElem_mem hj)
  have HNe : Hid (∀ i j (hi : i < l.length) (hj : j < l.length), i < j → (l[i]'hi).1 ≠ (l[j]'hj).1) := fun i j hi hj hij he => by
    have := (List.nodup_iff_pairwise_ne.1 hl.2)
    rw [List.pairwise_iff_getElem] at this
    exact this i j (by simpa using hi) (by simpa using hj) hij (by simpa using he)
  clear hn hl hal hnl h60 h62
  go_enter Try.func6, Try.ntmps6
  go_wp2_with fail
  refine (HA.out _).mono ?_; rintro e w1 ⟨⟨v1, rfl, hv1⟩, b1⟩
  obtain ⟨p1, n1, c1, rfl, ha1⟩ := hv1.cells
  have e1 := ha1.len
  subst e1
  go_wp2_with fail
  have hbox := heap_alloc_new w1 (.cells (tokCells kd (mk nm) (.slice p1 l.length c1) cl (mk tx)) 24)
  have haW := ha1.below ((Below.refl _ w1).alloc (Nat.le_refl _) (.cells (tokCells kd (mk nm) (.slice p1 l.length c1) cl (mk tx)) 24))
  have hbW := b1.alloc b1.size (.cells (tokCells kd (mk nm) (.slice p1 l.length c1) cl (mk tx)) 24)
  have hszW : w1.heap.size < (w1.alloc (.cells (tokCells kd (mk nm) (.slice p1 l.length c1) cl (mk tx)) 24)).heap.size := lt_of_block hbox
  clear ha1 hv1 b1
  generalize w1.alloc (.cells (tokCells kd (mk nm) (.slice p1 l.length c1) cl (mk tx)) 24) = W at *
  generalize w1.heap.size = B at *
  obtain ⟨⟨z0, z1, z2, z3, z4⟩, _⟩ := five hbox
  have hw1 : IntKind.i64.wrap (m : Int) = (m : Int) := wrap_small _ hm0 (by omega)
  have hw2 : IntKind.i64.wrap ((m : Int) + 1 - 1) = (m : Int) := by rw [show (m : Int) + 1 - 1 = (m : Int) from by omega]; exact hw1
  go_cut [76] from 42 to 76 (fun v76 wx => v76 = .bool false ∧ Below W.heap.size W wx)
  case first =>
    go_region_held3 (fun w' => w'.cell? ⟨B, 1, none⟩ = some (.string (mk nm))) (first | assumption | (simp [*]; done)) (first | (go_at_call 16; (with_reducible refine (HLn.out _).mono ?_); rintro e w2 ⟨rfl, hB2⟩; have hk2 : w2.cell? ⟨B, 1, none⟩ = some (.string (mk nm)) := (hB2.cell (p := ⟨B, 1, none⟩) hszW).trans z1))
    all_goals (go_wp2_with fail; go_meet)
    all_goals exact ⟨rfl, below_undrew hB2⟩
  case rest =>
    obtain ⟨rfl, hbx⟩ := hcut
    clear z0 z1 z2 z3 z4 g60 g62 gne
    go_wp2_with fail
    have hbwc := hbW.trans (hbx.mono hbW.size)
    go_loopw [8] (fun v8 wr => ∃ i : Nat, v8 = .int .i64 i ∧ i ≤ l.length ∧ Below W.heap.size W wr) (fun v8 _ => l.length - (intOf v8).toNat)
    case atStart => exact ⟨0, rfl, Nat.zero_le _, hbx⟩
    case round =>
      obtain ⟨i, rfl, hi, hbl⟩ := hrel
      clear hd1 hd2 hw1 hw2
      have hboxr := below_block hbl hbox
      obtain ⟨⟨z0, z1, z2, z3, z4⟩, _⟩ := five hboxr
      by_cases hlt : i < l.length
      · have hltz : (i : Int) < (l.length : Int) := by omega
        rcases haW with ⟨hv, hl⟩ | ⟨g1, k1, cur1, hv, _, hg1, hk1, _, ht1⟩
        · rw [hl] at hlt; simp at hlt
        · simp only [Value.slice.injEq] at hv
          obtain ⟨rfl, hq1, rfl⟩ := hv
          clear hq1
          have x1 := (atts_cells (below_block hbl hg1) ht1 i hlt).1
          have hgd := HGd.out i hlt
          have HA1 := Lib.hid (HLa.out i hlt)
          have hle := HLe.out i hlt
          have hne : (mk (l[i]'hlt).1).toList.isEmpty = false := by
            rw [Lib.toList_data]
            show (l[i]'hlt).1.isEmpty = false
            cases hc : (l[i]'hlt).1 with
            | nil => exact absurd hc hgd.1
            | cons _ _ => rfl
          have hsza : (mk (l[i]'hlt).1).size ≤ 3000 := by rw [size_mk]; omega
          have HCs : Hid (∀ j (hj : j < (mk (l[i]'hlt).1).size), goodC ((mk (l[i]'hlt).1)[j]'hj) = true) := fun j hj => by
            refine hgd.2.2 _ ?_
            have : (mk (l[i]'hlt).1)[j]'hj = (l[i]'hlt).1[j]'(by rw [size_mk] at hj; exact hj) := rfl
            rw [this]; exact List.getElem_mem _
          have HNo : Hid (∀ j (hj : j < i), ((mk (l[j]'(by omega)).1).toList == (mk (l[i]'hlt).1).toList) = false) := fun j hj => by
            rw [toList_beq, bs_mk, bs_mk, Bool.eq_false_iff, Ne, beq_iff_eq]; exact HNe.out j i (by omega) hlt hj
          clear hgd hle
          generalize mk (l[i]'hlt).1 = a at *
          go_wp2_with fail
          refine (HA1.out _).mono ?_; rintro e w5 ⟨rfl, hB5⟩
          have hb5 := below_then hbl hB5
          clear z0 z1 z2 z3 z4 x1
          go_wp2_with fail
          go_loopw [10] (fun v10 wx => ∃ j : Nat, v10 = .int .i64 j ∧ j ≤ a.size ∧ Below W.heap.size W wx) (fun v10 _ => a.size - (intOf v10).toNat)
          case atStart => exact ⟨0, rfl, Nat.zero_le _, hb5⟩
          case round =>
            obtain ⟨j, rfl, hj, hbj⟩ := hrel
            by_cases hltj : j < a.size
            · have hltjz : (j : Int) < (a.size : Int) := by omega
              obtain ⟨hsp, h62, h47⟩ := good_signs _ (HCs.out j hltj)
              have HSp : Hid (∀ w, Calls Try.prog 17 #[.int .u8 ((a[j]'hltj).toNat : Int)] w fun e w' => e = .returned (.bool false) ∧ w = w') := fun w => by rw [← hsp]; exact spaceR_any _ w
              clear hsp
              go_wp2_with fail
              refine (HSp.out _).mono ?_; rintro e w6 ⟨rfl, rfl⟩
              go_wp2_with fail
              go_roundw
              case rel => exact ⟨j + 1, by go_num, by omega, hbj⟩
              case measure => simp [intOf]; omega
            · have hltjz : ¬ (j : Int) < (a.size : Int) := by omega
              go_wp2_with fail
              go_loopw [12] (fun v12 wx => ∃ q : Nat, v12 = .int .i64 q ∧ q ≤ i ∧ Below W.heap.size W wx) (fun v12 _ => i - (intOf v12).toNat)
              case atStart => exact ⟨0, rfl, Nat.zero_le _, hbj⟩
              case round =>
                obtain ⟨q, rfl, hq, hbq⟩ := hrel
                by_cases hltq : q < i
                · have hltqz : (q : Int) < (i : Int) := by omega
                  have hltqn : (q : Int) < (l.length : Int) := by omega
                  have y1 := (atts_cells (below_block hbq hg1) ht1 q (by omega)).1
                  obtain ⟨⟨z0, z1, z2, z3, z4⟩, _⟩ := five (below_block hbq hbox)
                  have hno := HNo.out q hltq
                  generalize mk (l[q]'(by omega)).1 = b at *
                  go_wp2_with fail
                  go_roundw
                  case rel => exact ⟨q + 1, by go_num, by omega, hbq⟩
                  case measure => simp [intOf]; omega
                · have hltqz : ¬ (q : Int) < (i : Int) := by omega
                  go_wp2_with fail
                  go_roundw
                  case rel => exact ⟨i + 1, by go_num, by omega, hbq⟩
                  case measure => simp [intOf]; omega
      · have hltz : ¬ (i : Int) < (l.length : Int) := by omega
        go_wp2_with fail
        refine (tknown _).mono ?_; rintro e w5 ⟨rfl, b5⟩
        go_wp2_with fail
        go_ret
        exact ⟨rfl, below_then (hbW.trans (hbl.mono hbW.size)) b5⟩

theorem law_tagforms (s : ByteArray) (i : Int) (w : World) : Calls Try.prog 6 #[.string s, .int .i64 i] w fun e w' => e = .returned (.bool true) ∧ Below w.heap.size w w' := by
  by_cases h1 : (3000 : Int) < (s.size : Int)
  · go_enter Try.func6, Try.ntmps6
    go_wp2_with fail
    go_ret
    exact ⟨rfl, Below.refl _ _⟩
  · obtain ⟨t, n, is, h⟩ : ∃ t n is, tagRead s i = (t, n, is) := ⟨_, _, _, rfl⟩
    cases is with
    | false => exact forms_no s i w h1 t n h
    | true =>
      obtain ⟨k, m, rfl, rfl, hkm, hk, hm, h60, h62, hn, hl, hnl, hal⟩ := tag_form s i t n h
      exact forms_yes s k m w h1 t h hkm hk hm h60 h62 hn hl hnl hal
end Tym
