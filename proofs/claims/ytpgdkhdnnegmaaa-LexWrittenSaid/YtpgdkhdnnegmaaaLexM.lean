/- The law LexEnds. -/
import Derived.Test.YtpgdkhdnnegmaaaLexL
set_option linter.unusedSimpArgs false
set_option linter.unusedVariables false
open Go Go.RowKit Go.Proofs
namespace Tym
set_option maxRecDepth 100000
attribute [local irreducible] nextD allL

set_option maxHeartbeats 2000000 in
theorem law_lexends (s : ByteArray) (w : World) (hm : Mx w) : Calls Try.prog 4 #[.string s] w fun e w' => e = .returned (.bool true) ∧ Below w.heap.size w w' := by
  have HM := Lib.hid hm
  clear hm
  by_cases h1 : (2000 : Int) < (s.size : Int)
  · go_enter Try.func4, Try.ntmps4
    go_wp2_with fail
    refine (lknown _ HM.out).mono ?_; rintro e w1 ⟨rfl, b1⟩
    go_wp2_with fail
    go_ret
    exact ⟨rfl, b1⟩
  · have HA := Lib.hid (fun w hm => lexAll_any s w hm (by omega))
    have HN := Lib.hid (fun k hk w hm => lexNextD s k w hm (by omega) hk)
    have hL := allL_len _ (bs s) (Nat.le_refl _)
    rw [← size_bs] at hL
    have hsz : s.size ≤ 2000 := by omega
    go_enter Try.func4, Try.ntmps4
    go_wp2_with fail
    refine (lknown _ HM.out).mono ?_; rintro e w0 ⟨rfl, b0⟩
    go_wp2_with fail
    go_loopw [3, 4] (fun v3 v4 wr => ∃ k n : Nat, v3 = .int .i64 k ∧ v4 = .int .i64 n ∧ k ≤ s.size ∧ Hid (n + (allL ((bs s).drop k)).length = (allL (bs s)).length) ∧ Below w.heap.size w wr) (fun v3 _ _ => s.size - (intOf v3).toNat)
    case atStart => exact ⟨0, 0, rfl, rfl, Nat.zero_le _, by show _ = _; rw [List.drop_zero, Nat.zero_add], b0⟩
    case round =>
      obtain ⟨k, n, rfl, rfl, hk, HL, hbl⟩ := hrel
      have hok := nextD_ok _ ((bs s).drop k) (Nat.le_refl _)
      have hlt := nextD_lt ((bs s).drop k)
      have hlast := allL_last ((bs s).drop k)
      have hmore := allL_more ((bs s).drop k)
      have HNk := HN.out k hk
      have hdr : ((bs s).drop k).length = s.size - k := by rw [List.length_drop, ← size_bs]
      have hpd := posD_drop s k
      have hpe : posD s k = s.size - (nextD ((bs s).drop k)).2.length := rfl
      rw [hdr] at hlt
      unfold resOf at HNk
      rw [← hpe] at HNk
      have hn2 : n ≤ 2000 := by have := HL.out; omega
      generalize nextD ((bs s).drop k) = q at *
      generalize posD s k = k' at *
      obtain ⟨⟨kd, nm, at_, cl, tx⟩, u⟩ := q
      dsimp only at HNk hok hlt hlast hmore hpe hpd
      have HNk := Lib.hid HNk
      by_cases h6 : kd = 6
      · subst h6
        have hu : u = [] := by
          rcases hok.1 with ⟨_, hu, _⟩ | ⟨_, h5, _⟩
          · exact hu
          · exact absurd h5 (by show ¬ 6 ≤ 5; decide)
        subst hu
        have hk' : k' = s.size := by rw [hpe, List.length_nil]; rfl
        have hnn : (allL (bs s)).length = n := by have := HL.out; rw [hlast rfl, List.length_nil] at this; omega
        subst hk'
        have HA2 : Hid (∀ w, Mx w → Calls Try.prog 11 #[.string s] w fun e w' => (∃ p c, e = .returned (.slice p n c)) ∧ Below w.heap.size w w') := fun w hm => (HA.out w hm).mono fun e w' h => by
          obtain ⟨⟨v, rfl, hv⟩, hb⟩ := h
          obtain ⟨p, c, rfl⟩ := hv.shape
          exact ⟨⟨p, c, by rw [hnn]⟩, hb⟩
        clear hok hlt hlast hmore hpe hpd HL HN HA hdr hnn
        go_wp2_with fail
        refine (HNk.out _ (HM.out.below hbl)).mono ?_; rintro e w1 ⟨⟨v1, rfl, ⟨x1, rfl, hx1⟩⟩, b1⟩
        obtain ⟨p1, n1, c1, rfl⟩ := hx1.shape
        have hb1 := below_then hbl b1
        have hb1a := hb1.alloc hb1.size (.cells #[.int .u8 6, .string (mk nm), .slice p1 n1 c1, .bool cl, .string (mk tx)] 24)
        clear b1 hx1
        dsimp only
        go_wp2_with fail
        refine (HA2.out _ (HM.out.below hb1a)).mono ?_; rintro e w2 ⟨⟨p2, c2, rfl⟩, b2⟩
        go_wp2_with fail
        go_ret
        exact ⟨rfl, hb1.trans ((below_alloc_then b2).mono hb1.size)⟩
      · have hok1 := hok.1
        rcases hok1 with ⟨h, _, _⟩ | ⟨g1, g5, gt⟩
        · exact absurd h h6
        · dsimp only at g1 g5 gt
          have hul := hlt h6
          have hkk : (k : Int) < (k' : Int) := by omega
          have hks : (k' : Int) ≤ (s.size : Int) := by omega
          have hk6 : (((kd : Nat) : Int) == 6) = false := by rw [beq_eq_false_iff_ne]; omega
          have hk6' : ¬ ((kd : Nat) : Int) = 6 := by omega
          have g1z : (1 : Int) ≤ ((kd : Nat) : Int) := by omega
          have g5z : ((kd : Nat) : Int) ≤ 5 := by omega
          have HL2 : Hid (n + 1 + (allL ((bs s).drop k')).length = (allL (bs s)).length) := by
            have := HL.out; rw [hmore h6, List.length_cons] at this; show _ = _; rw [hpd]; omega
          by_cases hk1 : kd = 1
          · subst hk1
            have ht := gt rfl
            have ht1 : ¬ (mk tx).toList = [] := by rw [Lib.toList_data]; exact ht
            have ht2 : (mk tx).toList.isEmpty = false := by rw [List.isEmpty_eq_false_iff]; exact ht1
            clear hok hlt hlast hmore hpe hpd HL HN HA hdr gt ht hul
            go_wp2_with fail
            refine (HNk.out _ (HM.out.below hbl)).mono ?_; rintro e w1 ⟨⟨v1, rfl, ⟨x1, rfl, hx1⟩⟩, b1⟩
            obtain ⟨p1, n1, c1, rfl⟩ := hx1.shape
            have hb1 := below_then hbl b1
            clear b1 hx1
            dsimp only
            go_wp2_with fail
            go_roundw
            case rel => exact ⟨k', n + 1, rfl, by go_num, by omega, HL2, hb1.alloc hb1.size _⟩
            case measure => simp [intOf]; omega
          · have hk1z : (((kd : Nat) : Int) == 1) = false := by rw [beq_eq_false_iff_ne]; omega
            have hk1z' : ¬ ((kd : Nat) : Int) = 1 := by omega
            clear hok hlt hlast hmore hpe hpd HL HN HA hdr gt hul
            go_wp2_with fail
            refine (HNk.out _ (HM.out.below hbl)).mono ?_; rintro e w1 ⟨⟨v1, rfl, ⟨x1, rfl, hx1⟩⟩, b1⟩
            obtain ⟨p1, n1, c1, rfl⟩ := hx1.shape
            have hb1 := below_then hbl b1
            clear b1 hx1
            dsimp only
            go_wp2_with fail
            go_roundw
            case rel => exact ⟨k', n + 1, rfl, by go_num, by omega, HL2, hb1.alloc hb1.size _⟩
            case measure => simp [intOf]; omega
end Tym
