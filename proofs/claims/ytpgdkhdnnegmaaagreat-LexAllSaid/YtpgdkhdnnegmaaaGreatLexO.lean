/- The reference's All. -/
import Derived.Test.YtpgdkhdnnegmaaaGreatLexJb
set_option linter.unusedSimpArgs false
set_option linter.unusedVariables false
open Go Go.RowKit Go.Proofs
namespace Tym
set_option maxRecDepth 20000
attribute [local irreducible] nextD allL

theorem ToksVal.below {W W' : World} {B : Nat} {l : List Tok} {cs : List (List Value)} (h : ToksVal W B l cs) (hb : Below W.heap.size W W') : ToksVal W' B l cs := h.keep (KeepA.below hb)

theorem own_below {W W' : World} {B : Nat} {v : Value} {n : Nat} {xs : List Value} (h : W.ownsRow B 29 5 v n xs) (hb : Below W.heap.size W W') : W'.ownsRow B 29 5 v n xs := by
  refine h.kept (grown_below hb none) ?_
  rcases h.2 with ⟨rfl, _⟩ | ⟨g', _, _, rfl, _⟩
  · exact .inl rfl
  · exact .inr (by simp [Value.ownBlock])

set_option maxHeartbeats 2000000 in
theorem refAll_any (s : ByteArray) (w : World) (hs : s.size ≤ 900000) : Calls Tryz.prog 7 #[.string s] w (AllPost w (allL (bs s))) := by
  have HN := Lib.hid (fun k hk w => refNextD s k w hs hk)
  have hLen := allL_len _ (bs s) (Nat.le_refl _)
  rw [← size_bs] at hLen
  go_enter Tryz.func7, Tryz.ntmps7
  go_wp2_with fail
  go_loopw [3, 4] (fun v3 v4 wr => ∃ (toks : List Tok) (k : Nat), v4 = .int .i64 k ∧ k ≤ s.size ∧ Hid (allL (bs s) = toks ++ allL ((bs s).drop k)) ∧ (∃ vals, wr.ownsRow w.heap.size 29 5 v3 toks.length (flatV vals) ∧ ToksVal wr w.heap.size toks vals) ∧ Below w.heap.size w wr) (fun _ v4 _ => s.size - (intOf v4).toNat)
  case atStart => exact ⟨[], 0, rfl, Nat.zero_le _, by show _ = _; rw [List.drop_zero]; rfl, ⟨[], World.ownsRow_nil _ _ _ _, trivial⟩, Below.refl _ _⟩
  case round =>
    obtain ⟨toks, k, rfl, hk, HL, ⟨vals, ho, ht⟩, hbl⟩ := hrel
    have hlt := nextD_lt ((bs s).drop k)
    have hlast := allL_last ((bs s).drop k)
    have hmore := allL_more ((bs s).drop k)
    have HNk := HN.out k hk
    have hdr : ((bs s).drop k).length = s.size - k := by rw [List.length_drop, ← size_bs]
    have hpd := posD_drop s k
    have hpe : posD s k = s.size - (nextD ((bs s).drop k)).2.length := rfl
    rw [hdr] at hlt
    unfold resOf at HNk
    rw [← hpe] at HNk
    have htl : toks.length ≤ s.size := by have := congrArg List.length HL.out; rw [List.length_append] at this; omega
    generalize nextD ((bs s).drop k) = q at *
    generalize posD s k = k' at *
    obtain ⟨⟨kd, nm, at_, cl, tx⟩, u⟩ := q
    dsimp only at HNk hlt hlast hmore hpe hpd
    have HNk := Lib.hid HNk
    have HO := Lib.hid ho
    have HT := Lib.hid ht
    obtain ⟨pv, nv, cv, rfl⟩ : ∃ p n c, u3 = .slice p n c := by
      rcases ho.2 with ⟨h, _⟩ | ⟨g, cap, _, h, _⟩
      · exact ⟨_, _, _, h⟩
      · exact ⟨_, _, _, h⟩
    by_cases h6 : kd = 6
    · subst h6
      have hall : allL (bs s) = toks := by have := HL.out; rwa [hlast rfl, List.append_nil] at this
      rw [hall]
      clear hlt hlast hmore hpe hpd HL HN hdr hall ho ht
      go_wp2_with fail
      refine (HNk.out _).mono ?_; rintro e w1 ⟨⟨v1, rfl, ⟨x1, rfl, hx1⟩⟩, b1⟩
      obtain ⟨p1, n1, c1, rfl⟩ := hx1.shape
      have hb1 := below_then hbl b1
      have ho1 := own_below HO.out b1
      have ht1 := HT.out.below b1
      clear b1 hx1
      dsimp only
      go_wp2_with fail
      go_ret
      exact ⟨⟨_, rfl, vals, own_below ho1 ((Below.refl _ w1).alloc (Nat.le_refl _) _), ht1.below ((Below.refl _ w1).alloc (Nat.le_refl _) _)⟩, hb1.alloc hb1.size _⟩
    · have hul := hlt h6
      have hk6 : (((kd : Nat) : Int) == 6) = false := by rw [beq_eq_false_iff_ne]; omega
      have hk6' : ¬ ((kd : Nat) : Int) = 6 := by omega
      have HL2 : Hid (allL (bs s) = (toks ++ [⟨kd, nm, at_, cl, tx⟩]) ++ allL ((bs s).drop k')) := by
        show _ = _; rw [HL.out, hmore h6, hpd]; simp
      have hk1 : k' ≤ s.size := by omega
      have hk2 : k < k' := by omega
      clear hlt hlast hmore hpd HL HN hdr ho ht hpe
      go_wp2_with fail
      refine (HNk.out _).mono ?_; rintro e w1 ⟨⟨v1, rfl, ⟨x1, rfl, hx1⟩⟩, b1⟩
      obtain ⟨p1, n1, c1, rfl⟩ := hx1.shape
      have hb1 := below_then hbl b1
      have hax := hx1.mono hbl.size
      have ho1 := own_below HO.out b1
      have ht1 := HT.out.below b1
      clear b1 hx1
      dsimp only at hax ⊢
      have hA := heap_alloc_new w1 (.cells #[.int .u8 kd, .string (mk nm), .slice p1 n1 c1, .bool cl, .string (mk tx)] 29)
      have hbA := (Below.refl _ w1).alloc (Nat.le_refl _) (.cells #[.int .u8 kd, .string (mk nm), .slice p1 n1 c1, .bool cl, .string (mk tx)] 29)
      have hb2 := hb1.alloc hb1.size (.cells #[.int .u8 kd, .string (mk nm), .slice p1 n1 c1, .bool cl, .string (mk tx)] 29)
      have ho2 := own_below ho1 hbA
      have ht2 := ht1.below hbA
      have hax2 := hax.below hbA
      go_upto_region 4 with (fail)
      clear ho1 ht1 hax hbA
      generalize w1.alloc (.cells #[.int .u8 kd, .string (mk nm), .slice p1 n1 c1, .bool cl, .string (mk tx)] 29) = W2 at *
      have hlA := lt_of_block hA
      obtain ⟨⟨z0, z1, z2, z3, z4⟩, _⟩ := five hA
      have hsz2 := hb2.size
      obtain ⟨i0, hi0, hz0, hz1, hz2⟩ := info_parts tokInfo
      have HO2 := Lib.hid ho2
      clear ho2
      go_wp2_with (at_builtin; refine wpList_append_own _ rfl _ _ 24 rfl w.heap.size 29 i0 (.agg tokZero) 5 72 Tryz.underlying24 hi0 hz0 hz1 hz2 rfl (by decide) _ _ _ rfl (HO2.out.alloc _) ⟨W2.heap.size, 0, none⟩ 1 1 [.int .u8 kd, .string (mk nm), .slice p1 n1 c1, .bool cl, .string (mk tx)] rfl rfl (cells_new _ _ _) (by intro u hu; simp at hu; rcases hu with rfl | rfl | rfl | rfl | rfl <;> rfl) (by unfold maxLen; omega) (by omega) (by simp; omega) ?_)
      rintro v' w3 hown' hgrow _
      have hgr : (W2.alloc (.cells [.int .u8 kd, .string (mk nm), .slice p1 n1 c1, .bool cl, .string (mk tx)].toArray 29)).grownBy w3 (Value.slice pv nv cv).ownBlock := hgrow
      have ga : W2.grownBy (W2.alloc (.cells [.int .u8 kd, .string (mk nm), .slice p1 n1 c1, .bool cl, .string (mk tx)].toArray 29)) (Value.slice pv nv cv).ownBlock := World.grownBy_alloc W2 _ _
      have g3 := grown_trans ga hgr
      have hKA : KeepA W2 w3 := KeepA.grown g3 fun g e cur hcur => by obtain ⟨cur', hc'⟩ := own_block HO2.out e; rw [hcur] at hc'; cases hc'
      have hb3 : Below w.heap.size W2 w3 := by
        cases hob : (Value.slice pv nv cv).ownBlock with
        | none => rw [hob] at g3; exact ⟨g3.os, g3.tape, g3.output, g3.size, fun k hk => g3.block k (by omega) (by simp)⟩
        | some g =>
          rw [hob] at g3
          refine below_grown g3 ?_ hsz2
          rcases HO2.out.2 with ⟨h, _⟩ | ⟨g', _, _, h, hle, _⟩
          · rw [h] at hob; cases hob
          · rw [h] at hob; cases hob; exact hle
      go_wp2_with fail
      go_roundw
      case rel => exact ⟨toks ++ [⟨kd, nm, at_, cl, tx⟩], k', rfl, by omega, HL2, ⟨vals ++ [[.int .u8 kd, .string (mk nm), .slice p1 n1 c1, .bool cl, .string (mk tx)]], by rw [flatV_snoc, List.length_append]; exact hown', (ht2.keep hKA).snoc rfl ⟨_, rfl, hax2.keep hKA⟩⟩, hb2.trans hb3⟩
      case measure => simp [intOf]; omega
end Tym
