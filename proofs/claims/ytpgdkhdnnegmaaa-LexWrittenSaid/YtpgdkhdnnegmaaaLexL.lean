/- The law LexFrom. -/
import Derived.Test.YtpgdkhdnnegmaaaLexK
import Derived.Deep.CutRange
set_option linter.unusedSimpArgs false
set_option linter.unusedVariables false
open Go Go.RowKit Go.Proofs
namespace Tym
set_option maxRecDepth 100000

theorem lexNext_pos (s : ByteArray) (k : Nat) (m : Int) (name : ByteArray) (cd : Bool) (hk : k ≤ s.size) : (k : Int) ≤ (lexNext s k m name cd).2 ∧ (lexNext s k m name cd).2 ≤ (s.size : Int) := by
  unfold lexNext
  split
  · exact ⟨by show (k : Int) ≤ (s.size : Int); omega, Int.le_refl _⟩
  · have := (nextL_bounds m.toNat (endOf (bs name)) cd _ ((bs s).drop ((k : Nat) : Int).toNat) (Nat.le_refl _)).2
    rw [List.length_drop, ← size_bs, Int.toNat_natCast] at this
    rw [Int.toNat_natCast]
    unfold resOf
    simp only
    omega
theorem lexNext_shift (s : ByteArray) (k : Nat) (m : Int) (name : ByteArray) (cd : Bool) (hk : k ≤ s.size) : lexNext (s.extract k s.size) 0 m name cd = ((lexNext s k m name cd).1, (lexNext s k m name cd).2 - k) := by
  have hxs : (s.extract k s.size).size = s.size - k := by rw [ByteArray.size_extract]; omega
  unfold lexNext
  rw [hxs, bs_from]
  by_cases h : k < s.size
  · rw [if_neg (by omega), if_neg (by omega), show (0 : Int).toNat = 0 from rfl, List.drop_zero, Int.toNat_natCast]
    have := (nextL_bounds m.toNat (endOf (bs name)) cd _ ((bs s).drop k) (Nat.le_refl _)).2
    rw [List.length_drop, ← size_bs] at this
    unfold resOf
    simp only [Prod.mk.injEq, true_and]
    omega
  · rw [if_pos (by omega), if_pos (by omega)]
    simp only [Prod.mk.injEq, true_and]
    omega

set_option maxHeartbeats 1000000 in
theorem law_lexfrom (s : ByteArray) (i m : Int) (name : ByteArray) (cd : Bool) (w : World) (hm : Mx w) : Calls Try.prog 6 #[.string s, .int .i64 i, .int .u8 m, .string name, .bool cd] w fun e w' => e = .returned (.bool true) ∧ Below w.heap.size w w' := by
  have HM := Lib.hid hm
  clear hm
  by_cases h1 : (2000 : Int) < (s.size : Int)
  · go_enter Try.func6, Try.ntmps6
    go_wp2_with fail
    refine (lknown _ HM.out).mono ?_; rintro e w1 ⟨rfl, b1⟩
    go_wp2_with fail
    go_ret
    exact ⟨rfl, b1⟩
  · by_cases h2 : (2000 : Int) < (name.size : Int)
    · go_enter Try.func6, Try.ntmps6
      go_wp2_with fail
      refine (lknown _ HM.out).mono ?_; rintro e w1 ⟨rfl, b1⟩
      go_wp2_with fail
      go_ret
      exact ⟨rfl, b1⟩
    · obtain ⟨k, hk, hle⟩ : ∃ k : Nat, max i 0 % ((s.size : Int) + 1) = (k : Int) ∧ k ≤ s.size := by
        have a1 := Int.emod_nonneg (max i 0) (show (s.size : Int) + 1 ≠ 0 from by omega)
        have a2 := Int.emod_lt_of_pos (max i 0) (show 0 < (s.size : Int) + 1 from by omega)
        exact ⟨(max i 0 % ((s.size : Int) + 1)).toNat, by omega, by omega⟩
      have HK := Lib.hid hk
      have hxs : (s.extract k s.size).size ≤ s.size := by rw [ByteArray.size_extract]; omega
      have hkz : (k : Int) ≤ (s.size : Int) := by omega
      have HA := Lib.hid (fun w hm => lexNext_any s name k m cd w hm (by omega) (fun _ => ⟨by omega, by omega⟩))
      have HB := Lib.hid (fun w hm => lexNext_any (s.extract k s.size) name 0 m cd w hm (by omega) (fun _ => ⟨by omega, by omega⟩))
      rw [lexNext_shift s k m name cd hle] at HB
      have hlen := lexNext_atts s k m name cd
      have hbd := lexNext_pos s k m name cd hle
      clear hk hxs
      generalize lexNext s k m name cd = q at *
      obtain ⟨t, n⟩ := q
      have HS : Hid (∀ (B1 B2 : Nat) (v1 v2 : Value) (w : World), TokVal w B1 t v1 → TokVal w B2 t v2 → Calls Try.prog 10 #[v1, v2] w fun e w' => e = .returned (.bool true) ∧ Below w.heap.size w w') := fun B1 B2 v1 v2 w h1 h2 => sameTok_any t B1 B2 v1 v2 w (by simp only at hlen; omega) h1 h2
      dsimp only at HB hbd
      clear hlen
      go_enter Try.func6, Try.ntmps6
      go_wp2_with fail
      refine (lknown _ HM.out).mono ?_; rintro e w0 ⟨rfl, b0⟩
      go_upto_region 4 with (fail)
      rw [HK.out]
      go_wp2_with fail
      refine (HA.out _ (HM.out.below b0)).mono ?_; rintro e w1 ⟨⟨v1, rfl, ⟨x1, rfl, hx1⟩⟩, b1⟩
      obtain ⟨p1, n1, c1, rfl⟩ := hx1.shape
      have hv1 : TokVal w1 w0.heap.size t (.agg (tokCells t.kind (mk t.name) (.slice p1 n1 c1) t.closing (mk t.text))) := ⟨_, rfl, hx1⟩
      have hb1 := below_then b0 b1
      go_wp2_with fail
      refine (HB.out _ (HM.out.below (hb1.alloc hb1.size _))).mono ?_; rintro e w2 ⟨⟨v2, rfl, ⟨x2, rfl, hx2⟩⟩, b2⟩
      obtain ⟨p2, n2, c2, rfl⟩ := hx2.shape
      have hb2 : Below w.heap.size w w2 := hb1.trans ((below_alloc_then b2).mono hb1.size)
      have ht2 := below_block b2 (heap_alloc_new _ _)
      have hv12 := hv1.below (below_alloc_then b2)
      have hv2 : TokVal w2 _ t (.agg (tokCells t.kind (mk t.name) (.slice p2 n2 c2) t.closing (mk t.text))) := ⟨_, rfl, hx2⟩
      have hsz := lt_of_block ht2
      have hx2' := heap_alloc_new w2 (.cells (tokCells t.kind (mk t.name) (.slice p2 n2 c2) t.closing (mk t.text)) 24)
      have hx1' := (Below.heap_alloc w2 (.cells (tokCells t.kind (mk t.name) (.slice p2 n2 c2) t.closing (mk t.text)) 24) _ hsz).trans ht2
      have hv1' := hv12.below ((Below.refl _ w2).alloc (Nat.le_refl _) (.cells (tokCells t.kind (mk t.name) (.slice p2 n2 c2) t.closing (mk t.text)) 24))
      have hv2' := hv2.below ((Below.refl _ w2).alloc (Nat.le_refl _) (.cells (tokCells t.kind (mk t.name) (.slice p2 n2 c2) t.closing (mk t.text)) 24))
      have hb3 := hb2.alloc hb2.size (.cells (tokCells t.kind (mk t.name) (.slice p2 n2 c2) t.closing (mk t.text)) 24)
      clear b2 hv1 hx1 hx2 hv12 hv2 ht2 b0 b1 hb1
      go_upto_region 6 with (fail)
      generalize w2.alloc (.cells (tokCells t.kind (mk t.name) (.slice p2 n2 c2) t.closing (mk t.text)) 24) = W at *
      have hl1 := lt_of_block hx1'
      have hl2 := lt_of_block hx2'
      obtain ⟨⟨y0, y1, y2, y3, y4⟩, _⟩ := five hx1'
      obtain ⟨⟨z0, z1, z2, z3, z4⟩, _⟩ := five hx2'
      go_wp2_with fail
      refine (HS.out _ _ _ _ _ hv1' hv2').mono ?_; rintro e w4 ⟨rfl, b4⟩
      go_wp2_with fail
      go_ret
      exact ⟨rfl, hb3.trans (b4.mono hb3.size)⟩
end Tym
