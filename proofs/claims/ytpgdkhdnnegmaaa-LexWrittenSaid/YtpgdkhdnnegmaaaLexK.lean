/- The law LexNext. -/
import Derived.Test.YtpgdkhdnnegmaaaLexJb
set_option linter.unusedSimpArgs false
set_option linter.unusedVariables false
open Go Go.RowKit Go.Proofs
namespace Tym
set_option maxRecDepth 100000

set_option maxHeartbeats 1000000 in
theorem law_lexnext (s : ByteArray) (i m : Int) (name : ByteArray) (cd : Bool) (w : World) (hm : Mx w) : Calls Try.prog 3 #[.string s, .int .i64 i, .int .u8 m, .string name, .bool cd] w fun e w' => e = .returned (.bool true) ∧ Below w.heap.size w w' := by
  by_cases h1 : (2000 : Int) < (s.size : Int)
  · go_enter Try.func3, Try.ntmps3
    go_wp2_with fail
    go_ret
    exact ⟨rfl, Below.refl _ _⟩
  · by_cases h2 : (2000 : Int) < (name.size : Int)
    · go_enter Try.func3, Try.ntmps3
      go_wp2_with fail
      go_ret
      exact ⟨rfl, Below.refl _ _⟩
    · have HA := Lib.hid (fun w hm => lexNext_any s name i m cd w hm (by omega) (fun _ => ⟨by omega, by omega⟩))
      have HB := Lib.hid (fun w => refNext_any s name i m cd w (by omega) (fun _ => ⟨by omega, by omega⟩))
      have hlen := lexNext_atts s i m name cd
      generalize lexNext s i m name cd = q at *
      obtain ⟨t, n⟩ := q
      have HS : Hid (∀ (B1 B2 : Nat) (v1 v2 : Value) (w : World), TokVal w B1 t v1 → TokVal w B2 t v2 → Calls Try.prog 10 #[v1, v2] w fun e w' => e = .returned (.bool true) ∧ Below w.heap.size w w') := fun B1 B2 v1 v2 w h1 h2 => sameTok_any t B1 B2 v1 v2 w (by simp only at hlen; omega) h1 h2
      have HM := Lib.hid hm
      clear hlen hm
      go_enter Try.func3, Try.ntmps3
      go_wp2_with fail
      refine (HA.out _ HM.out).mono ?_; rintro e w1 ⟨⟨v1, rfl, ⟨x1, rfl, hx1⟩⟩, b1⟩
      obtain ⟨p1, n1, c1, rfl⟩ := hx1.shape
      have hv1 : TokVal w1 w.heap.size t (.agg (tokCells t.kind (mk t.name) (.slice p1 n1 c1) t.closing (mk t.text))) := ⟨_, rfl, hx1⟩
      go_wp2_with fail
      refine (HB.out _).mono ?_; rintro e w2 ⟨⟨v2, rfl, ⟨x2, rfl, hx2⟩⟩, b2⟩
      obtain ⟨p2, n2, c2, rfl⟩ := hx2.shape
      have hb2 : Below w.heap.size w w2 := b1.trans ((below_alloc_then b2).mono b1.size)
      have ht2 := below_block b2 (heap_alloc_new _ _)
      have hv12 := hv1.below (below_alloc_then b2)
      have hv2 : TokVal w2 _ t (.agg (tokCells t.kind (mk t.name) (.slice p2 n2 c2) t.closing (mk t.text))) := ⟨_, rfl, hx2⟩
      obtain ⟨⟨z0, z1, z2, z3, z4⟩, _⟩ := five ht2
      clear b2 hv1
      have hsz := lt_of_block ht2
      go_wp2_with fail
      refine (lknown _ (HM.out.below (hb2.alloc hb2.size _))).mono ?_; rintro e w3 ⟨rfl, b3⟩
      have hx2' := below_block b3 (heap_alloc_new _ _)
      have hx1' := below_block b3 ((Below.heap_alloc _ (.cells (tokCells t.kind (mk t.name) (.slice p2 n2 c2) t.closing (mk t.text)) 24) _ hsz).trans ht2)
      have hv1' := hv12.below (below_alloc_then b3)
      have hv2' := hv2.below (below_alloc_then b3)
      have hb3 := hb2.trans ((below_alloc_then b3).mono hb2.size)
      obtain ⟨⟨y0, y1, y2, y3, y4⟩, _⟩ := five hx1'
      obtain ⟨⟨x0, x1, x2, x3, x4⟩, _⟩ := five hx2'
      clear z0 z1 z2 z3 z4 b3 ht2 hx1 hx2
      go_wp2_with fail
      refine (HS.out _ _ _ _ _ hv1' hv2').mono ?_; rintro e w4 ⟨rfl, b4⟩
      go_wp2_with fail
      go_ret
      exact ⟨rfl, below_then hb3 b4⟩
end Tym
