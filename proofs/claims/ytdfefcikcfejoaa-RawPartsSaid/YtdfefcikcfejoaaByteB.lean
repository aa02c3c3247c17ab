/- The reference's Lower: a row of bytes that grows. -/
import Derived.Test.YtdfefcikcfejoaaByteA
set_option linter.unusedSimpArgs false
set_option linter.unusedVariables false
open Go Go.RowKit Go.Proofs
namespace Tym

theorem up_small (c : UInt8) (h1 : (65 : Int) ≤ (c.toNat : Int)) (h2 : (c.toNat : Int) ≤ 90) : ((small c).toNat : Int) = (c.toNat : Int) + 32 :=
  byte_all (p := fun c => (65 : Int) ≤ (c.toNat : Int) → (c.toNat : Int) ≤ 90 → ((small c).toNat : Int) = (c.toNat : Int) + 32) (by decide +kernel) c h1 h2
theorem not_small (c : UInt8) (h : ¬ ((65 : Int) ≤ (c.toNat : Int) ∧ (c.toNat : Int) ≤ 90)) : small c = c :=
  byte_all (p := fun c => ¬ ((65 : Int) ≤ (c.toNat : Int) ∧ (c.toNat : Int) ≤ 90) → small c = c) (by decide +kernel) c h

theorem lower_step (l : Bs) (i : Nat) (h : i < l.length) : (lower (l.take (i + 1))) = lower (l.take i) ++ [small (l.getD i 0)] := by
  rw [take_oneA l i h]; simp [lower]

theorem lowerR_any (s : ByteArray) (w : World) (hs : s.size ≤ 1000000000) : Calls Try.prog 9 #[.string s] w fun e w' => e = .returned (.string (mk (lower (bs s)))) ∧ Below w.heap.size w w' := by
  obtain ⟨i0, hi0, hz0, hz1, hz2⟩ := info_parts byteInfo
  go_enter Try.func9, Try.ntmps9
  go_wp2_with fail
  go_loopw [3, 4] (fun v k wr => ∃ i : Nat, i ≤ s.size ∧ k = .int .i64 i ∧ Hid (wr.ownsRow w.heap.size 5 1 v i ((lower ((bs s).take i)).map cellOf)) ∧ Below w.heap.size w wr) (fun _ k _ => s.size - (intOf k).toNat)
  case atStart => exact ⟨0, by omega, rfl, World.ownsRow_nil _ _ _ _, Below.refl _ _⟩
  case round =>
    obtain ⟨i, hi, rfl, hown, hb⟩ := hrel
    by_cases hlt : i < s.size
    · have hl : i < (bs s).length := by rw [← size_bs]; exact hlt
      have hg := get_bs s i hlt
      have hst := lower_step (bs s) i hl
      rw [← hg] at hst
      obtain ⟨c, hc⟩ : ∃ c, c = s[i]'hlt := ⟨_, rfl⟩
      rw [← hc] at hst hg
      have HS := Lib.hid hst
      clear hst hg
      have hsz := hb.size
      by_cases hup : (65 : Int) ≤ (c.toNat : Int) ∧ (c.toNat : Int) ≤ 90
      · have hu := up_small c hup.1 hup.2
        have HU := Lib.hid hu
        clear hu
        obtain ⟨hu1, hu2⟩ := hup
        rw [hc] at hu1 hu2
        go_wp2_with (at_builtin; refine wpList_append_own _ rfl _ _ 32 rfl w.heap.size 5 i0 (.int .u8 0) 1 1 Try.underlying32 hi0 hz0 hz1 hz2 rfl (by decide) _ _ _ rfl (hown.out.alloc _) ⟨wr.heap.size, 0, none⟩ 1 1 [.int .u8 (((s[i]'hlt).toNat : Int) + 32)] rfl rfl (by intro j u hj; (match j, hj with | 0, hj => (simp at hj; subst hj; simp [Addr.add]))) (by intro u hu; simp at hu; subst hu; rfl) (by unfold maxLen; omega) (by omega) (by simp; omega) ?_)
        intro v' w1 hown' hgrow _
        have hown2 : Hid (w1.ownsRow w.heap.size 5 1 v' (i + 1) ((lower ((bs s).take (i + 1))).map cellOf)) := by
          rw [HS.out, List.map_append]
          rw [← hc, ← HU.out] at hown'
          exact hown'
        have hb2 : Below w.heap.size w w1 := (hb.alloc hsz _).grown hgrow (by simp; omega) (fun k hk => (hown.out.lt k hk).1)
        clear hown' hgrow hown
        go_wp2
        go_roundw
        case rel => exact ⟨i + 1, by omega, by go_num, hown2, hb2⟩
        case measure => simp [intOf]; omega
      · have hu := not_small c hup
        rw [hu] at HS
        have hup2 : ¬ (65 : Int) ≤ (c.toNat : Int) ∨ ((65 : Int) ≤ (c.toNat : Int) ∧ ¬ (c.toNat : Int) ≤ 90) := by omega
        clear hup hu
        rw [hc] at hup2
        rcases hup2 with h1 | ⟨h1, h2⟩
        all_goals
          go_wp2_with (at_builtin; refine wpList_append_own _ rfl _ _ 32 rfl w.heap.size 5 i0 (.int .u8 0) 1 1 Try.underlying32 hi0 hz0 hz1 hz2 rfl (by decide) _ _ _ rfl (hown.out.alloc _) ⟨wr.heap.size, 0, none⟩ 1 1 [.int .u8 (((s[i]'hlt).toNat : Int))] rfl rfl (by intro j u hj; (match j, hj with | 0, hj => (simp at hj; subst hj; simp [Addr.add]))) (by intro u hu; simp at hu; subst hu; rfl) (by unfold maxLen; omega) (by omega) (by simp; omega) ?_)
          intro v' w1 hown' hgrow _
          have hown2 : Hid (w1.ownsRow w.heap.size 5 1 v' (i + 1) ((lower ((bs s).take (i + 1))).map cellOf)) := by
            rw [HS.out, List.map_append]
            rw [← hc] at hown'
            exact hown'
          have hb2 : Below w.heap.size w w1 := (hb.alloc hsz _).grown hgrow (by simp; omega) (fun k hk => (hown.out.lt k hk).1)
          clear hown' hgrow hown
          go_wp2
          go_roundw
          case rel => exact ⟨i + 1, by omega, by go_num, hown2, hb2⟩
          case measure => simp [intOf]; omega
    · have hie : i = s.size := by omega
      have hst := string_own (lower (bs s)) w.heap.size _ wr (by
        have := hown.out
        rw [hie, size_bs, List.take_length] at this
        rwa [show (lower (bs s)).length = (bs s).length from by simp [lower]])
      go_wp2
      go_ret
      exact ⟨rfl, hb⟩
end Tym
