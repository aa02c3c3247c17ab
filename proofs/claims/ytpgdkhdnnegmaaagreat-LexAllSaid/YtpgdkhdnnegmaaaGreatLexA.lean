/- The walks of lex's markup and end. -/
import Derived.Test.YtpgdkhdnnegmaaaGreatPlainLex
import Derived.Test.YtpgdkhdnnegmaaaGreatTagP
import Derived.Deep.CutRange
set_option linter.unusedSimpArgs false
set_option linter.unusedVariables false
open Go Go.RowKit Go.Proofs
namespace Tym
set_option maxRecDepth 20000

theorem noteBegins_at (s : ByteArray) (k : Nat) (w : World) (hs : s.size ≤ 1000000) : Calls Tryz.prog 15 #[.string s, .int .i64 k] w fun e w' => e = .returned (.bool (beginsNote ((bs s).drop k))) ∧ Below w.heap.size w w' := by
  have := noteBegins_any s k w hs
  rwa [show noteBeg s k = beginsNote ((bs s).drop k) from by unfold noteBeg; rw [if_neg (by omega), Int.toNat_natCast]] at this
theorem refNoteBegins_at (s : ByteArray) (k : Nat) (w : World) (hs : s.size ≤ 1000000) (hk : k ≤ 1000000) : Calls Tryz.prog 25 #[.string s, .int .i64 k] w fun e w' => e = .returned (.bool (beginsNote ((bs s).drop k))) ∧ Below w.heap.size w w' := by
  have := refNoteBegins_any s k w hs (by omega)
  rw [show noteBeg s k = beginsNote ((bs s).drop k) from by unfold noteBeg; rw [if_neg (by omega), Int.toNat_natCast]] at this
  exact this.mono fun e w' h => ⟨h.1, by rw [← h.2]; exact Below.refl _ _⟩

theorem lexMarkup_in (s : ByteArray) (k : Nat) (w : World) (hs : s.size ≤ 1000000) (hk : k < s.size) : Calls Tryz.prog 44 #[.string s, .int .i64 k] w fun e w' => e = .returned (.bool (markup ((bs s).drop k))) ∧ Below w.heap.size w w' := by
  have H1 := Lib.hid (fun w => begins_in s k w hs hk)
  have H2 := Lib.hid (fun w => noteBegins_at s k w hs)
  unfold markup
  generalize beginsTag ((bs s).drop k) = b1 at *
  generalize beginsNote ((bs s).drop k) = b2 at *
  cases b1 with
  | true =>
    go_enter Tryz.func44, Tryz.ntmps44
    go_wp2_with fail
    refine (H1.out _).mono ?_; rintro e w1 ⟨rfl, c1⟩
    go_wp2_with fail
    go_ret
    exact ⟨rfl, c1⟩
  | false =>
    go_enter Tryz.func44, Tryz.ntmps44
    go_wp2_with fail
    refine (H1.out _).mono ?_; rintro e w1 ⟨rfl, c1⟩
    go_wp2_with fail
    refine (H2.out _).mono ?_; rintro e w2 ⟨rfl, c2⟩
    go_wp2_with fail
    go_ret
    exact ⟨rfl, below_then c1 c2⟩
theorem refMarkup_in (s : ByteArray) (k : Nat) (w : World) (hs : s.size ≤ 1000000) (hk : k < s.size) : Calls Tryz.prog 27 #[.string s, .int .i64 k] w fun e w' => e = .returned (.bool (markup ((bs s).drop k))) ∧ Below w.heap.size w w' := by
  have H1 := Lib.hid (fun w => beginsR_in s k w hs hk)
  have H2 := Lib.hid (fun w => refNoteBegins_at s k w hs (by omega))
  unfold markup
  generalize beginsTag ((bs s).drop k) = b1 at *
  generalize beginsNote ((bs s).drop k) = b2 at *
  cases b1 with
  | true =>
    go_enter Tryz.func27, Tryz.ntmps27
    go_wp2_with fail
    refine (H1.out _).mono ?_; rintro e w1 ⟨rfl, c1⟩
    go_wp2_with fail
    go_ret
    exact ⟨rfl, c1⟩
  | false =>
    go_enter Tryz.func27, Tryz.ntmps27
    go_wp2_with fail
    refine (H1.out _).mono ?_; rintro e w1 ⟨rfl, c1⟩
    go_wp2_with fail
    refine (H2.out _).mono ?_; rintro e w2 ⟨rfl, c2⟩
    go_wp2_with fail
    go_ret
    exact ⟨rfl, below_then c1 c2⟩

theorem markup_60 (c : UInt8) (t : Bs) (h : markup (c :: t) = true) : c = 60 := by
  unfold markup at h
  rw [Bool.or_eq_true] at h
  rcases h with h | h
  · rw [beginsTag_cons, Bool.and_eq_true, beq_iff_eq] at h; exact h.1
  · cases t with
    | nil => cases h
    | cons d u => rw [beginsNote_cons, Bool.and_eq_true, beq_iff_eq] at h; exact h.1
theorem upMark_skip (r : Bs) : upMark r = upto 60 r + upMark (r.drop (upto 60 r)) := by
  induction r with
  | nil => rfl
  | cons c t ih =>
    by_cases hc : c = 60
    · have : upto 60 (c :: t) = 0 := by rw [hc]; simp [upto]
      rw [this, Nat.zero_add, List.drop_zero]
    · have h1 : upto 60 (c :: t) = upto 60 t + 1 := by simp [upto, hc]
      have h2 : ¬ markup (c :: t) = true := fun h => hc (markup_60 c t h)
      rw [h1, List.drop_succ_cons]
      show (if markup (c :: t) = true then 0 else 1 + upMark t) = _
      rw [if_neg h2, ih]; omega
theorem upMark_stop (r : Bs) (h : markup r = true) : upMark r = 0 := by
  cases r with
  | nil => rfl
  | cons c t => show (if markup (c :: t) = true then 0 else 1 + upMark t) = _; rw [if_pos h]
theorem upMark_go (r : Bs) (h0 : 0 < r.length) (h : markup r = false) : upMark r = 1 + upMark (r.drop 1) := by
  cases r with
  | nil => simp at h0
  | cons c t => show (if markup (c :: t) = true then 0 else 1 + upMark t) = _; rw [if_neg (by rw [h]; decide)]; rfl

theorem index_lt (s : ByteArray) (k : Nat) (w : World) : Calls Tryz.prog 43 #[.string (s.extract k s.size), .int .u8 60] w fun e w' => e = .returned (.int .i64 (idxI 60 ((bs s).drop k))) ∧ w = w' := by
  have := index_any (s.extract k s.size) 60 w
  rwa [bs_from] at this

theorem lexEnd_in (s : ByteArray) (i : Nat) (w : World) (hs : s.size ≤ 1000000) (hi : i < s.size) : Calls Tryz.prog 16 #[.string s, .int .i64 i] w fun e w' => e = .returned (.int .i64 ((i + 1 + upMark ((bs s).drop (i + 1)) : Nat) : Int)) ∧ Below w.heap.size w w' := by
  have HI := Lib.hid (fun k w => index_lt s k w)
  have HM := Lib.hid (fun k hk w => lexMarkup_in s k w hs hk)
  obtain ⟨N, hN⟩ : ∃ N, N = i + 1 + upMark ((bs s).drop (i + 1)) := ⟨_, rfl⟩
  have hNl : N ≤ s.size := by
    have := upMark_le ((bs s).drop (i + 1)); rw [List.length_drop, ← size_bs] at this; omega
  rw [← hN]
  have HN := Lib.hid hN
  clear hN
  go_enter Tryz.func16, Tryz.ntmps16
  go_wp2_with fail
  go_loopw [5] (fun v5 wr => ∃ k : Nat, k ≤ s.size ∧ v5 = .int .i64 k ∧ Hid (k + upMark ((bs s).drop k) = N) ∧ Below w.heap.size w wr) (fun v5 _ => s.size - (intOf v5).toNat)
  case atStart => exact ⟨i + 1, by omega, by go_num, HN.out.symm, Below.refl _ _⟩
  case round =>
    obtain ⟨k, hk, rfl, HK, hbl⟩ := hrel
    by_cases hlt : k < s.size
    · have hltz : (k : Int) < (s.size : Int) := by omega
      have hsk := upMark_skip ((bs s).drop k)
      rw [List.drop_drop] at hsk
      have hlen : ((bs s).drop k).length = s.size - k := by rw [List.length_drop, ← size_bs]
      have hul := upto_le 60 ((bs s).drop k)
      have HIk := HI.out k
      rw [hlen] at hul
      unfold idxI at HIk
      rw [hlen] at HIk
      have HK2 := HK.out
      rw [hsk] at HK2
      clear hsk
      generalize upto 60 ((bs s).drop k) = u at *
      by_cases hu : u < s.size - k
      · rw [if_pos hu] at HIk
        have HIk := Lib.hid HIk
        have HMk := HM.out (k + u) (by omega)
        have hgo := upMark_go ((bs s).drop (k + u)) (by rw [List.length_drop, ← size_bs]; omega)
        have hst := upMark_stop ((bs s).drop (k + u))
        rw [List.drop_drop] at hgo
        generalize markup ((bs s).drop (k + u)) = b at *
        cases b with
        | true =>
          rw [hst rfl] at HK2
          have HMk := Lib.hid HMk
          have hku : k + u = N := by omega
          clear HK2 hgo hst HK
          go_wp2_with fail
          refine (HIk.out _).mono ?_; rintro e w1 ⟨rfl, rfl⟩
          go_wp2_with fail
          refine (HMk.out _).mono ?_; rintro e w2 ⟨rfl, c2⟩
          go_wp2_with fail
          go_ret
          exact ⟨ret_int (by omega), below_then hbl c2⟩
        | false =>
          rw [hgo rfl] at HK2
          have HMk := Lib.hid HMk
          have HK3 : Hid (k + u + 1 + upMark ((bs s).drop (k + u + 1)) = N) := by show _ = _; omega
          clear HK2 hgo hst HK
          go_wp2_with fail
          refine (HIk.out _).mono ?_; rintro e w1 ⟨rfl, rfl⟩
          go_wp2_with fail
          refine (HMk.out _).mono ?_; rintro e w2 ⟨rfl, c2⟩
          go_wp2_with fail
          go_roundw
          case rel => exact ⟨k + u + 1, by omega, by go_num, HK3, below_then hbl c2⟩
          case measure => simp [intOf]; omega
      · rw [if_neg hu] at HIk
        have HIk := Lib.hid HIk
        have hnn : Hid (s.size = N) := by
          show _ = _
          have : upMark ((bs s).drop (k + u)) = 0 := by rw [List.drop_eq_nil_of_le (by rw [← size_bs]; omega)]; rfl
          omega
        clear HK2 HK
        go_wp2_with fail
        refine (HIk.out _).mono ?_; rintro e w1 ⟨rfl, rfl⟩
        go_wp2_with fail
        go_ret
        exact ⟨ret_int (by have := hnn.out; omega), hbl⟩
    · have hltz : ¬ (k : Int) < (s.size : Int) := by omega
      have hnn : Hid (s.size = N) := by
        show _ = _
        have h1 := HK.out
        have : upMark ((bs s).drop k) = 0 := by rw [List.drop_eq_nil_of_le (by rw [← size_bs]; omega)]; rfl
        omega
      clear HK
      go_wp2_with fail
      go_ret
      exact ⟨ret_int (by have := hnn.out; omega), hbl⟩
end Tym
