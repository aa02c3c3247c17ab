/- The laws TagAll and TagSize. -/
import Derived.Test.YtfioncakgjpmaaaTagQ
set_option linter.unusedSimpArgs false
set_option linter.unusedVariables false
open Go Go.RowKit Go.Proofs
namespace Tym
set_option maxRecDepth 100000

theorem law_tagall (s : ByteArray) (w : World) : Calls Try.prog 4 #[.string s] w fun e w' => e = .returned (.bool true) ∧ Below w.heap.size w w' := by
  by_cases h1 : (750 : Int) < (s.size : Int)
  · go_enter Try.func4, Try.ntmps4
    go_wp2_with fail
    go_ret
    exact ⟨rfl, Below.refl _ _⟩
  · have HR := Lib.hid (fun (i : Nat) w => law_tagreads s i w)
    go_enter Try.func4, Try.ntmps4
    go_wp2_with fail
    go_loopw [3] (fun v3 wr => ∃ j : Nat, v3 = .int .i64 j ∧ j ≤ s.size ∧ Below w.heap.size w wr) (fun v3 _ => s.size - (intOf v3).toNat)
    case atStart => exact ⟨0, rfl, Nat.zero_le _, Below.refl _ _⟩
    case round =>
      obtain ⟨j, rfl, hj, hbl⟩ := hrel
      by_cases hlt : j < s.size
      · have hltz : (j : Int) < (s.size : Int) := by omega
        cases h60 : (((s[j]'hlt).toNat : Int) != 60) with
        | true =>
          go_wp2_with fail
          go_roundw
          case rel => exact ⟨j + 1, by go_num, by omega, hbl⟩
          case measure => simp [intOf]; omega
        | false =>
          go_wp2_with fail
          refine (HR.out _ _).mono ?_; rintro e w2 ⟨rfl, b2⟩
          go_wp2_with fail
          go_roundw
          case rel => exact ⟨j + 1, by go_num, by omega, below_then hbl b2⟩
          case measure => simp [intOf]; omega
      · have hltz : ¬ (j : Int) < (s.size : Int) := by omega
        go_wp2_with fail
        refine (tknown _).mono ?_; rintro e w2 ⟨rfl, b2⟩
        go_wp2_with fail
        go_ret
        exact ⟨rfl, below_then hbl b2⟩

/-! The size of letters. -/
theorem bs_drop_lower (s : ByteArray) (k : Nat) : (bs (mk (lower (bs s)))).drop k = lower ((bs s).drop k) := by
  rw [bs_mk]; unfold lower; rw [List.map_drop]
theorem size_lower (s : ByteArray) : (mk (lower (bs s))).size = s.size := by rw [size_mk, lower_len, ← size_bs]

theorem tagRead_size (s : ByteArray) (i : Int) : ∃ l', tagRead (mk (lower (bs s))) i = (⟨(tagRead s i).1.kind, (tagRead s i).1.name, l', (tagRead s i).1.closing, []⟩, (tagRead s i).2.1, (tagRead s i).2.2) ∧ l'.map (·.1) = (tagRead s i).1.atts.map (·.1) := by
  unfold tagRead
  rw [size_lower, bs_drop_lower]
  by_cases h : i < 0 ∨ (s.size : Int) ≤ i
  · rw [if_pos h, if_pos h]; exact ⟨[], rfl, rfl⟩
  · rw [if_neg h, if_neg h]
    unfold tagAt
    rw [begins_size]
    by_cases hb : beginsTag ((bs s).drop i.toNat) = true
    · rw [if_pos hb, if_pos hb]
      have := readTag_size ((bs s).drop i.toNat)
      cases hr : readTag ((bs s).drop i.toNat) with
      | none => rw [hr] at this; simp only at this; rw [this]; exact ⟨[], rfl, rfl⟩
      | some o =>
        rw [hr] at this
        obtain ⟨l', e, hl⟩ := this
        rw [e]
        refine ⟨l', ?_, hl⟩
        simp only [tokOf, lower_len]
    · rw [if_neg hb, if_neg hb]; exact ⟨[], rfl, rfl⟩

theorem AttsAt.len {w : World} {B : Nat} {p : Option Addr} {n c : Nat} {l : List Att} (h : AttsAt w B (.slice p n c) l) : n = l.length := by
  rcases h with ⟨h, rfl⟩ | ⟨g, cap, cur, h, _⟩
  · cases h; rfl
  · cases h; rfl

set_option maxHeartbeats 2000000 in
theorem law_tagsize (s : ByteArray) (i : Int) (w : World) : Calls Try.prog 7 #[.string s, .int .i64 i] w fun e w' => e = .returned (.bool true) ∧ Below w.heap.size w w' := by
  by_cases h1 : (3000 : Int) < (s.size : Int)
  · go_enter Try.func7, Try.ntmps7
    go_wp2_with fail
    refine (tknown _).mono ?_; rintro e w2 ⟨rfl, b2⟩
    go_wp2_with fail
    go_ret
    exact ⟨rfl, b2⟩
  · have hs : s.size ≤ 1000000 := by omega
    have HA := Lib.hid (fun w => read_any s i w hs)
    have HB := Lib.hid (fun w => read_any (mk (lower (bs s))) i w (by rw [size_lower]; exact hs))
    have HL : Hid (∀ w, Calls Try.prog 16 #[.string s] w fun e w' => e = .returned (.string (mk (lower (bs s)))) ∧ Below w.heap.size w w') := fun w => lowerR_any s w (by omega)
    obtain ⟨l', he, hl⟩ := tagRead_size s i
    have hlen := tagRead_len s i
    rw [he] at HB
    clear he
    generalize tagRead s i = q at *
    generalize mk (lower (bs s)) = sl at *
    obtain ⟨⟨kd, nm, l, cl, tx⟩, n, is⟩ := q
    simp only at HA HB hl hlen
    have hll : l'.length = l.length := by simpa using congrArg List.length hl
    have HN : Hid (∀ j (h : j < l.length) (hb : j < l'.length), (l'[j]'hb).1 = (l[j]'h).1) := fun j h hb => by
      have e1 : (l'.map (·.1))[j]? = some (l'[j]'hb).1 := by rw [List.getElem?_map, List.getElem?_eq_getElem hb]; rfl
      have e2 : (l.map (·.1))[j]? = some (l[j]'h).1 := by rw [List.getElem?_map, List.getElem?_eq_getElem h]; rfl
      rw [hl, e2] at e1
      exact (Option.some.inj e1).symm
    clear hl
    go_enter Try.func7, Try.ntmps7
    go_wp2_with fail
    refine (tknown _).mono ?_; rintro e w0 ⟨rfl, b0⟩
    go_wp2_with fail
    refine (HA.out _).mono ?_; rintro e w1 ⟨⟨v1, rfl, hv1⟩, b1⟩
    obtain ⟨p1, n1, c1, rfl, ha1⟩ := hv1.cells
    have hb1 := below_then b0 b1
    go_wp2_with fail
    refine (HL.out _).mono ?_; rintro e w2 ⟨rfl, b2⟩
    go_wp2_with fail
    refine (HB.out _).mono ?_; rintro e w3 ⟨⟨v3, rfl, hv3⟩, b3⟩
    obtain ⟨p3, n3, c3, rfl, ha3⟩ := hv3.cells
    have hx1 := below_block b3 (below_block b2 (heap_alloc_new _ _))
    have ha1' := (ha1.below (below_alloc_then b2)).below b3
    have hb3 := below_then (hb1.trans ((below_alloc_then b2).mono hb1.size)) b3
    have e1 := ha1.len
    have e3 := ha3.len
    rw [hll] at e3
    subst e1 e3
    obtain ⟨⟨z0, z1, z2, z3, z4⟩, _⟩ := five hx1
    have hsz1 := lt_of_block hx1
    have hx3 := heap_alloc_new w3 (.cells (tokCells kd (mk nm) (.slice p3 l.length c3) cl (mk [])) 24)
    have hx1' := (Below.heap_alloc w3 (.cells (tokCells kd (mk nm) (.slice p3 l.length c3) cl (mk [])) 24) _ hsz1).trans hx1
    have ha1'' := ha1'.below ((Below.refl _ w3).alloc (Nat.le_refl _) (.cells (tokCells kd (mk nm) (.slice p3 l.length c3) cl (mk [])) 24))
    have ha3'' := ha3.below ((Below.refl _ w3).alloc (Nat.le_refl _) (.cells (tokCells kd (mk nm) (.slice p3 l.length c3) cl (mk [])) 24))
    have hb4 := hb3.alloc hb3.size (.cells (tokCells kd (mk nm) (.slice p3 l.length c3) cl (mk [])) 24)
    clear b2 b3 ha1 ha1' ha3 hv1 hv3
    go_wp2_with fail
    go_loopw [11] (fun v11 wr => ∃ j : Nat, v11 = .int .i64 j ∧ j ≤ l.length ∧ Below (w3.heap.size + 1) (w3.alloc (.cells (tokCells kd (mk nm) (.slice p3 l.length c3) cl (mk [])) 24)) wr) (fun v11 _ => l.length - (intOf v11).toNat)
    case atStart => exact ⟨0, rfl, Nat.zero_le _, Below.refl _ _⟩
    case round =>
      obtain ⟨j, rfl, hj, hbl⟩ := hrel
      have hbl' : Below (w3.alloc (.cells (tokCells kd (mk nm) (.slice p3 l.length c3) cl (mk [])) 24)).heap.size (w3.alloc (.cells (tokCells kd (mk nm) (.slice p3 l.length c3) cl (mk [])) 24)) wr := by rw [World.size_alloc]; exact hbl
      clear z0 z1 z2 z3 z4
      obtain ⟨⟨z0, z1, z2, z3, z4⟩, _⟩ := five (below_block hbl' hx1')
      obtain ⟨⟨y0, y1, y2, y3, y4⟩, _⟩ := five (below_block hbl' hx3)
      by_cases hlt : j < l.length
      · have hltz : (j : Int) < (l.length : Int) := by omega
        have hNj := HN.out j hlt (by omega)
        rcases ha1'' with ⟨hv, hl⟩ | ⟨g1, k1, cur1, hv, _, hg1, hk1, _, ht1⟩
        · rw [hl] at hlt; simp at hlt
        · rcases ha3'' with ⟨hv', hl⟩ | ⟨g3, k3, cur3, hv', _, hg3, hk3, _, ht3⟩
          · rw [hl] at hll; simp at hll; rw [← hll] at hlt; simp at hlt
          · simp only [Value.slice.injEq] at hv hv'
            obtain ⟨rfl, hq1, rfl⟩ := hv
            obtain ⟨rfl, hq2, rfl⟩ := hv'
            have x1 := (atts_cells (below_block hbl' hg1) ht1 j hlt).1
            have x3 := (atts_cells (below_block hbl' hg3) ht3 j (by omega)).1
            rw [hNj] at x3
            have hkk : l.length ≤ c3 := by omega
            generalize mk (l[j]'hlt).1 = a at *
            clear hNj hq1 hq2 hk3 hll
            go_wp2_with fail
            go_quiet (fail)
            go_wp2_with fail
            go_roundw
            case rel => exact ⟨j + 1, by go_num, by omega, below_drewN hbl _⟩
            case measure => simp [intOf]; omega
      · have hltz : ¬ (j : Int) < (l.length : Int) := by omega
        go_wp2_with fail
        go_ret
        exact ⟨rfl, hb4.trans (hbl'.mono hb4.size)⟩
end Tym
