/- The walk of Read, behind Begins. -/
import Derived.Test.YtpgdkhdnnegmaaaGreatTagH
import Derived.Test.YtpgdkhdnnegmaaaGreatPlainNote
import Derived.Deep.RegionWith
import Derived.Deep.CutRange
import Derived.Laws.BitsLemmas
set_option linter.unusedSimpArgs false
set_option linter.unusedVariables false
open Go Go.RowKit Go.Proofs
namespace Tym
set_option maxRecDepth 20000
attribute [local irreducible] tagL attrOf ReadPost

theorem attInfo : (Tryz.prog.info? 59).map (fun i => (i.zero, i.size, i.bytes)) = some (some (.agg #[.string ⟨#[]⟩, .string ⟨#[]⟩]), 2, 32) := by kernel_rfl

theorem AttsAt.shape {w : World} {B : Nat} {v : Value} {l : List Att} (h : AttsAt w B v l) : ∃ p n c, v = .slice p n c := by
  rcases h with ⟨rfl, _⟩ | ⟨g, cap, cur, rfl, _⟩ <;> exact ⟨_, _, _, rfl⟩

theorem AttsAt.setLow {w : World} {B : Nat} {v : Value} {l : List Att} (h : AttsAt w B v l) {a : Addr} (ha : a.block < B) (u : Value) : AttsAt (w.setCell a u) B v l := by
  rcases h with h | ⟨g, cap, cur, rfl, hb, hg, rest⟩
  · exact .inl h
  · exact .inr ⟨g, cap, cur, rfl, hb, block_other hg (by omega) u, rest⟩
theorem AttsAt.set5 {w : World} {B : Nat} {v : Value} {l : List Att} (h : AttsAt w B v l) {b : Nat} (hb : b < B) (c0 c1 c2 c3 c4 : Value) :
    AttsAt (((((w.setCell ⟨b, 0, none⟩ c0).setCell ⟨b, 1, none⟩ c1).setCell ⟨b, 2, none⟩ c2).setCell ⟨b, 3, none⟩ c3).setCell ⟨b, 4, none⟩ c4) B v l :=
  ((((h.setLow (a := ⟨b, 0, none⟩) hb _).setLow (a := ⟨b, 1, none⟩) hb _).setLow (a := ⟨b, 2, none⟩) hb _).setLow (a := ⟨b, 3, none⟩) hb _).setLow (a := ⟨b, 4, none⟩) hb _
theorem read_pos (s : ByteArray) (k : Nat) (t : Bs) (hk : k < s.size) (h : (bs s).drop (k + 1) = t) : ((s.size - t.length : Nat) : Int) = (k : Int) + 1 := by
  rw [← drop_len s (k + 1) t (by omega) h]; omega

theorem wrap_small (x : Int) (h0 : 0 ≤ x) (h1 : x ≤ 1000000000) : IntKind.i64.wrap x = x := by rw [IntKind.wrap_i64]; omega
theorem drew_block {w : World} {b : Nat} {o : Obj} (h : w.heap[b]? = some o) : w.drew.heap[b]? = some o := h
theorem AttsAt.drew {w : World} {B : Nat} {v : Value} {l : List Att} (h : AttsAt w B v l) : AttsAt w.drew B v l := h

theorem alloc_set5 {w : World} {b : Nat} {a0 a1 a2 a3 a4 c0 c1 c2 c3 c4 : Value} {t : TypeId} {o : Obj} (h : w.heap[b]? = some (.cells #[a0, a1, a2, a3, a4] t (0, 0))) :
    ((((((w.setCell ⟨b, 0, none⟩ c0).setCell ⟨b, 1, none⟩ c1).setCell ⟨b, 2, none⟩ c2).setCell ⟨b, 3, none⟩ c3).setCell ⟨b, 4, none⟩ c4).alloc o).heap[b]? = some (.cells #[c0, c1, c2, c3, c4] t (0, 0)) :=
  (Below.heap_alloc _ o b (lt_of_block (set5_row h))).trans (set5_row h)
theorem drop_suffix (s : ByteArray) (u : Bs) (h : u <:+ bs s) : (bs s).drop (s.size - u.length) = u := by
  obtain ⟨p, hp⟩ := h
  have hl : s.size - u.length = p.length := by rw [size_bs, ← hp, List.length_append]; omega
  rw [hl, ← hp, List.drop_left]

/-- What holds at each round. -/
def RdLoop (s : ByteArray) (kd : Int) (nm : ByteArray) (w : World) (br : Nat) (res : Option (List Att × Bool × Bs)) (v : Value) (wr : World) : Prop :=
  ∃ (l : List Att) (k : Nat), k ≤ s.size ∧ l.length ≤ k ∧ RdAt wr br s k ∧ wr.heap[br + 1]? = some (.cells (tokCells kd nm (.slice none 0 0) false ⟨#[]⟩) 29 (0, 0)) ∧
    wr.heap[w.heap.size]? = some (.cells tokZero 29 (0, 0)) ∧ wr.ownsRow (br + 2) 59 2 v l.length (flat l) ∧ tagL l ((bs s).drop k) = res ∧ Below w.heap.size w wr

theorem two_new (w : World) (o1 o2 : Obj) : ((w.alloc o1).alloc o2).heap[w.heap.size]? = some o1 ∧ ((w.alloc o1).alloc o2).heap[w.heap.size + 1]? = some o2 ∧ ∀ (b : Nat) (o : Obj), w.heap[b]? = some o → ((w.alloc o1).alloc o2).heap[b]? = some o := by
  have h1 := heap_alloc_new w o1
  have h2 := heap_alloc_new (w.alloc o1) o2
  rw [World.size_alloc] at h2
  refine ⟨(Below.heap_alloc _ _ _ (by simp)).trans h1, h2, fun b o h => ?_⟩
  exact (Below.heap_alloc _ _ _ (by have := lt_of_block h; simp; omega)).trans ((Below.heap_alloc _ _ _ (lt_of_block h)).trans h)
theorem two_below (w : World) (o1 o2 : Obj) : Below w.heap.size w ((w.alloc o1).alloc o2) := ((Below.refl _ w).alloc (Nat.le_refl _) _).alloc (by simp) _

set_option maxHeartbeats 4000000 in
theorem read_walk2 (s : ByteArray) (k : Nat) (w : World) (hs : s.size ≤ 1000000) (hk : k + 1 < s.size) (kd : Int) (k0 : Nat) (hh : kd = 2 ∧ k0 = k + 1 ∧ s[k + 1]'hk ≠ 47)
    (HBg : Hid (∀ w, Calls Tryz.prog 13 #[.string s, .int .i64 k] w fun e w' => e = .returned (.bool true) ∧ Below w.heap.size w w'))
    (nm : ByteArray) (k1 : Nat) (hk1 : k1 = skip namedB s k0) (hnm : nm = mk (lower (bs (s.extract k0 k1)))) (res : Option (List Att × Bool × Bs)) (hres : tagL [] ((bs s).drop k1) = res) :
    Calls Tryz.prog 14 #[.string s, .int .i64 k] w fun e w' => ReadPost s kd nm w res e w' := by
  have hk1s := skip_le namedB s k0 (by omega)
  rw [← hk1] at hk1s
  have h47 : (((s[k + 1]'hk).toNat : Int) == 47) = false := by
    obtain ⟨rfl, rfl, h⟩ := hh
    rw [Bool.eq_false_iff, Ne, beq_iff_eq]; intro h'; apply h; exact UInt8.toNat.inj (by simpa using (by omega : (s[k + 1]'hk).toNat = 47))
  have H1 : Hid (∀ (w : World) (b : Nat), RdAt w b s k0 → Calls Tryz.prog 34 #[.pointer (some ⟨b, 0, none⟩), .func (.func 35) #[] #[]] w fun e w' =>
      e = .returned (.string (s.extract k0 k1)) ∧ RdAt w' b s k1 ∧ w.grownBy w' (some b)) := fun w b hb => by rw [hk1]; exact take_skip _ _ namedB b s k0 w hs (by omega) hb (pays_named w b)
  have H2 : Hid (∀ w, Calls Tryz.prog 29 #[.string (s.extract k0 k1)] w fun e w' => e = .returned (.string nm) ∧ Below w.heap.size w w') := fun w => by rw [hnm]; exact lower_any _ w (by rw [ByteArray.size_extract]; omega)
  have hkz : (k : Int) + 1 < (s.size : Int) := by omega
  have hkz0 : 0 ≤ (k : Int) + 1 := by omega
  have hks : k1 ≤ s.size := hk1s.2
  have hk01 : 0 ≤ k1 := by omega
  have HR := Lib.hid hres
  clear hk1 hnm hres hk1s
  obtain ⟨rfl, rfl, h⟩ := hh
  clear h
  go_enter Tryz.func14, Tryz.ntmps14
  go_wp2_with fail
  refine wp_scope_straight ?_
  go_wp2_with fail
  refine (HBg.out _).mono ?_; rintro e w1 ⟨rfl, hB1⟩
  have h0 := below_block hB1 (heap_alloc_new _ _)
  have hb1 := below_alloc_then hB1
  clear hB1
  go_wp2_with fail
  refine (H1.out _ _ (two_new w1 _ _).1).mono ?_; rintro e w3 ⟨rfl, hb3, hg3⟩
  have ht3 := grown_block hg3 (two_new w1 _ _).2.1 (by simp)
  have h03 := grown_block hg3 ((two_new w1 _ _).2.2 _ _ h0) (by have := lt_of_block h0; simp; omega)
  have hbl3 : Below w.heap.size w w3 := (hb1.trans ((two_below w1 _ _).mono hb1.size)).trans (below_grown hg3 hb1.size (by have := hb1.size; simp; omega))
  have hw1 := hb1.size
  have hl0 := lt_of_block h0
  clear hg3 h0
  go_wp2_with fail
  refine (H2.out _).mono ?_; rintro e w4 ⟨rfl, hB4⟩
  have ht4 := below_block hB4 ht3
  have h04 := below_block hB4 h03
  have hb4 := hb3.below hB4
  have hbl4 := below_then hbl3 hB4
  obtain ⟨⟨z0, z1, z2, z3, z4⟩, f0, f1, f2, f3, f4⟩ := five ht4
  clear hB4 ht3 h03 hb3 hbl3 hb1
  go_wp2_with fail
  clear z0 z1 z2 z3 z4 f0 f1 f2 f3 f4
  go_step3
  go_wp2_with fail
  go_loopw [9] (fun v9 wr => RdLoop s 2 nm w w1.heap.size res v9 wr) (fun v9 wr => s.size - atOf wr w1.heap.size)
  case atStart =>
    exact ⟨[], k1, hks, Nat.zero_le _, block_other hb4 (by simp) _, row_set ht4 1 _, block_other h04 (by simp; omega) _, World.ownsRow_nil _ _ _ _, HR.out, hbl4.setCell (p := ⟨w1.heap.size + 1, 1, none⟩) (by show w.heap.size ≤ w1.heap.size + 1; omega) _⟩
  case round =>
    clear ht4 h04 hb4 hbl4
    obtain ⟨l, k2, hk2, hlk, hb, ht, h0, hown, HT, hbl⟩ := hrel
    have HT := Lib.hid HT
    have hs3 := skip_le isSpace s k2 hk2
    have hd3 := skip_drop isSpace s k2
    have HS := Lib.hid (take_skip _ _ isSpace _ s k2 wr hs hk2 hb (pays_space wr _))
    have hbr := lt_of_block hb
    have hbOld := hb
    have hobn : ∀ g, u9.ownBlock = some g → w1.heap.size + 2 ≤ g := fun g hg => (hown.lt g hg).1
    cases hr : ((bs s).drop k2).dropWhile isSpace with
    | nil =>
      rw [hr] at hd3
      have he := (drop_nil_iff s _ hs3.2).1 hd3
      have HX : Hid (res = none) := HT.out.symm.trans (tagL_none l _ hr)
      have HSee : Hid (∀ w, RdAt w w1.heap.size s (skip isSpace s k2) → Calls Tryz.prog 37 #[.pointer (some ⟨w1.heap.size, 0, none⟩)] w fun e w' => e = .returned (.tuple #[.int .u8 0, .bool false]) ∧ Below w.heap.size w w') := fun w hb => see_out _ s _ w hs he hb
      clear hr hd3 HT hb ht hown he
      generalize skip isSpace s k2 = k3 at *
      go_wp2_with fail
      refine HS.out.mono ?_; rintro e w5 ⟨rfl, hb5, hg5⟩
      have h05 := grown_block hg5 h0 (by simp; omega)
      have hbl5 := hbl.trans (below_grown hg5 (by omega) hbl.size)
      go_wp2_with fail
      refine (HSee.out _ hb5).mono ?_; rintro e w6 ⟨rfl, hB6⟩
      have h06 := below_block hB6 h05
      have hbl6 := below_then hbl5 hB6
      obtain ⟨⟨z0, z1, z2, z3, z4⟩, f0, f1, f2, f3, f4⟩ := five h06
      clear hb5 hg5 h05 hbl5 hB6 h0 hbl
      go_wp2_with fail
      simp only [Exit.noGoto, Exit.inBlock, Exit.then]
      exact ret_cell_tmp2 rfl rfl rfl (set5_row h06) Tryz.underlying29 rfl (by kernel_rfl) (by unfold ReadPost; rw [HX.out]; exact ⟨set5_below hbl6 (Nat.le_refl _) _ _ _ _ _, rfl⟩)
    | cons c t =>
      rw [hr] at hd3
      obtain ⟨hlt3, hc3, ht3⟩ := drop_cons_get s _ c t hd3
      have HSee : Hid (∀ w, RdAt w w1.heap.size s (skip isSpace s k2) → Calls Tryz.prog 37 #[.pointer (some ⟨w1.heap.size, 0, none⟩)] w fun e w' => e = .returned (.tuple #[.int .u8 c.toNat, .bool true]) ∧ Below w.heap.size w w') := fun w hb => by
        rw [← hc3]; exact see_in _ s _ w hs hlt3 hb
      have HTC := Lib.hid (tagL_cons l _ c t hr)
      clear hr hc3
      have HD3 := Lib.hid hd3
      have HT3 := Lib.hid ht3
      clear hd3 ht3
      generalize skip isSpace s k2 = k3 at *
      have g62 : ((c.toNat : Int) == 62) = decide (c = 62) := byte_all (p := fun c => ((c.toNat : Int) == 62) = decide (c = 62)) (by decide +kernel) c
      have g47 : ((c.toNat : Int) == 47) = decide (c = 47) := byte_all (p := fun c => ((c.toNat : Int) == 47) = decide (c = 47)) (by decide +kernel) c
      go_wp2_with fail
      refine HS.out.mono ?_; rintro e w5 ⟨rfl, hb5, hg5⟩
      have h05 := grown_block hg5 h0 (by simp; omega)
      have ht5 := grown_block hg5 ht (by simp)
      have hown5 := hown.kept hg5 (.inr (fun e => by have := hobn _ e; omega))
      have hbl5 := hbl.trans (below_grown hg5 (by omega) hbl.size)
      go_wp2_with fail
      refine (HSee.out _ hb5).mono ?_; rintro e w6 ⟨rfl, hB6⟩
      have h06 := below_block hB6 h05
      have ht6 := below_block hB6 ht5
      have hb6 := hb5.below hB6
      have hown6 := hown5.kept (grown_below hB6 none) (by cases u9.ownBlock <;> simp)
      have hbl6 := below_then hbl5 hB6
      have hA6 := AttsAt.own hown6
      clear hb5 hg5 h05 ht5 hown5 hbl5 hB6 h0 ht hown hbl HSee HS hb
      by_cases h62 : c = 62
      · rw [decide_eq_true h62] at g62
        have HX : Hid (res = some (l, false, t)) := HT.out.symm.trans (by rw [HTC.out, if_pos h62])
        clear HTC h62
        obtain ⟨⟨z0, z1, z2, z3, z4⟩, f0, f1, f2, f3, f4⟩ := five ht6
        go_wp2_with fail
        refine (clip_atts _ l u9 _ (by omega) hA6).mono ?_; rintro e w7 ⟨⟨v', rfl, hA7, hob7⟩, rfl⟩
        obtain ⟨vp, vn, vc, rfl⟩ := hA7.shape
        go_wp2_with fail
        obtain ⟨⟨y0, y1, y2, y3, y4⟩, e0, e1, e2, e3, e4⟩ := five h06
        have c1 := two_cell1 hb6
        have hnb : ¬ (w1.heap.size = w1.heap.size + 1) := by omega
        have hnc : ¬ (w.heap.size = w1.heap.size + 1) := by omega
        go_cut [5, 6] from 112 to 117 (fun v5 v6 wx => v5 = .int .i64 ((k3 : Int) + 1) ∧ v6 = .bool true ∧ wx.heap[w.heap.size]? = some (.cells (tokCells 2 nm (.slice vp vn vc) false ⟨#[]⟩) 29 (0, 0)) ∧ Below w.heap.size w wx ∧ AttsAt wx (w1.heap.size + 2) (.slice vp vn vc) l)
        case first =>
          go_region_with (fail)
          all_goals (go_wp2_with fail; go_meet)
          all_goals exact ⟨congrArg _ (wrap_small _ (by omega) (by omega)), rfl, drew_block (set5_row (block_other h06 hnc _)), Below.drew (set5_below (hbl6.setCell (p := ⟨w1.heap.size + 1, 2, none⟩) (by show w.heap.size ≤ w1.heap.size + 1; omega) _) (Nat.le_refl _) _ _ _ _ _),
            AttsAt.drew (AttsAt.set5 (hA7.setLow (a := ⟨w1.heap.size + 1, 2, none⟩) (by show w1.heap.size + 1 < w1.heap.size + 2; omega) _) (by omega) _ _ _ _ _)⟩
        case rest =>
          obtain ⟨rfl, rfl, h08, hbl8, hA8⟩ := hcut
          clear z0 z1 z2 z3 z4 f0 f1 f2 f3 f4 y0 y1 y2 y3 y4 e0 e1 e2 e3 e4 c1
          go_wp2_with fail
          simp only [Exit.noGoto]
          exact ret_cell_tmp2 rfl rfl rfl h08 Tryz.underlying29 rfl (by kernel_rfl)
            (by
              unfold ReadPost
              rw [HX.out]
              refine ⟨hbl8, .inr ⟨rfl, _, ?_, hA8.mono (by omega)⟩⟩
              rw [read_pos s k3 t hlt3 HT3.out]
              rfl)
      · rw [decide_eq_false h62] at g62
        have c1 := two_cell1 hb6
        have f1 := two_free1 hb6
        by_cases h47c : c = 47
        · rw [decide_eq_true h47c] at g47
          have HP : Hid (∀ w, Calls Tryz.prog 38 #[.string (s.extract (k3 + 1) s.size), .string ⟨#[62]⟩] w fun e w' => e = .returned (.bool (begins t [62])) ∧ w = w') := fun w => by
            have := prefix_from s (k3 + 1) [62] w; rw [HT3.out] at this; exact this
          have hk3 : (k3 : Int) + 1 ≤ (s.size : Int) := by omega
          have hk30 : 0 ≤ (k3 : Int) + 1 := by omega
          have hb7 : RdAt (w6.setCell ⟨w1.heap.size, 1, none⟩ (.int .i64 ((k3 : Int) + 1))) w1.heap.size s (k3 + 1) := hb6.step
          have ht7 : (w6.setCell ⟨w1.heap.size, 1, none⟩ (.int .i64 ((k3 : Int) + 1))).heap[w1.heap.size + 1]? = _ := block_other ht6 (by show w1.heap.size + 1 ≠ w1.heap.size; omega) _
          have h07 : (w6.setCell ⟨w1.heap.size, 1, none⟩ (.int .i64 ((k3 : Int) + 1))).heap[w.heap.size]? = _ := block_other h06 (by show w.heap.size ≠ w1.heap.size; omega) _
          have hown7 : (w6.setCell ⟨w1.heap.size, 1, none⟩ (.int .i64 ((k3 : Int) + 1))).ownsRow (w1.heap.size + 2) 59 2 u9 l.length (flat l) := hown6.kept (grown_set _ ⟨w1.heap.size, 1, none⟩ _) (.inr (fun e => by have : w1.heap.size + 2 ≤ w1.heap.size := hobn _ e; omega))
          have hbl7 : Below w.heap.size w (w6.setCell ⟨w1.heap.size, 1, none⟩ (.int .i64 ((k3 : Int) + 1))) := hbl6.setCell (p := ⟨w1.heap.size, 1, none⟩) (by show w.heap.size ≤ w1.heap.size; omega) _
          cases hp : begins t [62] with
          | true =>
            have hh : t.head? = some 62 := by
              cases t with
              | nil => simp [begins] at hp
              | cons d t => simp [begins] at hp; rw [← hp]; rfl
            have HX : Hid (res = some (l, true, t.tail)) := HT.out.symm.trans (by rw [HTC.out, if_neg h62, if_pos h47c, if_pos hh])
            have HT4 : Hid ((bs s).drop (k3 + 1 + 1) = t.tail ∧ k3 + 1 < s.size) := by
              cases t with
              | nil => cases hh
              | cons d t =>
                obtain ⟨h1, _, h2⟩ := drop_cons_get s (k3 + 1) d t HT3.out
                exact ⟨h2, h1⟩
            rw [hp] at HP
            have hA7 := AttsAt.own hown7
            clear HTC h62 h47c hh hp
            obtain ⟨⟨z0, z1, z2, z3, z4⟩, q0, q1, q2, q3, q4⟩ := five ht6
            go_wp2_with fail
            refine (HP.out _).mono ?_; rintro e w7 ⟨rfl, rfl⟩
            clear c1 f1
            have ht8 : ((w6.setCell ⟨w1.heap.size, 1, none⟩ (.int .i64 ((k3 : Int) + 1))).setCell ⟨w1.heap.size + 1, 3, none⟩ (.bool true)).heap[w1.heap.size + 1]? = some (.cells (tokCells 2 nm (.slice none 0 0) true ⟨#[]⟩) 29 (0, 0)) := row_set ht7 3 _
            have h08 : ((w6.setCell ⟨w1.heap.size, 1, none⟩ (.int .i64 ((k3 : Int) + 1))).setCell ⟨w1.heap.size + 1, 3, none⟩ (.bool true)).heap[w.heap.size]? = _ := block_other h07 (by show w.heap.size ≠ w1.heap.size + 1; omega) _
            have hb8 : RdAt ((w6.setCell ⟨w1.heap.size, 1, none⟩ (.int .i64 ((k3 : Int) + 1))).setCell ⟨w1.heap.size + 1, 3, none⟩ (.bool true)) w1.heap.size s (k3 + 1) := block_other hb7 (by show w1.heap.size ≠ w1.heap.size + 1; omega) _
            have hA8 := hA7.setLow (a := ⟨w1.heap.size + 1, 3, none⟩) (by show w1.heap.size + 1 < w1.heap.size + 2; omega) (.bool true)
            have hbl8 := hbl7.setCell (p := ⟨w1.heap.size + 1, 3, none⟩) (by show w.heap.size ≤ w1.heap.size + 1; omega) (.bool true)
            go_wp2_with fail
            refine (clip_atts _ l u9 _ (by omega) hA8).mono ?_; rintro e w7 ⟨⟨v', rfl, hA7', hob7⟩, rfl⟩
            obtain ⟨vp, vn, vc, rfl⟩ := hA7'.shape
            clear z0 z1 z2 z3 z4 q0 q1 q2 q3 q4 hA7 hA8 h07 ht7 hb7 hown7 hbl7 h06 ht6 hb6 hown6 hbl6 hA6
            generalize hW8 : (w6.setCell ⟨w1.heap.size, 1, none⟩ (.int .i64 ((k3 : Int) + 1))).setCell ⟨w1.heap.size + 1, 3, none⟩ (.bool true) = w8 at *
            obtain ⟨⟨z0, z1, z2, z3, z4⟩, q0, q1, q2, q3, q4⟩ := five ht8
            go_wp2_with fail
            obtain ⟨⟨y0, y1, y2, y3, y4⟩, e0, e1, e2, e3, e4⟩ := five h08
            have c1 := two_cell1 hb8
            have hnb : ¬ (w1.heap.size = w1.heap.size + 1) := by omega
            have hnc : ¬ (w.heap.size = w1.heap.size + 1) := by omega
            go_cut [5, 6] from 112 to 117 (fun v5 v6 wx => v5 = .int .i64 ((k3 : Int) + 1 + 1) ∧ v6 = .bool true ∧ wx.heap[w.heap.size]? = some (.cells (tokCells 2 nm (.slice vp vn vc) true ⟨#[]⟩) 29 (0, 0)) ∧ Below w.heap.size w wx ∧ AttsAt wx (w1.heap.size + 2) (.slice vp vn vc) l)
            case first =>
              go_region_with (fail)
              all_goals (go_wp2_with fail; go_meet)
              all_goals exact ⟨congrArg _ (wrap_small _ (by omega) (by omega)), rfl, drew_block (set5_row (block_other h08 hnc _)), Below.drew (set5_below (hbl8.setCell (p := ⟨w1.heap.size + 1, 2, none⟩) (by show w.heap.size ≤ w1.heap.size + 1; omega) _) (Nat.le_refl _) _ _ _ _ _),
                AttsAt.drew (AttsAt.set5 (hA7'.setLow (a := ⟨w1.heap.size + 1, 2, none⟩) (by show w1.heap.size + 1 < w1.heap.size + 2; omega) _) (by omega) _ _ _ _ _)⟩
            case rest =>
              obtain ⟨rfl, rfl, h09, hbl9, hA9⟩ := hcut
              clear z0 z1 z2 z3 z4 q0 q1 q2 q3 q4 y0 y1 y2 y3 y4 e0 e1 e2 e3 e4 c1
              go_wp2_with fail
              simp only [Exit.noGoto]
              exact ret_cell_tmp2 rfl rfl rfl h09 Tryz.underlying29 rfl (by kernel_rfl)
                (by
                  unfold ReadPost
                  rw [HX.out]
                  refine ⟨hbl9, .inr ⟨rfl, _, ?_, hA9.mono (by omega)⟩⟩
                  rw [read_pos s (k3 + 1) t.tail HT4.out.2 HT4.out.1]
                  rfl)
          | false =>
            have hh : ¬ t.head? = some 62 := by
              intro hh
              cases t with
              | nil => cases hh
              | cons d t => simp at hh; subst hh; simp [begins] at hp
            have HX : Hid (tagL l ((bs s).drop (k3 + 1)) = res) := by
              show _ = _
              rw [HT3.out, ← HT.out, HTC.out, if_neg h62, if_pos h47c, if_neg hh]
            rw [hp] at HP
            clear HTC h62 h47c hh hp
            go_wp2_with fail
            refine (HP.out _).mono ?_; rintro e w7 ⟨rfl, rfl⟩
            clear c1 f1
            go_wp2_with fail
            go_roundw
            case rel => exact ⟨l, k3 + 1, by omega, by omega, hb7, ht7, h07, hown7, HX.out, hbl7⟩
            case measure => rw [atOf_rd hb7, atOf_rd hbOld]; omega
        · rw [decide_eq_false h47c] at g47
          cases ha : attrOf c t with
          | none =>
            have HX : Hid (res = none) := by
              show _ = _
              rw [← HT.out, HTC.out, if_neg h62, if_neg h47c, ha]
            have HAt := Lib.hid (attr_none _ s k3 w6 hs hlt3 hb6 c t HD3.out ha)
            clear HTC h62 h47c c1 f1 ha
            go_wp2_with fail
            refine HAt.out.mono ?_; rintro e w7 ⟨⟨n, v, rfl⟩, hg7⟩
            have h07 := grown_block hg7 h06 (by simp; omega)
            have hbl7 := hbl6.trans (below_grown hg7 (by omega) hbl6.size)
            obtain ⟨⟨y0, y1, y2, y3, y4⟩, e0, e1, e2, e3, e4⟩ := five h07
            have hlt7 := lt_of_block h07
            clear hg7 h06 hbl6 ht6 hown6 hb6 hA6
            go_wp2_with fail
            simp only [Exit.noGoto]
            exact ret_cell_tmp2 rfl rfl rfl (alloc_set5 h07) Tryz.underlying29 rfl (by kernel_rfl) (by unfold ReadPost; rw [HX.out]; exact ⟨(set5_below hbl7 (Nat.le_refl _) _ _ _ _ _).alloc (by simp only [size_set]; omega) _, rfl⟩)
          | some p =>
            obtain ⟨⟨n, v⟩, u⟩ := p
            have hul := attr_len c t _ _ ha
            have hut : t.length = s.size - (k3 + 1) := by rw [← HT3.out, List.length_drop, ← size_bs]
            have hdu : (bs s).drop (s.size - u.length) = u := drop_suffix s u ((attr_suffix c t _ _ ha).trans (by rw [← HT3.out]; exact List.drop_suffix _ _))
            have HX : Hid (tagL (addAtt l (n, v)) ((bs s).drop (s.size - u.length)) = res) := by
              show _ = _
              rw [hdu, ← HT.out, HTC.out, if_neg h62, if_neg h47c, ha]
            have HAt := Lib.hid (attr_some _ s k3 w6 hs hlt3 hb6 c t HD3.out n v u ha)
            have hk4 : k2 + 1 ≤ s.size - u.length := by omega
            have hk5 : s.size - u.length ≤ s.size := by omega
            clear HTC h62 h47c c1 f1 ha hdu hul hut
            generalize s.size - u.length = k4 at *
            go_wp2_with fail
            refine HAt.out.mono ?_; rintro e w7 ⟨rfl, hb7, hg7⟩
            have h07 := grown_block hg7 h06 (by simp; omega)
            have ht7 := grown_block hg7 ht6 (by simp)
            have hown7 := hown6.kept hg7 (.inr (fun e => by have := hobn _ e; omega))
            have hbl7 := hbl6.trans (below_grown hg7 (by omega) hbl6.size)
            have HC := Lib.hid (contains_atts _ l (n, v) u9 _ _ (by omega) (AttsAt.own (hown7.alloc (.cells #[.string (mk n), .string (mk v)] 59))) (heap_alloc_new _ _))
            clear hg7 h06 hbl6 ht6 hown6 hb6 hA6
            go_wp2_with fail
            refine HC.out.mono ?_; rintro e w8 ⟨rfl, hB8⟩
            have hn8 := below_block hB8 (heap_alloc_new _ _)
            have hb8 := (hb7.alloc _).below hB8
            have h08 := below_block hB8 ((Below.heap_alloc _ (.cells #[.string (mk n), .string (mk v)] 59) _ (lt_of_block h07)).trans h07)
            have ht8 := below_block hB8 ((Below.heap_alloc _ (.cells #[.string (mk n), .string (mk v)] 59) _ (lt_of_block ht7)).trans ht7)
            have hown8 := (hown7.alloc (.cells #[.string (mk n), .string (mk v)] 59)).kept (grown_below hB8 none) (by cases u9.ownBlock <;> simp)
            have hbl8 := hbl7.trans (below_alloc_then hB8 |>.mono hbl7.size)
            have hsz8 := lt_of_block hn8
            have hsz9 := lt_of_block ht7
            clear hB8 HC h07 ht7 hown7 hbl7 hb7
            cases hq : (l.any fun x => x.1 == (n, v).1) with
            | true =>
              have HX2 : Hid (tagL l ((bs s).drop k4) = res) := by
                have := HX.out
                unfold addAtt at this
                rwa [if_pos hq] at this
              clear HX
              go_wp2_with fail
              go_roundw
              case rel => exact ⟨l, k4, by omega, by omega, hb8, ht8, h08, hown8, HX2.out, hbl8⟩
              case measure => rw [atOf_rd hb8, atOf_rd hbOld]; omega
            | false =>
              have HX2 : Hid (tagL (l ++ [(n, v)]) ((bs s).drop k4) = res) := by
                have := HX.out
                unfold addAtt at this
                rwa [if_neg (by rw [hq]; simp)] at this
              clear HX
              have n0 := two_cell0 hn8
              have n1 := two_cell1 hn8
              obtain ⟨i0, hi0, hz0, hz1, hz2⟩ := info_parts attInfo
              have HO := Lib.hid hown8
              have HO2 := Lib.hid hobn
              clear hown8 hobn
              go_wp2_with (at_builtin; refine wpList_append_own _ rfl _ _ 27 rfl (w1.heap.size + 2) 59 i0 (.agg #[.string ⟨#[]⟩, .string ⟨#[]⟩]) 2 32 Tryz.underlying27 hi0 hz0 hz1 hz2 rfl (by decide) _ _ _ rfl (HO.out.alloc _) ⟨w8.heap.size, 0, none⟩ 1 1 [.string (mk n), .string (mk v)] rfl rfl (by intro j u hj; (match j, hj with | 0, hj => (simp at hj; subst hj; simp [Addr.add]) | 1, hj => (simp at hj; subst hj; simp [Addr.add]))) (by intro u hu; simp at hu; rcases hu with rfl | rfl <;> rfl) (by unfold maxLen; omega) (by omega) (by simp; omega) ?_)
              intro v' w9 hown9 hg9 _
              have hne9 : ∀ b, b < w1.heap.size + 2 → some b ≠ u9.ownBlock := fun b hb e => by have := HO2.out b e.symm; omega
              have hb9 : RdAt w9 w1.heap.size s k4 := grown_block hg9 (hb8.alloc _) (hne9 _ (by omega))
              have ht9 := grown_block hg9 ((Below.heap_alloc _ _ _ (lt_of_block ht8)).trans ht8) (hne9 _ (by omega))
              have h09 := grown_block hg9 ((Below.heap_alloc _ _ _ (lt_of_block h08)).trans h08) (hne9 _ (by omega))
              have hbl9 : Below w.heap.size w w9 := (hbl8.alloc hbl8.size _).grown hg9 (by have := hbl8.size; simp; omega) (fun b e => by have := HO2.out b e; omega)
              have hown10 : w9.ownsRow (w1.heap.size + 2) 59 2 v' (l ++ [(n, v)]).length (flat (l ++ [(n, v)])) := by
                rw [flat_append, List.length_append]; exact hown9
              go_wp2_with fail
              go_roundw
              case rel => exact ⟨l ++ [(n, v)], k4, by omega, by simp; omega, hb9, ht9, h09, hown10, HX2.out, hbl9⟩
              case measure => rw [atOf_rd hb9, atOf_rd hbOld]; omega
end Tym
