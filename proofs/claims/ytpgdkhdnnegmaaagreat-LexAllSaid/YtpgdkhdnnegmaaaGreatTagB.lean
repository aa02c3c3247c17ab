/- The walk of the tag's reader: value. -/
import Derived.Test.YtpgdkhdnnegmaaaGreatTagA
set_option linter.unusedSimpArgs false
set_option linter.unusedVariables false
open Go Go.RowKit Go.Proofs
namespace Tym
set_option maxRecDepth 20000

/-- Where the bytes end that may be. -/
def skip (p : UInt8 → Bool) (s : ByteArray) (k : Nat) : Nat := k + (((bs s).drop k).takeWhile p).length

theorem dropWhile_drop (p : UInt8 → Bool) (r : Bs) : r.drop (r.takeWhile p).length = r.dropWhile p := by
  have h := List.takeWhile_append_dropWhile (p := p) (l := r)
  generalize r.takeWhile p = a at *
  generalize r.dropWhile p = d at *
  subst h
  exact List.drop_left
theorem skip_le (p : UInt8 → Bool) (s : ByteArray) (k : Nat) (hk : k ≤ s.size) : k ≤ skip p s k ∧ skip p s k ≤ s.size := by
  unfold skip
  have := (List.takeWhile_prefix p (l := (bs s).drop k)).length_le
  rw [List.length_drop, ← size_bs] at this; omega
theorem skip_drop (p : UInt8 → Bool) (s : ByteArray) (k : Nat) : (bs s).drop (skip p s k) = ((bs s).drop k).dropWhile p := by
  unfold skip
  rw [← List.drop_drop, dropWhile_drop]
theorem skip_text (p : UInt8 → Bool) (s : ByteArray) (k : Nat) : mk (((bs s).drop k).takeWhile p) = s.extract k (skip p s k) := by
  apply bs_inj
  rw [bs_mk, bs_extract, skip, Nat.add_sub_cancel_left]
  exact take_while_take p _
theorem drop_nil_iff (s : ByteArray) (k : Nat) (hk : k ≤ s.size) : (bs s).drop k = [] ↔ k = s.size := by
  rw [List.drop_eq_nil_iff, ← size_bs]; omega
theorem drop_cons_get (s : ByteArray) (k : Nat) (c : UInt8) (t : Bs) (h : (bs s).drop k = c :: t) : ∃ hk : k < s.size, s[k]'hk = c ∧ (bs s).drop (k + 1) = t := by
  have hk : k < s.size := by
    rcases Nat.lt_or_ge k s.size with h1 | h1
    · exact h1
    · rw [List.drop_eq_nil_of_le (by rw [← size_bs]; exact h1)] at h; cases h
  have := drop_bs s k hk
  rw [h] at this
  rw [List.cons.injEq] at this
  exact ⟨hk, this.1.symm, this.2.symm⟩
theorem drop_len (s : ByteArray) (k : Nat) (u : Bs) (hk : k ≤ s.size) (h : (bs s).drop k = u) : k = s.size - u.length := by
  rw [← h, List.length_drop, ← size_bs]; omega

theorem take_skip (g : Nat) (lb : Array Value) (p : UInt8 → Bool) (b : Nat) (s : ByteArray) (k : Nat) (w : World) (hs : s.size ≤ 1000000) (hk : k ≤ s.size) (hb : RdAt w b s k) (hp : Pays g lb p w b) :
    Calls Tryz.prog 34 #[.pointer (some ⟨b, 0, none⟩), .func (.func g) #[] lb] w fun e w' =>
      e = .returned (.string (s.extract k (skip p s k))) ∧ RdAt w' b s (skip p s k) ∧ w.grownBy w' (some b) := by
  rw [← skip_text]; exact take_any g lb p b s k w hs hk hb hp

theorem grown_alloc {w w' : World} {r : Option Nat} (h : w.grownBy w' r) (o : Obj) : w.grownBy (w'.alloc o) r := grown_trans h (World.grownBy_alloc w' o r)
theorem RdAt.alloc {w : World} {b : Nat} {s : ByteArray} {k : Nat} (h : RdAt w b s k) (o : Obj) : RdAt (w.alloc o) b s k := (Below.heap_alloc w o b (lt_of_block h)).trans h

theorem RdAt.step {w : World} {b : Nat} {s : ByteArray} {k : Nat} (h : RdAt w b s k) : RdAt (w.setCell ⟨b, 1, none⟩ (.int .i64 ((k : Int) + 1))) b s (k + 1) := two_set1 h
theorem size_set (w : World) (a : Addr) (u : Value) : (w.setCell a u).heap.size = w.heap.size := by simp [World.setCell]
theorem set_alloc_new (w : World) (a : Addr) (u : Value) (o : Obj) : ((w.setCell a u).alloc o).heap[w.heap.size]? = some o := by
  have := heap_alloc_new (w.setCell a u) o
  rwa [size_set] at this

theorem value_stop (b : Nat) (s : ByteArray) (k : Nat) (w : World) (hs : s.size ≤ 1000000) (hk : k ≤ s.size) (hb : RdAt w b s k) (hA : skip isSpace s k = s.size) :
    Calls Tryz.prog 67 #[.pointer (some ⟨b, 0, none⟩)] w fun e w' => (∃ t, e = .returned (.tuple #[.string t, .bool false])) ∧ w.grownBy w' (some b) := by
  have HB := Lib.hid hb
  have H1 : Hid (∀ w, RdAt w b s k → Calls Tryz.prog 34 #[.pointer (some ⟨b, 0, none⟩), .func (.func 36) #[] #[]] w fun e w' =>
      e = .returned (.string (s.extract k (skip isSpace s k))) ∧ RdAt w' b s (skip isSpace s k) ∧ w.grownBy w' (some b)) := fun w hb => take_skip _ _ isSpace b s k w hs hk hb (pays_space w b)
  have H2 : Hid (∀ w, RdAt w b s (skip isSpace s k) → Calls Tryz.prog 37 #[.pointer (some ⟨b, 0, none⟩)] w fun e w' => e = .returned (.tuple #[.int .u8 0, .bool false]) ∧ Below w.heap.size w w') := fun w hb => see_out b s _ w hs hA hb
  clear hb hA
  generalize skip isSpace s k = k1 at *
  go_enter Tryz.func67, Tryz.ntmps67
  go_wp2_with fail
  refine (H1.out _ HB.out).mono ?_; rintro e w1 ⟨rfl, hb1, hg1⟩
  go_wp2_with fail
  refine (H2.out _ hb1).mono ?_; rintro e w2 ⟨rfl, hB2⟩
  go_wp2_with fail
  go_ret2
  exact ⟨⟨_, rfl⟩, grown_alloc (grown_trans hg1 (grown_below hB2 _)) _⟩

theorem value_bare (b : Nat) (s : ByteArray) (k k1 k2 : Nat) (w : World) (hs : s.size ≤ 1000000) (hk : k ≤ s.size) (hb : RdAt w b s k) (h1 : skip isSpace s k = k1) (hlt : k1 < s.size) (c : UInt8) (hc : s[k1]'hlt = c) (h34 : c ≠ 34) (h39 : c ≠ 39) (h2 : skip bareB s k1 = k2) :
    Calls Tryz.prog 67 #[.pointer (some ⟨b, 0, none⟩)] w fun e w' => e = .returned (.tuple #[.string (mk (dec true (bs (s.extract k1 k2)))), .bool true]) ∧ RdAt w' b s k2 ∧ w.grownBy w' (some b) := by
  have HB := Lib.hid hb
  have H1 : Hid (∀ w, RdAt w b s k → Calls Tryz.prog 34 #[.pointer (some ⟨b, 0, none⟩), .func (.func 36) #[] #[]] w fun e w' =>
      e = .returned (.string (s.extract k k1)) ∧ RdAt w' b s k1 ∧ w.grownBy w' (some b)) := fun w hb => by rw [← h1]; exact take_skip _ _ isSpace b s k w hs hk hb (pays_space w b)
  have H2 : Hid (∀ w, RdAt w b s k1 → Calls Tryz.prog 37 #[.pointer (some ⟨b, 0, none⟩)] w fun e w' => e = .returned (.tuple #[.int .u8 c.toNat, .bool true]) ∧ Below w.heap.size w w') := fun w hb => by rw [← hc]; exact see_in b s k1 w hs hlt hb
  have H3 : Hid (∀ w, RdAt w b s k1 → Calls Tryz.prog 34 #[.pointer (some ⟨b, 0, none⟩), .func (.func 84) #[] #[]] w fun e w' =>
      e = .returned (.string (s.extract k1 k2)) ∧ RdAt w' b s k2 ∧ w.grownBy w' (some b)) := fun w hb => by rw [← h2]; exact take_skip _ _ bareB b s k1 w hs (by omega) hb (pays_bare w b)
  have H4 : Hid (∀ w, Calls Tryz.prog 17 #[.string (s.extract k1 k2), .bool true] w fun e w' => e = .returned (.string (mk (dec true (bs (s.extract k1 k2))))) ∧ Below w.heap.size w w') := fun w => decode_any _ true w (by rw [ByteArray.size_extract]; omega)
  have g34 : ((c.toNat : Int) != 34) = true := by rw [bne_iff_ne]; intro h; apply h34; exact UInt8.toNat.inj (by simpa using (by omega : c.toNat = 34))
  have g39 : ((c.toNat : Int) != 39) = true := by rw [bne_iff_ne]; intro h; apply h39; exact UInt8.toNat.inj (by simpa using (by omega : c.toNat = 39))
  generalize mk (dec true (bs (s.extract k1 k2))) = v at *
  clear hb hc h34 h39 h1 h2
  go_enter Tryz.func67, Tryz.ntmps67
  go_wp2_with fail
  refine (H1.out _ HB.out).mono ?_; rintro e w1 ⟨rfl, hb1, hg1⟩
  go_wp2_with fail
  refine (H2.out _ hb1).mono ?_; rintro e w2 ⟨rfl, hB2⟩
  go_wp2_with fail
  refine (H3.out _ ((hb1.below hB2).alloc _)).mono ?_; rintro e w3 ⟨rfl, hb3, hg3⟩
  go_wp2_with fail
  refine (H4.out _).mono ?_; rintro e w4 ⟨rfl, hB4⟩
  go_wp2_with fail
  go_ret2
  exact ⟨rfl, hb3.below hB4, grown_trans (grown_trans (grown_alloc (grown_trans hg1 (grown_below hB2 _)) _) hg3) (grown_below hB4 _)⟩

theorem value_quote (b : Nat) (s : ByteArray) (k k1 k2 : Nat) (w : World) (hs : s.size ≤ 1000000) (hk : k ≤ s.size) (hb : RdAt w b s k) (h1 : skip isSpace s k = k1) (hlt : k1 < s.size) (c : UInt8) (hc : s[k1]'hlt = c) (hq : c = 34 ∨ c = 39) (h2 : skip (· != c) s (k1 + 1) = k2) (hle : k2 ≤ s.size) (is : Bool) (his : is = decide (k2 < s.size)) :
    Calls Tryz.prog 67 #[.pointer (some ⟨b, 0, none⟩)] w fun e w' => e = .returned (.tuple #[.string (mk (dec true (bs (s.extract (k1 + 1) k2)))), .bool is]) ∧ RdAt w' b s (k2 + 1) ∧ w.grownBy w' (some b) := by
  have HB := Lib.hid hb
  have H1 : Hid (∀ w, RdAt w b s k → Calls Tryz.prog 34 #[.pointer (some ⟨b, 0, none⟩), .func (.func 36) #[] #[]] w fun e w' =>
      e = .returned (.string (s.extract k k1)) ∧ RdAt w' b s k1 ∧ w.grownBy w' (some b)) := fun w hb => by rw [← h1]; exact take_skip _ _ isSpace b s k w hs hk hb (pays_space w b)
  have H2 : Hid (∀ w, RdAt w b s k1 → Calls Tryz.prog 37 #[.pointer (some ⟨b, 0, none⟩)] w fun e w' => e = .returned (.tuple #[.int .u8 c.toNat, .bool true]) ∧ Below w.heap.size w w') := fun w hb => by rw [← hc]; exact see_in b s k1 w hs hlt hb
  have H3 : Hid (∀ (w : World) (bc : Nat), RdAt w b s (k1 + 1) → bc ≠ b → w.heap[bc]? = some (.cells #[.int .u8 (c.toNat : Int)] 5 (0, 0)) → Calls Tryz.prog 34 #[.pointer (some ⟨b, 0, none⟩), .func (.func 85) #[] #[.pointer (some ⟨bc, 0, none⟩)]] w fun e w' =>
      e = .returned (.string (s.extract (k1 + 1) k2)) ∧ RdAt w' b s k2 ∧ w.grownBy w' (some b)) := fun w bc hb hne hbc => by rw [← h2]; exact take_skip _ _ (· != c) b s (k1 + 1) w hs (by omega) hb (pays_quote w b bc c _ hne hbc)
  have H4 : Hid (∀ w, Calls Tryz.prog 17 #[.string (s.extract (k1 + 1) k2), .bool true] w fun e w' => e = .returned (.string (mk (dec true (bs (s.extract (k1 + 1) k2))))) ∧ Below w.heap.size w w') := fun w => decode_any _ true w (by rw [ByteArray.size_extract]; omega)
  have H5 : Hid (∀ w, RdAt w b s k2 → Calls Tryz.prog 37 #[.pointer (some ⟨b, 0, none⟩)] w fun e w' => (∃ x : Int, e = .returned (.tuple #[.int .u8 x, .bool is])) ∧ Below w.heap.size w w') := fun w hb => by
    rw [his]
    by_cases hk2 : k2 < s.size
    · rw [decide_eq_true hk2]; exact (see_in b s k2 w hs hk2 hb).mono fun _ _ h => ⟨⟨_, h.1⟩, h.2⟩
    · rw [decide_eq_false hk2]; exact (see_out b s k2 w hs (by omega) hb).mono fun _ _ h => ⟨⟨_, h.1⟩, h.2⟩
  have g34 : ((c.toNat : Int) != 34) = !(c == 34) := byte_all (p := fun c => ((c.toNat : Int) != 34) = !(c == 34)) (by decide +kernel) c
  have g39 : ((c.toNat : Int) != 39) = !(c == 39) := byte_all (p := fun c => ((c.toNat : Int) != 39) = !(c == 39)) (by decide +kernel) c
  generalize mk (dec true (bs (s.extract (k1 + 1) k2))) = v at *
  clear hb hc h1 h2 his
  rcases hq with rfl | rfl
  all_goals
    simp only [show ((34 : UInt8) == 34) = true from rfl, show ((34 : UInt8) == 39) = false from rfl, show ((39 : UInt8) == 34) = false from rfl, show ((39 : UInt8) == 39) = true from rfl, Bool.not_true, Bool.not_false] at g34 g39
    go_enter Tryz.func67, Tryz.ntmps67
    go_wp2_with fail
    refine (H1.out _ HB.out).mono ?_; rintro e w1 ⟨rfl, hb1, hg1⟩
    go_wp2_with fail
    refine (H2.out _ hb1).mono ?_; rintro e w2 ⟨rfl, hB2⟩
    have hb2 := hb1.below hB2
    have c1 := two_cell1 hb2
    have f1 := two_free1 hb2
    have hlt2 := lt_of_block hb2
    go_wp2_with fail
    refine (H3.out _ _ (hb2.step.alloc _) (by omega) (set_alloc_new _ _ _ _)).mono ?_; rintro e w3 ⟨rfl, hb3, hg3⟩
    clear c1 f1
    go_wp2_with fail
    refine (H5.out _ hb3).mono ?_; rintro e w4 ⟨⟨x, rfl⟩, hB4⟩
    have hb4 := hb3.below hB4
    have c1 := two_cell1 hb4
    have f1 := two_free1 hb4
    go_wp2_with fail
    refine (H4.out _).mono ?_; rintro e w5 ⟨rfl, hB5⟩
    go_wp2_with fail
    go_ret2
    refine ⟨rfl, hb4.step.below hB5, ?_⟩
    have g2 := grown_trans hg1 (grown_below hB2 (some b))
    have g3 := grown_trans (grown_alloc (grown_trans g2 (grown_set w2 ⟨b, 1, none⟩ (.int .i64 ((k1 : Int) + 1)))) _) hg3
    exact grown_trans (grown_trans (grown_trans g3 (grown_below hB4 _)) (grown_set w4 ⟨b, 1, none⟩ _)) (grown_below hB5 _)

/-- What an attribute's value is, and where the reader is behind it. -/
theorem value_some (b : Nat) (s : ByteArray) (k : Nat) (w : World) (hs : s.size ≤ 1000000) (hk : k ≤ s.size) (hb : RdAt w b s k) (v u : Bs) (h : valueOf ((bs s).drop k) = some (v, u)) :
    Calls Tryz.prog 67 #[.pointer (some ⟨b, 0, none⟩)] w fun e w' => e = .returned (.tuple #[.string (mk v), .bool true]) ∧ RdAt w' b s (s.size - u.length) ∧ w.grownBy w' (some b) := by
  have hsk := skip_le isSpace s k hk
  have hd := skip_drop isSpace s k
  unfold valueOf at h
  cases hr : ((bs s).drop k).dropWhile isSpace with
  | nil => rw [hr] at h; cases h
  | cons c t =>
    rw [hr] at h hd
    simp only at h
    obtain ⟨hlt, hc, ht⟩ := drop_cons_get s _ c t hd
    by_cases hq : c = 34 ∨ c = 39
    · rw [if_pos hq] at h
      have hs2 := skip_le (· != c) s (skip isSpace s k + 1) (by omega)
      have hd2 := skip_drop (· != c) s (skip isSpace s k + 1)
      rw [ht] at hd2
      cases hw : t.dropWhile (· != c) with
      | nil => rw [hw] at h; cases h
      | cons d x =>
        rw [hw] at h hd2
        simp only [Option.some.injEq, Prod.mk.injEq] at h
        obtain ⟨hlt2, hc2, ht2⟩ := drop_cons_get s _ d x hd2
        have := value_quote b s k _ _ w hs hk hb rfl hlt c hc hq rfl hs2.2 true (by rw [decide_eq_true hlt2])
        rw [← skip_text, bs_mk, ht, h.1, drop_len s _ x (by omega) ht2, h.2] at this
        exact this
    · rw [if_neg hq] at h
      simp only [Option.some.injEq, Prod.mk.injEq] at h
      have hs2 := skip_le bareB s (skip isSpace s k) (by omega)
      have hd2 := skip_drop bareB s (skip isSpace s k)
      rw [hd] at hd2
      have := value_bare b s k _ _ w hs hk hb rfl hlt c hc (fun e => hq (.inl e)) (fun e => hq (.inr e)) rfl
      rw [← skip_text, bs_mk, hd, h.1, drop_len s _ _ hs2.2 hd2, h.2] at this
      exact this

theorem value_none (b : Nat) (s : ByteArray) (k : Nat) (w : World) (hs : s.size ≤ 1000000) (hk : k ≤ s.size) (hb : RdAt w b s k) (h : valueOf ((bs s).drop k) = none) :
    Calls Tryz.prog 67 #[.pointer (some ⟨b, 0, none⟩)] w fun e w' => (∃ t, e = .returned (.tuple #[.string t, .bool false])) ∧ w.grownBy w' (some b) := by
  have hsk := skip_le isSpace s k hk
  have hd := skip_drop isSpace s k
  unfold valueOf at h
  cases hr : ((bs s).drop k).dropWhile isSpace with
  | nil =>
    rw [hr] at hd
    exact value_stop b s k w hs hk hb ((drop_nil_iff s _ hsk.2).1 hd)
  | cons c t =>
    rw [hr] at h hd
    simp only at h
    obtain ⟨hlt, hc, ht⟩ := drop_cons_get s _ c t hd
    by_cases hq : c = 34 ∨ c = 39
    · rw [if_pos hq] at h
      have hs2 := skip_le (· != c) s (skip isSpace s k + 1) (by omega)
      have hd2 := skip_drop (· != c) s (skip isSpace s k + 1)
      rw [ht] at hd2
      cases hw : t.dropWhile (· != c) with
      | nil =>
        rw [hw] at hd2
        have he := (drop_nil_iff s _ hs2.2).1 hd2
        exact (value_quote b s k _ _ w hs hk hb rfl hlt c hc hq rfl hs2.2 false (by rw [decide_eq_false (by omega)])).mono fun _ _ h => ⟨⟨_, h.1⟩, h.2.2⟩
      | cons d x => rw [hw] at h; cases h
    · rw [if_neg hq] at h; cases h
end Tym
