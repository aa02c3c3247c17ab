/- The walks of Mark, of both. -/
import Derived.Test.YtbgcedhbbfkmcaaEntK
import Derived.Deep.RegionWith
set_option linter.unusedSimpArgs false
set_option linter.unusedVariables false
open Go Go.RowKit Go.Proofs
namespace Tym
attribute [local irreducible] dec taken upto

theorem numeric_big (cap : Nat) (s : Bs) (h : 0 < (numeric cap s).2.2) : 2 < s.length ∧ begins s [38, 35] = true := by
  unfold numeric at h
  split at h
  · rename_i hb
    refine ⟨?_, hb⟩
    have h2 : 2 ≤ s.length := by
      have := congrArg List.length ((begins_iff _ _).1 hb)
      rw [List.length_take] at this; simp at this; omega
    simp only at h
    split at h
    · simp at h
    · rename_i hne
      rcases Nat.lt_or_ge 2 s.length with h3 | h3
      · exact h3
      · exfalso
        have hx : isX s = false := by unfold isX; rw [decide_eq_false (by omega), Bool.false_and]
        have hA : numAt s = 2 := by simp [numAt, hx]
        rw [hA] at hne
        rw [List.drop_eq_nil_of_le (by omega)] at hne
        exact hne rfl
  · simp at h

theorem numeric_le (cap : Nat) (s : Bs) : (numeric cap s).1 ≤ cap := by
  unfold numeric
  split
  · simp only
    split
    · exact Nat.zero_le _
    · exact digT_le _ _ _ _ _ (Nat.zero_le _)
  · exact Nat.zero_le _

theorem mark_of_num (s : Bs) (n d e : Nat) (hq : numeric 16777216 s = (n, d, e)) (he : 0 < e) : mark s = if (if isX s then 6 else 7) < d || !begins (s.drop e) [59] then ([], 0) else (enc (markFix n), e + 1) := by
  unfold mark; rw [hq]; simp only; rw [if_pos he]
theorem mark_of_name (s : Bs) (n d : Nat) (hq : numeric 16777216 s = (n, d, 0)) : mark s = if !decide (upto 59 s < s.length) || !begins (s.take (upto 59 s)) [38] then ([], 0)
  else match find ((s.take (upto 59 s)).drop 1) with
    | none => ([], 0)
    | some e => (e.is, upto 59 s + 1) := by
  unfold mark; rw [hq]; rfl

attribute [local irreducible] mark markFix find tableObj

def MarkOk (s : ByteArray) (w : World) (e : Ending) (w' : World) : Prop := e = .returned (.tuple #[.string (mk (mark (bs s)).1), .int .i64 (mark (bs s)).2]) ∧ Below w.heap.size w w'
theorem MarkOk.mk' {s : ByteArray} {w w' : World} {l : Bs} {n : Nat} (hm : mark (bs s) = (l, n)) (hb : Below w.heap.size w w') : MarkOk s w (.returned (.tuple #[.string (mk l), .int .i64 n])) w' := by
  unfold MarkOk; rw [hm]; exact ⟨rfl, hb⟩

theorem mk_enc (r : Int) : mk (enc r) = Go.Utf8.encode r := mk_bs _
theorem MarkOk.enc {s : ByteArray} {w w' : World} {r : Int} {n : Nat} (hm : mark (bs s) = (Tym.enc r, n + 1)) (hb : Below w.heap.size w w') : MarkOk s w (.returned (.tuple #[.string (Go.Utf8.encode r), .int .i64 ((n : Int) + 1)])) w' := by
  rw [← mk_enc]; exact MarkOk.mk' (n := n + 1) hm hb
theorem MarkOk.no {s : ByteArray} {w w' : World} (hm : mark (bs s) = ([], 0)) (hb : Below w.heap.size w w') : MarkOk s w (.returned (.tuple #[.string ⟨#[]⟩, .int .i64 0])) w' := MarkOk.mk' hm hb
attribute [local irreducible] Go.Utf8.encode enc

set_option maxHeartbeats 1000000 in
theorem mark_num (s : ByteArray) (w : World) (hs : s.size ≤ 1000000000) (n d e : Nat) (hq : numeric 16777216 (bs s) = (n, d, e)) (he : 0 < e) : Calls Try.prog 17 #[.string s] w (MarkOk s w) := by
  have hle : e ≤ s.size := by have := numeric_end 16777216 (bs s); rw [hq, ← size_bs] at this; exact this
  have hbig := (numeric_big 16777216 (bs s) (by rw [hq]; exact he)).1
  rw [← size_bs] at hbig
  have HT := Lib.hid (mark_of_num (bs s) n d e hq he)
  have HC : Hid (∀ w, Calls Try.prog 34 #[.string s] w fun e' w' => e' = .returned (.tuple #[.int .i64 n, .int .i64 d, .int .i64 e]) ∧ w = w') := fun w => by have := numeric_any s w hs; rwa [hq] at this
  have hnn : (n : Int) ≤ 16777216 := by have := numeric_le 16777216 (bs s); rw [hq] at this; simp only at this; omega
  clear hq
  have HP : Hid (∀ w : World, Calls Try.prog 22 #[.string (s.extract e s.size), .string ⟨#[59]⟩] w fun e' w' => e' = .returned (.bool (begins ((bs s).drop e) [59])) ∧ w = w') := fun w => prefix_from s e [59] w
  have hn : (n : Int) ≤ 16777216 := hnn
  generalize begins ((bs s).drop e) [59] = b at *
  have HR : Hid (markFix n = if right n then (n : Int) else 65533) := by show markFix n = _; unfold markFix; rfl
  have HCH : Hid (∀ w, Calls Try.prog 25 #[.int .i64 n] w fun e w' => e = .returned (.bool (right n)) ∧ w = w') := fun w => character_any n w
  generalize right n = r at *
  rcases Bool.eq_false_or_eq_true (((s[2].toNat ||| 32 : Nat) : Int) == 120) with hx | hx
  all_goals
    first
      | (have hX := isX_yes s hbig hx; rw [hX] at HT)
      | (have hX := isX_no s hbig hx; rw [hX] at HT)
    clear hX
    cases b
    all_goals cases r
    all_goals
      go_enter Try.func17, Try.ntmps17
      go_wp2_with (first | simp only [or32] | (go_at_call 34; (with_reducible refine (HC.out _).mono ?_); rintro e w' ⟨rfl, rfl⟩) | (go_at_call 22; (with_reducible refine (HP.out _).mono ?_); rintro e w' ⟨rfl, rfl⟩) | (go_at_call 25; (with_reducible refine (HCH.out _).mono ?_); rintro e w' ⟨rfl, rfl⟩))
      all_goals
        go_ret2
        first
          | exact MarkOk.no (by rw [HT.out]; exact if_pos (by simp; try omega)) (Below.refl _ _)
          | exact MarkOk.enc (by rw [HT.out, HR.out]; exact if_neg (by simp; omega)) (Below.refl _ _)

theorem prefix_to (s : ByteArray) (k : Nat) (t : Bs) (w : World) : Calls Try.prog 22 #[.string (s.extract 0 k), .string ⟨t.toArray⟩] w fun e w' => e = .returned (.bool (begins ((bs s).take k) t)) ∧ w = w' := by
  rw [← bs_to]; exact prefix_lit _ t w

set_option maxHeartbeats 1000000 in
set_option maxRecDepth 100000 in
theorem mark_name (s : ByteArray) (w : World) (hs : s.size ≤ 1000000000) (n d : Nat) (hq : numeric 16777216 (bs s) = (n, d, 0)) : Calls Try.prog 17 #[.string s] w (MarkOk s w) := by
  have HT := Lib.hid (mark_of_name (bs s) n d hq)
  have HC : Hid (∀ w, Calls Try.prog 34 #[.string s] w fun e' w' => e' = .returned (.tuple #[.int .i64 n, .int .i64 d, .int .i64 0]) ∧ w = w') := fun w => by have := numeric_any s w hs; rwa [hq] at this
  clear hq
  by_cases hu : upto 59 (bs s) < s.size
  · have hcut : Hid (∀ w, Calls Try.prog 29 #[.string s, .string ⟨#[59]⟩] w fun e w' => e = .returned (.tuple #[.string (s.extract 0 (upto 59 (bs s))), .string (s.extract (upto 59 (bs s) + 1) s.size), .bool true]) ∧ Below w.heap.size w w') := fun w => cut_yes s 59 w hs hu
    have hd : decide (upto 59 (bs s) < (bs s).length) = true := decide_eq_true (by rw [← size_bs]; exact hu)
    rw [hd] at HT
    clear hd
    have HP : Hid (∀ w : World, Calls Try.prog 22 #[.string (s.extract 0 (upto 59 (bs s))), .string ⟨#[38]⟩] w fun e' w' => e' = .returned (.bool (begins ((bs s).take (upto 59 (bs s))) [38])) ∧ w = w') := fun w => prefix_to s _ [38] w
    cases hb : begins ((bs s).take (upto 59 (bs s))) [38]
    · have HM : Hid (mark (bs s) = ([], 0)) := by have := HT.out; rw [hb] at this; exact this
      rw [hb] at HP
      generalize upto 59 (bs s) = u at *
      clear hb
      go_enter Try.func17, Try.ntmps17
      go_wp2_with (first | (go_at_call 34; (with_reducible refine (HC.out _).mono ?_); rintro e w' ⟨rfl, rfl⟩) | (go_at_call 22; (with_reducible refine (HP.out _).mono ?_); rintro e w' ⟨rfl, rfl⟩) | (go_at_call 29; (with_reducible refine (hcut.out _).mono ?_); rintro e w' ⟨rfl, hb⟩))
      go_ret2
      exact MarkOk.no HM.out hb
    · have hpos : 0 < upto 59 (bs s) := by
        have := congrArg List.length ((begins_iff _ _).1 hb)
        simp only [List.length_take, List.length_cons, List.length_nil] at this
        omega
      rw [hb] at HP HT
      clear hb
      have hz : (s.extract 0 (upto 59 (bs s))).size = upto 59 (bs s) := by rw [ByteArray.size_extract]; omega
      have hkey : bs ((s.extract 0 (upto 59 (bs s))).extract 1 (upto 59 (bs s))) = ((bs s).take (upto 59 (bs s))).drop 1 := by
        rw [← bs_to]; conv => rhs; rw [← bs_from, hz]
      generalize upto 59 (bs s) = u at *
      go_enter Try.func17, Try.ntmps17
      go_wp2_with fail
      refine (HC.out _).mono ?_
      rintro e w0 ⟨rfl, rfl⟩
      go_wp2_with fail
      refine (hcut.out _).mono ?_
      rintro e w1 ⟨rfl, hb1⟩
      go_wp2_with fail
      refine (HP.out _).mono ?_
      rintro e w2 ⟨rfl, rfl⟩
      go_wp2_with fail
      have hl := look_any (w1.alloc tableObj).drew w1.heap.size (blk_new _ _) ((s.extract 0 u).extract 1 u)
      have hl2 := look_any ((w1.alloc tableObj).alloc (.cells #[.string ⟨#[]⟩, .bool false] 36)).drew w1.heap.size ((blk_old _ _ _ (by simp)).trans (blk_new _ _)) ((s.extract 0 u).extract 1 u)
      have hl3 := look_any ((w1.alloc (.cells #[.string ⟨#[]⟩, .bool false] 36)).alloc tableObj).drew (w1.heap.size + 1) (by have := blk_new (w1.alloc (.cells #[.string ⟨#[]⟩, .bool false] 36)) tableObj; rw [show (w1.alloc (.cells #[.string ⟨#[]⟩, .bool false] 36)).heap.size = w1.heap.size + 1 from by simp] at this; exact this) ((s.extract 0 u).extract 1 u)
      rw [hkey] at hl hl2 hl3
      cases hf : find (((bs s).take u).drop 1) with
      | none =>
        rw [hf] at hl hl2 hl3
        simp only [entV, Option.isSome_none] at hl hl2 hl3
        have HM : Hid (mark (bs s) = ([], 0)) := by have := HT.out; rw [hf] at this; exact this
        clear hf HT
        clear hkey
        go_region_with (go_at_call 21; (with_reducible refine (tableO_any _).mono ?_); rintro e w' ⟨rfl, rfl⟩)
        all_goals
          go_wp2
          go_ret2
          exact MarkOk.no HM.out (by have hsz1 := hb1.size; repeat (first | exact hb1 | refine Below.drew ?_ | refine Below.setCell ?_ (by first | omega | (simp; omega)) _ | refine Below.alloc ?_ (by first | omega | (simp; omega)) _))
      | some e =>
        rw [hf] at hl hl2 hl3
        simp only [entV, Option.isSome_some] at hl hl2 hl3
        have HM : Hid (mark (bs s) = (e.is, u + 1)) := by have := HT.out; rw [hf] at this; exact this
        clear hf HT
        go_region_with (go_at_call 21; (with_reducible refine (tableO_any _).mono ?_); rintro e w' ⟨rfl, rfl⟩)
        all_goals
          go_wp2
          go_ret2
          exact MarkOk.mk' (n := u + 1) HM.out (by have hsz1 := hb1.size; repeat (first | exact hb1 | refine Below.drew ?_ | refine Below.setCell ?_ (by first | omega | (simp; omega)) _ | refine Below.alloc ?_ (by first | omega | (simp; omega)) _))
  · have hcut : Hid (∀ w, Calls Try.prog 29 #[.string s, .string ⟨#[59]⟩] w fun e w' => e = .returned (.tuple #[.string s, .string ⟨#[]⟩, .bool false]) ∧ Below w.heap.size w w') := fun w => cut_no s 59 w hu
    have hd : decide (upto 59 (bs s) < (bs s).length) = false := decide_eq_false (by rw [← size_bs]; exact hu)
    rw [hd] at HT
    have HM : Hid (mark (bs s) = ([], 0)) := HT.out
    clear hd HT
    go_enter Try.func17, Try.ntmps17
    go_wp2_with (first | (go_at_call 34; (with_reducible refine (HC.out _).mono ?_); rintro e w' ⟨rfl, rfl⟩) | (go_at_call 29; (with_reducible refine (hcut.out _).mono ?_); rintro e w' ⟨rfl, hb⟩))
    go_ret2
    exact MarkOk.no HM.out hb
end Tym
