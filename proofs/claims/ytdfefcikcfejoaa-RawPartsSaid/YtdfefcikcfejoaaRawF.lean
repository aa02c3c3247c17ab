/- The walk of the reference's Text; both where there is nothing to read. -/
import Derived.Test.YtdfefcikcfejoaaRawE
set_option linter.unusedSimpArgs false
set_option linter.unusedVariables false
open Go Go.RowKit Go.Proofs
namespace Tym
set_option maxRecDepth 100000
attribute [local irreducible] scrL follows begins wordIn closedIn lower isSpace scr plainAt dec

theorem rawText_out (s name : ByteArray) (i m : Int) (w : World) (h : i < 0 ∨ (¬ i < 0 ∧ (s.size : Int) < i) ∨ (¬ i < 0 ∧ ¬ (s.size : Int) < i ∧ m < 1) ∨ (¬ i < 0 ∧ ¬ (s.size : Int) < i ∧ ¬ m < 1 ∧ 4 < m)) :
    Calls Try.prog 6 #[.string s, .int .i64 i, .string name, .int .u8 m] w fun e w' => e = .returned (.tuple #[.string ⟨#[]⟩, .int .i64 i]) ∧ Below w.heap.size w w' := by
  rcases h with h1 | ⟨h1, h2⟩ | ⟨h1, h2, h3⟩ | ⟨h1, h2, h3, h4⟩
  all_goals
    go_enter Try.func6, Try.ntmps6
    go_wp2
    go_ret2
    exact ⟨rfl, Below.refl _ _⟩

theorem refText_out (s name : ByteArray) (i m : Int) (w : World) (h : i < 0 ∨ (¬ i < 0 ∧ (s.size : Int) < i) ∨ (¬ i < 0 ∧ ¬ (s.size : Int) < i ∧ m < 1) ∨ (¬ i < 0 ∧ ¬ (s.size : Int) < i ∧ ¬ m < 1 ∧ 4 < m)) :
    Calls Try.prog 7 #[.string s, .int .i64 i, .string name, .int .u8 m] w fun e w' => e = .returned (.tuple #[.string ⟨#[]⟩, .int .i64 i]) ∧ Below w.heap.size w w' := by
  rcases h with h1 | ⟨h1, h2⟩ | ⟨h1, h2, h3⟩ | ⟨h1, h2, h3, h4⟩
  all_goals
    go_enter Try.func7, Try.ntmps7
    go_wp2
    go_ret2
    exact ⟨rfl, Below.refl _ _⟩

theorem ext_take (s : ByteArray) (k n : Nat) : mk (((bs s).drop k).take n) = s.extract k (k + n) := bs_inj (by rw [bs_mk, bs_extract, Nat.add_sub_cancel_left])

theorem refText_34 (s name : ByteArray) (k m : Nat) (w : World) (hs : s.size ≤ 3000) (hn : name.size ≤ 3000) (hk : k ≤ s.size) (hm : m = 3 ∨ m = 4) :
    Calls Try.prog 7 #[.string s, .int .i64 k, .string name, .int .u8 m] w fun e w' => e = .returned (.tuple #[.string (mk (rawT m (endOf (bs name)) ((bs s).drop k))), .int .i64 ((k + rawN m (endOf (bs name)) ((bs s).drop k) : Nat) : Int)]) ∧ Below w.heap.size w w' := by
  have hr : ((bs s).drop k).length = s.size - k := by rw [List.length_drop, ← size_bs]
  rcases hm with rfl | rfl
  · have HS : Hid (∀ w, Calls Try.prog 14 #[.string s, .int .i64 k, .string name] w fun e w' => e = .returned (.int .i64 ((k + scrL (endOf (bs name)) 0 0 ((bs s).drop k) : Nat) : Int)) ∧ Below w.heap.size w w') := fun w => scriptR_any s name k w (by omega) (by omega) hk
    have hle := scrL_le (endOf (bs name)) 0 0 ((bs s).drop k)
    rw [hr] at hle
    have e1 : Hid (rawN 3 (endOf (bs name)) ((bs s).drop k) = scrL (endOf (bs name)) 0 0 ((bs s).drop k)) := by show _ = _; unfold rawN; rw [if_neg (by omega), if_pos rfl]
    have e2 : Hid (mk (rawT 3 (endOf (bs name)) ((bs s).drop k)) = s.extract k (k + scrL (endOf (bs name)) 0 0 ((bs s).drop k))) := by show _ = _; unfold rawT; rw [if_neg (by omega), e1.out]; exact ext_take _ _ _
    clear hr
    generalize scrL (endOf (bs name)) 0 0 ((bs s).drop k) = n at *
    go_enter Try.func7, Try.ntmps7
    go_wp2_with fail
    refine (HS.out _).mono ?_
    rintro x w1 ⟨rfl, b1⟩
    go_wp2_with fail
    go_ret2
    exact ⟨by rw [e1.out, e2.out]; exact ret_si rfl (by omega), b1⟩
  · have e1 : Hid (rawN 4 (endOf (bs name)) ((bs s).drop k) = s.size - k) := by show _ = _; unfold rawN; rw [if_neg (by omega), if_neg (by omega), hr]
    have e2 : Hid (mk (rawT 4 (endOf (bs name)) ((bs s).drop k)) = s.extract k s.size) := by
      show _ = _; unfold rawT; rw [if_neg (by omega), e1.out, ext_take]; congr 1; omega
    clear hr
    go_enter Try.func7, Try.ntmps7
    go_wp2_with fail
    go_ret2
    exact ⟨by rw [e1.out, e2.out]; exact ret_si rfl (by omega), Below.refl _ _⟩
end Tym
