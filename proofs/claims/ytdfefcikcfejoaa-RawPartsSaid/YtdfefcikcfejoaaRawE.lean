/- The walks of raw.Text and of the reference's Text. -/
import Derived.Test.YtdfefcikcfejoaaRawD
set_option linter.unusedSimpArgs false
set_option linter.unusedVariables false
open Go Go.RowKit Go.Proofs
namespace Tym
set_option maxRecDepth 100000

def rawN (m : Nat) (E r : Bs) : Nat := if m = 1 ∨ m = 2 then plainAt E r else if m = 3 then scrL E 0 0 r else r.length
def rawT (m : Nat) (E r : Bs) : Bs := if m = 1 then dec false (r.take (rawN m E r)) else r.take (rawN m E r)
theorem rawN_le (m : Nat) (E r : Bs) : rawN m E r ≤ r.length := by
  unfold rawN
  split
  · exact plainAt_le _ _
  · split
    · exact scrL_le _ _ _ _
    · exact Nat.le_refl _

attribute [local irreducible] scrL follows begins wordIn closedIn lower isSpace scr plainAt dec

theorem ret_si {a b : ByteArray} {x y : Int} (h : a = b) (h' : x = y) : Ending.returned (.tuple #[.string a, .int .i64 x]) = .returned (.tuple #[.string b, .int .i64 y]) := by rw [h, h']

theorem rawText_in (s name : ByteArray) (k m : Nat) (w : World) (hs : s.size ≤ 3000) (hn : name.size ≤ 3000) (hk : k ≤ s.size) (hm : m = 1 ∨ m = 2 ∨ m = 3 ∨ m = 4) :
    Calls Try.prog 6 #[.string s, .int .i64 k, .string name, .int .u8 m] w fun e w' => e = .returned (.tuple #[.string (mk (rawT m (endOf (bs name)) ((bs s).drop k))), .int .i64 ((k + rawN m (endOf (bs name)) ((bs s).drop k) : Nat) : Int)]) ∧ Below w.heap.size w w' := by
  have HL : Hid (∀ w, Calls Try.prog 10 #[.string name] w fun e w' => e = .returned (.string (mk (lower (bs name)))) ∧ Below w.heap.size w w') := fun w => lower_any name w (by omega)
  have hbs : bs (⟨#[60, 47]⟩ ++ mk (lower (bs name))) = endOf (bs name) := by rw [bs_append]; rfl
  have hxs : (s.extract k s.size).size = s.size - k := by rw [ByteArray.size_extract]; omega
  have HP : Hid (∀ w, Calls Try.prog 11 #[.string (s.extract k s.size), .string (⟨#[60, 47]⟩ ++ mk (lower (bs name)))] w fun x w' => x = .returned (.int .i64 (plainAt (endOf (bs name)) ((bs s).drop k))) ∧ Below w.heap.size w w') := fun w => by
    have := plainly_any (s.extract k s.size) _ _ hbs w (by omega)
    rwa [hbs, bs_from] at this
  have HS : Hid (∀ w, Calls Try.prog 12 #[.string (s.extract k s.size), .string (⟨#[60, 47]⟩ ++ mk (lower (bs name)))] w fun x w' => x = .returned (.int .i64 (scrL (endOf (bs name)) 0 0 ((bs s).drop k))) ∧ Below w.heap.size w w') := fun w => by
    have := script_any (s.extract k s.size) (⟨#[60, 47]⟩ ++ mk (lower (bs name))) w (by omega)
    rwa [hbs, bs_from] at this
  have hle := rawN_le m (endOf (bs name)) ((bs s).drop k)
  have hr : ((bs s).drop k).length = s.size - k := by rw [List.length_drop, ← size_bs]
  have hT : ∀ n, mk (((bs s).drop k).take n) = (s.extract k s.size).extract 0 n := fun n => bs_inj (by rw [bs_mk, bs_to, bs_from])
  have HD : Hid (∀ n, n ≤ s.size → ∀ w, Calls Try.prog 13 #[.string ((s.extract k s.size).extract 0 n), .bool false] w fun e w' => e = .returned (.string (mk (dec false (((bs s).drop k).take n)))) ∧ Below w.heap.size w w') := fun n _ w => by
    have := decode_any ((s.extract k s.size).extract 0 n) false w (by rw [ByteArray.size_extract]; omega)
    rwa [bs_to, bs_from] at this
  have hnm : (mk (lower (bs name))).size ≤ 3000 := by rw [size_mk, lower_len, ← size_bs]; exact hn
  rw [hr] at hle
  clear hbs
  generalize endOf (bs name) = E at *
  generalize mk (lower (bs name)) = nm at *
  rcases hm with rfl | rfl | rfl | rfl
  · unfold rawN at hle
    rw [if_pos (.inl rfl)] at hle
    have e1 : Hid (rawN 1 E ((bs s).drop k) = plainAt E ((bs s).drop k)) := by show _ = _; unfold rawN; rw [if_pos (.inl rfl)]
    have e2 : Hid (rawT 1 E ((bs s).drop k) = dec false (((bs s).drop k).take (plainAt E ((bs s).drop k)))) := by show _ = _; unfold rawT; rw [if_pos rfl, e1.out]
    have HTT := Lib.hid hT
    clear hT hr HS
    generalize plainAt E ((bs s).drop k) = n at *
    have HD2 := Lib.hid (HD.out n (by omega))
    clear HD
    go_enter Try.func6, Try.ntmps6
    go_wp2_with fail
    refine (HL.out _).mono ?_
    rintro x w1 ⟨rfl, b1⟩
    go_wp2_with fail
    refine (HP.out _).mono ?_
    rintro x w2 ⟨rfl, b2⟩
    go_wp2_with fail
    refine (HD2.out _).mono ?_
    rintro x w3 ⟨rfl, b3⟩
    go_wp2_with fail
    go_ret2
    exact ⟨by rw [e1.out, e2.out]; exact ret_si rfl (by omega), below_then (below_then b1 b2) b3⟩
  · unfold rawN at hle
    rw [if_pos (.inr rfl)] at hle
    have e1 : Hid (rawN 2 E ((bs s).drop k) = plainAt E ((bs s).drop k)) := by show _ = _; unfold rawN; rw [if_pos (.inr rfl)]
    have e2 : Hid (mk (rawT 2 E ((bs s).drop k)) = (s.extract k s.size).extract 0 (plainAt E ((bs s).drop k))) := by show _ = _; unfold rawT; rw [if_neg (by omega), e1.out]; exact hT _
    clear hT HD
    clear hr
    generalize plainAt E ((bs s).drop k) = n at *
    go_enter Try.func6, Try.ntmps6
    go_wp2_with fail
    refine (HL.out _).mono ?_
    rintro x w1 ⟨rfl, b1⟩
    go_wp2_with fail
    refine (HP.out _).mono ?_
    rintro x w2 ⟨rfl, b2⟩
    go_wp2_with fail
    go_ret2
    exact ⟨by rw [e1.out, e2.out]; exact ret_si rfl (by omega), below_then b1 b2⟩
  · unfold rawN at hle
    rw [if_neg (by omega), if_pos rfl] at hle
    have e1 : Hid (rawN 3 E ((bs s).drop k) = scrL E 0 0 ((bs s).drop k)) := by show _ = _; unfold rawN; rw [if_neg (by omega), if_pos rfl]
    have e2 : Hid (mk (rawT 3 E ((bs s).drop k)) = (s.extract k s.size).extract 0 (scrL E 0 0 ((bs s).drop k))) := by show _ = _; unfold rawT; rw [if_neg (by omega), e1.out]; exact hT _
    clear hT HD
    clear hr
    generalize scrL E 0 0 ((bs s).drop k) = n at *
    go_enter Try.func6, Try.ntmps6
    go_wp2_with fail
    refine (HL.out _).mono ?_
    rintro x w1 ⟨rfl, b1⟩
    go_wp2_with fail
    refine (HS.out _).mono ?_
    rintro x w2 ⟨rfl, b2⟩
    go_wp2_with fail
    go_ret2
    exact ⟨by rw [e1.out, e2.out]; exact ret_si rfl (by omega), below_then b1 b2⟩
  · unfold rawN at hle
    rw [if_neg (by omega), if_neg (by omega)] at hle
    have e1 : Hid (rawN 4 E ((bs s).drop k) = ((bs s).drop k).length) := by show _ = _; unfold rawN; rw [if_neg (by omega), if_neg (by omega)]
    have e2 : Hid (mk (rawT 4 E ((bs s).drop k)) = (s.extract k s.size).extract 0 (((bs s).drop k).length)) := by show _ = _; unfold rawT; rw [if_neg (by omega), e1.out]; exact hT _
    clear hT HD
    rw [hr] at e1 e2 hle
    clear hr
    go_enter Try.func6, Try.ntmps6
    go_wp2_with fail
    refine (HL.out _).mono ?_
    rintro x w1 ⟨rfl, b1⟩
    go_wp2_with fail
    go_ret2
    exact ⟨by rw [e1.out, e2.out]; exact ret_si rfl (by omega), b1⟩
end Tym
