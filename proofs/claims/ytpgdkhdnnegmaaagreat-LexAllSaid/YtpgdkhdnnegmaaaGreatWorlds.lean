/- Small laws that several layers share. Rows of bytes: conversions, both ways. Lower, of the program; blanks, of both. The reference's Lower: a row of bytes that grows. Blocks of the call's own: a block of two cells; a world that is another one but for new blocks and writes to one. No program in sight. -/
import Derived.Test.YtpgdkhdnnegmaaaGreatEntK
import Derived.OneCell
import Derived.Laws.ResultCell
import Derived.Laws.Rows

namespace Tym
open Go Go.RowKit Go.Proofs

theorem prefix_to (s : ByteArray) (k : Nat) (t : Bs) (w : World) : Calls Tryz.prog 38 #[.string (s.extract 0 k), .string ⟨t.toArray⟩] w fun e w' => e = .returned (.bool (begins ((bs s).take k) t)) ∧ w = w' := by
  rw [← bs_to]; exact prefix_lit _ t w

theorem below_then {a b c : World} (h1 : Below a.heap.size a b) (h2 : Below b.heap.size b c) : Below a.heap.size a c :=
  h1.trans (h2.mono h1.size)
end Tym

namespace Tym
set_option linter.unusedSimpArgs false
set_option linter.unusedVariables false
open Go Go.RowKit Go.Proofs

def cellOf (b : UInt8) : Value := .int .u8 b.toNat

theorem byteInfo : (Tryz.prog.info? 5).map (fun i => (i.zero, i.size, i.bytes)) = some (some (.int .u8 0), 1, 1) := by kernel_rfl

theorem bytes_of (s : ByteArray) (w : World) : ∃ cap w1, (convert 9 67 (.string s)).run Tryz.prog w = .ok (.slice (some ⟨w.heap.size, 0, none⟩) s.size cap) w1 ∧ w1.heap.size = w.heap.size + 1 ∧ Below w.heap.size w w1 ∧
    (∀ j, j < s.size → w1.cell? ⟨w.heap.size, j, none⟩ = some (cellOf ((bs s).getD j 0))) ∧ (∀ j, j < s.size → w1.frozen? ⟨w.heap.size, j, none⟩ = false) ∧ s.size ≤ cap ∧ (s.size ≤ maxLen → cap ≤ maxLen) := by
  refine ⟨_, _, run_bytes_of_string w 9 67 5 s Tryz.underlying9 Tryz.underlying67 Tryz.underlying5, by show (w.heap.push _).size = _; rw [Array.size_push], ((Below.refl _ _).drew).alloc (Nat.le_refl _) _, ?_, ?_, grownCap_ge _ _ _ _, fun h => grownCap_le_maxLen _ _ _ _ h⟩
  · intro j hj
    have hj' : j < s.data.size := hj
    have h1 := World.cell?_alloc_mark w.drew (bytesRow s (grownCap w s.size 0 5)) 5 ((bytesRow s (grownCap w s.size 0 5)).size, (bytesRow s (grownCap w s.size 0 5)).size + 1) j
    refine h1.trans ((bytesRow_at s _ j hj').trans ?_)
    have := get_bs s j hj
    unfold cellOf
    rw [← this]; rfl
  · intro j hj
    have h1 := World.frozen?_alloc_mark w.drew (bytesRow s (grownCap w s.size 0 5)) 5 (bytesRow s (grownCap w s.size 0 5)).size ((bytesRow s (grownCap w s.size 0 5)).size + 1) j
    refine h1.trans ?_
    have hsz : s.size ≤ (bytesRow s (grownCap w s.size 0 5)).size := by unfold bytesRow; rw [Array.size_append, Array.size_map]; exact Nat.le_add_right _ _
    rw [decide_eq_false (by omega)]; rfl

theorem string_of (l : Bs) (a : Addr) (cap : Nat) (w : World) (hc : ∀ j, j < l.length → w.cell? (a.add j) = some (cellOf (l.getD j 0))) :
    (convert 67 9 (.slice (some a) l.length cap)).run Tryz.prog w = .ok (.string (mk l)) w :=
  run_convert_bytes_back w 67 9 5 a cap l Tryz.underlying67 Tryz.underlying5 Tryz.underlying9 (fun j hj => by
    rw [hc j hj, List.getD_eq_getElem?_getD, List.getElem?_eq_getElem hj]; rfl)

theorem string_own (l : Bs) (base : Nat) (v : Value) (w : World) (h : w.ownsRow base 5 1 v l.length (l.map cellOf)) :
    (convert 67 9 v).run Tryz.prog w = .ok (.string (mk l)) w := by
  rcases h.2 with ⟨rfl, h0⟩ | ⟨g, cap, cur, rfl, hb, hg, hr⟩
  · have : l = [] := List.eq_nil_of_length_eq_zero h0
    subst this
    exact run_convert_bytes_nil w 67 5 Tryz.underlying67 Tryz.underlying5 0 0 9 Tryz.underlying9
  · refine string_of l _ _ w fun j hj => ?_
    refine h.cells (g := g) rfl j _ ?_
    rw [List.getElem?_map, List.getElem?_eq_getElem hj, List.getD_eq_getElem?_getD, List.getElem?_eq_getElem hj]; rfl
end Tym

namespace Tym
set_option linter.unusedSimpArgs false
set_option linter.unusedVariables false
open Go Go.RowKit Go.Proofs

theorem isSpace_ints (c : UInt8) : isSpace c = ((c.toNat : Int) == 9 || (c.toNat : Int) == 10 || (c.toNat : Int) == 12 || (c.toNat : Int) == 13 || (c.toNat : Int) == 32) :=
  byte_all (p := fun c => isSpace c = ((c.toNat : Int) == 9 || (c.toNat : Int) == 10 || (c.toNat : Int) == 12 || (c.toNat : Int) == 13 || (c.toNat : Int) == 32)) (by decide +kernel) c

theorem space_any (c : UInt8) (w : World) : Calls Tryz.prog 36 #[.int .u8 (c.toNat : Int)] w fun e w' => e = .returned (.bool (isSpace c)) ∧ w = w' := by
  go_enter Tryz.func36, Tryz.ntmps36
  go_wp2
  all_goals (go_ret; refine ⟨ret_bool ?_, rfl⟩; rw [isSpace_ints]; simp [*])

theorem spaceR_any (c : UInt8) (w : World) : Calls Tryz.prog 79 #[.int .u8 (c.toNat : Int)] w fun e w' => e = .returned (.bool (isSpace c)) ∧ w = w' := by
  go_enter Tryz.func79, Tryz.ntmps79
  go_wp2
  all_goals (go_ret; refine ⟨ret_bool ?_, rfl⟩; rw [isSpace_ints]; first | done | rfl | simp [*])

theorem take_oneA (l : Bs) (i : Nat) (h : i < l.length) : l.take (i + 1) = l.take i ++ [l.getD i 0] := by
  rw [List.take_add_one, List.getD_eq_getElem?_getD, List.getElem?_eq_getElem h]; rfl
def lowAt (l : Bs) (i : Nat) : Bs := lower (l.take i) ++ l.drop i
theorem lowAt_zero (l : Bs) : lowAt l 0 = l := by simp [lowAt, lower]
theorem lowAt_len (l : Bs) (i : Nat) : (lowAt l i).length = l.length := by simp [lowAt, lower]; omega
theorem lowAt_get (l : Bs) (i : Nat) : (lowAt l i).getD i 0 = l.getD i 0 := by
  rw [List.getD_eq_getElem?_getD, List.getD_eq_getElem?_getD]
  rcases Nat.lt_or_ge i l.length with h | h
  · rw [lowAt, List.getElem?_append_right (by simp [lower]; omega)]
    simp [lower]; congr 1; congr 1; omega
  · rw [List.getElem?_eq_none (by rw [lowAt_len]; exact h), List.getElem?_eq_none h]
theorem lowAt_all (l : Bs) (i : Nat) (h : l.length ≤ i) : lowAt l i = lower l := by simp [lowAt, List.take_of_length_le h, List.drop_eq_nil_of_le h]
theorem lowAt_step (l : Bs) (i : Nat) (h : i < l.length) : lowAt l (i + 1) = (lowAt l i).set i (small (l.getD i 0)) := by
  unfold lowAt lower
  rw [take_oneA l i h, List.map_append, List.set_append_right _ _ (by simp; omega), List.append_assoc]
  congr 1
  rw [show i - (List.map small (List.take i l)).length = 0 from by simp; omega, List.drop_eq_getElem_cons h, List.getD_eq_getElem?_getD, List.getElem?_eq_getElem h]
  rfl

/-- What a row of bytes holds. -/
def Cells (w : World) (b : Nat) (l : Bs) : Prop := ∀ j, j < l.length → w.cell? ⟨b, j, none⟩ = some (cellOf (l.getD j 0)) ∧ w.frozen? ⟨b, j, none⟩ = false
theorem Cells.store {w : World} {b : Nat} {l : Bs} (h : Cells w b l) (i : Nat) (hi : i < l.length) (c : UInt8) : Cells (w.setCell ⟨b, i, none⟩ (cellOf c)) b (l.set i c) := by
  intro j hj
  rw [List.length_set] at hj
  refine ⟨?_, by rw [World.frozen?_setCell]; exact (h j hj).2⟩
  by_cases e : i = j
  · subst e
    rw [World.cell?_setCell_same _ _ _ (h i hi).1]
    simp [List.getD_eq_getElem?_getD, hi]
  · rw [World.cell?_setCell_other (a := ⟨b, i, none⟩) (b := ⟨b, j, none⟩) (h := by simp [e]), (h j hj).1]
    simp [List.getD_eq_getElem?_getD, List.getElem?_set_ne e]

theorem lower_any (s : ByteArray) (w : World) (hs : s.size ≤ 1000000000) : Calls Tryz.prog 29 #[.string s] w fun e w' => e = .returned (.string (mk (lower (bs s)))) ∧ Below w.heap.size w w' := by
  obtain ⟨cap, w1, hcv, hsz, hbel, hc, hf, _, _⟩ := bytes_of s w
  have hC : Cells w1 w.heap.size (lowAt (bs s) 0) := fun j hj => by
    rw [lowAt_zero] at hj ⊢
    rw [← size_bs] at hj
    exact ⟨hc j hj, hf j hj⟩
  have hlt1 : w.heap.size < w1.heap.size := by omega
  have HC := Lib.hid hC
  clear hc hf hC
  go_enter Tryz.func29, Tryz.ntmps29
  go_wp2_with fail
  clear hcv
  go_loopw [10] (fun k wr => ∃ i : Nat, i ≤ s.size ∧ k = .int .i64 i ∧ Hid (Cells wr w.heap.size (lowAt (bs s) i)) ∧ Below w.heap.size w wr) (fun k _ => s.size - (intOf k).toNat)
  case atStart => exact ⟨0, by omega, rfl, HC, hbel⟩
  case round =>
    obtain ⟨i, hi, rfl, HCi, hb⟩ := hrel
    by_cases hlt : i < s.size
    · have hl : i < (lowAt (bs s) i).length := by rw [lowAt_len, ← size_bs]; exact hlt
      have h1 := (HCi.out i hl).1
      have h2 := (HCi.out i hl).2
      rw [lowAt_get] at h1
      unfold cellOf at h1
      have HS := Lib.hid (HCi.out.store i hl (small ((bs s).getD i 0)))
      rw [← lowAt_step _ _ (by rw [← size_bs]; exact hlt)] at HS
      generalize (bs s).getD i 0 = c at *
      go_wp2_with (go_at_call 62; (with_reducible refine (small_any _ _).mono ?_); rintro e w' ⟨rfl, rfl⟩)
      go_roundw
      case rel => exact ⟨i + 1, by omega, by go_num, HS, hb.setCell (Nat.le_refl _) _⟩
      case measure => simp [intOf]; omega
    · have hie : i = s.size := by omega
      have hst := string_of (lower (bs s)) ⟨w.heap.size, 0, none⟩ cap wr (fun j hj => by
        have hX := HCi.out
        rw [lowAt_all _ _ (by rw [← size_bs]; omega)] at hX
        rw [Addr.add_lit, Nat.zero_add]
        exact (hX j hj).1)
      rw [show (lower (bs s)).length = s.size from by rw [size_bs]; simp [lower]] at hst
      go_wp2
      go_ret
      exact ⟨rfl, hb⟩
end Tym

namespace Tym
set_option linter.unusedSimpArgs false
set_option linter.unusedVariables false
open Go Go.RowKit Go.Proofs

theorem up_small (c : UInt8) (h1 : (65 : Int) ≤ (c.toNat : Int)) (h2 : (c.toNat : Int) ≤ 90) : ((small c).toNat : Int) = (c.toNat : Int) + 32 :=
  byte_all (p := fun c => (65 : Int) ≤ (c.toNat : Int) → (c.toNat : Int) ≤ 90 → ((small c).toNat : Int) = (c.toNat : Int) + 32) (by decide +kernel) c h1 h2
theorem not_small (c : UInt8) (h : ¬ ((65 : Int) ≤ (c.toNat : Int) ∧ (c.toNat : Int) ≤ 90)) : small c = c :=
  byte_all (p := fun c => ¬ ((65 : Int) ≤ (c.toNat : Int) ∧ (c.toNat : Int) ≤ 90) → small c = c) (by decide +kernel) c h

theorem lower_step (l : Bs) (i : Nat) (h : i < l.length) : (lower (l.take (i + 1))) = lower (l.take i) ++ [small (l.getD i 0)] := by
  rw [take_oneA l i h]; simp [lower]

theorem lowerR_any (s : ByteArray) (w : World) (hs : s.size ≤ 1000000000) : Calls Tryz.prog 55 #[.string s] w fun e w' => e = .returned (.string (mk (lower (bs s)))) ∧ Below w.heap.size w w' := by
  obtain ⟨i0, hi0, hz0, hz1, hz2⟩ := info_parts byteInfo
  go_enter Tryz.func55, Tryz.ntmps55
  go_wp2_with fail
  go_loopw [3, 4] (fun v k wr => ∃ i : Nat, i ≤ s.size ∧ k = .int .i64 i ∧ Hid (wr.ownsRow w.heap.size 5 1 v i ((lower ((bs s).take i)).map cellOf)) ∧ Below w.heap.size w wr) (fun _ k _ => s.size - (intOf k).toNat)
  case atStart => exact ⟨0, by omega, rfl, World.ownsRow_nil _ _ _ _, Below.refl _ _⟩
  case round =>
    obtain ⟨i, hi, rfl, hown, hb⟩ := hrel
    by_cases hlt : i < s.size
    · have hl : i < (bs s).length := by rw [← size_bs]; exact hlt
      have hg := get_bs s i hlt
      have hst := lower_step (bs s) i hl
      rw [← hg] at hst
      obtain ⟨c, hc⟩ : ∃ c, c = s[i]'hlt := ⟨_, rfl⟩
      rw [← hc] at hst hg
      have HS := Lib.hid hst
      clear hst hg
      have hsz := hb.size
      by_cases hup : (65 : Int) ≤ (c.toNat : Int) ∧ (c.toNat : Int) ≤ 90
      · have hu := up_small c hup.1 hup.2
        have HU := Lib.hid hu
        clear hu
        obtain ⟨hu1, hu2⟩ := hup
        rw [hc] at hu1 hu2
        go_wp2_with (at_builtin; refine wpList_append_own _ rfl _ _ 67 rfl w.heap.size 5 i0 (.int .u8 0) 1 1 Tryz.underlying67 hi0 hz0 hz1 hz2 rfl (by decide) _ _ _ rfl (hown.out.alloc _) ⟨wr.heap.size, 0, none⟩ 1 1 [.int .u8 (((s[i]'hlt).toNat : Int) + 32)] rfl rfl (by intro j u hj; (match j, hj with | 0, hj => (simp at hj; subst hj; simp [Addr.add]))) (by intro u hu; simp at hu; subst hu; rfl) (by unfold maxLen; omega) (by omega) (by simp; omega) ?_)
        intro v' w1 hown' hgrow _
        have hown2 : Hid (w1.ownsRow w.heap.size 5 1 v' (i + 1) ((lower ((bs s).take (i + 1))).map cellOf)) := by
          rw [HS.out, List.map_append]
          rw [← hc, ← HU.out] at hown'
          exact hown'
        have hb2 : Below w.heap.size w w1 := (hb.alloc hsz _).grown hgrow (by simp; omega) (fun k hk => (hown.out.lt k hk).1)
        clear hown' hgrow hown
        go_wp2
        go_roundw
        case rel => exact ⟨i + 1, by omega, by go_num, hown2, hb2⟩
        case measure => simp [intOf]; omega
      · have hu := not_small c hup
        rw [hu] at HS
        have hup2 : ¬ (65 : Int) ≤ (c.toNat : Int) ∨ ((65 : Int) ≤ (c.toNat : Int) ∧ ¬ (c.toNat : Int) ≤ 90) := by omega
        clear hup hu
        rw [hc] at hup2
        rcases hup2 with h1 | ⟨h1, h2⟩
        all_goals
          go_wp2_with (at_builtin; refine wpList_append_own _ rfl _ _ 67 rfl w.heap.size 5 i0 (.int .u8 0) 1 1 Tryz.underlying67 hi0 hz0 hz1 hz2 rfl (by decide) _ _ _ rfl (hown.out.alloc _) ⟨wr.heap.size, 0, none⟩ 1 1 [.int .u8 (((s[i]'hlt).toNat : Int))] rfl rfl (by intro j u hj; (match j, hj with | 0, hj => (simp at hj; subst hj; simp [Addr.add]))) (by intro u hu; simp at hu; subst hu; rfl) (by unfold maxLen; omega) (by omega) (by simp; omega) ?_)
          intro v' w1 hown' hgrow _
          have hown2 : Hid (w1.ownsRow w.heap.size 5 1 v' (i + 1) ((lower ((bs s).take (i + 1))).map cellOf)) := by
            rw [HS.out, List.map_append]
            rw [← hc] at hown'
            exact hown'
          have hb2 : Below w.heap.size w w1 := (hb.alloc hsz _).grown hgrow (by simp; omega) (fun k hk => (hown.out.lt k hk).1)
          clear hown' hgrow hown
          go_wp2
          go_roundw
          case rel => exact ⟨i + 1, by omega, by go_num, hown2, hb2⟩
          case measure => simp [intOf]; omega
    · have hie : i = s.size := by omega
      have hst := string_own (lower (bs s)) w.heap.size _ wr (by
        have := hown.out
        rw [hie, size_bs, List.take_length] at this
        rwa [show (lower (bs s)).length = (bs s).length from by simp [lower]])
      go_wp2
      go_ret
      exact ⟨rfl, hb⟩
end Tym

namespace Tym
set_option linter.unusedSimpArgs false
set_option linter.unusedVariables false
open Go Go.RowKit

theorem two_cell0 {w : World} {b : Nat} {x y : Value} {t : TypeId} (h : w.heap[b]? = some (.cells #[x, y] t (0, 0))) : w.cell? ⟨b, 0, none⟩ = some x := by simp [World.cell?, h]
theorem two_cell1 {w : World} {b : Nat} {x y : Value} {t : TypeId} (h : w.heap[b]? = some (.cells #[x, y] t (0, 0))) : w.cell? ⟨b, 1, none⟩ = some y := by simp [World.cell?, h]
theorem two_free0 {w : World} {b : Nat} {x y : Value} {t : TypeId} (h : w.heap[b]? = some (.cells #[x, y] t (0, 0))) : w.frozen? ⟨b, 0, none⟩ = false := by simp [World.frozen?, h]
theorem two_free1 {w : World} {b : Nat} {x y : Value} {t : TypeId} (h : w.heap[b]? = some (.cells #[x, y] t (0, 0))) : w.frozen? ⟨b, 1, none⟩ = false := by simp [World.frozen?, h]
theorem two_set1 {w : World} {b : Nat} {x y u : Value} {t : TypeId} (h : w.heap[b]? = some (.cells #[x, y] t (0, 0))) : (w.setCell ⟨b, 1, none⟩ u).heap[b]? = some (.cells #[x, u] t (0, 0)) := by
  have hlt := lt_of_block h
  have h' : w.heap[b] = .cells #[x, y] t (0, 0) := by simpa [Array.getElem?_eq_getElem hlt] using h
  show (w.heap.modify b _)[b]? = _
  rw [Array.getElem?_eq_getElem (by simpa using hlt), Array.getElem_modify_self, h']
  rfl

theorem row_free {w : World} {b : Nat} {cs : Array Value} {t : TypeId} (h : w.heap[b]? = some (.cells cs t (0, 0))) (j : Nat) : w.frozen? ⟨b, j, none⟩ = false := by simp [World.frozen?, h]
theorem row_cell {w : World} {b : Nat} {cs : Array Value} {t : TypeId} (h : w.heap[b]? = some (.cells cs t (0, 0))) (j : Nat) (v : Value) (hj : cs[j]? = some v) : w.cell? ⟨b, j, none⟩ = some v := by
  rw [cell_of_row w b j cs t _ h, hj]
theorem row_set {w : World} {b : Nat} {cs : Array Value} {t : TypeId} (h : w.heap[b]? = some (.cells cs t (0, 0))) (j : Nat) (u : Value) : (w.setCell ⟨b, j, none⟩ u).heap[b]? = some (.cells (cs.setIfInBounds j u) t (0, 0)) := by
  have hlt := lt_of_block h
  have h' : w.heap[b] = .cells cs t (0, 0) := by simpa [Array.getElem?_eq_getElem hlt] using h
  show (w.heap.modify b _)[b]? = _
  rw [Array.getElem?_eq_getElem (by simpa using hlt), Array.getElem_modify_self, h']
  rfl

theorem grown_set (w : World) (a : Addr) (u : Value) : w.grownBy (w.setCell a u) (some a.block) :=
  ⟨rfl, rfl, rfl, by simp [World.setCell], fun k hk hne => Below.heap_setCell _ _ _ _ (fun e => hne (by rw [e]))⟩
theorem grown_refl (w : World) (r : Option Nat) : w.grownBy w r := ⟨rfl, rfl, rfl, Nat.le_refl _, fun _ _ _ => rfl⟩
theorem grown_trans {a b c : World} {r : Option Nat} (h1 : a.grownBy b r) (h2 : b.grownBy c r) : a.grownBy c r :=
  ⟨h2.os.trans h1.os, h2.tape.trans h1.tape, h2.output.trans h1.output, Nat.le_trans h1.size h2.size, fun k hk hne => (h2.block k (Nat.lt_of_lt_of_le hk h1.size) hne).trans (h1.block k hk hne)⟩
theorem grown_below {w w' : World} (h : Below w.heap.size w w') (r : Option Nat) : w.grownBy w' r :=
  ⟨h.os, h.tape, h.output, h.size, fun k hk _ => h.block k hk⟩
theorem below_grown {w w' : World} {b B : Nat} (h : w.grownBy w' (some b)) (hb : B ≤ b) (hB : B ≤ w.heap.size) : Below B w w' :=
  ⟨h.os, h.tape, h.output, h.size, fun k hk => h.block k (by omega) (fun e => by cases e; omega)⟩
theorem below_block {w w' : World} {b : Nat} {o : Obj} (h : Below w.heap.size w w') (hb : w.heap[b]? = some o) : w'.heap[b]? = some o :=
  (h.block b (lt_of_block hb)).trans hb
theorem grown_block {w w' : World} {b : Nat} {o : Obj} {r : Option Nat} (h : w.grownBy w' r) (hb : w.heap[b]? = some o) (hne : some b ≠ r) : w'.heap[b]? = some o :=
  (h.block b (lt_of_block hb) hne).trans hb
theorem below_undrew {w w' : World} (h : Below w.drew.heap.size w.drew w') : Below w.heap.size w w' := ⟨h.os, h.tape, h.output, h.size, h.block⟩
theorem below_alloc_then {w w' : World} {o : Obj} (h : Below (w.alloc o).heap.size (w.alloc o) w') : Below w.heap.size w w' :=
  ((Below.refl w.heap.size w).alloc (Nat.le_refl _) o).trans (h.mono (by simp))

theorem grown_setNew {w w' : World} {r : Option Nat} (h : w.grownBy w' r) {a : Addr} (ha : w.heap.size ≤ a.block) (u : Value) : w.grownBy (w'.setCell a u) r :=
  ⟨h.os, h.tape, h.output, by have := h.size; simp [World.setCell]; omega, fun k hk hne => (Below.heap_setCell w' a u k (by omega)).trans (h.block k hk hne)⟩
theorem block_other {w : World} {b : Nat} {o : Obj} (h : w.heap[b]? = some o) {a : Addr} (ha : b ≠ a.block) (u : Value) : (w.setCell a u).heap[b]? = some o := (Below.heap_setCell w a u b ha).trans h

/-- A struct that is handed back lies in a block of the call's own. -/
theorem ret_cell_tmp {P : Program} {fn : Func} {R : Ending → World → Prop} {a : Act} {w : World} {p u : Tmp} {ty : TypeId} {g : Nat} {t : TypeId} {cs : Array Value} {d : TypeDesc} (h : fn.results = #[.cell p ty, .tmp u]) (hd : a.defers = [])
    (hp : a.tmps.getD p undef = .pointer (some ⟨g, 0, none⟩)) (hg : w.heap[g]? = some (.cells cs t (0, 0))) (hu : P.underlying ty = some d)
    (hdd : (match d with | .struct _ | .array _ _ => true | _ => false) = true) (hi : (P.info? ty).map (·.size) = some cs.size)
    (hR : R (.returned (.tuple #[.agg cs, a.tmps.getD u undef])) w) : bodyPost P fn R .ret a w := by
  refine ⟨hd, _, ?_, hR⟩
  rw [results_cell_tmp h, hp]
  have := run_loadVar_row (P := P) w g t ty cs (0, 0) d hg hu hdd hi
  simp [asAddr, this]

theorem ret_cell_tmp2 {P : Program} {fn : Func} {R : Ending → World → Prop} {a : Act} {w : World} {p u v : Tmp} {ty : TypeId} {g : Nat} {t : TypeId} {cs : Array Value} {d : TypeDesc} (h : fn.results = #[.cell p ty, .tmp u, .tmp v]) (hd : a.defers = [])
    (hp : a.tmps.getD p undef = .pointer (some ⟨g, 0, none⟩)) (hg : w.heap[g]? = some (.cells cs t (0, 0))) (hu : P.underlying ty = some d)
    (hdd : (match d with | .struct _ | .array _ _ => true | _ => false) = true) (hi : (P.info? ty).map (·.size) = some cs.size)
    (hR : R (.returned (.tuple #[.agg cs, a.tmps.getD u undef, a.tmps.getD v undef])) w) : bodyPost P fn R .ret a w := by
  refine ⟨hd, _, ?_, hR⟩
  have := run_loadVar_row (P := P) w g t ty cs (0, 0) d hg hu hdd hi
  simp only [results, h]
  have hp' : a.tmps[p]?.getD undef = .pointer (some ⟨g, 0, none⟩) := by simpa using hp
  simp [Sem.run_bind, Result.andThen, asAddr, this, hp']
end Tym
