/- The walks of plain, Text, Right. -/
import Derived.Test.YtbgcedhbbfkmcaaUtfB
set_option linter.unusedSimpArgs false
set_option linter.unusedVariables false
open Go Go.RowKit Go.Proofs
namespace Tym
set_option maxRecDepth 20000

theorem utf_fuel : ∀ f g l, l.length ≤ f → l.length ≤ g → utf f l = utf g l := by
  intro f
  induction f with
  | zero => intro g l h _; rw [List.eq_nil_of_length_eq_zero (by omega : l.length = 0)]; cases g <;> rfl
  | succ f ih =>
    intro g l hf hg
    cases l with
    | nil => cases g <;> rfl
    | cons c t =>
      cases g with
      | zero => simp at hg
      | succ g =>
        unfold utf
        have := front_pos c t
        congr 1
        exact ih g _ (by rw [List.length_drop]; omega) (by rw [List.length_drop]; omega)
theorem utf_step (m : Bs) (hm : 0 < m.length) : utf m.length m = (if (front m).2 && m.getD 0 0 != 0 then m.take (front m).1 else [0xef, 0xbf, 0xbd]) ++ utf (m.drop (front m).1).length (m.drop (front m).1) := by
  cases m with
  | nil => simp at hm
  | cons c t =>
    have h1 : utf (c :: t).length (c :: t) = (if (front (c :: t)).2 && c != 0 then (c :: t).take (front (c :: t)).1 else [0xef, 0xbf, 0xbd]) ++ utf t.length ((c :: t).drop (front (c :: t)).1) := rfl
    rw [h1]
    have := front_pos c t
    congr 1
    exact utf_fuel _ _ _ (by rw [List.length_drop, List.length_cons]; omega) (Nat.le_refl _)
theorem utf_nil : utf ([] : Bs).length [] = [] := rfl
theorem frontL_pos (m : Bs) (hm : 0 < m.length) : 0 < (front m).1 ∧ (front m).1 ≤ m.length := by
  cases m with
  | nil => simp at hm
  | cons c t => exact front_pos c t

attribute [local irreducible] front frontAt second isTail many utf

theorem Reads.drop {w : World} {b off : Nat} {l : Bs} (h : Reads w b off l) (k : Nat) : Reads w b (off + k) (l.drop k) := by
  intro j hj
  rw [List.length_drop] at hj
  have := h (k + j) (by omega)
  rw [Nat.add_assoc, this, List.getD_eq_getElem?_getD, List.getD_eq_getElem?_getD, List.getElem?_drop]

theorem take_cells (w : World) (b off : Nat) (l : Bs) (h : Reads w b off l) (n : Nat) (hn : n ≤ l.length) : ∀ j u, ((l.take n).map cellOf)[j]? = some u → w.cell? ((⟨b, off, none⟩ : Addr).add j) = some u := by
  intro j u hu
  rw [List.getElem?_map, List.getElem?_take] at hu
  split at hu
  · rename_i hj
    have hjl : j < l.length := by omega
    rw [List.getElem?_eq_getElem hjl] at hu
    simp only [Option.map_some, Option.some.injEq] at hu
    rw [Addr.add_lit, h j hjl, List.getD_eq_getElem?_getD, List.getElem?_eq_getElem hjl]
    exact congrArg some hu
  · simp at hu

theorem own_kept {w w' : World} {B e : Nat} {v : Value} {n : Nat} {xs : List Value} (h : w.ownsRow B e 1 v n xs) (hb : Below w.heap.size w w') : w'.ownsRow B e 1 v n xs := by
  refine ⟨h.1, ?_⟩
  rcases h.2 with hn | ⟨g, cap, cur, rfl, hb', hgg, rest⟩
  · exact .inl hn
  · refine .inr ⟨g, cap, cur, rfl, hb', ?_, rest⟩
    rw [hb.block g ?_]
    · exact hgg
    · exact (Array.getElem?_eq_some_iff.1 hgg).1

def lenOf : Value → Nat | .slice _ m _ => m | _ => 0

theorem plain_nil (w : World) : Calls Try.prog 36 #[.slice none 0 0] w fun e w' => e = .returned (.string (mk (utf ([] : Bs).length []))) ∧ Below w.heap.size w w' := by
  have hst := string_own [] w.heap.size (.slice none 0 0) w (World.ownsRow_nil _ _ _ _)
  rw [utf_nil]
  go_enter Try.func36, Try.ntmps36
  go_wp2_with fail
  go_loopw [0, 3] (fun v0 v3 wr => v0 = .slice none 0 0 ∧ v3 = .slice none 0 0 ∧ wr = w) (fun _ _ _ => 0)
  case atStart => exact ⟨rfl, rfl, rfl⟩
  case round =>
    obtain ⟨rfl, rfl, rfl⟩ := hrel
    go_wp2
    go_ret
    exact ⟨rfl, Below.refl _ _⟩

set_option maxHeartbeats 1000000 in
theorem plain_any (b off cap : Nat) (l : Bs) (w : World) (hlen : l.length ≤ 100000000) (hcap : l.length ≤ cap) (hmax : cap ≤ maxLen) (hb : b < w.heap.size) (hc : Reads w b off l) :
    Calls Try.prog 36 #[.slice (some ⟨b, off, none⟩) l.length cap] w fun e w' => e = .returned (.string (mk (utf l.length l))) ∧ Below w.heap.size w w' := by
  obtain ⟨i0, hi0, hz0, hz1, hz2⟩ := info_parts byteInfo
  have HC := Lib.hid hc
  clear hc
  unfold maxLen at hmax
  go_enter Try.func36, Try.ntmps36
  go_wp2_with fail
  go_loopw [0, 3] (fun v0 v3 wr => ∃ (k m c q : Nat) (o : Bs), k + m = l.length ∧ k + c = cap ∧ (0 < m → q = off + k) ∧ v0 = .slice (some ⟨b, q, none⟩) m c ∧ Hid (wr.ownsRow w.heap.size 5 1 v3 o.length (o.map cellOf)) ∧ o.length ≤ 3 * k ∧ Hid (o ++ utf (l.drop k).length (l.drop k) = utf l.length l) ∧ Below w.heap.size w wr)
    (fun v0 _ _ => lenOf v0)
  case atStart => exact ⟨0, l.length, cap, off, [], by omega, by omega, fun _ => rfl, rfl, World.ownsRow_nil _ _ _ _, by simp, rfl, Below.refl _ _⟩
  case round =>
    obtain ⟨k, m, c, q, o, hkm, hkc, hq, rfl, hown, hol, HN, hbel⟩ := hrel
    have hml : (l.drop k).length = m := by rw [List.length_drop]; omega
    by_cases hpos : 0 < m
    · have hq2 := hq hpos
      subst hq2
      clear hq
      have hm2 : 0 < (l.drop k).length := by omega
      have hR := ((HC.out.kept hbel hb).drop k)
      have hbr : b < wr.heap.size := by have := hbel.size; omega
      have HF : Hid (∀ w2, wr = w2 → Calls Try.prog 46 #[.slice (some ⟨b, off + k, none⟩) m c] w2 fun e w' => e = .returned (.tuple #[.int .i64 (front (l.drop k)).1, .bool (front (l.drop k)).2]) ∧ Below wr.heap.size wr w') := by
        intro w2 e; subst e
        have := front_any b (off + k) c (l.drop k) wr hm2 (by omega) (by omega) hbr hR
        rwa [hml] at this
      have hp := frontL_pos (l.drop k) hm2
      rw [hml] at hp
      have hstep := utf_step (l.drop k) hm2
      have hx0 := hR 0 hm2
      rw [Nat.add_zero] at hx0
      have HR := Lib.hid hR
      clear hR
      have HM := Lib.hid hml
      clear hml hm2
      generalize hfr : front (l.drop k) = r at *
      clear hfr
      obtain ⟨n, wh⟩ := r
      simp only at hp hstep HF
      generalize hx : (l.drop k).getD 0 0 = x at *
      clear hx
      have HS := Lib.hid hstep
      clear hstep
      obtain ⟨hn0, hnm⟩ := hp
      go_wp2_with fail
      refine (HF.out _ rfl).mono ?_
      rintro e w1 ⟨rfl, hb1⟩
      have hx1 := (hb1.cell (p := ⟨b, off + k, none⟩) hbr).trans hx0
      have hR1 := HR.out.kept hb1 hbr
      have hown1 : Hid (w1.ownsRow w.heap.size 5 1 u3 o.length (o.map cellOf)) := own_kept hown.out hb1
      have hbel1 : Below w.heap.size w w1 := hbel.trans (hb1.mono hbel.size)
      have hsz := hbel.size
      have hsz1 := hbel1.size
      have HR1 := Lib.hid hR1
      clear hR1 hx0 HF hown
      by_cases hgood : wh = true ∧ x ≠ 0
      · obtain ⟨hwh, hx⟩ := hgood
        subst hwh
        have hne : ((x.toNat : Int) != 0) = true := by
          rw [bne_iff_ne]; intro h; exact hx (by rw [← UInt8.toNat_inj]; simp; omega)
        have HS2 : Hid (utf (l.drop k).length (l.drop k) = (l.drop k).take n ++ utf ((l.drop k).drop n).length ((l.drop k).drop n)) := by
          have := HS.out
          rw [show (true && x != 0) = true from by rw [bne_iff_ne.2 hx]; rfl, if_pos rfl] at this
          exact this
        clear HS hx
        have hnl : ((l.drop k).take n).length = n := by rw [List.length_take, HM.out]; omega
        have HNL := Lib.hid hnl
        clear hnl
        have hcells : Hid (∀ j u, (((l.drop k).take n).map cellOf)[j]? = some u → w1.cell? ((⟨b, off + k, none⟩ : Addr).add j) = some u) := take_cells w1 b (off + k) (l.drop k) HR1.out n (by rw [HM.out]; exact hnm)
        go_wp2_with (at_builtin; refine wpList_append_own _ rfl _ _ 30 rfl w.heap.size 5 i0 (.int .u8 0) 1 1 Try.underlying30 hi0 hz0 hz1 hz2 rfl (by decide) _ _ _ rfl hown1.out ⟨b, off + k, none⟩ n c (((l.drop k).take n).map cellOf) rfl (by rw [List.length_map, HNL.out, Nat.mul_one]) hcells.out (by intro u hu; obtain ⟨y, _, rfl⟩ := List.mem_map.1 hu; rfl) (by unfold maxLen; omega) (by omega) (by omega) ?_)
        intro v' w2 hown' hgrow _
        have hown2 : Hid (w2.ownsRow w.heap.size 5 1 v' (o ++ (l.drop k).take n).length ((o ++ (l.drop k).take n).map cellOf)) := by
          show World.ownsRow _ _ _ _ _ _ _
          rw [List.length_append, HNL.out, List.map_append, List.map_take, List.map_drop]; exact hown'
        have hb2 : Below w.heap.size w w2 := hbel1.grown hgrow (by omega) (fun j hj => (hown1.out.lt j hj).1)
        have HN2 : Hid ((o ++ (l.drop k).take n) ++ utf (l.drop (k + n)).length (l.drop (k + n)) = utf l.length l) := by
          have := HN.out
          rw [HS2.out, List.drop_drop] at this
          rw [List.append_assoc]; exact this
        have hol2 : (o ++ (l.drop k).take n).length ≤ 3 * (k + n) := by rw [List.length_append, HNL.out]; omega
        clear hown' hgrow hown1 HN HS2 hcells HNL
        go_wp2
        go_roundw
        case rel =>
            by_cases hcn : c = n
            · exact ⟨k + n, m - n, c - n, off + k, _, by omega, by omega, fun h => by omega, by simp [hcn], hown2, hol2, HN2, hb2⟩
            · exact ⟨k + n, m - n, c - n, off + k + n, _, by omega, by omega, fun h => by omega, by simp [hcn, Nat.add_assoc], hown2, hol2, HN2, hb2⟩
        case measure => simp [lenOf]; omega
      · have HS2 : Hid (utf (l.drop k).length (l.drop k) = [0xef, 0xbf, 0xbd] ++ utf ((l.drop k).drop n).length ((l.drop k).drop n)) := by
          have := HS.out
          rw [if_neg (by rw [Bool.and_eq_true, bne_iff_ne]; exact hgood)] at this
          exact this
        clear HS
        have HN2 : Hid ((o ++ [0xef, 0xbf, 0xbd]) ++ utf (l.drop (k + n)).length (l.drop (k + n)) = utf l.length l) := by
          have := HN.out
          rw [HS2.out, List.drop_drop] at this
          rw [List.append_assoc]; exact this
        have hol2 : (o ++ [0xef, 0xbf, 0xbd]).length ≤ 3 * (k + n) := by rw [List.length_append]; simp; omega
        have hcase : wh = false ∨ (wh = true ∧ ((x.toNat : Int) != 0) = false) := by
          cases wh
          · exact .inl rfl
          · refine .inr ⟨rfl, ?_⟩
            rw [bne_eq_false_iff_eq]
            by_cases hx : x = 0
            · subst hx; rfl
            · exact absurd ⟨rfl, hx⟩ hgood
        clear hgood HS2 HN
        rcases hcase with hwh | ⟨hwh, hne⟩
        all_goals
          subst hwh
          go_wp2_with (at_builtin; refine wpList_append_own _ rfl _ _ 30 rfl w.heap.size 5 i0 (.int .u8 0) 1 1 Try.underlying30 hi0 hz0 hz1 hz2 rfl (by decide) _ _ _ rfl (hown1.out.alloc _) ⟨w1.heap.size, 0, none⟩ 3 3 [.int .u8 239, .int .u8 191, .int .u8 189] rfl rfl (by intro j u hj; (match j, hj with | 0, hj => (simp at hj; subst hj; simp [Addr.add]) | 1, hj => (simp at hj; subst hj; simp [Addr.add]) | 2, hj => (simp at hj; subst hj; simp [Addr.add]))) (by intro u hu; simp at hu; rcases hu with rfl | rfl | rfl <;> rfl) (by unfold maxLen; omega) (by omega) (by simp; omega) ?_)
          intro v' w2 hown' hgrow _
          have hown2 : Hid (w2.ownsRow w.heap.size 5 1 v' (o ++ [0xef, 0xbf, 0xbd]).length ((o ++ [0xef, 0xbf, 0xbd]).map cellOf)) := by
            show World.ownsRow _ _ _ _ _ _ _
            rw [List.length_append, List.map_append]; exact hown'
          have hb2 : Below w.heap.size w w2 := (hbel1.alloc hsz1 _).grown hgrow (by simp; omega) (fun j hj => (hown1.out.lt j hj).1)
          clear hown' hgrow hown1
          go_wp2
          go_roundw
          case rel =>
            by_cases hcn : c = n
            · exact ⟨k + n, m - n, c - n, off + k, _, by omega, by omega, fun h => by omega, by simp [hcn], hown2, hol2, HN2, hb2⟩
            · exact ⟨k + n, m - n, c - n, off + k + n, _, by omega, by omega, fun h => by omega, by simp [hcn, Nat.add_assoc], hown2, hol2, HN2, hb2⟩
          case measure => simp [lenOf]; omega
    · have hm0 : m = 0 := by omega
      have hX : o = utf l.length l := by
        have := HN.out
        rwa [List.drop_eq_nil_of_le (by omega), utf_nil, List.append_nil] at this
      have hst := string_own o w.heap.size _ wr hown.out
      rw [hX] at hst
      clear HN hX
      subst hm0
      go_wp2
      go_ret
      exact ⟨rfl, hbel⟩
end Tym
