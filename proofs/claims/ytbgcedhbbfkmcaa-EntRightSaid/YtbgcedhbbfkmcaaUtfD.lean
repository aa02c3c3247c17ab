/- The walks of Text and Right, and of the law EntRight. -/
import Derived.Test.YtbgcedhbbfkmcaaUtfC
import Derived.Test.YtbgcedhbbfkmcaaEntP
set_option linter.unusedSimpArgs false
set_option linter.unusedVariables false
open Go Go.RowKit Go.Proofs
namespace Tym
set_option maxRecDepth 20000

theorem begins3 (l : Bs) (h : 3 ≤ l.length) : begins l [0xef, 0xbb, 0xbf] = ((l.getD 0 0 == 0xef) && ((l.getD 1 0 == 0xbb) && (l.getD 2 0 == 0xbf))) := by
  match l, h with
  | a :: b :: c :: t, _ => simp [begins, List.isPrefixOf, Bool.and_comm, eq_comm, BEq.comm]
theorem begins_short (l : Bs) (h : ¬ 3 ≤ l.length) : begins l [0xef, 0xbb, 0xbf] = false := by
  match l with
  | [] => rfl
  | [a] => simp [begins, List.isPrefixOf]
  | [a, b] => simp [begins, List.isPrefixOf]
  | a :: b :: c :: t => simp at h

theorem text_no (l : Bs) (h : begins l [0xef, 0xbb, 0xbf] = false) : text l = utf l.length l := by unfold text; rw [h]; rfl
theorem text_yes (l : Bs) (h : begins l [0xef, 0xbb, 0xbf] = true) : text l = utf (l.drop 3).length (l.drop 3) := by unfold text; rw [h]; rfl

theorem utf_len : ∀ f l, (utf f l).length ≤ 3 * l.length := by
  intro f
  induction f with
  | zero => intro l; simp [utf]
  | succ f ih =>
    intro l
    cases l with
    | nil => simp [utf]
    | cons c t =>
      unfold utf
      have h1 := front_pos c t
      have h2 := ih ((c :: t).drop (front (c :: t)).1)
      rw [List.length_drop] at h2
      have h3 : (if (front (c :: t)).2 && c != 0 then (c :: t).take (front (c :: t)).1 else [0xef, 0xbf, 0xbd] : Bs).length ≤ 3 * (front (c :: t)).1 := by
        split
        · rw [List.length_take]; omega
        · simp; omega
      rw [List.length_append]
      omega
theorem text_len (l : Bs) : (text l).length ≤ 3 * l.length := by
  unfold text
  split
  · have := utf_len (l.drop 3).length (l.drop 3)
    rw [List.length_drop] at this; rw [List.length_drop]; omega
  · exact utf_len _ _
theorem dec_len (attr : Bool) : ∀ (n : Nat) (s : Bs), s.length ≤ n → (dec attr s).length ≤ 6 * s.length := by
  intro n
  induction n with
  | zero => intro s h; rw [List.eq_nil_of_length_eq_zero (by omega : s.length = 0)]; simp [dec_nil]
  | succ n ih =>
    intro s h
    cases s with
    | nil => simp [dec_nil]
    | cons c t =>
      rw [List.length_cons] at h
      by_cases hc : c = 38
      · subst hc
        rw [dec_amp, List.length_append]
        have h1 := taken_len (38 :: t) attr
        have h2 := taken_pos (38 :: t) attr
        have h3 := taken_le (38 :: t) attr (by simp)
        have h4 := ih ((38 :: t).drop (taken (38 :: t) attr).2) (by rw [List.length_drop, List.length_cons]; omega)
        rw [List.length_drop] at h4
        rw [List.length_cons] at h3 h4 ⊢
        omega
      · rw [dec_cons attr c t hc, List.length_cons, List.length_cons]
        have := ih t (by omega)
        omega

attribute [local irreducible] front frontAt second isTail many utf text dec

theorem utf_nil' : utf ([] : Bs).length [] = [] := utf_nil

theorem text_nil (w : World) : Calls Try.prog 19 #[.slice none 0 0] w fun e w' => e = .returned (.string (mk (text []))) ∧ Below w.heap.size w w' := by
  rw [text_no [] rfl]
  go_enter Try.func19, Try.ntmps19
  go_wp2_with (go_at_call 36; (with_reducible refine (plain_nil _).mono ?_); rintro e w' ⟨rfl, hb⟩)
  go_ret
  exact ⟨rfl, hb⟩

theorem plain_zero (a : Option Addr) (cap : Nat) (w : World) : Calls Try.prog 36 #[.slice a 0 cap] w fun e w' => e = .returned (.string (mk (utf ([] : Bs).length []))) ∧ Below w.heap.size w w' := by
  have hst := string_own [] w.heap.size (.slice none 0 0) w (World.ownsRow_nil _ _ _ _)
  rw [utf_nil']
  go_enter Try.func36, Try.ntmps36
  go_wp2_with fail
  go_loopw [0, 3] (fun v0 v3 wr => v0 = .slice a 0 cap ∧ v3 = .slice none 0 0 ∧ wr = w) (fun _ _ _ => 0)
  case atStart => exact ⟨rfl, rfl, rfl⟩
  case round =>
    obtain ⟨rfl, rfl, rfl⟩ := hrel
    go_wp2
    go_ret
    exact ⟨rfl, Below.refl _ _⟩

theorem text_any (b off cap : Nat) (l : Bs) (w : World) (hlen : l.length ≤ 100000000) (hcap : l.length ≤ cap) (hmax : cap ≤ maxLen) (hb : b < w.heap.size) (hc : Reads w b off l) :
    Calls Try.prog 19 #[.slice (some ⟨b, off, none⟩) l.length cap] w fun e w' => e = .returned (.string (mk (text l))) ∧ Below w.heap.size w w' := by
  have HP : Hid (Calls Try.prog 36 #[.slice (some ⟨b, off, none⟩) l.length cap] w fun e w' => e = .returned (.string (mk (utf l.length l))) ∧ Below w.heap.size w w') := plain_any b off cap l w hlen hcap hmax hb hc
  by_cases h3 : (3 : Int) ≤ (l.length : Int)
  · have hbg := begins3 l (by omega)
    have h0 := hc 0 (by omega)
    have h1 := hc 1 (by omega)
    have h2 := hc 2 (by omega)
    rw [Nat.add_zero] at h0
    have HD : Hid (∀ q, (cap - 3 = 0 ∨ q = off + 3) → Calls Try.prog 36 #[.slice (some ⟨b, q, none⟩) (l.length - 3) (cap - 3)] w fun e w' => e = .returned (.string (mk (utf (l.drop 3).length (l.drop 3)))) ∧ Below w.heap.size w w') := by
      intro q hq
      have := plain_any b q (cap - 3) (l.drop 3) w (by rw [List.length_drop]; omega) (by rw [List.length_drop]; omega) (by unfold maxLen at *; omega) hb (by
        rcases hq with hq | rfl
        · intro j hj; rw [List.length_drop] at hj; omega
        · exact hc.drop 3)
      rwa [List.length_drop] at this ⊢
    clear hc
    have e0 := byte_beq (l.getD 0 0) 0xef (by decide)
    have e1 := byte_beq (l.getD 1 0) 0xbb (by decide)
    have e2 := byte_beq (l.getD 2 0) 0xbf (by decide)
    rw [show (l.getD 0 0 == 0xef) = (l.getD 0 0 == UInt8.ofNat 0xef) from rfl, show (l.getD 1 0 == 0xbb) = (l.getD 1 0 == UInt8.ofNat 0xbb) from rfl, show (l.getD 2 0 == 0xbf) = (l.getD 2 0 == UInt8.ofNat 0xbf) from rfl, ← e0, ← e1, ← e2] at hbg
    clear e0 e1 e2
    generalize l.getD 0 0 = x0 at *
    generalize l.getD 1 0 = x1 at *
    generalize l.getD 2 0 = x2 at *
    cases t0 : ((x0.toNat : Int) == (0xef : Nat)) <;> cases t1 : ((x1.toNat : Int) == (0xbb : Nat)) <;> cases t2 : ((x2.toNat : Int) == (0xbf : Nat))
    all_goals
      rw [t0, t1, t2] at hbg
      change ((x0.toNat : Int) == 239) = _ at t0
      change ((x1.toNat : Int) == 187) = _ at t1
      change ((x2.toNat : Int) == 191) = _ at t2
    all_goals
      first
        | (have ht := Lib.hid (text_no l hbg)
           clear hbg HD
           go_enter Try.func19, Try.ntmps19
           go_wp2_with (go_at_call 36; (with_reducible refine HP.out.mono ?_); rintro e w' ⟨rfl, hb⟩)
           go_ret
           exact ⟨by rw [ht.out]; rfl, hb⟩)
        | (have ht := Lib.hid (text_yes l hbg)
           clear hbg HP
           by_cases hcc : cap = 3
           · have hl3 : l.length = 3 := by omega
             have ht3 : Hid (text l = utf ([] : Bs).length []) := by have := ht.out; rwa [List.drop_eq_nil_of_le (by omega)] at this
             subst hcc
             rw [hl3]
             clear ht HD hl3
             go_enter Try.func19, Try.ntmps19
             go_wp2_with (go_at_call 36; (with_reducible refine (plain_zero _ _ _).mono ?_); rintro e w' ⟨rfl, hb⟩)
             go_ret
             exact ⟨by rw [ht3.out]; rfl, hb⟩
           · have HD2 := Lib.hid (HD.out (off + 3) (.inr rfl))
             clear HD
             generalize utf (l.drop 3).length (l.drop 3) = d at *
             go_enter Try.func19, Try.ntmps19
             go_wp2_with (go_at_call 36; (with_reducible refine HD2.out.mono ?_); rintro e w' ⟨rfl, hb⟩)
             go_ret
             exact ⟨by rw [ht.out]; rfl, hb⟩)
  · have ht := Lib.hid (text_no l (begins_short l (by omega)))
    clear hc
    go_enter Try.func19, Try.ntmps19
    go_wp2_with (go_at_call 36; (with_reducible refine HP.out.mono ?_); rintro e w' ⟨rfl, hb⟩)
    go_ret
    exact ⟨by rw [ht.out]; rfl, hb⟩

theorem text_zero (a : Option Addr) (cap : Nat) (w : World) : Calls Try.prog 19 #[.slice a 0 cap] w fun e w' => e = .returned (.string (mk (text []))) ∧ Below w.heap.size w w' := by
  rw [text_no [] rfl]
  go_enter Try.func19, Try.ntmps19
  go_wp2_with (go_at_call 36; (with_reducible refine (plain_zero _ _ _).mono ?_); rintro e w' ⟨rfl, hb⟩)
  go_ret
  exact ⟨rfl, hb⟩

theorem right_yes (s : ByteArray) (w : World) (hs : s.size ≤ 100000000) (h : utf (bs s).length (bs s) = bs s) : Calls Try.prog 20 #[.string s] w fun e w' => e = .returned (.bool true) ∧ Below w.heap.size w w' := by
  obtain ⟨cap, w1, hcv, hsz, hbel, hc, hf, hcap, hcmax⟩ := bytes_of s w
  have hP := plain_any w.heap.size 0 cap (bs s) w1 (by rw [← size_bs]; exact hs) (by rw [← size_bs]; exact hcap) (hcmax (by unfold maxLen; omega)) (by omega) (fun j hj => by
    rw [← size_bs] at hj
    rw [Nat.zero_add]; exact hc j hj)
  rw [h, mk_bs, ← size_bs] at hP
  have HP := Lib.hid hP
  clear hP hc hf h
  go_enter Try.func20, Try.ntmps20
  go_wp2_with (go_at_call 36; (with_reducible refine HP.out.mono ?_); rintro e w' ⟨rfl, hb⟩)
  go_ret
  exact ⟨by first | rfl | simp, below_then hbel hb⟩

theorem law_right_of (a : Option Addr) (len cap : Nat) (l : Bs) (attr : Bool) (w : World) (hlen : l.length ≤ 3000) (hl : len ≤ 3000)
    (HT : Hid (Calls Try.prog 19 #[.slice a len cap] w fun e w' => e = .returned (.string (mk (text l))) ∧ Below w.heap.size w w')) :
    Calls Try.prog 8 #[.slice a len cap, .bool attr] w fun e w' => e = .returned (.bool true) ∧ Below w.heap.size w w' := by
  have htl := text_len l
  have hdl := dec_len attr _ (text l) (Nat.le_refl _)
  have HD : Hid (∀ w, Calls Try.prog 15 #[.string (mk (text l)), .bool attr] w fun e w' => e = .returned (.string (mk (dec attr (text l)))) ∧ Below w.heap.size w w') := fun w => decode_any _ attr w (by rw [size_mk]; omega)
  have HR : Hid (∀ w, Calls Try.prog 20 #[.string (mk (dec attr (text l)))] w fun e w' => e = .returned (.bool true) ∧ Below w.heap.size w w') := fun w => right_yes _ w (by rw [size_mk]; omega) (right_dec attr l)
  have h3 : ¬ (3000 : Int) < (len : Int) := by omega
  clear htl hdl
  generalize text l = t at *
  generalize dec attr t = d at *
  generalize mk t = t at *
  generalize mk d = d at *
  go_enter Try.func8, Try.ntmps8
  go_wp2_with fail
  refine HT.out.mono ?_; rintro e w1 ⟨rfl, b1⟩
  go_wp2_with fail
  refine (HD.out _).mono ?_; rintro e w2 ⟨rfl, b2⟩
  go_wp2_with fail
  refine (known_any _).mono ?_; rintro e w3 ⟨rfl, b3⟩
  go_wp2_with fail
  refine (HR.out _).mono ?_; rintro e w4 ⟨rfl, b4⟩
  go_wp2_with fail
  go_ret
  exact ⟨rfl, below_then (below_then (below_then b1 b2) b3) b4⟩

theorem law_right (a : Option Addr) (len cap : Nat) (zs : List Int) (attr : Bool) (w : World)
    (h : (a = none ∧ len = 0 ∧ cap = 0 ∧ zs = []) ∨ ∃ x, a = some x ∧ len ≤ cap ∧ cap ≤ maxLen ∧ zs.length = cap ∧ (∀ i, i < zs.length → w.cell? (x.add i) = some (.int .u8 (zs.getD i 0))) ∧ ∀ n ∈ zs, (Lit.int .u8 n).wf = true) :
    Calls Try.prog 8 #[.slice a len cap, .bool attr] w fun e w' => e = .returned (.bool true) ∧ Below w.heap.size w w' := by
  by_cases hbig : (3000 : Int) < (len : Int)
  · clear h
    go_enter Try.func8, Try.ntmps8
    go_wp2
    go_ret
    exact ⟨rfl, Below.refl _ _⟩
  · rcases Nat.eq_zero_or_pos len with h0 | h0
    · subst h0
      exact law_right_of a 0 cap [] attr w (by simp) (by omega) (text_zero a cap w)
    · rcases h with ⟨_, h1, _⟩ | ⟨x, rfl, hlc, hcm, hz, hcell, hwz⟩
      · omega
      · obtain ⟨b, off, spot⟩ := x
        have hc0 := hcell 0 (by omega)
        have hspot : spot = none := by simpa [Addr.add] using World.cell?_spot hc0
        subst hspot
        have hb : b < w.heap.size := World.block_lt_of_cell? w _ hc0
        have hln : ((zs.take len).map (fun z => UInt8.ofNat z.toNat)).length = len := by rw [List.length_map, List.length_take]; omega
        have hR : Reads w b off ((zs.take len).map (fun z => UInt8.ofNat z.toNat)) := by
          intro j hj
          rw [hln] at hj
          have h1 := hcell j (by omega)
          rw [Addr.add_lit] at h1
          rw [h1]
          have hjz : j < zs.length := by omega
          have hw := hwz zs[j] (List.getElem_mem hjz)
          have hw2 : (0 : Int) ≤ zs[j] ∧ zs[j] ≤ 255 := by
            simp only [Lit.wf, Bool.and_eq_true, decide_eq_true_eq] at hw
            exact hw
          rw [List.getD_eq_getElem?_getD, List.getD_eq_getElem?_getD, List.getElem?_map, List.getElem?_take, if_pos hj, List.getElem?_eq_getElem hjz]
          show some (Value.int .u8 zs[j]) = some (Value.int .u8 ((UInt8.ofNat zs[j].toNat).toNat : Int))
          rw [UInt8.toNat_ofNat']
          congr 2
          omega
        have hT := text_any b off cap _ w (by rw [hln]; omega) (by rw [hln]; exact hlc) hcm hb hR
        rw [hln] at hT
        exact law_right_of _ len cap _ attr w (by rw [hln]; omega) (by omega) hT
end Tym
