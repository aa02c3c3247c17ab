/- The walk of lex.Next (printed by wip/gen_lexnext.py). -/
import Derived.Test.YtpgdkhdnnegmaaaGreatLexA
import Derived.Deep.CutRange
set_option linter.unusedSimpArgs false
set_option linter.unusedVariables false
open Go Go.RowKit Go.Proofs
namespace Tym
set_option maxRecDepth 20000
attribute [local irreducible] nextL stepL noteL rawT rawN dec readTag beginsTag beginsNote upMark endOf

/-- Where the walk stands: the result's block b0 (nothing yet), the last token's block b1. -/
def StL (B : Nat) (w0 W : World) (b0 b1 : Nat) : Prop := Below B w0 W ∧ W.heap[b0]? = some (.cells tokZero 29 (0, 0)) ∧ W.heap[b1]? = some (.cells (tokCells 6 ⟨#[]⟩ (.slice none 0 0) false ⟨#[]⟩) 29 (0, 0)) ∧ B ≤ b0 ∧ b0 < b1
theorem StL.bel {B : Nat} {w0 W : World} {b0 b1 : Nat} (h : StL B w0 W b0 b1) : Below B w0 W := h.1
theorem StL.blk0 {B : Nat} {w0 W : World} {b0 b1 : Nat} (h : StL B w0 W b0 b1) : W.heap[b0]? = some (.cells tokZero 29 (0, 0)) := h.2.1
theorem StL.blk1 {B : Nat} {w0 W : World} {b0 b1 : Nat} (h : StL B w0 W b0 b1) : W.heap[b1]? = some (.cells (tokCells 6 ⟨#[]⟩ (.slice none 0 0) false ⟨#[]⟩) 29 (0, 0)) := h.2.2.1
theorem StL.le {B : Nat} {w0 W : World} {b0 b1 : Nat} (h : StL B w0 W b0 b1) : B ≤ b0 := h.2.2.2.1
theorem StL.lt {B : Nat} {w0 W : World} {b0 b1 : Nat} (h : StL B w0 W b0 b1) : b0 < b1 := h.2.2.2.2
theorem StL.go {B : Nat} {w0 W W' : World} {b0 b1 : Nat} (h : StL B w0 W b0 b1) (hb : Below W.heap.size W W') : StL B w0 W' b0 b1 :=
  ⟨h.1.trans (hb.mono (by have := lt_of_block h.2.1; have := h.le; omega)), below_block hb h.2.1, below_block hb h.2.2.1, h.2.2.2.1, h.2.2.2.2⟩
theorem StL.start (w : World) : StL w.heap.size w ((w.alloc (.cells tokZero 29)).alloc (.cells (tokCells 6 ⟨#[]⟩ (.slice none 0 0) false ⟨#[]⟩) 29)) w.heap.size (w.heap.size + 1) :=
  ⟨((Below.refl _ w).alloc (Nat.le_refl _) _).alloc (by simp) _, (Below.heap_alloc _ _ _ (by simp)).trans (heap_alloc_new _ _), by have := heap_alloc_new (w.alloc (.cells tokZero 29)) (.cells (tokCells 6 ⟨#[]⟩ (.slice none 0 0) false ⟨#[]⟩) 29); rwa [World.size_alloc] at this, Nat.le_refl _, Nat.lt_succ_self _⟩
theorem StL.mx {w W : World} {b0 b1 : Nat} (h : StL w.heap.size w W b0 b1) (hm : Mx w) : Mx W := hm.below h.1

theorem atts_set5 {w : World} {B : Nat} {v : Value} {l : List Att} {b : Nat} (h : AttsAt w B v l) (hb : b < B) (c0 c1 c2 c3 c4 : Value) :
    AttsAt (((((w.setCell ⟨b, 0, none⟩ c0).setCell ⟨b, 1, none⟩ c1).setCell ⟨b, 2, none⟩ c2).setCell ⟨b, 3, none⟩ c3).setCell ⟨b, 4, none⟩ c4) B v l := by
  rcases h with h | ⟨g, cap, cur, rfl, hg, hgg, rest⟩
  · exact .inl h
  · exact .inr ⟨g, cap, cur, rfl, hg, set5_other hgg (by omega) _ _ _ _ _, rest⟩

/-- The token at a place, and where it ends. -/
def resOf (n : Nat) (q : Tok × Bs) : Tok × Int := (q.1, ((n - q.2.length : Nat) : Int))
def lexNext (s : ByteArray) (i : Int) (m : Int) (name : ByteArray) (cd : Bool) : Tok × Int :=
  if i < 0 ∨ (s.size : Int) ≤ i then (tokLast, (s.size : Int)) else resOf s.size (nextL m.toNat (endOf (bs name)) cd ((bs s).drop i.toNat))

theorem tokval_plain {w : World} {B : Nat} (kd : Nat) (t : Bs) : TokVal w B ⟨kd, [], [], false, t⟩ (.agg (tokCells kd ⟨#[]⟩ (.slice none 0 0) false (mk t))) := ⟨_, rfl, .inl ⟨rfl, rfl⟩⟩

theorem lexNext_out (s name : ByteArray) (i m : Int) (cd : Bool) (w : World) (hs : s.size ≤ 1000000) (h : i < 0 ∨ (¬ i < 0 ∧ (s.size : Int) ≤ i)) :
    Calls Tryz.prog 8 #[.string s, .int .i64 i, .int .u8 m, .string name, .bool cd] w (TokPost w (tokLast, (s.size : Int))) := by
  have HS := StL.start w
  rcases h with h | ⟨h, h2⟩
  all_goals
    go_enter Tryz.func8, Tryz.ntmps8
    go_wp2_with fail
    generalize (w.alloc (.cells tokZero 29)).alloc (.cells (tokCells 6 ⟨#[]⟩ (.slice none 0 0) false ⟨#[]⟩) 29) = W at *
    go_loopw [1] (fun v1 wr => v1 = .int .i64 i ∧ wr = W) (fun _ _ => 0)
    case atStart => exact ⟨rfl, rfl⟩
    case round =>
      obtain ⟨rfl, rfl⟩ := hrel
      have hlt0 := lt_of_block HS.blk0
      have hlt1 := lt_of_block HS.blk1
      obtain ⟨⟨z0, z1, z2, z3, z4⟩, f0, f1, f2, f3, f4⟩ := five HS.blk0
      obtain ⟨⟨y0, y1, y2, y3, y4⟩, g0, g1, g2, g3, g4⟩ := five HS.blk1
      go_wp2_with fail
      exact ret_cell_tmp rfl rfl rfl (set5_row HS.blk0) Tryz.underlying29 rfl (by kernel_rfl) ⟨⟨_, ret_note rfl, tokval_plain 6 []⟩, set5_below HS.bel (Nat.le_refl _) _ _ _ _ _⟩

theorem tagRead_none (s : ByteArray) (p : Nat) (w : World) (hs : s.size ≤ 1000000) (hp : p < s.size) (hb : beginsTag ((bs s).drop p) = true) (h : readTag ((bs s).drop p) = none) :
    Calls Tryz.prog 14 #[.string s, .int .i64 p] w fun e w' => (∃ (x : Option Addr) (n c : Nat), e = .returned (.tuple #[.agg #[.int .u8 0, .string ⟨#[]⟩, .slice x n c, .bool false, .string ⟨#[]⟩], .int .i64 s.size, .bool false])) ∧ Below w.heap.size w w' := by
  refine (read_in s p w hs hp).mono ?_
  unfold tagAt
  rw [if_pos hb, h]
  rintro e w' ⟨⟨v, rfl, x, rfl, hx⟩, hB⟩
  obtain ⟨px, nx, cx, rfl⟩ := hx.shape
  exact ⟨⟨px, nx, cx, rfl⟩, hB⟩
theorem tagRead_some (s : ByteArray) (p : Nat) (w : World) (hs : s.size ≤ 1000000) (hp : p < s.size) (hb : beginsTag ((bs s).drop p) = true) (o : TagOut) (h : readTag ((bs s).drop p) = some o) :
    Calls Tryz.prog 14 #[.string s, .int .i64 p] w fun e w' => (∃ (x : Option Addr) (n c : Nat), e = .returned (.tuple #[.agg #[.int .u8 o.kind, .string (mk o.name), .slice x n c, .bool o.closing, .string ⟨#[]⟩], .int .i64 ((s.size - o.rest.length : Nat) : Int), .bool true]) ∧ AttsAt w' w.heap.size (.slice x n c) o.atts) ∧ Below w.heap.size w w' := by
  refine (read_in s p w hs hp).mono ?_
  unfold tagAt
  rw [if_pos hb, h]
  rintro e w' ⟨⟨v, rfl, x, rfl, hx⟩, hB⟩
  obtain ⟨px, nx, cx, rfl⟩ := hx.shape
  exact ⟨⟨px, nx, cx, rfl, hx⟩, hB⟩

/-! The five ways of a place at which no text of a mode stands. -/
theorem st_none (cd : Bool) (r : Bs) (h1 : beginsTag r = true) (h2 : readTag r = none) : stepL cd r = some (tokLast, []) := by unfold stepL; rw [if_pos h1, h2]
theorem st_some (cd : Bool) (r : Bs) (o : TagOut) (h1 : beginsTag r = true) (h2 : readTag r = some o) : stepL cd r = some (tokOf o, o.rest) := by unfold stepL; rw [if_pos h1, h2]
theorem st_text (cd : Bool) (r : Bs) (h1 : beginsTag r = false) (h2 : beginsNote r = false) : stepL cd r = some (tokText (dec false (r.take (1 + upMark r.tail))), r.drop (1 + upMark r.tail)) := by unfold stepL; rw [if_neg (by rw [h1]; decide), if_neg (by rw [h2]; decide)]
theorem st_note (cd : Bool) (r : Bs) (h1 : beginsTag r = false) (h2 : beginsNote r = true) (h3 : (noteL cd r).1 ≠ 0) : stepL cd r = some (noteTok (noteL cd r), r.drop (noteL cd r).2.2) := by unfold stepL; rw [if_neg (by rw [h1]; decide), if_pos h2, if_neg h3]
theorem st_skip (cd : Bool) (r : Bs) (h1 : beginsTag r = false) (h2 : beginsNote r = true) (h3 : (noteL cd r).1 = 0) : stepL cd r = none := by unfold stepL; rw [if_neg (by rw [h1]; decide), if_pos h2, if_pos h3]
theorem nx_some {m : Nat} {E : Bs} {cd : Bool} {r r' : Bs} {q : Tok × Bs} (h0 : r ≠ []) (hr : (¬ (1 ≤ m ∧ m ≤ 4) ∧ r' = r) ∨ ((1 ≤ m ∧ m ≤ 4) ∧ rawT m E r = [] ∧ r' = r.drop (rawN m E r))) (h1 : r' ≠ []) (h : stepL cd r' = some q) : nextL m E cd r = q := by
  rw [nextL_eq m E cd r h0]
  rcases hr with ⟨hm, rfl⟩ | ⟨hm, ht, rfl⟩
  · rw [if_neg hm, h]
  · rw [if_pos hm, if_neg (by rw [ht]; exact fun h => h rfl), if_neg h1, h]
theorem nx_none {m : Nat} {E : Bs} {cd : Bool} {r r' : Bs} (h0 : r ≠ []) (hr : (¬ (1 ≤ m ∧ m ≤ 4) ∧ r' = r) ∨ ((1 ≤ m ∧ m ≤ 4) ∧ rawT m E r = [] ∧ r' = r.drop (rawN m E r))) (h1 : r' ≠ []) (h : stepL cd r' = none) : nextL m E cd r = nextL m E cd (r'.drop (noteL cd r').2.2) := by
  rw [nextL_eq m E cd r h0]
  rcases hr with ⟨hm, rfl⟩ | ⟨hm, ht, rfl⟩
  · rw [if_neg hm, h]
  · rw [if_pos hm, if_neg (by rw [ht]; exact fun h => h rfl), if_neg h1, h]

set_option maxHeartbeats 2000000 in
theorem lexNext_data (s name : ByteArray) (k0 : Nat) (m : Int) (cd : Bool) (w : World) (hm : Mx w) (hs : s.size ≤ 1000000) (hk0 : k0 ≤ s.size) (hmo : ¬ (1 : Int) ≤ m ∨ ((1 : Int) ≤ m ∧ ¬ m ≤ 4)) (M : Nat) (hM : ¬ (1 ≤ M ∧ M ≤ 4)) (E : Bs) (Q : Tok × Bs) (HQ0 : Hid (nextL M E cd ((bs s).drop k0) = Q)) :
    Calls Tryz.prog 8 #[.string s, .int .i64 k0, .int .u8 m, .string name, .bool cd] w (TokPost w (resOf s.size Q)) := by
  have HS0 := StL.start w
  go_enter Tryz.func8, Tryz.ntmps8
  go_wp2_with fail
  generalize (w.alloc (.cells tokZero 29)).alloc (.cells (tokCells 6 ⟨#[]⟩ (.slice none 0 0) false ⟨#[]⟩) 29) = W at *
  go_loopw [1] (fun v1 wr => ∃ k : Nat, v1 = .int .i64 k ∧ k ≤ s.size ∧ Hid (nextL M E cd ((bs s).drop k) = Q) ∧ StL w.heap.size w wr w.heap.size (w.heap.size + 1)) (fun v1 _ => s.size - (intOf v1).toNat)
  case atStart => exact ⟨k0, rfl, hk0, HQ0, HS0⟩
  case round =>
    obtain ⟨k, rfl, hk, HQ, HS⟩ := hrel
    clear HS0 HQ0 hk0
    by_cases hlt : k < s.size
    · have hltz : (k : Int) < (s.size : Int) := by omega
      have h0 : (bs s).drop k ≠ [] := List.ne_nil_of_length_pos (by rw [List.length_drop, ← size_bs]; omega)
      have hx : (¬ (1 ≤ M ∧ M ≤ 4) ∧ (bs s).drop k = (bs s).drop k) ∨ ((1 ≤ M ∧ M ≤ 4) ∧ rawT M E ((bs s).drop k) = [] ∧ (bs s).drop k = ((bs s).drop k).drop (rawN M E ((bs s).drop k))) := .inl ⟨hM, rfl⟩
      obtain ⟨p, hpk, hp⟩ : ∃ p, p = k ∧ p < s.size := ⟨k, rfl, hlt⟩
      subst hpk
      rcases hmo with hm1 | ⟨hm1, hm2⟩
      all_goals
        have hp0 : (bs s).drop p ≠ [] := List.ne_nil_of_length_pos (by rw [List.length_drop, ← size_bs]; omega)
        have HTB := Lib.hid (fun w => begins_in s p w hs hp)
        have HNB := Lib.hid (fun w => noteBegins_at s p w hs)
        cases hb1 : beginsTag ((bs s).drop p) with
        | true =>
          rw [hb1] at HTB
          cases hrt : readTag ((bs s).drop p) with
          | none =>
            have hq : Q = (tokLast, []) := by rw [← HQ.out]; exact nx_some h0 hx hp0 (st_none cd _ hb1 hrt)
            subst hq
            have HTR := Lib.hid (fun w => tagRead_none s p w hs hp hb1 hrt)
            clear hrt hb1 HQ
            go_wp2_with fail
            refine (HTB.out _).mono ?_; rintro e w2 ⟨rfl, hB2⟩
            replace HS := HS.go hB2
            clear hB2
            go_wp2_with fail
            refine (HTR.out _).mono ?_; rintro e w3 ⟨⟨px, nx, cx, rfl⟩, hB3⟩
            replace HS := (HS.go hB3).go ((Below.refl _ w3).alloc (Nat.le_refl _) (.cells #[.int .u8 0, .string ⟨#[]⟩, .slice px nx cx, .bool false, .string ⟨#[]⟩] 29))
            clear hB3
            go_upto_region 14 with (fail)
            generalize w3.alloc (.cells #[.int .u8 0, .string ⟨#[]⟩, .slice px nx cx, .bool false, .string ⟨#[]⟩] 29) = W3 at *
            have hlt0 := lt_of_block HS.blk0
            obtain ⟨⟨z0, z1, z2, z3, z4⟩, f0, f1, f2, f3, f4⟩ := five HS.blk0
            have hlt1 := lt_of_block HS.blk1
            obtain ⟨⟨y0, y1, y2, y3, y4⟩, g0, g1, g2, g3, g4⟩ := five HS.blk1
            go_wp2_with fail
            exact ret_cell_tmp rfl rfl rfl (set5_row HS.blk0) Tryz.underlying29 rfl (by kernel_rfl) ⟨⟨_, ret_note (by simp [resOf]), tokval_plain 6 []⟩, set5_below HS.bel (Nat.le_refl _) _ _ _ _ _⟩
          | some o =>
            have hq : Q = (tokOf o, o.rest) := by rw [← HQ.out]; exact nx_some h0 hx hp0 (st_some cd _ o hb1 hrt)
            subst hq
            have HTR := Lib.hid (fun w => tagRead_some s p w hs hp hb1 o hrt)
            clear hrt hb1 HQ
            obtain ⟨kd, nm, at_, cl, rest⟩ := o
            dsimp only at HTR
            generalize hN : s.size - rest.length = N at *
            have HN := Lib.hid hN
            clear hN
            go_wp2_with fail
            refine (HTB.out _).mono ?_; rintro e w2 ⟨rfl, hB2⟩
            replace HS := HS.go hB2
            clear hB2
            go_wp2_with fail
            refine (HTR.out _).mono ?_; rintro e w3 ⟨⟨px, nx, cx, rfl, hax⟩, hB3⟩
            have hlt2 := lt_of_block HS.blk0
            have hbox := heap_alloc_new w3 (.cells #[.int .u8 kd, .string (mk nm), .slice px nx cx, .bool cl, .string ⟨#[]⟩] 29)
            have hax3 := (hax.below ((Below.refl _ w3).alloc (Nat.le_refl _) (.cells #[.int .u8 kd, .string (mk nm), .slice px nx cx, .bool cl, .string ⟨#[]⟩] 29)))
            have hbb : w.heap.size < w3.heap.size := Nat.lt_of_lt_of_le hlt2 hB3.size
            replace HS := (HS.go hB3).go ((Below.refl _ w3).alloc (Nat.le_refl _) (.cells #[.int .u8 kd, .string (mk nm), .slice px nx cx, .bool cl, .string ⟨#[]⟩] 29))
            clear hB3 hax
            go_upto_region 15 with (fail)
            generalize w3.alloc (.cells #[.int .u8 kd, .string (mk nm), .slice px nx cx, .bool cl, .string ⟨#[]⟩] 29) = W3 at *
            have hlt1 := lt_of_block hbox
            obtain ⟨⟨y0, y1, y2, y3, y4⟩, g0, g1, g2, g3, g4⟩ := five hbox
            clear hbox
            have hlt0 := lt_of_block HS.blk0
            obtain ⟨⟨z0, z1, z2, z3, z4⟩, f0, f1, f2, f3, f4⟩ := five HS.blk0
            go_wp2_with fail
            exact ret_cell_tmp rfl rfl rfl (set5_row HS.blk0) Tryz.underlying29 rfl (by kernel_rfl) ⟨⟨_, ret_note (by show (N : Int) = ((s.size - rest.length : Nat) : Int); rw [HN.out]), ⟨_, rfl, (atts_set5 hax3 hlt2 _ _ _ _ _).mono (Nat.le_of_lt hlt2)⟩⟩, set5_below HS.bel (Nat.le_refl _) _ _ _ _ _⟩
        | false =>
          rw [hb1] at HTB
          cases hb2 : beginsNote ((bs s).drop p) with
          | false =>
            rw [hb2] at HNB
            have hq : Q = (tokText (dec false (((bs s).drop p).take (1 + upMark ((bs s).drop p).tail))), ((bs s).drop p).drop (1 + upMark ((bs s).drop p).tail)) := by rw [← HQ.out]; exact nx_some h0 hx hp0 (st_text cd _ hb1 hb2)
            have htl : ((bs s).drop p).tail = (bs s).drop (p + 1) := by rw [List.tail_drop]
            rw [htl] at hq
            have hul := upMark_le ((bs s).drop (p + 1))
            rw [List.length_drop, ← size_bs] at hul
            have HE := Lib.hid (fun w => lexEnd_in s p w hs hp)
            generalize upMark ((bs s).drop (p + 1)) = u at *
            have HD : Hid (∀ w, Calls Tryz.prog 17 #[.string (s.extract p (p + 1 + u)), .bool false] w fun e w' => e = .returned (.string (mk (dec false (((bs s).drop p).take (1 + u))))) ∧ Below w.heap.size w w') := fun w => by
              have := decode_any (s.extract p (p + 1 + u)) false w (by rw [ByteArray.size_extract]; omega)
              rwa [bs_extract, show p + 1 + u - p = 1 + u from by omega] at this
            obtain ⟨z, hz⟩ : ∃ z, z = p + 1 + u := ⟨_, rfl⟩
            rw [← hz] at HD HE
            have hzs : (z : Int) ≤ (s.size : Int) := by omega
            have hpz : (p : Int) ≤ (z : Int) := by omega
            have hplace : s.size - (((bs s).drop p).drop (1 + u)).length = z := by rw [List.length_drop, List.length_drop, ← size_bs]; omega
            have HPl := Lib.hid hplace
            generalize dec false (((bs s).drop p).take (1 + u)) = T at *
            generalize ((bs s).drop p).drop (1 + u) = R at *
            subst hq
            have HZ := Lib.hid hz
            clear hb1 hb2 HQ hplace htl hul hz
            go_wp2_with fail
            refine (HTB.out _).mono ?_; rintro e w2 ⟨rfl, hB2⟩
            replace HS := HS.go hB2
            clear hB2
            go_wp2_with fail
            refine (HNB.out _).mono ?_; rintro e w3 ⟨rfl, hB3⟩
            replace HS := HS.go hB3
            clear hB3
            go_wp2_with fail
            refine (HE.out _).mono ?_; rintro e w4 ⟨rfl, hB4⟩
            replace HS := HS.go hB4
            clear hB4
            go_wp2_with fail
            refine (HD.out _).mono ?_; rintro e w5 ⟨rfl, hB5⟩
            replace HS := HS.go hB5
            clear hB5
            have hlt0 := lt_of_block HS.blk0
            obtain ⟨⟨z0, z1, z2, z3, z4⟩, f0, f1, f2, f3, f4⟩ := five HS.blk0
            go_wp2_with fail
            exact ret_cell_tmp rfl rfl rfl (set5_row HS.blk0) Tryz.underlying29 rfl (by kernel_rfl) ⟨⟨_, ret_note (by show (z : Int) = ((s.size - R.length : Nat) : Int); rw [HPl.out]), tokval_plain 1 T⟩, set5_below HS.bel (Nat.le_refl _) _ _ _ _ _⟩
          | true =>
            rw [hb2] at HNB
            have hnl := noteL_le cd _ hb2
            rw [List.length_drop, ← size_bs] at hnl
            have HR := Lib.hid (fun w hm => noteRead_in s p cd w hm hs hb2)
            by_cases hk0 : (noteL cd ((bs s).drop p)).1 = 0
            · have hq : Hid (nextL M E cd ((bs s).drop (p + (noteL cd ((bs s).drop p)).2.2)) = Q) := by show _ = _; rw [← HQ.out, ← List.drop_drop]; exact (nx_none h0 hx hp0 (st_skip cd _ hb1 hb2 hk0)).symm
              generalize noteL cd ((bs s).drop p) = q at *
              obtain ⟨kd, t, n⟩ := q
              dsimp only at hk0 hnl hq
              subst hk0
              clear hb1 hb2 HQ
              go_wp2_with fail
              refine (HTB.out _).mono ?_; rintro e w2 ⟨rfl, hB2⟩
              replace HS := HS.go hB2
              clear hB2
              go_wp2_with fail
              refine (HNB.out _).mono ?_; rintro e w3 ⟨rfl, hB3⟩
              replace HS := HS.go hB3
              clear hB3
              go_wp2_with fail
              refine (HR.out _ (HS.mx hm)).mono ?_; rintro e w4 ⟨rfl, hB4⟩
              replace HS := HS.go (hB4.alloc hB4.size (.cells #[.int .u8 0, .string ⟨#[]⟩, .slice none 0 0, .bool false, .string (mk t)] 29))
              clear hB4
              go_wp2_with fail
              go_roundw
              case rel => exact ⟨p + n, by go_num, by omega, hq, HS⟩
              case measure => simp [intOf]; omega
            · have hq : Q = (noteTok (noteL cd ((bs s).drop p)), ((bs s).drop p).drop (noteL cd ((bs s).drop p)).2.2) := by rw [← HQ.out]; exact nx_some h0 hx hp0 (st_note cd _ hb1 hb2 hk0)
              have hplace : s.size - (((bs s).drop p).drop (noteL cd ((bs s).drop p)).2.2).length = p + (noteL cd ((bs s).drop p)).2.2 := by rw [List.length_drop, List.length_drop, ← size_bs]; omega
              have HPl := Lib.hid hplace
              generalize ((bs s).drop p).drop (noteL cd ((bs s).drop p)).2.2 = R at *
              generalize noteL cd ((bs s).drop p) = q at *
              obtain ⟨kd, t, n⟩ := q
              dsimp only at hk0 hnl hq HPl
              have hkz : (((kd : Nat) : Int) != 0) = true := by rw [bne_iff_ne]; omega
              subst hq
              clear hb1 hb2 HQ hplace hk0
              go_wp2_with fail
              refine (HTB.out _).mono ?_; rintro e w2 ⟨rfl, hB2⟩
              replace HS := HS.go hB2
              clear hB2
              go_wp2_with fail
              refine (HNB.out _).mono ?_; rintro e w3 ⟨rfl, hB3⟩
              replace HS := HS.go hB3
              clear hB3
              go_wp2_with fail
              refine (HR.out _ (HS.mx hm)).mono ?_; rintro e w4 ⟨rfl, hB4⟩
              have hbox := heap_alloc_new w4 (.cells #[.int .u8 kd, .string ⟨#[]⟩, .slice none 0 0, .bool false, .string (mk t)] 29)
              replace HS := HS.go (hB4.alloc hB4.size (.cells #[.int .u8 kd, .string ⟨#[]⟩, .slice none 0 0, .bool false, .string (mk t)] 29))
              clear hB4
              go_upto_region 20 with (fail)
              generalize w4.alloc (.cells #[.int .u8 kd, .string ⟨#[]⟩, .slice none 0 0, .bool false, .string (mk t)] 29) = W4 at *
              have hlt1 := lt_of_block hbox
              obtain ⟨⟨y0, y1, y2, y3, y4⟩, g0, g1, g2, g3, g4⟩ := five hbox
              clear hbox
              have hlt0 := lt_of_block HS.blk0
              obtain ⟨⟨z0, z1, z2, z3, z4⟩, f0, f1, f2, f3, f4⟩ := five HS.blk0
              go_wp2_with fail
              exact ret_cell_tmp rfl rfl rfl (set5_row HS.blk0) Tryz.underlying29 rfl (by kernel_rfl) ⟨⟨_, ret_note (by show _ = ((s.size - R.length : Nat) : Int); rw [HPl.out]; omega), tokval_plain kd t⟩, set5_below HS.bel (Nat.le_refl _) _ _ _ _ _⟩
    · obtain rfl : k = s.size := by omega
      have hltz : ¬ (s.size : Int) < (s.size : Int) := by omega
      have hq : Q = (tokLast, []) := by rw [← HQ.out, List.drop_eq_nil_of_le (by rw [← size_bs]; omega)]; exact nextL_nil _ _ _
      subst hq
      clear HQ
      have hlt0 := lt_of_block HS.blk0
      obtain ⟨⟨z0, z1, z2, z3, z4⟩, f0, f1, f2, f3, f4⟩ := five HS.blk0
      have hlt1 := lt_of_block HS.blk1
      obtain ⟨⟨y0, y1, y2, y3, y4⟩, g0, g1, g2, g3, g4⟩ := five HS.blk1
      go_wp2_with fail
      exact ret_cell_tmp rfl rfl rfl (set5_row HS.blk0) Tryz.underlying29 rfl (by kernel_rfl) ⟨⟨_, ret_note (by simp [resOf]), tokval_plain 6 []⟩, set5_below HS.bel (Nat.le_refl _) _ _ _ _ _⟩
end Tym
