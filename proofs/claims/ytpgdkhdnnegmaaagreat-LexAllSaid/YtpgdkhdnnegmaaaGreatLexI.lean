/- Both Nexts at any place; the closure that hands out the next token; tokens. Tokens as they lie in memory; what a walk over the iterator keeps. The iterator over the tokens: at every loop that keeps what it asks. lex.All: a range over the iterator, whose rounds append. -/
import Derived.Test.YtpgdkhdnnegmaaaGreatLexE
import Derived.Laws.EntriesVeiled
import Derived.RangeFuncNested
import Derived.RangeFuncBound
import Derived.RangeFuncCalls
import Derived.RangeFuncLeaves
import Derived.RangeFuncBox
import Derived.Shelf.Abstract
import Derived.Shelf.RegionOpen
import Derived.WalkKit
import Derived.OwnWalkIn
import Derived.TacticsInMore
import Derived.LoopNIn
import Derived.LoopIn
import Derived.Maps.AppendAt

namespace Tym
set_option linter.unusedSimpArgs false
set_option linter.unusedVariables false
open Go Go.RowKit Go.Proofs
set_option maxRecDepth 20000

theorem lexNext_any (s name : ByteArray) (i m : Int) (cd : Bool) (w : World) (hm : Mx w) (hs : s.size ≤ 1000000) (h3 : 1 ≤ m ∧ m ≤ 4 → s.size ≤ 3000 ∧ name.size ≤ 3000) :
    Calls Tryz.prog 8 #[.string s, .int .i64 i, .int .u8 m, .string name, .bool cd] w (TokPost w (lexNext s i m name cd)) := by
  unfold lexNext
  by_cases h : i < 0 ∨ (s.size : Int) ≤ i
  · rw [if_pos h]; exact lexNext_out s name i m cd w hs (by omega)
  · rw [if_neg h]
    obtain ⟨k, rfl⟩ : ∃ k : Nat, i = k := ⟨i.toNat, by omega⟩
    rw [Int.toNat_natCast]
    by_cases hmo : 1 ≤ m ∧ m ≤ 4
    · obtain ⟨M, rfl⟩ : ∃ M : Nat, m = M := ⟨m.toNat, by omega⟩
      rw [Int.toNat_natCast]
      exact lexNext_mode s name k M cd w hm (h3 hmo).1 (h3 hmo).2 (by omega) (by omega) _ rfl _ rfl
    · exact lexNext_data s name k m cd w hm hs (by omega) (by omega) m.toNat (by omega) _ _ rfl
theorem refNext_any (s name : ByteArray) (i m : Int) (cd : Bool) (w : World) (hs : s.size ≤ 900000) (h3 : 1 ≤ m ∧ m ≤ 4 → s.size ≤ 3000 ∧ name.size ≤ 3000) :
    Calls Tryz.prog 11 #[.string s, .int .i64 i, .int .u8 m, .string name, .bool cd] w (TokPost w (lexNext s i m name cd)) := by
  unfold lexNext
  by_cases h : i < 0 ∨ (s.size : Int) ≤ i
  · rw [if_pos h]; exact refNext_out s name i m cd w (by omega) (by omega)
  · rw [if_neg h]
    obtain ⟨k, rfl⟩ : ∃ k : Nat, i = k := ⟨i.toNat, by omega⟩
    rw [Int.toNat_natCast]
    by_cases hmo : 1 ≤ m ∧ m ≤ 4
    · obtain ⟨M, rfl⟩ : ∃ M : Nat, m = M := ⟨m.toNat, by omega⟩
      rw [Int.toNat_natCast]
      exact refNext_mode s name M cd (h3 hmo).1 (h3 hmo).2 (by omega) _ rfl _ s.size k (by omega) (by omega) rfl w
    · exact refNext_data s name m cd hs (by omega) m.toNat (by omega) _ _ s.size k (by omega) (by omega) rfl w
theorem lexNext_plain (s : ByteArray) (k : Nat) (hk : k ≤ s.size) : lexNext s k 0 ⟨#[]⟩ false = resOf s.size (nextD ((bs s).drop k)) := by
  unfold lexNext nextD
  by_cases h : (k : Int) < 0 ∨ (s.size : Int) ≤ (k : Int)
  · rw [if_pos h, List.drop_eq_nil_of_le (by rw [← size_bs]; omega), nextL_nil]; simp [resOf]
  · rw [if_neg h, Int.toNat_natCast]
    rw [show (0 : Int).toNat = 0 from rfl, nextL_zero _ false _ _ (Nat.le_refl _)]
theorem lexNextD (s : ByteArray) (k : Nat) (w : World) (hm : Mx w) (hs : s.size ≤ 1000000) (hk : k ≤ s.size) :
    Calls Tryz.prog 8 #[.string s, .int .i64 k, .int .u8 0, .string ⟨#[]⟩, .bool false] w (TokPost w (resOf s.size (nextD ((bs s).drop k)))) := by
  rw [← lexNext_plain s k hk]; exact lexNext_any s ⟨#[]⟩ k 0 false w hm hs (by omega)
theorem refNextD (s : ByteArray) (k : Nat) (w : World) (hs : s.size ≤ 900000) (hk : k ≤ s.size) :
    Calls Tryz.prog 11 #[.string s, .int .i64 k, .int .u8 0, .string ⟨#[]⟩, .bool false] w (TokPost w (resOf s.size (nextD ((bs s).drop k)))) := by
  rw [← lexNext_plain s k hk]; exact refNext_any s ⟨#[]⟩ k 0 false w hs (by omega)

/-- A struct that alone is handed back. -/
theorem ret_cell_one {P : Program} {fn : Func} {R : Ending → World → Prop} {a : Act} {w : World} {p : Tmp} {ty : TypeId} {g : Nat} {t : TypeId} {cs : Array Value} {d : TypeDesc} (h : fn.results = #[.cell p ty]) (hd : a.defers = [])
    (hp : a.tmps.getD p undef = .pointer (some ⟨g, 0, none⟩)) (hg : w.heap[g]? = some (.cells cs t (0, 0))) (hu : P.underlying ty = some d)
    (hdd : (match d with | .struct _ | .array _ _ => true | _ => false) = true) (hi : (P.info? ty).map (·.size) = some cs.size)
    (hR : R (.returned (.agg cs)) w) : bodyPost P fn R .ret a w := by
  refine ⟨hd, _, ?_, hR⟩
  have := run_loadVar_row (P := P) w g t ty cs (0, 0) d hg hu hdd hi
  simp only [results, h]
  have hp' : a.tmps[p]?.getD undef = .pointer (some ⟨g, 0, none⟩) := by simpa using hp
  simp [Sem.run_bind, Result.andThen, asAddr, this, hp']

theorem one_cell {w : World} {b : Nat} {x : Value} {t : TypeId} (h : w.heap[b]? = some (.cells #[x] t (0, 0))) : w.cell? ⟨b, 0, none⟩ = some x := by simp [World.cell?, h]
theorem one_free {w : World} {b : Nat} {x : Value} {t : TypeId} (h : w.heap[b]? = some (.cells #[x] t (0, 0))) : w.frozen? ⟨b, 0, none⟩ = false := by simp [World.frozen?, h]
theorem one_set {w : World} {b : Nat} {x : Value} {t : TypeId} (h : w.heap[b]? = some (.cells #[x] t (0, 0))) (u : Value) : (w.setCell ⟨b, 0, none⟩ u).heap[b]? = some (.cells #[u] t (0, 0)) := row_set h 0 u

set_option maxHeartbeats 1000000 in
theorem nextFn_any (s : ByteArray) (k B1 B2 : Nat) (w : World) (hm : Mx w) (hs : s.size ≤ 1000000) (hk : k ≤ s.size) (h1 : w.heap[B1]? = some (.cells #[.string s] 9 (0, 0))) (h2 : w.heap[B2]? = some (.cells #[.int .i64 k] 3 (0, 0))) (hne : B1 ≠ B2) :
    Calls Tryz.prog 20 #[.pointer (some ⟨B1, 0, none⟩), .pointer (some ⟨B2, 0, none⟩)] w fun e w' =>
      (∃ v, e = .returned v ∧ TokVal w' w.heap.size (nextD ((bs s).drop k)).1 v) ∧ w.grownBy w' (some B2) ∧ w'.heap[B2]? = some (.cells #[.int .i64 ((s.size - (nextD ((bs s).drop k)).2.length : Nat) : Int)] 3 (0, 0)) := by
  have HN := Lib.hid (fun w hm => lexNextD s k w hm hs hk)
  have hl2 := lt_of_block h2
  have hl1 := lt_of_block h1
  have hA := heap_alloc_new w (.cells tokZero 29)
  have hbA := (Below.refl _ w).alloc (Nat.le_refl _) (.cells tokZero 29)
  have hAz : (w.alloc (.cells tokZero 29)).heap.size = w.heap.size + 1 := World.size_alloc ..
  generalize hq : resOf s.size (nextD ((bs s).drop k)) = q at *
  have e1 : (nextD ((bs s).drop k)).1 = q.1 := by rw [← hq]; rfl
  have e2 : ((s.size - (nextD ((bs s).drop k)).2.length : Nat) : Int) = q.2 := by rw [← hq]; rfl
  rw [e1, e2]
  clear hq e1 e2
  obtain ⟨⟨kd, nm, at_, cl, tx⟩, z⟩ := q
  have hc1 := one_cell (below_block hbA h1)
  have hc2 := one_cell (below_block hbA h2)
  go_enter Tryz.func20, Tryz.ntmps20
  go_upto_region 1 with (fail)
  generalize w.alloc (.cells tokZero 29) = W at *
  go_wp2_with fail
  refine (HN.out _ (hm.below hbA)).mono ?_; rintro e w1 ⟨⟨v, rfl, ⟨x, rfl, hax⟩⟩, hB1⟩
  obtain ⟨px, nx, cx, rfl⟩ := hax.shape
  dsimp only at hax ⊢
  have hB : Below w.heap.size w w1 := hbA.trans (hB1.mono (by omega))
  have hA1 := below_block hB1 hA
  have hw1 : w.heap.size < w1.heap.size := by have := hB1.size; omega
  have hbox := heap_alloc_new w1 (.cells #[.int .u8 kd, .string (mk nm), .slice px nx cx, .bool cl, .string (mk tx)] 29)
  have hb2 := (Below.refl _ w1).alloc (Nat.le_refl _) (.cells #[.int .u8 kd, .string (mk nm), .slice px nx cx, .bool cl, .string (mk tx)] 29)
  have hax2 := hax.below hb2
  clear hB1 hc1 hc2
  go_upto_region 2 with (fail)
  generalize w1.alloc (.cells #[.int .u8 kd, .string (mk nm), .slice px nx cx, .bool cl, .string (mk tx)] 29) = W1 at *
  have hBW := hB.trans (hb2.mono (Nat.le_of_lt hw1))
  have hB2b := below_block hBW h2
  have hA2 := below_block hb2 hA1
  have hc2 := one_cell hB2b
  have hf2 := one_free hB2b
  have hlB := lt_of_block hB2b
  go_upto_region 3 with (fail)
  have k2 := one_set hB2b (.int .i64 z)
  have k0 := block_other hA2 (a := ⟨B2, 0, none⟩) (show w.heap.size ≠ B2 from by omega) (.int .i64 z)
  have kx := block_other hbox (a := ⟨B2, 0, none⟩) (show w1.heap.size ≠ B2 from by omega) (.int .i64 z)
  have hg : w.grownBy (W1.setCell ⟨B2, 0, none⟩ (.int .i64 z)) (some B2) := grown_trans (grown_below hBW _) (grown_set W1 ⟨B2, 0, none⟩ _)
  have hax3 : AttsAt (W1.setCell ⟨B2, 0, none⟩ (.int .i64 z)) W.heap.size (.slice px nx cx) at_ := hax2.grown (grown_set W1 ⟨B2, 0, none⟩ _) (fun g hg e => by
    cases e
    rcases hax2 with ⟨h, _⟩ | ⟨g', _, _, h, hle, _⟩
    · rw [h] at hg; cases hg
    · rw [h] at hg; cases hg; omega)
  clear hax hax2 hB2b hA2 hc2 hf2 hbox hA1 hA hB hb2 hBW hlB h1 h2 hbA
  generalize W1.setCell ⟨B2, 0, none⟩ (.int .i64 z) = W2 at *
  have hlt0 := lt_of_block k0
  have hlt1 := lt_of_block kx
  obtain ⟨⟨z0, z1, z2, z3, z4⟩, f0, f1, f2, f3, f4⟩ := five k0
  obtain ⟨⟨y0, y1, y2, y3, y4⟩, g0, g1, g2, g3, g4⟩ := five kx
  go_wp2_with fail
  exact ret_cell_one rfl rfl rfl (set5_row k0) Tryz.underlying29 rfl (by kernel_rfl)
    ⟨⟨_, rfl, ⟨_, rfl, (atts_set5 hax3 (by omega) _ _ _ _ _).mono (by omega)⟩⟩,
      grown_setNew (grown_setNew (grown_setNew (grown_setNew (grown_setNew hg (a := ⟨w.heap.size, 0, none⟩) (Nat.le_refl _) _) (a := ⟨w.heap.size, 1, none⟩) (Nat.le_refl _) _) (a := ⟨w.heap.size, 2, none⟩) (Nat.le_refl _) _) (a := ⟨w.heap.size, 3, none⟩) (Nat.le_refl _) _) (a := ⟨w.heap.size, 4, none⟩) (Nat.le_refl _) _,
      set5_other k2 (by omega) _ _ _ _ _⟩

theorem tokens_any (s : ByteArray) (w : World) : Calls Tryz.prog 10 #[.string s] w fun e w' =>
    e = .returned (.func (.func 21) #[] #[.pointer (some ⟨w.heap.size + 2, 0, none⟩)]) ∧
    w' = ((w.alloc (.cells #[.string s] 9)).alloc (.cells #[.int .i64 0] 3)).alloc (.cells #[.func (.func 20) #[] #[.pointer (some ⟨w.heap.size, 0, none⟩), .pointer (some ⟨w.heap.size + 1, 0, none⟩)]] 45) := by
  go_enter Tryz.func10, Tryz.ntmps10
  go_wp2_with fail
  go_ret
  exact ⟨rfl, rfl⟩
end Tym

namespace Tym
set_option linter.unusedSimpArgs false
set_option linter.unusedVariables false
open Go Go.RowKit Go.Proofs
set_option maxRecDepth 20000

/-- All lists of attributes lie as they lay. -/
def KeepA (W W' : World) : Prop := ∀ (b : Nat) (cur : Array Value), W.heap[b]? = some (Obj.cells cur 59 (0, 0)) → W'.heap[b]? = some (Obj.cells cur 59 (0, 0))
theorem KeepA.refl (W : World) : KeepA W W := fun _ _ h => h
theorem KeepA.trans {A B C : World} (h : KeepA A B) (k : KeepA B C) : KeepA A C := fun b cur hb => k b cur (h b cur hb)
theorem KeepA.grown {W W' : World} {r : Option Nat} (hg : W.grownBy W' r) (hr : ∀ g, r = some g → ∀ cur, W.heap[g]? ≠ some (.cells cur 59 (0, 0))) : KeepA W W' :=
  fun b cur hb => grown_block hg hb (fun e => hr b e.symm cur hb)
theorem KeepA.below {W W' : World} (h : Below W.heap.size W W') : KeepA W W' := KeepA.grown (grown_below h none) (fun g e => by cases e)
theorem AttsAt.keep {W W' : World} {B : Nat} {v : Value} {l : List Att} (h : AttsAt W B v l) (k : KeepA W W') : AttsAt W' B v l := by
  rcases h with h | ⟨g, cap, cur, rfl, hb, hg, rest⟩
  · exact .inl h
  · exact .inr ⟨g, cap, cur, rfl, hb, k _ _ hg, rest⟩
theorem TokVal.keep {W W' : World} {B : Nat} {t : Tok} {v : Value} (h : TokVal W B t v) (k : KeepA W W') : TokVal W' B t v := by
  obtain ⟨x, rfl, hx⟩ := h; exact ⟨x, rfl, hx.keep k⟩

/-- Tokens and their cells. -/
def ToksVal (W : World) (B : Nat) : List Tok → List (List Value) → Prop
  | [], [] => True
  | t :: l, c :: cs => c.length = 5 ∧ TokVal W B t (.agg c.toArray) ∧ ToksVal W B l cs
  | _, _ => False
theorem ToksVal.len {W : World} {B : Nat} : ∀ {l : List Tok} {cs : List (List Value)}, ToksVal W B l cs → cs.length = l.length
  | [], [], _ => rfl
  | _ :: _, _ :: _, h => by rw [List.length_cons, List.length_cons, h.2.2.len]
  | [], _ :: _, h => h.elim
  | _ :: _, [], h => h.elim
theorem ToksVal.keep {W W' : World} {B : Nat} (k : KeepA W W') : ∀ {l : List Tok} {cs : List (List Value)}, ToksVal W B l cs → ToksVal W' B l cs
  | [], [], _ => trivial
  | _ :: _, _ :: _, h => ⟨h.1, h.2.1.keep k, h.2.2.keep k⟩
  | [], _ :: _, h => h.elim
  | _ :: _, [], h => h.elim
theorem ToksVal.snoc {W : World} {B : Nat} {t : Tok} {c : List Value} (hc : c.length = 5) (ht : TokVal W B t (.agg c.toArray)) : ∀ {l : List Tok} {cs : List (List Value)}, ToksVal W B l cs → ToksVal W B (l ++ [t]) (cs ++ [c])
  | [], [], _ => ⟨hc, ht, trivial⟩
  | _ :: _, _ :: _, h => ⟨h.1, h.2.1, ToksVal.snoc hc ht h.2.2⟩
  | [], _ :: _, h => h.elim
  | _ :: _, [], h => h.elim
def flatV (cs : List (List Value)) : List Value := cs.flatMap id
theorem flatV_snoc (cs : List (List Value)) (c : List Value) : flatV (cs ++ [c]) = flatV cs ++ c := by simp [flatV]
theorem tok_cells {W : World} {B : Nat} {t : Tok} {v : Value} (h : TokVal W B t v) : ∃ c : List Value, v = .agg c.toArray ∧ c.length = 5 ∧ (∀ u ∈ c, u.oneCell' = true) := by
  obtain ⟨p, n, c, rfl, _⟩ := (show ∃ p n c, v = .agg (tokCells t.kind (mk t.name) (.slice p n c) t.closing (mk t.text)) ∧ True from by
    obtain ⟨x, rfl, hx⟩ := h
    obtain ⟨p, n, c, rfl⟩ := hx.shape
    exact ⟨p, n, c, rfl, trivial⟩)
  exact ⟨[.int .u8 t.kind, .string (mk t.name), .slice p n c, .bool t.closing, .string (mk t.text)], rfl, rfl, by simp [Value.oneCell']⟩

/-- What holds between two rounds: what was, is; the list that is made, in its variable; the iterator's variables; the block of the rounds' deferred calls; the loop's record. -/
def Inv (w : World) (s : ByteArray) (lp : Loop) (toks : List Tok) (v : Value) (k : Nat) (W : World) : Prop :=
  Below w.heap.size w W ∧ Boxed W w.heap.size 24 v ∧ (∃ vals, W.ownsRow w.heap.size 29 5 v toks.length (flatV vals) ∧ ToksVal W w.heap.size toks vals) ∧
  (W.heap[w.heap.size + 1]? = some (.cells #[.string s] 9 (0, 0)) ∧ W.heap[w.heap.size + 2]? = some (.cells #[.int .i64 k] 3 (0, 0)) ∧
   W.heap[w.heap.size + 3]? = some (.cells #[.func (.func 20) #[] #[.pointer (some ⟨w.heap.size + 1, 0, none⟩), .pointer (some ⟨w.heap.size + 2, 0, none⟩)]] 45 (0, 0))) ∧
  W.heap[w.heap.size + 4]? = some (.deferred (some [])) ∧ W.heap[w.heap.size + 5]? = some (.loop lp)

theorem own_block {W : World} {B : Nat} {v : Value} {n : Nat} {xs : List Value} (h : W.ownsRow B 29 5 v n xs) {g : Nat} (hg : v.ownBlock = some g) : ∃ cur, W.heap[g]? = some (.cells cur 29 (0, 0)) := by
  rcases h.2 with ⟨rfl, _⟩ | ⟨g', cap, cur, rfl, _, hgg, _⟩
  · cases hg
  · cases hg; exact ⟨cur, hgg⟩
theorem Inv.own {w : World} {s : ByteArray} {lp : Loop} {toks : List Tok} {v : Value} {k : Nat} {W : World} (h : Inv w s lp toks v k W) {g : Nat} (hg : v.ownBlock = some g) : ∃ cur, W.heap[g]? = some (.cells cur 29 (0, 0)) := by
  obtain ⟨_, _, ⟨vals, ho, _⟩, _⟩ := h; exact own_block ho hg
theorem Inv.size {w : World} {s : ByteArray} {lp : Loop} {toks : List Tok} {v : Value} {k : Nat} {W : World} (h : Inv w s lp toks v k W) : w.heap.size + 5 < W.heap.size := lt_of_block h.2.2.2.2.2

/-- A step that turns a block that none of these speaks of. -/
theorem Inv.grown {w : World} {s : ByteArray} {lp : Loop} {toks : List Tok} {v : Value} {k : Nat} {W W' : World} {r : Option Nat} (h : Inv w s lp toks v k W) (hg : W.grownBy W' r)
    (hr : ∀ b, r = some b → W.heap.size ≤ b ∨ ((∃ cur, W.heap[b]? = some (.cells cur 29 (0, 0))) ∧ v.ownBlock ≠ some b)) (hB : Below w.heap.size W W') : Inv w s lp toks v k W' := by
  have hs := h.size
  obtain ⟨h1, h2, ⟨vals, ho, ht⟩, ⟨h3, h4, h5⟩, h6, h7⟩ := h
  have key : ∀ (b : Nat) (o : Obj), W.heap[b]? = some o → (∀ cur : Array Value, o ≠ Obj.cells cur 29 (0, 0)) → W'.heap[b]? = some o := fun b o hb hne => grown_block hg hb (fun e => by
    rcases hr b e.symm with hb' | ⟨⟨cur, hc⟩, _⟩
    · have := lt_of_block hb; omega
    · rw [hb] at hc; exact hne cur (Option.some.inj hc))
  refine ⟨h1.trans hB, key _ _ h2 (fun cur e => by cases e), ⟨vals, ho.kept hg ?_, ht.keep fun b cur hb => key _ _ hb (fun _ e => by cases e)⟩, ⟨key _ _ h3 (fun cur e => by cases e), key _ _ h4 (fun cur e => by cases e), key _ _ h5 (fun cur e => by cases e)⟩, key _ _ h6 (fun cur e => by cases e), key _ _ h7 (fun cur e => by cases e)⟩
  · cases hv : v.ownBlock with
    | none =>
      rcases ho.2 with ⟨rfl, _⟩ | ⟨g', _, _, rfl, _⟩
      · exact .inl rfl
      · cases hv
    | some g =>
      refine .inr fun e => ?_
      rcases hr g e.symm with hb' | ⟨_, hne⟩
      · obtain ⟨cur, hc⟩ := own_block ho hv
        have := lt_of_block hc; omega
      · exact hne hv

theorem Inv.at {w : World} {s : ByteArray} {lp : Loop} {toks : List Tok} {v : Value} {k k' : Nat} {W W' : World} (h : Inv w s lp toks v k W) (hg : W.grownBy W' (some (w.heap.size + 2)))
    (hk : W'.heap[w.heap.size + 2]? = some (.cells #[.int .i64 k'] 3 (0, 0))) : Inv w s lp toks v k' W' := by
  have hs := h.size
  obtain ⟨h1, h2, ⟨vals, ho, ht⟩, ⟨h3, h4, h5⟩, h6, h7⟩ := h
  refine ⟨h1.trans (below_grown hg (by omega) (by omega)), grown_block hg h2 (by simp), ⟨vals, ho.kept hg ?_, ht.keep (KeepA.grown hg fun g e cur hc => ?_)⟩, ⟨grown_block hg h3 (by simp), hk, grown_block hg h5 (by simp)⟩, grown_block hg h6 (by simp), grown_block hg h7 (by simp)⟩
  · cases hv : v.ownBlock with
    | none =>
      rcases ho.2 with ⟨rfl, _⟩ | ⟨g', _, _, rfl, _⟩
      · exact .inl rfl
      · cases hv
    | some g =>
      refine .inr fun e => ?_
      cases e
      obtain ⟨cur, hc⟩ := own_block ho hv
      rw [h4] at hc; cases hc
  · cases e; rw [h4] at hc; cases hc
theorem Inv.mx {w : World} {s : ByteArray} {lp : Loop} {toks : List Tok} {v : Value} {k : Nat} {W : World} (h : Inv w s lp toks v k W) (hm : Mx w) : Mx W := hm.below h.1

theorem step_suffix (cd : Bool) (r : Bs) (q : Tok × Bs) (h : stepL cd r = some q) : q.2 <:+ r := by
  unfold stepL at h
  by_cases h1 : beginsTag r = true
  · rw [if_pos h1] at h
    cases hr : readTag r with
    | none => rw [hr] at h; cases h; exact List.nil_suffix
    | some o =>
      rw [hr] at h; cases h
      obtain ⟨a, e, _⟩ := readTag_form r o hr
      exact ⟨60 :: a ++ [62], by rw [e]; simp⟩
  · rw [if_neg h1] at h
    by_cases h2 : beginsNote r = true
    · rw [if_pos h2] at h
      by_cases h3 : (noteL cd r).1 = 0
      · rw [if_pos h3] at h; cases h
      · rw [if_neg h3] at h; cases h; exact List.drop_suffix _ _
    · rw [if_neg h2] at h; cases h; exact List.drop_suffix _ _
theorem nextD_suffix : ∀ n (r : Bs), r.length ≤ n → (nextD r).2 <:+ r := by
  intro n
  induction n with
  | zero => intro r h; rw [List.eq_nil_of_length_eq_zero (by omega : r.length = 0)]; exact List.suffix_refl _
  | succ n ih =>
    intro r h
    by_cases h0 : r = []
    · subst h0; exact List.suffix_refl _
    · rw [nextD_eq r h0]
      cases hs : stepL false r with
      | some q => exact step_suffix false r q hs
      | none =>
        have hl := step_none_len false r hs
        exact (ih _ (by omega)).trans (List.drop_suffix _ _)
theorem suffix_drop (r u : Bs) (h : u <:+ r) : r.drop (r.length - u.length) = u := by
  obtain ⟨a, rfl⟩ := h
  rw [List.length_append, Nat.add_sub_cancel, List.drop_left]
/-- Where the next token begins. -/
def posD (s : ByteArray) (k : Nat) : Nat := s.size - (nextD ((bs s).drop k)).2.length
theorem posD_drop (s : ByteArray) (k : Nat) : (bs s).drop (posD s k) = (nextD ((bs s).drop k)).2 := by
  unfold posD
  rw [size_bs]
  exact suffix_drop _ _ ((nextD_suffix _ _ (Nat.le_refl _)).trans (List.drop_suffix _ _))
theorem posD_le (s : ByteArray) (k : Nat) : posD s k ≤ s.size := Nat.sub_le _ _

/-- What is still to come: of a token and what stands behind it. -/
def restD (s : ByteArray) (t : Tok) (k : Nat) : List Tok := if t.kind = 6 then [] else t :: allL ((bs s).drop k)
theorem restD_next (s : ByteArray) (k : Nat) : restD s (nextD ((bs s).drop k)).1 (posD s k) = allL ((bs s).drop k) := by
  unfold restD
  by_cases h : (nextD ((bs s).drop k)).1.kind = 6
  · rw [if_pos h, allL_last _ h]
  · rw [if_neg h, allL_more _ h, posD_drop]

/-- How much is left, off the world. -/
def leftD (w : World) (s : ByteArray) (p : Value) (W : World) : Nat :=
  (match p with
   | .pointer (some a) => (match W.cell? ⟨a.block, 0, none⟩ with | some x => if intOf x = 6 then 0 else 1 | none => 0)
   | _ => 0) + 2 * (s.size - (match W.cell? ⟨w.heap.size + 2, 0, none⟩ with | some x => (intOf x).toNat | none => 0))
theorem leftD_eq {w : World} {s : ByteArray} {b k : Nat} {W : World} {kd : Nat} {a1 a2 a3 a4 : Value} {t : TypeId} (h : W.heap[b]? = some (.cells #[.int .u8 kd, a1, a2, a3, a4] t (0, 0))) (hk : W.heap[w.heap.size + 2]? = some (.cells #[.int .i64 k] 3 (0, 0))) :
    leftD w s (.pointer (some ⟨b, 0, none⟩)) W = (if kd = 6 then 0 else 1) + 2 * (s.size - k) := by
  have h0 : W.cell? ⟨b, 0, none⟩ = some (.int .u8 kd) := row_cell h 0 _ rfl
  have h1 : W.cell? ⟨w.heap.size + 2, 0, none⟩ = some (.int .i64 k) := one_cell hk
  unfold leftD
  simp only [h0, h1]
  show (if ((kd : Nat) : Int) = 6 then 0 else 1) + 2 * (s.size - ((k : Nat) : Int).toNat) = _
  rw [Int.toNat_natCast]
  by_cases hk6 : kd = 6
  · rw [if_pos hk6, if_pos (by omega)]
  · rw [if_neg hk6, if_neg (by omega)]
theorem left_less (s : ByteArray) (t : Tok) (k : Nat) (hk : k ≤ s.size) (ht : t.kind ≠ 6) : (if (nextD ((bs s).drop k)).1.kind = 6 then 0 else 1) + 2 * (s.size - posD s k) < (if t.kind = 6 then 0 else 1) + 2 * (s.size - k) := by
  rw [if_neg ht]
  have hlen : ((bs s).drop k).length = s.size - k := by rw [List.length_drop, ← size_bs]
  by_cases h0 : (bs s).drop k = []
  · have hk2 : k = s.size := by rw [h0, List.length_nil] at hlen; omega
    unfold posD
    rw [h0]
    show (if (nextD []).1.kind = 6 then 0 else 1) + 2 * (s.size - (s.size - (nextD []).2.length)) < 1 + 2 * (s.size - k)
    have e1 : (nextD []).1.kind = 6 := rfl
    have e2 : (nextD []).2.length = 0 := rfl
    rw [if_pos e1, e2]; omega
  · have h1 := (nextD_ok _ ((bs s).drop k) (Nat.le_refl _)).2 h0
    unfold posD
    split <;> omega
end Tym

namespace Tym
set_option linter.unusedSimpArgs false
set_option linter.unusedVariables false
open Go Go.RowKit Go.Proofs
set_option maxRecDepth 20000

/-- What a round promises the iterator. -/
def Kept (w : World) (v : Value) (W W' : World) : Prop := ∀ (b : Nat) (o : Obj), W.heap[b]? = some o → b ≠ w.heap.size → b ≠ w.heap.size + 5 → v.ownBlock ≠ some b → W'.heap[b]? = some o
abbrev TokC (t : Tok) (p : Option Addr) (n c : Nat) : Array Value := tokCells t.kind (mk t.name) (.slice p n c) t.closing (mk t.text)
def RoundEnd (w : World) (s : ByteArray) (lp : Loop) (toks : List Tok) (v : Value) (k : Nat) (W1 : World) (e : Ending) (W' : World) : Prop :=
  e = .returned (.bool true) ∧ (∃ v', Inv w s lp toks v' k W') ∧ Kept w v W1 W'

theorem set5_grown (w : World) (b : Nat) (c0 c1 c2 c3 c4 : Value) : w.grownBy (((((w.setCell ⟨b, 0, none⟩ c0).setCell ⟨b, 1, none⟩ c1).setCell ⟨b, 2, none⟩ c2).setCell ⟨b, 3, none⟩ c3).setCell ⟨b, 4, none⟩ c4) (some b) :=
  grown_trans (grown_trans (grown_trans (grown_trans (grown_set w ⟨b, 0, none⟩ _) (grown_set _ ⟨b, 1, none⟩ _)) (grown_set _ ⟨b, 2, none⟩ _)) (grown_set _ ⟨b, 3, none⟩ _)) (grown_set _ ⟨b, 4, none⟩ _)
theorem Inv.alloc {w : World} {s : ByteArray} {lp : Loop} {toks : List Tok} {v : Value} {k : Nat} {W : World} (h : Inv w s lp toks v k W) (o : Obj) : Inv w s lp toks v k (W.alloc o) :=
  h.grown (grown_below ((Below.refl _ W).alloc (Nat.le_refl _) o) none) (fun b e => by cases e) ((Below.refl _ W).alloc (by have := h.size; omega) o)
theorem own_lt {w : World} {s : ByteArray} {lp : Loop} {toks : List Tok} {v : Value} {k : Nat} {W : World} (h : Inv w s lp toks v k W) : v.ownBlock ≠ some W.heap.size := fun e => by
  obtain ⟨cur, hc⟩ := h.own e
  have := lt_of_block hc; omega

set_option maxHeartbeats 2000000 in
theorem iter_in (n : Nat) (hn : 2 ≤ n) (s : ByteArray) (w : World) (lp : Loop) (l : Nat) (hm : Mx w) (hs : s.size ≤ 1000000)
    (hY : ∀ (toks : List Tok) (v : Value) (k : Nat) (t : Tok) (p : Option Addr) (m c : Nat) (W1 : World), Inv w s lp toks v k W1 → AttsAt W1 w.heap.size (.slice p m c) t.atts → toks.length < s.size →
      YieldAt Fence.wide (n - 1) Tryz.prog l #[.agg (TokC t p m c)] W1 (RoundEnd w s lp (toks ++ [t]) v k W1))
    (W : World) (h0 : Inv w s lp [] (.slice none 0 0) 0 W) :
    CallsIn Fence.wide n Tryz.prog 21 #[.func (.yield l) #[] #[], .pointer (some ⟨w.heap.size + 3, 0, none⟩)] W fun e W' => (∃ v, e = .returned v) ∧ ∃ v k, Inv w s lp (allL (bs s)) v k W' := by
  have hb3 := h0.2.2.2.1.2.2
  have hc3 := one_cell hb3
  have hl3 := lt_of_block hb3
  have HN : Hid (∀ (k : Nat) (W : World) (toks : List Tok) (v : Value), k ≤ s.size → Inv w s lp toks v k W → CallsIn Fence.wide (n - 1) Tryz.prog 20 #[.pointer (some ⟨w.heap.size + 1, 0, none⟩), .pointer (some ⟨w.heap.size + 2, 0, none⟩)] W fun e W' =>
      (∃ p m c, e = .returned (.agg (TokC (nextD ((bs s).drop k)).1 p m c)) ∧ AttsAt W' W.heap.size (.slice p m c) (nextD ((bs s).drop k)).1.atts) ∧ W.grownBy W' (some (w.heap.size + 2)) ∧ W'.heap[w.heap.size + 2]? = some (.cells #[.int .i64 ((posD s k : Nat) : Int)] 3 (0, 0))) := fun k W toks v hk hI => by
    refine (callsIn_wide (n := n - 1)).2 ((nextFn_any s k (w.heap.size + 1) (w.heap.size + 2) W (hI.mx hm) hs hk hI.2.2.2.1.1 hI.2.2.2.1.2.1 (by omega)).mono ?_)
    rintro e W' ⟨⟨v, rfl, x, rfl, hx⟩, hg, hk'⟩
    obtain ⟨p, m, c, rfl⟩ := hx.shape
    exact ⟨⟨p, m, c, rfl, hx⟩, hg, hk'⟩
  refine callsIn_of_wp Tryz.func21 rfl trivial ?_ rfl
  simp only [Tryz.ntmps21, List.size_toArray, List.length_cons, List.length_nil, Nat.reduceAdd, Nat.reduceSub, Array.replicate_succ, Array.replicate_zero, List.push_toArray, List.append_toArray, List.nil_append, List.cons_append]
  gi_wp2
  refine ⟨trivial, fun _ => by omega, (HN.out 0 W [] (.slice none 0 0) (Nat.zero_le _) h0).mono ?_⟩
  rintro e W1 ⟨⟨p, m, c, rfl, hax⟩, hg, hk⟩
  have h1 := h0.at hg hk
  have hA := heap_alloc_new W1 (.cells (TokC (nextD ((bs s).drop 0)).1 p m c) 29)
  have h2 := h1.alloc (.cells (TokC (nextD ((bs s).drop 0)).1 p m c) 29)
  have hne := own_lt h1
  have hax2 := hax.keep (KeepA.below ((Below.refl _ W1).alloc (Nat.le_refl _) (.cells (TokC (nextD ((bs s).drop 0)).1 p m c) 29)))
  have hres := restD_next s 0
  have hp0 := posD_le s 0
  rw [List.drop_zero] at hres hA h2 hax2
  clear hax hg hk h1 hc3 hb3
  rw [List.drop_zero]
  generalize (nextD (bs s)).1 = t at *
  generalize posD s 0 = k at *
  have HR := Lib.hid hres
  clear hres
  gi_wp2
  gi_loopw [3] (fun v3 wr => ∃ (toks : List Tok) (v : Value) (k : Nat) (t : Tok) (p : Option Addr) (m c bt : Nat), v3 = .pointer (some ⟨bt, 0, none⟩) ∧ k ≤ s.size ∧ Inv w s lp toks v k wr ∧
    wr.heap[bt]? = some (.cells (TokC t p m c) 29 (0, 0)) ∧ v.ownBlock ≠ some bt ∧ AttsAt wr w.heap.size (.slice p m c) t.atts ∧ Hid (allL (bs s) = toks ++ restD s t k)) (fun v3 wr => leftD w s v3 wr)
  case atStart => exact ⟨[], _, k, t, p, m, c, _, rfl, hp0, h2, hA, hne, hax2.mono (by have := h0.size; omega), HR.out.symm⟩
  case round =>
    clear h2 hA hne hax2 HR hp0 h0 hl3
    obtain ⟨toks, v, k, t, p, m, c, bt, rfl, hk, hI, hbt, hvb, hax, HL⟩ := hrel
    obtain ⟨⟨z0, z1, z2, z3, z4⟩, f0, f1, f2, f3, f4⟩ := five hbt
    have hlb := lt_of_block hbt
    by_cases h6 : t.kind = 6
    · have hkz : (((t.kind : Nat) : Int) != 6) = false := by rw [h6]; rfl
      have hall : toks = allL (bs s) := by rw [HL.out]; unfold restD; rw [if_pos h6, List.append_nil]
      rw [hall] at hI
      have HI := Lib.hid hI
      clear hI HL hall hY
      gi_wp2
      refine ⟨fun _ h => (by cases h), ?_⟩
      gi_wp2
      go_end0
      exact ⟨⟨_, rfl⟩, v, k, HI.out⟩
    · have hkz : (((t.kind : Nat) : Int) != 6) = true := by rw [bne_iff_ne]; omega
      have hrs : restD s t k = t :: allL ((bs s).drop k) := by unfold restD; rw [if_neg h6]
      have hlen : toks.length < s.size := by
        have h1 := allL_len _ (bs s) (Nat.le_refl _)
        rw [HL.out, hrs, List.length_append, List.length_cons, ← size_bs] at h1; omega
      obtain ⟨fn, tmps, assign, body, hy, hR⟩ := hY toks v k t p m c wr hI hax hlen
      have hb3 := hI.2.2.2.1.2.2
      have hbB : bt ≠ w.heap.size := fun e => by rw [e] at hbt; have := hI.2.1; unfold Boxed at this; rw [this] at hbt; cases hbt
      have hb5 : bt ≠ w.heap.size + 5 := fun e => by rw [e] at hbt; have := hI.2.2.2.2.2; rw [this] at hbt; cases hbt
      have hleft := leftD_eq (s := s) hbt hI.2.2.2.1.2.1
      have HY := Lib.hid hY
      have Hleft := Lib.hid hleft
      clear hY hleft hlen
      dsimp only [TokC, tokCells] at hy
      gi_wp2
      refine ⟨fun _ => by omega, hR.mono ?_⟩
      rintro e W3 ⟨rfl, ⟨v', hI3⟩, hkept⟩
      have hbt3 := hkept bt _ hbt hbB hb5 hvb
      clear z0 z1 z2 z3 z4 f0 f1 f2 f3 f4 hkept hR hy
      obtain ⟨⟨z0, z1, z2, z3, z4⟩, f0, f1, f2, f3, f4⟩ := five hbt3
      have hlb3 := lt_of_block hbt3
      have hc3 := one_cell hI3.2.2.2.1.2.2
      have hl3 := lt_of_block hI3.2.2.2.1.2.2
      clear hb3 hbB hb5 hbt hvb hax hI hlb
      have hlf := left_less s t k hk h6
      have HLf := Lib.hid hlf
      clear hlf
      gi_wp2
      have hA4 := heap_alloc_new W3 (.cells (TokC t p m c) 29)
      have hI4 := hI3.alloc (.cells (TokC t p m c) 29)
      have hne := own_lt hI3
      clear z0 z1 z2 z3 z4 f0 f1 f2 f3 f4 hc3 hl3 hbt3 hlb3
      have hs3 := hI3.size
      have hz4 : (W3.alloc (.cells (TokC t p m c) 29)).heap.size = W3.heap.size + 1 := World.size_alloc ..
      generalize W3.alloc (.cells (TokC t p m c) 29) = W4 at *
      generalize W3.heap.size = b4 at *
      refine ⟨trivial, fun _ => by omega, (HN.out k W4 _ _ hk hI4).mono ?_⟩
      rintro e W5 ⟨⟨p5, m5, c5, rfl, hax5⟩, hg5, hk5⟩
      have hI5 := hI4.at hg5 hk5
      have hA5 := grown_block hg5 hA4 (by simp; omega)
      have HR := Lib.hid (restD_next s k)
      have hp5 := posD_le s k
      generalize (nextD ((bs s).drop k)).1 = t5 at *
      generalize posD s k = k5 at *
      have hlb5 := lt_of_block hA5
      obtain ⟨⟨z0, z1, z2, z3, z4⟩, f0, f1, f2, f3, f4⟩ := five hA5
      gi_wp2
      have hI6 := hI5.grown (set5_grown W5 b4 (.int .u8 t5.kind) (.string (mk t5.name)) (.slice p5 m5 c5) (.bool t5.closing) (.string (mk t5.text))) (fun b e => by cases e; exact .inr ⟨⟨_, hA5⟩, hne⟩) (set5_below (Below.refl _ _) (by omega) _ _ _ _ _)
      have hA6 := set5_row (c0 := .int .u8 t5.kind) (c1 := .string (mk t5.name)) (c2 := .slice p5 m5 c5) (c3 := .bool t5.closing) (c4 := .string (mk t5.text)) hA5
      have hax6 := atts_set5 hax5 (b := b4) (by omega) (.int .u8 t5.kind) (.string (mk t5.name)) (.slice p5 m5 c5) (.bool t5.closing) (.string (mk t5.text))
      go_roundw
      case rel => exact ⟨toks ++ [t], v', k5, t5, p5, m5, c5, b4, rfl, hp5, hI6, hA6, hne, hax6.mono (by omega), by show _ = _; rw [HL.out, hrs, ← HR.out]; simp⟩
      case measure => rw [Hleft.out, leftD_eq hA6 hI6.2.2.2.1.2.1]; exact HLf.out
end Tym

namespace Tym
set_option linter.unusedSimpArgs false
set_option linter.unusedVariables false
open Go Go.RowKit Go.Proofs
set_option maxRecDepth 20000
attribute [local go_sem] Oper.semAt_some

def busyOf (r : Loop) : Loop := { r with state := .busy }
def overOf (r : Loop) : Loop := { r with state := .exhausted }
/-- One round, walked: the loop's record is ready, busy within the body, ready again. -/
theorem yield_round {F : Fence} {m : Nat} {P : Program} {l : Nat} {r : Loop} {args : Array Value} {W : World} {R : Ending → World → Prop} (hF : F.fn r.fn) (hl : W.heap[l]? = some (.loop r)) (hr : r.state = .ready) (hp : r.pending = none) (hs : args.size = r.params.size)
    (hwalk : r.assign.wpIn (F.inRound l) m P (Exit.then (fun a₁ w₁ => w₁.heap[l]? = some (.loop r) ∧ r.body.wpIn (F.inRound l) m P (fun e a3 w3 => e = .normal ∧ w3.heap[l]? = some (.loop (busyOf r)) ∧ R (.returned (.bool true)) (w3.putObj l (.loop r))) a₁ (w₁.putObj l (.loop (busyOf r)))) (fun _ _ _ => False))
      { tmps := (r.params.zip args).foldl (fun t (p, v) => t.setIfInBounds p v) r.tmps, defers := [] } W) : YieldAt F m P l args W R := by
  refine ⟨r.fn, _, r.assign, r.body, run_yield hl hs, roundIn_of_wpIn hF (wpIn_mono hwalk ?_)⟩
  rintro e a₁ w₁ h
  cases e with
  | normal =>
    obtain ⟨hl1, hb⟩ := h
    refine ⟨_, run_beginRound hl1 hr, wpIn_mono hb ?_⟩
    rintro e a3 w3 ⟨rfl, hl3, hR⟩
    refine ⟨_, _, run_endRound none hl3, ?_⟩
    have : ({ busyOf r with state := if (none : Option Code).isNone then .ready else .done, pending := none } : Loop) = r := by
      unfold busyOf
      obtain ⟨st, pe, _, _, _, _, _, _⟩ := r
      simp only at hr hp
      subst hr hp
      rfl
    rw [this]
    exact hR
  | ret => exact h.elim
  | exit id => exact h.elim
  | goto t => exact h.elim
  | panic ch => exact h.elim
  | outgrown => exact h.elim

/-- The statement: the iterator's contract at the record that it lays. -/
theorem range_rounds {F : Fence} {n : Nat} {P : Program} {g : Operand} {ps : Array Tmp} {assign body : Code} {Q : Exit → Act → World → Prop} {a : Act} {w : World} (hro : F.round = none) (h1 : 1 ≤ n) {gf : Nat} {lb : Array Value}
    (hg : a.eval g = .func (.func gf) #[] lb) (hFg : F.fn gf) (eg : ∀ args w, (callFunc gf args).run P w = .ok (.enter gf args) w)
    (h : ∀ fn, F.fn fn → ∀ r : Loop, r = { state := .ready, pending := none, fn, tmps := a.tmps, params := ps, assign, body, defers := w.heap.size } →
      CallsIn F (n - 1) P gf (#[.func (.yield (w.heap.size + 1)) #[] #[]] ++ lb) ((w.alloc (.deferred (some []))).alloc (.loop r)) fun e W2 => (∃ v, e = .returned v) ∧ W2.heap[w.heap.size + 1]? = some (.loop r) ∧
        Q .normal { a with defers := { target := .collected w.heap.size, args := #[] } :: a.defers } (W2.putObj (w.heap.size + 1) (.loop (overOf r)))) :
    (Code.rangeFunc g ps assign body).wpIn F n P Q a w := by
  refine wpIn_rangeFunc ?_
  intro fn hfn
  rw [hro]
  have hk := h fn hfn _ rfl
  obtain ⟨r, hr⟩ : ∃ r : Loop, r = { state := .ready, pending := none, fn, tmps := a.tmps, params := ps, assign, body, defers := w.heap.size } := ⟨_, rfl⟩
  have hst : r.state ≠ .busy := by rw [hr]; simp
  have hpe : r.pending = none := by rw [hr]
  have hen := run_enterLoop_outer (P := P) (w := w) fn a.tmps ps assign body
  rw [← hr] at hk hen
  obtain ⟨W1, hW1⟩ : ∃ W1, (w.alloc (.deferred (some []))).alloc (.loop r) = W1 := ⟨_, rfl⟩
  rw [hW1] at hk hen
  refine ⟨w.heap.size + 1, [{ target := .collected w.heap.size, args := #[] }], W1, { target := .fn (.func gf) lb, args := #[.func (.yield (w.heap.size + 1)) #[] #[]] }, W1, gf,
    #[.func (.yield (w.heap.size + 1)) #[] #[]] ++ lb, W1, hen, ?_, ?_, ?_, fun _ => h1, ?_⟩
  · simp only [resolve, hg]
    simp [go_sem]
  · intro f' hf'; simp [Target.leads] at hf'; subst hf'; exact hFg
  · simp [invoke, go_sem, eg]
  · refine hk.mono ?_
    rintro e W2 ⟨⟨v, rfl⟩, hl, hQ⟩
    refine ⟨r.pending, _, run_endLoop hl hst, ?_⟩
    unfold overOf at hQ
    simp only [hpe] at hQ ⊢
    exact hQ

theorem cells_new (w : World) (cs : List Value) (t : TypeId) : ∀ j u, cs[j]? = some u → (w.alloc (.cells cs.toArray t)).cell? ((⟨w.heap.size, 0, none⟩ : Addr).add j) = some u := by
  intro j u hj
  have e : (⟨w.heap.size, 0, none⟩ : Addr).add j = ⟨w.heap.size, j, none⟩ := by unfold Addr.add; split <;> simp_all
  rw [e]
  exact row_cell (heap_alloc_new w _) _ _ (by simpa using hj)

theorem Inv.loop {w : World} {s : ByteArray} {lp : Loop} {toks : List Tok} {v : Value} {k : Nat} {W : World} (h : Inv w s lp toks v k W) (lp' : Loop) : Inv w s lp' toks v k (W.putObj (w.heap.size + 5) (.loop lp')) := by
  have hs := h.size
  obtain ⟨h1, h2, ⟨vals, ho, ht⟩, ⟨h3, h4, h5⟩, h6, h7⟩ := h
  have hg := grownBy_putObj' W (w.heap.size + 5) (.loop lp')
  refine ⟨h1.trans (below_grown hg (by omega) (by omega)), grown_block hg h2 (by simp), ⟨vals, ownsRow_putObj ho _ h7 rfl, ht.keep (KeepA.grown hg fun g e cur hc => by cases e; rw [h7] at hc; cases hc)⟩, ⟨grown_block hg h3 (by simp), grown_block hg h4 (by simp), grown_block hg h5 (by simp)⟩, grown_block hg h6 (by simp), World.putObj_heap_same hs⟩

theorem tokInfo : (Tryz.prog.info? 29).map (fun i => (i.zero, i.size, i.bytes)) = some (some (.agg tokZero), 5, 72) := by kernel_rfl

/-- The blocks that a round may turn. -/
theorem kept_alloc (w : World) (v : Value) (W : World) (o : Obj) : Kept w v W (W.alloc o) := fun b o' h _ _ _ => below_block ((Below.refl _ W).alloc (Nat.le_refl _) o) h
theorem Kept.trans {w : World} {v : Value} {A B C : World} (h : Kept w v A B) (k : Kept w v B C) : Kept w v A C := fun b o hb h1 h2 h3 => k b o (h b o hb h1 h2 h3) h1 h2 h3
theorem kept_grown {w : World} {v : Value} {A B : World} {r : Option Nat} (hg : A.grownBy B r) (hr : r = v.ownBlock ∨ r = some w.heap.size ∨ r = some (w.heap.size + 5)) : Kept w v A B := fun b o hb h1 h2 h3 => grown_block hg hb (fun e => by
  rcases hr with rfl | rfl | rfl
  · exact h3 e.symm
  · exact h1 (Option.some.inj e)
  · exact h2 (Option.some.inj e))

/-- A slice that reads as a list of tokens. -/
def ToksAt (w : World) (B : Nat) (v : Value) (l : List Tok) : Prop := ∃ vals, w.ownsRow B 29 5 v l.length (flatV vals) ∧ ToksVal w B l vals
def AllPost (w : World) (l : List Tok) (e : Ending) (w' : World) : Prop := (∃ v, e = .returned v ∧ ToksAt w' w.heap.size v l) ∧ Below w.heap.size w w'

set_option maxHeartbeats 4000000 in
theorem lexAll_any (s : ByteArray) (w : World) (hm : Mx w) (hs : s.size ≤ 1000000) :
    Calls Tryz.prog 6 #[.string s] w (AllPost w (allL (bs s))) := by
  refine (callsIn_wide (n := 5)).1 ?_
  refine callsIn_of_wp_marks Tryz.func6 rfl trivial ?_ rfl
  simp only [Tryz.ntmps6, List.size_toArray, List.length_cons, List.length_nil, Nat.reduceAdd, Nat.reduceSub, Array.replicate_succ, Array.replicate_zero, List.push_toArray, List.append_toArray, List.nil_append, List.cons_append]
  gi_wp2
  refine ⟨trivial, (callsIn_wide.2 (tokens_any s _)).mono ?_⟩
  rintro e w' ⟨rfl, rfl⟩
  gi_wp2
  refine range_rounds rfl (by omega) rfl trivial (enters_of Tryz.func21 (by kernel_rfl) rfl) ?_
  intro fn hfn r hr
  have e1 := congrArg Loop.assign hr
  have e2 := congrArg Loop.body hr
  have e3 := congrArg Loop.params hr
  have e4 := congrArg Loop.tmps hr
  have e5 : r.state = .ready := by rw [hr]
  have e6 : r.pending = none := by rw [hr]
  have e7 : r.fn = fn := by rw [hr]
  dsimp only at e1 e2 e3 e4
  clear hr
  have hz : ((((w.alloc (.cells #[.slice none 0 0] 24)).alloc (.cells #[.string s] 9)).alloc (.cells #[.int .i64 0] 3)).alloc (.cells #[.func (.func 20) #[] #[.pointer (some ⟨w.heap.size + 1, 0, none⟩), .pointer (some ⟨w.heap.size + 1 + 1, 0, none⟩)]] 45)).heap.size = w.heap.size + 4 := by simp
  have b0 : ((((w.alloc (.cells #[.slice none 0 0] 24)).alloc (.cells #[.string s] 9)).alloc (.cells #[.int .i64 0] 3)).alloc (.cells #[.func (.func 20) #[] #[.pointer (some ⟨w.heap.size + 1, 0, none⟩), .pointer (some ⟨w.heap.size + 1 + 1, 0, none⟩)]] 45)).heap[w.heap.size]? = some (.cells #[.slice none 0 0] 24 (0, 0)) :=
    ((Below.heap_alloc _ _ _ (by simp; omega)).trans (Below.heap_alloc _ _ _ (by simp; omega))).trans ((Below.heap_alloc _ _ _ (by simp)).trans (heap_alloc_new _ _))
  have b1 : ((((w.alloc (.cells #[.slice none 0 0] 24)).alloc (.cells #[.string s] 9)).alloc (.cells #[.int .i64 0] 3)).alloc (.cells #[.func (.func 20) #[] #[.pointer (some ⟨w.heap.size + 1, 0, none⟩), .pointer (some ⟨w.heap.size + 1 + 1, 0, none⟩)]] 45)).heap[w.heap.size + 1]? = some (.cells #[.string s] 9 (0, 0)) := by
    refine ((Below.heap_alloc _ _ _ (by simp)).trans (Below.heap_alloc _ _ _ (by simp))).trans ?_
    have := heap_alloc_new (w.alloc (.cells #[.slice none 0 0] 24)) (.cells #[.string s] 9)
    rwa [World.size_alloc] at this
  have b2 : ((((w.alloc (.cells #[.slice none 0 0] 24)).alloc (.cells #[.string s] 9)).alloc (.cells #[.int .i64 0] 3)).alloc (.cells #[.func (.func 20) #[] #[.pointer (some ⟨w.heap.size + 1, 0, none⟩), .pointer (some ⟨w.heap.size + 1 + 1, 0, none⟩)]] 45)).heap[w.heap.size + 2]? = some (.cells #[.int .i64 0] 3 (0, 0)) := by
    refine (Below.heap_alloc _ _ _ (by simp)).trans ?_
    have := heap_alloc_new ((w.alloc (.cells #[.slice none 0 0] 24)).alloc (.cells #[.string s] 9)) (.cells #[.int .i64 0] 3)
    rwa [World.size_alloc, World.size_alloc] at this
  have b3 : ((((w.alloc (.cells #[.slice none 0 0] 24)).alloc (.cells #[.string s] 9)).alloc (.cells #[.int .i64 0] 3)).alloc (.cells #[.func (.func 20) #[] #[.pointer (some ⟨w.heap.size + 1, 0, none⟩), .pointer (some ⟨w.heap.size + 1 + 1, 0, none⟩)]] 45)).heap[w.heap.size + 3]? = some (.cells #[.func (.func 20) #[] #[.pointer (some ⟨w.heap.size + 1, 0, none⟩), .pointer (some ⟨w.heap.size + 2, 0, none⟩)]] 45 (0, 0)) := by
    have := heap_alloc_new (((w.alloc (.cells #[.slice none 0 0] 24)).alloc (.cells #[.string s] 9)).alloc (.cells #[.int .i64 0] 3)) (.cells #[.func (.func 20) #[] #[.pointer (some ⟨w.heap.size + 1, 0, none⟩), .pointer (some ⟨w.heap.size + 1 + 1, 0, none⟩)]] 45)
    rwa [World.size_alloc, World.size_alloc, World.size_alloc] at this
  have hbW : Below w.heap.size w ((((w.alloc (.cells #[.slice none 0 0] 24)).alloc (.cells #[.string s] 9)).alloc (.cells #[.int .i64 0] 3)).alloc (.cells #[.func (.func 20) #[] #[.pointer (some ⟨w.heap.size + 1, 0, none⟩), .pointer (some ⟨w.heap.size + 1 + 1, 0, none⟩)]] 45)) :=
    ((((Below.refl _ w).alloc (Nat.le_refl _) _).alloc (by simp) _).alloc (by simp; omega) _).alloc (by simp; omega) _
  generalize ((((w.alloc (.cells #[.slice none 0 0] 24)).alloc (.cells #[.string s] 9)).alloc (.cells #[.int .i64 0] 3)).alloc (.cells #[.func (.func 20) #[] #[.pointer (some ⟨w.heap.size + 1, 0, none⟩), .pointer (some ⟨w.heap.size + 1 + 1, 0, none⟩)]] 45)) = W0 at *
  have hD : (W0.alloc (.deferred (some []))).heap[w.heap.size + 4]? = some (.deferred (some [])) := by
    have := heap_alloc_new W0 (.deferred (some [])); rwa [hz] at this
  have hL : ((W0.alloc (.deferred (some []))).alloc (.loop r)).heap[w.heap.size + 5]? = some (.loop r) := by
    have := heap_alloc_new (W0.alloc (.deferred (some []))) (.loop r); rwa [World.size_alloc, hz] at this
  have up : ∀ (b : Nat) (o : Obj), W0.heap[b]? = some o → ((W0.alloc (.deferred (some []))).alloc (.loop r)).heap[b]? = some o := fun b o h => by
    have := lt_of_block h
    exact (Below.heap_alloc _ _ _ (by simp; omega)).trans ((Below.heap_alloc _ _ _ this).trans h)
  have h0 : Inv w s r [] (.slice none 0 0) 0 ((W0.alloc (.deferred (some []))).alloc (.loop r)) :=
    ⟨(hbW.alloc (by omega) _).alloc (by simp; omega) _, up _ _ b0, ⟨[], World.ownsRow_nil _ _ _ _, trivial⟩, ⟨up _ _ b1, up _ _ b2, up _ _ b3⟩, (Below.heap_alloc _ _ _ (by simp; omega)).trans hD, hL⟩
  clear b0 b1 b2 b3 hbW hD hL up
  rw [hz]
  refine (iter_in 4 (by omega) s w r (w.heap.size + 5) hm hs ?hY _ h0).mono ?_
  case hY =>
    intro toks v k t p m c W1 hI hax hlen
    refine yield_round (by rw [e7]; exact trivial) hI.2.2.2.2.2 e5 e6 (by rw [e3]; rfl) ?_
    rw [e1, e2, e3, e4]
    clear e1 e2 e3 e4 e5 e6 e7 h0 hz
    gi_wp2
    refine ⟨(hI.alloc _).2.2.2.2.2, ?_⟩
    have hA := heap_alloc_new W1 (.cells (TokC t p m c) 29)
    have hK1 := kept_alloc w v W1 (.cells (TokC t p m c) 29)
    have hI2 := hI.alloc (.cells (TokC t p m c) 29)
    have hax2 := hax.keep (KeepA.below ((Below.refl _ W1).alloc (Nat.le_refl _) (.cells (TokC t p m c) 29)))
    have hne := own_lt hI
    have hs1 := hI.size
    have hb5 : W1.heap.size ≠ w.heap.size + 5 := by omega
    generalize W1.alloc (.cells (TokC t p m c) 29) = W2 at *
    have hA3 := (World.putObj_heap_other (o := .loop (busyOf r)) hb5).trans hA
    have hK3 := hK1.trans (kept_grown (grownBy_putObj' W2 (w.heap.size + 5) (.loop (busyOf r))) (.inr (.inr rfl)))
    have hI3 := hI2.loop (busyOf r)
    have hax3 := hax2.keep (KeepA.grown (grownBy_putObj' W2 (w.heap.size + 5) (.loop (busyOf r))) (fun g e cur hc => by cases e; rw [hI2.2.2.2.2.2] at hc; cases hc))
    clear hA hK1 hI2 hax2 hax
    generalize W2.putObj (w.heap.size + 5) (.loop (busyOf r)) = W3 at *
    obtain ⟨⟨z0, z1, z2, z3, z4⟩, f0, f1, f2, f3, f4⟩ := five hA3
    have hlA := lt_of_block hA3
    obtain ⟨hB3, hbx, ⟨vals, ho, ht⟩, hrest⟩ := hI3
    have hc := hbx.cell
    have hlx := hbx.lt
    obtain ⟨i0, hi0, hz0, hz1, hz2⟩ := info_parts tokInfo
    have HS := Lib.hid hrest
    clear hrest hI
    gi_wp2_with (gi_at_builtin; refine wpListIn_append_own _ rfl _ _ 24 rfl w.heap.size 29 i0 (.agg tokZero) 5 72 Tryz.underlying24 hi0 hz0 hz1 hz2 rfl (by decide) _ _ _ rfl (ho.alloc _) ⟨W3.heap.size, 0, none⟩ 1 1 [.int .u8 t.kind, .string (mk t.name), .slice p m c, .bool t.closing, .string (mk t.text)] rfl rfl (cells_new _ _ _) (by intro u hu; simp at hu; rcases hu with rfl | rfl | rfl | rfl | rfl <;> rfl) (by unfold maxLen; omega) (by omega) (by simp; omega) ?_; intro v' w1 hown' hgrow _; obtain ⟨g', cap', rfl⟩ := ownsRow_succ hown'; obtain ⟨hv1, hv2, hr2, hk2, hb2⟩ := hbx.appended (by decide) ho (by omega) (Nat.le_refl _) hown' hgrow; have hc1 := hv1.cell; have hf1 := hv1.frozen)
    obtain ⟨⟨s1, s2, s3⟩, s4, s5⟩ := HS.out
    have hgr : (W3.alloc (.cells [.int .u8 t.kind, .string (mk t.name), .slice p m c, .bool t.closing, .string (mk t.text)].toArray 29)).grownBy w1 v.ownBlock := hgrow
    have ga : W3.grownBy (W3.alloc (.cells [.int .u8 t.kind, .string (mk t.name), .slice p m c, .bool t.closing, .string (mk t.text)].toArray 29)) v.ownBlock := World.grownBy_alloc W3 _ _
    have g3 := grown_trans ga hgr
    have gs := grown_set w1 ⟨w.heap.size, 0, none⟩ (.slice (some ⟨g', 0, none⟩) (toks.length + 1) cap')
    have hK4 := (hK3.trans (kept_grown g3 (.inl rfl))).trans (kept_grown gs (.inr (.inl rfl)))
    have hKx := (kept_grown (w := w) g3 (.inl rfl)).trans (kept_grown gs (.inr (.inl rfl)))
    have ne : ∀ (b : Nat) (o : Obj), W3.heap[b]? = some o → (∀ cur : Array Value, o ≠ Obj.cells cur 29 (0, 0)) → v.ownBlock ≠ some b := fun b o hb hno e => by
      obtain ⟨cur, hcur⟩ := own_block ho e
      rw [hb] at hcur; exact hno cur (Option.some.inj hcur)
    have hKA : KeepA W3 (w1.setCell ⟨w.heap.size, 0, none⟩ (.slice (some ⟨g', 0, none⟩) (toks.length + 1) cap')) :=
      (KeepA.grown g3 fun g e cur hcur => by obtain ⟨cur', hc'⟩ := own_block ho e; rw [hcur] at hc'; cases hc').trans
        (KeepA.grown gs fun g e cur hcur => by cases e; have := hv1; unfold Boxed at this; rw [this] at hcur; cases hcur)
    have h5 := hk2.same _ _ s5 rfl
    have hIn : Inv w s (busyOf r) (toks ++ [t]) (.slice (some ⟨g', 0, none⟩) (toks.length + 1) cap') k (w1.setCell ⟨w.heap.size, 0, none⟩ (.slice (some ⟨g', 0, none⟩) (toks.length + 1) cap')) :=
      ⟨hB3.trans hb2, hv2, ⟨vals ++ [[.int .u8 t.kind, .string (mk t.name), .slice p m c, .bool t.closing, .string (mk t.text)]], by rw [flatV_snoc, List.length_append]; exact hr2, (ht.keep hKA).snoc rfl ⟨_, rfl, hax3.keep hKA⟩⟩,
        ⟨hKx _ _ s1 (by omega) (by omega) (ne _ _ s1 (fun _ e => by cases e)), hKx _ _ s2 (by omega) (by omega) (ne _ _ s2 (fun _ e => by cases e)), hKx _ _ s3 (by omega) (by omega) (ne _ _ s3 (fun _ e => by cases e))⟩,
        hKx _ _ s4 (by omega) (by omega) (ne _ _ s4 (fun _ e => by cases e)), h5⟩
    exact ⟨h5, rfl, ⟨_, hIn.loop r⟩, hK4.trans (kept_grown (grownBy_putObj' _ (w.heap.size + 5) (.loop r)) (.inr (.inr rfl)))⟩
  · rintro e W2 ⟨⟨v, rfl⟩, v', k', hI⟩
    refine ⟨⟨_, rfl⟩, hI.2.2.2.2.2, ?_⟩
    have hI3 := hI.loop (overOf r)
    rw [show w.heap.size + 4 + 1 = w.heap.size + 5 from rfl]
    generalize W2.putObj (w.heap.size + 5) (.loop (overOf r)) = W3 at *
    obtain ⟨hB3, hbx, ⟨vals, ho, ht⟩, _, hK, _⟩ := hI3
    have hc := hbx.cell
    gi_wp2
    refine ⟨by simp, .inl ⟨_, _, rfl, run_takeDeferred hK, ?_⟩⟩
    have hgp := grownBy_putObj' W3 (w.heap.size + 4) (.deferred none)
    have hlt := lt_of_block hK
    exact ⟨_, results_tmp rfl _ _ _, ⟨v', rfl, vals, ownsRow_putObj ho _ hK rfl, ht.keep (KeepA.grown hgp fun g e cur hcur => by cases e; rw [hK] at hcur; cases hcur)⟩, hB3.trans (below_grown hgp (by omega) (by omega))⟩
end Tym
