/- The walks of ent.Named and of the reference's Named. -/
import Derived.Test.YtdfefcikcfejoaaEntB
import Derived.WalkMore
set_option linter.unusedSimpArgs false
set_option linter.unusedVariables false
open Go Go.RowKit Go.Proofs
namespace Tym

def entV : Option Ent → Value
  | none => .agg #[.string ⟨#[]⟩, .bool false]
  | some e => .agg #[.string (mk e.is), .bool e.bare]

theorem find_tableV (k : ByteArray) : ((tableV.find? (fun r => k == r.1)).map (·.2)).getD (.agg #[.string ⟨#[]⟩, .bool false]) = entV (find (bs k)) ∧ (tableV.find? (fun r => k == r.1)).isSome = (find (bs k)).isSome := by
  unfold tableV tableT find table
  rw [List.map_map, List.find?_map, List.find?_map]
  have e : ((fun r : Row => k == r.1) ∘ (rowOf ∘ fun r : Bs × Bs × Bool => (mk r.1, mk r.2.1, r.2.2))) = ((fun e : Ent => e.name == bs k) ∘ fun x : Bs × Bs × Bool => (⟨x.1, x.2.1, x.2.2⟩ : Ent)) := by
    funext r
    show (k == mk r.1) = (r.1 == bs k)
    rw [ba_beq, bs_mk, Bool.beq_comm]
  rw [e]
  cases tableRows.find? _ with
  | none => exact ⟨rfl, rfl⟩
  | some r => exact ⟨rfl, rfl⟩

/-- The block that the table's map is. -/
def tableObj : Obj := .map (entriesFrom tableV 0).toArray tableV.length

theorem tableO_any (w : World) : Calls Try.prog 50 #[] w fun e w' => e = .returned (.map (some w.heap.size)) ∧ w' = w.alloc tableObj := table_any w

theorem look_any (w : World) (B : Nat) (hb : w.heap[B]? = some tableObj) (k : ByteArray) :
    (Instr.lookup 61 (.map (some B)) (.string k) true).run Try.prog w = .ok (.tuple #[entV (find (bs k)), .bool (find (bs k)).isSome]) w := by
  have hz : (zeroValue 64).run Try.prog w = .ok (.agg #[.string ⟨#[]⟩, .bool false]) w := by kernel_rfl
  rw [run_lookup_row 61 9 64 Try.underlying61 Try.underlying9 _ hz B tableV tableV.length hb k]
  rw [(find_tableV k).1, (find_tableV k).2]

theorem prefix_from (s : ByteArray) (k : Nat) (t : Bs) (w : World) : Calls Try.prog 20 #[.string (s.extract k s.size), .string ⟨t.toArray⟩] w fun e w' => e = .returned (.bool (begins ((bs s).drop k) t)) ∧ w = w' := by
  rw [← bs_from]; exact prefix_lit _ t w

theorem begins_head (l : Bs) : begins l [59] = true ↔ l.head? = some 59 := by
  cases l with
  | nil => simp [begins]
  | cons a l => simp [begins]; exact eq_comm

theorem namedP_none (s : Bs) (k : Nat) (h : find (s.take (k + 1)) = none) : namedP s (k + 1) = namedP s k := by
  rw [namedP, h]
theorem namedP_semi (s : Bs) (k : Nat) (e : Ent) (h : find (s.take (k + 1)) = some e) (hb : begins (s.drop (k + 1)) [59] = true) : namedP s (k + 1) = (e.is, k + 2) := by
  rw [namedP, h]; simp only; rw [if_pos ((begins_head _).1 hb)]
theorem namedP_bare (s : Bs) (k : Nat) (e : Ent) (h : find (s.take (k + 1)) = some e) (hb : begins (s.drop (k + 1)) [59] = false) (hbare : e.bare = true) : namedP s (k + 1) = (e.is, k + 1) := by
  rw [namedP, h]; simp only; rw [if_neg (fun h => by rw [(begins_head _).2 h] at hb; cases hb), if_pos hbare]
theorem namedP_skip (s : Bs) (k : Nat) (e : Ent) (h : find (s.take (k + 1)) = some e) (hb : begins (s.drop (k + 1)) [59] = false) (hbare : e.bare = false) : namedP s (k + 1) = namedP s k := by
  rw [namedP, h]; simp only; rw [if_neg (fun h => by rw [(begins_head _).2 h] at hb; cases hb), if_neg (by rw [hbare]; exact Bool.false_ne_true)]
theorem namedP_zero (s : Bs) : namedP s 0 = ([], 0) := rfl

attribute [local irreducible] namedP find named tableObj

set_option maxHeartbeats 1000000 in
theorem named_any (s : ByteArray) (w : World) (hs : s.size ≤ 1000000000) : Calls Try.prog 35 #[.string s] w fun e w' => e = .returned (.tuple #[.string (mk (named (bs s)).1), .int .i64 (named (bs s)).2]) ∧ Below w.heap.size w w' := by
  go_enter Try.func35, Try.ntmps35
  go_wp2
  go_step3
  go_wp2_with (first | (go_at_call 50; refine (tableO_any _).mono ?_; rintro e w' ⟨rfl, rfl⟩))
  go_step3
  go_wp2_with fail
  have H0 : Hid (namedP (bs s) (min 8 s.size) = named (bs s)) := by unfold named; rw [size_bs]; rfl
  have HM : Hid (((min 8 s.size : Nat) : Int) = min 8 (s.size : Int)) := by show ((min 8 s.size : Nat) : Int) = min 8 (s.size : Int); omega
  have hm8 : min 8 s.size ≤ 8 := Nat.min_le_left _ _
  have hms : min 8 s.size ≤ s.size := Nat.min_le_right _ _
  generalize min 8 s.size = m0 at *
  go_loopw [5, 6, 7] (fun is n k wr => ∃ j : Nat, j ≤ m0 ∧ k = .int .i64 j ∧ is = .string ⟨#[]⟩ ∧ n = .int .i64 0 ∧ wr.heap[w.heap.size]? = some tableObj ∧ Below w.heap.size w wr ∧ w.heap.size < wr.heap.size ∧ Hid (namedP (bs s) j = named (bs s))) (fun _ _ k _ => (intOf k).toNat)
  case atStart => exact ⟨m0, Nat.le_refl _, by rw [HM.out], rfl, rfl, blk_new w _, (Below.refl _ _).alloc (Nat.le_refl _) _, by simp, H0⟩
  case round =>
    obtain ⟨j, hj, rfl, rfl, rfl, hmap, hbel, hsz, HN⟩ := hrel
    have old : ∀ o : Obj, (wr.alloc o).heap[w.heap.size]? = some tableObj := fun o => by rw [blk_old _ _ _ hsz]; exact hmap
    have HO := Lib.hid old
    have HM2 := Lib.hid hmap
    clear old
    rcases j with _ | j
    · clear hmap
      go_wp2
      rw [Exit.noGoto_ret]
      go_ret2
      have hn := HN.out
      rw [namedP_zero] at hn
      exact ⟨by rw [← hn]; rfl, hbel⟩
    · have hl := look_any wr w.heap.size hmap (s.extract 0 (j + 1))
      rw [bs_to] at hl
      clear hmap
      cases hf : find ((bs s).take (j + 1)) with
      | none =>
        rw [hf] at hl
        simp only [entV, Option.isSome_none] at hl
        have HN2 : Hid (namedP (bs s) j = named (bs s)) := by have := HN.out; rwa [namedP_none _ _ hf] at this
        clear hf
        go_wp2
        exact ⟨⟨j, by omega, rfl, rfl, rfl, HO.out _, hbel.alloc (Nat.le_of_lt hsz) _, by simp; omega, HN2⟩, by simp [intOf]⟩
      | some e =>
        rw [hf] at hl
        simp only [entV, Option.isSome_some] at hl
        have Hf := Lib.hid hf
        clear hf
        go_wp2_with fail
        refine (prefix_from s (j + 1) [59] _).mono ?_
        rintro e1 w1 ⟨rfl, rfl⟩
        by_cases hb : begins ((bs s).drop (j + 1)) [59] = true
        · have hn : named (bs s) = (e.is, j + 2) := by rw [← HN.out, namedP_semi _ _ e Hf.out hb]
          have HNN := Lib.hid hn
          clear hn
          go_wp2
          rw [Exit.noGoto_ret]
          go_ret2
          exact ⟨by rw [HNN.out]; rfl, hbel.alloc (Nat.le_of_lt hsz) _⟩
        · have hb' : begins ((bs s).drop (j + 1)) [59] = false := by simpa using hb
          clear hb
          by_cases hbare : e.bare = true
          · have hn : named (bs s) = (e.is, j + 1) := by rw [← HN.out, namedP_bare _ _ e Hf.out hb' hbare]
            have HNN := Lib.hid hn
            clear hn
            go_wp2
            rw [Exit.noGoto_ret]
            go_ret2
            exact ⟨by rw [HNN.out]; rfl, hbel.alloc (Nat.le_of_lt hsz) _⟩
          · have hbare' : e.bare = false := by simpa using hbare
            clear hbare
            have HN2 : Hid (namedP (bs s) j = named (bs s)) := by have := HN.out; rwa [namedP_skip _ _ e Hf.out hb' hbare'] at this
            go_wp2
            exact ⟨⟨j, by omega, rfl, rfl, rfl, HO.out _, hbel.alloc (Nat.le_of_lt hsz) _, by simp; omega, HN2⟩, by simp [intOf]⟩
end Tym
