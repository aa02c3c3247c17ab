/- The walks of package ent's tables and numbers, and the reference's. -/
import Derived.Test.YtdfefcikcfejoaaEntA
import Derived.Test.YtdfefcikcfejoaaLaws
set_option linter.unusedSimpArgs false
set_option linter.unusedVariables false
open Go Go.RowKit Go.Proofs
namespace Tym

def wideV : Array Value := (wide.map (Value.int .i32)).toArray
theorem wideV_get (n : Nat) (h : n < 32) : wideV[n]? = some (.int .i32 (wide.getD n 0)) := by
  have : n < wide.length := h
  simp [wideV, List.getD_eq_getElem?_getD, List.getElem?_eq_getElem this]

set_option maxRecDepth 100000 in
theorem wide_any (w : World) : Calls Try.prog 49 #[] w fun e w' => e = .returned (.agg wideV) ∧ Below w.heap.size w w' := by
  have hb : ∀ w : World, (Instr.build 59 #[(0, .int .i32 8364), (1, .int .i32 0), (2, .int .i32 8218), (3, .int .i32 402), (4, .int .i32 8222), (5, .int .i32 8230), (6, .int .i32 8224), (7, .int .i32 8225), (8, .int .i32 710), (9, .int .i32 8240), (10, .int .i32 352), (11, .int .i32 8249), (12, .int .i32 338), (13, .int .i32 0), (14, .int .i32 381), (15, .int .i32 0), (16, .int .i32 0), (17, .int .i32 8216), (18, .int .i32 8217), (19, .int .i32 8220), (20, .int .i32 8221), (21, .int .i32 8226), (22, .int .i32 8211), (23, .int .i32 8212), (24, .int .i32 732), (25, .int .i32 8482), (26, .int .i32 353), (27, .int .i32 8250), (28, .int .i32 339), (29, .int .i32 0), (30, .int .i32 382), (31, .int .i32 376)]).run Try.prog w = .ok (.agg wideV) w := fun _ => by kernel_rfl
  go_enter Try.func49, Try.ntmps49
  go_wp2_with (refine wpList_store_new rfl 59 (.tmp 0) (.tmp 1) rfl _ wideV _ rfl rfl (by kernel_rfl) rfl (by decide) ?_)
  refine bodyPost_ret (v := .agg wideV) ?_ rfl ⟨rfl, (Below.refl _ _).alloc (Nat.le_refl _) _⟩
  exact results_cell_row Try.results49 _ _ w.heap.size _ wideV (0, 0) _ rfl (heap_alloc_new _ _) Try.underlying59 rfl (by kernel_rfl)

theorem wide_index (n : Int) (h0 : 128 ≤ n) (h1 : n < 160) (w : World) : (Instr.index 59 (.agg wideV) (.int .i64 (n - 128))).run Try.prog w = .ok (.int .i32 (wide.getD (n - 128).toNat 0)) w :=
  run_index_arr 59 21 32 _ Try.underlying59 Try.underlying21 rfl (by kernel_rfl) _ _ _ (by omega) (by omega) (wideV_get _ (by omega)) w

theorem number_any (n : Int) (w : World) : Calls Try.prog 34 #[.int .i64 n] w fun e w' => e = .returned (.int .i32 (number n)) ∧ Below w.heap.size w w' := by
  by_cases hr : right n = true
  · have hr' := hr
    unfold right at hr'
    simp only [Bool.and_eq_true, decide_eq_true_eq] at hr'
    obtain ⟨⟨h0, h1⟩, -⟩ := hr'
    by_cases hw : 128 ≤ n ∧ n < 160
    · obtain ⟨h2, h3⟩ := hw
      have hix := wide_index n h2 h3
      have hnum : number n = if wide.getD (n - 128).toNat 0 = 0 then n else wide.getD (n - 128).toNat 0 := by
        unfold number; rw [if_pos hr]; by_cases h : wide.getD (n - 128).toNat 0 = 0 <;> simp [h, h2, h3]
      have HN := Lib.hid hnum
      clear hnum
      generalize wide.getD (n - 128).toNat 0 = x at *
      go_enter Try.func34, Try.ntmps34
      go_wp2_with (first | (go_at_call 48; refine (character_any _ _).mono ?_; rintro e w' ⟨rfl, rfl⟩) | (go_at_call 49; refine (wide_any _).mono ?_; rintro e w' ⟨rfl, hb⟩))
      · go_ret
        have hx : (x != 0) = true := by assumption
        exact ⟨ret_int (by rw [HN.out, if_neg (by simpa using hx)]), hb⟩
      · go_ret
        have hx : (x != 0) = false := by assumption
        exact ⟨ret_int (by rw [HN.out, if_pos (by simpa using hx)]), hb⟩
    · have hnum : number n = n := by
        unfold number; rw [if_pos hr, if_neg (fun h => hw ⟨h.1, h.2.1⟩)]
      have HN := Lib.hid hnum
      clear hnum
      go_enter Try.func34, Try.ntmps34
      go_wp2_with (first | (go_at_call 48; refine (character_any _ _).mono ?_; rintro e w' ⟨rfl, rfl⟩) | (go_at_call 49; refine (wide_any _).mono ?_; rintro e w' ⟨rfl, hb⟩))
      all_goals (go_ret; exact ⟨ret_int HN.out.symm, Below.refl _ _⟩)
  · have hnum : number n = 65533 := by unfold number; rw [if_neg hr]
    have hr' : right n = false := by simpa using hr
    go_enter Try.func34, Try.ntmps34
    go_wp2_with (first | (go_at_call 48; refine (character_any _ _).mono ?_; rintro e w' ⟨rfl, rfl⟩) | (go_at_call 49; refine (wide_any _).mono ?_; rintro e w' ⟨rfl, hb⟩))
    go_ret
    exact ⟨ret_int (by first | rfl | exact hnum.symm), Below.refl _ _⟩

theorem begins_any (s : ByteArray) (t : ByteArray) (w : World) : Calls Try.prog 51 #[.string s, .string t] w fun e w' => e = .returned (.bool (begins (bs s) (bs t))) ∧ w = w' := by
  go_enter Try.func51, Try.ntmps51
  go_wp2
  all_goals (go_ret; refine ⟨ret_bool ?_, rfl⟩)
  · rename_i h
    have := Lib.hasPrefix_raw s t
    rw [decide_eq_true h, Bool.true_and] at this
    exact this
  · rename_i h
    have := Lib.hasPrefix_raw s t
    rw [decide_eq_false h, Bool.false_and] at this
    exact this

set_option maxRecDepth 100000 in
theorem window_any (w : World) : Calls Try.prog 54 #[] w fun e w' => e = .returned (.slice (some ⟨w.heap.size, 0, none⟩) 32 32) ∧ w' = w.alloc (.cells wideV 21) :=
  calls_of_runC (t := 0) Try.func54 rfl rfl (by kernel_rfl)

def namesV : Array Value := (tableRows.flatMap fun r => [.string (mk r.1), .string (mk r.2.1), .bool r.2.2]).toArray

set_option maxRecDepth 100000 in
theorem names_any (w : World) : Calls Try.prog 55 #[] w fun e w' => e = .returned (.slice (some ⟨w.heap.size, 0, none⟩) 98 98) ∧ w' = w.alloc (.cells namesV 72) :=
  calls_of_runC (t := 0) Try.func55 rfl rfl (by kernel_rfl)

noncomputable def tableL : List Oper := opsOf Try.f50.body
def tableT : List (ByteArray × ByteArray × Bool) := tableRows.map fun r => (mk r.1, mk r.2.1, r.2.2)
def tableV : List Row := tableT.map rowOf

theorem tableV_apart : tableV.Pairwise (fun x y => (y.1 == x.1) = false) := by
  have h : tableRows.Pairwise (fun x y => y.1 ≠ x.1) := by decide +kernel
  unfold tableV tableT
  rw [List.map_map, List.pairwise_map]
  refine h.imp fun {x y} hxy => ?_
  show (mk y.1 == mk x.1) = false
  rw [ba_beq, bs_mk, bs_mk]
  simpa using hxy

set_option maxRecDepth 100000 in
theorem table_any (w : World) : Calls Try.prog 50 #[] w fun e w' => e = .returned (.map (some w.heap.size)) ∧ w' = w.alloc (.map (entriesFrom tableV 0).toArray tableV.length) := by
  have hbuild : ∀ (v : ByteArray) (b : Bool) (w : World), (Instr.build 64 #[(0, .string v), (1, .bool b)]).run Try.prog w = .ok (.agg #[.string v, .bool b]) w := fun v b w => by kernel_rfl
  refine calls_lit (a0 := { tmps := (Array.replicate 101 undef).setIfInBounds 0 (.map none), defers := [] }) Try.func50 (by kernel_rfl) (by kernel_rfl) ?_
  have hl : opsOf Try.f50.body = tableL.getD 0 default :: tableL.drop 1 := by kernel_rfl
  generalize hops : (opsOf Try.f50.body).toArray = ops
  rw [hl]
  refine wpList_makeMap 61 (by kernel_rfl) (by kernel_rfl) ?_
  have hlit : litRows 61 64 1 (tableL.drop 1) 2 = (tableT, tableL.drop 197) := by kernel_rfl
  have d1 : (tableL.getD 0 default).dst = some 1 := by kernel_rfl
  rw [d1]
  have hlast : tableL.drop 197 = [tableL.getD 197 default, tableL.getD 198 default] := by kernel_rfl
  refine wpList_lit 61 9 64 1 Try.underlying61 Try.underlying9 hbuild w _ (tableL.drop 1) 2 [] _ (Nat.le_refl _) ?_ ?_ ?_ ?_
  · simp [Act.put, Array.getD_eq_getD_getElem?]
  · rw [hlit]; simp [Act.put, tableT, tableRows]
  · rw [hlit]; exact tableV_apart
  · intro a' h1 h2 h3
    rw [hlit, hlast]
    refine wpList_moved (.tmp 1) (.inl (by kernel_rfl)) (by kernel_rfl) ?_
    refine wpList_moved (.tmp 100) (.inr (by kernel_rfl)) (by kernel_rfl) ?_
    have d2 : (tableL.getD 197 default).dst = some 100 := by kernel_rfl
    have d3 : (tableL.getD 198 default).dst = some 0 := by kernel_rfl
    rw [d2, d3]
    refine wpList_nil ⟨rfl, ?_, _, results_tmp (t := 0) (by kernel_rfl) _ _ _, ?_, rfl⟩
    · simp [Act.put, h3]
    · have hs : a'.tmps.size = 101 := by rw [h2]; simp [Act.put]
      have hm : ({ a' with tmps := a'.tmps.setIfInBounds 100 (a'.eval (.tmp 1)) } : Act).eval (.tmp 100) = .map (some w.heap.size) := by
        show (a'.tmps.setIfInBounds 100 (a'.tmps.getD 1 undef)).getD 100 undef = _
        rw [getD_set_eq _ _ _ (by omega), h1]
      simp only [Act.put]
      rw [hm, getD_set_eq _ _ _ (by simp; omega)]
end Tym
