/- The walks of package class and of the small functions of package ent. The walks of package ent's tables and numbers, and the reference's. The walks of ent.Named and of the reference's Named. -/
import Derived.Test.YtpgdkhdnnegmaaaGreatBase
import Derived.Test.YtpgdkhdnnegmaaaGreatShelf
import Derived.Test.YtpgdkhdnnegmaaaGreatLaws
import Derived.WalkMore

namespace Tym
open Go Go.RowKit Go.Proofs

theorem digit_any (c : UInt8) (w : World) : Calls Tryz.prog 75 #[.int .u8 (c.toNat : Int)] w fun e w' => e = .returned (.bool (isDigit c)) ∧ w = w' := by
  go_enter Tryz.func75, Tryz.ntmps75
  go_wp2
  go_ret
  exact ⟨ret_bool (byte_all (p := fun c => decide (((c.toNat : Int) - 48) % 256 < 10) = isDigit c) (by decide +kernel) c), rfl⟩

theorem letter_any (c : UInt8) (w : World) : Calls Tryz.prog 33 #[.int .u8 (c.toNat : Int)] w fun e w' => e = .returned (.bool (isLetter c)) ∧ w = w' := by
  go_enter Tryz.func33, Tryz.ntmps33
  go_wp2_with (simp only [or32])
  · go_ret
    rename_i h
    refine ⟨ret_bool ?_, rfl⟩
    revert h
    exact byte_all (p := fun c => (97 : Int) ≤ ((c.toNat ||| 32 : Nat) : Int) → decide (((c.toNat ||| 32 : Nat) : Int) ≤ 122) = isLetter c) (by decide +kernel) c
  · go_ret
    rename_i h
    refine ⟨ret_bool ?_, rfl⟩
    revert h
    exact byte_all (p := fun c => ((c.toNat ||| 32 : Nat) : Int) < 97 → false = isLetter c) (by decide +kernel) c

theorem small_any (c : UInt8) (w : World) : Calls Tryz.prog 62 #[.int .u8 (c.toNat : Int)] w fun e w' => e = .returned (.int .u8 ((small c).toNat : Int)) ∧ w = w' := by
  go_enter Tryz.func62, Tryz.ntmps62
  go_wp2_with (simp only [or32])
  · go_ret
    refine ⟨ret_int ?_, rfl⟩
    have h1 : (65 : Int) ≤ (c.toNat : Int) := by assumption
    have h2 : (c.toNat : Int) ≤ 90 := by assumption
    revert h1 h2
    exact byte_all (p := fun c => (65 : Int) ≤ (c.toNat : Int) → (c.toNat : Int) ≤ 90 → ((c.toNat ||| 32 : Nat) : Int) = ((small c).toNat : Int)) (by decide +kernel) c
  · go_ret
    refine ⟨ret_int ?_, rfl⟩
    have h2 : 90 < (c.toNat : Int) := by assumption
    revert h2
    exact byte_all (p := fun c => (90 : Int) < (c.toNat : Int) → (c.toNat : Int) = ((small c).toNat : Int)) (by decide +kernel) c
  · go_ret
    refine ⟨ret_int ?_, rfl⟩
    have h2 : (c.toNat : Int) < 65 := by assumption
    revert h2
    exact byte_all (p := fun c => (c.toNat : Int) < 65 → (c.toNat : Int) = ((small c).toNat : Int)) (by decide +kernel) c

theorem index_any (s : ByteArray) (c : UInt8) (w : World) : Calls Tryz.prog 43 #[.string s, .int .u8 (c.toNat : Int)] w fun e w' => e = .returned (.int .i64 (idxI c (bs s))) ∧ w = w' := by
  refine (Tryz.strings_IndexByte s (c.toNat : Int) w).mono ?_
  rintro e w' ⟨rfl, rfl⟩
  refine ⟨?_, rfl⟩
  rw [← indexByte_eq]
  have : ((c.toNat : Int)).toNat.toUInt8 = c := by simp
  rw [this]; rfl

theorem hex_any (c : UInt8) (w : World) : Calls Tryz.prog 89 #[.int .u8 (c.toNat : Int)] w fun e w' => e = .returned (.int .i64 (hex c)) ∧ w = w' := by
  go_enter Tryz.func89, Tryz.ntmps89
  go_wp2_with (first | (go_at_call 62; refine (small_any _ _).mono ?_; rintro e w' ⟨rfl, rfl⟩) | (go_at_call 43; refine (index_any _ _ _).mono ?_; rintro e w' ⟨rfl, rfl⟩))
  go_ret
  refine ⟨ret_int ?_, rfl⟩
  exact byte_all (p := fun c => idxI (small c) [48, 49, 50, 51, 52, 53, 54, 55, 56, 57, 97, 98, 99, 100, 101, 102] = hex c) (by decide +kernel) c

theorem digitR_any (c : UInt8) (w : World) : Calls Tryz.prog 83 #[.int .u8 (c.toNat : Int)] w fun e w' => e = .returned (.bool (isDigit c)) ∧ w = w' := by
  go_enter Tryz.func83, Tryz.ntmps83
  go_wp2
  all_goals (go_ret; refine ⟨ret_bool ?_, rfl⟩)
  · have h : (48 : Int) ≤ (c.toNat : Int) := by assumption
    revert h
    exact byte_all (p := fun c => (48 : Int) ≤ (c.toNat : Int) → decide ((c.toNat : Int) ≤ 57) = isDigit c) (by decide +kernel) c
  · have h : (c.toNat : Int) < 48 := by assumption
    revert h
    exact byte_all (p := fun c => (c.toNat : Int) < 48 → false = isDigit c) (by decide +kernel) c

theorem letterR_any (c : UInt8) (w : World) : Calls Tryz.prog 53 #[.int .u8 (c.toNat : Int)] w fun e w' => e = .returned (.bool (isLetter c)) ∧ w = w' := by
  go_enter Tryz.func53, Tryz.ntmps53
  go_wp2
  all_goals (go_ret; refine ⟨ret_bool ?_, rfl⟩; rw [isLetter_int, Bool.eq_iff_iff]; simp only [Bool.or_eq_true, Bool.and_eq_true, decide_eq_true_eq, Bool.false_eq_true, true_iff, false_iff]; omega)

theorem hexR_any (c : UInt8) (w : World) : Calls Tryz.prog 103 #[.int .u8 (c.toNat : Int)] w fun e w' => e = .returned (.int .i64 (hex c)) ∧ w = w' := by
  go_enter Tryz.func103, Tryz.ntmps103
  go_wp2
  all_goals (go_ret; refine ⟨ret_int ?_, rfl⟩; rw [hex_int]; (repeat' split) <;> omega)

theorem prefix_lit (s : ByteArray) (t : Bs) (w : World) : Calls Tryz.prog 38 #[.string s, .string ⟨t.toArray⟩] w fun e w' => e = .returned (.bool (begins (bs s) t)) ∧ w = w' := by
  refine (Tryz.strings_HasPrefix s ⟨t.toArray⟩ w).mono ?_
  rintro e w' ⟨rfl, rfl⟩
  exact ⟨rfl, rfl⟩

theorem character_any (n : Int) (w : World) : Calls Tryz.prog 90 #[.int .i64 n] w fun e w' => e = .returned (.bool (right n)) ∧ w = w' := by
  go_enter Tryz.func90, Tryz.ntmps90
  go_wp2
  all_goals (go_ret; refine ⟨ret_bool ?_, rfl⟩; unfold right; rw [Bool.eq_iff_iff]; simp only [Bool.or_eq_true, Bool.and_eq_true, decide_eq_true_eq, Bool.false_eq_true, true_iff, false_iff]; omega)

theorem rightR_any (n : Int) (w : World) : Calls Tryz.prog 96 #[.int .i64 n] w fun e w' => e = .returned (.bool (right n)) ∧ w = w' := by
  go_enter Tryz.func96, Tryz.ntmps96
  go_wp2
  all_goals (go_ret; refine ⟨ret_bool ?_, rfl⟩; unfold right; rw [Bool.eq_iff_iff]; simp only [Bool.or_eq_true, Bool.and_eq_true, decide_eq_true_eq, Bool.false_eq_true, true_iff, false_iff]; omega)
end Tym

namespace Tym
set_option linter.unusedSimpArgs false
set_option linter.unusedVariables false
open Go Go.RowKit Go.Proofs

def wideV : Array Value := (wide.map (Value.int .i32)).toArray
theorem wideV_get (n : Nat) (h : n < 32) : wideV[n]? = some (.int .i32 (wide.getD n 0)) := by
  have : n < wide.length := h
  simp [wideV, List.getD_eq_getElem?_getD, List.getElem?_eq_getElem this]

set_option maxRecDepth 100000 in
theorem wide_any (w : World) : Calls Tryz.prog 91 #[] w fun e w' => e = .returned (.agg wideV) ∧ Below w.heap.size w w' := by
  have hb : ∀ w : World, (Instr.build 104 #[(0, .int .i32 8364), (1, .int .i32 0), (2, .int .i32 8218), (3, .int .i32 402), (4, .int .i32 8222), (5, .int .i32 8230), (6, .int .i32 8224), (7, .int .i32 8225), (8, .int .i32 710), (9, .int .i32 8240), (10, .int .i32 352), (11, .int .i32 8249), (12, .int .i32 338), (13, .int .i32 0), (14, .int .i32 381), (15, .int .i32 0), (16, .int .i32 0), (17, .int .i32 8216), (18, .int .i32 8217), (19, .int .i32 8220), (20, .int .i32 8221), (21, .int .i32 8226), (22, .int .i32 8211), (23, .int .i32 8212), (24, .int .i32 732), (25, .int .i32 8482), (26, .int .i32 353), (27, .int .i32 8250), (28, .int .i32 339), (29, .int .i32 0), (30, .int .i32 382), (31, .int .i32 376)]).run Tryz.prog w = .ok (.agg wideV) w := fun _ => by kernel_rfl
  go_enter Tryz.func91, Tryz.ntmps91
  go_wp2_with (refine wpList_store_new rfl 104 (.tmp 0) (.tmp 1) rfl _ wideV _ rfl rfl (by kernel_rfl) rfl (by decide) ?_)
  refine bodyPost_ret (v := .agg wideV) ?_ rfl ⟨rfl, (Below.refl _ _).alloc (Nat.le_refl _) _⟩
  exact results_cell_row Tryz.results91 _ _ w.heap.size _ wideV (0, 0) _ rfl (heap_alloc_new _ _) Tryz.underlying104 rfl (by kernel_rfl)

theorem wide_index (n : Int) (h0 : 128 ≤ n) (h1 : n < 160) (w : World) : (Instr.index 104 (.agg wideV) (.int .i64 (n - 128))).run Tryz.prog w = .ok (.int .i32 (wide.getD (n - 128).toNat 0)) w :=
  run_index_arr 104 21 32 _ Tryz.underlying104 Tryz.underlying21 rfl (by kernel_rfl) _ _ _ (by omega) (by omega) (wideV_get _ (by omega)) w

theorem number_any (n : Int) (w : World) : Calls Tryz.prog 73 #[.int .i64 n] w fun e w' => e = .returned (.int .i32 (number n)) ∧ Below w.heap.size w w' := by
  by_cases hr : right n = true
  · have hr' := hr
    unfold right at hr'
    simp only [Bool.and_eq_true, decide_eq_true_eq] at hr'
    obtain ⟨⟨h0, h1⟩, -⟩ := hr'
    by_cases hw : 128 ≤ n ∧ n < 160
    · obtain ⟨h2, h3⟩ := hw
      have hix := wide_index n h2 h3
      have hnum : number n = if wide.getD (n - 128).toNat 0 = 0 then n else wide.getD (n - 128).toNat 0 := by
        unfold number; rw [if_pos hr]; by_cases h : wide.getD (n - 128).toNat 0 = 0 <;> simp [h, h2, h3]
      have HN := Lib.hid hnum
      clear hnum
      generalize wide.getD (n - 128).toNat 0 = x at *
      go_enter Tryz.func73, Tryz.ntmps73
      go_wp2_with (first | (go_at_call 90; refine (character_any _ _).mono ?_; rintro e w' ⟨rfl, rfl⟩) | (go_at_call 91; refine (wide_any _).mono ?_; rintro e w' ⟨rfl, hb⟩))
      · go_ret
        have hx : (x != 0) = true := by assumption
        exact ⟨ret_int (by rw [HN.out, if_neg (by simpa using hx)]), hb⟩
      · go_ret
        have hx : (x != 0) = false := by assumption
        exact ⟨ret_int (by rw [HN.out, if_pos (by simpa using hx)]), hb⟩
    · have hnum : number n = n := by
        unfold number; rw [if_pos hr, if_neg (fun h => hw ⟨h.1, h.2.1⟩)]
      have HN := Lib.hid hnum
      clear hnum
      go_enter Tryz.func73, Tryz.ntmps73
      go_wp2_with (first | (go_at_call 90; refine (character_any _ _).mono ?_; rintro e w' ⟨rfl, rfl⟩) | (go_at_call 91; refine (wide_any _).mono ?_; rintro e w' ⟨rfl, hb⟩))
      all_goals (go_ret; exact ⟨ret_int HN.out.symm, Below.refl _ _⟩)
  · have hnum : number n = 65533 := by unfold number; rw [if_neg hr]
    have hr' : right n = false := by simpa using hr
    go_enter Tryz.func73, Tryz.ntmps73
    go_wp2_with (first | (go_at_call 90; refine (character_any _ _).mono ?_; rintro e w' ⟨rfl, rfl⟩) | (go_at_call 91; refine (wide_any _).mono ?_; rintro e w' ⟨rfl, hb⟩))
    go_ret
    exact ⟨ret_int (by first | rfl | exact hnum.symm), Below.refl _ _⟩

theorem begins_any (s : ByteArray) (t : ByteArray) (w : World) : Calls Tryz.prog 94 #[.string s, .string t] w fun e w' => e = .returned (.bool (begins (bs s) (bs t))) ∧ w = w' := by
  go_enter Tryz.func94, Tryz.ntmps94
  go_wp2
  all_goals (go_ret; refine ⟨ret_bool ?_, rfl⟩)
  · rename_i h
    have := Lib.hasPrefix_raw s t
    rw [decide_eq_true h, Bool.true_and] at this
    exact this
  · rename_i h
    have := Lib.hasPrefix_raw s t
    rw [decide_eq_false h, Bool.false_and] at this
    exact this

set_option maxRecDepth 100000 in
theorem window_any (w : World) : Calls Tryz.prog 97 #[] w fun e w' => e = .returned (.slice (some ⟨w.heap.size, 0, none⟩) 32 32) ∧ w' = w.alloc (.cells wideV 21) :=
  calls_of_runC (t := 0) Tryz.func97 rfl rfl (by kernel_rfl)

def namesV : Array Value := (tableRows.flatMap fun r => [.string (mk r.1), .string (mk r.2.1), .bool r.2.2]).toArray

set_option maxRecDepth 100000 in
theorem names_any (w : World) : Calls Tryz.prog 98 #[] w fun e w' => e = .returned (.slice (some ⟨w.heap.size, 0, none⟩) 98 98) ∧ w' = w.alloc (.cells namesV 117) :=
  calls_of_runC (t := 0) Tryz.func98 rfl rfl (by kernel_rfl)

noncomputable def tableL : List Oper := opsOf Tryz.f92.body
def tableT : List (ByteArray × ByteArray × Bool) := tableRows.map fun r => (mk r.1, mk r.2.1, r.2.2)
def tableV : List Row := tableT.map rowOf

theorem tableV_apart : tableV.Pairwise (fun x y => (y.1 == x.1) = false) := by
  have h : tableRows.Pairwise (fun x y => y.1 ≠ x.1) := by decide +kernel
  unfold tableV tableT
  rw [List.map_map, List.pairwise_map]
  refine h.imp fun {x y} hxy => ?_
  show (mk y.1 == mk x.1) = false
  rw [ba_beq, bs_mk, bs_mk]
  simpa using hxy

set_option maxRecDepth 100000 in
theorem table_any (w : World) : Calls Tryz.prog 92 #[] w fun e w' => e = .returned (.map (some w.heap.size)) ∧ w' = w.alloc (.map (entriesFrom tableV 0).toArray tableV.length) := by
  have hbuild : ∀ (v : ByteArray) (b : Bool) (w : World), (Instr.build 109 #[(0, .string v), (1, .bool b)]).run Tryz.prog w = .ok (.agg #[.string v, .bool b]) w := fun v b w => by kernel_rfl
  refine calls_lit (a0 := { tmps := (Array.replicate 101 undef).setIfInBounds 0 (.map none), defers := [] }) Tryz.func92 (by kernel_rfl) (by kernel_rfl) ?_
  have hl : opsOf Tryz.f92.body = tableL.getD 0 default :: tableL.drop 1 := by kernel_rfl
  generalize hops : (opsOf Tryz.f92.body).toArray = ops
  rw [hl]
  refine wpList_makeMap 106 (by kernel_rfl) (by kernel_rfl) ?_
  have hlit : litRows 106 109 1 (tableL.drop 1) 2 = (tableT, tableL.drop 197) := by kernel_rfl
  have d1 : (tableL.getD 0 default).dst = some 1 := by kernel_rfl
  rw [d1]
  have hlast : tableL.drop 197 = [tableL.getD 197 default, tableL.getD 198 default] := by kernel_rfl
  refine wpList_lit 106 9 109 1 Tryz.underlying106 Tryz.underlying9 hbuild w _ (tableL.drop 1) 2 [] _ (Nat.le_refl _) ?_ ?_ ?_ ?_
  · simp [Act.put, Array.getD_eq_getD_getElem?]
  · rw [hlit]; simp [Act.put, tableT, tableRows]
  · rw [hlit]; exact tableV_apart
  · intro a' h1 h2 h3
    rw [hlit, hlast]
    refine wpList_moved (.tmp 1) (.inl (by kernel_rfl)) (by kernel_rfl) ?_
    refine wpList_moved (.tmp 100) (.inr (by kernel_rfl)) (by kernel_rfl) ?_
    have d2 : (tableL.getD 197 default).dst = some 100 := by kernel_rfl
    have d3 : (tableL.getD 198 default).dst = some 0 := by kernel_rfl
    rw [d2, d3]
    refine wpList_nil ⟨rfl, ?_, _, results_tmp (t := 0) (by kernel_rfl) _ _ _, ?_, rfl⟩
    · simp [Act.put, h3]
    · have hs : a'.tmps.size = 101 := by rw [h2]; simp [Act.put]
      have hm : ({ a' with tmps := a'.tmps.setIfInBounds 100 (a'.eval (.tmp 1)) } : Act).eval (.tmp 100) = .map (some w.heap.size) := by
        show (a'.tmps.setIfInBounds 100 (a'.tmps.getD 1 undef)).getD 100 undef = _
        rw [getD_set_eq _ _ _ (by omega), h1]
      simp only [Act.put]
      rw [hm, getD_set_eq _ _ _ (by simp; omega)]
end Tym

namespace Tym
set_option linter.unusedSimpArgs false
set_option linter.unusedVariables false
open Go Go.RowKit Go.Proofs

def entV : Option Ent → Value
  | none => .agg #[.string ⟨#[]⟩, .bool false]
  | some e => .agg #[.string (mk e.is), .bool e.bare]

theorem find_tableV (k : ByteArray) : ((tableV.find? (fun r => k == r.1)).map (·.2)).getD (.agg #[.string ⟨#[]⟩, .bool false]) = entV (find (bs k)) ∧ (tableV.find? (fun r => k == r.1)).isSome = (find (bs k)).isSome := by
  unfold tableV tableT find table
  rw [List.map_map, List.find?_map, List.find?_map]
  have e : ((fun r : Row => k == r.1) ∘ (rowOf ∘ fun r : Bs × Bs × Bool => (mk r.1, mk r.2.1, r.2.2))) = ((fun e : Ent => e.name == bs k) ∘ fun x : Bs × Bs × Bool => (⟨x.1, x.2.1, x.2.2⟩ : Ent)) := by
    funext r
    show (k == mk r.1) = (r.1 == bs k)
    rw [ba_beq, bs_mk, Bool.beq_comm]
  rw [e]
  cases tableRows.find? _ with
  | none => exact ⟨rfl, rfl⟩
  | some r => exact ⟨rfl, rfl⟩

/-- The block that the table's map is. -/
def tableObj : Obj := .map (entriesFrom tableV 0).toArray tableV.length

theorem tableO_any (w : World) : Calls Tryz.prog 92 #[] w fun e w' => e = .returned (.map (some w.heap.size)) ∧ w' = w.alloc tableObj := table_any w

theorem look_any (w : World) (B : Nat) (hb : w.heap[B]? = some tableObj) (k : ByteArray) :
    (Instr.lookup 106 (.map (some B)) (.string k) true).run Tryz.prog w = .ok (.tuple #[entV (find (bs k)), .bool (find (bs k)).isSome]) w := by
  have hz : (zeroValue 109).run Tryz.prog w = .ok (.agg #[.string ⟨#[]⟩, .bool false]) w := by kernel_rfl
  rw [run_lookup_row 106 9 109 Tryz.underlying106 Tryz.underlying9 _ hz B tableV tableV.length hb k]
  rw [(find_tableV k).1, (find_tableV k).2]

theorem prefix_from (s : ByteArray) (k : Nat) (t : Bs) (w : World) : Calls Tryz.prog 38 #[.string (s.extract k s.size), .string ⟨t.toArray⟩] w fun e w' => e = .returned (.bool (begins ((bs s).drop k) t)) ∧ w = w' := by
  rw [← bs_from]; exact prefix_lit _ t w

theorem begins_head (l : Bs) : begins l [59] = true ↔ l.head? = some 59 := by
  cases l with
  | nil => simp [begins]
  | cons a l => simp [begins]; exact eq_comm

theorem namedP_none (s : Bs) (k : Nat) (h : find (s.take (k + 1)) = none) : namedP s (k + 1) = namedP s k := by
  rw [namedP, h]
theorem namedP_semi (s : Bs) (k : Nat) (e : Ent) (h : find (s.take (k + 1)) = some e) (hb : begins (s.drop (k + 1)) [59] = true) : namedP s (k + 1) = (e.is, k + 2) := by
  rw [namedP, h]; simp only; rw [if_pos ((begins_head _).1 hb)]
theorem namedP_bare (s : Bs) (k : Nat) (e : Ent) (h : find (s.take (k + 1)) = some e) (hb : begins (s.drop (k + 1)) [59] = false) (hbare : e.bare = true) : namedP s (k + 1) = (e.is, k + 1) := by
  rw [namedP, h]; simp only; rw [if_neg (fun h => by rw [(begins_head _).2 h] at hb; cases hb), if_pos hbare]
theorem namedP_skip (s : Bs) (k : Nat) (e : Ent) (h : find (s.take (k + 1)) = some e) (hb : begins (s.drop (k + 1)) [59] = false) (hbare : e.bare = false) : namedP s (k + 1) = namedP s k := by
  rw [namedP, h]; simp only; rw [if_neg (fun h => by rw [(begins_head _).2 h] at hb; cases hb), if_neg (by rw [hbare]; exact Bool.false_ne_true)]
theorem namedP_zero (s : Bs) : namedP s 0 = ([], 0) := rfl

attribute [local irreducible] namedP find named tableObj

set_option maxHeartbeats 1000000 in
theorem named_any (s : ByteArray) (w : World) (hs : s.size ≤ 1000000000) : Calls Tryz.prog 74 #[.string s] w fun e w' => e = .returned (.tuple #[.string (mk (named (bs s)).1), .int .i64 (named (bs s)).2]) ∧ Below w.heap.size w w' := by
  go_enter Tryz.func74, Tryz.ntmps74
  go_wp2
  go_step3
  go_wp2_with (first | (go_at_call 92; refine (tableO_any _).mono ?_; rintro e w' ⟨rfl, rfl⟩))
  go_step3
  go_wp2_with fail
  have H0 : Hid (namedP (bs s) (min 8 s.size) = named (bs s)) := by unfold named; rw [size_bs]; rfl
  have HM : Hid (((min 8 s.size : Nat) : Int) = min 8 (s.size : Int)) := by show ((min 8 s.size : Nat) : Int) = min 8 (s.size : Int); omega
  have hm8 : min 8 s.size ≤ 8 := Nat.min_le_left _ _
  have hms : min 8 s.size ≤ s.size := Nat.min_le_right _ _
  generalize min 8 s.size = m0 at *
  go_loopw [5, 6, 7] (fun is n k wr => ∃ j : Nat, j ≤ m0 ∧ k = .int .i64 j ∧ is = .string ⟨#[]⟩ ∧ n = .int .i64 0 ∧ wr.heap[w.heap.size]? = some tableObj ∧ Below w.heap.size w wr ∧ w.heap.size < wr.heap.size ∧ Hid (namedP (bs s) j = named (bs s))) (fun _ _ k _ => (intOf k).toNat)
  case atStart => exact ⟨m0, Nat.le_refl _, by rw [HM.out], rfl, rfl, blk_new w _, (Below.refl _ _).alloc (Nat.le_refl _) _, by simp, H0⟩
  case round =>
    obtain ⟨j, hj, rfl, rfl, rfl, hmap, hbel, hsz, HN⟩ := hrel
    have old : ∀ o : Obj, (wr.alloc o).heap[w.heap.size]? = some tableObj := fun o => by rw [blk_old _ _ _ hsz]; exact hmap
    have HO := Lib.hid old
    have HM2 := Lib.hid hmap
    clear old
    rcases j with _ | j
    · clear hmap
      go_wp2
      rw [Exit.noGoto_ret]
      go_ret2
      have hn := HN.out
      rw [namedP_zero] at hn
      exact ⟨by rw [← hn]; rfl, hbel⟩
    · have hl := look_any wr w.heap.size hmap (s.extract 0 (j + 1))
      rw [bs_to] at hl
      clear hmap
      cases hf : find ((bs s).take (j + 1)) with
      | none =>
        rw [hf] at hl
        simp only [entV, Option.isSome_none] at hl
        have HN2 : Hid (namedP (bs s) j = named (bs s)) := by have := HN.out; rwa [namedP_none _ _ hf] at this
        clear hf
        go_wp2
        exact ⟨⟨j, by omega, rfl, rfl, rfl, HO.out _, hbel.alloc (Nat.le_of_lt hsz) _, by simp; omega, HN2⟩, by simp [intOf]⟩
      | some e =>
        rw [hf] at hl
        simp only [entV, Option.isSome_some] at hl
        have Hf := Lib.hid hf
        clear hf
        go_wp2_with fail
        refine (prefix_from s (j + 1) [59] _).mono ?_
        rintro e1 w1 ⟨rfl, rfl⟩
        by_cases hb : begins ((bs s).drop (j + 1)) [59] = true
        · have hn : named (bs s) = (e.is, j + 2) := by rw [← HN.out, namedP_semi _ _ e Hf.out hb]
          have HNN := Lib.hid hn
          clear hn
          go_wp2
          rw [Exit.noGoto_ret]
          go_ret2
          exact ⟨by rw [HNN.out]; rfl, hbel.alloc (Nat.le_of_lt hsz) _⟩
        · have hb' : begins ((bs s).drop (j + 1)) [59] = false := by simpa using hb
          clear hb
          by_cases hbare : e.bare = true
          · have hn : named (bs s) = (e.is, j + 1) := by rw [← HN.out, namedP_bare _ _ e Hf.out hb' hbare]
            have HNN := Lib.hid hn
            clear hn
            go_wp2
            rw [Exit.noGoto_ret]
            go_ret2
            exact ⟨by rw [HNN.out]; rfl, hbel.alloc (Nat.le_of_lt hsz) _⟩
          · have hbare' : e.bare = false := by simpa using hbare
            clear hbare
            have HN2 : Hid (namedP (bs s) j = named (bs s)) := by have := HN.out; rwa [namedP_skip _ _ e Hf.out hb' hbare'] at this
            go_wp2
            exact ⟨⟨j, by omega, rfl, rfl, rfl, HO.out _, hbel.alloc (Nat.le_of_lt hsz) _, by simp; omega, HN2⟩, by simp [intOf]⟩
end Tym
