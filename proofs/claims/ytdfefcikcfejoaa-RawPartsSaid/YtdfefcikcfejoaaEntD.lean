/- The walk of the reference's Named. -/
import Derived.Test.YtdfefcikcfejoaaEntC
set_option linter.unusedSimpArgs false
set_option linter.unusedVariables false
open Go Go.RowKit Go.Proofs
namespace Tym

theorem namesV_cells (i : Nat) (h : i < 98) : namesV[i * 3]? = some (.string (mk (table.getD i ⟨[], [], false⟩).name)) ∧ namesV[i * 3 + 1]? = some (.string (mk (table.getD i ⟨[], [], false⟩).is)) ∧ namesV[i * 3 + 2]? = some (.bool (table.getD i ⟨[], [], false⟩).bare) := by
  have gen : ∀ (l : List (Bs × Bs × Bool)) (i : Nat), i < l.length → ∃ r, l[i]? = some r ∧ ((l.flatMap fun r => [Value.string (mk r.1), .string (mk r.2.1), .bool r.2.2]).drop (i * 3)).take 3 = [.string (mk r.1), .string (mk r.2.1), .bool r.2.2] := by
    intro l
    induction l with
    | nil => intro i h; simp at h
    | cons r l ih =>
      intro i h
      cases i with
      | zero => exact ⟨r, rfl, by simp⟩
      | succ i =>
        obtain ⟨r', h1, h2⟩ := ih i (by simpa using h)
        refine ⟨r', by simpa using h1, ?_⟩
        have : (i + 1) * 3 = i * 3 + 3 := by omega
        rw [this, List.flatMap_cons]
        simpa using h2
  obtain ⟨r, h1, h2⟩ := gen tableRows i h
  have ht : table.getD i ⟨[], [], false⟩ = ⟨r.1, r.2.1, r.2.2⟩ := by
    unfold table; rw [List.getD_eq_getElem?_getD, List.getElem?_map, h1]; rfl
  rw [ht]
  have g : ∀ j, j < 3 → namesV[i * 3 + j]? = [Value.string (mk r.1), .string (mk r.2.1), .bool r.2.2][j]? := by
    intro j hj
    rw [← h2]
    unfold namesV
    rw [List.getElem?_take_of_lt hj, List.getElem?_drop]
    simp
  exact ⟨g 0 (by omega), g 1 (by omega), g 2 (by omega)⟩

theorem bs_append (a b : ByteArray) : bs (a ++ b) = bs a ++ bs b := by
  obtain ⟨⟨x⟩⟩ := a; obtain ⟨⟨y⟩⟩ := b
  show (ByteArray.append _ _).data.toList = _
  simp [bs, ByteArray.append, ByteArray.copySlice, ByteArray.size]

theorem begins_semi_any (s : ByteArray) (n : Bs) (w : World) : Calls Try.prog 51 #[.string s, .string (mk n ++ ⟨#[59]⟩)] w fun e w' => e = .returned (.bool (begins (bs s) (n ++ [59]))) ∧ w = w' := by
  have := begins_any s (mk n ++ ⟨#[59]⟩) w
  rw [bs_append, bs_mk] at this
  exact this

theorem begins_mk_any (s : ByteArray) (n : Bs) (w : World) : Calls Try.prog 51 #[.string s, .string (mk n)] w fun e w' => e = .returned (.bool (begins (bs s) n)) ∧ w = w' := by
  have := begins_any s (mk n) w
  rw [bs_mk] at this
  exact this

theorem nA (s l : Bs) (m : Nat) (e : Ent) (h1 : begins s (e.name ++ [59]) = true) (h2 : (m : Int) < ((mk e.name).size : Int) + 1) : nstep s (l, m) e = (e.is, (mk e.name).size + 1) := by
  rw [size_mk] at *
  rw [nstep_cand, cand, if_pos h1]; simp only; rw [if_pos (by omega)]
theorem nB (s l : Bs) (m : Nat) (e : Ent) (h1 : begins s (e.name ++ [59]) = true) (h2 : ((mk e.name).size : Int) + 1 ≤ (m : Int)) : nstep s (l, m) e = (l, m) := by
  rw [size_mk] at *
  rw [nstep_cand, cand, if_pos h1]; simp only; rw [if_neg (by omega)]
theorem nC (s l : Bs) (m : Nat) (e : Ent) (h1 : ¬ begins s (e.name ++ [59]) = true) (h3 : e.bare = true) (h4 : begins s e.name = true) (h2 : m < (mk e.name).size) : nstep s (l, m) e = (e.is, (mk e.name).size) := by
  rw [size_mk] at *
  rw [nstep_cand, cand, if_neg h1, if_pos (by rw [h3, h4]; rfl)]; simp only; rw [if_pos h2]
theorem nD (s l : Bs) (m : Nat) (e : Ent) (h1 : ¬ begins s (e.name ++ [59]) = true) (h3 : e.bare = true) (h4 : begins s e.name = true) (h2 : ¬ m < (mk e.name).size) : nstep s (l, m) e = (l, m) := by
  rw [size_mk] at *
  rw [nstep_cand, cand, if_neg h1, if_pos (by rw [h3, h4]; rfl)]; simp only; rw [if_neg h2]
theorem nE (s l : Bs) (m : Nat) (e : Ent) (h1 : ¬ begins s (e.name ++ [59]) = true) (h4 : ¬ begins s e.name = true) : nstep s (l, m) e = (l, m) := by
  rw [nstep_cand, cand, if_neg h1, if_neg (by simp [h4])]
theorem nF (s l : Bs) (m : Nat) (e : Ent) (h1 : ¬ begins s (e.name ++ [59]) = true) (h4 : ¬ e.bare = true) : nstep s (l, m) e = (l, m) := by
  rw [nstep_cand, cand, if_neg h1, if_neg (by simp [h4])]

set_option maxHeartbeats 1000000 in
theorem namedR_any (s : ByteArray) (w : World) (hs : s.size ≤ 1000000000) : Calls Try.prog 41 #[.string s] w fun e w' => e = .returned (.tuple #[.string (mk (namedR (bs s)).1), .int .i64 (namedR (bs s)).2]) ∧ Below w.heap.size w w' := by
  go_enter Try.func41, Try.ntmps41
  go_wp2_with (first | (go_at_call 55; refine (names_any _).mono ?_; rintro e w' ⟨rfl, rfl⟩))
  have hc : ∀ j, (w.alloc (.cells namesV 72)).cell? ⟨w.heap.size, j, none⟩ = namesV[j]? := fun j => cell_of_row _ _ _ _ _ (0, 0) (blk_new _ _)
  have HC := Lib.hid hc
  have hbel : Below w.heap.size w (w.alloc (.cells namesV 72)) := (Below.refl _ _).alloc (Nat.le_refl _) _
  clear hc
  generalize w.alloc (.cells namesV 72) = w1 at *
  go_loop [5, 6, 7] (fun is n k => ∃ i m : Nat, i ≤ 98 ∧ m ≤ 10000 ∧ k = .int .i64 i ∧ n = .int .i64 m ∧ ∃ l : Bs, is = .string (mk l) ∧ Hid ((table.drop i).foldl (nstep (bs s)) (l, m) = namedR (bs s))) (fun _ _ k => 98 - (intOf k).toNat)
  case atStart => exact ⟨0, 0, by omega, by omega, rfl, rfl, [], rfl, rfl⟩
  case round =>
    obtain ⟨i, m, hi, hm, rfl, rfl, l, rfl, HN⟩ := hrel
    by_cases hlt : i < 98
    · obtain ⟨c1, c2, c3⟩ := namesV_cells i hlt
      have h1 := (HC.out (i * 3)).trans c1
      have h2 := (HC.out (i * 3 + 1)).trans c2
      have h3 := (HC.out (i * 3 + 2)).trans c3
      clear c1 c2 c3
      have hname : (mk (table.getD i ⟨[], [], false⟩).name).size ≤ 8 := by
        have hp : ∀ e ∈ table, e.name.length ≤ 8 := by decide +kernel
        rw [size_mk, List.getD_eq_getElem?_getD]
        cases hh : table[i]? with
        | none => simp
        | some e => exact hp e (List.mem_of_getElem? hh)
      have hdrop : table.drop i = table.getD i ⟨[], [], false⟩ :: table.drop (i + 1) := by
        have : i < table.length := hlt
        rw [List.drop_eq_getElem_cons this, List.getD_eq_getElem?_getD, List.getElem?_eq_getElem this]; rfl
      have HN2 : Hid ((table.drop (i + 1)).foldl (nstep (bs s)) (nstep (bs s) (l, m) (table.getD i ⟨[], [], false⟩)) = namedR (bs s)) := by
        have := HN.out
        rwa [hdrop, List.foldl_cons] at this
      clear hdrop
      generalize table.getD i ⟨[], [], false⟩ = e at *
      go_wp2_with (first | (go_at_call 51; (with_reducible refine (begins_semi_any _ _ _).mono ?_); rintro e w' ⟨rfl, rfl⟩) | (go_at_call 51; (with_reducible refine (begins_mk_any _ _ _).mono ?_); rintro e w' ⟨rfl, rfl⟩))
      · exact ⟨⟨i + 1, (mk e.name).size + 1, by omega, by omega, by go_num, by go_num, e.is, rfl, by have := HN2.out; rwa [nA _ _ _ _ ‹_› ‹_›] at this⟩, by simp [intOf]; omega⟩
      · exact ⟨⟨i + 1, (mk e.name).size + 1, by omega, by omega, by go_num, by go_num, e.is, rfl, by have := HN2.out; rwa [nA _ _ _ _ ‹_› ‹_›] at this⟩, by simp [intOf]; omega⟩
      · exact ⟨⟨i + 1, (mk e.name).size + 1, by omega, by omega, by go_num, by go_num, e.is, rfl, by have := HN2.out; rwa [nA _ _ _ _ ‹_› ‹_›] at this⟩, by simp [intOf]; omega⟩
      · exact ⟨⟨i + 1, m, by omega, by omega, by go_num, rfl, l, rfl, by have := HN2.out; rwa [nB _ _ _ _ ‹_› ‹_›] at this⟩, by simp [intOf]; omega⟩
      · exact ⟨⟨i + 1, m, by omega, by omega, by go_num, rfl, l, rfl, by have := HN2.out; rwa [nB _ _ _ _ ‹_› ‹_›] at this⟩, by simp [intOf]; omega⟩
      · exact ⟨⟨i + 1, m, by omega, by omega, by go_num, rfl, l, rfl, by have := HN2.out; rwa [nB _ _ _ _ ‹_› ‹_›] at this⟩, by simp [intOf]; omega⟩
      · exact ⟨⟨i + 1, (mk e.name).size, by omega, by omega, by go_num, by go_num, e.is, rfl, by have := HN2.out; rwa [nC _ _ _ _ ‹_› ‹_› ‹_› ‹_›] at this⟩, by simp [intOf]; omega⟩
      · exact ⟨⟨i + 1, m, by omega, by omega, by go_num, rfl, l, rfl, by have := HN2.out; rwa [nD _ _ _ _ ‹_› ‹_› ‹_› ‹_›] at this⟩, by simp [intOf]; omega⟩
      · exact ⟨⟨i + 1, m, by omega, by omega, by go_num, rfl, l, rfl, by have := HN2.out; rwa [nE _ _ _ _ ‹_› ‹_›] at this⟩, by simp [intOf]; omega⟩
      · exact ⟨⟨i + 1, m, by omega, by omega, by go_num, rfl, l, rfl, by have := HN2.out; rwa [nF _ _ _ _ ‹_› ‹_›] at this⟩, by simp [intOf]; omega⟩
    · have : i = 98 := by omega
      subst this
      have hn : Hid ((l, m) = namedR (bs s)) := HN.out
      clear HN
      go_wp2
      go_ret2
      exact ⟨by rw [← hn.out]; rfl, hbel⟩
end Tym
