/- Tokens, plainly; what Read hands back, whatever stands there. -/
import Derived.Test.YtpgdkhdnnegmaaaGreatTagJ
set_option linter.unusedSimpArgs false
set_option linter.unusedVariables false
open Go Go.RowKit Go.Proofs
namespace Tym
set_option maxRecDepth 20000

structure Tok where
  kind : Nat
  name : Bs
  atts : List Att
  closing : Bool
  text : Bs
deriving DecidableEq
def tokNone : Tok := ⟨0, [], [], false, []⟩
def tokOf (o : TagOut) : Tok := ⟨o.kind, o.name, o.atts, o.closing, []⟩

/-- A value that is this token; its attributes lie from block B on. -/
def TokVal (w : World) (B : Nat) (t : Tok) (v : Value) : Prop := ∃ x, v = .agg (tokCells t.kind (mk t.name) x t.closing (mk t.text)) ∧ AttsAt w B x t.atts

theorem tokval_none (w : World) (B : Nat) : TokVal w B tokNone (.agg tokZero) := ⟨.slice none 0 0, rfl, .inl ⟨rfl, rfl⟩⟩
theorem TokVal.below {w w' : World} {B : Nat} {t : Tok} {v : Value} (h : TokVal w B t v) (hb : Below w.heap.size w w') : TokVal w' B t v := by
  obtain ⟨x, rfl, hx⟩ := h; exact ⟨x, rfl, hx.below hb⟩
theorem TokVal.mono {w : World} {B B' : Nat} {t : Tok} {v : Value} (h : TokVal w B t v) (hb : B' ≤ B) : TokVal w B' t v := by
  obtain ⟨x, rfl, hx⟩ := h; exact ⟨x, rfl, hx.mono hb⟩

/-- The tag at a place: the token, where it ends, whether there is one. -/
def tagAt (n : Nat) (k : Nat) (r : Bs) : Tok × Int × Bool :=
  if beginsTag r then
    match readTag r with
    | none => (tokNone, (n : Int), false)
    | some o => (tokOf o, ((n - o.rest.length : Nat) : Int), true)
  else (tokNone, (k : Int), false)
def tagRead (s : ByteArray) (i : Int) : Tok × Int × Bool := if i < 0 ∨ (s.size : Int) ≤ i then (tokNone, i, false) else tagAt s.size i.toNat ((bs s).drop i.toNat)

def TagPost (w : World) (q : Tok × Int × Bool) (e : Ending) (w' : World) : Prop := (∃ v, e = .returned (.tuple #[v, .int .i64 q.2.1, .bool q.2.2]) ∧ TokVal w' w.heap.size q.1 v) ∧ Below w.heap.size w w'

theorem read_post (s : ByteArray) (k : Nat) (kd : Nat) (nm : Bs) (w : World) (res : Option (List Att × Bool × Bs)) (e : Ending) (w' : World) (r : Bs) (hb : beginsTag r = true)
    (hr : readTag r = match res with | none => none | some (l, c, u) => some (if kd = 3 then ⟨3, nm, [], false, u⟩ else ⟨2, nm, l, c, u⟩)) (h : ReadPost s kd (mk nm) w res e w') : TagPost w (tagAt s.size k r) e w' := by
  unfold ReadPost at h
  unfold tagAt
  rw [if_pos hb]
  cases res with
  | none => rw [hr]; exact ⟨⟨_, h.2, tokval_none _ _⟩, h.1⟩
  | some p =>
    obtain ⟨l, c, u⟩ := p
    have hr2 : readTag r = some (if kd = 3 then ⟨3, nm, [], false, u⟩ else ⟨2, nm, l, c, u⟩) := hr
    obtain ⟨hbl, ⟨hk, he⟩ | ⟨hk, v, he, hv⟩⟩ := h
    · have hk' : kd = 3 := by omega
      rw [if_pos hk'] at hr2
      rw [hr2]
      exact ⟨⟨_, he, ⟨_, rfl, .inl ⟨rfl, rfl⟩⟩⟩, hbl⟩
    · have hk' : ¬ kd = 3 := by omega
      rw [if_neg hk'] at hr2
      rw [hr2]
      exact ⟨⟨_, he, ⟨_, rfl, hv⟩⟩, hbl⟩

theorem read_in (s : ByteArray) (k : Nat) (w : World) (hs : s.size ≤ 1000000) (hk : k < s.size) : Calls Tryz.prog 14 #[.string s, .int .i64 k] w (TagPost w (tagAt s.size k ((bs s).drop k))) := by
  have hB := fun w => begins_in s k w hs hk
  cases hb : beginsTag ((bs s).drop k) with
  | false =>
    rw [hb] at hB
    refine (read_not s k w hB).mono ?_
    rintro e w' ⟨rfl, h⟩
    unfold tagAt
    rw [hb]
    exact ⟨⟨_, rfl, tokval_none _ _⟩, h⟩
  | true =>
    rw [hb] at hB
    obtain ⟨t, ht, hh⟩ := begins_cons _ hb
    obtain ⟨_, hc, ht1⟩ := drop_cons_get s k 60 t ht
    rcases hh with ⟨h1, d, u, rfl, hd⟩ | ⟨h1, d, u, rfl, hd⟩
    · obtain ⟨hk1, hc1, ht2⟩ := drop_cons_get s (k + 1) 47 (d :: u) ht1
      have hsd := skip_drop namedB s (k + 2)
      rw [show k + 2 = k + 1 + 1 from rfl, ht2] at hsd
      have hst := skip_text namedB s (k + 2)
      rw [show k + 2 = k + 1 + 1 from rfl, ht2] at hst
      refine (read_walk3 s k w hs hk1 3 (k + 2) ⟨rfl, rfl, hc1⟩ hB _ _ rfl rfl _ rfl).mono ?_
      intro e w' h
      rw [show k + 2 = k + 1 + 1 from rfl, hsd, ← hst, bs_mk] at h
      refine read_post s k 3 _ w _ e w' _ hb ?_ h
      rw [ht]
      unfold readTag
      rw [if_pos (by rw [← ht]; exact hb), if_pos (by rfl)]
      simp only [List.tail_cons]
      cases tagL [] (List.dropWhile namedB (d :: u)) with
      | none => rfl
      | some p => rfl
    · obtain ⟨hk1, hc1, ht2⟩ := drop_cons_get s (k + 1) d u ht1
      have hsd := skip_drop namedB s (k + 1)
      rw [ht1] at hsd
      have hst := skip_text namedB s (k + 1)
      rw [ht1] at hst
      refine (read_walk2 s k w hs hk1 2 (k + 1) ⟨rfl, rfl, by rw [hc1]; intro h; apply h1; rw [h]; rfl⟩ hB _ _ rfl rfl _ rfl).mono ?_
      intro e w' h
      rw [hsd, ← hst, bs_mk] at h
      refine read_post s k 2 _ w _ e w' _ hb ?_ h
      rw [ht]
      unfold readTag
      rw [if_pos (by rw [← ht]; exact hb), if_neg (by exact h1)]
      simp only [List.tail_cons]
      cases tagL [] (List.dropWhile namedB (d :: u)) with
      | none => rfl
      | some p => rfl

theorem read_any (s : ByteArray) (i : Int) (w : World) (hs : s.size ≤ 1000000) : Calls Tryz.prog 14 #[.string s, .int .i64 i] w (TagPost w (tagRead s i)) := by
  unfold tagRead
  by_cases h : i < 0 ∨ (s.size : Int) ≤ i
  · rw [if_pos h]
    refine (read_not s i w fun w => begins_out s i w (by omega)).mono ?_
    rintro e w' ⟨rfl, hb⟩
    exact ⟨⟨_, rfl, tokval_none _ _⟩, hb⟩
  · rw [if_neg h]
    obtain ⟨k, rfl⟩ : ∃ k : Nat, i = k := ⟨i.toNat, by omega⟩
    rw [Int.toNat_natCast]
    exact read_in s k w hs (by omega)
end Tym
