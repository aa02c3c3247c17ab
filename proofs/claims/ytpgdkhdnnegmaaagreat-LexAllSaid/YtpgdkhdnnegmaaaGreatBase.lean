/- What all walks of this claim share: strings as lists of bytes, small forms of results. No program in sight. -/
import Derived.Test.YtpgdkhdnnegmaaaGreatPlainEnt
import Derived.WalkKit
import Derived.WalkSpells
import Derived.Lib.Hide
import Derived.Lib.Strings
import Derived.Lib.Bytealg
import Derived.Lib.IndexLaws
open Go Go.RowKit
namespace Tym

def bs (s : ByteArray) : Bs := s.data.toList
def mk (l : Bs) : ByteArray := ⟨l.toArray⟩

theorem bs_mk (l : Bs) : bs (mk l) = l := rfl
theorem mk_bs (s : ByteArray) : mk (bs s) = s := Lib.mk_data s
theorem bs_lit (l : Bs) : bs ⟨l.toArray⟩ = l := rfl
theorem mk_lit (l : Bs) : (⟨l.toArray⟩ : ByteArray) = mk l := rfl
theorem size_bs (s : ByteArray) : s.size = (bs s).length := Lib.size_eq s
theorem size_mk (l : Bs) : (mk l).size = l.length := by rw [size_bs, bs_mk]
theorem bs_inj {a b : ByteArray} (h : bs a = bs b) : a = b := by rw [← mk_bs a, ← mk_bs b, h]
theorem ba_beq (a b : ByteArray) : (a == b) = (bs a == bs b) := by
  obtain ⟨⟨x⟩⟩ := a; obtain ⟨⟨y⟩⟩ := b
  show ((⟨x⟩ : Array UInt8) == ⟨y⟩) = (x == y)
  simp
theorem toList_beq (a b : ByteArray) : (a.toList == b.toList) = (bs a == bs b) := by rw [Lib.toList_data, Lib.toList_data]; rfl
theorem bs_extract (s : ByteArray) (a b : Nat) : bs (s.extract a b) = ((bs s).drop a).take (b - a) := Lib.extract_data s a b
theorem bs_from (s : ByteArray) (a : Nat) : bs (s.extract a s.size) = (bs s).drop a := by
  rw [bs_extract, List.take_of_length_le (by rw [List.length_drop, size_bs]; exact Nat.le_refl _)]
theorem bs_to (s : ByteArray) (b : Nat) : bs (s.extract 0 b) = (bs s).take b := by
  rw [bs_extract, List.drop_zero, Nat.sub_zero]
theorem get_bs (s : ByteArray) (i : Nat) (h : i < s.size) : s[i] = (bs s).getD i 0 := by
  have h2 : i < (bs s).length := by rw [← size_bs]; exact h
  rw [List.getD_eq_getElem?_getD, List.getElem?_eq_getElem h2]
  rfl
theorem drop_bs (s : ByteArray) (i : Nat) (h : i < s.size) : (bs s).drop i = s[i] :: (bs s).drop (i + 1) := by
  have h2 : i < (bs s).length := by rw [← size_bs]; exact h
  rw [List.drop_eq_getElem_cons h2]
  rfl
theorem mk_take (s : ByteArray) (b : Nat) : mk ((bs s).take b) = s.extract 0 b := bs_inj (by rw [bs_mk, bs_to])
theorem mk_drop (s : ByteArray) (b : Nat) : mk ((bs s).drop b) = s.extract b s.size := bs_inj (by rw [bs_mk, bs_from])

theorem ret_bool {a b : Bool} (h : a = b) : Ending.returned (.bool a) = .returned (.bool b) := by rw [h]
theorem ret_int {k : IntKind} {a b : Int} (h : a = b) : Ending.returned (.int k a) = .returned (.int k b) := by rw [h]
theorem ret_str {a b : ByteArray} (h : a = b) : Ending.returned (.string a) = .returned (.string b) := by rw [h]

theorem or32 : ∀ c : UInt8, bits BinOp.or IntKind.u8 (c.toNat : Int) 32 = ((c.toNat ||| 32 : Nat) : Int) := byte_all (by decide +kernel)

theorem isDigit_int (c : UInt8) : isDigit c = (decide ((48 : Int) ≤ (c.toNat : Int)) && decide ((c.toNat : Int) ≤ 57)) :=
  byte_all (p := fun c => isDigit c = (decide ((48 : Int) ≤ (c.toNat : Int)) && decide ((c.toNat : Int) ≤ 57))) (by decide +kernel) c
theorem isLetter_int (c : UInt8) : isLetter c = ((decide ((97 : Int) ≤ (c.toNat : Int)) && decide ((c.toNat : Int) ≤ 122)) || (decide ((65 : Int) ≤ (c.toNat : Int)) && decide ((c.toNat : Int) ≤ 90))) :=
  byte_all (p := fun c => isLetter c = ((decide ((97 : Int) ≤ (c.toNat : Int)) && decide ((c.toNat : Int) ≤ 122)) || (decide ((65 : Int) ≤ (c.toNat : Int)) && decide ((c.toNat : Int) ≤ 90)))) (by decide +kernel) c
theorem isSpace_int (c : UInt8) : isSpace c = (decide ((c.toNat : Int) = 9) || decide ((c.toNat : Int) = 10) || decide ((c.toNat : Int) = 12) || decide ((c.toNat : Int) = 13) || decide ((c.toNat : Int) = 32)) :=
  byte_all (p := fun c => isSpace c = (decide ((c.toNat : Int) = 9) || decide ((c.toNat : Int) = 10) || decide ((c.toNat : Int) = 12) || decide ((c.toNat : Int) = 13) || decide ((c.toNat : Int) = 32))) (by decide +kernel) c
theorem hex_int (c : UInt8) : hex c = if (48 : Int) ≤ (c.toNat : Int) ∧ (c.toNat : Int) ≤ 57 then (c.toNat : Int) - 48 else if (97 : Int) ≤ (c.toNat : Int) ∧ (c.toNat : Int) ≤ 102 then (c.toNat : Int) - 87 else if (65 : Int) ≤ (c.toNat : Int) ∧ (c.toNat : Int) ≤ 70 then (c.toNat : Int) - 55 else -1 :=
  byte_all (p := fun c => hex c = if (48 : Int) ≤ (c.toNat : Int) ∧ (c.toNat : Int) ≤ 57 then (c.toNat : Int) - 48 else if (97 : Int) ≤ (c.toNat : Int) ∧ (c.toNat : Int) ≤ 102 then (c.toNat : Int) - 87 else if (65 : Int) ≤ (c.toNat : Int) ∧ (c.toNat : Int) ≤ 70 then (c.toNat : Int) - 55 else -1) (by decide +kernel) c
theorem small_int (c : UInt8) : ((small c).toNat : Int) = if (65 : Int) ≤ (c.toNat : Int) ∧ (c.toNat : Int) ≤ 90 then (c.toNat : Int) + 32 else (c.toNat : Int) :=
  byte_all (p := fun c => ((small c).toNat : Int) = if (65 : Int) ≤ (c.toNat : Int) ∧ (c.toNat : Int) ≤ 90 then (c.toNat : Int) + 32 else (c.toNat : Int)) (by decide +kernel) c

/-- Where a byte stands, as Go says it. -/
def idxI (c : UInt8) (l : Bs) : Int := if upto c l < l.length then (upto c l : Int) else -1

theorem indexByte_eq (c : UInt8) (l : Bs) : Lib.indexByte l c = idxI c l := by
  unfold idxI
  induction l with
  | nil => simp [Lib.indexByte, upto]
  | cons a l ih =>
    unfold Lib.indexByte
    by_cases h : a = c
    · subst h; simp [upto]
    · have h1 : (a == c) = false := by simp [h]
      have h2 : upto c (a :: l) = upto c l + 1 := by simp [upto, h]
      rw [h1, h2, ih]
      have hl := upto_le c l
      simp only [Bool.false_eq_true, if_false, List.length_cons]
      by_cases h3 : upto c l < l.length
      · have h4 : ¬ ((upto c l : Int) = -1) := by omega
        have h5 : upto c l + 1 < l.length + 1 := by omega
        simp only [h3, h5, if_true, beq_iff_eq, h4, if_false]
        omega
      · have h5 : ¬ upto c l + 1 < l.length + 1 := by omega
        simp only [h3, h5, if_false]; rfl
end Tym
