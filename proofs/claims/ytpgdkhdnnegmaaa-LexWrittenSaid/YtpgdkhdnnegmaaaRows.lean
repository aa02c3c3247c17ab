/-
  No cell of these rows narrows 'for every input' (looked for: loops, veiled, ifaces, maps, wideKeys, modest, calm, conditions, laid).
  DERIVED. THE GIVEN ROWS OF THIS SEAT. 4 by the template 'for every input the law returns true; each argument reads behind the call as it read before'; 0 by the template 'total and deterministic' (their statements: YtpgdkhdnnegmaaaTotals.lean).
  GIVEN WITH THE SEED: the statements are not yours to turn. If you find one false, say at which input.
  Laid BY PROGRAM, IN A SANDBOX (cutbox-rows.mjs): the forced cells as the released guide's own fill.sh prints them over the translation e20e0515afedf8d8… (all of the seat's roots in one cut). By AI agents, Wed Nov 11 2026. No macro, syntax, notation, axiom, sorry.
-/
import Derived.Test.YtpgdkhdnnegmaaaChecked
import GoSem.Claim
import GoSem.ClaimJoined
import GoSem.ClaimMapViews
import Derived.JoinedTies
import Derived.KernelRfl
namespace Go.Proofs.Ytpgdkhdnnegmaaa
/- THE CELL 'sum', in the pinned program and in every row, IS THE sha256 OF THE DUMP (.gsa) THAT YtpgdkhdnnegmaaaProg.lean LOADS. Nothing in Lean hashes anything: it is a label: what it is worth is what the hold of that sum in a sandbox is worth. -/
noncomputable def Try.pinned : Pinned := { name := "ytpgdkhdnnegmaaa", sum := "e20e0515afedf8d8fcb5270fb7990d9249722db2d79360c0b8a9a74c842990d9", checked := Try.checked }
namespace Rows
def none {H : Type} : Left H := { results := [], args := [] }

/-- 'tympanlaw09.LexNext': WHATEVER THE INPUT: true; the input reads as it did. -/
def lexNextSpec : ChangeSpec := { name := "lexNext", fn := fun _ => fun
  | [d1, d2, d3, d4, d5] => { results := [.lit (.bool true)], args := [d1, d2, d3, d4, d5] }
  | _ => none }
def lexNextRow : OpenClaim := { program := "ytpgdkhdnnegmaaa", sum := "e20e0515afedf8d8fcb5270fb7990d9249722db2d79360c0b8a9a74c842990d9", func := "tympan/tympanlaw09.LexNext", spec := "lexNext", inPlace := ["internal/bytealg.IndexByteString", "internal/bytealg.IndexString", "internal/abi.NoEscape"], unfollowed := true, recurses := true, named := ["internal/bytealg.MaxLen"], apart := false }
def LexNextSaid : Prop := lexNextRow.holds Try.pinned (OpenSpec.ofChange lexNextSpec)

/-- ITS FALSE NEIGHBOUR: 'it returns false'. Refute it at one input. -/
def lexNextWrong : ChangeSpec := { name := "lexNext", fn := fun _ => fun
  | [d1, d2, d3, d4, d5] => { results := [.lit (.bool false)], args := [d1, d2, d3, d4, d5] }
  | _ => none }
def LexNextWrongFalsely : Prop := lexNextRow.holds Try.pinned (OpenSpec.ofChange lexNextWrong)

/-- 'tympanlaw09.LexEnds': WHATEVER THE INPUT: true; the input reads as it did. -/
def lexEndsSpec : ChangeSpec := { name := "lexEnds", fn := fun _ => fun
  | [d] => { results := [.lit (.bool true)], args := [d] }
  | _ => none }
def lexEndsRow : OpenClaim := { program := "ytpgdkhdnnegmaaa", sum := "e20e0515afedf8d8fcb5270fb7990d9249722db2d79360c0b8a9a74c842990d9", func := "tympan/tympanlaw09.LexEnds", spec := "lexEnds", inPlace := ["internal/bytealg.IndexByteString", "internal/bytealg.IndexString", "internal/abi.NoEscape"], unfollowed := true, recurses := true, named := ["internal/bytealg.MaxLen"], apart := false }
def LexEndsSaid : Prop := lexEndsRow.holds Try.pinned (OpenSpec.ofChange lexEndsSpec)

/-- ITS FALSE NEIGHBOUR: 'it returns false'. Refute it at one input. -/
def lexEndsWrong : ChangeSpec := { name := "lexEnds", fn := fun _ => fun
  | [d] => { results := [.lit (.bool false)], args := [d] }
  | _ => none }
def LexEndsWrongFalsely : Prop := lexEndsRow.holds Try.pinned (OpenSpec.ofChange lexEndsWrong)

/-- 'tympanlaw09.LexWritten': WHATEVER THE INPUT: true; the input reads as it did. -/
def lexWrittenSpec : ChangeSpec := { name := "lexWritten", fn := fun _ => fun
  | [d] => { results := [.lit (.bool true)], args := [d] }
  | _ => none }
def lexWrittenRow : OpenClaim := { program := "ytpgdkhdnnegmaaa", sum := "e20e0515afedf8d8fcb5270fb7990d9249722db2d79360c0b8a9a74c842990d9", func := "tympan/tympanlaw09.LexWritten", spec := "lexWritten", inPlace := ["internal/bytealg.IndexByteString", "internal/bytealg.IndexString", "internal/abi.NoEscape"], unfollowed := true, recurses := true, named := ["internal/bytealg.MaxLen"], apart := false }
def LexWrittenSaid : Prop := lexWrittenRow.holds Try.pinned (OpenSpec.ofChange lexWrittenSpec)

/-- ITS FALSE NEIGHBOUR: 'it returns false'. Refute it at one input. -/
def lexWrittenWrong : ChangeSpec := { name := "lexWritten", fn := fun _ => fun
  | [d] => { results := [.lit (.bool false)], args := [d] }
  | _ => none }
def LexWrittenWrongFalsely : Prop := lexWrittenRow.holds Try.pinned (OpenSpec.ofChange lexWrittenWrong)

/-- 'tympanlaw09.LexFrom': WHATEVER THE INPUT: true; the input reads as it did. -/
def lexFromSpec : ChangeSpec := { name := "lexFrom", fn := fun _ => fun
  | [d1, d2, d3, d4, d5] => { results := [.lit (.bool true)], args := [d1, d2, d3, d4, d5] }
  | _ => none }
def lexFromRow : OpenClaim := { program := "ytpgdkhdnnegmaaa", sum := "e20e0515afedf8d8fcb5270fb7990d9249722db2d79360c0b8a9a74c842990d9", func := "tympan/tympanlaw09.LexFrom", spec := "lexFrom", inPlace := ["internal/bytealg.IndexByteString", "internal/bytealg.IndexString", "internal/abi.NoEscape"], unfollowed := true, recurses := true, named := ["internal/bytealg.MaxLen"], apart := false }
def LexFromSaid : Prop := lexFromRow.holds Try.pinned (OpenSpec.ofChange lexFromSpec)

/-- ITS FALSE NEIGHBOUR: 'it returns false'. Refute it at one input. -/
def lexFromWrong : ChangeSpec := { name := "lexFrom", fn := fun _ => fun
  | [d1, d2, d3, d4, d5] => { results := [.lit (.bool false)], args := [d1, d2, d3, d4, d5] }
  | _ => none }
def LexFromWrongFalsely : Prop := lexFromRow.holds Try.pinned (OpenSpec.ofChange lexFromWrong)

/- THE SECOND FORM. 'bulk': how many values and letters a reading holds, each counted each time it is reached (what is shared counts as often as it is met; a slice's spare places count too). A statement '..UptoSaid' is the law's where the arguments, and the package variables that the reading takes, are together of bulk at most 1048576: NARROWER than '..Said'. Prove '..Said' where nothing that the law and all that it calls make is longer than what came in: it says more and counts as full. Else prove '..UptoSaid'. A law counts once. -/
mutual
def uptoBulk {H : Type} : DataW H → Nat
  | .lit (.string bytes) => bytes.length + 1
  | .lit _ => 1
  | .nil => 1
  | .ptr d => uptoBulk d + 1
  | .slice elems spare => uptoBulkAll elems + uptoBulkAll spare + 1
  | .agg parts => uptoBulkAll parts + 1
  | .iface _ d => uptoBulk d + 1
  | .map entries => uptoBulkEntries entries + 1
  | .held _ => 1
def uptoBulkAll {H : Type} : List (DataW H) → Nat
  | [] => 0
  | d :: r => uptoBulk d + uptoBulkAll r
def uptoBulkEntries {H : Type} : List (Lit × DataW H) → Nat
  | [] => 0
  | x :: r => uptoBulkEntry x + uptoBulkEntries r
def uptoBulkEntry {H : Type} : Lit × DataW H → Nat
  | (.string bytes, d) => bytes.length + uptoBulk d + 1
  | (_, d) => uptoBulk d + 1
 end
def uptoSmall : (H : Type) → List (DataW H) → Bool := fun _ ds => decide (uptoBulkAll ds ≤ 1048576)
def OpenSpec.upto (s : _root_.Go.ChangeSpec) : _root_.Go.OpenSpec := { _root_.Go.OpenSpec.ofChange s with cond := some uptoSmall }

/-- 'tympanlaw09.LexNext', WHERE WHAT IT READS IS OF BULK AT MOST 1048576: true; the input reads as it did. -/
def lexNextUptoRow : OpenClaim := { program := "ytpgdkhdnnegmaaa", sum := "e20e0515afedf8d8fcb5270fb7990d9249722db2d79360c0b8a9a74c842990d9", func := "tympan/tympanlaw09.LexNext", spec := "lexNext", inPlace := ["internal/bytealg.IndexByteString", "internal/bytealg.IndexString", "internal/abi.NoEscape"], unfollowed := true, recurses := true, named := ["internal/bytealg.MaxLen"], apart := false, narrowed := true }
def LexNextUptoSaid : Prop := lexNextUptoRow.holds Try.pinned (OpenSpec.upto lexNextSpec)

/-- 'tympanlaw09.LexEnds', WHERE WHAT IT READS IS OF BULK AT MOST 1048576: true; the input reads as it did. -/
def lexEndsUptoRow : OpenClaim := { program := "ytpgdkhdnnegmaaa", sum := "e20e0515afedf8d8fcb5270fb7990d9249722db2d79360c0b8a9a74c842990d9", func := "tympan/tympanlaw09.LexEnds", spec := "lexEnds", inPlace := ["internal/bytealg.IndexByteString", "internal/bytealg.IndexString", "internal/abi.NoEscape"], unfollowed := true, recurses := true, named := ["internal/bytealg.MaxLen"], apart := false, narrowed := true }
def LexEndsUptoSaid : Prop := lexEndsUptoRow.holds Try.pinned (OpenSpec.upto lexEndsSpec)

/-- 'tympanlaw09.LexWritten', WHERE WHAT IT READS IS OF BULK AT MOST 1048576: true; the input reads as it did. -/
def lexWrittenUptoRow : OpenClaim := { program := "ytpgdkhdnnegmaaa", sum := "e20e0515afedf8d8fcb5270fb7990d9249722db2d79360c0b8a9a74c842990d9", func := "tympan/tympanlaw09.LexWritten", spec := "lexWritten", inPlace := ["internal/bytealg.IndexByteString", "internal/bytealg.IndexString", "internal/abi.NoEscape"], unfollowed := true, recurses := true, named := ["internal/bytealg.MaxLen"], apart := false, narrowed := true }
def LexWrittenUptoSaid : Prop := lexWrittenUptoRow.holds Try.pinned (OpenSpec.upto lexWrittenSpec)

/-- 'tympanlaw09.LexFrom', WHERE WHAT IT READS IS OF BULK AT MOST 1048576: true; the input reads as it did. -/
def lexFromUptoRow : OpenClaim := { program := "ytpgdkhdnnegmaaa", sum := "e20e0515afedf8d8fcb5270fb7990d9249722db2d79360c0b8a9a74c842990d9", func := "tympan/tympanlaw09.LexFrom", spec := "lexFrom", inPlace := ["internal/bytealg.IndexByteString", "internal/bytealg.IndexString", "internal/abi.NoEscape"], unfollowed := true, recurses := true, named := ["internal/bytealg.MaxLen"], apart := false, narrowed := true }
def LexFromUptoSaid : Prop := lexFromUptoRow.holds Try.pinned (OpenSpec.upto lexFromSpec)

end Rows
end Go.Proofs.Ytpgdkhdnnegmaaa
