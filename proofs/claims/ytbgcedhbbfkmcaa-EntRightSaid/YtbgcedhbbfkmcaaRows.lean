/-
  No cell of these rows narrows 'for every input' (looked for: loops, veiled, ifaces, maps, wideKeys, modest, calm, conditions, laid).
  DERIVED. THE GIVEN ROWS OF THIS SEAT. 7 by the template 'for every input the law returns true; each argument reads behind the call as it read before'; 0 by the template 'total and deterministic' (their statements: YtbgcedhbbfkmcaaTotals.lean).
  GIVEN WITH THE SEED: the statements are not yours to turn. If you find one false, say at which input.
  Laid BY PROGRAM, IN A SANDBOX (cutbox-rows.mjs): the forced cells as the released guide's own fill.sh prints them over the translation e62637df1c6b7fda… (all of the seat's roots in one cut). By AI agents, Wed Nov 11 2026. No macro, syntax, notation, axiom, sorry.
-/
import Derived.Test.YtbgcedhbbfkmcaaChecked
import GoSem.Claim
import GoSem.ClaimJoined
import GoSem.ClaimMapViews
import Derived.JoinedTies
import Derived.KernelRfl
namespace Go.Proofs.Ytbgcedhbbfkmcaa
/- THE CELL 'sum', in the pinned program and in every row, IS THE sha256 OF THE DUMP (.gsa) THAT YtbgcedhbbfkmcaaProg.lean LOADS. Nothing in Lean hashes anything: it is a label: what it is worth is what the hold of that sum in a sandbox is worth. -/
noncomputable def Try.pinned : Pinned := { name := "ytbgcedhbbfkmcaa", sum := "e62637df1c6b7fda7bbbe728d539896bccbbe3acc3b7f8dea863315eeb91310a", checked := Try.checked }
namespace Rows
def none {H : Type} : Left H := { results := [], args := [] }

/-- 'tympanlaw03.EntNames': WHATEVER THE INPUT: true; the input reads as it did. -/
def entNamesSpec : ChangeSpec := { name := "entNames", fn := fun _ => fun
  | [d] => { results := [.lit (.bool true)], args := [d] }
  | _ => none }
def entNamesRow : OpenClaim := { program := "ytbgcedhbbfkmcaa", sum := "e62637df1c6b7fda7bbbe728d539896bccbbe3acc3b7f8dea863315eeb91310a", func := "tympan/tympanlaw03.EntNames", spec := "entNames", inPlace := ["internal/bytealg.IndexByteString", "internal/bytealg.IndexString", "internal/abi.NoEscape"], named := ["internal/bytealg.MaxLen"], apart := false }
def EntNamesSaid : Prop := entNamesRow.holds Try.pinned (OpenSpec.ofChange entNamesSpec)

/-- ITS FALSE NEIGHBOUR: 'it returns false'. Refute it at one input. -/
def entNamesWrong : ChangeSpec := { name := "entNames", fn := fun _ => fun
  | [d] => { results := [.lit (.bool false)], args := [d] }
  | _ => none }
def EntNamesWrongFalsely : Prop := entNamesRow.holds Try.pinned (OpenSpec.ofChange entNamesWrong)

/-- 'tympanlaw03.EntNumbers': WHATEVER THE INPUT: true; the input reads as it did. -/
def entNumbersSpec : ChangeSpec := { name := "entNumbers", fn := fun _ => fun
  | [d] => { results := [.lit (.bool true)], args := [d] }
  | _ => none }
def entNumbersRow : OpenClaim := { program := "ytbgcedhbbfkmcaa", sum := "e62637df1c6b7fda7bbbe728d539896bccbbe3acc3b7f8dea863315eeb91310a", func := "tympan/tympanlaw03.EntNumbers", spec := "entNumbers", inPlace := ["internal/bytealg.IndexByteString", "internal/bytealg.IndexString", "internal/abi.NoEscape"], named := ["internal/bytealg.MaxLen"], apart := false }
def EntNumbersSaid : Prop := entNumbersRow.holds Try.pinned (OpenSpec.ofChange entNumbersSpec)

/-- ITS FALSE NEIGHBOUR: 'it returns false'. Refute it at one input. -/
def entNumbersWrong : ChangeSpec := { name := "entNumbers", fn := fun _ => fun
  | [d] => { results := [.lit (.bool false)], args := [d] }
  | _ => none }
def EntNumbersWrongFalsely : Prop := entNumbersRow.holds Try.pinned (OpenSpec.ofChange entNumbersWrong)

/-- 'tympanlaw03.EntDecodes': WHATEVER THE INPUT: true; the input reads as it did. -/
def entDecodesSpec : ChangeSpec := { name := "entDecodes", fn := fun _ => fun
  | [d1, d2] => { results := [.lit (.bool true)], args := [d1, d2] }
  | _ => none }
def entDecodesRow : OpenClaim := { program := "ytbgcedhbbfkmcaa", sum := "e62637df1c6b7fda7bbbe728d539896bccbbe3acc3b7f8dea863315eeb91310a", func := "tympan/tympanlaw03.EntDecodes", spec := "entDecodes", inPlace := ["internal/bytealg.IndexByteString", "internal/bytealg.IndexString", "internal/abi.NoEscape"], named := ["internal/bytealg.MaxLen"], apart := false }
def EntDecodesSaid : Prop := entDecodesRow.holds Try.pinned (OpenSpec.ofChange entDecodesSpec)

/-- ITS FALSE NEIGHBOUR: 'it returns false'. Refute it at one input. -/
def entDecodesWrong : ChangeSpec := { name := "entDecodes", fn := fun _ => fun
  | [d1, d2] => { results := [.lit (.bool false)], args := [d1, d2] }
  | _ => none }
def EntDecodesWrongFalsely : Prop := entDecodesRow.holds Try.pinned (OpenSpec.ofChange entDecodesWrong)

/-- 'tympanlaw03.EntMarks': WHATEVER THE INPUT: true; the input reads as it did. -/
def entMarksSpec : ChangeSpec := { name := "entMarks", fn := fun _ => fun
  | [d] => { results := [.lit (.bool true)], args := [d] }
  | _ => none }
def entMarksRow : OpenClaim := { program := "ytbgcedhbbfkmcaa", sum := "e62637df1c6b7fda7bbbe728d539896bccbbe3acc3b7f8dea863315eeb91310a", func := "tympan/tympanlaw03.EntMarks", spec := "entMarks", inPlace := ["internal/bytealg.IndexByteString", "internal/bytealg.IndexString", "internal/abi.NoEscape"], named := ["internal/bytealg.MaxLen"], apart := false }
def EntMarksSaid : Prop := entMarksRow.holds Try.pinned (OpenSpec.ofChange entMarksSpec)

/-- ITS FALSE NEIGHBOUR: 'it returns false'. Refute it at one input. -/
def entMarksWrong : ChangeSpec := { name := "entMarks", fn := fun _ => fun
  | [d] => { results := [.lit (.bool false)], args := [d] }
  | _ => none }
def EntMarksWrongFalsely : Prop := entMarksRow.holds Try.pinned (OpenSpec.ofChange entMarksWrong)

/-- 'tympanlaw03.EntEscaped': WHATEVER THE INPUT: true; the input reads as it did. -/
def entEscapedSpec : ChangeSpec := { name := "entEscaped", fn := fun _ => fun
  | [d1, d2] => { results := [.lit (.bool true)], args := [d1, d2] }
  | _ => none }
def entEscapedRow : OpenClaim := { program := "ytbgcedhbbfkmcaa", sum := "e62637df1c6b7fda7bbbe728d539896bccbbe3acc3b7f8dea863315eeb91310a", func := "tympan/tympanlaw03.EntEscaped", spec := "entEscaped", inPlace := ["internal/bytealg.IndexByteString", "internal/bytealg.IndexString", "internal/abi.NoEscape"], named := ["internal/bytealg.MaxLen"], apart := false }
def EntEscapedSaid : Prop := entEscapedRow.holds Try.pinned (OpenSpec.ofChange entEscapedSpec)

/-- ITS FALSE NEIGHBOUR: 'it returns false'. Refute it at one input. -/
def entEscapedWrong : ChangeSpec := { name := "entEscaped", fn := fun _ => fun
  | [d1, d2] => { results := [.lit (.bool false)], args := [d1, d2] }
  | _ => none }
def EntEscapedWrongFalsely : Prop := entEscapedRow.holds Try.pinned (OpenSpec.ofChange entEscapedWrong)

/-- 'tympanlaw03.EntRight': WHATEVER THE INPUT: true; the input reads as it did. -/
def entRightSpec : ChangeSpec := { name := "entRight", fn := fun _ => fun
  | [d1, d2] => { results := [.lit (.bool true)], args := [d1, d2] }
  | _ => none }
def entRightRow : OpenClaim := { program := "ytbgcedhbbfkmcaa", sum := "e62637df1c6b7fda7bbbe728d539896bccbbe3acc3b7f8dea863315eeb91310a", func := "tympan/tympanlaw03.EntRight", spec := "entRight", inPlace := ["internal/bytealg.IndexByteString", "internal/bytealg.IndexString", "internal/abi.NoEscape"], named := ["internal/bytealg.MaxLen"], apart := false }
def EntRightSaid : Prop := entRightRow.holds Try.pinned (OpenSpec.ofChange entRightSpec)

/-- ITS FALSE NEIGHBOUR: 'it returns false'. Refute it at one input. -/
def entRightWrong : ChangeSpec := { name := "entRight", fn := fun _ => fun
  | [d1, d2] => { results := [.lit (.bool false)], args := [d1, d2] }
  | _ => none }
def EntRightWrongFalsely : Prop := entRightRow.holds Try.pinned (OpenSpec.ofChange entRightWrong)

/-- 'tympanlaw03.EntLongest': WHATEVER THE INPUT: true; the input reads as it did. -/
def entLongestSpec : ChangeSpec := { name := "entLongest", fn := fun _ => fun
  | [d] => { results := [.lit (.bool true)], args := [d] }
  | _ => none }
def entLongestRow : OpenClaim := { program := "ytbgcedhbbfkmcaa", sum := "e62637df1c6b7fda7bbbe728d539896bccbbe3acc3b7f8dea863315eeb91310a", func := "tympan/tympanlaw03.EntLongest", spec := "entLongest", inPlace := ["internal/bytealg.IndexByteString", "internal/bytealg.IndexString", "internal/abi.NoEscape"], named := ["internal/bytealg.MaxLen"], apart := false }
def EntLongestSaid : Prop := entLongestRow.holds Try.pinned (OpenSpec.ofChange entLongestSpec)

/-- ITS FALSE NEIGHBOUR: 'it returns false'. Refute it at one input. -/
def entLongestWrong : ChangeSpec := { name := "entLongest", fn := fun _ => fun
  | [d] => { results := [.lit (.bool false)], args := [d] }
  | _ => none }
def EntLongestWrongFalsely : Prop := entLongestRow.holds Try.pinned (OpenSpec.ofChange entLongestWrong)

/- THE SECOND FORM. 'bulk': how many values and letters a reading holds, each counted each time it is reached (what is shared counts as often as it is met; a slice's spare places count too). A statement '..UptoSaid' is the law's where the arguments, and the package variables that the reading takes, are together of bulk at most 1048576: NARROWER than '..Said'. Prove '..Said' where nothing that the law and all that it calls make is longer than what came in: it says more and counts as full. Else prove '..UptoSaid'. A law counts once. -/
mutual
def uptoBulk {H : Type} : DataW H → Nat
  | .lit (.string bytes) => bytes.length + 1
  | .lit _ => 1
  | .nil => 1
  | .ptr d => uptoBulk d + 1
  | .slice elems spare => uptoBulkAll elems + uptoBulkAll spare + 1
  | .agg parts => uptoBulkAll parts + 1
  | .iface _ d => uptoBulk d + 1
  | .map entries => uptoBulkEntries entries + 1
  | .held _ => 1
def uptoBulkAll {H : Type} : List (DataW H) → Nat
  | [] => 0
  | d :: r => uptoBulk d + uptoBulkAll r
def uptoBulkEntries {H : Type} : List (Lit × DataW H) → Nat
  | [] => 0
  | x :: r => uptoBulkEntry x + uptoBulkEntries r
def uptoBulkEntry {H : Type} : Lit × DataW H → Nat
  | (.string bytes, d) => bytes.length + uptoBulk d + 1
  | (_, d) => uptoBulk d + 1
 end
def uptoSmall : (H : Type) → List (DataW H) → Bool := fun _ ds => decide (uptoBulkAll ds ≤ 1048576)
def OpenSpec.upto (s : _root_.Go.ChangeSpec) : _root_.Go.OpenSpec := { _root_.Go.OpenSpec.ofChange s with cond := some uptoSmall }

/-- 'tympanlaw03.EntNames', WHERE WHAT IT READS IS OF BULK AT MOST 1048576: true; the input reads as it did. -/
def entNamesUptoRow : OpenClaim := { program := "ytbgcedhbbfkmcaa", sum := "e62637df1c6b7fda7bbbe728d539896bccbbe3acc3b7f8dea863315eeb91310a", func := "tympan/tympanlaw03.EntNames", spec := "entNames", inPlace := ["internal/bytealg.IndexByteString", "internal/bytealg.IndexString", "internal/abi.NoEscape"], named := ["internal/bytealg.MaxLen"], apart := false, narrowed := true }
def EntNamesUptoSaid : Prop := entNamesUptoRow.holds Try.pinned (OpenSpec.upto entNamesSpec)

/-- 'tympanlaw03.EntNumbers', WHERE WHAT IT READS IS OF BULK AT MOST 1048576: true; the input reads as it did. -/
def entNumbersUptoRow : OpenClaim := { program := "ytbgcedhbbfkmcaa", sum := "e62637df1c6b7fda7bbbe728d539896bccbbe3acc3b7f8dea863315eeb91310a", func := "tympan/tympanlaw03.EntNumbers", spec := "entNumbers", inPlace := ["internal/bytealg.IndexByteString", "internal/bytealg.IndexString", "internal/abi.NoEscape"], named := ["internal/bytealg.MaxLen"], apart := false, narrowed := true }
def EntNumbersUptoSaid : Prop := entNumbersUptoRow.holds Try.pinned (OpenSpec.upto entNumbersSpec)

/-- 'tympanlaw03.EntDecodes', WHERE WHAT IT READS IS OF BULK AT MOST 1048576: true; the input reads as it did. -/
def entDecodesUptoRow : OpenClaim := { program := "ytbgcedhbbfkmcaa", sum := "e62637df1c6b7fda7bbbe728d539896bccbbe3acc3b7f8dea863315eeb91310a", func := "tympan/tympanlaw03.EntDecodes", spec := "entDecodes", inPlace := ["internal/bytealg.IndexByteString", "internal/bytealg.IndexString", "internal/abi.NoEscape"], named := ["internal/bytealg.MaxLen"], apart := false, narrowed := true }
def EntDecodesUptoSaid : Prop := entDecodesUptoRow.holds Try.pinned (OpenSpec.upto entDecodesSpec)

/-- 'tympanlaw03.EntMarks', WHERE WHAT IT READS IS OF BULK AT MOST 1048576: true; the input reads as it did. -/
def entMarksUptoRow : OpenClaim := { program := "ytbgcedhbbfkmcaa", sum := "e62637df1c6b7fda7bbbe728d539896bccbbe3acc3b7f8dea863315eeb91310a", func := "tympan/tympanlaw03.EntMarks", spec := "entMarks", inPlace := ["internal/bytealg.IndexByteString", "internal/bytealg.IndexString", "internal/abi.NoEscape"], named := ["internal/bytealg.MaxLen"], apart := false, narrowed := true }
def EntMarksUptoSaid : Prop := entMarksUptoRow.holds Try.pinned (OpenSpec.upto entMarksSpec)

/-- 'tympanlaw03.EntEscaped', WHERE WHAT IT READS IS OF BULK AT MOST 1048576: true; the input reads as it did. -/
def entEscapedUptoRow : OpenClaim := { program := "ytbgcedhbbfkmcaa", sum := "e62637df1c6b7fda7bbbe728d539896bccbbe3acc3b7f8dea863315eeb91310a", func := "tympan/tympanlaw03.EntEscaped", spec := "entEscaped", inPlace := ["internal/bytealg.IndexByteString", "internal/bytealg.IndexString", "internal/abi.NoEscape"], named := ["internal/bytealg.MaxLen"], apart := false, narrowed := true }
def EntEscapedUptoSaid : Prop := entEscapedUptoRow.holds Try.pinned (OpenSpec.upto entEscapedSpec)

/-- 'tympanlaw03.EntRight', WHERE WHAT IT READS IS OF BULK AT MOST 1048576: true; the input reads as it did. -/
def entRightUptoRow : OpenClaim := { program := "ytbgcedhbbfkmcaa", sum := "e62637df1c6b7fda7bbbe728d539896bccbbe3acc3b7f8dea863315eeb91310a", func := "tympan/tympanlaw03.EntRight", spec := "entRight", inPlace := ["internal/bytealg.IndexByteString", "internal/bytealg.IndexString", "internal/abi.NoEscape"], named := ["internal/bytealg.MaxLen"], apart := false, narrowed := true }
def EntRightUptoSaid : Prop := entRightUptoRow.holds Try.pinned (OpenSpec.upto entRightSpec)

/-- 'tympanlaw03.EntLongest', WHERE WHAT IT READS IS OF BULK AT MOST 1048576: true; the input reads as it did. -/
def entLongestUptoRow : OpenClaim := { program := "ytbgcedhbbfkmcaa", sum := "e62637df1c6b7fda7bbbe728d539896bccbbe3acc3b7f8dea863315eeb91310a", func := "tympan/tympanlaw03.EntLongest", spec := "entLongest", inPlace := ["internal/bytealg.IndexByteString", "internal/bytealg.IndexString", "internal/abi.NoEscape"], named := ["internal/bytealg.MaxLen"], apart := false, narrowed := true }
def EntLongestUptoSaid : Prop := entLongestUptoRow.holds Try.pinned (OpenSpec.upto entLongestSpec)

end Rows
end Go.Proofs.Ytbgcedhbbfkmcaa
