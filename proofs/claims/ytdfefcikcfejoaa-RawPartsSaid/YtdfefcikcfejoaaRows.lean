/-
  No cell of these rows narrows 'for every input' (looked for: loops, veiled, ifaces, maps, wideKeys, modest, calm, conditions, laid).
  DERIVED. THE GIVEN ROWS OF THIS SEAT. 3 by the template 'for every input the law returns true; each argument reads behind the call as it read before'; 0 by the template 'total and deterministic' (their statements: YtdfefcikcfejoaaTotals.lean).
  GIVEN WITH THE SEED: the statements are not yours to turn. If you find one false, say at which input.
  Laid BY PROGRAM, IN A SANDBOX (cutbox-rows.mjs): the forced cells as the released guide's own fill.sh prints them over the translation abd077d4200a6e2b… (all of the seat's roots in one cut). By AI agents, Wed Nov 11 2026. No macro, syntax, notation, axiom, sorry.
-/
import Derived.Test.YtdfefcikcfejoaaChecked
import GoSem.Claim
import GoSem.ClaimJoined
import GoSem.ClaimMapViews
import Derived.JoinedTies
import Derived.KernelRfl
namespace Go.Proofs.Ytdfefcikcfejoaa
/- THE CELL 'sum', in the pinned program and in every row, IS THE sha256 OF THE DUMP (.gsa) THAT YtdfefcikcfejoaaProg.lean LOADS. Nothing in Lean hashes anything: it is a label: what it is worth is what the hold of that sum in a sandbox is worth. -/
noncomputable def Try.pinned : Pinned := { name := "ytdfefcikcfejoaa", sum := "abd077d4200a6e2b8243371626c3ed8a6c097f37f190341fd5e46316c4c32a19", checked := Try.checked }
namespace Rows
def none {H : Type} : Left H := { results := [], args := [] }

/-- 'tympanlaw08.RawTexts': WHATEVER THE INPUT: true; the input reads as it did. -/
def rawTextsSpec : ChangeSpec := { name := "rawTexts", fn := fun _ => fun
  | [d1, d2, d3, d4] => { results := [.lit (.bool true)], args := [d1, d2, d3, d4] }
  | _ => none }
def rawTextsRow : OpenClaim := { program := "ytdfefcikcfejoaa", sum := "abd077d4200a6e2b8243371626c3ed8a6c097f37f190341fd5e46316c4c32a19", func := "tympan/tympanlaw08.RawTexts", spec := "rawTexts", inPlace := ["internal/bytealg.IndexByteString", "internal/bytealg.IndexString", "internal/abi.NoEscape"], named := ["internal/bytealg.MaxLen"], apart := false }
def RawTextsSaid : Prop := rawTextsRow.holds Try.pinned (OpenSpec.ofChange rawTextsSpec)

/-- ITS FALSE NEIGHBOUR: 'it returns false'. Refute it at one input. -/
def rawTextsWrong : ChangeSpec := { name := "rawTexts", fn := fun _ => fun
  | [d1, d2, d3, d4] => { results := [.lit (.bool false)], args := [d1, d2, d3, d4] }
  | _ => none }
def RawTextsWrongFalsely : Prop := rawTextsRow.holds Try.pinned (OpenSpec.ofChange rawTextsWrong)

/-- 'tympanlaw08.RawParts': WHATEVER THE INPUT: true; the input reads as it did. -/
def rawPartsSpec : ChangeSpec := { name := "rawParts", fn := fun _ => fun
  | [d1, d2, d3] => { results := [.lit (.bool true)], args := [d1, d2, d3] }
  | _ => none }
def rawPartsRow : OpenClaim := { program := "ytdfefcikcfejoaa", sum := "abd077d4200a6e2b8243371626c3ed8a6c097f37f190341fd5e46316c4c32a19", func := "tympan/tympanlaw08.RawParts", spec := "rawParts", inPlace := ["internal/bytealg.IndexByteString", "internal/bytealg.IndexString", "internal/abi.NoEscape"], named := ["internal/bytealg.MaxLen"], apart := false }
def RawPartsSaid : Prop := rawPartsRow.holds Try.pinned (OpenSpec.ofChange rawPartsSpec)

/-- ITS FALSE NEIGHBOUR: 'it returns false'. Refute it at one input. -/
def rawPartsWrong : ChangeSpec := { name := "rawParts", fn := fun _ => fun
  | [d1, d2, d3] => { results := [.lit (.bool false)], args := [d1, d2, d3] }
  | _ => none }
def RawPartsWrongFalsely : Prop := rawPartsRow.holds Try.pinned (OpenSpec.ofChange rawPartsWrong)

/-- 'tympanlaw08.RawSize': WHATEVER THE INPUT: true; the input reads as it did. -/
def rawSizeSpec : ChangeSpec := { name := "rawSize", fn := fun _ => fun
  | [d1, d2, d3, d4] => { results := [.lit (.bool true)], args := [d1, d2, d3, d4] }
  | _ => none }
def rawSizeRow : OpenClaim := { program := "ytdfefcikcfejoaa", sum := "abd077d4200a6e2b8243371626c3ed8a6c097f37f190341fd5e46316c4c32a19", func := "tympan/tympanlaw08.RawSize", spec := "rawSize", inPlace := ["internal/bytealg.IndexByteString", "internal/bytealg.IndexString", "internal/abi.NoEscape"], named := ["internal/bytealg.MaxLen"], apart := false }
def RawSizeSaid : Prop := rawSizeRow.holds Try.pinned (OpenSpec.ofChange rawSizeSpec)

/-- ITS FALSE NEIGHBOUR: 'it returns false'. Refute it at one input. -/
def rawSizeWrong : ChangeSpec := { name := "rawSize", fn := fun _ => fun
  | [d1, d2, d3, d4] => { results := [.lit (.bool false)], args := [d1, d2, d3, d4] }
  | _ => none }
def RawSizeWrongFalsely : Prop := rawSizeRow.holds Try.pinned (OpenSpec.ofChange rawSizeWrong)

/- THE SECOND FORM. 'bulk': how many values and letters a reading holds, each counted each time it is reached (what is shared counts as often as it is met; a slice's spare places count too). A statement '..UptoSaid' is the law's where the arguments, and the package variables that the reading takes, are together of bulk at most 1048576: NARROWER than '..Said'. Prove '..Said' where nothing that the law and all that it calls make is longer than what came in: it says more and counts as full. Else prove '..UptoSaid'. A law counts once. -/
mutual
def uptoBulk {H : Type} : DataW H → Nat
  | .lit (.string bytes) => bytes.length + 1
  | .lit _ => 1
  | .nil => 1
  | .ptr d => uptoBulk d + 1
  | .slice elems spare => uptoBulkAll elems + uptoBulkAll spare + 1
  | .agg parts => uptoBulkAll parts + 1
  | .iface _ d => uptoBulk d + 1
  | .map entries => uptoBulkEntries entries + 1
  | .held _ => 1
def uptoBulkAll {H : Type} : List (DataW H) → Nat
  | [] => 0
  | d :: r => uptoBulk d + uptoBulkAll r
def uptoBulkEntries {H : Type} : List (Lit × DataW H) → Nat
  | [] => 0
  | x :: r => uptoBulkEntry x + uptoBulkEntries r
def uptoBulkEntry {H : Type} : Lit × DataW H → Nat
  | (.string bytes, d) => bytes.length + uptoBulk d + 1
  | (_, d) => uptoBulk d + 1
 end
def uptoSmall : (H : Type) → List (DataW H) → Bool := fun _ ds => decide (uptoBulkAll ds ≤ 1048576)
def OpenSpec.upto (s : _root_.Go.ChangeSpec) : _root_.Go.OpenSpec := { _root_.Go.OpenSpec.ofChange s with cond := some uptoSmall }

/-- 'tympanlaw08.RawTexts', WHERE WHAT IT READS IS OF BULK AT MOST 1048576: true; the input reads as it did. -/
def rawTextsUptoRow : OpenClaim := { program := "ytdfefcikcfejoaa", sum := "abd077d4200a6e2b8243371626c3ed8a6c097f37f190341fd5e46316c4c32a19", func := "tympan/tympanlaw08.RawTexts", spec := "rawTexts", inPlace := ["internal/bytealg.IndexByteString", "internal/bytealg.IndexString", "internal/abi.NoEscape"], named := ["internal/bytealg.MaxLen"], apart := false, narrowed := true }
def RawTextsUptoSaid : Prop := rawTextsUptoRow.holds Try.pinned (OpenSpec.upto rawTextsSpec)

/-- 'tympanlaw08.RawParts', WHERE WHAT IT READS IS OF BULK AT MOST 1048576: true; the input reads as it did. -/
def rawPartsUptoRow : OpenClaim := { program := "ytdfefcikcfejoaa", sum := "abd077d4200a6e2b8243371626c3ed8a6c097f37f190341fd5e46316c4c32a19", func := "tympan/tympanlaw08.RawParts", spec := "rawParts", inPlace := ["internal/bytealg.IndexByteString", "internal/bytealg.IndexString", "internal/abi.NoEscape"], named := ["internal/bytealg.MaxLen"], apart := false, narrowed := true }
def RawPartsUptoSaid : Prop := rawPartsUptoRow.holds Try.pinned (OpenSpec.upto rawPartsSpec)

/-- 'tympanlaw08.RawSize', WHERE WHAT IT READS IS OF BULK AT MOST 1048576: true; the input reads as it did. -/
def rawSizeUptoRow : OpenClaim := { program := "ytdfefcikcfejoaa", sum := "abd077d4200a6e2b8243371626c3ed8a6c097f37f190341fd5e46316c4c32a19", func := "tympan/tympanlaw08.RawSize", spec := "rawSize", inPlace := ["internal/bytealg.IndexByteString", "internal/bytealg.IndexString", "internal/abi.NoEscape"], named := ["internal/bytealg.MaxLen"], apart := false, narrowed := true }
def RawSizeUptoSaid : Prop := rawSizeUptoRow.holds Try.pinned (OpenSpec.upto rawSizeSpec)

end Rows
end Go.Proofs.Ytdfefcikcfejoaa
