/- Small laws that several layers share. -/
import Derived.Test.YtdfefcikcfejoaaEntK
open Go Go.RowKit Go.Proofs
namespace Tym

theorem prefix_to (s : ByteArray) (k : Nat) (t : Bs) (w : World) : Calls Try.prog 20 #[.string (s.extract 0 k), .string ⟨t.toArray⟩] w fun e w' => e = .returned (.bool (begins ((bs s).take k) t)) ∧ w = w' := by
  rw [← bs_to]; exact prefix_lit _ t w

theorem below_then {a b c : World} (h1 : Below a.heap.size a b) (h2 : Below b.heap.size b c) : Below a.heap.size a c :=
  h1.trans (h2.mono h1.size)
end Tym
