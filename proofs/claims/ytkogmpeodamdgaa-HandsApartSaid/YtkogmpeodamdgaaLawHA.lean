/-
  The law HandsApart of 23, ready for its row. Conditions: none beyond the number's kind.
-/
import Derived.Test.YtkogmpeodamdgaaH14
import Derived.Test.YtkogmpeodamdgaaSepT
namespace Go.Proofs.Ytkogmpeodamdgaa
open Go Go.RowKit
theorem handsApart_walk (a : Int) (w : World) (ha : -9223372036854775808 ≤ a ∧ a ≤ 9223372036854775807) : Calls Try.prog 6 #[.int .i64 a] w fun e w' => e = .returned (.bool true) ∧ Below w.heap.size w w' :=
  top_true (handsApart_t a ha) (fun _ h => absurd h (List.not_mem_nil))
end Go.Proofs.Ytkogmpeodamdgaa
