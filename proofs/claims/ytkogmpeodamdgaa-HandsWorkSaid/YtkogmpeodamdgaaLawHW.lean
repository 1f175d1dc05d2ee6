/-
  The law HandsWork of 23, ready for its row. Conditions: none beyond the numbers' kinds.
-/
import Derived.Test.YtkogmpeodamdgaaH17
import Derived.Test.YtkogmpeodamdgaaSepT
namespace Go.Proofs.Ytkogmpeodamdgaa
open Go Go.RowKit
theorem handsWork_walk (a b c : Int) (w : World) (ha : -9223372036854775808 ≤ a ∧ a ≤ 9223372036854775807) (hb : -9223372036854775808 ≤ b ∧ b ≤ 9223372036854775807) (hc : -9223372036854775808 ≤ c ∧ c ≤ 9223372036854775807) :
    Calls Try.prog 7 #[.int .i64 a, .int .i64 b, .int .i64 c] w fun e w' => e = .returned (.bool true) ∧ Below w.heap.size w w' :=
  top_true (handsWork_t a b c ha hb hc) (fun _ h => absurd h (List.not_mem_nil))
end Go.Proofs.Ytkogmpeodamdgaa
