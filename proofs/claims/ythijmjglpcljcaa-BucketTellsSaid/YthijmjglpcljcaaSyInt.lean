/- Sy: whole numbers' bounds. -/
import Derived.Test.YthijmjglpcljcaaSyKit
namespace Go.Proofs.Ythijmjglpcljcaa.Sy
open Go Go.RowKit
def isI64 (n : Int) : Prop := -9223372036854775808 ≤ n ∧ n ≤ 9223372036854775807
theorem isI64_wrap (n : Int) : isI64 (IntKind.i64.wrap n) := by
  unfold isI64
  rw [IntKind.wrap_i64]
  omega
end Go.Proofs.Ythijmjglpcljcaa.Sy
