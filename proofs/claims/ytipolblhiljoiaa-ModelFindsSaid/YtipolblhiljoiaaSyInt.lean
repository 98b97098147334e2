/- Sy: whole numbers' bounds. -/
import Derived.Test.YtipolblhiljoiaaSyKit
namespace Go.Proofs.Ytipolblhiljoiaa.Sy
open Go Go.RowKit
def isI64 (n : Int) : Prop := -9223372036854775808 ≤ n ∧ n ≤ 9223372036854775807
theorem isI64_wrap (n : Int) : isI64 (IntKind.i64.wrap n) := by
  unfold isI64
  rw [IntKind.wrap_i64]
  omega
def pickI (c n : Int) : Int := (if c < 0 then -(c + 1) else c) % n
theorem pickI_range {c n : Int} (hn : 0 < n) : 0 ≤ pickI c n ∧ pickI c n < n := ⟨Int.emod_nonneg _ (by omega), Int.emod_lt_of_pos _ hn⟩
end Go.Proofs.Ytipolblhiljoiaa.Sy
