/- Layer 10: the document's Num and Whole. -/
import Derived.Test.YtidaedchmjlbfaaGreatC10e
namespace Go.Proofs.YtidaedchmjlbfaaGreat.Sy
open Go Go.RowKit
set_option linter.unusedVariables false
set_option linter.unusedSimpArgs false
set_option maxRecDepth 10000
set_option maxHeartbeats 4000000
theorem num10_call {n : Int} (hn : isI64 n) : CallOk Tryz.prog 25 [.val (.int .i64 n)] [] (.val (.string (numE n).1)) [] := by
  refine .of_exec Tryz.func25 rfl (enters_25) rfl rfl (Nat.le_of_ble_eq_true rfl) (fun n _ => rfl) ?_
  simp
  refine .plain (refnumber_call hn) (by simp) (by simp) ?_
  simp
  exact .plain (by simp) (by simp)
theorem whole10_call {l : List ByteArray} (hl : l.length ≤ maxLen) (hs : ∀ x ∈ l, x.size ≤ maxLen) : CallOk Tryz.prog 26 [.rd 1 (strs l)] [] (.val (.string (listE l).1)) [] := by
  refine .of_exec Tryz.func26 rfl (enters_26) rfl rfl (Nat.le_of_ble_eq_true rfl) (fun n _ => rfl) ?_
  simp
  refine .plain (reflist_call hl hs) (by simp) (by simp) ?_
  simp
  exact .plain (by simp) (by simp)
end Go.Proofs.YtidaedchmjlbfaaGreat.Sy
