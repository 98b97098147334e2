/- Layer 12: the sort of pairs. -/
import Derived.Test.YthijmjglpcljcaaB12v
import Derived.Test.YthijmjglpcljcaaSySort
import Derived.Shelf.SlGeneric
import Derived.Ground.SlsfProg
namespace Go.Proofs
open Go.Shelf Go.RowKit Go.Lib Go.Sort
shelf_lay_g SlLaysF0.n6 Slsf 6 at Try 37 as Try.sortP
end Go.Proofs
namespace Go.Proofs.Ythijmjglpcljcaa.Sy
open Go Go.RowKit Go.Sort
set_option linter.unusedVariables false
set_option linter.unusedSimpArgs false
set_option maxRecDepth 10000
set_option maxHeartbeats 4000000
theorem isnan_call (s : ByteArray) : CallOk Try.prog 48 [.val (.string s)] [] (.val (.bool false)) [] := by
  refine .of_exec Try.func48 rfl (enters_48) rfl rfl (Nat.le_of_ble_eq_true rfl) (fun n _ => rfl) ?_
  simp
  exact .plain (by simp) (by simp)
def cmpS (x y : ByteArray) : Int := if ltB x y then -1 else if gtB x y then 1 else 0
theorem compare_call (x y : ByteArray) : CallOk Try.prog 39 [.val (.string x), .val (.string y)] [] (.val (.int .i64 (cmpS x y))) [] := by
  refine .of_exec Try.func39 rfl (enters_39) rfl rfl (Nat.le_of_ble_eq_true rfl) (fun n _ => rfl) ?_
  simp
  refine .plain (isnan_call x) (by simp) (by simp) ?_
  simp
  refine .plain (isnan_call y) (by simp) (by simp) ?_
  cases c1 : Op.bytesLess x.toList y.toList with
  | true =>
    simp [c1]
    exact .plain (by simp) (by simp [cmpS, ltB, c1])
  | false =>
    by_cases c2 : x = y
    · simp [c1, c2] at c1 ⊢
      simp [c1]
      exact .plain (by simp) (by simp [cmpS, ltB, gtB, c1])
    · simp [c1, c2]
      exact .plain (by simp) (by simp [cmpS, ltB, gtB, c1, c2])
def encP (p : ByteArray × ByteArray) : List Value := [.string p.1, .string p.2]
def cfP (x y : ByteArray × ByteArray) : Int := cmpS x.1 y.1
theorem less_call (x y : ByteArray × ByteArray) : CallOk Try.prog 38 [.agg ((encP x).map PV.val), .agg ((encP y).map PV.val)] [] (.val (.int .i64 (cfP x y))) [] := by
  refine .of_exec Try.func38 rfl (enters_38) rfl rfl (Nat.le_of_ble_eq_true rfl) (fun n _ => rfl) ?_
  simp [encP]
  refine .plain (compare_call x.1 y.1) (by simp) (by simp) ?_
  simp
  exact .plain (by simp) (by simp [cfP])
theorem rowsE_encP (l : Prs) : rowsE encP l = rowsP l := rfl
end Go.Proofs.Ythijmjglpcljcaa.Sy
