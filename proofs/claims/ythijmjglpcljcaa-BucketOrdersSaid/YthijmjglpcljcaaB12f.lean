/- Layer 12: New, own, set. -/
import Derived.Test.YthijmjglpcljcaaB12e
namespace Go.Proofs.Ythijmjglpcljcaa.Sy
open Go Go.RowKit
set_option linter.unusedVariables false
set_option linter.unusedSimpArgs false
set_option maxRecDepth 10000
set_option maxHeartbeats 4000000
abbrev ownP (n : Nat) (many gone : Int) : PV := .agg [.sl 0 3 0 n, .val (.int .i64 many), .val (.int .i64 gone)]
abbrev eI (e : Int) : PV := .val (.int .i64 e)
theorem new_bad {n : Int} (hn : isI64 n) (h : sizeB n = false) : CallOk Try.prog 11 [.val (.int .i64 n)] [] (.tup [stoP ⟨[], 0, 0⟩, eI 1]) [] := by
  refine .of_exec Try.func11 rfl (enters_11) rfl rfl (Nat.le_of_ble_eq_true rfl) (fun n _ => rfl) ?_
  simp
  refine .plain (size_call _ hn) (by simp) (by simp) ?_
  simp [h]
  exact .wk _ (Wk.nilRdB 3 [64]) (by simp) (by simp)
theorem size_le {n : Int} (h : sizeB n = true) : 8 ≤ n ∧ n ≤ 4096 := by
  simp [sizeB] at h
  omega
theorem new_call {n : Nat} (h : sizeB n = true) : CallOk Try.prog 11 [.val (.int .i64 n)] [] (.tup [stoP ⟨List.replicate n .free, 0, 0⟩, eI 0]) [] := by
  refine .of_exec Try.func11 rfl (enters_11) rfl rfl (Nat.le_of_ble_eq_true rfl) (fun n _ => rfl) ?_
  have hn := size_le h
  simp
  refine .plain (size_call _ ⟨by omega, by omega⟩) (by simp) (by simp) ?_
  simp [h]
  refine ⟨⟨by omega, by omega⟩, fun _ _ => .frz [112] [2, 3] (by simp) (by simp) (by simp) (by simp) (by simp)⟩
theorem new_own {n : Nat} (h : sizeB n = true) : CallOk Try.prog 11 [.val (.int .i64 n)] [] (.tup [ownP n 0 0, eI 0]) [(0, ⟨25, 3, rowsB (List.replicate n .free), .cells⟩)] := by
  refine .of_exec Try.func11 rfl (enters_11) rfl rfl (Nat.le_of_ble_eq_true rfl) (fun n _ => rfl) ?_
  have hn := size_le h
  simp
  refine .plain (size_call _ ⟨by omega, by omega⟩) (by simp) (by simp) ?_
  simp [h]
  refine ⟨⟨by omega, by omega⟩, fun _ _ => .own [(112, 0)] (by simp) (by simp) (by simp) (by simp) (by simp)⟩
theorem refnew_bad {n : Int} (hn : isI64 n) (h : sizeB n = false) : CallOk Try.prog 12 [.val (.int .i64 n)] [] (.tup [stoP ⟨[], 0, 0⟩, eI 1]) [] := by
  refine .of_exec Try.func12 rfl (enters_12) rfl rfl (Nat.le_of_ble_eq_true rfl) (fun n _ => rfl) ?_
  simp
  refine .plain (refsize_call _) (by simp) (by simp) ?_
  simp [h]
  exact .wk _ (Wk.nilRdB 3 [64]) (by simp) (by simp)
theorem refnew_call {n : Nat} (h : sizeB n = true) : CallOk Try.prog 12 [.val (.int .i64 n)] [] (.tup [stoP ⟨List.replicate n .free, 0, 0⟩, eI 0]) [] := by
  refine .of_exec Try.func12 rfl (enters_12) rfl rfl (Nat.le_of_ble_eq_true rfl) (fun n _ => rfl) ?_
  have hn := size_le h
  simp
  refine .plain (refsize_call _) (by simp) (by simp) ?_
  simp [h]
  refine ⟨⟨by omega, by omega⟩, fun _ _ => .frz [112] [2, 3] (by simp) (by simp) (by simp) (by simp) (by simp)⟩
theorem refnew_own {n : Nat} (h : sizeB n = true) : CallOk Try.prog 12 [.val (.int .i64 n)] [] (.tup [ownP n 0 0, eI 0]) [(0, ⟨25, 3, rowsB (List.replicate n .free), .cells⟩)] := by
  refine .of_exec Try.func12 rfl (enters_12) rfl rfl (Nat.le_of_ble_eq_true rfl) (fun n _ => rfl) ?_
  have hn := size_le h
  simp
  refine .plain (refsize_call _) (by simp) (by simp) ?_
  simp [h]
  refine ⟨⟨by omega, by omega⟩, fun _ _ => .own [(112, 0)] (by simp) (by simp) (by simp) (by simp) (by simp)⟩
end Go.Proofs.Ythijmjglpcljcaa.Sy
