/- Layer 12: own. -/
import Derived.Test.YthijmjglpcljcaaB12f
namespace Go.Proofs.Ythijmjglpcljcaa.Sy
open Go Go.RowKit
set_option linter.unusedVariables false
set_option linter.unusedSimpArgs false
set_option maxRecDepth 10000
set_option maxHeartbeats 4000000
theorem clone_own {bs : List Bkt} (h : bs ≠ []) (hl : bs.length < 1000000) : CallOk Try.prog 49 [.rd 3 (rowsB bs)] [] (.sl 0 3 0 bs.length) [(0, ⟨25, 3, rowsB bs, .cells⟩)] := by
  refine .of_exec Try.func49 rfl (enters_49) rfl rfl (Nat.le_of_ble_eq_true rfl) (fun n _ => rfl) ?_
  have hp : 0 < bs.length := List.length_pos_iff.2 h
  simp [h, hp]
  exact ⟨⟨by omega, by omega⟩, fun _ _ => .own [(104, 0)] (by simp) (by simp) (by simp) (by simp) (by simp)⟩
theorem clone_call {bs : List Bkt} (hl : bs.length < 1000000) : CallOk Try.prog 49 [.rd 3 (rowsB bs)] [] (.rd 3 (rowsB bs)) [] := by
  refine .of_exec Try.func49 rfl (enters_49) rfl rfl (Nat.le_of_ble_eq_true rfl) (fun n _ => rfl) ?_
  by_cases h : bs = []
  · subst h
    simp
    exact ⟨.wk _ (Wk.nilRd 3 [(2, .rd 3 [])] (by simp)) (by simp) (by simp), .frz [104] [2] (by simp) (by simp) (by simp) (by simp) (by simp)⟩
  · have hp : 0 < bs.length := List.length_pos_iff.2 h
    simp [h, hp]
    exact ⟨⟨by omega, by omega⟩, fun _ _ => .frz [104] [2] (by simp) (by simp) (by simp) (by simp) (by simp)⟩
theorem own_own {s : Sto} (h : s.bs ≠ []) (hl : s.bs.length < 1000000) : CallOk Try.prog 40 [stoP s] [] (ownP s.bs.length s.many s.gone) [(0, ⟨25, 3, rowsB s.bs, .cells⟩)] := by
  refine .of_exec Try.func40 rfl (enters_40) rfl rfl (Nat.le_of_ble_eq_true rfl) (fun n _ => rfl) ?_
  simp
  refine callK.own [] [] (clone_own h hl) (by simp) (by simp) (by simp) (by simp) (by simp) (by simp) (by simp) (by simp) (by simp) (by simp) ?_
  simp
  exact .own [(96, 0)] (by simp) (by simp) (by simp) (by simp) (by simp)
theorem own_call {s : Sto} (hl : s.bs.length < 1000000) : CallOk Try.prog 40 [stoP s] [] (stoP s) [] := by
  refine .of_exec Try.func40 rfl (enters_40) rfl rfl (Nat.le_of_ble_eq_true rfl) (fun n _ => rfl) ?_
  simp
  refine .plain (clone_call hl) (by simp) (by simp) ?_
  simp
  exact .plain (by simp) (by simp)
theorem refown_own {s : Sto} (hl : s.bs.length < 1000000) : CallOk Try.prog 17 [stoP s] [] (ownP s.bs.length s.many s.gone) [(0, ⟨25, 3, rowsB s.bs, .cells⟩)] := by
  refine .of_exec Try.func17 rfl (enters_17) rfl rfl (Nat.le_of_ble_eq_true rfl) (fun n _ => rfl) ?_
  simp
  exact ⟨⟨by omega, by omega⟩, fun _ _ => ⟨rfl, .own [(96, 0)] (by simp) (by simp) (by simp) (by simp) (by simp)⟩⟩
theorem refown_call {s : Sto} (hl : s.bs.length < 1000000) : CallOk Try.prog 17 [stoP s] [] (stoP s) [] := by
  refine .of_exec Try.func17 rfl (enters_17) rfl rfl (Nat.le_of_ble_eq_true rfl) (fun n _ => rfl) ?_
  simp
  exact ⟨⟨by omega, by omega⟩, fun _ _ => ⟨rfl, .frz [96] [2] (by simp) (by simp) (by simp) (by simp) (by simp)⟩⟩
end Go.Proofs.Ythijmjglpcljcaa.Sy
