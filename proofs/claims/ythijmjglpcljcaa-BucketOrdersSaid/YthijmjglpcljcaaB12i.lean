/- Layer 12: Get, Del. -/
import Derived.Test.YthijmjglpcljcaaB12r
namespace Go.Proofs.Ythijmjglpcljcaa.Sy
open Go Go.RowKit
set_option linter.unusedVariables false
set_option linter.unusedSimpArgs false
set_option maxRecDepth 10000
set_option maxHeartbeats 4000000
@[simp] theorem take_len_set {α : Type} (l : List α) (k : Nat) (b : α) : (l.set k b).take l.length = l.set k b := List.take_of_length_le (by simp)
theorem get_call (s : Sto) (lab : ByteArray) (hl : s.bs.length < 1000000) : CallOk Try.prog 29 [stoP s, .val (.string lab)] [] (.tup [.val (.string (getS s lab).1), .val (.bool (getS s lab).2)]) [] := by
  refine .of_exec Try.func29 rfl (enters_29) rfl rfl (Nat.le_of_ble_eq_true rfl) (fun n _ => rfl) ?_
  simp
  refine .plain (right_call s (by omega)) (by simp) (by simp) ?_
  by_cases h : rightB s = true
  · simp [h]
    refine .plain (find_call s lab (by omega)) (by simp) (by simp) ?_
    have hp := (right_iff s).1 h
    rcases find_mem hp.path hp.dist lab (size_pos hp.size) with ⟨g, _⟩ | ⟨k, g1, g2, g3, g4⟩
    · simp [g]
      exact .plain (by simp) (by simp [getS, h, g])
    · have g1' : (k : Int) < s.bs.length := by omega
      have g5 : (k : Int) ≠ -1 := by omega
      simp [g2, g1, g1', g5, rowB]
      exact .plain (by simp) (by simp [getS, h, g2, g5, g1])
  · simp [h]
    exact .plain (by simp) (by simp [getS, h])
theorem refget_call (s : Sto) (lab : ByteArray) (hl : s.bs.length < 1000000) : CallOk Try.prog 30 [stoP s, .val (.string lab)] [] (.tup [.val (.string (getS s lab).1), .val (.bool (getS s lab).2)]) [] := by
  refine .of_exec Try.func30 rfl (enters_30) rfl rfl (Nat.le_of_ble_eq_true rfl) (fun n _ => rfl) ?_
  simp
  refine .plain (refright_call s (by omega)) (by simp) (by simp) ?_
  by_cases h : rightB s = true
  · simp [h]
    refine .plain (reffind_call s lab (by omega)) (by simp) (by simp) ?_
    have hp := (right_iff s).1 h
    rcases find_mem hp.path hp.dist lab (size_pos hp.size) with ⟨g, _⟩ | ⟨k, g1, g2, g3, g4⟩
    · simp [g]
      exact .plain (by simp) (by simp [getS, h, g])
    · have g1' : (k : Int) < s.bs.length := by omega
      have g5 : (k : Int) ≠ -1 := by omega
      have g6 : ¬ (k : Int) < 0 := by omega
      simp [g2, g1, g1', g5, g6, rowB]
      exact .plain (by simp) (by simp [getS, h, g2, g5, g1])
  · simp [h]
    exact .plain (by simp) (by simp [getS, h])
theorem del_call (s : Sto) (lab : ByteArray) (hl : s.bs.length < 1000000) : CallOk Try.prog 27 [stoP s, .val (.string lab)] [] (.tup [stoP (delS s lab).1, .val (.bool (delS s lab).2.1), eI (delS s lab).2.2]) [] := by
  refine .of_exec Try.func27 rfl (enters_27) rfl rfl (Nat.le_of_ble_eq_true rfl) (fun n _ => rfl) ?_
  simp
  refine .plain (right_call s (by omega)) (by simp) (by simp) ?_
  by_cases h : rightB s = true
  · have hp := (right_iff s).1 h
    have hs := right_small hp
    have hne : s.bs ≠ [] := by intro e; rw [e] at hs; simp at hs
    have w1 : IntKind.i64.wrap (s.many - 1) = s.many - 1 := w64 (by omega) (by omega)
    have w2 : IntKind.i64.wrap (s.gone + 1) = s.gone + 1 := w64 (by omega) (by omega)
    simp [h]
    refine callK.own [] [] (own_own hne hl) (by simp) (by simp) (by simp) (by simp) (by simp) (by simp) (by simp) (by simp) (by simp) (by simp) ?_
    simp

    refine .lent [128] (find_call s lab (by omega)) (by simp) (by simp) (by simp) (by simp) (by simp) (by simp) ?_
    rcases find_mem hp.path hp.dist lab (size_pos hp.size) with ⟨g, _⟩ | ⟨k, g1, g2, g3, g4⟩
    · simp [g]
      exact .frz [128] [4, 5, 6] (by simp) (by simp) (by simp) (by simp) (by simp [delS, h, g])
    · have g1' : (k : Int) < s.bs.length := by omega
      have g5 : (k : Int) ≠ -1 := by omega
      simp [g2, g1, g1', g5, rowB, w1, w2]
      exact .frz [128] [4, 5, 6] (by simp) (by simp) (by simp) (by simp) (by simp [delS, h, g2, g5, g1])
  · simp [h]
    refine .plain (own_call hl) (by simp) (by simp) ?_
    simp
    exact .plain (by simp) (by simp [delS, h])
theorem refdel_call (s : Sto) (lab : ByteArray) (hl : s.bs.length < 1000000) : CallOk Try.prog 28 [stoP s, .val (.string lab)] [] (.tup [stoP (delS s lab).1, .val (.bool (delS s lab).2.1), eI (delS s lab).2.2]) [] := by
  refine .of_exec Try.func28 rfl (enters_28) rfl rfl (Nat.le_of_ble_eq_true rfl) (fun n _ => rfl) ?_
  simp
  refine callK.own [] [] (refown_own hl) (by simp) (by simp) (by simp) (by simp) (by simp) (by simp) (by simp) (by simp) (by simp) (by simp) ?_
  simp
  refine .plain (refright_call s (by omega)) (by simp) (by simp) ?_
  by_cases h : rightB s = true
  · have hp := (right_iff s).1 h
    have hs := right_small hp
    have w1 : IntKind.i64.wrap (s.many - 1) = s.many - 1 := w64 (by omega) (by omega)
    have w2 : IntKind.i64.wrap (s.gone + 1) = s.gone + 1 := w64 (by omega) (by omega)
    simp [h]
    refine .plain (reffind_call s lab (by omega)) (by simp) (by simp) ?_
    rcases find_mem hp.path hp.dist lab (size_pos hp.size) with ⟨g, _⟩ | ⟨k, g1, g2, g3, g4⟩
    · simp [g]
      exact .frz [104] [4, 5, 6] (by simp) (by simp) (by simp) (by simp) (by simp [delS, h, g])
    · have g1' : (k : Int) < s.bs.length := by omega
      have g5 : (k : Int) ≠ -1 := by omega
      have g6 : ¬ (k : Int) < 0 := by omega
      simp [g2, g1, g1', g5, g6, rowB, w1, w2]
      exact .frz [104] [4, 5, 6] (by simp) (by simp) (by simp) (by simp) (by simp [delS, h, g2, g5, g1])
  · simp [h]

    exact .frz [104] [4, 5, 6] (by simp) (by simp) (by simp) (by simp) (by simp [delS, h])
end Go.Proofs.Ythijmjglpcljcaa.Sy
