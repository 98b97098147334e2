/- Layer 12: awake. -/
import Derived.Test.YthijmjglpcljcaaB12x
import Derived.Test.YthijmjglpcljcaaB12u
namespace Go.Proofs.Ythijmjglpcljcaa.Sy
open Go Go.RowKit
set_option linter.unusedVariables false
set_option linter.unusedSimpArgs false
set_option maxRecDepth 10000
set_option maxHeartbeats 4000000
def awA : ByteArray := strOfNums (List.replicate 16 0)
def awB : ByteArray := ⟨#[0, 0, 0, 8]⟩ ++ strOfNums (List.replicate 12 0)
def aw0 : Sto := freshS 8
def aw1 : Sto := (putS aw0 awA (cellI 1)).1
def aw2 : Sto := (putS aw1 awB (cellI 2)).1
def aw3 : Sto := (delS aw2 awA).1
def strA : ByteArray := ⟨#[97]⟩
theorem aw_facts : (putS aw0 awA (cellI 1)).2 = 0 ∧ (putS aw1 awB (cellI 2)).2 = 0 ∧ getS aw2 awB = (cellI 2, true) ∧ (delS aw2 awA).2 = (true, 0) ∧ (getS aw3 awA).2 = false ∧ allS aw3 = [(awB, cellI 2)] ∧ (putS aw0 strA (cellI 1)).2 = 1 ∧ aw2.bs.length = 8 ∧ (aw2.bs.getD 1 .free).lab = awB ∧ homeI awB 8 = 0 ∧ rightB aw3 = true ∧ aw0.bs.length = 8 ∧ aw1.bs.length = 8 ∧ aw3.bs.length = 8 := by decide +kernel
theorem awake_call : CallOk Try.prog 9 [] [] (.val (.bool true)) [] := by
  refine .of_exec Try.func9 rfl (enters_9) rfl rfl (Nat.le_of_ble_eq_true rfl) (fun n _ => rfl) ?_
  obtain ⟨f1, f2, f3, f4, f5, f6, f7, f8, f9, f10, f11, l0, l1, l3⟩ := aw_facts
  have cn : CallOk Try.prog 11 [.val (.int .i64 8)] [] (.tup [stoP aw0, eI 0]) [] := new_call fresh8
  have cb : CallOk Try.prog 11 [.val (.int .i64 9)] [] (.tup [stoP ⟨[], 0, 0⟩, eI 1]) [] := new_bad ⟨by omega, by omega⟩ (by decide)
  have eA : strOfNums [0, 0, 0, 0, 0, 0, 0, 0, 0, 0, 0, 0, 0, 0, 0, 0] = awA := rfl
  have eB : ⟨#[0, 0, 0, 8]⟩ ++ strOfNums [0, 0, 0, 0, 0, 0, 0, 0, 0, 0, 0, 0] = awB := rfl
  have c1 := put_call aw0 awA (cellI 1) (by omega)
  have c2 := put_call aw1 awB (cellI 2) (by omega)
  have c3 := get_call aw2 awB (by omega)
  have c4 := del_call aw2 awA (by omega)
  have c5 := get_call aw3 awA (by omega)
  have c6 := all_call aw3 (by omega)
  have c7 := put_call aw0 strA (cellI 1) (by omega)
  have c8 := home_call awB (n := 8) ⟨by omega, by omega⟩
  have c9 := right_call aw3 (by omega)
  rw [f1] at c1
  rw [f2] at c2
  rw [f3] at c3
  rw [f4] at c4
  rw [f5] at c5
  rw [f6] at c6
  rw [f7] at c7
  rw [f10] at c8
  rw [f11] at c9
  change CallOk _ _ _ _ (.tup [stoP aw1, _]) _ at c1
  change CallOk _ _ _ _ (.tup [stoP aw2, _]) _ at c2
  change CallOk _ _ _ _ (.tup [stoP aw3, _, _]) _ at c4
  clear f1 f2 f3 f4 f5 f6 f7 f10 f11
  simp
  refine .plain cn (by simp) (by simp) ?_
  have sz : (⟨#[0, 0, 0, 8]⟩ : ByteArray).size = 4 := rfl
  have h12 : (1 : Int) < aw2.bs.length := by omega
  have h12' : 1 < aw2.bs.length := by omega
  have hlab : (aw2.bs[1]'h12').lab = awB := by rw [← atB_get h12']; exact f9
  simp [numsOf, eA, eB, strOfNums_size, sz]
  refine callT.plain (cell_call (n := 1) ⟨by omega, by omega⟩) (by simp) (by simp) ?_
  simp
  refine callT.plain c1 (by simp) (by simp) ?_
  simp
  refine ⟨rfl, callT.plain (cell_call (n := 2) ⟨by omega, by omega⟩) (by simp) (by simp) ?_⟩
  simp
  refine callT.plain c2 (by simp) (by simp) ?_
  simp
  refine ⟨rfl, .plain c3 (by simp) (by simp) ?_⟩
  simp
  refine .plain c4 (by simp) (by simp) ?_
  simp
  refine .plain c5 (by simp) (by simp) ?_
  simp
  refine .plain c6 (by simp) (by simp) ?_
  simp
  refine .plain cb (by simp) (by simp) ?_
  simp
  refine callT.plain (cell_call (n := 1) ⟨by omega, by omega⟩) (by simp) (by simp) ?_
  simp
  refine callT.plain c7 (by simp) (by simp) ?_
  simp [f8, h12, h12', hlab, rowB]
  refine ⟨rfl, .plain (cell_call (n := 2) ⟨by omega, by omega⟩) (by simp) (by simp) ?_⟩
  simp
  refine .plain c8 (by simp) (by simp) ?_
  simp
  refine .plain c9 (by simp) (by simp) ?_
  simp
  exact .plain (by simp) (by simp)
end Go.Proofs.Ythijmjglpcljcaa.Sy
