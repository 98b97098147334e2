/- Layer 17: lists in order; what holds for some text of a list; documents that may be. -/
import Derived.Test.YtipolblhiljoiaaC16t
namespace Go.Proofs.Ytipolblhiljoiaa.Sy
open Go Go.RowKit
set_option linter.unusedVariables false
set_option linter.unusedSimpArgs false
set_option maxRecDepth 10000
set_option maxHeartbeats 4000000
def idxC_inv (l : List ByteArray) (p : ByteArray → Bool) (q : PV) (m : Nat) (st : St) : Prop := ∃ i : Nat, m = l.length - i ∧ i ≤ l.length ∧ (l.take i).any p = false ∧
  st = ⟨19, [(8, .val (.int .i64 i)), (7, .val (.int .i64 l.length)), (1, q), (0, .rd 1 (strs l))], [], 64⟩
theorem take_anyC {l : List ByteArray} {p : ByteArray → Bool} {i : Nat} (hi : i < l.length) (h : (l.take i).any p = false) : (l.take (i + 1)).any p = p l[i] := by
  rw [List.take_add_one, List.any_append, h, List.getElem?_eq_getElem hi]
  simp
theorem IndexC_call {l : List ByteArray} (hl : l.length ≤ maxLen) {f : FuncId} {sz : Nat} {rows : List (List PV)} (p : ByteArray → Bool) (hp : ∀ x ∈ l, CallOk Try.prog f [.val (.string x), .rp sz rows 0 0] [] (.val (.bool (p x))) []) :
    ∃ r : Int, isI64 r ∧ (0 ≤ r ↔ l.any p = true) ∧ CallOk Try.prog 51 [.rd 1 (strs l), .clo f [.rp sz rows 0 0]] [] (.val (.int .i64 r)) [] := by
  obtain ⟨r, hr⟩ : ∃ r : Int, r = if l.any p = true then (l.findIdx p : Int) else -1 := ⟨_, rfl⟩
  unfold maxLen at hl
  have hfl : l.findIdx p ≤ l.length := List.findIdx_le_length
  refine ⟨r, ?_, ?_, ?_⟩
  · rw [hr]; unfold isI64; split <;> omega
  · rw [hr]; split <;> rename_i h <;> simp [h] <;> omega
  refine .of_exec Try.func51 rfl (enters_51) rfl rfl (Nat.le_of_ble_eq_true rfl) (fun n _ => rfl) ?_
  simp
  refine WPg.loopW (idxC_inv l p (.clo f [.rp sz rows 0 0])) ⟨l.length, _, ?_, ⟨0, by simp, by simp, by simp, rfl⟩⟩ ?_
  · exact Wk.rn [] rfl (by simp) (by simp) (by simp)
  rintro m st ⟨i, h1, h2, h3, rfl⟩
  by_cases hi : i < l.length
  · have hi' : (i : Int) < l.length := by omega
    have hw : IntKind.i64.wrap ((i : Int) + 1) = ((i + 1 : Nat) : Int) := by rw [w64 (by omega) (by omega)]; omega
    have h4 := take_anyC hi h3
    obtain ⟨x, hx⟩ : ∃ x, l[i] = x := ⟨_, rfl⟩
    rw [hx] at h4
    simp [hi, hi', hx]
    refine .plain (hp x (by rw [← hx]; exact List.getElem_mem hi)) (by simp) (by simp) ?_
    cases hpx : p x with
    | true =>
      have e1 : l.any p = true := List.any_eq_true.2 ⟨x, by rw [← hx]; exact List.getElem_mem hi, hpx⟩
      have e2 : l.findIdx p = i := by
        rw [List.findIdx_eq hi]
        refine ⟨by rw [hx]; exact hpx, fun j hj => ?_⟩
        have := List.any_eq_false.1 h3 l[j] (by rw [← List.getElem_take (h := by simp; omega) (i := j) (j := i)]; exact List.getElem_mem _)
        simpa using this
      rw [e1, e2, if_pos rfl] at hr
      simp
      exact .plain (by simp) (by simp [hr])
    | false =>
      simp
      refine ⟨l.length - (i + 1), by omega, _, ?_, ⟨i + 1, rfl, by omega, by rw [h4]; exact hpx, rfl⟩⟩
      rw [hw]
      exact Wk.rn [] rfl (by simp) (by simp) (by simp)
  · obtain rfl : i = l.length := by omega
    rw [List.take_length] at h3
    rw [h3, if_neg (by simp)] at hr
    simp
    exact .plain (by simp) (by simp [hr])
theorem ContainsC_call {l : List ByteArray} (hl : l.length ≤ maxLen) {f : FuncId} {sz : Nat} {rows : List (List PV)} (p : ByteArray → Bool) (hp : ∀ x ∈ l, CallOk Try.prog f [.val (.string x), .rp sz rows 0 0] [] (.val (.bool (p x))) []) :
    CallOk Try.prog 33 [.rd 1 (strs l), .clo f [.rp sz rows 0 0]] [] (.val (.bool (l.any p))) [] := by
  obtain ⟨r, hr, h2, h3⟩ := IndexC_call hl p hp
  refine .of_exec Try.func33 rfl (enters_33) rfl rfl (Nat.le_of_ble_eq_true rfl) (fun n _ => rfl) ?_
  simp
  refine .plain h3 (by simp) (by simp) ?_
  have e : l.any p = decide (0 ≤ r) := by cases h : l.any p <;> simp [h] at h2 ⊢ <;> omega
  simp
  exact .plain (by simp) (by simp [e])
def idxN_inv (l : List ByteArray) (p : ByteArray → Bool) (q : PV) (m : Nat) (st : St) : Prop := ∃ i : Nat, m = l.length - i ∧ i ≤ l.length ∧ (l.take i).any p = false ∧
  st = ⟨19, [(8, .val (.int .i64 i)), (7, .val (.int .i64 l.length)), (1, q), (0, .rd 1 (strs l))], [], 64⟩
theorem IndexN_call {l : List ByteArray} (hl : l.length ≤ maxLen) {f : FuncId} (p : ByteArray → Bool) (hp : ∀ x ∈ l, CallOk Try.prog f [.val (.string x)] [] (.val (.bool (p x))) []) :
    ∃ r : Int, isI64 r ∧ (0 ≤ r ↔ l.any p = true) ∧ CallOk Try.prog 51 [.rd 1 (strs l), .clo f []] [] (.val (.int .i64 r)) [] := by
  obtain ⟨r, hr⟩ : ∃ r : Int, r = if l.any p = true then (l.findIdx p : Int) else -1 := ⟨_, rfl⟩
  unfold maxLen at hl
  have hfl : l.findIdx p ≤ l.length := List.findIdx_le_length
  refine ⟨r, ?_, ?_, ?_⟩
  · rw [hr]; unfold isI64; split <;> omega
  · rw [hr]; split <;> rename_i h <;> simp [h] <;> omega
  refine .of_exec Try.func51 rfl (enters_51) rfl rfl (Nat.le_of_ble_eq_true rfl) (fun n _ => rfl) ?_
  simp
  refine WPg.loopW (idxN_inv l p (.clo f [])) ⟨l.length, _, ?_, ⟨0, by simp, by simp, by simp, rfl⟩⟩ ?_
  · exact Wk.rn [] rfl (by simp) (by simp) (by simp)
  rintro m st ⟨i, h1, h2, h3, rfl⟩
  by_cases hi : i < l.length
  · have hi' : (i : Int) < l.length := by omega
    have hw : IntKind.i64.wrap ((i : Int) + 1) = ((i + 1 : Nat) : Int) := by rw [w64 (by omega) (by omega)]; omega
    have h4 := take_anyC hi h3
    obtain ⟨x, hx⟩ : ∃ x, l[i] = x := ⟨_, rfl⟩
    rw [hx] at h4
    simp [hi, hi', hx]
    refine .plain (hp x (by rw [← hx]; exact List.getElem_mem hi)) (by simp) (by simp) ?_
    cases hpx : p x with
    | true =>
      have e1 : l.any p = true := List.any_eq_true.2 ⟨x, by rw [← hx]; exact List.getElem_mem hi, hpx⟩
      have e2 : l.findIdx p = i := by
        rw [List.findIdx_eq hi]
        refine ⟨by rw [hx]; exact hpx, fun j hj => ?_⟩
        have := List.any_eq_false.1 h3 l[j] (by rw [← List.getElem_take (h := by simp; omega) (i := j) (j := i)]; exact List.getElem_mem _)
        simpa using this
      rw [e1, e2, if_pos rfl] at hr
      simp
      exact .plain (by simp) (by simp [hr])
    | false =>
      simp
      refine ⟨l.length - (i + 1), by omega, _, ?_, ⟨i + 1, rfl, by omega, by rw [h4]; exact hpx, rfl⟩⟩
      rw [hw]
      exact Wk.rn [] rfl (by simp) (by simp) (by simp)
  · obtain rfl : i = l.length := by omega
    rw [List.take_length] at h3
    rw [h3, if_neg (by simp)] at hr
    simp
    exact .plain (by simp) (by simp [hr])
theorem ContainsN_call {l : List ByteArray} (hl : l.length ≤ maxLen) {f : FuncId} (p : ByteArray → Bool) (hp : ∀ x ∈ l, CallOk Try.prog f [.val (.string x)] [] (.val (.bool (p x))) []) :
    CallOk Try.prog 33 [.rd 1 (strs l), .clo f []] [] (.val (.bool (l.any p))) [] := by
  obtain ⟨r, hr, h2, h3⟩ := IndexN_call hl p hp
  refine .of_exec Try.func33 rfl (enters_33) rfl rfl (Nat.le_of_ble_eq_true rfl) (fun n _ => rfl) ?_
  simp
  refine .plain h3 (by simp) (by simp) ?_
  have e : l.any p = decide (0 ≤ r) := by cases h : l.any p <;> simp [h] at h2 ⊢ <;> omega
  simp
  exact .plain (by simp) (by simp [e])
end Go.Proofs.Ytipolblhiljoiaa.Sy
