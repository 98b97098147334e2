/- Layer 11: numbers, lists, whole texts, and what holds for each text of a list. -/
import Derived.Test.YtbigcojlpcchiaaGreatC11j
import Derived.Test.YtbigcojlpcchiaaGreatM10
namespace Go.Proofs.YtbigcojlpcchiaaGreat.Sy
open Go Go.RowKit
set_option linter.unusedVariables false
set_option linter.unusedSimpArgs false
set_option maxRecDepth 10000
set_option maxHeartbeats 4000000
theorem number_call {n : Int} (hn : isI64 n) : CallOk Tryz.prog 62 [.val (.int .i64 n)] [] (.val (.string (numE n).1)) [] := by
  refine .of_exec Tryz.func62 rfl (enters_62) rfl rfl (Nat.le_of_ble_eq_true rfl) (fun n _ => rfl) ?_
  simp
  refine .plain (Number_call hn) (by simp) (by simp) ?_
  simp
  exact .plain (by simp) (by simp)
theorem list_call {l : List ByteArray} (hl : l.length ≤ maxLen) (hs : ∀ x ∈ l, x.size ≤ maxLen) : CallOk Tryz.prog 63 [.rd 1 (strs l)] [] (.val (.string (listE l).1)) [] := by
  refine .of_exec Tryz.func63 rfl (enters_63) rfl rfl (Nat.le_of_ble_eq_true rfl) (fun n _ => rfl) ?_
  simp
  refine .plain (List_call hl hs) (by simp) (by simp) ?_
  simp
  exact .plain (by simp) (by simp)
theorem whole_call {l : List ByteArray} (h2 : 2 ≤ l.length) (hl : l.length ≤ maxLen) (h0 : 0 < (l.headD ⟨#[]⟩).size) (hs : sumS l ≤ 140737488355328) : CallOk Tryz.prog 61 [.rd 1 (strs l)] [] (.val (.string (catB l))) [] := by
  refine .of_exec Tryz.func61 rfl (enters_61) rfl rfl (Nat.le_of_ble_eq_true rfl) (fun n _ => rfl) ?_
  simp
  refine .plain (Join_call h2 hl h0 hs) (by simp) (by simp) ?_
  simp
  exact .plain (by simp) (by simp)
def idx_inv (l : List ByteArray) (p : ByteArray → Bool) (q : PV) (m : Nat) (st : St) : Prop := ∃ i : Nat, m = l.length - i ∧ i ≤ l.length ∧ (l.take i).any p = false ∧
  st = ⟨19, [(8, .val (.int .i64 i)), (7, .val (.int .i64 l.length)), (1, q), (0, .rd 1 (strs l))], [], 64⟩
theorem take_any {l : List ByteArray} {p : ByteArray → Bool} {i : Nat} (hi : i < l.length) (h : (l.take i).any p = false) : (l.take (i + 1)).any p = p l[i] := by
  rw [List.take_add_one, List.any_append, h, List.getElem?_eq_getElem hi]
  simp
theorem Index_call {l : List ByteArray} (hl : l.length ≤ maxLen) {f : FuncId} {sz : Nat} {rows : List (List PV)} (p : ByteArray → Bool) (hp : ∀ x ∈ l, CallOk Tryz.prog f [.val (.string x), .rp sz rows 0 0] [] (.val (.bool (p x))) []) :
    ∃ r : Int, isI64 r ∧ (0 ≤ r ↔ l.any p = true) ∧ CallOk Tryz.prog 129 [.rd 1 (strs l), .clo f [.rp sz rows 0 0]] [] (.val (.int .i64 r)) [] := by
  obtain ⟨r, hr⟩ : ∃ r : Int, r = if l.any p = true then (l.findIdx p : Int) else -1 := ⟨_, rfl⟩
  unfold maxLen at hl
  have hfl : l.findIdx p ≤ l.length := List.findIdx_le_length
  refine ⟨r, ?_, ?_, ?_⟩
  · rw [hr]; unfold isI64; split <;> omega
  · rw [hr]; split <;> rename_i h <;> simp [h] <;> omega
  refine .of_exec Tryz.func129 rfl (enters_129) rfl rfl (Nat.le_of_ble_eq_true rfl) (fun n _ => rfl) ?_
  simp
  refine WPg.loopW (idx_inv l p (.clo f [.rp sz rows 0 0])) ⟨l.length, _, ?_, ⟨0, by simp, by simp, by simp, rfl⟩⟩ ?_
  · exact Wk.rn [] rfl (by simp) (by simp) (by simp)
  rintro m st ⟨i, h1, h2, h3, rfl⟩
  by_cases hi : i < l.length
  · have hi' : (i : Int) < l.length := by omega
    have hw : IntKind.i64.wrap ((i : Int) + 1) = ((i + 1 : Nat) : Int) := by rw [w64 (by omega) (by omega)]; omega
    have h4 := take_any hi h3
    obtain ⟨x, hx⟩ : ∃ x, l[i] = x := ⟨_, rfl⟩
    rw [hx] at h4
    simp [hi, hi', hx]
    refine .plain (hp x (by rw [← hx]; exact List.getElem_mem hi)) (by simp) (by simp) ?_
    cases hpx : p x with
    | true =>
      have e1 : l.any p = true := List.any_eq_true.2 ⟨x, by rw [← hx]; exact List.getElem_mem hi, hpx⟩
      have e2 : l.findIdx p = i := by
        rw [List.findIdx_eq hi]
        refine ⟨by rw [hx]; exact hpx, fun j hj => ?_⟩
        have := List.any_eq_false.1 h3 l[j] (by rw [← List.getElem_take (h := by simp; omega) (i := j) (j := i)]; exact List.getElem_mem _)
        simpa using this
      rw [e1, e2, if_pos rfl] at hr
      simp
      exact .plain (by simp) (by simp [hr])
    | false =>
      simp
      refine ⟨l.length - (i + 1), by omega, _, ?_, ⟨i + 1, rfl, by omega, by rw [h4]; exact hpx, rfl⟩⟩
      rw [hw]
      exact Wk.rn [] rfl (by simp) (by simp) (by simp)
  · obtain rfl : i = l.length := by omega
    rw [List.take_length] at h3
    rw [h3, if_neg (by simp)] at hr
    simp
    exact .plain (by simp) (by simp [hr])
theorem Contains_call {l : List ByteArray} (hl : l.length ≤ maxLen) {f : FuncId} {sz : Nat} {rows : List (List PV)} (p : ByteArray → Bool) (hp : ∀ x ∈ l, CallOk Tryz.prog f [.val (.string x), .rp sz rows 0 0] [] (.val (.bool (p x))) []) :
    CallOk Tryz.prog 110 [.rd 1 (strs l), .clo f [.rp sz rows 0 0]] [] (.val (.bool (l.any p))) [] := by
  obtain ⟨r, hr, h2, h3⟩ := Index_call hl p hp
  refine .of_exec Tryz.func110 rfl (enters_110) rfl rfl (Nat.le_of_ble_eq_true rfl) (fun n _ => rfl) ?_
  simp
  refine .plain h3 (by simp) (by simp) ?_
  have e : l.any p = decide (0 ≤ r) := by cases h : l.any p <;> simp [h] at h2 ⊢ <;> omega
  simp
  exact .plain (by simp) (by simp [e])
theorem all_any (p : ByteArray → Bool) : ∀ l : List ByteArray, l.all p = !(l.any fun x => !p x)
  | [] => rfl
  | x :: l => by rw [List.all_cons, List.any_cons, all_any p l]; cases p x <;> simp
theorem only_call {l : List ByteArray} (hl : l.length ≤ maxLen) {f : FuncId} {caps : List PV} (hc : caps = [] ∨ ∃ sz rows, caps = [.rp sz rows 0 0]) (p : ByteArray → Bool) (hp : ∀ x ∈ l, CallOk Tryz.prog f (.val (.string x) :: caps) [] (.val (.bool (p x))) []) :
    CallOk Tryz.prog 87 [.rd 1 (strs l), .clo f caps] [] (.val (.bool (l.all p))) [] := by
  refine .of_exec Tryz.func87 rfl (enters_87) rfl rfl (Nat.le_of_ble_eq_true rfl) (fun n _ => rfl) ?_
  have hn : CallOk Tryz.prog 110 [.rd 1 (strs l), .clo 111 [.rp 1 [[.clo f caps]] 0 0]] [] (.val (.bool (l.any fun x => !p x))) [] := by
    refine Contains_call hl (fun x => !p x) fun x hx => ?_
    refine .of_exec Tryz.func111 rfl (enters_111) rfl rfl (Nat.le_of_ble_eq_true rfl) (fun n _ => rfl) ?_
    rcases hc with rfl | ⟨sz, rows, rfl⟩
    all_goals
      simp
      refine .plain (hp x hx) (by simp) (by simp) ?_
      simp
      exact .plain (by simp) (by simp)
  have e := all_any p l
  rcases hc with rfl | ⟨sz, rows, rfl⟩
  all_goals
    simp
    refine .lent [64] hn (by simp) (by simp) (by simp) (by simp) (by simp) (by simp) ?_
    simp
    exact .plain (by simp) (by simp [e])
theorem sized_call {n : Int} {x : ByteArray} : CallOk Tryz.prog 112 [.val (.string x), .rp 1 [[.val (.int .i64 n)]] 0 0] [] (.val (.bool (decide ((x.size : Int) = n)))) [] := by
  refine .of_exec Tryz.func112 rfl (enters_112) rfl rfl (Nat.le_of_ble_eq_true rfl) (fun n _ => rfl) ?_
  simp
  exact .plain (by simp) (by simp)
theorem mkSized_call {n : Int} : CallOk Tryz.prog 88 [.val (.int .i64 n)] [] (.clo 112 [.ref 1 1 0 0]) [(1, ⟨3, 1, [[.val (.int .i64 n)]], .cells⟩)] := by
  refine .of_exec Tryz.func88 rfl (enters_88) rfl rfl (Nat.le_of_ble_eq_true rfl) (fun n _ => rfl) ?_
  simp
  exact .own [(64, 1)] (by simp) (by simp) (by simp) (by simp) (by simp)
end Go.Proofs.YtbigcojlpcchiaaGreat.Sy
