/- Layer 11: strings.Join without anything between. -/
import Derived.Test.YtbigcojlpcchiaaGreatSyGrw
import Derived.Test.YtbigcojlpcchiaaGreatSyStrs
import Derived.Test.YtbigcojlpcchiaaGreatSyMore
namespace Go.Proofs.YtbigcojlpcchiaaGreat.Sy
open Go Go.RowKit
set_option linter.unusedVariables false
set_option linter.unusedSimpArgs false
set_option maxRecDepth 10000
set_option maxHeartbeats 4000000
def catB : List ByteArray → ByteArray
  | [] => ⟨#[]⟩
  | x :: r => x ++ catB r
theorem catB_cons (x : ByteArray) (r : List ByteArray) : catB (x :: r) = x ++ catB r := rfl
def sumS : List ByteArray → Nat
  | [] => 0
  | x :: r => x.size + sumS r
theorem catB_size : ∀ l, (catB l).size = sumS l
  | [] => rfl
  | x :: r => by rw [catB_cons, ByteArray.size_append, catB_size r]; rfl
theorem sumS_drop (l : List ByteArray) (i : Nat) (h : i < l.length) : sumS (l.drop i) = l[i].size + sumS (l.drop (i + 1)) := by
  rw [List.drop_eq_getElem_cons h]; rfl
theorem catB_drop (l : List ByteArray) (i : Nat) (h : i < l.length) : catB (l.drop i) = l[i] ++ catB (l.drop (i + 1)) := by
  rw [List.drop_eq_getElem_cons h]; rfl
def join1_inv (l : List ByteArray) (m : Nat) (st : St) : Prop := ∃ (i a : Nat), m = l.length - i ∧ i ≤ l.length ∧ a + sumS (l.drop i) = sumS l ∧
  st = ⟨75, [(41, .val (.int .i64 i)), (40, .val (.int .i64 l.length)), (39, .rd 1 (strs l)), (5, .val (.int .i64 a)), (0, .rd 1 (strs l)), (1, .val (.string ⟨#[]⟩))], [], 64⟩
def join2_inv (l tl : List ByteArray) (m : Nat) (st : St) : Prop := ∃ (i : Nat) (acc : ByteArray), m = tl.length - i ∧ i ≤ tl.length ∧ 0 < acc.size ∧ acc.size + sumS (tl.drop i) = sumS l ∧ acc ++ catB (tl.drop i) = catB l ∧
  st = ⟨75, [(65, .val (.int .i64 i)), (64, .val (.int .i64 tl.length)), (63, .rd 1 (strs tl)), (8, .ref 72 2 0 0), (1, .val (.string ⟨#[]⟩))], [(72, bldO (.ref 72 2 0 0) (.sl 122 1 0 acc.size)), (122, bytO acc)], 160⟩
theorem app_empty (s : ByteArray) : s ++ ⟨#[]⟩ = s := by
  apply ByteArray.ext
  rw [ByteArray.data_append]
  exact Array.append_empty
theorem strs_tail (x : ByteArray) (l : List ByteArray) : (strs (x :: l)).tail = strs l := rfl
theorem Join_call {l : List ByteArray} (h2 : 2 ≤ l.length) (hl : l.length ≤ maxLen) (h0 : 0 < (l.headD ⟨#[]⟩).size) (hs : sumS l ≤ 140737488355328) : CallOk Tryz.prog 90 [.rd 1 (strs l), .val (.string ⟨#[]⟩)] [] (.val (.string (catB l))) [] := by
  refine .of_exec Tryz.func90 rfl (enters_90) rfl rfl (Nat.le_of_ble_eq_true rfl) (fun n _ => rfl) ?_
  unfold maxLen at hl
  have e1 : ¬ (l.length : Int) = 0 := by omega
  have e2 : ¬ (l.length : Int) = 1 := by omega
  have e3 : (⟨#[]⟩ : ByteArray).size = 0 := rfl
  have e4 : ¬ l.length = 0 := by omega
  have e5 : ¬ l.length = 1 := by omega
  have e6 : ¬ l = [] := by intro e; rw [e] at h2; simp at h2
  simp [e1, e2, e3, e4, e5, e6]
  refine WPg.loopW (join1_inv l) ⟨l.length, _, ?_, ⟨0, 0, by simp, by simp, by simp, rfl⟩⟩ ?_
  · exact Wk.rn [] rfl (by simp) (by simp) (by simp)
  rintro m st ⟨i, a, h3, h4, h5, rfl⟩
  by_cases hi : i < l.length
  · have hi' : (i : Int) < l.length := by omega
    have hw : IntKind.i64.wrap ((i : Int) + 1) = ((i + 1 : Nat) : Int) := by rw [w64 (by omega) (by omega)]; omega
    obtain ⟨x, hx⟩ : ∃ x, l[i] = x := ⟨_, rfl⟩
    rw [sumS_drop l i hi, hx] at h5
    have w1 : IntKind.i64.wrap (9223372036854775807 - (a : Int)) = 9223372036854775807 - a := w64 (by omega) (by omega)
    have w2 : IntKind.i64.wrap ((a : Int) + x.size) = ((a + x.size : Nat) : Int) := by rw [w64 (by omega) (by omega)]; omega
    have c1 : ¬ (9223372036854775807 - (a : Int) < x.size) := by omega
    simp [hi, hi', hx, w1, w2, c1]
    refine ⟨l.length - (i + 1), by omega, _, ?_, ⟨i + 1, a + x.size, rfl, by omega, by omega, rfl⟩⟩
    rw [hw]
    exact Wk.rn [] rfl (by simp) (by simp) (by simp)
  · obtain rfl : i = l.length := by omega
    rw [List.drop_length] at h5
    simp [sumS] at h5
    subst h5
    obtain ⟨x0, tl, rfl⟩ : ∃ x0 tl, l = x0 :: tl := by
      cases l with
      | nil => simp at h2
      | cons x0 tl => exact ⟨x0, tl, rfl⟩
    simp only [List.headD_cons] at h0
    have hsum : sumS (x0 :: tl) = x0.size + sumS tl := rfl
    have hx0 : x0.size ≤ 140737488355328 := by omega
    simp
    refine callK.own [] [(72, 0)] (Grow_call (n := sumS (x0 :: tl)) (by omega) hs) (by simp) (by simp) (by simp) (by simp) (by simp) (by simp) (by simp) (by simp) (by simp) (by simp) ?_
    simp
    refine callK.own [] [(72, 0), (89, 1)] (Write_grown (s := x0) hx0) (by simp) (by simp) (by simp) (by simp) (by simp) (by simp) (by simp) (by simp) (by simp) (by simp) ?_
    have hl' : tl.length + 1 ≤ 2 ^ 63 - 1 := hl
    have hone : (1 : Int) ≤ (tl.length : Int) + 1 := by omega
    simp [strs_tail, hone]
    refine WPg.loopW (join2_inv (x0 :: tl) tl) ⟨tl.length, _, ?_, ⟨0, x0, by simp, by simp, h0, rfl, rfl, rfl⟩⟩ ?_
    · exact Wk.rn [(72, 72), (122, 122)] rfl (by simp) (by simp) (by simp)
    rintro m st ⟨i, acc, h3, h4, h30, h5, h6, rfl⟩
    by_cases hi : i < tl.length
    · have hi' : (i : Int) < tl.length := by omega
      have hw : IntKind.i64.wrap ((i : Int) + 1) = ((i + 1 : Nat) : Int) := by rw [w64 (by omega) (by omega)]; omega
      obtain ⟨x, hx⟩ : ∃ x, tl[i] = x := ⟨_, rfl⟩
      rw [sumS_drop tl i hi, hx] at h5
      rw [catB_drop tl i hi, hx] at h6
      simp [hi, hi', hx]
      refine callK.own [] [(72, 0), (122, 1)] (Write_again (t := acc) (s := ⟨#[]⟩) h30 (show acc.size + 0 ≤ _ by omega)) (by simp) (by simp) (by simp) (by simp) (by simp) (by simp; intro e; rw [e] at h30; simp at h30) (by simp) (by simp) (by simp) (by simp) ?_
      simp [app_empty, e3]
      refine callK.own [] [(72, 0), (202, 1)] (Write_again (t := acc) (s := x) h30 (by omega)) (by simp) (by simp) (by simp) (by simp) (by simp) (by simp; intro e; rw [e] at h30; simp at h30) (by simp) (by simp) (by simp) (by simp) ?_
      simp
      refine ⟨tl.length - (i + 1), by omega, _, ?_, ⟨i + 1, acc ++ x, rfl, by omega, by rw [ByteArray.size_append]; omega, by rw [ByteArray.size_append]; omega, by rw [ByteArray.append_assoc]; exact h6, rfl⟩⟩
      rw [hw]
      exact Wk.rn [(72, 72), (218, 122)] rfl (by simp) (by simp) (by simp)
    · obtain rfl : i = tl.length := by omega
      rw [List.drop_length] at h5 h6
      have h7 : acc = catB (x0 :: tl) := by rw [← h6]; exact (app_empty acc).symm
      simp
      refine callK.own [] [(72, 0), (122, 1)] (String_call (s := acc) h30 (by unfold maxLen; omega)) (by simp) (by simp) (by simp) (by simp) (by simp) (by simp; intro e; rw [e] at h30; simp at h30) (by simp) (by simp) (by simp) (by simp) ?_
      simp
      exact .plain (by simp) (by simp [h7])
end Go.Proofs.YtbigcojlpcchiaaGreat.Sy
