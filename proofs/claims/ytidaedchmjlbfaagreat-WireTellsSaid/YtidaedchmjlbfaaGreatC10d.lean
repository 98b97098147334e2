/- Layer 10: lists, written and taken. -/
import Derived.Test.YtidaedchmjlbfaaGreatC10c
import Derived.Test.YtidaedchmjlbfaaGreatSyBlw
import Derived.Test.YtidaedchmjlbfaaGreatSyRng
namespace Go.Proofs.YtidaedchmjlbfaaGreat.Sy
open Go Go.RowKit
set_option linter.unusedVariables false
set_option linter.unusedSimpArgs false
set_option maxRecDepth 10000
set_option maxHeartbeats 4000000
theorem TakeList_call (s : ByteArray) (a : Int) : CallOk Tryz.prog 33 [curP s a] [] (.tup [.rd 1 (strs (tList s a).1), curP s (tList s a).2.1, eN (tList s a).2.2]) [] := by
  refine .of_exec Tryz.func33 rfl (enters_33) rfl rfl (Nat.le_of_ble_eq_true rfl) (fun n _ => rfl) ?_
  have hm : CallOk Tryz.prog 55 [curP s a, .clo 56 []] [] (.tup [.rd 1 (strs (tList s a).1), curP s (tList s a).2.1, eN (tList s a).2.2]) [] := by
    refine .of_exec Tryz.func55 rfl (enters_55) rfl rfl (Nat.le_of_ble_eq_true rfl) (fun n _ => rfl) ?_
    simp
    refine .plain (TakeNumber_call s a) (by simp) (by simp) ?_
    by_cases h : (tNum s a).2.2 = 0
    · obtain ⟨k1, k2, k3, k4⟩ := tNum_ok h
      have hb := b4_range s a
      simp [k4]
      refine .plain (lst_call s (a := a + 4) (n := b4 s a) hb) (by simp) (by simp) ?_
      by_cases h1 : 1000 < b4 s a
      · have e2 : lstS s (a + 4) (b4 s a) = ([], a + 4, 13) := if_pos h1
        have e : tList s a = ([], a, 13) := by unfold tList; rw [if_pos h, if_pos h1]
        simp [e2]
        refine ⟨rfl, ?_⟩
        exact .wk _ (Wk.nilRd 1 [(4, .rd 1 []), (5, .ref 80 2 0 0), (6, .val (.int .i64 13))] (by simp)) (by simp) (by simp [e, strs_nil])
      · have e2 : lstS s (a + 4) (b4 s a) = tTexts s (b4 s a).toNat (a + 4) [] := if_neg h1
        by_cases h2 : (tTexts s (b4 s a).toNat (a + 4) []).2.2 = 0
        · have e : tList s a = tTexts s (b4 s a).toNat (a + 4) [] := by unfold tList; rw [if_pos h, if_neg h1, if_pos h2]
          simp [e2, h2]
          exact ⟨rfl, .plain (by simp) (by simp [e, h2])⟩
        · have e : tList s a = ([], a, (tTexts s (b4 s a).toNat (a + 4) []).2.2) := by unfold tList; rw [if_pos h, if_neg h1, if_neg h2]
          simp [e2, h2]
          refine ⟨rfl, ?_⟩
          exact .wk _ (Wk.nilRd 1 [(4, .rd 1 []), (5, .ref 80 2 0 0), (6, .val (.int .i64 (tTexts s (b4 s a).toNat (a + 4) []).2.2))] (by simp)) (by simp) (by simp [e, strs_nil])
    · have e : tList s a = ([], a, (tNum s a).2.2) := by unfold tList; rw [if_neg h]
      simp [h]
      refine ⟨rfl, ?_⟩
      exact .wk _ (Wk.nilRd 1 [(4, .rd 1 []), (5, .ref 80 2 0 0), (6, .val (.int .i64 (tNum s a).2.2))] (by simp)) (by simp) (by simp [e, strs_nil])
  simp
  refine .plain hm (by simp) (by simp) ?_
  simp
  exact .plain (by simp) (by simp)
def reflist_inv (l : List ByteArray) (m : Nat) (st : St) : Prop := ∃ (i : Nat) (acc : ByteArray), m = l.length - i ∧ i ≤ l.length ∧ acc.size ≤ 65536 ∧ listR l (numS l.length) = listR (l.drop i) acc ∧
  st = ⟨46, [(6, .val (.int .i64 i)), (4, .val (.string acc)), (0, .rd 1 (strs l))], [], 64⟩
theorem listR_cons (x : ByteArray) (r : List ByteArray) (acc : ByteArray) : listR (x :: r) acc = if 65536 < x.size ∨ 65536 < acc.size + (4 + x.size) then none else listR r (acc ++ (numS x.size ++ x)) := rfl
theorem reflist_call {l : List ByteArray} (hl : l.length ≤ maxLen) (hs : ∀ x ∈ l, x.size ≤ maxLen) : CallOk Tryz.prog 51 [.rd 1 (strs l)] [] (.tup [.val (.string (listE l).1), eN (listE l).2]) [] := by
  refine .of_exec Tryz.func51 rfl (enters_51) rfl rfl (Nat.le_of_ble_eq_true rfl) (fun n _ => rfl) ?_
  unfold maxLen at hl
  by_cases h : 1000 < l.length
  · have e : listE l = (⟨#[]⟩, 2) := if_pos h
    have h' : (1000 : Int) < l.length := by omega
    simp [h, h']
    exact .plain (by simp) (by simp [e])
  · have h' : ¬ (1000 : Int) < l.length := by omega
    have e1 : listE l = match listR l (numS l.length) with
      | some b => (b, 0)
      | none => (⟨#[]⟩, 2) := if_neg h
    have e2 : numE l.length = (numS l.length, 0) := if_neg (by omega)
    have cn := refnumber_call (n := (l.length : Int)) ⟨by omega, by omega⟩
    rw [e2] at cn
    simp [h, h']
    refine .plain cn (by simp) (by simp) ?_
    simp
    refine WPg.loopW (reflist_inv l) ⟨l.length, _, ?_, ⟨0, numS l.length, by simp, by simp, by rw [numS_size]; omega, rfl, rfl⟩⟩ ?_
    · exact Wk.rn [] rfl (by simp) (by simp) (by simp)
    rintro m st ⟨i, acc, h1, h2, h3, h4, rfl⟩
    by_cases hi : i < l.length
    · have hi' : (i : Int) < l.length := by omega
      have hw : IntKind.i64.wrap ((i : Int) + 1) = ((i + 1 : Nat) : Int) := by rw [w64 (by omega) (by omega)]; omega
      obtain ⟨x, hx⟩ : ∃ x, l[i] = x := ⟨_, rfl⟩
      have hxs : x.size ≤ maxLen := hs x (by rw [← hx]; exact List.getElem_mem hi)
      have hxs' := hxs
      unfold maxLen at hxs'
      rw [List.drop_eq_getElem_cons hi, hx, listR_cons] at h4
      simp [hi, hi', hx]
      refine .plain (reftext_call hxs) (by simp) (by simp) ?_
      by_cases c1 : 65536 < x.size
      · have et : textE x = (⟨#[]⟩, 2) := if_pos c1
        rw [if_pos (.inl c1)] at h4
        rw [h4] at e1
        simp [et]
        exact .plain (by simp) (by simp [e1])
      · have et : textE x = (numS x.size ++ x, 0) := if_neg c1
        have w1 : IntKind.i64.wrap ((acc.size : Int) + (4 + (x.size : Int))) = ((acc.size + (4 + x.size) : Nat) : Int) := by rw [w64 (by omega) (by omega)]; omega
        by_cases c2 : 65536 < acc.size + (4 + x.size)
        · have c2' : (65536 : Int) < acc.size + (4 + x.size) := by omega
          rw [if_pos (.inr c2)] at h4
          rw [h4] at e1
          simp [et, numS_size, w1, c2, c2']
          exact .plain (by simp) (by simp [e1])
        · have c2' : ¬ (65536 : Int) < acc.size + (4 + x.size) := by omega
          rw [if_neg (fun c => c.elim c1 c2)] at h4
          have hz : acc.size + (4 + x.size) ≤ 9223372036854775807 := by omega
          simp [et, numS_size, w1, c2, c2']
          refine ⟨hz, fun _ => ⟨l.length - (i + 1), by omega, _, ?_, ⟨i + 1, acc ++ (numS x.size ++ x), rfl, by omega, by simp [numS_size]; omega, h4, rfl⟩⟩⟩
          rw [hw]
          exact Wk.rn [] rfl (by simp) (by simp) (by simp)
    · obtain rfl : i = l.length := by omega
      rw [List.drop_length] at h4
      rw [h4] at e1
      simp
      exact .plain (by simp) (by simp [e1, listR])
end Go.Proofs.YtidaedchmjlbfaaGreat.Sy
