/- Layer 17: may documents be: the program's and the document's answer. -/
import Derived.Test.YtipolblhiljoiaaC17a
namespace Go.Proofs.Ytipolblhiljoiaa.Sy
open Go Go.RowKit
set_option linter.unusedVariables false
set_option linter.unusedSimpArgs false
set_option maxRecDepth 10000
set_option maxHeartbeats 4000000
def risesS_inv (l : List ByteArray) (m : Nat) (st : St) : Prop := ∃ i : Nat, m = l.length + 1 - i ∧ 1 ≤ i ∧ i ≤ l.length + 1 ∧ adjB ltW (l.take i) = true ∧
  st = ⟨20, [(3, .val (.int .i64 i)), (0, .rd 1 (strs l))], [], 64⟩
theorem risesS_call {l : List ByteArray} (hl : l.length ≤ 4294967296) : CallOk Try.prog 32 [.rd 1 (strs l)] [] (.val (.bool (adjB ltW l))) [] := by
  refine .of_exec Try.func32 rfl (enters_32) rfl rfl (Nat.le_of_ble_eq_true rfl) (fun n _ => rfl) ?_
  simp
  refine WPg.loopW (risesS_inv l) ⟨l.length, _, ?_, ⟨1, by simp, by simp, by simp, adjB_one l, rfl⟩⟩ ?_
  · exact Wk.rn [] rfl (by simp) (by simp) (by simp)
  rintro m st ⟨i, h1, h0, h2, h3, rfl⟩
  obtain ⟨k, rfl⟩ : ∃ k, i = k + 1 := ⟨i - 1, by omega⟩
  by_cases hi : k + 1 < l.length
  · have hi' : ((k + 1 : Nat) : Int) < l.length := by omega
    have hk : k < l.length := by omega
    have hk' : (k : Int) < l.length := by omega
    have hwr : IntKind.i64.wrap (((k + 1 : Nat) : Int) + 1) = ((k + 1 + 1 : Nat) : Int) := by rw [w64 (by omega) (by omega)]; omega
    have hwm : IntKind.i64.wrap (((k + 1 : Nat) : Int) - 1) = (k : Int) := by rw [w64 (by omega) (by omega)]; omega
    have ht := adjB_take (lt := ltW) hi
    rw [h3, Bool.true_and] at ht
    obtain ⟨x, hx⟩ : ∃ x, l[k] = x := ⟨_, rfl⟩
    obtain ⟨y, hy⟩ : ∃ y, l[k + 1] = y := ⟨_, rfl⟩
    rw [hx, hy] at ht
    have hlt : ltW x y = Op.bytesLess x.toList y.toList := rfl
    rw [hlt] at ht
    have hn0 : (0 : Int) ≤ ((k + 1 : Nat) : Int) := by omega
    cases c : Op.bytesLess x.toList y.toList with
    | true =>
      rw [c] at ht
      simp [hi, hi', hk, hk', hx, hy, hwm, c, hn0, -Int.natCast_add]
      refine ⟨rfl, l.length + 1 - (k + 1 + 1), by omega, _, ?_, ⟨k + 1 + 1, rfl, by omega, by omega, ht, rfl⟩⟩
      rw [hwr]
      exact Wk.rn [] rfl (by simp) (by simp) (by simp)
    | false =>
      rw [c] at ht
      have := adjB_pre _ ht
      simp [hi, hi', hk, hk', hx, hy, hwm, c, hn0, -Int.natCast_add]
      exact ⟨rfl, .plain (by simp) (by simp [this])⟩
  · have hi' : ¬ ((k + 1 : Nat) : Int) < l.length := by omega
    rw [List.take_of_length_le (by omega)] at h3
    simp [hi', -Int.natCast_add]
    exact .plain (by simp) (by simp [h3])
def risesI_inv (l : List Int) (m : Nat) (st : St) : Prop := ∃ i : Nat, m = l.length + 1 - i ∧ 1 ≤ i ∧ i ≤ l.length + 1 ∧ adjB ltI (l.take i) = true ∧
  st = ⟨20, [(3, .val (.int .i64 i)), (0, .rd 1 (intsR l))], [], 64⟩
theorem risesI_call {l : List Int} (hl : l.length ≤ 4294967296) : CallOk Try.prog 34 [.rd 1 (intsR l)] [] (.val (.bool (adjB ltI l))) [] := by
  refine .of_exec Try.func34 rfl (enters_34) rfl rfl (Nat.le_of_ble_eq_true rfl) (fun n _ => rfl) ?_
  simp
  refine WPg.loopW (risesI_inv l) ⟨l.length, _, ?_, ⟨1, by simp, by simp, by simp, adjB_one l, rfl⟩⟩ ?_
  · exact Wk.rn [] rfl (by simp) (by simp) (by simp)
  rintro m st ⟨i, h1, h0, h2, h3, rfl⟩
  obtain ⟨k, rfl⟩ : ∃ k, i = k + 1 := ⟨i - 1, by omega⟩
  by_cases hi : k + 1 < l.length
  · have hi' : ((k + 1 : Nat) : Int) < l.length := by omega
    have hk : k < l.length := by omega
    have hk' : (k : Int) < l.length := by omega
    have hwr : IntKind.i64.wrap (((k + 1 : Nat) : Int) + 1) = ((k + 1 + 1 : Nat) : Int) := by rw [w64 (by omega) (by omega)]; omega
    have hwm : IntKind.i64.wrap (((k + 1 : Nat) : Int) - 1) = (k : Int) := by rw [w64 (by omega) (by omega)]; omega
    have ht := adjB_take (lt := ltI) hi
    rw [h3, Bool.true_and] at ht
    obtain ⟨x, hx⟩ : ∃ x, l[k] = x := ⟨_, rfl⟩
    obtain ⟨y, hy⟩ : ∃ y, l[k + 1] = y := ⟨_, rfl⟩
    rw [hx, hy] at ht
    have hlt : ltI x y = decide (x < y) := rfl
    rw [hlt] at ht
    have hn0 : (0 : Int) ≤ ((k + 1 : Nat) : Int) := by omega
    by_cases c : x < y
    · rw [decide_eq_true c] at ht
      have c' : ¬ y ≤ x := by omega
      simp [hi, hi', hk, hk', hx, hy, hwm, c, c', hn0, -Int.natCast_add]
      refine ⟨rfl, l.length + 1 - (k + 1 + 1), by omega, _, ?_, ⟨k + 1 + 1, rfl, by omega, by omega, ht, rfl⟩⟩
      rw [hwr]
      exact Wk.rn [] rfl (by simp) (by simp) (by simp)
    · rw [decide_eq_false c] at ht
      have := adjB_pre _ ht
      have c' : y ≤ x := by omega
      simp [hi, hi', hk, hk', hx, hy, hwm, c, c', hn0, -Int.natCast_add]
      exact ⟨rfl, .plain (by simp) (by simp [this])⟩
  · have hi' : ¬ ((k + 1 : Nat) : Int) < l.length := by omega
    rw [List.take_of_length_le (by omega)] at h3
    simp [hi', -Int.natCast_add]
    exact .plain (by simp) (by simp [h3])
theorem odd_call {w : ByteArray} (hw : w.size ≤ maxLen) : CallOk Try.prog 30 [.val (.string w)] [] (.val (.bool (!mayOf w))) [] := by
  refine .of_exec Try.func30 rfl (enters_30) rfl rfl (Nat.le_of_ble_eq_true rfl) (fun n _ => rfl) ?_
  simp
  refine .plain (May_call hw) (by simp) (by simp) ?_
  simp
  exact .plain (by simp) (by simp)
/-- What a list of documents must be to be looked at. -/
structure DocsIn (l : List DocW) : Prop where
  len : l.length ≤ 1000000
  ws : ∀ d ∈ l, isI64 d.id ∧ d.ws.length ≤ 1000000 ∧ ∀ w ∈ d.ws, w.size ≤ maxLen
theorem right_false {l : List DocW} {x : DocW} (h : x ∈ l) (hx : docOk x = false) : rightD l = false := by
  unfold rightD
  have : l.all docOk = false := by
    rw [List.all_eq_false]
    exact ⟨x, h, by rw [hx]; simp⟩
  rw [this]; rfl
def right_inv (l : List DocW) (m : Nat) (st : St) : Prop := ∃ i : Nat, m = l.length - i ∧ i ≤ l.length ∧ (l.take i).all docOk = true ∧
  st = ⟨52, [(9, .val (.int .i64 i)), (8, .val (.int .i64 l.length)), (7, .rd 2 (rowsD l)), (3, .sl 64 1 0 i), (0, .rd 2 (rowsD l))], [(64, ⟨3, 1, intsR ((l.take i).map (·.id)), .cells⟩)], 72⟩
theorem mright_call {l : List DocW} (h : DocsIn l) : CallOk Try.prog 19 [.rd 2 (rowsD l)] [] (.val (.bool (rightD l))) [] := by
  refine .of_exec Try.func19 rfl (enters_19) rfl rfl (Nat.le_of_ble_eq_true rfl) (fun n _ => rfl) ?_
  have hl := h.len
  simp
  refine WPg.loopW (right_inv l) ⟨l.length, _, ?_, ⟨0, by simp, by simp, by simp, rfl⟩⟩ ?_
  · refine (Wk.nil [3] [] 3 1).trans ?_
    exact Wk.rn [(104, 64)] rfl (by simp) (by simp) (by simp [intsR_nil])
  rintro m st ⟨i, h1, h2, h3, rfl⟩
  by_cases hi : i < l.length
  · have hi' : (i : Int) < l.length := by omega
    have hwr : IntKind.i64.wrap ((i : Int) + 1) = ((i + 1 : Nat) : Int) := by rw [w64 (by omega) (by omega)]; omega
    obtain ⟨x, hx⟩ : ∃ x, l[i] = x := ⟨_, rfl⟩
    have hxm : x ∈ l := by rw [← hx]; exact List.getElem_mem hi
    obtain ⟨x1, x2, x3⟩ := h.ws x hxm
    have htk : l.take (i + 1) = l.take i ++ [x] := by rw [wtake_one hi, hx]
    have hall : (l.take (i + 1)).all docOk = docOk x := by rw [htk, List.all_append, h3]; simp
    have bad : docOk x = false → rightD l = false := right_false hxm
    by_cases c1 : x.id < 0
    · have e := bad (by unfold docOk; rw [decide_eq_false (by omega)]; rfl)
      simp [hi, hi', hx, c1]
      exact .plain (by simp) (by simp [e])
    have c1' : 0 ≤ x.id := by omega
    by_cases c2 : 1073741824 < x.id
    · have e := bad (by unfold docOk; rw [decide_eq_false (show ¬ x.id ≤ 1073741824 by omega)]; simp)
      simp [hi, hi', hx, c1, c2]
      exact .plain (by simp) (by simp [e])
    have c2' : x.id ≤ 1073741824 := by omega
    by_cases c3 : 12 < x.ws.length
    · have e := bad (by unfold docOk; rw [decide_eq_false (show ¬ x.ws.length ≤ 12 by omega)]; simp)
      have c3' : (12 : Int) < x.ws.length := by omega
      simp [hi, hi', hx, c1, c2, c3']
      exact .plain (by simp) (by simp [e])
    have c3' : ¬ (12 : Int) < x.ws.length := by omega
    have c3'' : x.ws.length ≤ 12 := by omega
    have hR := risesS_call (l := x.ws) (by omega)
    have hmx : (1000000 : Nat) ≤ maxLen := by decide
    have hC := ContainsN_call (l := x.ws) (by omega) (fun w => !mayOf w) (fun w hw => odd_call (x3 w hw))
    simp [hi, hi', hx, c1, c2, c3']
    refine .plain hR (by simp) (by simp) ?_
    cases c4 : adjB ltW x.ws with
    | false =>
      have e := bad (by unfold docOk; rw [c4]; simp)
      simp
      exact .plain (by simp) (by simp [e])
    | true =>
      simp
      refine .plain hC (by simp) (by simp) ?_
      cases c5 : x.ws.any fun w => !mayOf w with
      | true =>
        have e := bad (by
          unfold docOk
          have : x.ws.all mayOf = false := by
            rw [List.any_eq_true] at c5
            rw [List.all_eq_false]
            obtain ⟨w, h1, h2⟩ := c5
            exact ⟨w, h1, by simpa using h2⟩
          rw [this]; simp)
        simp
        exact .plain (by simp) (by simp [e])
      | false =>
        have hok : docOk x = true := by
          unfold docOk
          have : x.ws.all mayOf = true := by
            rw [List.any_eq_false] at c5
            rw [List.all_eq_true]
            intro w hw
            simpa using c5 w hw
          rw [this, c4, decide_eq_true c1', decide_eq_true c2', decide_eq_true c3'']; rfl
        have m1 : 1 ≤ maxLen := by decide
        have m2 : i ≤ 140737488355327 := by omega
        have m3 : (i + 1) * 8 ≤ 140737488355328 := by omega
        have hmin : min i l.length = i := by omega
        simp [m1, m2, m3, hmin]
        refine ⟨l.length - (i + 1), by omega, _, ?_, ⟨i + 1, rfl, by omega, by rw [hall]; exact hok, rfl⟩⟩
        rw [hwr, htk]
        exact Wk.rn [(360, 64)] rfl (by simp) (by simp) (by simp [List.take_take])
  · obtain rfl : i = l.length := by omega
    rw [List.take_length] at h3
    have hlm : (l.map (·.id)).length = l.length := List.length_map _
    have hR := risesI_call (l := l.map (·.id)) (by omega)
    have er : rightD l = (decide (l.length ≤ 40) && adjB ltI (l.map (·.id))) := by unfold rightD; rw [h3]; rfl
    by_cases c : l.length ≤ 40
    · have c' : (l.length : Int) ≤ 40 := by omega
      rw [decide_eq_true c, Bool.true_and] at er
      simp [c']
      have htl : List.take l.length (List.map (fun x => x.id) l) = List.map (fun x => x.id) l := List.take_of_length_le (by simp)
      refine .lent [64] hR (by simp [htl]) (by simp) (by simp) (by simp) (by simp) (by simp) ?_
      simp
      exact .plain (by simp) (by simp [er])
    · have c' : ¬ (l.length : Int) ≤ 40 := by omega
      rw [decide_eq_false c, Bool.false_and] at er
      simp [c']
      exact .plain (by simp) (by simp [er])
end Go.Proofs.Ytipolblhiljoiaa.Sy
