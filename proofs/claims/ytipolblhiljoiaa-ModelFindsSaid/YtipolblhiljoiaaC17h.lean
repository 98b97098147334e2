/- Layer 17: the document's change, Do. -/
import Derived.Test.YtipolblhiljoiaaC17g
import Derived.Test.YtipolblhiljoiaaC17q
namespace Go.Proofs.Ytipolblhiljoiaa.Sy
open Go Go.RowKit
set_option linter.unusedVariables false
set_option linter.unusedSimpArgs false
set_option maxRecDepth 10000
set_option maxHeartbeats 8000000
abbrev opP (k id : Int) (s : ByteArray) : PV := .agg [.val (.int .i64 k), .val (.int .i64 id), .val (.string s)]
def chgR (l : List DocW) (k id : Int) (ws : List ByteArray) : List DocW × Int :=
  if k = 1 ∧ hasD l id = true then (l, 21) else if k = 1 ∧ 40 ≤ l.length then (l, 20) else if k ≠ 1 ∧ hasD l id = false then (l, 22) else if k = 2 then (delD l id, 0) else (withD (delD l id) ⟨id, ws⟩, 0)
theorem getD_has (l : List DocW) (id : Int) : (getD l id).2 = hasD l id := by
  unfold getD
  cases hasD l id <;> rfl
theorem rChange_call {l : List DocW} (h : DocsIn l) {k id : Int} {s : ByteArray} {ws : List ByteArray} (hk : k = 1 ∨ k = 2 ∨ k = 3) :
    CallOk Try.prog 39 [.rd 2 (rowsD l), opP k id s, .rd 1 (strs ws)] [] (.tup [.rd 2 (rowsD (chgR l k id ws).1), .val (.int .i64 (chgR l k id ws).2)]) [] := by
  refine .of_exec Try.func39 rfl (enters_39) rfl rfl (Nat.le_of_ble_eq_true rfl) (fun n _ => rfl) ?_
  have hF := rFind_call h (id := id)
  have hO := rOwn_call h
  have hW := rWithout_call h (id := id)
  have hI := rWith_call (docsIn_del h id) (d := ⟨id, ws⟩)
  rw [getD_has] at hF
  generalize (getD l id).1 = g at hF
  simp
  refine .plain hF (by simp) (by simp) ?_
  cases c : hasD l id with
  | true =>
    rcases hk with rfl | rfl | rfl
    · simp
      refine .plain hO (by simp) (by simp) ?_
      simp
      exact .plain (by simp) (by simp [chgR, c])
    · simp
      refine .plain hW (by simp) (by simp) ?_
      simp
      exact .plain (by simp) (by simp [chgR, c])
    · simp
      refine callT.plain hW (by simp) (by simp) ?_
      simp
      refine callT.plain hI (by simp) (by simp) ?_
      simp
      exact ⟨rfl, .plain (by simp) (by simp [chgR, c])⟩
  | false =>
    rcases hk with rfl | rfl | rfl
    · by_cases c2 : 40 ≤ l.length
      · have c2' : (40 : Int) ≤ l.length := by omega
        simp [c2']
        refine .plain hO (by simp) (by simp) ?_
        simp
        exact .plain (by simp) (by simp [chgR, c, c2])
      · have c2' : ¬ (40 : Int) ≤ l.length := by omega
        simp [c2']
        refine callT.plain hW (by simp) (by simp) ?_
        simp
        refine callT.plain hI (by simp) (by simp) ?_
        simp
        exact ⟨rfl, .plain (by simp) (by simp [chgR, c, c2])⟩
    · simp
      refine .plain hO (by simp) (by simp) ?_
      simp
      exact .plain (by simp) (by simp [chgR, c])
    · simp
      refine .plain hO (by simp) (by simp) ?_
      simp
      exact .plain (by simp) (by simp [chgR, c])
theorem rChange2_call {l : List DocW} (h : DocsIn l) {id : Int} {s : ByteArray} :
    CallOk Try.prog 39 [.rd 2 (rowsD l), opP 2 id s, .val (.slice none 0 0)] [] (.tup [.rd 2 (rowsD (if hasD l id = true then delD l id else l)), .val (.int .i64 (if hasD l id = true then 0 else 22))]) [] := by
  refine .of_exec Try.func39 rfl (enters_39) rfl rfl (Nat.le_of_ble_eq_true rfl) (fun n _ => rfl) ?_
  have hF := rFind_call h (id := id)
  have hO := rOwn_call h
  have hW := rWithout_call h (id := id)
  rw [getD_has] at hF
  generalize (getD l id).1 = g at hF
  simp
  refine .plain hF (by simp) (by simp) ?_
  cases c : hasD l id with
  | true =>
    simp
    refine .plain hW (by simp) (by simp) ?_
    simp
    exact .plain (by simp) (by simp)
  | false =>
    simp
    refine .plain hO (by simp) (by simp) ?_
    simp
    exact .plain (by simp) (by simp)
theorem goes_facts {l : List DocW} {k id : Int} (h : goesM l k id = true) : rightD l = true ∧ 1 ≤ k ∧ k ≤ 6 ∧ (3 < k ∨ 0 ≤ id ∧ id ≤ 1073741824) := by
  unfold goesM at h
  simp only [Bool.and_eq_true, Bool.or_eq_true, decide_eq_true_eq] at h
  exact ⟨h.1.1.1, h.1.1.2, h.1.2, h.2⟩
theorem goes_not {l : List DocW} {k id : Int} (h : goesM l k id = false) : rightD l = false ∨ k < 1 ∨ 6 < k ∨ (k ≤ 3 ∧ (id < 0 ∨ 1073741824 < id)) := by
  cases c : rightD l with
  | false => exact .inl rfl
  | true =>
    unfold goesM at h
    rw [c, Bool.true_and] at h
    by_cases c1 : k < 1
    · exact .inr (.inl c1)
    by_cases c2 : 6 < k
    · exact .inr (.inr (.inl c2))
    rw [decide_eq_true (show 1 ≤ k by omega), decide_eq_true (show k ≤ 6 by omega)] at h
    simp only [Bool.true_and, Bool.or_eq_false_iff, Bool.and_eq_false_iff, decide_eq_false_iff_not] at h
    exact .inr (.inr (.inr (by omega)))
theorem rDo_call {l : List DocW} (h : DocsIn l) {k id : Int} {s : ByteArray} :
    CallOk Try.prog 22 [.rd 2 (rowsD l), opP k id s] [] (.tup [.rd 2 (rowsD (doM l k id s).1), .rd 1 (intsR (doM l k id s).2.1), .val (.int .i64 (doM l k id s).2.2)]) [] := by
  refine .of_exec Try.func22 rfl (enters_22) rfl rfl (Nat.le_of_ble_eq_true rfl) (fun n _ => rfl) ?_
  have hR := rright_call h
  have hO := rOwn_call h
  have hS := rSet_call (s := s)
  cases hg : goesM l k id with
  | true =>
    obtain ⟨g1, g2, g3, g4⟩ := goes_facts hg
    rw [g1] at hR
    have hs := right_sort g1
    obtain ⟨r1, r2⟩ := right_facts17 g1
    have hlen := setV_size s
    have d : doM l k id s = if k = 6 then (l, [], 0)
        else if k = 2 then if hasD l id = true then (delD l id, [], 0) else (l, [], 22)
        else if (setV s).2 ≠ 0 then (l, [], (setV s).2)
        else if k = 1 then if hasD l id = true then (l, [], 21) else if l.length = 40 then (l, [], 20) else (insD l ⟨id, (setV s).1⟩, [], 0)
        else if k = 3 then if hasD l id = true then (repD l id (setV s).1, [], 0) else (l, [], 22)
        else if k = 4 then if (setV s).1 = [] then (l, [], 1) else (l, allM l (setV s).1, 0)
        else if (setV s).1.length = 1 then (l, [], 0) else (l, [], 1) := if_pos hg
    have hk : k = 1 ∨ k = 2 ∨ k = 3 ∨ k = 4 ∨ k = 5 ∨ k = 6 := by omega
    have hA := rAll_call h (ws := (setV s).1) (by omega)
    have hI := with_ins (l := l) (id := id) (ws := (setV s).1) hs
    have hP := with_rep (l := l) (id := id) (ws := (setV s).1) hs
    have hC1 := rChange_call h (k := 1) (id := id) (s := s) (ws := (setV s).1) (.inl rfl)
    have hC3 := rChange_call h (k := 3) (id := id) (s := s) (ws := (setV s).1) (.inr (.inr rfl))
    have hC2 := rChange2_call h (id := id) (s := s)
    generalize (setV s).1 = ws at *
    generalize (setV s).2 = e at *
    rcases hk with rfl | rfl | rfl | rfl | rfl | rfl
    · have n1 : ¬ id < 0 := by omega
      have n2 : ¬ 1073741824 < id := by omega
      simp
      refine callK.plain hR (by simp) (by simp) ?_
      simp [n1, n2]
      refine .plain hS (by simp) (by simp) ?_
      by_cases he : e = 0
      · simp [he]
        refine .plain hC1 (by simp) (by simp) ?_
        simp
        have eD : doM l 1 id s = ((chgR l 1 id ws).1, [], (chgR l 1 id ws).2) := by
          rw [d]
          simp only [chgR]
          cases c : hasD l id with
          | true => simp [he]
          | false =>
            by_cases c2 : l.length = 40
            · have c2' : 40 ≤ l.length := by omega
              simp [he, c2]
            · have c2' : ¬ 40 ≤ l.length := by omega
              simp [he, c2, c2', hI c]
        exact .wk _ (Wk.nilRd 1 [(4, .rd 2 (rowsD (chgR l 1 id ws).1)), (5, .rd 1 []), (6, .val (.int .i64 (chgR l 1 id ws).2))] (by simp)) (by simp) (by simp [eD, intsR_nil])
      · simp [he]
        refine .plain hO (by simp) (by simp) ?_
        simp
        exact .wk _ (Wk.nilRd 1 [(4, .rd 2 (rowsD l)), (5, .rd 1 []), (6, .val (.int .i64 e))] (by simp)) (by simp) (by simp [d, he, intsR_nil])
    · have n1 : ¬ id < 0 := by omega
      have n2 : ¬ 1073741824 < id := by omega
      simp
      refine callK.plain hR (by simp) (by simp) ?_
      simp [n1, n2]
      refine .plain hC2 (by simp) (by simp) ?_
      simp
      have eD : doM l 2 id s = ((if hasD l id = true then delD l id else l), [], (if hasD l id = true then 0 else 22)) := by
        rw [d]
        cases c : hasD l id <;> simp
      exact .wk _ (Wk.nilRd 1 [(4, .rd 2 (rowsD (if hasD l id = true then delD l id else l))), (5, .rd 1 []), (6, .val (.int .i64 (if hasD l id = true then 0 else 22)))] (by simp)) (by simp) (by simp [eD, intsR_nil])
    · have n1 : ¬ id < 0 := by omega
      have n2 : ¬ 1073741824 < id := by omega
      simp
      refine callK.plain hR (by simp) (by simp) ?_
      simp [n1, n2]
      refine .plain hS (by simp) (by simp) ?_
      by_cases he : e = 0
      · simp [he]
        refine .plain hC3 (by simp) (by simp) ?_
        simp
        have eD : doM l 3 id s = ((chgR l 3 id ws).1, [], (chgR l 3 id ws).2) := by
          rw [d]
          simp only [chgR]
          cases c : hasD l id with
          | true => simp [he, hP c]
          | false => simp [he]
        exact .wk _ (Wk.nilRd 1 [(4, .rd 2 (rowsD (chgR l 3 id ws).1)), (5, .rd 1 []), (6, .val (.int .i64 (chgR l 3 id ws).2))] (by simp)) (by simp) (by simp [eD, intsR_nil])
      · simp [he]
        refine .plain hO (by simp) (by simp) ?_
        simp
        exact .wk _ (Wk.nilRd 1 [(4, .rd 2 (rowsD l)), (5, .rd 1 []), (6, .val (.int .i64 e))] (by simp)) (by simp) (by simp [d, he, intsR_nil])
    · simp
      refine callK.plain hR (by simp) (by simp) ?_
      simp
      refine .plain hS (by simp) (by simp) ?_
      by_cases he : e = 0
      · by_cases hw : ws = []
        · subst hw
          simp [he]
          refine .plain hO (by simp) (by simp) ?_
          simp
          exact .wk _ (Wk.nilRd 1 [(4, .rd 2 (rowsD l)), (5, .rd 1 []), (6, .val (.int .i64 1))] (by simp)) (by simp) (by simp [d, he, intsR_nil])
        · simp [he, hw]
          refine .plain hO (by simp) (by simp) ?_
          simp
          refine .plain hA (by simp) (by simp) ?_
          simp
          exact .plain (by simp) (by simp [d, he, hw])
      · simp [he]
        refine .plain hO (by simp) (by simp) ?_
        simp
        exact .wk _ (Wk.nilRd 1 [(4, .rd 2 (rowsD l)), (5, .rd 1 []), (6, .val (.int .i64 e))] (by simp)) (by simp) (by simp [d, he, intsR_nil])
    · simp
      refine callK.plain hR (by simp) (by simp) ?_
      simp
      refine .plain hS (by simp) (by simp) ?_
      by_cases he : e = 0
      · by_cases hw : ws.length = 1
        · have hw' : (ws.length : Int) = 1 := by omega
          simp [he, hw']
          refine .plain hO (by simp) (by simp) ?_
          simp
          exact .wk _ (Wk.nilRd 1 [(4, .rd 2 (rowsD l)), (5, .rd 1 []), (6, .val (.int .i64 0))] (by simp)) (by simp) (by simp [d, he, hw, intsR_nil])
        · have hw' : ¬ (ws.length : Int) = 1 := by omega
          simp [he, hw']
          refine .plain hO (by simp) (by simp) ?_
          simp
          exact .wk _ (Wk.nilRd 1 [(4, .rd 2 (rowsD l)), (5, .rd 1 []), (6, .val (.int .i64 1))] (by simp)) (by simp) (by simp [d, he, hw, intsR_nil])
      · simp [he]
        refine .plain hO (by simp) (by simp) ?_
        simp
        exact .wk _ (Wk.nilRd 1 [(4, .rd 2 (rowsD l)), (5, .rd 1 []), (6, .val (.int .i64 e))] (by simp)) (by simp) (by simp [d, he, intsR_nil])
    · simp
      refine callK.plain hR (by simp) (by simp) ?_
      simp
      refine .plain hO (by simp) (by simp) ?_
      simp
      exact .wk _ (Wk.nilRd 1 [(4, .rd 2 (rowsD l)), (5, .rd 1 []), (6, .val (.int .i64 0))] (by simp)) (by simp) (by simp [d, intsR_nil])
  | false =>
    have e : doM l k id s = (l, [], 1) := by unfold doM; rw [if_neg (by rw [hg]; simp)]
    cases c : rightD l with
    | false =>
      rw [c] at hR
      simp
      refine callK.plain hR (by simp) (by simp) ?_
      simp
      refine .plain hO (by simp) (by simp) ?_
      simp
      exact .wk _ (Wk.nilRd 1 [(4, .rd 2 (rowsD l)), (5, .rd 1 []), (6, .val (.int .i64 1))] (by simp)) (by simp) (by simp [e, intsR_nil])
    | true =>
      rw [c] at hR
      have hn := (goes_not hg).resolve_left (by rw [c]; simp)
      by_cases c1 : k < 1
      · simp [c1]
        refine callK.plain hR (by simp) (by simp) ?_
        simp [c1]
        refine .plain hO (by simp) (by simp) ?_
        simp
        exact .wk _ (Wk.nilRd 1 [(4, .rd 2 (rowsD l)), (5, .rd 1 []), (6, .val (.int .i64 1))] (by simp)) (by simp) (by simp [e, intsR_nil])
      by_cases c2 : 6 < k
      · simp [c1, c2]
        refine callK.plain hR (by simp) (by simp) ?_
        simp [c1, c2]
        refine .plain hO (by simp) (by simp) ?_
        simp
        exact .wk _ (Wk.nilRd 1 [(4, .rd 2 (rowsD l)), (5, .rd 1 []), (6, .val (.int .i64 1))] (by simp)) (by simp) (by simp [e, intsR_nil])
      obtain ⟨c3, c4⟩ : k ≤ 3 ∧ (id < 0 ∨ 1073741824 < id) := by omega
      have hk : k = 1 ∨ k = 2 ∨ k = 3 := by omega
      by_cases c5 : id < 0
      · rcases hk with rfl | rfl | rfl <;>
        · simp [c5]
          refine callK.plain hR (by simp) (by simp) ?_
          simp [c5]
          refine .plain hO (by simp) (by simp) ?_
          simp
          exact .wk _ (Wk.nilRd 1 [(4, .rd 2 (rowsD l)), (5, .rd 1 []), (6, .val (.int .i64 1))] (by simp)) (by simp) (by simp [e, intsR_nil])
      · have c6 : 1073741824 < id := by omega
        rcases hk with rfl | rfl | rfl <;>
        · simp [c5, c6]
          refine callK.plain hR (by simp) (by simp) ?_
          simp [c5, c6]
          refine .plain hO (by simp) (by simp) ?_
          simp
          exact .wk _ (Wk.nilRd 1 [(4, .rd 2 (rowsD l)), (5, .rd 1 []), (6, .val (.int .i64 1))] (by simp)) (by simp) (by simp [e, intsR_nil])
end Go.Proofs.Ytipolblhiljoiaa.Sy
