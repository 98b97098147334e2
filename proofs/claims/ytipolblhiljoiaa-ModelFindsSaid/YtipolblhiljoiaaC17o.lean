/- Layer 17: the index's add and replace. -/
import Derived.Test.YtipolblhiljoiaaC17n
namespace Go.Proofs.Ytipolblhiljoiaa.Sy
open Go Go.RowKit
set_option linter.unusedVariables false
set_option linter.unusedSimpArgs false
set_option maxRecDepth 10000
set_option maxHeartbeats 4000000
theorem insert_call {l : List DocW} {d : DocW} {i : Nat} (hi : i ≤ l.length) (hl : l.length ≤ 1000000) :
    CallOk Try.prog 63 [.sl 0 2 0 l.length, .val (.int .i64 i), .sl 1 2 0 1] [(0, docsO l), (1, docsO [d])] (.sl 2 2 0 (l.length + 1)) [(2, docsO (l.take i ++ [d] ++ l.drop i))] := by
  by_cases h : i < l.length
  · exact insert_lt h hl
  · obtain rfl : i = l.length := by omega
    rw [List.take_length, List.drop_length, List.append_nil]
    exact insert_end l d hl
theorem add_no {l : List DocW} (hl : l.length ≤ 1000000) {k id : Int} {s : ByteArray} (hn : (setV s).2 ≠ 0 ∨ hasD l id = true ∨ l.length = 40) : CallOk Try.prog 41 [.ref 0 2 0 0, opP k id s] [(0, ixO 1 l.length []), (1, docsO l)] (.val (.int .i64 (if (setV s).2 ≠ 0 then (setV s).2 else if hasD l id = true then 21 else 20))) [(0, ixO 1 l.length []), (1, docsO l)] := by
  refine .of_exec Try.func41 rfl (enters_41) rfl rfl (Nat.le_of_ble_eq_true rfl) pre2 ?_
  have hS := Set_call (s := s)
  have hP := place_call hl (id := id)
  generalize setV s = v at *
  obtain ⟨ws, er⟩ := v
  simp
  refine .plain hS (by simp) (by simp) ?_
  by_cases c : er = 0
  · subst c
    simp at hn
    simp
    refine callT.own [1] [] hP (by simp) (by simp) (by simp) (by simp) (by simp) (by simp) (by simp) (by simp) (by simp) (by simp) ?_
    cases c2 : hasD l id with
    | true =>
      have c3 := (find_sgn l id).1 c2
      simp [c3]
      exact ⟨rfl, .own [(0, 0), (1, 1)] (by simp) (by simp) (by simp) (by simp) (by simp)⟩
    | false =>
      have c3 := (find_sgn l id).2 c2
      have c4 : l.length = 40 := by simpa [c2] using hn
      simp [c3, c4]
      exact ⟨rfl, .own [(0, 0), (1, 1)] (by simp) (by simp) (by simp [c4]) (by simp) (by simp)⟩
  · simp [c]
    exact .own [(0, 0), (1, 1)] (by simp) (by simp) (by simp) (by simp) (by simp)
theorem add_yes {l : List DocW} (hl : l.length ≤ 1000000) (hs : sortD l) {k id : Int} {s : ByteArray} (h1 : (setV s).2 = 0) (h2 : hasD l id = false) (h3 : l.length ≠ 40) : CallOk Try.prog 41 [.ref 0 2 0 0, opP k id s] [(0, ixO 1 l.length []), (1, docsO l)] (.val (.int .i64 0)) [(0, ixO 2 (l.length + 1) []), (2, docsO (insD l ⟨id, (setV s).1⟩))] := by
  refine .of_exec Try.func41 rfl (enters_41) rfl rfl (Nat.le_of_ble_eq_true rfl) pre2 ?_
  have hS := Set_call (s := s)
  have hP := place_call hl (id := id)
  obtain ⟨b, hB⟩ := bin_call hl hs (id := id)
  have hI := insert_call (d := ⟨id, (setV s).1⟩) (posD_le l id) hl
  rw [show l.take (posD l id) ++ [⟨id, (setV s).1⟩] ++ l.drop (posD l id) = insD l ⟨id, (setV s).1⟩ from rfl] at hI
  generalize posD l id = p at hB hI
  rw [(find_sgn l id).2 h2] at hP
  generalize setV s = v at *
  obtain ⟨ws, er⟩ := v
  simp at h1
  subst h1
  have h3' : ¬ (l.length : Int) = 40 := by omega
  simp
  refine .plain hS (by simp) (by simp) ?_
  simp
  refine callT.own [1] [] hP (by simp) (by simp) (by simp) (by simp) (by simp) (by simp) (by simp) (by simp) (by simp) (by simp) ?_
  simp [h3']
  refine ⟨rfl, ?_⟩
  refine callT.own [1] [] hB (by simp) (by simp) (by simp) (by simp) (by simp) (by simp) (by simp) (by simp) (by simp) (by simp) ?_
  simp
  refine ⟨rfl, ?_⟩
  have m1 : 1 ≤ maxLen := by decide
  refine ⟨m1, fun _ => ?_⟩
  refine callT.own [] [(1, 0), (472, 1)] hI (by simp) (by simp) (by simp) (by simp) (by simp) (by simp; rfl) (by simp) (by simp) (by simp) (by simp) ?_
  simp
  refine ⟨rfl, ?_⟩
  exact .own [(0, 0), (482, 2)] (by simp) (by simp) (by simp) (by simp) (by simp)
theorem replace_no {l : List DocW} (hl : l.length ≤ 1000000) {k id : Int} {s : ByteArray} (hn : (setV s).2 ≠ 0 ∨ hasD l id = false) : CallOk Try.prog 43 [.ref 0 2 0 0, opP k id s] [(0, ixO 1 l.length []), (1, docsO l)] (.val (.int .i64 (if (setV s).2 ≠ 0 then (setV s).2 else 22))) [(0, ixO 1 l.length []), (1, docsO l)] := by
  refine .of_exec Try.func43 rfl (enters_43) rfl rfl (Nat.le_of_ble_eq_true rfl) pre2 ?_
  have hS := Set_call (s := s)
  have hP := place_call hl (id := id)
  generalize setV s = v at *
  obtain ⟨ws, er⟩ := v
  simp
  refine .plain hS (by simp) (by simp) ?_
  simp
  refine callT.own [1] [] hP (by simp) (by simp) (by simp) (by simp) (by simp) (by simp) (by simp) (by simp) (by simp) (by simp) ?_
  by_cases c : er = 0
  · subst c
    simp at hn
    have c3 := (find_sgn l id).2 hn
    simp [c3]
    exact ⟨rfl, .own [(0, 0), (1, 1)] (by simp) (by simp) (by simp) (by simp) (by simp)⟩
  · simp [c]
    exact ⟨rfl, .own [(0, 0), (1, 1)] (by simp) (by simp) (by simp) (by simp) (by simp)⟩
theorem replace_yes {l : List DocW} (hl : l.length ≤ 1000000) (hs : sortD l) {k id : Int} {s : ByteArray} (h1 : (setV s).2 = 0) (h2 : hasD l id = true) : CallOk Try.prog 43 [.ref 0 2 0 0, opP k id s] [(0, ixO 1 l.length []), (1, docsO l)] (.val (.int .i64 0)) [(0, ixO 1 l.length []), (1, docsO (repD l id (setV s).1))] := by
  refine .of_exec Try.func43 rfl (enters_43) rfl rfl (Nat.le_of_ble_eq_true rfl) pre2 ?_
  have hS := Set_call (s := s)
  have hP := place_call hl (id := id)
  obtain ⟨i, hi, e1, e2⟩ := find_at h2
  rw [e1] at hP
  have hi' : (i : Int) < l.length := by omega
  have hr := rep_at (ws := (setV s).1) hs hi e2
  generalize setV s = v at *
  obtain ⟨ws, er⟩ := v
  simp at h1
  subst h1
  simp
  refine .plain hS (by simp) (by simp) ?_
  simp
  refine callT.own [1] [] hP (by simp) (by simp) (by simp) (by simp) (by simp) (by simp) (by simp) (by simp) (by simp) (by simp) ?_
  have hi0 : ¬ (i : Int) < 0 := by omega
  simp [hi0, hi, hi']
  have hset : (rowsD l).set i [.val (.int .i64 l[i].id), .rd 1 (strs ws)] = rowsD (repD l id ws) := by
    rw [hr, show [PV.val (.int .i64 l[i].id), .rd 1 (strs ws)] = docR ⟨id, ws⟩ from by rw [e2], List.set_eq_take_append_cons_drop, rowsN_length, if_pos hi, rowsN_take, rowsN_drop, rowsD, ← rowsN_app, ← rowsN_app, List.append_assoc]
    rfl
  rw [hset]
  exact ⟨rfl, .own [(0, 0), (1, 1)] (by simp) (by simp) (by simp) (by simp) (by simp)⟩
theorem replace_yes2 {l : List DocW} (hl : l.length ≤ 1000000) (hs : sortD l) {k id : Int} {s : ByteArray} (h1 : (setV s).2 = 0) (h2 : hasD l id = true) : CallOk Try.prog 43 [.ref 0 2 0 0, opP k id s] [(0, ixO 1 l.length []), (1, docsO l)] (.val (.int .i64 0)) [(0, ixO 1 (repD l id (setV s).1).length []), (1, docsO (repD l id (setV s).1))] := by
  rw [show (repD l id (setV s).1).length = l.length by simp [repD]]
  exact replace_yes hl hs h1 h2
theorem add_yes2 {l : List DocW} (hl : l.length ≤ 1000000) (hs : sortD l) {k id : Int} {s : ByteArray} (h1 : (setV s).2 = 0) (h2 : hasD l id = false) (h3 : l.length ≠ 40) : CallOk Try.prog 41 [.ref 0 2 0 0, opP k id s] [(0, ixO 1 l.length []), (1, docsO l)] (.val (.int .i64 0)) [(0, ixO 2 (insD l ⟨id, (setV s).1⟩).length []), (2, docsO (insD l ⟨id, (setV s).1⟩))] := by
  have hp := posD_le l id
  rw [show (insD l ⟨id, (setV s).1⟩).length = l.length + 1 by simp [insD]; omega]
  exact add_yes hl hs h1 h2 h3
end Go.Proofs.Ytipolblhiljoiaa.Sy
