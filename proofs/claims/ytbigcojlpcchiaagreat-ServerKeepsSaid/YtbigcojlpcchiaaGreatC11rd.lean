/- Layer 11: the document's Decode, Read. -/
import Derived.Test.YtbigcojlpcchiaaGreatC11rb
namespace Go.Proofs.YtbigcojlpcchiaaGreat.Sy
open Go Go.RowKit
set_option linter.unusedVariables false
set_option linter.unusedSimpArgs false
set_option maxRecDepth 10000
set_option maxHeartbeats 8000000
theorem refDecode_call (s : ByteArray) : CallOk Tryz.prog 25 [.val (.string s)] [] (.tup [reqP (decQ s).1 (decQ s).2.1 (decQ s).2.2.1, eN (decQ s).2.2.2]) [] := by
  refine .of_exec Tryz.func25 rfl (enters_25) rfl rfl (Nat.le_of_ble_eq_true rfl) (fun n _ => rfl) ?_
  have hq : decQ s = if decE s = 0 then ((decN s).1, (decL s).1, (decC s).1, 0) else (0, [], [], decE s) := rfl
  by_cases c0 : 65536 < s.size
  · have c0' : 65536 < (s.size : Int) := by omega
    have n0 : newE s = 2 := if_pos c0
    have a1 : decN s = (0, 0, 2) := by unfold decN takeN; rw [n0, if_neg (by omega)]
    have a2 : decL s = ([], 0, 2) := by unfold decL takeL; rw [a1, if_neg (by simp)]
    have a3 : decC s = ([], 0, 2) := by unfold decC takeL; rw [a2, if_neg (by simp)]
    have a4 : decE s = 2 := by unfold decE endE; rw [a3, if_neg (by simp)]
    rw [a4, if_neg (by omega)] at hq
    simp [c0, c0']
    exact .wk _ (Wk.nilRdB 1 [64]) (by simp) (by simp [hq, strs_nil])
  have c0' : ¬ 65536 < (s.size : Int) := by omega
  have n0 : newE s = 0 := if_neg c0
  have a1 : decN s = tNum s 0 := by unfold decN takeN; rw [n0, if_pos rfl]
  have t1 := refTakeNumber_call s 0
  rw [← a1] at t1
  simp [c0, c0']
  refine .plain t1 (by simp) (by simp) ?_
  by_cases c1 : (decN s).2.2 = 0
  rotate_left
  · have a2 : decL s = ([], (decN s).2.1, (decN s).2.2) := by unfold decL takeL; rw [if_neg c1]
    have a3 : decC s = ([], (decN s).2.1, (decN s).2.2) := by unfold decC takeL; rw [a2, if_neg c1]
    have a4 : decE s = (decN s).2.2 := by unfold decE endE; rw [a3, if_neg c1]
    rw [a4, if_neg c1] at hq
    simp [c1]
    exact .wk _ (Wk.nilRdB 1 [64]) (by simp) (by simp [hq, strs_nil])
  have a2 : decL s = tList s (decN s).2.1 := by unfold decL takeL; rw [if_pos c1]
  have t2 := refTakeList_call s (decN s).2.1
  rw [← a2] at t2
  simp [c1]
  refine .plain t2 (by simp) (by simp) ?_
  by_cases c2 : (decL s).2.2 = 0
  rotate_left
  · have a3 : decC s = ([], (decL s).2.1, (decL s).2.2) := by unfold decC takeL; rw [if_neg c2]
    have a4 : decE s = (decL s).2.2 := by unfold decE endE; rw [a3, if_neg c2]
    rw [a4, if_neg c2] at hq
    simp [c2]
    exact .wk _ (Wk.nilRdB 1 [64]) (by simp) (by simp [hq, strs_nil])
  have a3 : decC s = tList s (decL s).2.1 := by unfold decC takeL; rw [if_pos c2]
  have t3 := refTakeList_call s (decL s).2.1
  rw [← a3] at t3
  simp [c2]
  refine .plain t3 (by simp) (by simp) ?_
  by_cases c3 : (decC s).2.2 = 0
  rotate_left
  · have a4 : decE s = (decC s).2.2 := by unfold decE endE; rw [if_neg c3]
    rw [a4, if_neg c3] at hq
    simp [c3]
    exact .wk _ (Wk.nilRdB 1 [64]) (by simp) (by simp [hq, strs_nil])
  have l1 := takeL_len s (decN s).2.1 (decN s).2.2
  have l2 := takeL_len s (decL s).2.1 (decL s).2.2
  rw [← decL] at l1
  rw [← decC] at l2
  have a4 : decE s = if endC s (decC s).2.1 = 0 then if rightQ (decN s).1 (decL s).1 (decC s).1 then 0 else 13 else 13 := by unfold decE endE; rw [if_pos c3]
  simp [c3]
  refine .plain (refend_call s (decC s).2.1) (by simp) (by simp) ?_
  by_cases c4 : endC s (decC s).2.1 = 0
  · rw [if_pos c4] at a4
    simp [c4]
    refine .plain (refRight_call (by omega) (by omega)) (by simp) (by simp) ?_
    cases c5 : rightQ (decN s).1 (decL s).1 (decC s).1 with
    | false =>
      rw [c5, if_neg (by simp)] at a4
      rw [a4, if_neg (by omega)] at hq
      simp
      exact .wk _ (Wk.nilRdB 1 [64]) (by simp) (by simp [hq, strs_nil])
    | true =>
      rw [c5, if_pos rfl] at a4
      rw [a4, if_pos rfl] at hq
      simp
      exact .plain (by simp) (by simp [hq])
  · rw [if_neg c4] at a4
    rw [a4, if_neg (by omega)] at hq
    simp [c4]
    exact .wk _ (Wk.nilRdB 1 [64]) (by simp) (by simp [hq, strs_nil])
theorem refRead_call (s : ByteArray) : CallOk Tryz.prog 24 [.val (.string s)] [] (.tup [resP (readA s).k (readA s).st (readA s).cs (readA s).m (readA s).r, eN (readA s).e]) [] := by
  refine .of_exec Tryz.func24 rfl (enters_24) rfl rfl (Nat.le_of_ble_eq_true rfl) (fun n _ => rfl) ?_
  have hq : readA s = if rdX s = 0 then ⟨(rdE s).1, (rdS s).1, (rdC s).1, (rdM s).1, (rdR s).1, 0⟩ else ⟨0, 0, [], 0, 0, rdX s⟩ := rfl
  by_cases c0 : 65536 < s.size
  · have c0' : 65536 < (s.size : Int) := by omega
    have n0 : newE s = 2 := if_pos c0
    have a1 : rdE s = (0, 0, 2) := by unfold rdE takeN; rw [n0, if_neg (by omega)]
    have a2 : rdS s = (0, 0, 2) := by unfold rdS takeN; rw [a1, if_neg (by simp)]
    have a3 : rdC s = ([], 0, 2) := by unfold rdC takeL; rw [a2, if_neg (by simp)]
    have a4 : rdM s = (0, 0, 2) := by unfold rdM takeN; rw [a3, if_neg (by simp)]
    have a5 : rdR s = (0, 0, 2) := by unfold rdR takeN; rw [a4, if_neg (by simp)]
    have a6 : rdX s = 2 := by unfold rdX endE; rw [a5, if_neg (by simp)]
    rw [a6, if_neg (by omega)] at hq
    simp [c0, c0']
    exact .wk _ (Wk.nilRdB 1 [64]) (by simp) (by simp [hq, strs_nil])
  have c0' : ¬ 65536 < (s.size : Int) := by omega
  have n0 : newE s = 0 := if_neg c0
  have a1 : rdE s = tNum s 0 := by unfold rdE takeN; rw [n0, if_pos rfl]
  have t1 := refTakeNumber_call s 0
  rw [← a1] at t1
  simp [c0, c0']
  refine .plain t1 (by simp) (by simp) ?_
  by_cases c1 : (rdE s).2.2 = 0
  rotate_left
  · have a2 : rdS s = (0, (rdE s).2.1, (rdE s).2.2) := by unfold rdS takeN; rw [if_neg c1]
    have a3 : rdC s = ([], (rdE s).2.1, (rdE s).2.2) := by unfold rdC takeL; rw [a2, if_neg c1]
    have a4 : rdM s = (0, (rdE s).2.1, (rdE s).2.2) := by unfold rdM takeN; rw [a3, if_neg c1]
    have a5 : rdR s = (0, (rdE s).2.1, (rdE s).2.2) := by unfold rdR takeN; rw [a4, if_neg c1]
    have a6 : rdX s = (rdE s).2.2 := by unfold rdX endE; rw [a5, if_neg c1]
    rw [a6, if_neg c1] at hq
    simp [c1]
    exact .wk _ (Wk.nilRdB 1 [64]) (by simp) (by simp [hq, strs_nil])
  have a2 : rdS s = tNum s (rdE s).2.1 := by unfold rdS takeN; rw [if_pos c1]
  have t2 := refTakeNumber_call s (rdE s).2.1
  rw [← a2] at t2
  simp [c1]
  refine .plain t2 (by simp) (by simp) ?_
  by_cases c2 : (rdS s).2.2 = 0
  rotate_left
  · have a3 : rdC s = ([], (rdS s).2.1, (rdS s).2.2) := by unfold rdC takeL; rw [if_neg c2]
    have a4 : rdM s = (0, (rdS s).2.1, (rdS s).2.2) := by unfold rdM takeN; rw [a3, if_neg c2]
    have a5 : rdR s = (0, (rdS s).2.1, (rdS s).2.2) := by unfold rdR takeN; rw [a4, if_neg c2]
    have a6 : rdX s = (rdS s).2.2 := by unfold rdX endE; rw [a5, if_neg c2]
    rw [a6, if_neg c2] at hq
    simp [c2]
    exact .wk _ (Wk.nilRdB 1 [64]) (by simp) (by simp [hq, strs_nil])
  have a3 : rdC s = tList s (rdS s).2.1 := by unfold rdC takeL; rw [if_pos c2]
  have t3 := refTakeList_call s (rdS s).2.1
  rw [← a3] at t3
  simp [c2]
  refine .plain t3 (by simp) (by simp) ?_
  by_cases c3 : (rdC s).2.2 = 0
  rotate_left
  · have a4 : rdM s = (0, (rdC s).2.1, (rdC s).2.2) := by unfold rdM takeN; rw [if_neg c3]
    have a5 : rdR s = (0, (rdC s).2.1, (rdC s).2.2) := by unfold rdR takeN; rw [a4, if_neg c3]
    have a6 : rdX s = (rdC s).2.2 := by unfold rdX endE; rw [a5, if_neg c3]
    rw [a6, if_neg c3] at hq
    simp [c3]
    exact .wk _ (Wk.nilRdB 1 [64]) (by simp) (by simp [hq, strs_nil])
  have a4 : rdM s = tNum s (rdC s).2.1 := by unfold rdM takeN; rw [if_pos c3]
  have t4 := refTakeNumber_call s (rdC s).2.1
  rw [← a4] at t4
  simp [c3]
  refine .plain t4 (by simp) (by simp) ?_
  by_cases c4 : (rdM s).2.2 = 0
  rotate_left
  · have a5 : rdR s = (0, (rdM s).2.1, (rdM s).2.2) := by unfold rdR takeN; rw [if_neg c4]
    have a6 : rdX s = (rdM s).2.2 := by unfold rdX endE; rw [a5, if_neg c4]
    rw [a6, if_neg c4] at hq
    simp [c4]
    exact .wk _ (Wk.nilRdB 1 [64]) (by simp) (by simp [hq, strs_nil])
  have a5 : rdR s = tNum s (rdM s).2.1 := by unfold rdR takeN; rw [if_pos c4]
  have t5 := refTakeNumber_call s (rdM s).2.1
  rw [← a5] at t5
  simp [c4]
  refine .plain t5 (by simp) (by simp) ?_
  by_cases c5 : (rdR s).2.2 = 0
  rotate_left
  · have a6 : rdX s = (rdR s).2.2 := by unfold rdX endE; rw [if_neg c5]
    rw [a6, if_neg c5] at hq
    simp [c5]
    exact .wk _ (Wk.nilRdB 1 [64]) (by simp) (by simp [hq, strs_nil])
  have l1 := takeL_len s (rdS s).2.1 (rdS s).2.2
  rw [← rdC] at l1
  have a6 : rdX s = if endC s (rdR s).2.1 = 0 then if mayA (rdE s).1 (rdS s).1 (rdC s).1 (rdM s).1 (rdR s).1 then 0 else 13 else 13 := by unfold rdX endE; rw [if_pos c5]
  simp [c5]
  refine .plain (refend_call s (rdR s).2.1) (by simp) (by simp) ?_
  by_cases c6 : endC s (rdR s).2.1 = 0
  · rw [if_pos c6] at a6
    simp [c6]
    refine .plain (refMay_call (by omega)) (by simp) (by simp) ?_
    cases c7 : mayA (rdE s).1 (rdS s).1 (rdC s).1 (rdM s).1 (rdR s).1 with
    | false =>
      rw [c7, if_neg (by simp)] at a6
      rw [a6, if_neg (by omega)] at hq
      simp
      exact .wk _ (Wk.nilRdB 1 [64]) (by simp) (by simp [hq, strs_nil])
    | true =>
      rw [c7, if_pos rfl] at a6
      rw [a6, if_pos rfl] at hq
      simp
      exact .plain (by simp) (by simp [hq])
  · rw [if_neg c6] at a6
    rw [a6, if_neg (by omega)] at hq
    simp [c6]
    exact .wk _ (Wk.nilRdB 1 [64]) (by simp) (by simp [hq, strs_nil])
end Go.Proofs.YtbigcojlpcchiaaGreat.Sy
