/- Layer 11: Decode. -/
import Derived.Test.YtbigcojlpcchiaaGreatC11d
namespace Go.Proofs.YtbigcojlpcchiaaGreat.Sy
open Go Go.RowKit
set_option linter.unusedVariables false
set_option linter.unusedSimpArgs false
set_option maxRecDepth 10000
set_option maxHeartbeats 4000000
theorem takeN_i64 (s : ByteArray) (a e : Int) : isI64 (takeN s a e).1 := by
  unfold takeN
  split
  · by_cases h : (tNum s a).2.2 = 0
    · obtain ⟨_, _, h3, h4⟩ := tNum_ok h
      have := b4_range s a
      rw [h4]; exact ⟨by omega, by omega⟩
    · rw [tNum_no h]; exact ⟨by omega, by omega⟩
  · exact ⟨by simp, by simp⟩
theorem takeL_len (s : ByteArray) (a e : Int) : (takeL s a e).1.length ≤ 1000 := by
  unfold takeL
  split
  · by_cases h : (tList s a).2.2 = 0
    · exact (tList_at h).2.2.2.2.1
    · rw [tList_no h]; simp
  · simp
def decN (s : ByteArray) : Int × Int × Int := takeN s 0 (newE s)
def decL (s : ByteArray) : List ByteArray × Int × Int := takeL s (decN s).2.1 (decN s).2.2
def decC (s : ByteArray) : List ByteArray × Int × Int := takeL s (decL s).2.1 (decL s).2.2
def decE (s : ByteArray) : Int := endE s (decC s).2.1 (decC s).2.2 (rightQ (decN s).1 (decL s).1 (decC s).1)
/-- What is read of bytes: kind, labels, cells, and an error, with which there are none. -/
def decQ (s : ByteArray) : Int × List ByteArray × List ByteArray × Int := if decE s = 0 then ((decN s).1, (decL s).1, (decC s).1, 0) else (0, [], [], decE s)
theorem Decode_call (s : ByteArray) : CallOk Tryz.prog 45 [.val (.string s)] [] (.tup [reqP (decQ s).1 (decQ s).2.1 (decQ s).2.2.1, eN (decQ s).2.2.2]) [] := by
  refine .of_exec Tryz.func45 rfl (enters_45) rfl rfl (Nat.le_of_ble_eq_true rfl) (fun n _ => rfl) ?_
  have h1 := takeN_call s 0 (newE s)
  have h2 := takeL_call s (decN s).2.1 (decN s).2.2
  have h3 := takeL_call s (decL s).2.1 (decL s).2.2
  have n1 := takeN_i64 s 0 (newE s)
  have l1 := takeL_len s (decN s).2.1 (decN s).2.2
  have l2 := takeL_len s (decL s).2.1 (decL s).2.2
  rw [← decN] at h1 n1
  rw [← decL] at h2 l1
  rw [← decC] at h3 l2
  have h4 := end_call s (decC s).2.1 (decC s).2.2 (rightQ (decN s).1 (decL s).1 (decC s).1) (decIs_call n1 (by omega) (by omega))
  rw [← decE] at h4
  have hq : decQ s = if decE s = 0 then ((decN s).1, (decL s).1, (decC s).1, 0) else (0, [], [], decE s) := rfl
  generalize decE s = E at *
  generalize decN s = N at *
  generalize decL s = L at *
  generalize decC s = K at *
  simp
  refine callK.own [] [] (newReader_call s) (by simp) (by simp) (by simp) (by simp) (by simp) (by simp) (by simp) (by simp) (by simp) (by simp) ?_
  simp
  refine callK.own [] [(89, 0)] h1 (by simp) (by simp) (by simp) (by simp) (by simp) (by simp) (by simp) (by simp) (by simp) (by simp) ?_
  simp
  refine callK.own [] [(89, 0)] h2 (by simp) (by simp) (by simp) (by simp) (by simp) (by simp) (by simp) (by simp) (by simp) (by simp) ?_
  simp
  refine callK.own [] [(89, 0)] h3 (by simp) (by simp) (by simp) (by simp) (by simp) (by simp) (by simp) (by simp) (by simp) (by simp) ?_
  simp
  refine callK.own [160] [(89, 0)] h4 (by simp [noRdRows, noRd0]) (by simp [noRdRows, noRd0]) (by simp [noRdRows, noRd0]) (by simp [noRdRows, noRd0]) (by simp [noRdRows, noRd0]) (by simp [noRdRows, noRd0]) (by simp [noRdRows, noRd0]) (by simp [noRdRows, noRd0]) (by simp [noRdRows, noRd0]) (by simp [noRdRows, noRd0]) ?_
  by_cases c : E = 0
  · rw [if_pos c] at hq
    subst c
    simp
    exact .plain (by simp) (by simp [hq])
  · rw [if_neg c] at hq
    simp [c]
    exact .wk _ (Wk.nilRdB 1 [64]) (by simp) (by simp [hq, strs_nil])
end Go.Proofs.YtbigcojlpcchiaaGreat.Sy
