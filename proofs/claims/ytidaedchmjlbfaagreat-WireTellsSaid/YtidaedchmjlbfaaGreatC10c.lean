/- Layer 10: lists that are taken, the program's; the end. -/
import Derived.Test.YtidaedchmjlbfaaGreatC10b
import Derived.Test.YtidaedchmjlbfaaGreatSyStrs
namespace Go.Proofs.YtidaedchmjlbfaaGreat.Sy
open Go Go.RowKit
set_option linter.unusedVariables false
set_option linter.unusedSimpArgs false
set_option maxRecDepth 10000
set_option maxHeartbeats 4000000
theorem clip_call0 : CallOk Tryz.prog 58 [.rd 1 []] [] .nl [] := by
  refine .of_exec Tryz.func58 rfl (enters_58) rfl rfl (Nat.le_of_ble_eq_true rfl) (fun n _ => rfl) ?_
  simp
  exact .plain (by simp) (by simp)
theorem clip_own {l : List ByteArray} (h : l ≠ []) (hl : l.length ≤ 1000000) : CallOk Tryz.prog 58 [.sl 0 1 0 l.length] [(0, ⟨9, 1, strs l, .cells⟩)] (.sl 0 1 0 l.length) [(0, ⟨9, 1, strs l, .cells⟩)] := by
  refine .of_exec Tryz.func58 rfl (enters_58) rfl rfl (Nat.le_of_ble_eq_true rfl) (fun n h => by rw [lookO, if_neg (by omega)]; rfl) ?_
  simp
  exact .own [(0, 0)] (by simp) (by simp) (by simp) (by simp) (by simp)
def lstS (s : ByteArray) (a n : Int) : List ByteArray × Int × Int := if 1000 < n then ([], a, 13) else tTexts s n.toNat a []
def lst_inv (s : ByteArray) (a : Int) (N : Nat) (m : Nat) (st : St) : Prop := ∃ (i : Nat) (d : Int) (out : List ByteArray), m = N - i ∧ i ≤ N ∧ out.length = i ∧ tTexts s N a [] = tTexts s (N - i) d out ∧
  st = ⟨35, [(14, .val (.int .i64 i)), (13, .val (.int .i64 N)), (5, .ref 72 2 0 0), (4, .sl 80 1 0 out.length), (2, .ref 64 2 0 0)],
    [(64, ⟨61, 2, [[.val (.string s), .val (.int .i64 d)]], .cells⟩), (72, ⟨61, 2, [[.val (.string ⟨#[]⟩), .val (.int .i64 0)]], .cells⟩), (80, ⟨9, 1, strs out, .cells⟩)], 88⟩
theorem lst_call (s : ByteArray) {a n : Int} (hn : 0 ≤ n ∧ n ≤ 4294967295) : CallOk Tryz.prog 56 [curP s a, .val (.int .i64 n)] [] (.tup [.rd 1 (strs (lstS s a n).1), curP s (lstS s a n).2.1, eN (lstS s a n).2.2]) [] := by
  refine .of_exec Tryz.func56 rfl (enters_56) rfl rfl (Nat.le_of_ble_eq_true rfl) (fun n _ => rfl) ?_
  by_cases h : 1000 < n
  · have e : lstS s a n = ([], a, 13) := if_pos h
    simp [h]
    refine ⟨rfl, ?_⟩
    exact .wk _ (Wk.nilRd 1 [(4, .rd 1 []), (5, .ref 80 2 0 0), (6, .val (.int .i64 13))] (by simp)) (by simp) (by simp [e, strs_nil])
  · obtain ⟨N, rfl⟩ : ∃ N : Nat, n = N := ⟨n.toNat, by omega⟩
    have e : lstS s a N = tTexts s N a [] := by unfold lstS; rw [if_neg h]; rfl
    have hN : N ≤ 1000 := by omega
    simp [h]
    refine WPg.loopW (lst_inv s a N) ⟨N, _, ?_, ⟨0, a, [], by simp, by simp, rfl, rfl, rfl⟩⟩ ?_
    · refine (Wk.nil [4] [] 9 1).trans ?_
      exact Wk.rn [(64, 64), (80, 72), (128, 80)] rfl (by simp) (by simp) (by simp [strs_nil])
    rintro m st ⟨i, d, out, h1, h2, h3, h4, rfl⟩
    by_cases hi : i < N
    · have hi' : (i : Int) < N := by omega
      have hw : IntKind.i64.wrap ((i : Int) + 1) = ((i + 1 : Nat) : Int) := by rw [w64 (by omega) (by omega)]; omega
      have hs : N - i = (N - (i + 1)) + 1 := by omega
      rw [hs, show tTexts s (N - (i + 1) + 1) d out = if (tText s d).2.2 = 0 then tTexts s (N - (i + 1)) (tText s d).2.1 (out ++ [(tText s d).1]) else ([], d, (tText s d).2.2) from rfl] at h4
      simp [hi, hi']
      refine .plain (TakeText_call s d) (by simp) (by simp) ?_
      by_cases h5 : (tText s d).2.2 = 0
      · rw [if_pos h5] at h4
        have b1 : out.length ≤ 140737488355327 ∧ (out.length + 1) * 16 ≤ 140737488355328 := by omega
        have m1 : 1 ≤ maxLen := by decide
        simp [h5, m1]
        refine ⟨b1, fun _ _ => ⟨rfl, N - (i + 1), by omega, _, ?_, ⟨i + 1, (tText s d).2.1, out ++ [(tText s d).1], rfl, by omega, by simp [h3], h4, rfl⟩⟩⟩
        rw [hw]
        exact Wk.rn [(64, 64), (72, 72), (216, 80)] rfl (by simp) (by simp) (by simp)
      · rw [if_neg h5] at h4
        simp [h5]
        refine ⟨rfl, ?_⟩
        exact .wk _ (Wk.nilRd 1 [(4, .rd 1 []), (5, .ref 72 2 0 0), (6, .val (.int .i64 (tText s d).2.2))] (by simp)) (by simp) (by simp [e, h4, strs_nil])
    · obtain rfl : i = N := by omega
      rw [Nat.sub_self, show tTexts s 0 d out = (out, d, 0) from rfl] at h4
      simp
      by_cases ho : out = []
      · subst ho
        refine callT.own [80] [] clip_call0 (by simp [strs_nil]) (by simp) (by simp) (by simp) (by simp) (by simp) (by simp) (by simp) (by simp) (by simp) ?_
        simp
        refine ⟨rfl, ?_⟩
        exact .wk _ (Wk.nilRd 1 [(4, .rd 1 []), (5, .ref 72 2 0 0), (6, .val (.int .i64 0))] (by simp)) (by simp) (by simp [e, h4, strs_nil])
      · refine callT.own [] [(80, 0)] (clip_own (l := out) ho (by omega)) (by simp) (by simp) (by simp) (by simp) (by simp) (by simp [ho]) (by simp) (by simp) (by simp) (by simp) ?_
        simp
        refine ⟨rfl, ?_⟩
        exact .frz [80] [4, 5, 6] (by simp) (by simp) (by simp) (by simp) (by simp [e, h4])
theorem cend_call (s : ByteArray) (a : Int) : CallOk Tryz.prog 59 [curP s a] [] (eN (endC s a)) [] := by
  refine .of_exec Tryz.func59 rfl (enters_59) rfl rfl (Nat.le_of_ble_eq_true rfl) (fun n _ => rfl) ?_
  simp
  refine .plain (cright_call s a) (by simp) (by simp) ?_
  cases h : okC s a with
  | false =>
    have e : endC s a = 1 := by unfold endC; rw [if_neg (by rw [h]; simp)]
    simp
    exact .plain (by simp) (by simp [e])
  | true =>
    by_cases h2 : a < s.size
    · have e : endC s a = 13 := by unfold endC; rw [if_pos h, if_pos h2]
      simp [h2]
      exact .plain (by simp) (by simp [e])
    · have e : endC s a = 0 := by unfold endC; rw [if_pos h, if_neg h2]
      simp [h2]
      exact .plain (by simp) (by simp [e])
end Go.Proofs.YtidaedchmjlbfaaGreat.Sy
