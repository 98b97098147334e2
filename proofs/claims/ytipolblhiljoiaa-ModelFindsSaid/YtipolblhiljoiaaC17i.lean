/- Layer 17: the program's All. -/
import Derived.Test.YtipolblhiljoiaaC17e
import Derived.Test.YtipolblhiljoiaaSyRng
namespace Go.Proofs.Ytipolblhiljoiaa.Sy
open Go Go.RowKit
set_option linter.unusedVariables false
set_option linter.unusedSimpArgs false
set_option maxRecDepth 10000
set_option maxHeartbeats 8000000
def idx_inv (l : List ByteArray) (s : ByteArray) (m : Nat) (st : St) : Prop := ∃ i : Nat, m = l.length - i ∧ i ≤ l.length ∧ s ∉ l.take i ∧
  st = ⟨19, [(8, .val (.int .i64 i)), (7, .val (.int .i64 l.length)), (1, .val (.string s)), (0, .rd 1 (strs l))], [], 64⟩
theorem index_call {l : List ByteArray} {s : ByteArray} (hl : l.length ≤ 1000000) : ∃ r : Int, (0 ≤ r ↔ s ∈ l) ∧ CallOk Try.prog 65 [.rd 1 (strs l), .val (.string s)] [] (.val (.int .i64 r)) [] := by
  obtain ⟨r, hr⟩ : ∃ r : Int, r = if s ∈ l then (l.findIdx (fun x => decide (x = s)) : Int) else -1 := ⟨_, rfl⟩
  refine ⟨r, ?_, ?_⟩
  · rw [hr]; split <;> rename_i h <;> simp [h] <;> omega
  refine .of_exec Try.func65 rfl (enters_65) rfl rfl (Nat.le_of_ble_eq_true rfl) (fun n _ => rfl) ?_
  simp
  refine WPg.loopW (idx_inv l s) ⟨l.length, _, ?_, ⟨0, by simp, by simp, by simp, rfl⟩⟩ ?_
  · exact Wk.rn [] rfl (by simp) (by simp) (by simp)
  rintro m st ⟨i, h1, h2, h3, rfl⟩
  by_cases hi : i < l.length
  · have hi' : (i : Int) < l.length := by omega
    have hwr : IntKind.i64.wrap ((i : Int) + 1) = ((i + 1 : Nat) : Int) := by rw [w64 (by omega) (by omega)]; omega
    obtain ⟨x, hx⟩ : ∃ x, l[i] = x := ⟨_, rfl⟩
    by_cases c : s = x
    · subst c
      have e1 : s ∈ l := by rw [← hx]; exact List.getElem_mem hi
      have e2 : l.findIdx (fun x => decide (x = s)) = i := by
        rw [List.findIdx_eq hi]
        refine ⟨by simp [hx], fun j hj => ?_⟩
        have : l[j] ≠ s := fun e => h3 (by rw [← e, ← List.getElem_take (h := by simp; omega) (i := j) (j := i)]; exact List.getElem_mem _)
        simp [this]
      rw [if_pos e1, e2] at hr
      simp [hi, hi', hx]
      exact .plain (by simp) (by simp [hr])
    · simp [hi, hi', hx, c]
      refine ⟨l.length - (i + 1), by omega, _, ?_, ⟨i + 1, rfl, by omega, ?_, rfl⟩⟩
      · rw [hwr]
        exact Wk.rn [] rfl (by simp) (by simp) (by simp)
      · rw [wtake_one hi, hx]
        intro hm
        rcases List.mem_append.1 hm with h | h
        · exact h3 h
        · exact c (List.mem_singleton.1 h)
  · obtain rfl : i = l.length := by omega
    rw [List.take_length] at h3
    rw [if_neg h3] at hr
    simp
    exact .plain (by simp) (by simp [hr])
theorem contains_call {l : List ByteArray} {s : ByteArray} (hl : l.length ≤ 1000000) : CallOk Try.prog 54 [.rd 1 (strs l), .val (.string s)] [] (.val (.bool (inW l s))) [] := by
  obtain ⟨r, h1, h2⟩ := index_call (s := s) hl
  refine .of_exec Try.func54 rfl (enters_54) rfl rfl (Nat.le_of_ble_eq_true rfl) (fun n _ => rfl) ?_
  have e : decide (0 ≤ r) = inW l s := by unfold inW; rw [decide_eq_decide]; exact h1
  simp
  refine .plain h2 (by simp) (by simp) ?_
  simp
  exact .plain (by simp) (by simp [e])
theorem lacks_call {d : DocW} {s : ByteArray} (hl : d.ws.length ≤ 1000000) : CallOk Try.prog 53 [.val (.string s), .rp 2 [docR d] 0 0] [] (.val (.bool (!inW d.ws s))) [] := by
  refine .of_exec Try.func53 rfl (enters_53) rfl rfl (Nat.le_of_ble_eq_true rfl) (fun n _ => rfl) ?_
  simp
  refine .plain (contains_call hl) (by simp) (by simp) ?_
  simp
  exact .plain (by simp) (by simp)
theorem hasAll_any (ws : List ByteArray) (d : DocW) : hasAll ws d = !(ws.any fun w => !inW d.ws w) := by
  unfold hasAll
  induction ws with
  | nil => rfl
  | cons w ws ih => rw [List.all_cons, List.any_cons, ih]; cases inW d.ws w <;> simp
theorem lacking_call {d : DocW} {ws : List ByteArray} (hw : ws.length ≤ 1000000) (hl : d.ws.length ≤ 1000000) : CallOk Try.prog 33 [.rd 1 (strs ws), .clo 53 [.rp 2 [docR d] 0 0]] [] (.val (.bool (!hasAll ws d))) [] := by
  have hm : (1000000 : Nat) ≤ maxLen := by decide
  rw [hasAll_any, Bool.not_not]
  exact ContainsC_call (Nat.le_trans hw hm) (fun w => !inW d.ws w) (fun w _ => lacks_call hl)
def mall_inv (l : List DocW) (ws : List ByteArray) (tm : Array Value) (fid : FuncId) (dfs : Nat) (A B : Code) (m : Nat) (st : St) : Prop := ∃ i : Nat, m = l.length - i ∧ i ≤ l.length ∧
  st = ⟨26, [(9, .val (.int .i64 i)), (8, .val (.int .i64 l.length)), (7, .rd 2 (rowsD l)), (0, .yld 128), (2, .ref 96 1 0 0)],
    [(128, ⟨0, 0, [], .loop ⟨15, [(8, .clo 52 [.ref 88 1 0 0, .ref 96 1 0 0]), (4, .ref 64 1 0 0)], tm, fid, #[9], A, B, dfs, .ready, none⟩⟩),
     (96, ⟨35, 1, [[.rd 1 (strs ws)]], .cells⟩), (88, ⟨25, 1, [[.rd 2 (rowsD l)]], .cells⟩), (64, ⟨23, 1, [[.sl 136 1 0 (allM (l.take i) ws).length]], .cells⟩), (136, ⟨3, 1, intsR (allM (l.take i) ws), .cells⟩)], 144⟩
theorem mall_call {l : List DocW} (h : DocsIn l) {ws : List ByteArray} (hw : ws.length ≤ 1000000) : CallOk Try.prog 21 [.rd 2 (rowsD l), .rd 1 (strs ws)] [] (.rd 1 (intsR (allM l ws))) [] := by
  refine .of_exec Try.func21 rfl (enters_21) rfl rfl (Nat.le_of_ble_eq_true rfl) (fun n _ => rfl) ?_
  have hl := h.len
  simp
  refine callK.walk (n := 6) (res := [.tmp 4]) Try.func35 rfl (enters_35) rfl rfl (by simp) ?_
  simp
  refine WPg.rangeV (by simp) (by simp; rfl) (n := 26) Try.func52 rfl (enters_52) rfl (by simp) rfl fun tm fid dfs A B hA hB => ?_
  simp
  refine WPg.loopW (mall_inv l ws tm fid dfs A B) ⟨l.length, _, ?_, ⟨0, by simp, by simp, rfl⟩⟩ ?_
  · refine (Wk.nil [] [64] 3 1).trans ?_
    exact Wk.rn [(160, 136)] rfl (by simp) (by simp) (by simp [allM, intsR_nil])
  rintro m st ⟨i, h1, h2, rfl⟩
  by_cases hi : i < l.length
  · have hi' : (i : Int) < l.length := by omega
    have hne : l ≠ [] := by rintro rfl; simp at hi
    have hwr : IntKind.i64.wrap ((i : Int) + 1) = ((i + 1 : Nat) : Int) := by rw [w64 (by omega) (by omega)]; omega
    obtain ⟨x, hx⟩ : ∃ x, l[i] = x := ⟨_, rfl⟩
    have hxm : x ∈ l := by rw [← hx]; exact List.getElem_mem hi
    obtain ⟨x1, x2, x3⟩ := h.ws x hxm
    have htk : l.take (i + 1) = l.take i ++ [x] := by rw [wtake_one hi, hx]
    have hlen : (allM (l.take i) ws).length ≤ i := by
      unfold allM
      rw [List.length_map]
      exact Nat.le_trans (List.length_filter_le _ _) (by simp; omega)
    have hL := lacking_call (d := x) hw x2
    simp [hi, hi', hx, hne]
    refine .lent [168] hL (by simp) (by simp) (by simp) (by simp) (by simp) (by simp) ?_
    cases hb : hasAll ws x with
    | false =>
      have e : allM (l.take (i + 1)) ws = allM (l.take i) ws := by rw [htk]; simp [allM, hb]
      simp
      refine ⟨l.length - (i + 1), by omega, _, ?_, ⟨i + 1, rfl, by omega, rfl⟩⟩
      rw [hwr, e]
      exact Wk.rn [(136, 136)] rfl (by simp) (by simp) (by simp)
    | true =>
      have e : allM (l.take (i + 1)) ws = allM (l.take i) ws ++ [x.id] := by rw [htk]; simp [allM, hb]
      generalize allM (l.take i) ws = out at *
      have m1 : 1 ≤ maxLen := by decide
      have m2 : out.length ≤ 140737488355327 := by omega
      have m3 : (out.length + 1) * 8 ≤ 140737488355328 := by omega
      simp
      refine yieldK.walk (by simp; rfl) rfl rfl (by simp) (by simp) ?_
      simp [hA, hB, m1, m2, m3]
      refine roundK.mk (by simp; rfl) ?_
      simp
      refine ⟨l.length - (i + 1), by omega, _, ?_, ⟨i + 1, rfl, by omega, rfl⟩⟩
      rw [hwr, e]
      exact Wk.rn [(296, 136)] rfl (by simp) (by simp) (by simp)
  · obtain rfl : i = l.length := by omega
    simp
    refine rangeQ.mk (by simp; rfl) rfl rfl (by simp) ?_
    simp
    exact .frz [136] [4] (by simp) (by simp) (by simp) (by simp) (by simp)
end Go.Proofs.Ytipolblhiljoiaa.Sy
