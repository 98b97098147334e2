/- Layer 17: the document's All, change, Do. -/
import Derived.Test.YtipolblhiljoiaaC17f
namespace Go.Proofs.Ytipolblhiljoiaa.Sy
open Go Go.RowKit
set_option linter.unusedVariables false
set_option linter.unusedSimpArgs false
set_option maxRecDepth 10000
set_option maxHeartbeats 8000000
def rall_out (l : List DocW) (ws : List ByteArray) (m : Nat) (st : St) : Prop := ∃ i : Nat, m = l.length - i ∧ i ≤ l.length ∧
  st = ⟨44, [(6, .val (.int .i64 i)), (5, .sl 64 1 0 (allM (l.take i) ws).length), (1, .rd 1 (strs ws)), (0, .rd 2 (rowsD l))], [(64, ⟨3, 1, intsR (allM (l.take i) ws), .cells⟩)], 72⟩
def rall_in (l : List DocW) (ws : List ByteArray) (i : Nat) (x : DocW) (m : Nat) (st : St) : Prop := ∃ k : Nat, m = ws.length - k ∧ k ≤ ws.length ∧
  st = ⟨44, [(8, .val (.int .i64 k)), (7, .val (.bool (hasAll (ws.take k) x))), (6, .val (.int .i64 i)), (5, .sl 64 1 0 (allM (l.take i) ws).length), (1, .rd 1 (strs ws)), (0, .rd 2 (rowsD l))], [(64, ⟨3, 1, intsR (allM (l.take i) ws), .cells⟩)], 72⟩
theorem rAll_call {l : List DocW} (h : DocsIn l) {ws : List ByteArray} (hw : ws.length ≤ 1000000) : CallOk Try.prog 38 [.rd 2 (rowsD l), .rd 1 (strs ws)] [] (.rd 1 (intsR (allM l ws))) [] := by
  refine .of_run Try.func38 rfl (enters_38) rfl rfl (Nat.le_of_ble_eq_true rfl) (fun n _ => rfl) ?_
  have hl := h.len
  have hmx : (1000000 : Nat) ≤ maxLen := by decide
  refine .run ?_
  simp
  refine WPg.loopW (rall_out l ws) ⟨l.length, _, ?_, ⟨0, by simp, by simp, rfl⟩⟩ ?_
  · refine (Wk.nil [5] [] 3 1).trans ?_
    exact Wk.rn [(88, 64)] rfl (by simp) (by simp [allM]) (by simp [allM, intsR_nil])
  rintro m st ⟨i, h1, h2, rfl⟩
  by_cases hi : i < l.length
  · have hi' : (i : Int) < l.length := by omega
    have hne : l ≠ [] := by rintro rfl; simp at hi
    have hwr : IntKind.i64.wrap ((i : Int) + 1) = ((i + 1 : Nat) : Int) := by rw [w64 (by omega) (by omega)]; omega
    obtain ⟨x, hx⟩ : ∃ x, l[i] = x := ⟨_, rfl⟩
    have hxm : x ∈ l := by rw [← hx]; exact List.getElem_mem hi
    obtain ⟨x1, x2, x3⟩ := h.ws x hxm
    have htk : l.take (i + 1) = l.take i ++ [x] := by rw [wtake_one hi, hx]
    have hlen : (allM (l.take i) ws).length ≤ i := by
      unfold allM
      rw [List.length_map]
      exact Nat.le_trans (List.length_filter_le _ _) (by simp; omega)
    simp [hi, hi', hx, hne]
    refine WPg.loopW (rall_in l ws i x) ⟨ws.length, _, ?_, ⟨0, by simp, by simp, rfl⟩⟩ ?_
    · exact Wk.rn [(64, 64)] rfl (by simp) (by simp [hasAll]) (by simp)
    rintro m2 st2 ⟨k, k1, k2, rfl⟩
    by_cases hk : k < ws.length
    · have hk' : (k : Int) < ws.length := by omega
      have hwk : IntKind.i64.wrap ((k : Int) + 1) = ((k + 1 : Nat) : Int) := by rw [w64 (by omega) (by omega)]; omega
      obtain ⟨y, hy⟩ : ∃ y, ws[k] = y := ⟨_, rfl⟩
      have htw : hasAll (ws.take (k + 1)) x = (hasAll (ws.take k) x && inW x.ws y) := by unfold hasAll; rw [wtake_one hk, hy, List.all_append]; simp
      have hI := rIn_call (l := x.ws) (s := y) (Nat.le_trans x2 hmx)
      cases hb : hasAll (ws.take k) x with
      | false =>
        rw [hb] at htw
        simp [hi, hi', hx, hne, hk, hk', hy]
        refine ⟨rfl, ws.length - (k + 1), by omega, _, ?_, ⟨k + 1, rfl, by omega, rfl⟩⟩
        rw [hwk, htw]
        exact Wk.rn [(64, 64)] rfl (by simp) (by simp) (by simp)
      | true =>
        rw [hb] at htw
        simp [hi, hi', hx, hne, hk, hk', hy]
        refine callT.plain hI (by simp) (by simp) ?_
        simp
        refine ⟨rfl, ws.length - (k + 1), by omega, _, ?_, ⟨k + 1, rfl, by omega, rfl⟩⟩
        rw [hwk, htw]
        exact Wk.rn [(64, 64)] rfl (by simp) (by simp) (by simp)
    · obtain rfl : k = ws.length := by omega
      have ht : ws.take ws.length = ws := List.take_length
      cases hb : hasAll ws x with
      | false =>
        have e : allM (l.take (i + 1)) ws = allM (l.take i) ws := by rw [htk]; simp [allM, hb]
        simp [hb]
        refine ⟨l.length - (i + 1), by omega, _, ?_, ⟨i + 1, rfl, by omega, rfl⟩⟩
        rw [hwr, e]
        exact Wk.rn [(64, 64)] rfl (by simp) (by simp) (by simp)
      | true =>
        have e : allM (l.take (i + 1)) ws = allM (l.take i) ws ++ [x.id] := by rw [htk]; simp [allM, hb]
        generalize allM (l.take i) ws = out at *
        have m1 : 1 ≤ maxLen := by decide
        have m2 : out.length ≤ 140737488355327 := by omega
        have m3 : (out.length + 1) * 8 ≤ 140737488355328 := by omega
        simp [hb, hi, hi', hx, hne, m1, m2, m3]
        refine ⟨l.length - (i + 1), by omega, _, ?_, ⟨i + 1, rfl, by omega, rfl⟩⟩
        rw [hwr, e]
        exact Wk.rn [(168, 64)] rfl (by simp) (by simp) (by simp)
  · obtain rfl : i = l.length := by omega
    simp
    exact .frzD [64] [4] (by simp) (by simp) (by simp) (by simp)
end Go.Proofs.Ytipolblhiljoiaa.Sy
