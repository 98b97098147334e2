/- Layer 17: documents in memory of their own; finding one: the program's and the document's. -/
import Derived.Test.YtipolblhiljoiaaC17d
namespace Go.Proofs.Ytipolblhiljoiaa.Sy
open Go Go.RowKit
set_option linter.unusedVariables false
set_option linter.unusedSimpArgs false
set_option maxRecDepth 10000
set_option maxHeartbeats 4000000
theorem clone_call {l : List ByteArray} (hl : l.length ≤ 1000000) : CallOk Try.prog 40 [.rd 1 (strs l)] [] (.rd 1 (strs l)) [] := by
  refine .of_exec Try.func40 rfl (enters_40) rfl rfl (Nat.le_of_ble_eq_true rfl) (fun n _ => rfl) ?_
  have b1 : l.length ≤ 140737488355328 := by omega
  have b2 : l.length * 16 ≤ 140737488355328 := by omega
  by_cases h : l = []
  · subst h
    simp
    refine ⟨?_, ?_⟩
    · exact .wk _ (Wk.nilRd 1 [(2, .rd 1 [])] (by simp)) (by simp) (by simp [strs_nil])
    · exact .frz [104] [2] (by simp) (by simp) (by simp) (by simp) (by simp [strs_nil])
  · have hp : 0 < l.length := List.length_pos_iff.2 h
    simp [h, hp, b1, b2]
    exact .frz [104] [2] (by simp) (by simp) (by simp) (by simp) (by simp)
theorem own_call {d : DocW} (hl : d.ws.length ≤ 1000000) : CallOk Try.prog 23 [.agg (docR d)] [] (.agg (docR d)) [] := by
  refine .of_exec Try.func23 rfl (enters_23) rfl rfl (Nat.le_of_ble_eq_true rfl) (fun n _ => rfl) ?_
  simp
  refine .plain (clone_call hl) (by simp) (by simp) ?_
  simp
  exact .plain (by simp) (by simp)
/-- The first document of an ID. -/
def getD (l : List DocW) (id : Int) : DocW × Bool := if hasD l id = true then (l.getD (findD l id).toNat ⟨0, []⟩, true) else (⟨0, []⟩, false)
theorem find_at {l : List DocW} {id : Int} (h : hasD l id = true) : ∃ (k : Nat) (hk : k < l.length), findD l id = k ∧ l[k].id = id := by
  have h1 := h
  unfold hasD at h1
  rw [List.any_eq_true] at h1
  have hk : l.findIdx (fun d => decide (d.id = id)) < l.length := List.findIdx_lt_length.2 h1
  refine ⟨_, hk, by unfold findD; rw [if_pos h], ?_⟩
  have := List.findIdx_getElem (w := hk)
  simpa using this
theorem get_at {l : List DocW} {id : Int} (h : hasD l id = true) : ∃ (k : Nat) (hk : k < l.length), findD l id = k ∧ getD l id = (l[k], true) ∧ l[k].id = id := by
  obtain ⟨k, hk, e1, e2⟩ := find_at h
  refine ⟨k, hk, e1, ?_, e2⟩
  unfold getD
  rw [if_pos h, e1, Int.toNat_natCast, List.getD_eq_getElem?_getD, List.getElem?_eq_getElem hk]
  rfl
theorem find_call {l : List DocW} (h : DocsIn l) {id : Int} : CallOk Try.prog 16 [.rd 2 (rowsD l), .val (.int .i64 id)] [] (.tup [.agg (docR (getD l id).1), .val (.bool (getD l id).2)]) [] := by
  refine .of_exec Try.func16 rfl (enters_16) rfl rfl (Nat.le_of_ble_eq_true rfl) (fun n _ => rfl) ?_
  have hP := place_call h.len (id := id)
  simp
  refine .plain hP (by simp) (by simp) ?_
  cases c : hasD l id with
  | false =>
    have e : findD l id = -1 := by unfold findD; rw [if_neg (by rw [c]; simp)]
    have e2 : getD l id = (⟨0, []⟩, false) := by unfold getD; rw [if_neg (by rw [c]; simp)]
    simp [e]
    exact .wk _ (Wk.nilRdB 1 [64]) (by simp) (by simp [e2, strs_nil])
  | true =>
    obtain ⟨k, hk, e1, e2, e3⟩ := get_at c
    have hk' : (k : Int) < l.length := by omega
    obtain ⟨x, hx⟩ : ∃ x, l[k] = x := ⟨_, rfl⟩
    rw [hx] at e2
    have hO := own_call (d := x) (h.ws x (by rw [← hx]; exact List.getElem_mem hk)).2.1
    have hn : ¬ (k : Int) < 0 := by omega
    simp [e1, hk, hk', hx, hn]
    refine .plain hO (by simp) (by simp) ?_
    simp
    exact .plain (by simp) (by simp [e2])
def rown_inv (l : List DocW) (m : Nat) (st : St) : Prop := ∃ i : Nat, m = l.length - i ∧ i ≤ l.length ∧
  st = ⟨27, [(4, .val (.int .i64 i)), (3, .sl 64 2 0 i), (0, .rd 2 (rowsD l))], [(64, ⟨41, 2, rowsD (l.take i), .cells⟩)], 72⟩
theorem rown_any {l : List DocW} (h : DocsIn l) {r : PV} {post : List (Nat × Ob)} (hQ : retR Try.prog [ResultVar.tmp 2] r [] post .ret
    ⟨27, [(2, .sl 64 2 0 l.length), (26, .sl 64 2 0 l.length), (8, .val (.bool false)), (7, .val (.int .i64 l.length)), (6, .rd 2 (rowsD l)), (5, .val (.int .i64 l.length)), (4, .val (.int .i64 l.length)), (3, .sl 64 2 0 l.length), (0, .rd 2 (rowsD l))],
      [(64, ⟨41, 2, rowsD l, .cells⟩)], 120⟩) : CallOk Try.prog 37 [.rd 2 (rowsD l)] [] r post := by
  refine .of_exec Try.func37 rfl (enters_37) rfl rfl (Nat.le_of_ble_eq_true rfl) (fun n _ => rfl) ?_
  have hl := h.len
  simp
  refine WPg.loopW (rown_inv l) ⟨l.length, _, ?_, ⟨0, by simp, by simp, rfl⟩⟩ ?_
  · refine (Wk.nil [3] [] 41 2).trans ?_
    exact Wk.rn [(88, 64)] rfl (by simp) (by simp) (by simp [rowsN_nil])
  rintro m st ⟨i, h1, h2, rfl⟩
  by_cases hi : i < l.length
  · have hi' : (i : Int) < l.length := by omega
    have hne : l ≠ [] := by rintro rfl; simp at hi
    have hwr : IntKind.i64.wrap ((i : Int) + 1) = ((i + 1 : Nat) : Int) := by rw [w64 (by omega) (by omega)]; omega
    obtain ⟨x, hx⟩ : ∃ x, l[i] = x := ⟨_, rfl⟩
    have hxm : x ∈ l := by rw [← hx]; exact List.getElem_mem hi
    obtain ⟨x1, x2, x3⟩ := h.ws x hxm
    have htk : l.take (i + 1) = l.take i ++ [x] := by rw [wtake_one hi, hx]
    have b1 : x.ws.length ≤ 140737488355328 := by omega
    have b2 : x.ws.length * 16 ≤ 140737488355328 := by omega
    have m1 : 1 ≤ maxLen := by decide
    have m2 : i ≤ 140737488355327 := by omega
    have m3 : (i + 1) * 32 ≤ 140737488355328 := by omega
    have hmin : min i l.length = i := by omega
    have htt : List.take i (List.take i l) = List.take i l := by rw [List.take_take, Nat.min_self]
    simp [hi, hi', hx, hne, b1, b2, m1, m2, m3, hmin, htt]
    refine ⟨rfl, l.length - (i + 1), by omega, _, ?_, ⟨i + 1, rfl, by omega, rfl⟩⟩
    rw [hwr, htk]
    have hfz : Wk 64 (⟨27, [(4, .val (.int .i64 ((i + 1 : Nat) : Int))), (3, .sl 64 2 0 (i + 1)), (0, .rd 2 (rowsD l))], [(64, ⟨41, 2, rowsN docR (l.take i) ++ [[.val (.int .i64 x.id), .sl 72 1 0 x.ws.length]], .cells⟩), (72, strO x.ws)], 80⟩ : St)
        ⟨27, [(4, .val (.int .i64 ((i + 1 : Nat) : Int))), (3, .sl 64 2 0 (i + 1)), (0, .rd 2 (rowsD l))], [(64, ⟨41, 2, rowsN docR (l.take i) ++ [[.val (.int .i64 x.id), .rd 1 (strs x.ws)]], .cells⟩)], 80⟩ :=
      Wk.frzN [72] rfl rfl (by simp) (by simp) (by simp)
    refine (Wk.trans ?_ hfz).trans ?_
    · exact Wk.rn [(216, 64), (192, 72)] rfl (by simp) (by simp) (by simp)
    · exact Wk.rn [(64, 64)] rfl (by simp) (by simp) (by simp)
  · obtain rfl : i = l.length := by omega
    simp
    exact hQ
theorem rOwn_call {l : List DocW} (h : DocsIn l) : CallOk Try.prog 37 [.rd 2 (rowsD l)] [] (.rd 2 (rowsD l)) [] :=
  rown_any h (.frz [64] [2] (by simp) (by simp) (by simp) (by simp) (by simp))
abbrev docsO (l : List DocW) : Ob := ⟨41, 2, rowsD l, .cells⟩
theorem rOwnO_call {l : List DocW} (h : DocsIn l) : CallOk Try.prog 37 [.rd 2 (rowsD l)] [] (.sl 0 2 0 l.length) [(0, docsO l)] :=
  rown_any h (.own [(64, 0)] (by simp) (by simp) (by simp) (by simp) (by simp))
end Go.Proofs.Ytipolblhiljoiaa.Sy
