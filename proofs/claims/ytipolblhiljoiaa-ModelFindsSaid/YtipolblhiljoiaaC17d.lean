/- Layer 17: are lists the same; where a document is; documents in memory of their own. -/
import Derived.Test.YtipolblhiljoiaaC17c
namespace Go.Proofs.Ytipolblhiljoiaa.Sy
open Go Go.RowKit
set_option linter.unusedVariables false
set_option linter.unusedSimpArgs false
set_option maxRecDepth 10000
set_option maxHeartbeats 4000000
def rints_inv (l r : List Int) (m : Nat) (st : St) : Prop := ∃ i : Nat, m = l.length - i ∧ i ≤ l.length ∧ l.take i = r.take i ∧
  st = ⟨26, [(5, .val (.int .i64 i)), (1, .rd 1 (intsR r)), (0, .rd 1 (intsR l))], [], 64⟩
def eqI (l r : List Int) : Bool := decide (l = r)
theorem rInts_call {l r : List Int} (hl : l.length ≤ maxLen) (hr : r.length ≤ maxLen) : CallOk Try.prog 20 [.rd 1 (intsR l), .rd 1 (intsR r)] [] (.val (.bool (eqI l r))) [] := by
  refine .of_exec Try.func20 rfl (enters_20) rfl rfl (Nat.le_of_ble_eq_true rfl) (fun n _ => rfl) ?_
  unfold maxLen at hl hr
  by_cases hlen : l.length = r.length
  · have hlen' : (l.length : Int) = r.length := by omega
    simp [hlen']
    refine WPg.loopW (rints_inv l r) ⟨l.length, _, ?_, ⟨0, by simp, by simp, by simp, rfl⟩⟩ ?_
    · exact Wk.rn [] rfl (by simp) (by simp) (by simp)
    rintro m st ⟨i, h1, h2, h3, rfl⟩
    by_cases hi : i < l.length
    · have hi' : (i : Int) < l.length := by omega
      have hir : i < r.length := by omega
      have hir' : (i : Int) < r.length := by omega
      have hwr : IntKind.i64.wrap ((i : Int) + 1) = ((i + 1 : Nat) : Int) := by rw [w64 (by omega) (by omega)]; omega
      obtain ⟨x, hx⟩ : ∃ x, l[i] = x := ⟨_, rfl⟩
      obtain ⟨y, hy⟩ : ∃ y, r[i] = y := ⟨_, rfl⟩
      by_cases c : x = y
      · simp [hi, hi', hx, hir, hir', hy, c]
        refine ⟨rfl, l.length - (i + 1), by omega, _, ?_, ⟨i + 1, rfl, by omega, ?_, rfl⟩⟩
        · rw [hwr]
          exact Wk.rn [] rfl (by simp) (by simp) (by simp)
        · rw [wtake_one hi, wtake_one hir, h3, hx, hy, c]
      · have : eqI l r = false := by
          unfold eqI
          rw [decide_eq_false]
          rintro rfl
          exact c (by rw [← hx, ← hy])
        simp [hi, hi', hx, hir, hir', hy, c]
        exact ⟨rfl, .plain (by simp) (by simp [this])⟩
    · obtain rfl : i = l.length := by omega
      rw [List.take_length, hlen, List.take_length] at h3
      simp
      exact .plain (by simp) (by simp [eqI, h3])
  · have hlen' : ¬ (l.length : Int) = r.length := by omega
    have : eqI l r = false := by
      unfold eqI
      rw [decide_eq_false]
      rintro rfl
      exact hlen rfl
    simp [hlen']
    exact .plain (by simp) (by simp [this])

def rsame_inv (l r : List DocW) (m : Nat) (st : St) : Prop := ∃ i : Nat, m = l.length - i ∧ i ≤ l.length ∧ l.take i = r.take i ∧
  st = ⟨42, [(5, .val (.int .i64 i)), (1, .rd 2 (rowsD r)), (0, .rd 2 (rowsD l))], [], 64⟩
def eqD (l r : List DocW) : Bool := decide (l = r)
theorem rSame_call {l r : List DocW} (hl : DocsIn l) (hr : DocsIn r) : CallOk Try.prog 13 [.rd 2 (rowsD l), .rd 2 (rowsD r)] [] (.val (.bool (eqD l r))) [] := by
  refine .of_exec Try.func13 rfl (enters_13) rfl rfl (Nat.le_of_ble_eq_true rfl) (fun n _ => rfl) ?_
  have hl1 := hl.len
  have hr1 := hr.len
  have hm : (1000000 : Nat) ≤ maxLen := by decide
  by_cases hlen : l.length = r.length
  · have hlen' : (l.length : Int) = r.length := by omega
    simp [hlen']
    refine WPg.loopW (rsame_inv l r) ⟨l.length, _, ?_, ⟨0, by simp, by simp, by simp, rfl⟩⟩ ?_
    · exact Wk.rn [] rfl (by simp) (by simp) (by simp)
    rintro m st ⟨i, h1, h2, h3, rfl⟩
    by_cases hi : i < l.length
    · have hi' : (i : Int) < l.length := by omega
      have hir : i < r.length := by omega
      have hir' : (i : Int) < r.length := by omega
      have hne : l ≠ [] := by rintro rfl; simp at hi
      have hne2 : r ≠ [] := by rintro rfl; simp at hir
      have hwr : IntKind.i64.wrap ((i : Int) + 1) = ((i + 1 : Nat) : Int) := by rw [w64 (by omega) (by omega)]; omega
      obtain ⟨x, hx⟩ : ∃ x, l[i] = x := ⟨_, rfl⟩
      obtain ⟨y, hy⟩ : ∃ y, r[i] = y := ⟨_, rfl⟩
      have hT := rTexts_call (l := x.ws) (r := y.ws) (Nat.le_trans (hl.ws x (by rw [← hx]; exact List.getElem_mem hi)).2.1 hm) (Nat.le_trans (hr.ws y (by rw [← hy]; exact List.getElem_mem hir)).2.1 hm)
      have bad : x ≠ y → eqD l r = false := fun c => by
        unfold eqD
        rw [decide_eq_false]
        rintro rfl
        exact c (by rw [← hx, ← hy])
      by_cases c : x.id = y.id
      · simp [hi, hi', hx, hir, hir', hy, c, hne, hne2]
        refine callT.plain hT (by simp) (by simp) ?_
        by_cases c2 : x.ws = y.ws
        · have e : eqW x.ws y.ws = true := decide_eq_true c2
          have hxy : x = y := by cases x; cases y; simp at c c2; simp [c, c2]
          simp [e]
          refine ⟨rfl, l.length - (i + 1), by omega, _, ?_, ⟨i + 1, rfl, by omega, ?_, rfl⟩⟩
          · rw [hwr]
            exact Wk.rn [] rfl (by simp) (by simp) (by simp)
          · rw [wtake_one hi, wtake_one hir, h3, hx, hy, hxy]
        · have e : eqW x.ws y.ws = false := decide_eq_false c2
          have := bad (fun e => c2 (by rw [e]))
          simp [e]
          exact ⟨rfl, .plain (by simp) (by simp [this])⟩
      · have := bad (fun e => c (by rw [e]))
        simp [hi, hi', hx, hir, hir', hy, c, hne, hne2]
        exact ⟨rfl, .plain (by simp) (by simp [this])⟩
    · obtain rfl : i = l.length := by omega
      rw [List.take_length, hlen, List.take_length] at h3
      simp
      exact .plain (by simp) (by simp [eqD, h3])
  · have hlen' : ¬ (l.length : Int) = r.length := by omega
    have : eqD l r = false := by
      unfold eqD
      rw [decide_eq_false]
      rintro rfl
      exact hlen rfl
    simp [hlen']
    exact .plain (by simp) (by simp [this])
/-- Where the first document of an ID is; -1: nowhere. -/
def findD (l : List DocW) (id : Int) : Int := if hasD l id = true then ((l.findIdx fun d => decide (d.id = id) : Nat) : Int) else -1
theorem at_call {d : DocW} {id : Int} : CallOk Try.prog 49 [.agg [.val (.int .i64 d.id), .rd 1 (strs d.ws)], .rp 1 [[.val (.int .i64 id)]] 0 0] [] (.val (.bool (decide (d.id = id)))) [] := by
  refine .of_exec Try.func49 rfl (enters_49) rfl rfl (Nat.le_of_ble_eq_true rfl) (fun n _ => rfl) ?_
  simp
  exact .plain (by simp) (by simp)
def idxD_inv (l : List DocW) (p : DocW → Bool) (q : PV) (m : Nat) (st : St) : Prop := ∃ i : Nat, m = l.length - i ∧ i ≤ l.length ∧ (l.take i).any p = false ∧
  st = ⟨19, [(8, .val (.int .i64 i)), (7, .val (.int .i64 l.length)), (1, q), (0, .rd 2 (rowsD l))], [], 64⟩
theorem find_first {l : List DocW} {p : DocW → Bool} {i : Nat} (hi : i < l.length) (h3 : (l.take i).any p = false) (hp : p l[i] = true) : l.findIdx p = i := by
  rw [List.findIdx_eq hi]
  refine ⟨hp, fun j hj => ?_⟩
  have := List.any_eq_false.1 h3 l[j] (by rw [← List.getElem_take (h := by simp; omega) (i := j) (j := i)]; exact List.getElem_mem _)
  simpa using this
theorem idxD_call {l : List DocW} (hl : l.length ≤ 1000000) {id : Int} : CallOk Try.prog 48 [.rd 2 (rowsD l), .clo 49 [.rp 1 [[.val (.int .i64 id)]] 0 0]] [] (.val (.int .i64 (findD l id))) [] := by
  refine .of_exec Try.func48 rfl (enters_48) rfl rfl (Nat.le_of_ble_eq_true rfl) (fun n _ => rfl) ?_
  simp
  refine WPg.loopW (idxD_inv l (fun d => decide (d.id = id)) (.clo 49 [.rp 1 [[.val (.int .i64 id)]] 0 0])) ⟨l.length, _, ?_, ⟨0, by simp, by simp, by simp, rfl⟩⟩ ?_
  · exact Wk.rn [] rfl (by simp) (by simp) (by simp)
  rintro m st ⟨i, h1, h2, h3, rfl⟩
  by_cases hi : i < l.length
  · have hi' : (i : Int) < l.length := by omega
    have hw : IntKind.i64.wrap ((i : Int) + 1) = ((i + 1 : Nat) : Int) := by rw [w64 (by omega) (by omega)]; omega
    obtain ⟨x, hx⟩ : ∃ x, l[i] = x := ⟨_, rfl⟩
    have hA := at_call (d := x) (id := id)
    simp [hi, hi', hx]
    refine .plain hA (by simp) (by simp) ?_
    by_cases c : x.id = id
    · have e1 : hasD l id = true := List.any_eq_true.2 ⟨x, by rw [← hx]; exact List.getElem_mem hi, by simp [c]⟩
      have e2 : l.findIdx (fun d => decide (d.id = id)) = i := find_first hi h3 (by rw [hx]; simp [c])
      simp [c]
      exact .plain (by simp) (by simp [findD, e1, e2])
    · simp [c]
      refine ⟨l.length - (i + 1), by omega, _, ?_, ⟨i + 1, rfl, by omega, ?_, rfl⟩⟩
      · rw [hw]
        exact Wk.rn [] rfl (by simp) (by simp) (by simp)
      · rw [wtake_one hi, List.any_append, h3, hx]; simp [c]
  · obtain rfl : i = l.length := by omega
    rw [List.take_length] at h3
    have e1 : hasD l id = false := h3
    simp
    exact .plain (by simp) (by simp [findD, e1])
theorem place_call {l : List DocW} (hl : l.length ≤ 1000000) {id : Int} : CallOk Try.prog 29 [.rd 2 (rowsD l), .val (.int .i64 id)] [] (.val (.int .i64 (findD l id))) [] := by
  refine .of_exec Try.func29 rfl (enters_29) rfl rfl (Nat.le_of_ble_eq_true rfl) (fun n _ => rfl) ?_
  simp
  refine .lent [64] (idxD_call hl (id := id)) (by simp) (by simp) (by simp) (by simp) (by simp) (by simp) ?_
  simp
  exact .plain (by simp) (by simp)
end Go.Proofs.Ytipolblhiljoiaa.Sy
