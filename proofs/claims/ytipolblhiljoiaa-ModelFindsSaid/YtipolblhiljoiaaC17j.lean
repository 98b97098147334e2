/- Layer 17: where a document belongs: the binary search. -/
import Derived.Test.YtipolblhiljoiaaC17q
namespace Go.Proofs.Ytipolblhiljoiaa.Sy
open Go Go.RowKit
set_option linter.unusedVariables false
set_option linter.unusedSimpArgs false
set_option maxRecDepth 10000
set_option maxHeartbeats 8000000
def cmpI (a b : Int) : Int := if a < b then -1 else if b < a then 1 else 0
theorem isNaN_call {n : Int} : CallOk Try.prog 69 [.val (.int .i64 n)] [] (.val (.bool false)) [] := by
  refine .of_exec Try.func69 rfl (enters_69) rfl rfl (Nat.le_of_ble_eq_true rfl) (fun n _ => rfl) ?_
  simp
  exact .plain (by simp) (by simp)
theorem compare_call {a b : Int} : CallOk Try.prog 62 [.val (.int .i64 a), .val (.int .i64 b)] [] (.val (.int .i64 (cmpI a b))) [] := by
  refine .of_exec Try.func62 rfl (enters_62) rfl rfl (Nat.le_of_ble_eq_true rfl) (fun n _ => rfl) ?_
  simp
  refine .plain isNaN_call (by simp) (by simp) ?_
  simp
  refine .plain isNaN_call (by simp) (by simp) ?_
  by_cases h1 : a < b
  · simp [h1]
    exact .plain (by simp) (by simp [cmpI, h1])
  · by_cases h2 : b < a
    · simp [h1, h2]
      exact .plain (by simp) (by simp [cmpI, h1, h2])
    · simp [h1, h2]
      exact .plain (by simp) (by simp [cmpI, h1, h2])
theorem cmpD_call {d : DocW} {id : Int} : CallOk Try.prog 61 [.agg (docR d), .val (.int .i64 id)] [] (.val (.int .i64 (cmpI d.id id))) [] := by
  refine .of_exec Try.func61 rfl (enters_61) rfl rfl (Nat.le_of_ble_eq_true rfl) (fun n _ => rfl) ?_
  simp
  refine .plain compare_call (by simp) (by simp) ?_
  simp
  exact .plain (by simp) (by simp)
theorem pos_at {l : List DocW} {id : Int} (hs : sortD l) {k : Nat} (hk : k < l.length) : l[k].id < id ↔ k < posD l id := by
  obtain ⟨p1, p2⟩ := pos_facts (id := id) hs
  constructor
  · intro h
    refine Classical.byContradiction fun hn => ?_
    have := p2 l[k] (by
      have : k = posD l id + (k - posD l id) := by omega
      rw [List.mem_iff_getElem]
      exact ⟨k - posD l id, by rw [List.length_drop]; omega, by rw [List.getElem_drop]; congr 1; omega⟩)
    omega
  · intro h
    exact p1 l[k] (by rw [← List.getElem_take (h := by simp; omega) (i := k) (j := posD l id)]; exact List.getElem_mem _)
def bin_inv (l : List DocW) (id : Int) (m : Nat) (st : St) : Prop := ∃ i j : Nat, m = j - i ∧ i ≤ posD l id ∧ posD l id ≤ j ∧ j ≤ l.length ∧
  st = ⟨49, [(10, .val (.int .i64 j)), (9, .val (.int .i64 i)), (8, .val (.int .i64 l.length)), (2, .clo 61 []), (1, .val (.int .i64 id)), (0, .rd 2 (rowsD l))], [], 64⟩
theorem bin_call {l : List DocW} {id : Int} (hl : l.length ≤ 1000000) (hs : sortD l) : ∃ b : Bool, CallOk Try.prog 60 [.rd 2 (rowsD l), .val (.int .i64 id), .clo 61 []] [] (.tup [.val (.int .i64 (posD l id)), .val (.bool b)]) [] := by
  have hple := posD_le l id
  refine ⟨decide (posD l id < l.length) && decide (cmpI (l.getD (posD l id) ⟨0, []⟩).id id = 0), ?_⟩
  refine .of_exec Try.func60 rfl (enters_60) rfl rfl (Nat.le_of_ble_eq_true rfl) (fun n _ => rfl) ?_
  simp
  refine WPg.loopW (bin_inv l id) ⟨l.length, _, ?_, ⟨0, l.length, by simp, by simp, hple, Nat.le_refl _, rfl⟩⟩ ?_
  · exact Wk.rn [] rfl (by simp) (by simp) (by simp)
  rintro m st ⟨i, j, h1, h2, h3, h4, rfl⟩
  by_cases hij : i < j
  · have hij' : (i : Int) < j := by omega
    have hk : (i + j) / 2 < l.length := by omega
    have hk' : (((i + j) / 2 : Nat) : Int) < l.length := by omega
    obtain ⟨k, hkk⟩ : ∃ k, (i + j) / 2 = k := ⟨_, rfl⟩
    rw [hkk] at hk hk'
    obtain ⟨x, hx⟩ : ∃ x, l[k] = x := ⟨_, rfl⟩
    have hC := cmpD_call (d := x) (id := id)
    have hp := pos_at (id := id) hs hk
    rw [hx] at hp
    have w1 : IntKind.i64.wrap ((i : Int) + j) = (i : Int) + j := w64 (by omega) (by omega)
    have w2 : IntKind.i64.wrap ((IntKind.u64.wrap ((i : Int) + j)).fdiv (2 ^ min 1 IntKind.u64.bits)) = (k : Int) := by
      have e1 : IntKind.u64.wrap ((i : Int) + j) = (i : Int) + j := by rw [IntKind.wrap_u64]; omega
      have e2 : (2 : Int) ^ min 1 IntKind.u64.bits = 2 := rfl
      rw [e1, e2, Int.fdiv_eq_ediv_of_nonneg _ (by omega), w64 (by omega) (by omega)]
      omega
    simp [hij', w1, w2, hk, hk', hx]
    refine .plain hC (by simp) (by simp) ?_
    by_cases c : x.id < id
    · have e : cmpI x.id id = -1 := by unfold cmpI; rw [if_pos c]
      have hwk : IntKind.i64.wrap ((k : Int) + 1) = ((k + 1 : Nat) : Int) := by rw [w64 (by omega) (by omega)]; omega
      have := hp.1 c
      simp [e]
      refine ⟨j - (k + 1), by omega, _, ?_, ⟨k + 1, j, rfl, by omega, h3, h4, rfl⟩⟩
      rw [hwk]
      exact Wk.rn [] rfl (by simp) (by simp) (by simp)
    · have e : ¬ cmpI x.id id < 0 := by unfold cmpI; rw [if_neg c]; split <;> omega
      have hn : ¬ k < posD l id := fun h => c (hp.2 h)
      simp [e]
      refine ⟨k - i, by omega, _, ?_, ⟨i, k, rfl, h2, by omega, by omega, rfl⟩⟩
      exact Wk.rn [] rfl (by simp) (by simp) (by simp)
  · obtain rfl : i = j := by omega
    obtain rfl : i = posD l id := by omega
    by_cases hk : posD l id < l.length
    · obtain ⟨x, hx⟩ : ∃ x, l[posD l id] = x := ⟨_, rfl⟩
      have hC := cmpD_call (d := x) (id := id)
      have hk' : ((posD l id : Nat) : Int) < l.length := by omega
      simp [hk, hk', hx]
      refine .plain hC (by simp) (by simp) ?_
      simp
      exact .plain (by simp) (by simp)
    · simp [hk]
      exact .plain (by simp) (by simp)
end Go.Proofs.Ytipolblhiljoiaa.Sy
