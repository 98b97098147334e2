/- Layer 17: the law ModelAgain. -/
import Derived.Test.YtipolblhiljoiaaC17B
namespace Go.Proofs.Ytipolblhiljoiaa.Sy
open Go Go.RowKit
set_option linter.unusedVariables false
set_option linter.unusedSimpArgs false
set_option maxRecDepth 10000
set_option maxHeartbeats 4000000
theorem do_found {l : List DocW} {k id : Int} {s : ByteArray} : (doM l k id s).2.1.length ≤ l.length := by
  unfold doM
  split
  · split
    · simp
    · split
      · split <;> simp
      · split
        · simp
        · split
          · split
            · simp
            · split <;> simp
          · split
            · split <;> simp
            · split
              · split
                · simp
                · simp only [allM, List.length_map]; exact List.length_filter_le _ _
              · split <;> simp
  · simp
theorem again_call {rs : List RawW} {r : RawW} (hl : rs.length ≤ maxLen) (h : ∀ r ∈ rs, RawIn r) (hr : RawIn r) : CallOk Try.prog 7 [.rd 3 (rowsN rawR rs), .agg (rawR r)] [] (.val (.bool true)) [] := by
  refine .of_exec Try.func7 rfl (enters_7) rfl rfl (Nat.le_of_ble_eq_true rfl) (fun n _ => rfl) ?_
  have hD := Docs_call hl h
  have hO := Op_call hr.a hr.b hr.len hr.t
  have hR := docs_right rs
  obtain ⟨a1, a2, a3⟩ := do_again hR (k := (opW r).k) (id := (opW r).id) (s := (opW r).s)
  have hR1 := do_right hR (opW r).k (opW r).id (opW r).s
  have d1 := mDo_call (right_in hR) (k := (opW r).k) (id := (opW r).id) (s := (opW r).s)
  have d2 := mDo_call (right_in hR1) (k := (opW r).k) (id := (opW r).id) (s := (opW r).s)
  have hf := do_found (l := docsV rs) (k := (opW r).k) (id := (opW r).id) (s := (opW r).s)
  have hl40 := (right_facts17 hR).1
  rw [a1] at d2
  rw [show opW ⟨r.a, r.b, r.t⟩ = opW r from rfl] at hO
  generalize docsV rs = L at *
  generalize opW r = o at *
  obtain ⟨k, id, s⟩ := o
  simp only at *
  generalize (doM (doM L k id s).1 k id s).2 = F2 at *
  generalize doM L k id s = F1 at *
  obtain ⟨L1, f1, e1⟩ := F1
  obtain ⟨f2, e2⟩ := F2
  simp only at *
  have hS := rSame_call (right_in hR1) (right_in hR1)
  have m1 : f1.length ≤ maxLen := by unfold maxLen; omega
  have hI := rInts_call (l := f1) (r := f1) m1 m1
  simp
  refine .plain awake17_call (by simp) (by simp) ?_
  simp
  refine .plain hD (by simp) (by simp) ?_
  simp
  refine callK.plain hO (by simp) (by simp) ?_
  simp
  refine .plain d1 (by simp) (by simp) ?_
  simp
  refine .plain d2 (by simp) (by simp) ?_
  have eS : eqD L1 L1 = true := by simp [eqD]
  have eI : eqI f1 f1 = true := by simp [eqI]
  rw [eS] at hS
  rw [eI] at hI
  by_cases he : e1 = 0
  · have b := a3 he
    subst he
    by_cases k1 : k = 1
    · subst k1
      rw [if_pos rfl] at b
      cases b
      simp
      refine .plain hS (by simp) (by simp) ?_
      simp
      exact .plain (by simp) (by simp)
    · rw [if_neg k1] at b
      by_cases k2 : k = 2
      · subst k2
        rw [if_pos rfl] at b
        cases b
        simp
        refine .plain hS (by simp) (by simp) ?_
        simp
        exact .plain (by simp) (by simp)
      · rw [if_neg k2] at b
        cases b
        simp [k1, k2]
        refine .plain hS (by simp) (by simp) ?_
        simp
        refine .plain hI (by simp) (by simp) ?_
        simp
        exact .plain (by simp) (by simp)
  · have b := a2 he
    subst b
    simp [he]
    refine .plain hS (by simp) (by simp) ?_
    simp
    exact .plain (by simp) (by simp)
end Go.Proofs.Ytipolblhiljoiaa.Sy
