/- Layer 17: the laws' documents. -/
import Derived.Test.YtipolblhiljoiaaC17x
namespace Go.Proofs.Ytipolblhiljoiaa.Sy
open Go Go.RowKit
set_option linter.unusedVariables false
set_option linter.unusedSimpArgs false
set_option maxRecDepth 10000
set_option maxHeartbeats 4000000
abbrev rawR (r : RawW) : List PV := [.val (.int .i64 r.a), .val (.int .i64 r.b), .rd 1 (intsR r.t)]
instance rawR_nice : NiceRow rawR 3 where
  len := fun _ => rfl
  one := fun x c hc => by simp only [rawR, List.mem_cons, List.not_mem_nil, or_false] at hc; rcases hc with rfl | rfl | rfl <;> trivial
  nf := fun x c hc => by simp only [rawR, List.mem_cons, List.not_mem_nil, or_false] at hc; rcases hc with rfl | rfl | rfl <;> trivial
  rn := fun π x => rfl
  low := fun obs B x => rfl
structure RawIn (r : RawW) : Prop where
  a : isI64 r.a
  b : isI64 r.b
  len : r.t.length ≤ maxLen
  t : ∀ x ∈ r.t, isI64 x
def docsV (rs : List RawW) : List DocW := (rs.take 20).foldl (fun l r => (doM l (opW r).k (opW r).id (opW r).s).1) []
theorem docs_right (rs : List RawW) : rightD (docsV rs) = true := by
  unfold docsV
  have key : ∀ (xs : List RawW) (l : List DocW), rightD l = true → rightD (xs.foldl (fun l r => (doM l (opW r).k (opW r).id (opW r).s).1) l) = true := by
    intro xs
    induction xs with
    | nil => exact fun l h => h
    | cons x xs ih => exact fun l h => ih _ (do_right h _ _ _)
  exact key _ _ (by decide)
theorem docsV_succ {rs : List RawW} {i : Nat} (hi : i < rs.length) (h20 : i < 20) : docsV (rs.take (i + 1)) = (doM (docsV (rs.take i)) (opW rs[i]).k (opW rs[i]).id (opW rs[i]).s).1 := by
  unfold docsV
  rw [List.take_take, List.take_take, Nat.min_eq_right (by omega), Nat.min_eq_right (by omega), wtake_one hi, List.foldl_append]
  rfl
def docs_inv (rs : List RawW) (m : Nat) (st : St) : Prop := ∃ i : Nat, m = rs.length - i ∧ i ≤ rs.length ∧ i ≤ 20 ∧
  st = ⟨33, [(4, .val (.int .i64 i)), (3, .rd 2 (rowsD (docsV (rs.take i)))), (0, .rd 3 (rowsN rawR rs))], [], 64⟩
theorem Docs_call {rs : List RawW} (hl : rs.length ≤ maxLen) (h : ∀ r ∈ rs, RawIn r) : CallOk Try.prog 9 [.rd 3 (rowsN rawR rs)] [] (.rd 2 (rowsD (docsV rs))) [] := by
  refine .of_exec Try.func9 rfl (enters_9) rfl rfl (Nat.le_of_ble_eq_true rfl) (fun n _ => rfl) ?_
  unfold maxLen at hl
  simp
  refine WPg.loopW (docs_inv rs) ⟨rs.length, _, ?_, ⟨0, by simp, by simp, by simp, rfl⟩⟩ ?_
  · refine (Wk.nilRd 2 [(4, .val (.int .i64 0)), (3, .rd 2 []), (0, .rd 3 (rowsN rawR rs))] (by simp)).trans ?_
    exact Wk.rn [] rfl (by simp) (by simp [docsV, rowsN_nil]) (by simp)
  rintro m st ⟨i, h1, h2, h3, rfl⟩
  by_cases hi : i < rs.length
  · have hi' : (i : Int) < rs.length := by omega
    have hne : rs ≠ [] := by rintro rfl; simp at hi
    by_cases h20 : i < 20
    · have h20' : (i : Int) < 20 := by omega
      have hwr : IntKind.i64.wrap ((i : Int) + 1) = ((i + 1 : Nat) : Int) := by rw [w64 (by omega) (by omega)]; omega
      obtain ⟨x, hx⟩ : ∃ x, rs[i] = x := ⟨_, rfl⟩
      have hxm : x ∈ rs := by rw [← hx]; exact List.getElem_mem hi
      have hr := h x hxm
      have hO := Op_call hr.a hr.b hr.len hr.t
      have hD := rDo_call (right_in (docs_right (rs.take i))) (k := (opW x).k) (id := (opW x).id) (s := (opW x).s)
      have hs := docsV_succ hi h20
      rw [hx] at hs
      simp [hi, hi', h20', hx, hne]
      refine callT.plain hO (by simp) (by simp) ?_
      simp [hi, hi', h20', hx, hne]
      refine callT.plain hD (by simp) (by simp) ?_
      simp [hi, hi', h20', hx, hne]
      refine ⟨rfl, rs.length - (i + 1), by omega, _, ?_, ⟨i + 1, rfl, by omega, by omega, rfl⟩⟩
      rw [hwr, ← hs]
      exact Wk.rn [] rfl (by simp) (by simp) (by simp)
    · have h20' : ¬ (i : Int) < 20 := by omega
      have e : docsV (rs.take i) = docsV rs := by
        unfold docsV
        rw [List.take_take, Nat.min_eq_left (by omega)]
      simp [hi, hi', h20', hne]
      exact .plain (by simp) (by simp [e])
  · obtain rfl : i = rs.length := by omega
    simp
    exact .plain (by simp) (by simp)
end Go.Proofs.Ytipolblhiljoiaa.Sy
