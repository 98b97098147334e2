/- Layer 17: the law ModelOrders. -/
import Derived.Test.YtipolblhiljoiaaC17F
import Derived.Test.YtipolblhiljoiaaC17D
namespace Go.Proofs.Ytipolblhiljoiaa.Sy
open Go Go.RowKit
set_option linter.unusedVariables false
set_option linter.unusedSimpArgs false
set_option maxRecDepth 10000
set_option maxHeartbeats 4000000
theorem pick_five {a b : Int} {t : List Int} : ((opW ⟨pickI a 5, b, t⟩).k = 1 ∨ (opW ⟨pickI a 5, b, t⟩).k = 2 ∨ (opW ⟨pickI a 5, b, t⟩).k = 3) ∧ 0 ≤ (opW ⟨pickI a 5, b, t⟩).id ∧ (opW ⟨pickI a 5, b, t⟩).id ≤ 8 := by
  obtain ⟨n, hn, hlt⟩ := pickN (c := a) (n := 5) (by omega)
  have hn' : pickI a 5 = n := hn
  have hb := pickI_range (c := b) (n := 9) (by omega)
  rw [hn']
  refine ⟨?_, by show 0 ≤ pickI b 9; omega, by show pickI b 9 ≤ 8; omega⟩
  have hc : n = 0 ∨ n = 1 ∨ n = 2 ∨ n = 3 ∨ n = 4 := by omega
  have e : ∀ x : Int, (opW ⟨x, b, t⟩).k = kindW x := fun _ => rfl
  rw [e]
  rcases hc with rfl | rfl | rfl | rfl | rfl <;> decide
theorem orders_call {rs : List RawW} {one two : RawW} (hl : rs.length ≤ maxLen) (h : ∀ r ∈ rs, RawIn r) (h1 : RawIn one) (h2 : RawIn two) : CallOk Try.prog 4 [.rd 3 (rowsN rawR rs), .agg (rawR one), .agg (rawR two)] [] (.val (.bool true)) [] := by
  refine .of_exec Try.func4 rfl (enters_4) rfl rfl (Nat.le_of_ble_eq_true rfl) (fun n _ => rfl) ?_
  have hD := Docs_call hl h
  have p1 := pick17_call (c := one.a) (n := 5) h1.a (by omega)
  have p2 := pick17_call (c := two.a) (n := 5) h2.a (by omega)
  have r1 := pickI_range (c := one.a) (n := 5) (by omega)
  have r2 := pickI_range (c := two.a) (n := 5) (by omega)
  have hA := Op_call (a := pickI one.a 5) (b := one.b) (t := one.t) (by unfold isI64; omega) h1.b h1.len h1.t
  have hB := Op_call (a := pickI two.a 5) (b := two.b) (t := two.t) (by unfold isI64; omega) h2.b h2.len h2.t
  obtain ⟨ka, ia, ja⟩ := pick_five (a := one.a) (b := one.b) (t := one.t)
  obtain ⟨kb, ib, jb⟩ := pick_five (a := two.a) (b := two.b) (t := two.t)
  have hR := docs_right rs
  have hlen := docs_len rs
  generalize docsV rs = L at *
  generalize opW ⟨pickI one.a 5, one.b, one.t⟩ = A at *
  generalize opW ⟨pickI two.a 5, two.b, two.t⟩ = B at *
  obtain ⟨k, id, s⟩ := A
  obtain ⟨k', id0, s'⟩ := B
  simp only at *
  obtain ⟨id', hid'⟩ : ∃ id', id' = if id = id0 then (id + 1).tmod 9 else id0 := ⟨_, rfl⟩
  have hm : 0 ≤ (id + 1).tmod 9 ∧ (id + 1).tmod 9 ≤ 8 ∧ (id + 1).tmod 9 ≠ id := by
    rw [Int.tmod_eq_emod_of_nonneg (by omega)]; omega
  have hw1 : IntKind.i64.wrap (id + 1) = id + 1 := w64 (by omega) (by omega)
  have hb' : 0 ≤ id' ∧ id' ≤ 8 ∧ id ≠ id' := by
    rw [hid']; split <;> omega
  obtain ⟨o1, o2, o3⟩ := do_orders hR hlen (s := s) (s' := s') ka kb (by omega) (by omega) hb'.2.2
  have d1 := mDo_call (right_in hR) (k := k) (id := id) (s := s)
  have d2 := mDo_call (right_in (do_right hR k id s)) (k := k') (id := id') (s := s')
  have d3 := mDo_call (right_in hR) (k := k') (id := id') (s := s')
  have d4 := mDo_call (right_in (do_right hR k' id' s')) (k := k) (id := id) (s := s)
  have hq := do_right (do_right hR k id s) k' id' s'
  rw [← o1, ← o2] at d4
  rw [o3] at d2
  have hS := rSame_call (right_in hq) (right_in hq)
  have hRt := mright_call (right_in hq)
  rw [hq] at hRt
  have eS : eqD (doM (doM L k id s).1 k' id' s').1 (doM (doM L k id s).1 k' id' s').1 = true := by simp [eqD]
  rw [eS] at hS
  generalize (doM (doM L k' id' s').1 k id s).2.1 = fd at *
  generalize (doM (doM L k id s).1 k' id' s').2.1 = fc at *
  generalize (doM (doM L k id s).1 k' id' s').1 = Q at *
  generalize doM L k id s = F1 at *
  generalize doM L k' id' s' = F2 at *
  obtain ⟨L1, f1, e1⟩ := F1
  obtain ⟨L2, f2, e2⟩ := F2
  simp only at *
  simp
  refine .plain awake17_call (by simp) (by simp) ?_
  simp
  refine .plain hD (by simp) (by simp) ?_
  simp
  refine callT.plain p1 (by simp) (by simp) ?_
  simp
  refine callT.plain hA (by simp) (by simp) ?_
  simp
  refine ⟨rfl, ?_⟩
  refine callT.plain p2 (by simp) (by simp) ?_
  simp
  refine callT.plain hB (by simp) (by simp) ?_
  simp
  refine ⟨rfl, ?_⟩
  by_cases he : id = id0
  · rw [if_pos he] at hid'
    subst he
    simp [hw1]
    rw [← hid']
    refine .plain d1 (by simp) (by simp) ?_
    simp
    refine .plain d2 (by simp) (by simp) ?_
    simp
    refine .plain d3 (by simp) (by simp) ?_
    simp
    refine .plain d4 (by simp) (by simp) ?_
    simp
    refine .plain hS (by simp) (by simp) ?_
    simp
    refine .plain hRt (by simp) (by simp) ?_
    simp
    exact .plain (by simp) (by simp)
  · rw [if_neg he] at hid'
    subst hid'
    simp [he]
    refine .plain d1 (by simp) (by simp) ?_
    simp
    refine .plain d2 (by simp) (by simp) ?_
    simp
    refine .plain d3 (by simp) (by simp) ?_
    simp
    refine .plain d4 (by simp) (by simp) ?_
    simp
    refine .plain hS (by simp) (by simp) ?_
    simp
    refine .plain hRt (by simp) (by simp) ?_
    simp
    exact .plain (by simp) (by simp)
end Go.Proofs.Ytipolblhiljoiaa.Sy
