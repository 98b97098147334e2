/- Layer 13: servers as plain data; New, Right, own. -/
import Derived.Test.YtbigcojlpcchiaaGreatM12
import Derived.Test.YtbigcojlpcchiaaGreatC11g
namespace Go.Proofs.YtbigcojlpcchiaaGreat.Sy
open Go Go.RowKit
set_option linter.unusedVariables false
set_option linter.unusedSimpArgs false
set_option maxRecDepth 10000
set_option maxHeartbeats 4000000
open Bk (Sto rowsB stoP)
abbrev rowS (s : Sto) (lim : Int) : List PV := [.rd 3 (rowsB s.bs), .val (.int .i64 s.many), .val (.int .i64 s.gone), .val (.int .i64 lim)]
abbrev srvP (s : Sto) (lim : Int) : PV := .agg (rowS s lim)
def rightV (s : Sto) (lim : Int) : Bool := Bk.rightB s && (decide (0 ≤ lim) && (decide (lim ≤ 2000) && decide (s.many ≤ lim)))
def newV (lim : Int) : Sto × Int × Int := if lim < 0 ∨ 2000 < lim then (⟨[], 0, 0⟩, 0, 1) else (Bk.freshS 8, lim, 0)
theorem snew_call (lim : Int) : CallOk Tryz.prog 10 [.val (.int .i64 lim)] [] (.tup [srvP (newV lim).1 (newV lim).2.1, eN (newV lim).2.2]) [] := by
  refine .of_exec Tryz.func10 rfl (enters_10) rfl rfl (Nat.le_of_ble_eq_true rfl) (fun n _ => rfl) ?_
  by_cases c1 : lim < 0
  · have e : newV lim = (⟨[], 0, 0⟩, 0, 1) := if_pos (.inl c1)
    simp [c1]
    exact .wk _ (Wk.nilRdB 3 [64]) (by simp) (by simp [e])
  · by_cases c2 : 2000 < lim
    · have e : newV lim = (⟨[], 0, 0⟩, 0, 1) := if_pos (.inr c2)
      simp [c1, c2]
      exact .wk _ (Wk.nilRdB 3 [64]) (by simp) (by simp [e])
    · have e : newV lim = (Bk.freshS 8, lim, 0) := if_neg (by omega)
      simp [c1, c2]
      refine .plain (Bk.new_call (n := 8) (by decide)) (by simp) (by simp) ?_
      simp
      exact .plain (by simp) (by simp [e])
theorem refsnew_call (lim : Int) : CallOk Tryz.prog 11 [.val (.int .i64 lim)] [] (.tup [srvP (newV lim).1 (newV lim).2.1, eN (newV lim).2.2]) [] := by
  refine .of_exec Tryz.func11 rfl (enters_11) rfl rfl (Nat.le_of_ble_eq_true rfl) (fun n _ => rfl) ?_
  by_cases c1 : lim < 0
  · have e : newV lim = (⟨[], 0, 0⟩, 0, 1) := if_pos (.inl c1)
    simp [c1]
    exact .wk _ (Wk.nilRdB 3 [64]) (by simp) (by simp [e])
  · by_cases c2 : 2000 < lim
    · have e : newV lim = (⟨[], 0, 0⟩, 0, 1) := if_pos (.inr c2)
      simp [c1, c2]
      exact .wk _ (Wk.nilRdB 3 [64]) (by simp) (by simp [e])
    · have e : newV lim = (Bk.freshS 8, lim, 0) := if_neg (by omega)
      simp [c1, c2]
      refine .plain (Bk.refnew_call (n := 8) (by decide)) (by simp) (by simp) ?_
      simp
      exact .plain (by simp) (by simp [e])
theorem sright_call {s : Sto} {lim : Int} (hl : s.bs.length < 1000000) : CallOk Tryz.prog 15 [srvP s lim] [] (.val (.bool (rightV s lim))) [] := by
  refine .of_exec Tryz.func15 rfl (enters_15) rfl rfl (Nat.le_of_ble_eq_true rfl) (fun n _ => rfl) ?_
  simp
  refine .plain (Bk.right_call s (by omega)) (by simp) (by simp) ?_
  cases h : Bk.rightB s with
  | false =>
    simp
    exact .plain (by simp) (by simp [rightV, h])
  | true =>
    simp
    exact .plain (by simp) (by simp [rightV, h, Bool.and_assoc])
theorem refsright_call {s : Sto} {lim : Int} (hl : s.bs.length < 1000000) : CallOk Tryz.prog 16 [srvP s lim] [] (.val (.bool (rightV s lim))) [] := by
  refine .of_exec Tryz.func16 rfl (enters_16) rfl rfl (Nat.le_of_ble_eq_true rfl) (fun n _ => rfl) ?_
  simp
  refine .plain (Bk.refright_call s (by omega)) (by simp) (by simp) ?_
  cases h : Bk.rightB s with
  | false =>
    simp
    exact .plain (by simp) (by simp [rightV, h])
  | true =>
    simp
    exact .plain (by simp) (by simp [rightV, h, Bool.and_assoc])
theorem sown_call {s : Sto} {lim : Int} (hl : s.bs.length < 1000000) : CallOk Tryz.prog 34 [srvP s lim] [] (srvP s lim) [] := by
  refine .of_exec Tryz.func34 rfl (enters_34) rfl rfl (Nat.le_of_ble_eq_true rfl) (fun n _ => rfl) ?_
  simp
  refine .plain (Bk.clone_call hl) (by simp) (by simp) ?_
  simp
  exact .plain (by simp) (by simp)
theorem refsown_call {s : Sto} {lim : Int} (hl : s.bs.length < 1000000) : CallOk Tryz.prog 38 [srvP s lim] [] (srvP s lim) [] := by
  refine .of_exec Tryz.func38 rfl (enters_38) rfl rfl (Nat.le_of_ble_eq_true rfl) (fun n _ => rfl) ?_
  simp
  refine callT.plain (Bk.refown_call hl) (by simp) (by simp) ?_
  simp
  refine ⟨rfl, ?_⟩
  exact .plain (by simp) (by simp)
theorem ssame_call {s : Sto} {lim : Int} (hl : s.bs.length < 1000000) : CallOk Tryz.prog 12 [srvP s lim, srvP s lim] [] (.val (.bool true)) [] := by
  refine .of_exec Tryz.func12 rfl (enters_12) rfl rfl (Nat.le_of_ble_eq_true rfl) (fun n _ => rfl) ?_
  simp
  refine .plain (Bk.same_call s hl) (by simp) (by simp) ?_
  simp
  exact .plain (by simp) (by simp)
end Go.Proofs.YtbigcojlpcchiaaGreat.Sy
