/- Layer 11: may a request be? What is written of it. -/
import Derived.Test.YtbigcojlpcchiaaGreatC11o
namespace Go.Proofs.YtbigcojlpcchiaaGreat.Sy
open Go Go.RowKit
set_option linter.unusedVariables false
set_option linter.unusedSimpArgs false
set_option maxRecDepth 10000
set_option maxHeartbeats 4000000
abbrev reqP (k : Int) (ls cs : List ByteArray) : PV := .agg [.val (.int .i64 k), .rd 1 (strs ls), .rd 1 (strs cs)]
def sizeB (n : Int) (x : ByteArray) : Bool := decide ((x.size : Int) = n)
def rightQ (k : Int) (ls cs : List ByteArray) : Bool :=
  if 200 < ls.length ∨ ls.all (sizeB 16) = false ∨ cs.all (sizeB 40) = false ∨ ¬ ls.Nodup then false
  else if k = 1 then decide (cs.length = ls.length) else if k = 4 then decide (cs.length + ls.length = 0) else decide ((k = 2 ∨ k = 3) ∧ cs.length = 0)
theorem sz_call {l : List ByteArray} (hl : l.length ≤ maxLen) (n : Int) : CallOk Tryz.prog 87 [.rd 1 (strs l), .clo 112 [.rp 1 [[.val (.int .i64 n)]] 0 0]] [] (.val (.bool (l.all (sizeB n)))) [] :=
  only_call hl (.inr ⟨1, _, rfl⟩) (sizeB n) fun x _ => sized_call
theorem right_call {k : Int} {ls cs : List ByteArray} (hk : isI64 k) (hl : ls.length ≤ 4294967296) (hc : cs.length ≤ 4294967296) : CallOk Tryz.prog 60 [reqP k ls cs] [] (.val (.bool (rightQ k ls cs))) [] := by
  refine .of_exec Tryz.func60 rfl (enters_60) rfl rfl (Nat.le_of_ble_eq_true rfl) (fun n _ => rfl) ?_
  have ml : ls.length ≤ maxLen := by unfold maxLen; omega
  have mc : cs.length ≤ maxLen := by unfold maxLen; omega
  by_cases c1 : 200 < ls.length
  · have c1' : 200 < (ls.length : Int) := by omega
    have e : rightQ k ls cs = false := if_pos (.inl c1)
    simp [c1, c1']
    refine ⟨rfl, ?_⟩
    exact .plain (by simp) (by simp [e])
  · have c1' : ¬ 200 < (ls.length : Int) := by omega
    simp [c1, c1']
    refine callT.own [] [] (mkSized_call (n := 16)) (by simp) (by simp) (by simp) (by simp) (by simp) (by simp) (by simp) (by simp) (by simp) (by simp) ?_
    simp
    refine callT.own [137] [] (sz_call ml 16) (by simp) (by simp) (by simp) (by simp) (by simp) (by simp) (by simp) (by simp) (by simp) (by simp) ?_
    cases c2 : ls.all (sizeB 16) with
    | false =>
      have e : rightQ k ls cs = false := if_pos (.inr (.inl c2))
      simp
      refine ⟨rfl, ?_⟩
      exact .plain (by simp) (by simp [e])
    | true =>
      simp
      refine callT.own [] [] (mkSized_call (n := 40)) (by simp) (by simp) (by simp) (by simp) (by simp) (by simp) (by simp) (by simp) (by simp) (by simp) ?_
      simp
      refine callT.own [193] [] (sz_call mc 40) (by simp) (by simp) (by simp) (by simp) (by simp) (by simp) (by simp) (by simp) (by simp) (by simp) ?_
      cases c3 : cs.all (sizeB 40) with
      | false =>
        have e : rightQ k ls cs = false := if_pos (.inr (.inr (.inl c3)))
        simp
        refine ⟨rfl, ?_⟩
        exact .plain (by simp) (by simp [e])
      | true =>
        simp
        refine .plain (once_call hl) (by simp) (by simp) ?_
        by_cases c4 : ls.Nodup
        · have e0 : rightQ k ls cs = if k = 1 then decide (cs.length = ls.length) else if k = 4 then decide (cs.length + ls.length = 0) else decide ((k = 2 ∨ k = 3) ∧ cs.length = 0) := if_neg (by rw [c2, c3]; simp [c1, c4])
          have w : IntKind.i64.wrap ((cs.length : Int) + ls.length) = cs.length + ls.length := w64 (by omega) (by omega)
          simp [c4]
          refine ⟨rfl, ?_⟩
          by_cases k1 : k = 1
          · have e : rightQ k ls cs = decide ((cs.length : Int) = ls.length) := by rw [e0, if_pos k1, decide_eq_decide]; omega
            rw [e]
            subst k1
            simp
            exact .plain (by simp) (by simp)
          · by_cases k4 : k = 4
            · have e : rightQ k ls cs = decide ((cs.length : Int) + ls.length = 0) := by rw [e0, if_neg k1, if_pos k4, decide_eq_decide]; omega
              rw [e]
              subst k4
              simp [w]
              exact .plain (by simp) (by simp)
            · have e : rightQ k ls cs = ((decide (k = 2) || decide (k = 3)) && decide (cs = [])) := by rw [e0, if_neg k1, if_neg k4]; simp
              rw [e]
              simp [k1, k4]
              exact .plain (by simp) (by simp)
        · have e : rightQ k ls cs = false := if_pos (.inr (.inr (.inr c4)))
          simp [c4]
          refine ⟨rfl, ?_⟩
          exact .plain (by simp) (by simp [e])
end Go.Proofs.YtbigcojlpcchiaaGreat.Sy
