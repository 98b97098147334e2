/- Sy: what a guarded operation leaves where its guard is false names no block. -/
import Derived.Test.YtipolblhiljoiaaSyStrs
namespace Go.Proofs.Ytipolblhiljoiaa.Sy
open Go Go.RowKit
set_option linter.unusedVariables false
set_option linter.unusedSimpArgs false
@[simp] theorem names0_scal (P : Program) (ev : Operand → PV) (o : Oper) : names0 (scal P ev o).v = [] := by
  unfold scal
  split
  · unfold cvt; split <;> rfl
  · rfl
@[simp] theorem names0_aBin (P : Program) (op : BinOp) (t : TypeId) (x y : Operand) (p q : PV) (sc : R) (h : names0 sc.v = []) : names0 (aBin P op t x y p q sc).v = [] := by
  unfold aBin
  split
  · split
    · rfl
    · exact h
  · exact h
@[simp] theorem names0_aUn (P : Program) (op : UnOp) (p : PV) (sc : R) (h : names0 sc.v = []) : names0 (aUn op p sc).v = [] := by
  unfold aUn
  split
  · split
    · rfl
    · exact h
  · exact h
@[simp] theorem names0_aEqA (P : Program) (op : BinOp) (t : TypeId) (p q : PV) (sc : R) (h : names0 sc.v = []) : names0 (aEqA P op t p q sc).v = [] := by
  unfold aEqA
  split
  · split
    · rfl
    · exact h
  · split
    · rfl
    · exact h
  · exact h
@[simp] theorem names0_aEqB (P : Program) (op : BinOp) (t : TypeId) (p q : PV) (sc : R) (h : names0 sc.v = []) : names0 (aEqB P op t p q sc).v = [] := by
  unfold aEqB
  split
  · split
    · split
      · rfl
      · exact h
    · split
      · rfl
      · exact h
    · exact h
  · split
    · unfold nilB; split <;> rfl
    · unfold nnilB; split <;> rfl
    · exact h
  · exact h
@[simp] theorem names0_chain (P : Program) (op : BinOp) (t : TypeId) (x y : Operand) (p q : PV) (ev : Operand → PV) (o : Oper) : names0 (aEqB P op t p q (aEqA P op t p q (aBin P op t x y p q (scal P ev o)))).v = [] :=
  names0_aEqB _ _ _ _ _ _ (names0_aEqA _ _ _ _ _ _ (names0_aBin _ _ _ _ _ _ _ _ (names0_scal _ _ _)))
@[simp] theorem names0_aBinS (P : Program) (op : BinOp) (t : TypeId) (x y : Operand) (p q : PV) (ev : Operand → PV) (o : Oper) : names0 (aBin P op t x y p q (scal P ev o)).v = [] := names0_aBin _ _ _ _ _ _ _ _ (names0_scal _ _ _)
@[simp] theorem names0_aUnS (P : Program) (op : UnOp) (p : PV) (ev : Operand → PV) (o : Oper) : names0 (aUn op p (scal P ev o)).v = [] := names0_aUn P _ _ _ (names0_scal _ _ _)
@[simp] theorem names0_undef : names0 (.val undef) = [] := rfl
@[simp] theorem names0_ite (c : Prop) [Decidable c] (p q : PV) (hp : names0 p = []) (hq : names0 q = []) : names0 (if c then p else q) = [] := by split <;> assumption
theorem names0_nf {p : PV} (h : nfP p) : names0 p = [] := by
  cases p <;> first | rfl | exact h.elim
@[simp] theorem names0_strs (l : List ByteArray) (k j : Nat) : names0 (((strs l)[k]?.getD [])[j]?.getD .un) = [] := by
  by_cases h : k < l.length
  · rw [strs_getQ h]
    simp only [Option.getD_some]
    cases j <;> simp
  · have e : (strs l)[k]? = none := List.getElem?_eq_none (by rw [rowsV_length]; omega)
    rw [e]; simp
end Go.Proofs.Ytipolblhiljoiaa.Sy
