/- Layer 12: Same, Pairs. -/
import Derived.Test.YthijmjglpcljcaaB12Def
namespace Go.Proofs.Ythijmjglpcljcaa.Sy
open Go Go.RowKit
set_option linter.unusedVariables false
set_option linter.unusedSimpArgs false
set_option maxRecDepth 10000
set_option maxHeartbeats 4000000
def same_inv (s : Sto) (m : Nat) (st : St) : Prop := ∃ i : Nat, m = s.bs.length - i ∧ i ≤ s.bs.length ∧
  st = ⟨45, [(5, .val (.int .i64 i)), (3, .ref 72 3 0 0), (2, .ref 64 3 0 0)], [(64, ⟨31, 3, [[.rd 3 (rowsB s.bs), .val (.int .i64 s.many), .val (.int .i64 s.gone)]], .cells⟩), (72, ⟨31, 3, [[.rd 3 (rowsB s.bs), .val (.int .i64 s.many), .val (.int .i64 s.gone)]], .cells⟩)], 80⟩
theorem same_call (s : Sto) (hl : s.bs.length < 1000000) : CallOk Try.prog 13 [stoP s, stoP s] [] (.val (.bool true)) [] := by
  refine .of_exec Try.func13 rfl (enters_13) rfl rfl (Nat.le_of_ble_eq_true rfl) (fun n _ => rfl) ?_
  simp
  refine WPg.loopW (same_inv s) ⟨s.bs.length, _, ?_, ⟨0, by simp, by simp, rfl⟩⟩ ?_
  · exact Wk.rn [(64, 64), (72, 72)] rfl (by simp) (by simp) (by simp)
  rintro m st ⟨i, h1, h2, rfl⟩
  by_cases hi : i < s.bs.length
  · have hi' : (i : Int) < s.bs.length := by omega
    have hw : IntKind.i64.wrap ((i : Int) + 1) = ((i + 1 : Nat) : Int) := by rw [w64 (by omega) (by omega)]; omega
    simp [hi, hi', rowB, hw]
    refine ⟨rfl, s.bs.length - (i + 1), by omega, _, ?_, ⟨i + 1, rfl, by omega, rfl⟩⟩
    exact Wk.rn [(64, 64), (72, 72)] rfl (by simp) (by simp) (by simp)
  · obtain rfl : i = s.bs.length := by omega
    simp
    exact .plain (by simp) (by simp)
abbrev Prs := List (ByteArray × ByteArray)
def rowsP (l : Prs) : List (List PV) := l.map fun p => [.val (.string p.1), .val (.string p.2)]
@[simp] theorem rowsP_length (l : Prs) : (rowsP l).length = l.length := by simp [rowsP]
@[simp] theorem rowsP_get {l : Prs} {i : Nat} (h : i < (rowsP l).length) : (rowsP l)[i] = [.val (.string (l[i]'(by simpa using h)).1), .val (.string (l[i]'(by simpa using h)).2)] := by simp [rowsP]
@[simp] theorem rowsP_getQ {l : Prs} {i : Nat} (h : i < l.length) : (rowsP l)[i]? = some [.val (.string l[i].1), .val (.string l[i].2)] := by simp [rowsP, h]
@[simp] theorem rowsP_take (l : Prs) (n : Nat) : (rowsP l).take n = rowsP (l.take n) := by simp [rowsP, List.map_take]
@[simp] theorem rowsP_drop (l : Prs) (n : Nat) : (rowsP l).drop n = rowsP (l.drop n) := by simp [rowsP, List.map_drop]
@[simp] theorem rowsP_app (l m : Prs) : rowsP l ++ rowsP m = rowsP (l ++ m) := by simp [rowsP]
@[simp] theorem rowsP_snoc (l : Prs) (a b : ByteArray) : rowsP l ++ [[.val (.string a), .val (.string b)]] = rowsP (l ++ [(a, b)]) := by simp [rowsP]
@[simp] theorem rowsP_nil : rowsP [] = [] := rfl
theorem rowsP_ok (l : Prs) : RowsOk 2 (rowsP l) := by
  intro r hr
  obtain ⟨b, _, rfl⟩ := List.mem_map.1 hr
  exact ⟨rfl, by simp⟩
@[simp ↓] theorem rowsP_ok' (l : Prs) : RowsOk 2 (rowsP l) ↔ True := ⟨fun _ => trivial, fun _ => rowsP_ok l⟩
theorem rowsP_nf (l : Prs) : nfRows (rowsP l) := by
  intro r hr c hc
  obtain ⟨b, _, rfl⟩ := List.mem_map.1 hr
  simp only [List.mem_cons, List.not_mem_nil, or_false] at hc
  rcases hc with rfl | rfl <;> trivial
@[simp ↓] theorem rowsP_nf' (l : Prs) : nfRows (rowsP l) ↔ True := ⟨fun _ => trivial, fun _ => rowsP_nf l⟩
theorem map_rowsP {f : PV → PV} (hf : ∀ v, f (.val v) = .val v) (l : Prs) : (rowsP l).map (List.map f) = rowsP l := by
  unfold rowsP
  rw [List.map_map]
  refine List.map_congr_left fun b _ => ?_
  simp [hf]
@[simp] theorem map_rowsP_rn0 (π : Nat → Option Nat) (l : Prs) : (rowsP l).map (List.map (rn0 π)) = rowsP l := map_rowsP (fun _ => rfl) l
@[simp] theorem map_rowsP_low0 (obs : List (Nat × Ob)) (B : List Nat) (l : Prs) : (rowsP l).map (List.map (low0 obs B)) = rowsP l := map_rowsP (fun _ => rfl) l
@[simp] theorem rowsP_eq_nil (l : Prs) : rowsP l = [] ↔ l = [] := by simp [rowsP]
def pairs_inv (l : Prs) (m : Nat) (st : St) : Prop := ∃ i : Nat, m = l.length - i ∧ i ≤ l.length ∧
  st = ⟨26, [(5, .val (.int .i64 i)), (0, .rd 2 (rowsP l)), (1, .rd 2 (rowsP l))], [], 64⟩
theorem pairs_call (l : Prs) (hl : l.length < 1000000) : CallOk Try.prog 20 [.rd 2 (rowsP l), .rd 2 (rowsP l)] [] (.val (.bool true)) [] := by
  refine .of_exec Try.func20 rfl (enters_20) rfl rfl (Nat.le_of_ble_eq_true rfl) (fun n _ => rfl) ?_
  simp
  refine WPg.loopW (pairs_inv l) ⟨l.length, _, ?_, ⟨0, by simp, by simp, rfl⟩⟩ ?_
  · exact Wk.rn [] rfl (by simp) (by simp) (by simp)
  rintro m st ⟨i, h1, h2, rfl⟩
  by_cases hi : i < l.length
  · have hi' : (i : Int) < l.length := by omega
    have hw : IntKind.i64.wrap ((i : Int) + 1) = ((i + 1 : Nat) : Int) := by rw [w64 (by omega) (by omega)]; omega
    simp [hi, hi', hw]
    refine ⟨rfl, l.length - (i + 1), by omega, _, ?_, ⟨i + 1, rfl, by omega, rfl⟩⟩
    exact Wk.rn [] rfl (by simp) (by simp) (by simp)
  · obtain rfl : i = l.length := by omega
    simp
    exact .plain (by simp) (by simp)
end Go.Proofs.Ythijmjglpcljcaa.Sy
