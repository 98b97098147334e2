/- Layer 12: rows of whole numbers. -/
import Derived.Test.YthijmjglpcljcaaSyKit
namespace Go.Proofs.Ythijmjglpcljcaa.Sy
open Go Go.RowKit
set_option linter.unusedVariables false
set_option linter.unusedSimpArgs false
def rowsI (l : List Int) : List (List PV) := l.map fun n => [.val (.int .i64 n)]
@[simp] theorem rowsI_length (l : List Int) : (rowsI l).length = l.length := by simp [rowsI]
@[simp] theorem rowsI_get {l : List Int} {i : Nat} (h : i < (rowsI l).length) : (rowsI l)[i] = [.val (.int .i64 (l[i]'(by simpa using h)))] := by simp [rowsI]
@[simp] theorem rowsI_getQ {l : List Int} {i : Nat} (h : i < l.length) : (rowsI l)[i]? = some [.val (.int .i64 l[i])] := by simp [rowsI, h]
@[simp] theorem rowsI_take (l : List Int) (n : Nat) : (rowsI l).take n = rowsI (l.take n) := by simp [rowsI, List.map_take]
@[simp] theorem rowsI_drop (l : List Int) (n : Nat) : (rowsI l).drop n = rowsI (l.drop n) := by simp [rowsI, List.map_drop]
@[simp] theorem rowsI_app (l m : List Int) : rowsI l ++ rowsI m = rowsI (l ++ m) := by simp [rowsI]
@[simp] theorem rowsI_snoc (l : List Int) (a : Int) : rowsI l ++ [[.val (.int .i64 a)]] = rowsI (l ++ [a]) := by simp [rowsI]
@[simp] theorem rowsI_nil : rowsI [] = [] := rfl
@[simp] theorem rowsI_eq_nil (l : List Int) : rowsI l = [] ↔ l = [] := by simp [rowsI]
theorem rowsI_ok (l : List Int) : RowsOk 1 (rowsI l) := by
  intro r hr
  obtain ⟨b, _, rfl⟩ := List.mem_map.1 hr
  exact ⟨rfl, by simp⟩
@[simp ↓] theorem rowsI_ok' (l : List Int) : RowsOk 1 (rowsI l) ↔ True := ⟨fun _ => trivial, fun _ => rowsI_ok l⟩
theorem rowsI_nf (l : List Int) : nfRows (rowsI l) := by
  intro r hr c hc
  obtain ⟨b, _, rfl⟩ := List.mem_map.1 hr
  simp only [List.mem_cons, List.not_mem_nil, or_false] at hc
  subst hc; trivial
@[simp ↓] theorem rowsI_nf' (l : List Int) : nfRows (rowsI l) ↔ True := ⟨fun _ => trivial, fun _ => rowsI_nf l⟩
theorem map_rowsI {f : PV → PV} (hf : ∀ v, f (.val v) = .val v) (l : List Int) : (rowsI l).map (List.map f) = rowsI l := by
  unfold rowsI
  rw [List.map_map]
  exact List.map_congr_left fun b _ => by simp [hf]
@[simp] theorem map_rowsI_rn0 (π : Nat → Option Nat) (l : List Int) : (rowsI l).map (List.map (rn0 π)) = rowsI l := map_rowsI (fun _ => rfl) l
@[simp] theorem map_rowsI_low0 (obs : List (Nat × Ob)) (B : List Nat) (l : List Int) : (rowsI l).map (List.map (low0 obs B)) = rowsI l := map_rowsI (fun _ => rfl) l
end Go.Proofs.Ythijmjglpcljcaa.Sy
