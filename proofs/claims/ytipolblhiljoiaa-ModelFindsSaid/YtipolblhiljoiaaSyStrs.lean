/- Sy: rows of texts. -/
import Derived.Test.YtipolblhiljoiaaSyInt
namespace Go.Proofs.Ytipolblhiljoiaa.Sy
open Go Go.RowKit
set_option linter.unusedVariables false
set_option linter.unusedSimpArgs false
@[simp] theorem strs_getQ {l : List ByteArray} {i : Nat} (h : i < l.length) : (strs l)[i]? = some [.val (.string l[i])] := by simp [rowsV, h]
@[simp] theorem strs_take (l : List ByteArray) (n : Nat) : (strs l).take n = strs (l.take n) := by simp [rowsV, List.map_take]
@[simp] theorem strs_drop (l : List ByteArray) (n : Nat) : (strs l).drop n = strs (l.drop n) := by simp [rowsV, List.map_drop]
@[simp] theorem strs_app (l m : List ByteArray) : strs l ++ strs m = strs (l ++ m) := by simp [rowsV]
@[simp] theorem strs_snoc (l : List ByteArray) (a : ByteArray) : strs l ++ [[.val (.string a)]] = strs (l ++ [a]) := by simp [rowsV]
theorem strs_nil : strs [] = [] := rfl
@[simp] theorem strs_eq_nil (l : List ByteArray) : strs l = [] ↔ l = [] := by simp [rowsV]
@[simp] theorem strs_set (l : List ByteArray) (i : Nat) (a : ByteArray) : (strs l).set i [.val (.string a)] = strs (l.set i a) := by simp [rowsV, List.map_set]
theorem strs_ok (l : List ByteArray) : RowsOk 1 (strs l) := rowsV_ok (fun _ => rfl) l
@[simp ↓] theorem strs_ok' (l : List ByteArray) : RowsOk 1 (strs l) ↔ True := ⟨fun _ => trivial, fun _ => strs_ok l⟩
@[simp ↓] theorem strs_nf' (l : List ByteArray) : nfRows (strs l) ↔ True := ⟨fun _ => trivial, fun _ r hr c hc => by
  obtain ⟨n, _, rfl⟩ := List.mem_map.1 hr
  simp only [List.mem_singleton] at hc
  rw [hc]; trivial⟩
theorem map_strs {f : PV → PV} (hf : ∀ v, f (.val v) = .val v) (l : List ByteArray) : (strs l).map (List.map f) = strs l := by
  unfold strs rowsV
  rw [List.map_map]
  exact List.map_congr_left fun b _ => by simp [hf]
@[simp] theorem map_strs_rn0 (π : Nat → Option Nat) (l : List ByteArray) : (strs l).map (List.map (rn0 π)) = strs l := map_strs (fun _ => rfl) l
@[simp] theorem map_strs_low0 (obs : List (Nat × Ob)) (B : List Nat) (l : List ByteArray) : (strs l).map (List.map (low0 obs B)) = strs l := map_strs (fun _ => rfl) l
end Go.Proofs.Ytipolblhiljoiaa.Sy
