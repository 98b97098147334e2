/- Layer 12: buckets and stores, as plain data. -/
import Derived.Test.YthijmjglpcljcaaSyInt
import Derived.Test.YthijmjglpcljcaaSyTab
namespace Go.Proofs.Ythijmjglpcljcaa.Sy
open Go Go.RowKit
set_option linter.unusedVariables false
set_option linter.unusedSimpArgs false

structure Bkt where
  st : Int
  lab : ByteArray
  cell : ByteArray
deriving DecidableEq
abbrev Bkt.free : Bkt := ⟨0, ⟨#[]⟩, ⟨#[]⟩⟩
instance : Inhabited Bkt := ⟨.free⟩
def rowB (b : Bkt) : List PV := [.val (.int .i64 b.st), .val (.string b.lab), .val (.string b.cell)]
def rowsB (l : List Bkt) : List (List PV) := l.map rowB
@[simp] theorem rowsB_length (l : List Bkt) : (rowsB l).length = l.length := by simp [rowsB]
@[simp] theorem rowsB_get {l : List Bkt} {i : Nat} (h : i < (rowsB l).length) : (rowsB l)[i] = rowB (l[i]'(by simpa using h)) := by simp [rowsB]
@[simp] theorem rowsB_getD {l : List Bkt} {i : Nat} (h : i < l.length) (d : List PV) : (rowsB l).getD i d = rowB l[i] := by
  simp [rowsB, List.getD_eq_getElem?_getD, h]
@[simp] theorem rowsB_getQ {l : List Bkt} {i : Nat} (h : i < l.length) : (rowsB l)[i]? = some (rowB l[i]) := by simp [rowsB, h]
@[simp] theorem rowsB_take (l : List Bkt) (n : Nat) : (rowsB l).take n = rowsB (l.take n) := by simp [rowsB, List.map_take]
@[simp] theorem rowsB_set (l : List Bkt) (i : Nat) (a : Int) (b c : ByteArray) : (rowsB l).set i [.val (.int .i64 a), .val (.string b), .val (.string c)] = rowsB (l.set i ⟨a, b, c⟩) := by simp [rowsB, rowB, List.map_set]
@[simp] theorem rowsB_nil : rowsB [] = [] := rfl
theorem rowsB_ok (l : List Bkt) : RowsOk 3 (rowsB l) := by
  intro r hr
  obtain ⟨b, _, rfl⟩ := List.mem_map.1 hr
  exact ⟨rfl, by simp [rowB]⟩
@[simp ↓] theorem rowsB_ok' (l : List Bkt) : RowsOk 3 (rowsB l) ↔ True := ⟨fun _ => trivial, fun _ => rowsB_ok l⟩
theorem rowsB_nf (l : List Bkt) : nfRows (rowsB l) := by
  intro r hr c hc
  obtain ⟨b, _, rfl⟩ := List.mem_map.1 hr
  simp only [rowB, List.mem_cons, List.not_mem_nil, or_false] at hc
  rcases hc with rfl | rfl | rfl <;> trivial
@[simp ↓] theorem rowsB_nf' (l : List Bkt) : nfRows (rowsB l) ↔ True := ⟨fun _ => trivial, fun _ => rowsB_nf l⟩
theorem map_rowsB {f : PV → PV} (hf : ∀ v, f (.val v) = .val v) (l : List Bkt) : (rowsB l).map (List.map f) = rowsB l := by
  unfold rowsB
  rw [List.map_map]
  refine List.map_congr_left fun b _ => ?_
  simp [rowB, hf]
@[simp] theorem map_rowsB_rn0 (π : Nat → Option Nat) (l : List Bkt) : (rowsB l).map (List.map (rn0 π)) = rowsB l := map_rowsB (fun _ => rfl) l
@[simp] theorem map_rowsB_low0 (obs : List (Nat × Ob)) (B : List Nat) (l : List Bkt) : (rowsB l).map (List.map (low0 obs B)) = rowsB l := map_rowsB (fun _ => rfl) l
@[simp] theorem rowsB_replicate (n : Nat) : List.replicate n [PV.val (.int .i64 0), .val (.string ⟨#[]⟩), .val (.string ⟨#[]⟩)] = rowsB (List.replicate n .free) := by simp [rowsB, rowB]
structure Sto where
  bs : List Bkt
  many : Int
  gone : Int
deriving DecidableEq
abbrev stoP (s : Sto) : PV := .agg [.rd 3 (rowsB s.bs), .val (.int .i64 s.many), .val (.int .i64 s.gone)]
def pickI (c n : Int) : Int := (if c < 0 then -(c + 1) else c) % n
theorem pickI_range {c n : Int} (hn : 0 < n) : 0 ≤ pickI c n ∧ pickI c n < n := ⟨Int.emod_nonneg _ (by omega), Int.emod_lt_of_pos _ hn⟩

theorem pick_call {c n : Int} (hc : isI64 c) (hn : 0 < n ∧ n ≤ 9223372036854775807) :
    CallOk Try.prog 10 [.val (.int .i64 c), .val (.int .i64 n)] [] (.val (.int .i64 (pickI c n))) [] := by
  refine .of_exec Try.func10 rfl (enters_10) rfl rfl (Nat.le_of_ble_eq_true rfl) (fun n _ => rfl) ?_
  have h0 : n ≠ 0 := by omega
  unfold isI64 at hc
  by_cases h : c < 0
  · have w1 : IntKind.i64.wrap (c + 1) = c + 1 := w64 (by omega) (by omega)
    have w2 : IntKind.i64.wrap (-(c + 1)) = -(c + 1) := w64 (by omega) (by omega)
    have hm : (-(c + 1)).tmod n = pickI c n := by rw [Int.tmod_eq_emod_of_nonneg (by omega)]; simp [pickI, h]
    simp [h, h0, w1, w2, hm]
    exact .plain (by simp) (by simp)
  · have hm : c.tmod n = pickI c n := by rw [Int.tmod_eq_emod_of_nonneg (by omega)]; simp [pickI, h]
    simp [h, h0, hm]
    exact .plain (by simp) (by simp)
end Go.Proofs.Ythijmjglpcljcaa.Sy
