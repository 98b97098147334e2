/- Layer 12: stores of raw steps. -/
import Derived.Test.YthijmjglpcljcaaB12k
import Derived.Test.YthijmjglpcljcaaB12t
namespace Go.Proofs.Ythijmjglpcljcaa.Sy
open Go Go.RowKit
set_option linter.unusedVariables false
set_option linter.unusedSimpArgs false
set_option maxRecDepth 10000
set_option maxHeartbeats 4000000
abbrev Stp := Int × Int × Int
def rows3 (l : List Stp) : List (List PV) := l.map fun p => [.val (.int .i64 p.1), .val (.int .i64 p.2.1), .val (.int .i64 p.2.2)]
@[simp] theorem rows3_length (l : List Stp) : (rows3 l).length = l.length := by simp [rows3]
@[simp] theorem rows3_get {l : List Stp} {i : Nat} (h : i < (rows3 l).length) : (rows3 l)[i] = [.val (.int .i64 (l[i]'(by simpa using h)).1), .val (.int .i64 (l[i]'(by simpa using h)).2.1), .val (.int .i64 (l[i]'(by simpa using h)).2.2)] := by simp [rows3]
@[simp] theorem rows3_getQ {l : List Stp} {i : Nat} (h : i < l.length) : (rows3 l)[i]? = some [.val (.int .i64 l[i].1), .val (.int .i64 l[i].2.1), .val (.int .i64 l[i].2.2)] := by simp [rows3, h]
def steps64 (l : List Stp) : Prop := ∀ x ∈ l, isI64 x.1 ∧ isI64 x.2.1 ∧ isI64 x.2.2
def stepS (s : Sto) (x : Stp) : Sto := if 0 < pickI x.1 3 then (putS s (labI x.2.1) (cellI x.2.2)).1 else (delS s (labI x.2.1)).1
def storeS (raw : List Stp) : Sto := (raw.take 60).foldl stepS (freshS 8)
theorem store_succ {raw : List Stp} {i : Nat} (hi : i < raw.length) : storeS (raw.take (i + 1)) = if i < 60 then stepS (storeS (raw.take i)) raw[i] else storeS (raw.take i) := by
  unfold storeS
  rw [List.take_take, List.take_take]
  by_cases h : i < 60
  · rw [if_pos h, Nat.min_eq_right (by omega), Nat.min_eq_right (by omega), List.take_succ_eq_append_getElem hi, List.foldl_append]
    rfl
  · rw [if_neg h, Nat.min_eq_left (by omega), Nat.min_eq_left (by omega)]
/-- Put keeps a store right. -/
theorem put_right {s : Sto} (h : RightI s) {lab cell : ByteArray} (hl : lab.size = 16) (hc : cell.size = 40) : RightI (putS s lab cell).1 := by
  unfold putS
  split
  · split
    · next g =>
      split
      · next hn =>
        obtain ⟨k, k1, k2, k3, k4, k5, k6, k7, _⟩ := more_set (cell := cell) h hl hc (by simpa using hn) g
        exact k7
      · exact h
    · next g =>
      rcases find_mem h.path h.dist lab (size_pos h.size) with ⟨g', _⟩ | ⟨k, g1, g2, g3, g4⟩
      · exact absurd g' g
      · simp only [g2, Int.toNat_natCast]
        exact over_right h hc g1 g3
  · exact h
theorem dels_right {s : Sto} (h : RightI s) (lab : ByteArray) : RightI (delS s lab).1 := by
  unfold delS
  split
  · split
    · exact h
    · next g =>
      rcases find_mem h.path h.dist lab (size_pos h.size) with ⟨g', _⟩ | ⟨k, g1, g2, g3, g4⟩
      · exact absurd g' g
      · simp only [g2, Int.toNat_natCast]
        exact del_right h g1 g3
  · exact h
theorem step_right {s : Sto} (h : RightI s) (x : Stp) : RightI (stepS s x) := by
  unfold stepS
  split
  · exact put_right h (labI_size _) (cellI_size _)
  · exact dels_right h _
theorem fresh8 : sizeB ((8 : Nat) : Int) = true := by decide
theorem store_right (raw : List Stp) : RightI (storeS raw) := by
  unfold storeS
  have : ∀ (l : List Stp) (s : Sto), RightI s → RightI (l.foldl stepS s) := by
    intro l
    induction l with
    | nil => exact fun s h => h
    | cons x l ih => exact fun s h => ih _ (step_right h x)
  exact this _ _ (fresh_right fresh8)
def store_inv (raw : List Stp) (m : Nat) (st : St) : Prop := ∃ i : Nat, m = raw.length - i ∧ i ≤ raw.length ∧ i ≤ 60 ∧
  st = ⟨57, [(5, .val (.int .i64 i)), (3, .ref 72 3 0 0), (2, .ref 64 3 0 0), (0, .rd 3 (rows3 raw))],
    [(64, ⟨31, 3, [[.val (.slice none 0 0), .val (.int .i64 0), .val (.int .i64 0)]], .cells⟩), (72, ⟨31, 3, [[.rd 3 (rowsB (storeS (raw.take i)).bs), .val (.int .i64 (storeS (raw.take i)).many), .val (.int .i64 (storeS (raw.take i)).gone)]], .cells⟩)], 80⟩
theorem store_call (raw : List Stp) (h64 : steps64 raw) (hl : raw.length ≤ 9223372036854775807) : CallOk Try.prog 16 [.rd 3 (rows3 raw)] [] (stoP (storeS raw)) [] := by
  refine .of_exec Try.func16 rfl (enters_16) rfl rfl (Nat.le_of_ble_eq_true rfl) (fun n _ => rfl) ?_
  simp
  refine .plain (refnew_call fresh8) (by simp) (by simp) ?_
  simp
  refine WPg.loopW (store_inv raw) ⟨raw.length, _, ?_, ⟨0, by simp, by simp, by simp, rfl⟩⟩ ?_
  · exact Wk.rn [(64, 64), (104, 72)] rfl (by simp) (by simp) (by simp [storeS])
  rintro m st ⟨i, g1, g2, g3, rfl⟩
  have hr := right_small (store_right (raw.take i))
  by_cases hi : i < raw.length
  · by_cases h60 : i < 60
    · have hi' : (i : Int) < raw.length := by omega
      have h60' : (i : Int) < 60 := by omega
      have hw : IntKind.i64.wrap ((i : Int) + 1) = ((i + 1 : Nat) : Int) := by rw [w64 (by omega) (by omega)]; omega
      obtain ⟨x, hx⟩ : ∃ x, raw[i] = x := ⟨_, rfl⟩
      obtain ⟨x1, x2, x3⟩ : isI64 x.1 ∧ isI64 x.2.1 ∧ isI64 x.2.2 := h64 x (by rw [← hx]; exact List.getElem_mem hi)
      have hs := store_succ hi
      rw [if_pos h60, hx] at hs
      simp [hi, hi', h60', hx]
      refine .plain (pick_call x1 (by omega)) (by simp) (by simp) ?_
      by_cases c : 0 < pickI x.1 3
      · have hs' : storeS (raw.take (i + 1)) = (putS (storeS (raw.take i)) (labI x.2.1) (cellI x.2.2)).1 := by rw [hs]; exact if_pos c
        simp [c, hi, hi', hx]
        refine callT.plain (label_call x2) (by simp) (by simp) ?_
        simp [hi, hi', hx]
        refine callT.plain (cell_call x3) (by simp) (by simp) ?_
        simp
        refine callT.plain (refput_call (storeS (raw.take i)) (labI x.2.1) (cellI x.2.2) (by omega)) (by simp) (by simp) ?_
        simp
        refine ⟨rfl, raw.length - (i + 1), by omega, _, ?_, ⟨i + 1, rfl, by omega, by omega, rfl⟩⟩
        rw [hw, hs']
        exact Wk.rn [(64, 64), (72, 72)] rfl (by simp) (by simp) (by simp)
      · have hs' : storeS (raw.take (i + 1)) = (delS (storeS (raw.take i)) (labI x.2.1)).1 := by rw [hs]; exact if_neg c
        simp [c, hi, hi', hx]
        refine callT.plain (label_call x2) (by simp) (by simp) ?_
        simp
        refine callT.plain (refdel_call (storeS (raw.take i)) (labI x.2.1) (by omega)) (by simp) (by simp) ?_
        simp
        refine ⟨rfl, raw.length - (i + 1), by omega, _, ?_, ⟨i + 1, rfl, by omega, by omega, rfl⟩⟩
        rw [hw, hs']
        exact Wk.rn [(64, 64), (72, 72)] rfl (by simp) (by simp) (by simp)
    · obtain rfl : i = 60 := by omega
      have e : storeS (raw.take 60) = storeS raw := by unfold storeS; rw [List.take_take, Nat.min_self]
      have hi' : (60 : Int) < raw.length := by omega
      simp [hi, hi']
      exact .plain (by simp) (by simp [e])
  · obtain rfl : i = raw.length := by omega
    simp
    exact .plain (by simp) (by simp)
end Go.Proofs.Ythijmjglpcljcaa.Sy
