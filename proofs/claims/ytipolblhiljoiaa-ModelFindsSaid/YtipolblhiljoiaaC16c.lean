/- Layer 16: Set. -/
import Derived.Test.YtipolblhiljoiaaC16b
import Derived.Test.YtipolblhiljoiaaC17p
namespace Go.Proofs.Ytipolblhiljoiaa.Sy
open Go Go.RowKit
set_option linter.unusedVariables false
set_option linter.unusedSimpArgs false
set_option maxRecDepth 10000
set_option maxHeartbeats 4000000
theorem compactB_le (l : List ByteArray) : (compactB l).length ≤ l.length := by
  unfold compactB Lib.compact
  rw [List.length_map]
  have : ∀ (d : Array (List UInt8)) (m : Nat), (Lib.compactUpTo d m).length ≤ m := by
    intro d m
    induction m with
    | zero => simp [upTo_zero]
    | succ m ih => rw [Lib.compactUpTo_succ, List.length_append]; split <;> simp <;> omega
  have := this (ofB l).toArray (ofB l).length
  simpa using this
theorem once_call {l : List ByteArray} (h0 : 0 < l.length) (hl : l.length < 1000000) :
    CallOk Try.prog 68 [.sl 0 1 0 l.length] [(0, strO l)] (.sl 0 1 0 (onceOf l).length) [(0, strO (onceOf l ++ List.replicate (l.length - (onceOf l).length) ⟨#[]⟩))] := by
  refine .of_exec Try.func68 rfl (enters_68) rfl rfl (Nat.le_of_ble_eq_true rfl) (fun n h => by simp; omega) ?_
  have hs := sortB_length l
  have e := onceOf_eq l
  have hc := compactB_le (sortB l)
  have hS := Sort_call (l := l) h0 (by omega)
  have hC := Compact_call (l := sortB l) (by omega) (by omega) hc
  rw [hs, e] at hC
  rw [hs, e] at hc
  have hne : l ≠ [] := by rintro rfl; simp at h0
  have hne2 : sortB l ≠ [] := by intro e; rw [e] at hs; simp at hs; omega
  simp
  refine callK.own [] [(0, 0)] hS (by simp) (by simp) (by simp) (by simp) (by simp) (by simp [hne]) (by simp) (by simp) (by simp) (by simp) ?_
  simp
  refine callK.own [] [(0, 0)] hC (by simp) (by simp) (by simp) (by simp) (by simp) (by simp [hne2]) (by simp) (by simp) (by simp) (by simp) ?_
  simp
  exact .own [(0, 0)] (by simp) (by simp) (by simp) (by simp) (by simp)
theorem once_none : CallOk Try.prog 68 [.rd 1 []] [] (.rd 1 []) [] := by
  refine .of_exec Try.func68 rfl (enters_68) rfl rfl (Nat.le_of_ble_eq_true rfl) (fun n _ => rfl) ?_
  have hs : CallOk Try.prog 73 [.rd 1 []] [] (.tup []) [] := by
    refine ⟨enters_73, fun C vs hargs hob hsub hsm => ?_⟩
    obtain ⟨v, rfl, hv⟩ := reL1 hargs
    cases hv <;>
    · refine (Try.slices_Sort_string_none _ _ C.W).mono ?_
      rintro e W' ⟨he, rfl⟩
      exact ⟨_, C, he, rfl, .tup (cs := []) (vs := []) rfl (fun i h => by simp at h), hob, hsub, fun b hb _ => .inl hb, fun nm ob b h2 h3 => (by cases h2), fun nm ob b _ h => h, Fr.refl _ _⟩
  have hc : CallOk Try.prog 74 [.rd 1 []] [] (.rd 1 []) [] := by
    refine .of_exec Try.func74 rfl (enters_74) rfl rfl (Nat.le_of_ble_eq_true rfl) (fun n _ => rfl) ?_
    simp
    exact .plain (by simp) (by simp)
  simp
  refine .plain hs (by simp) (by simp) ?_
  simp
  refine .plain hc (by simp) (by simp) ?_
  simp
  exact .plain (by simp) (by simp)
theorem Set_call {s : ByteArray} : CallOk Try.prog 59 [.val (.string s)] [] (.tup [.rd 1 (strs (setV s).1), .val (.int .i64 (setV s).2)]) [] := by
  refine .of_exec Try.func59 rfl (enters_59) rfl rfl (Nat.le_of_ble_eq_true rfl) (fun n _ => rfl) ?_
  by_cases h : 2000 < s.size
  · have hS := Split_call (s := s)
    rw [if_pos h, if_pos h] at hS
    have e : setV s = ([], 2) := by unfold setV; rw [if_pos h]
    simp
    refine .plain hS (by simp) (by simp) ?_
    simp
    exact .wk _ (Wk.nilRd 1 [(2, .rd 1 []), (3, .val (.int .i64 2))] (by simp)) (by simp) (by simp [e, strs_nil])
  · have hl := wordsOf_length s
    by_cases h0 : wordsOf s = []
    · have hS := Split_call (s := s)
      rw [if_neg h, if_neg h, h0] at hS
      have e : setV s = ([], 0) := by unfold setV setOf; rw [if_neg h, h0, onceOf_nil]; rfl
      simp
      refine .plain hS (by simp) (by simp) ?_
      simp
      refine .plain once_none (by simp) (by simp) ?_
      simp
      exact .plain (by simp) (by simp [e])
    · have hpos : 0 < (wordsOf s).length := List.length_pos_iff.2 h0
      have hS := SplitO_call h
      have hO := once_call hpos (by omega)
      have hle := compactB_le (sortB (wordsOf s))
      rw [onceOf_eq, sortB_length] at hle
      have e0 : onceOf (wordsOf s) = setOf s := rfl
      rw [e0] at hO hle
      simp
      refine callK.own [] [] hS (by simp) (by simp) (by simp) (by simp) (by simp) (by simp) (by simp) (by simp) (by simp) (by simp) ?_
      simp
      refine callK.own [] [(88, 0)] hO (by simp) (by simp) (by simp) (by simp) (by simp) (by simp [h0]) (by simp) (by simp) (by simp) (by simp) ?_
      by_cases h12 : 12 < (setOf s).length
      · have h12' : (12 : Int) < (setOf s).length := by omega
        have e : setV s = ([], 2) := by unfold setV; rw [if_neg h, if_pos h12]
        simp [h12']
        exact .wk _ (Wk.nilRd 1 [(2, .rd 1 []), (3, .val (.int .i64 2))] (by simp)) (by simp) (by simp [e, strs_nil])
      · have h12' : ¬ (12 : Int) < (setOf s).length := by omega
        have e : setV s = (setOf s, 0) := by unfold setV; rw [if_neg h, if_neg h12]
        have hlen : (setOf s).length + ((wordsOf s).length - (setOf s).length) = (wordsOf s).length := by omega
        simp [h12']
        exact .frz [88] [2, 3] (by simp) (by simp) (by simp) (by simp) (by simp [e])
end Go.Proofs.Ytipolblhiljoiaa.Sy
