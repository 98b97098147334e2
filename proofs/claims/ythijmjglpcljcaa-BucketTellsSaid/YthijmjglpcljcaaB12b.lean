/- Layer 12: homes. -/
import Derived.Test.YthijmjglpcljcaaB12a
namespace Go.Proofs.Ythijmjglpcljcaa.Sy
open Go Go.RowKit
set_option linter.unusedVariables false
set_option linter.unusedSimpArgs false
set_option maxRecDepth 10000
set_option maxHeartbeats 4000000
/-- The number of a label's first four bytes. -/
def num4 (s : ByteArray) : Int := 16777216 * btv s 0 + 65536 * btv s 1 + 256 * btv s 2 + btv s 3
def homeI (s : ByteArray) (n : Int) : Int := if (s.size : Int) < 4 ∨ n < 1 then 0 else num4 s % n
theorem num4_range (s : ByteArray) : 0 ≤ num4 s ∧ num4 s < 4294967296 := by
  have h0 := btv_range s 0
  have h1 := btv_range s 1
  have h2 := btv_range s 2
  have h3 := btv_range s 3
  unfold num4
  omega
theorem homeI_range {s : ByteArray} {n : Int} (h : 0 < n) : 0 ≤ homeI s n ∧ homeI s n < n := by
  unfold homeI
  split
  · omega
  · exact ⟨Int.emod_nonneg _ (by omega), Int.emod_lt_of_pos _ h⟩
theorem numB_num4 (s : ByteArray) : numB s 4 = num4 s := by
  have e : numB s 4 = 256 * (256 * (256 * (256 * 0 + btv s (0 : Nat)) + btv s (1 : Nat)) + btv s (2 : Nat)) + btv s (3 : Nat) := rfl
  rw [e, num4]
  simp
  omega
theorem btv_cut {s : ByteArray} {m i : Nat} (h : i < m) : btv (s.extract 0 m) (i : Int) = btv s (i : Int) := by
  unfold btv
  simp only [Int.toNat_natCast]
  rw [ByteArray.data_extract, Array.toList_extract, List.extract_eq_take_drop]
  simp only [Nat.sub_zero, List.drop_zero, List.getD_eq_getElem?_getD, List.getElem?_take, h, if_true]
theorem num4_cut (s : ByteArray) : num4 (s.extract 0 4) = num4 s := by
  have h0 := btv_cut (s := s) (show 0 < 4 by omega); have h1 := btv_cut (s := s) (show 1 < 4 by omega); have h2 := btv_cut (s := s) (show 2 < 4 by omega); have h3 := btv_cut (s := s) (show 3 < 4 by omega)
  simp at h0 h1 h2 h3
  rw [num4, num4, h0, h1, h2, h3]
theorem home_call (s : ByteArray) {n : Int} (hn : isI64 n) : CallOk Try.prog 14 [.val (.string s), .val (.int .i64 n)] [] (.val (.int .i64 (homeI s n))) [] := by
  refine .of_exec Try.func14 rfl (enters_14) rfl rfl (Nat.le_of_ble_eq_true rfl) (fun n _ => rfl) ?_
  by_cases h : (s.size : Int) < 4 ∨ n < 1
  · have hh : homeI s n = 0 := if_pos h
    rw [hh]
    have hd : (decide ((s.size : Int) < 4) || decide (n < 1)) = true := by simpa using h
    simp [hd]
    exact .plain (by simp) (by simp)
  · have hh : homeI s n = num4 s % n := if_neg h
    have h1 : ¬ (s.size : Int) < 4 := fun e => h (.inl e)
    have h2 : ¬ n < 1 := fun e => h (.inr e)
    have h3 : n ≠ 0 := by omega
    have h4 : (4 : Int) ≤ s.size := by omega
    have hm : (num4 s).tmod n = num4 s % n := Int.tmod_eq_emod_of_nonneg (num4_range s).1
    rw [hh]
    simp [h1, h2, h4]
    refine .plain (number_call (by simp; omega)) (by simp) (by simp) ?_
    rw [numB_num4, num4_cut]
    simp [h3, hm]
    exact .plain (by simp) (by simp)
theorem refhome_call (s : ByteArray) {n : Int} (hn : isI64 n) : CallOk Try.prog 15 [.val (.string s), .val (.int .i64 n)] [] (.val (.int .i64 (homeI s n))) [] := by
  refine .of_exec Try.func15 rfl (enters_15) rfl rfl (Nat.le_of_ble_eq_true rfl) (fun n _ => rfl) ?_
  by_cases h : (s.size : Int) < 4 ∨ n < 1
  · have hh : homeI s n = 0 := if_pos h
    rw [hh]
    have hd : (decide ((s.size : Int) < 4) || decide (n < 1)) = true := by simpa using h
    simp [hd]
    exact .plain (by simp) (by simp)
  · have hh : homeI s n = num4 s % n := if_neg h
    have h1 : ¬ (s.size : Int) < 4 := fun e => h (.inl e)
    have h2 : ¬ n < 1 := fun e => h (.inr e)
    have h3 : n ≠ 0 := by omega
    have i0 : 0 < s.size := by omega
    have i1 : (1 : Int) < s.size := by omega
    have i2 : (2 : Int) < s.size := by omega
    have i3 : (3 : Int) < s.size := by omega
    have b0 := btv_range s 0
    have b1 := btv_range s 1
    have b2 := btv_range s 2
    have b3 := btv_range s 3
    have w0 : IntKind.i64.wrap (btv s 0) = btv s 0 := w64 (by omega) (by omega)
    have w1 : IntKind.i64.wrap (btv s 1) = btv s 1 := w64 (by omega) (by omega)
    have w2 : IntKind.i64.wrap (btv s 2) = btv s 2 := w64 (by omega) (by omega)
    have w3 : IntKind.i64.wrap (btv s 3) = btv s 3 := w64 (by omega) (by omega)
    have m0 : IntKind.i64.wrap (16777216 * btv s 0) = 16777216 * btv s 0 := w64 (by omega) (by omega)
    have m1 : IntKind.i64.wrap (65536 * btv s 1) = 65536 * btv s 1 := w64 (by omega) (by omega)
    have m2 : IntKind.i64.wrap (256 * btv s 2) = 256 * btv s 2 := w64 (by omega) (by omega)
    have a0 : IntKind.i64.wrap (16777216 * btv s 0 + 65536 * btv s 1) = 16777216 * btv s 0 + 65536 * btv s 1 := w64 (by omega) (by omega)
    have a1 : IntKind.i64.wrap (16777216 * btv s 0 + 65536 * btv s 1 + 256 * btv s 2) = 16777216 * btv s 0 + 65536 * btv s 1 + 256 * btv s 2 := w64 (by omega) (by omega)
    have a2 : IntKind.i64.wrap (16777216 * btv s 0 + 65536 * btv s 1 + 256 * btv s 2 + btv s 3) = num4 s := w64 (by omega) (by omega)
    have hm : (num4 s).tmod n = num4 s % n := Int.tmod_eq_emod_of_nonneg (num4_range s).1
    rw [hh]
    simp [h1, h2, h3, i0, i1, i2, i3, w0, w1, w2, w3, m0, m1, m2, a0, a1, a2, hm]
    refine ⟨rfl, ?_⟩
    exact .plain (by simp) (by simp)
end Go.Proofs.Ythijmjglpcljcaa.Sy
