/- Layer 10: numbers and texts, both sides; cursors. -/
import Derived.Test.YtidaedchmjlbfaaGreatC10p
import Derived.Test.YtidaedchmjlbfaaGreatSyTab
import Derived.Test.YtidaedchmjlbfaaGreatSyMore
namespace Go.Proofs.YtidaedchmjlbfaaGreat.Sy
open Go Go.RowKit
set_option linter.unusedVariables false
set_option linter.unusedSimpArgs false
set_option maxRecDepth 10000
set_option maxHeartbeats 4000000
abbrev curP (s : ByteArray) (a : Int) : PV := .agg [.val (.string s), .val (.int .i64 a)]
abbrev eN (e : Int) : PV := .val (.int .i64 e)
theorem u8w' {n : Int} (h0 : 0 ≤ n) (h : n < 256) : IntKind.u8.wrap n = n := by rw [IntKind.wrap_u8]; omega
theorem u8m (n : Int) : IntKind.u8.wrap n = n % 256 := IntKind.wrap_u8 n
theorem Number_call {n : Int} (hn : isI64 n) : CallOk Tryz.prog 46 [.val (.int .i64 n)] [] (.tup [.val (.string (numE n).1), eN (numE n).2]) [] := by
  refine .of_exec Tryz.func46 rfl (enters_46) rfl rfl (Nat.le_of_ble_eq_true rfl) (fun n _ => rfl) ?_
  by_cases h : n < 0 ∨ 2147483647 < n
  · have hb : (decide (n < 0) || decide (2147483647 < n)) = true := by simpa using h
    have e : numE n = (⟨#[]⟩, 1) := if_pos h
    simp [hb]
    exact .plain (by simp) (by simp [e])
  · have h1 : ¬ n < 0 := fun c => h (.inl c)
    have h2 : ¬ 2147483647 < n := fun c => h (.inr c)
    have e : numE n = (numS n, 0) := if_neg h
    have k1 : IntKind.u8.wrap (n.fdiv 16777216) = n / 16777216 := by rw [u8m, Int.fdiv_eq_ediv_of_nonneg _ (by omega)]; omega
    have k2 : IntKind.u8.wrap (n.fdiv 65536) = n / 65536 % 256 := by rw [u8m, Int.fdiv_eq_ediv_of_nonneg _ (by omega)]
    have k3 : IntKind.u8.wrap (n.fdiv 256) = n / 256 % 256 := by rw [u8m, Int.fdiv_eq_ediv_of_nonneg _ (by omega)]
    have k4 : IntKind.u8.wrap n = n % 256 := u8m n
    have m4 : 4 ≤ maxLen := by decide
    have hS : strOfNums [n / 16777216, n / 65536 % 256, n / 256 % 256, n % 256] = numS n := rfl
    have b64 : IntKind.i64.bits = 64 := rfl
    simp [h1, h2, b64, k1, k2, k3, k4, m4, numsOf, hS]
    exact .plain (by simp) (by simp [e])
theorem refnumber_call {n : Int} (hn : isI64 n) : CallOk Tryz.prog 50 [.val (.int .i64 n)] [] (.tup [.val (.string (numE n).1), eN (numE n).2]) [] := by
  refine .of_exec Tryz.func50 rfl (enters_50) rfl rfl (Nat.le_of_ble_eq_true rfl) (fun n _ => rfl) ?_
  by_cases h : n < 0 ∨ 2147483647 < n
  · have hb : (decide (n < 0) || decide (2147483647 < n)) = true := by simpa using h
    have e : numE n = (⟨#[]⟩, 1) := if_pos h
    simp [hb]
    exact .plain (by simp) (by simp [e])
  · have h1 : ¬ n < 0 := fun c => h (.inl c)
    have h2 : ¬ 2147483647 < n := fun c => h (.inr c)
    have e : numE n = (numS n, 0) := if_neg h
    have k1 : IntKind.u8.wrap (IntKind.i64.wrap (n.tdiv 16777216)) = n / 16777216 := by rw [Int.tdiv_eq_ediv_of_nonneg (by omega), w64 (by omega) (by omega), u8m]; omega
    have k2 : IntKind.u8.wrap ((IntKind.i64.wrap (n.tdiv 65536)).tmod 256) = n / 65536 % 256 := by rw [Int.tdiv_eq_ediv_of_nonneg (by omega), w64 (by omega) (by omega), Int.tmod_eq_emod_of_nonneg (by omega), u8m]; omega
    have k3 : IntKind.u8.wrap ((IntKind.i64.wrap (n.tdiv 256)).tmod 256) = n / 256 % 256 := by rw [Int.tdiv_eq_ediv_of_nonneg (by omega), w64 (by omega) (by omega), Int.tmod_eq_emod_of_nonneg (by omega), u8m]; omega
    have k4 : IntKind.u8.wrap (n.tmod 256) = n % 256 := by rw [Int.tmod_eq_emod_of_nonneg (by omega), u8m]; omega
    have m4 : 4 ≤ maxLen := by decide
    have hS : strOfNums [n / 16777216, n / 65536 % 256, n / 256 % 256, n % 256] = numS n := rfl
    simp [h1, h2, k1, k2, k3, k4, m4, numsOf, hS]
    exact .plain (by simp) (by simp [e])
theorem Text_call {s : ByteArray} (hs : s.size ≤ maxLen) : CallOk Tryz.prog 83 [.val (.string s)] [] (.tup [.val (.string (textE s).1), eN (textE s).2]) [] := by
  refine .of_exec Tryz.func83 rfl (enters_83) rfl rfl (Nat.le_of_ble_eq_true rfl) (fun n _ => rfl) ?_
  unfold maxLen at hs
  by_cases h : 65536 < s.size
  · have e : textE s = (⟨#[]⟩, 2) := if_pos h
    have h' : (65536 : Int) < s.size := by omega
    simp [h, h']
    exact .plain (by simp) (by simp [e])
  · have e : textE s = (numS s.size ++ s, 0) := if_neg h
    have h' : ¬ (65536 : Int) < s.size := by omega
    have e2 : numE s.size = (numS s.size, 0) := if_neg (by omega)
    have cn := Number_call (n := (s.size : Int)) ⟨by omega, by omega⟩
    rw [e2] at cn
    simp [h, h']
    refine .plain cn (by simp) (by simp) ?_
    have hz : 4 + s.size ≤ 9223372036854775807 := by omega
    simp [numS_size]
    exact ⟨hz, fun _ => .plain (by simp) (by simp [e])⟩
theorem reftext_call {s : ByteArray} (hs : s.size ≤ maxLen) : CallOk Tryz.prog 73 [.val (.string s)] [] (.tup [.val (.string (textE s).1), eN (textE s).2]) [] := by
  refine .of_exec Tryz.func73 rfl (enters_73) rfl rfl (Nat.le_of_ble_eq_true rfl) (fun n _ => rfl) ?_
  unfold maxLen at hs
  by_cases h : 65536 < s.size
  · have e : textE s = (⟨#[]⟩, 2) := if_pos h
    have h' : (65536 : Int) < s.size := by omega
    simp [h, h']
    exact .plain (by simp) (by simp [e])
  · have e : textE s = (numS s.size ++ s, 0) := if_neg h
    have h' : ¬ (65536 : Int) < s.size := by omega
    have e2 : numE s.size = (numS s.size, 0) := if_neg (by omega)
    have cn := refnumber_call (n := (s.size : Int)) ⟨by omega, by omega⟩
    rw [e2] at cn
    simp [h, h']
    refine .plain cn (by simp) (by simp) ?_
    have hz : 4 + s.size ≤ 9223372036854775807 := by omega
    simp [numS_size]
    exact ⟨hz, fun _ => .plain (by simp) (by simp [e])⟩
theorem cright_call (s : ByteArray) (a : Int) : CallOk Tryz.prog 74 [curP s a] [] (.val (.bool (okC s a))) [] := by
  refine .of_exec Tryz.func74 rfl (enters_74) rfl rfl (Nat.le_of_ble_eq_true rfl) (fun n _ => rfl) ?_
  simp
  exact .plain (by simp) (by simp [okC])
theorem cpart_call (s : ByteArray) {a n : Int} (hn : 0 ≤ n ∧ n ≤ 4294967295) : CallOk Tryz.prog 54 [curP s a, .val (.int .i64 n)] [] (.tup [.val (.string (partS s a n).1), curP s (partS s a n).2.1, eN (partS s a n).2.2]) [] := by
  refine .of_exec Tryz.func54 rfl (enters_54) rfl rfl (Nat.le_of_ble_eq_true rfl) (fun n _ => rfl) ?_
  simp
  refine .plain (cright_call s a) (by simp) (by simp) ?_
  cases h : okC s a with
  | false =>
    have e : partS s a n = (⟨#[]⟩, a, 1) := by unfold partS; rw [if_neg (by rw [h]; simp)]
    simp
    exact ⟨rfl, .plain (by simp) (by simp [e])⟩
  | true =>
    have hc := okC_iff.1 h
    have w1 : IntKind.i64.wrap ((s.size : Int) - a) = s.size - a := w64 (by omega) (by omega)
    by_cases h2 : (s.size : Int) - a < n
    · have e : partS s a n = (⟨#[]⟩, a, 10) := by unfold partS; rw [if_pos h, if_pos h2]
      simp [w1, h2]
      exact ⟨rfl, .plain (by simp) (by simp [e])⟩
    · have e : partS s a n = (s.extract a.toNat (a + n).toNat, a + n, 0) := by unfold partS; rw [if_pos h, if_neg h2]
      have w2 : IntKind.i64.wrap (a + n) = a + n := w64 (by omega) (by omega)
      have hx : (s.extract a.toNat s.size).extract 0 n.toNat = s.extract a.toNat (a + n).toNat := by
        rw [ByteArray.extract_extract]
        congr 1
        omega
      have b1 : 0 ≤ a ∧ a ≤ (s.size : Int) := by omega
      have b2 : 0 ≤ n ∧ n ≤ ((s.size - a.toNat : Nat) : Int) := by omega
      simp [w1, w2, h2]
      refine ⟨b1, fun _ _ => ⟨b2, fun _ _ => ⟨rfl, ?_⟩⟩⟩
      rw [hx]
      exact .plain (by simp) (by simp [e])
end Go.Proofs.YtidaedchmjlbfaaGreat.Sy
