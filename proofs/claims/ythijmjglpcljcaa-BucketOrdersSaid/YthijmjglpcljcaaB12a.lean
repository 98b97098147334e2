/- Layer 12: sizes, homes, buckets. -/
import Derived.Test.YthijmjglpcljcaaB12o
namespace Go.Proofs.Ythijmjglpcljcaa.Sy
open Go Go.RowKit
set_option linter.unusedVariables false
set_option linter.unusedSimpArgs false
set_option maxRecDepth 10000
set_option maxHeartbeats 4000000
def mayB (b : Bkt) : Bool := if b.st = 1 then decide ((b.lab.size : Int) = 16) && decide ((b.cell.size : Int) = 40) else (decide (b.st = 0) || decide (b.st = 2)) && decide (b.lab = ⟨#[]⟩) && decide (b.cell = ⟨#[]⟩)
theorem may_call (b : Bkt) : CallOk Try.prog 34 [.agg (rowB b)] [] (.val (.bool (mayB b))) [] := by
  refine .of_exec Try.func34 rfl (enters_34) rfl rfl (Nat.le_of_ble_eq_true rfl) (fun n _ => rfl) ?_
  simp [rowB]
  refine ⟨fun h => .plain (by simp) (by simp [mayB, h]), fun h => .plain (by simp) (by simp [mayB, h])⟩
theorem sizeB_pow : ∀ i : Nat, i < 10 → sizeB (8 * 2 ^ i) = true := by decide
def rsz_inv (n : Int) (m : Nat) (s : St) : Prop := ∃ i : Nat, m = 10 - i ∧ i ≤ 10 ∧ (∀ j, j < i → n ≠ 8 * 2 ^ j) ∧ s = ⟨11, [(3, .val (.int .i64 (8 * 2 ^ i))), (0, .val (.int .i64 n)), (2, .val (.bool false))], [], 64⟩
theorem refsize_call (n : Int) : CallOk Try.prog 32 [.val (.int .i64 n)] [] (.val (.bool (sizeB n))) [] := by
  refine .of_exec Try.func32 rfl (enters_32) rfl rfl (Nat.le_of_ble_eq_true rfl) (fun n _ => rfl) ?_
  simp
  refine WPg.loopW (rsz_inv n) ⟨10, _, ?_, ⟨0, by simp, by simp, by simp, rfl⟩⟩ ?_
  · exact Wk.rn [] rfl (by simp) (by simp) (by simp)
  rintro m st ⟨i, h1, h2, h3, rfl⟩
  by_cases hi : i < 10
  · have hle : (8 * 2 ^ i : Int) ≤ 4096 := (by decide : ∀ j : Nat, j < 10 → (8 * 2 ^ j : Int) ≤ 4096) i hi
    have h0 : (0 : Int) ≤ 2 ^ i := Int.pow_nonneg (by omega)
    have hw : IntKind.i64.wrap (2 * (8 * 2 ^ i)) = 8 * 2 ^ (i + 1) := by rw [w64 (by omega) (by omega), Int.pow_succ]; omega
    simp [hle, hw]
    refine ⟨fun he => .plain (by simp) (by subst he; simp [sizeB_pow i hi]), fun hne => ?_⟩
    refine ⟨10 - (i + 1), by omega, _, ?_, ⟨i + 1, rfl, by omega, fun j hj => ?_, rfl⟩⟩
    · exact Wk.rn [] rfl (by simp) (by simp) (by simp)
    · by_cases e : j = i
      · subst e; exact fun h => hne h.symm
      · exact h3 j (by omega)
  · obtain rfl : i = 10 := by omega
    simp
    exact .plain (by simp) (by
      have := fun j (hj : j < 10) => h3 j hj
      have h0 := this 0 (by omega); have h1 := this 1 (by omega); have h2 := this 2 (by omega); have h3 := this 3 (by omega); have h4 := this 4 (by omega)
      have h5 := this 5 (by omega); have h6 := this 6 (by omega); have h7 := this 7 (by omega); have h8 := this 8 (by omega); have h9 := this 9 (by omega)
      simp at h0 h1 h2 h3 h4 h5 h6 h7 h8 h9
      simp [sizeB, h0, h1, h2, h3, h4, h5, h6, h7, h8, h9])
theorem size_call (n : Int) (h : isI64 n) : CallOk Try.prog 31 [.val (.int .i64 n)] [] (.val (.bool (sizeB n))) [] := by
  refine .of_exec Try.func31 rfl (enters_31) rfl rfl (Nat.le_of_ble_eq_true rfl) (fun n _ => rfl) ?_
  have hn : (¬ 8 ≤ n ∨ ¬ n ≤ 4096) → sizeB n = false := fun h => by
    unfold sizeB
    rw [decide_eq_false]
    simp
    omega
  by_cases h1 : 8 ≤ n
  · by_cases h2 : n ≤ 4096
    · obtain ⟨k, rfl⟩ : ∃ k : Nat, n = k := ⟨n.toNat, by omega⟩
      have hw : IntKind.u64.wrap (k : Int) = k := by rw [IntKind.wrap_u64]; omega
      have hs := ones_size ⟨k, by omega⟩ (by simp; omega)
      simp only [] at hs
      simp [h1, h2, hw]
      refine .plain (ones_call k) (by simp) (by simp) ?_
      simp [hs]
      exact .plain (by simp) (by simp)
    · simp [h1, h2]
      exact .plain (by simp) (by simp [hn (.inr h2)])
  · simp [h1]
    exact .plain (by simp) (by simp [hn (.inl h1)])
theorem or_step {v b : Int} (hv : 0 ≤ v ∧ v < 16777216) (hb : 0 ≤ b ∧ b < 256) :
    IntKind.i64.wrap (((IntKind.i64.wrap (v * 2 ^ min 8 IntKind.i64.bits) % 2 ^ IntKind.i64.bits).toNat ||| (IntKind.i64.wrap b % 2 ^ IntKind.i64.bits).toNat : Nat) : Int) = 256 * v + b := by
  obtain ⟨v, rfl⟩ : ∃ k : Nat, v = k := ⟨v.toNat, by omega⟩
  obtain ⟨b, rfl⟩ : ∃ k : Nat, b = k := ⟨b.toNat, by omega⟩
  have h1 : IntKind.i64.wrap ((v : Int) * 2 ^ min 8 IntKind.i64.bits) = (v : Int) * 256 := by rw [bits64']; simp; exact w64 (by omega) (by omega)
  have h2 : IntKind.i64.wrap (b : Int) = b := w64 (by omega) (by omega)
  rw [h1, h2, bits64']
  have e1 : ((v : Int) * 256 % 2 ^ 64).toNat = v <<< 8 := by rw [Nat.shiftLeft_eq]; omega
  have e2 : ((b : Int) % 2 ^ 64).toNat = b := by omega
  rw [e1, e2, ← Nat.shiftLeft_add_eq_or_of_lt (by omega : b < 2 ^ 8), Nat.shiftLeft_eq, w64 (by omega) (by omega)]
  omega
def numB (s : ByteArray) : Nat → Int
  | 0 => 0
  | i + 1 => 256 * numB s i + btv s i
theorem numB_range (s : ByteArray) : ∀ i, 0 ≤ numB s i ∧ numB s i < 256 ^ i
  | 0 => by simp [numB]
  | i + 1 => by
    have := numB_range s i
    have hb := btv_range s i
    rw [Int.pow_succ]
    simp only [numB]
    omega
theorem number_call {s : ByteArray} (hs : s.size = 4) :
    CallOk Try.prog 33 [.val (.string s)] [] (.val (.int .i64 (numB s 4))) [] := by
  refine .of_exec Try.func33 rfl (enters_33) rfl rfl (Nat.le_of_ble_eq_true rfl) (fun n _ => rfl) ?_
  simp
  refine WPg.loopW (fun m st => ∃ i : Nat, m = 4 - i ∧ i ≤ 4 ∧ st = ⟨19, [(8, .val (.int .i64 i)), (7, .val (.int .i64 4)), (6, .rd 1 (brow s)), (2, .val (.int .i64 (numB s i)))], [], 64⟩) ⟨4, _, ?_, ⟨0, rfl, by simp, rfl⟩⟩ ?_
  · simp [hs, numB]
    exact Wk.rn [] rfl (by simp) (by simp) (by simp)
  rintro m st ⟨i, h1, h2, rfl⟩
  by_cases hi : i < 4
  · have hi' : (i : Int) < 4 := by omega
    have hv : 0 ≤ numB s i ∧ numB s i < 16777216 := by
      have := numB_range s i
      have hp := (by decide : ∀ j : Nat, j < 4 → (256 : Int) ^ j ≤ 16777216) i hi
      omega
    have hstep := or_step hv (btv_range s i)
    have hw : IntKind.i64.wrap ((i : Int) + 1) = ((i + 1 : Nat) : Int) := by rw [w64 (by omega) (by omega)]; omega
    simp [hi, hi', hs, hstep]
    refine ⟨4 - (i + 1), by omega, _, ?_, ⟨i + 1, rfl, by omega, rfl⟩⟩
    rw [hw]
    exact Wk.rn [] rfl (by simp) (by simp; rfl) (by simp)
  · obtain rfl : i = 4 := by omega
    simp
    exact .plain (by simp) (by simp)
end Go.Proofs.Ythijmjglpcljcaa.Sy
