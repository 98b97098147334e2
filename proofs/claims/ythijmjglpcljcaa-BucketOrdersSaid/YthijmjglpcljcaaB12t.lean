/- Layer 12: labels, cells. -/
import Derived.Test.YthijmjglpcljcaaB12Def
namespace Go.Proofs.Ythijmjglpcljcaa.Sy
open Go Go.RowKit
set_option linter.unusedVariables false
set_option linter.unusedSimpArgs false
set_option maxRecDepth 10000
set_option maxHeartbeats 4000000
def labS (k : Nat) : ByteArray := strOfNums [0, 0, (k / 20 : Nat), (k % 5 * 8 : Nat), (k : Nat)] ++ strOfNums (List.replicate 11 0)
def cellS (k : Nat) : ByteArray := strOfNums [99, (k : Nat)] ++ strOfNums (List.replicate 38 0)
def labI (n : Int) : ByteArray := labS (pickI n 40).toNat
def cellI (n : Int) : ByteArray := cellS (pickI n 256).toNat
theorem u8w {n : Int} (h0 : 0 ≤ n) (h : n < 256) : IntKind.u8.wrap n = n := by rw [IntKind.wrap_u8]; omega
theorem label_call {n : Int} (hn : isI64 n) : CallOk Try.prog 23 [.val (.int .i64 n)] [] (.val (.string (labI n))) [] := by
  refine .of_exec Try.func23 rfl (enters_23) rfl rfl (Nat.le_of_ble_eq_true rfl) (fun n _ => rfl) ?_
  simp
  refine .plain (pick_call hn (by omega)) (by simp) (by simp) ?_
  obtain ⟨k, hk⟩ : ∃ k : Nat, pickI n 40 = k := ⟨(pickI n 40).toNat, by have := pickI_range (c := n) (n := 40) (by omega); omega⟩
  have hlt : k < 40 := by have := pickI_range (c := n) (n := 40) (by omega); omega
  have a1 : IntKind.u8.wrap (IntKind.i64.wrap ((k : Int).tdiv 20)) = (k / 20 : Nat) := by
    rw [Int.tdiv_eq_ediv_of_nonneg (by omega), w64 (by omega) (by omega), u8w (by omega) (by omega)]; omega
  have a2 : IntKind.u8.wrap (IntKind.i64.wrap ((k : Int).tmod 5 * 8)) = (k % 5 * 8 : Nat) := by
    rw [Int.tmod_eq_emod_of_nonneg (by omega), w64 (by omega) (by omega), u8w (by omega) (by omega)]; omega
  have a3 : IntKind.u8.wrap (k : Int) = k := u8w (by omega) (by omega)
  have a4 : IntKind.u8.wrap (IntKind.i64.wrap ((k : Int) / 20)) = (k : Int) / 20 := by
    rw [w64 (by omega) (by omega), u8w (by omega) (by omega)]
  have m5 : (5 : Nat) ≤ maxLen := by decide
  have hl : labI n = labS k := by unfold labI; rw [hk]; rfl
  rw [hk, hl]
  simp [a1, a2, a3, a4, m5, numsOf, strOfNums_size]
  refine ⟨rfl, .plain (by simp) (by simp [labS])⟩
theorem cell_call {n : Int} (hn : isI64 n) : CallOk Try.prog 24 [.val (.int .i64 n)] [] (.val (.string (cellI n))) [] := by
  refine .of_exec Try.func24 rfl (enters_24) rfl rfl (Nat.le_of_ble_eq_true rfl) (fun n _ => rfl) ?_
  simp
  refine callT.plain (pick_call hn (by omega)) (by simp) (by simp) ?_
  obtain ⟨k, hk⟩ : ∃ k : Nat, pickI n 256 = k := ⟨(pickI n 256).toNat, by have := pickI_range (c := n) (n := 256) (by omega); omega⟩
  have hlt : k < 256 := by have := pickI_range (c := n) (n := 256) (by omega); omega
  have a3 : IntKind.u8.wrap (k : Int) = k := u8w (by omega) (by omega)
  have m2 : (2 : Nat) ≤ maxLen := by decide
  have hl : cellI n = cellS k := by unfold cellI; rw [hk]; rfl
  rw [hk, hl]
  simp [a3, m2, numsOf, strOfNums_size]
  refine ⟨rfl, .plain (by simp) (by simp [cellS])⟩
theorem labS_size (k : Nat) : (labS k).size = 16 := by simp [labS, strOfNums_size]
theorem cellS_size (k : Nat) : (cellS k).size = 40 := by simp [cellS, strOfNums_size]
theorem labS_inj : ∀ j k : Fin 40, labS j.val = labS k.val → j = k := by decide +kernel
theorem cellS_ne : ∀ k : Fin 256, cellS k.val ≠ ⟨#[]⟩ := by decide +kernel
theorem pick_lt {n : Int} {m : Nat} (h : 0 < m) : (pickI n m).toNat < m := by have := pickI_range (c := n) (n := m) (by omega); omega
theorem labI_inj {a b : Int} (h : labI a = labI b) : pickI a 40 = pickI b 40 := by
  have ha := pickI_range (c := a) (n := 40) (by omega)
  have hb := pickI_range (c := b) (n := 40) (by omega)
  have := labS_inj ⟨(pickI a 40).toNat, by omega⟩ ⟨(pickI b 40).toNat, by omega⟩ h
  simp only [Fin.mk.injEq] at this
  omega
theorem labI_size (n : Int) : (labI n).size = 16 := labS_size _
theorem cellI_size (n : Int) : (cellI n).size = 40 := cellS_size _
theorem cellI_ne (n : Int) : cellI n ≠ ⟨#[]⟩ := by
  have hb := pickI_range (c := n) (n := 256) (by omega)
  exact cellS_ne ⟨(pickI n 256).toNat, by omega⟩
end Go.Proofs.Ythijmjglpcljcaa.Sy
