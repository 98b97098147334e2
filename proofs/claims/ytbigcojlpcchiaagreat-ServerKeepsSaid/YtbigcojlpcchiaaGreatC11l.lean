/- Layer 11: the law's labels and cells. -/
import Derived.Test.YtbigcojlpcchiaaGreatSyInt
import Derived.Test.YtbigcojlpcchiaaGreatSyStrs
import Derived.Test.YtbigcojlpcchiaaGreatSyMore
import Derived.Test.YtbigcojlpcchiaaGreatSyTab
import Derived.Test.YtbigcojlpcchiaaGreatM10
namespace Go.Proofs.YtbigcojlpcchiaaGreat.Sy
open Go Go.RowKit
set_option linter.unusedVariables false
set_option linter.unusedSimpArgs false
set_option maxRecDepth 10000
set_option maxHeartbeats 4000000
theorem pick11_call {c n : Int} (hc : isI64 c) (hn : 0 < n ∧ n ≤ 9223372036854775807) :
    CallOk Tryz.prog 52 [.val (.int .i64 c), .val (.int .i64 n)] [] (.val (.int .i64 (pickI c n))) [] := by
  refine .of_exec Tryz.func52 rfl (enters_52) rfl rfl (Nat.le_of_ble_eq_true rfl) (fun n _ => rfl) ?_
  have h0 : n ≠ 0 := by omega
  unfold isI64 at hc
  by_cases h : c < 0
  · have w1 : IntKind.i64.wrap (c + 1) = c + 1 := w64 (by omega) (by omega)
    have w2 : IntKind.i64.wrap (-(c + 1)) = -(c + 1) := w64 (by omega) (by omega)
    have hm : (-(c + 1)).tmod n = pickI c n := by rw [Int.tmod_eq_emod_of_nonneg (by omega)]; simp [pickI, h]
    simp [h, h0, w1, w2, hm]
    exact .plain (by simp) (by simp)
  · have hm : c.tmod n = pickI c n := by rw [Int.tmod_eq_emod_of_nonneg (by omega)]; simp [pickI, h]
    simp [h, h0, hm]
    exact .plain (by simp) (by simp)
def labT (k : Nat) : ByteArray := strOfNums [(k / 256 : Nat), (k % 256 : Nat), (7 * k % 256 : Nat)] ++ strOfNums (List.replicate 13 0)
def cellT (k : Nat) : ByteArray := strOfNums [(k : Nat)] ++ strOfNums (List.replicate 39 0)
def labJ (n : Int) : ByteArray := labT (pickI n 300).toNat
def cellJ (n : Int) : ByteArray := cellT (pickI n 256).toNat
theorem u8w {n : Int} (h0 : 0 ≤ n) (h : n < 256) : IntKind.u8.wrap n = n := by rw [IntKind.wrap_u8]; omega
theorem label11_call {n : Int} (hn : isI64 n) : CallOk Tryz.prog 27 [.val (.int .i64 n)] [] (.val (.string (labJ n))) [] := by
  refine .of_exec Tryz.func27 rfl (enters_27) rfl rfl (Nat.le_of_ble_eq_true rfl) (fun n _ => rfl) ?_
  simp
  refine .plain (pick11_call hn (by omega)) (by simp) (by simp) ?_
  obtain ⟨k, hk⟩ : ∃ k : Nat, pickI n 300 = k := ⟨(pickI n 300).toNat, by have := pickI_range (c := n) (n := 300) (by omega); omega⟩
  have hlt : k < 300 := by have := pickI_range (c := n) (n := 300) (by omega); omega
  have a1 : IntKind.u8.wrap (IntKind.i64.wrap ((k : Int) / 256)) = (k : Int) / 256 := by rw [w64 (by omega) (by omega), u8w (by omega) (by omega)]
  have a2 : (k : Int).tmod 256 = (k : Int) % 256 := Int.tmod_eq_emod_of_nonneg (by omega)
  have a3 : IntKind.u8.wrap ((k : Int) % 256) = (k : Int) % 256 := u8w (by omega) (by omega)
  have a4 : IntKind.i64.wrap (7 * (k : Int)) = 7 * (k : Int) := w64 (by omega) (by omega)
  have a5 : (7 * (k : Int)).tmod 256 = 7 * (k : Int) % 256 := Int.tmod_eq_emod_of_nonneg (by omega)
  have a6 : IntKind.u8.wrap (7 * (k : Int) % 256) = 7 * (k : Int) % 256 := u8w (by omega) (by omega)
  have m5 : (3 : Nat) ≤ maxLen := by decide
  have hl : labJ n = labT k := by unfold labJ; rw [hk]; rfl
  rw [hk, hl]
  simp [a1, a2, a3, a4, a5, a6, m5, numsOf, strOfNums_size]
  refine ⟨rfl, .plain (by simp) (by simp [labT])⟩
theorem cell11_call {n : Int} (hn : isI64 n) : CallOk Tryz.prog 28 [.val (.int .i64 n)] [] (.val (.string (cellJ n))) [] := by
  refine .of_exec Tryz.func28 rfl (enters_28) rfl rfl (Nat.le_of_ble_eq_true rfl) (fun n _ => rfl) ?_
  simp
  refine callT.plain (pick11_call hn (by omega)) (by simp) (by simp) ?_
  obtain ⟨k, hk⟩ : ∃ k : Nat, pickI n 256 = k := ⟨(pickI n 256).toNat, by have := pickI_range (c := n) (n := 256) (by omega); omega⟩
  have hlt : k < 256 := by have := pickI_range (c := n) (n := 256) (by omega); omega
  have a3 : IntKind.u8.wrap (k : Int) = k := u8w (by omega) (by omega)
  have m2 : (1 : Nat) ≤ maxLen := by decide
  have hl : cellJ n = cellT k := by unfold cellJ; rw [hk]; rfl
  rw [hk, hl]
  simp [a3, m2, numsOf, strOfNums_size]
  refine ⟨rfl, .plain (by simp) (by simp [cellT])⟩
theorem labT_size (k : Nat) : (labT k).size = 16 := by simp [labT, strOfNums_size]
theorem cellT_size (k : Nat) : (cellT k).size = 40 := by simp [cellT, strOfNums_size]
theorem labT_b (k : Nat) (hk : k < 300) : btv (labT k) 0 = (k / 256 : Nat) ∧ btv (labT k) 1 = (k % 256 : Nat) := by
  have hr : ∀ x ∈ ([((k / 256 : Nat) : Int), ((k % 256 : Nat) : Int), ((7 * k % 256 : Nat) : Int)] ++ List.replicate 13 (0 : Int)), 0 ≤ x ∧ x < 256 := by
    intro x hx
    rcases List.mem_append.1 hx with h | h
    · simp only [List.mem_cons, List.not_mem_nil, or_false] at h
      rcases h with rfl | rfl | rfl <;> omega
    · rw [List.eq_of_mem_replicate h]; omega
  unfold labT
  rw [strOfNums_append, btv_nums _ _ hr, btv_nums _ _ hr]
  exact ⟨rfl, rfl⟩
theorem labT_inj {j k : Nat} (hj : j < 300) (hk : k < 300) (h : labT j = labT k) : j = k := by
  have h1 := labT_b j hj
  have h2 := labT_b k hk
  rw [h] at h1
  omega
theorem labJ_size (n : Int) : (labJ n).size = 16 := labT_size _
theorem cellJ_size (n : Int) : (cellJ n).size = 40 := cellT_size _
end Go.Proofs.YtbigcojlpcchiaaGreat.Sy
