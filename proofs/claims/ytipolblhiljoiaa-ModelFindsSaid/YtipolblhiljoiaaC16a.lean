/- Layer 16: Sign, May, Split. -/
import Derived.Test.YtipolblhiljoiaaC16p
import Derived.Test.YtipolblhiljoiaaSyRng
namespace Go.Proofs.Ytipolblhiljoiaa.Sy
open Go Go.RowKit
set_option linter.unusedVariables false
set_option linter.unusedSimpArgs false
set_option maxRecDepth 10000
set_option maxHeartbeats 4000000
theorem w8 {n : Int} (h0 : 0 ≤ n) (h : n < 256) : IntKind.u8.wrap n = n := by rw [IntKind.wrap_u8]; omega
theorem Sign_call {b : Int} (hb : Byte b) : CallOk Try.prog 50 [.val (.int .u8 b)] [] (.val (.int .u8 (signOf b))) [] := by
  refine .of_exec Try.func50 rfl (enters_50) rfl rfl (Nat.le_of_ble_eq_true rfl) (fun n _ => rfl) ?_
  obtain ⟨hb0, hb1⟩ := hb
  by_cases h1 : 65 ≤ b ∧ b ≤ 90
  · have hw : IntKind.u8.wrap (b + 32) = b + 32 := w8 (by omega) (by omega)
    simp [h1.1, h1.2, hw]
    exact .plain (by simp) (by simp [signOf, h1.1, h1.2])
  · have h1' : (decide (65 ≤ b) && decide (b ≤ 90)) = false := by simpa using fun h => by omega
    by_cases h2 : 97 ≤ b ∧ b ≤ 122
    · simp [h1', h2.1, h2.2]
      exact .plain (by simp) (by simp [signOf, h1, h2.1, h2.2])
    · have h2' : (decide (97 ≤ b) && decide (b ≤ 122)) = false := by simpa using fun h => by omega
      by_cases h3 : 48 ≤ b ∧ b ≤ 57
      · simp [h1', h2', h3.1, h3.2]
        exact .plain (by simp) (by simp [signOf, h1, h2, h3.1, h3.2])
      · have h3' : (decide (48 ≤ b) && decide (b ≤ 57)) = false := by simpa using fun h => by omega
        simp [h1', h2', h3']
        exact .plain (by simp) (by simp [signOf, h1, h2, h3])
theorem btvW {w : ByteArray} {i : Nat} (h : i < w.size) : (bytesW w)[i]'(by rw [bytesI_length]; exact h) = btv w i := by
  have := brow_getQ h
  have h2 : (bytesW w)[i]? = some (btv w i) := by
    unfold brow at this
    rw [List.getElem?_map] at this
    cases e : (bytesI w)[i]? with
    | none => rw [e] at this; cases this
    | some x => rw [e] at this; simp only [Option.map_some, u8row, Option.some.injEq, List.cons.injEq, PV.val.injEq, Value.int.injEq, true_and, and_true] at this; rw [this]
  rw [List.getElem?_eq_getElem (by rw [bytesI_length]; exact h)] at h2
  exact Option.some.inj h2
def may_inv (w : ByteArray) (m : Nat) (st : St) : Prop := ∃ i : Nat, m = w.size - i ∧ i ≤ w.size ∧ (∀ c ∈ (bytesW w).take i, c ≠ 0 ∧ signOf c = c) ∧
  st = ⟨29, [(8, .val (.int .i64 i)), (7, .val (.int .i64 w.size)), (6, .rd 1 (brow w)), (0, .val (.string w))], [], 64⟩
theorem wtake_one {α : Type} {ls : List α} {i : Nat} (h : i < ls.length) : ls.take (i + 1) = ls.take i ++ [ls[i]] := by
  rw [List.take_add_one, List.getElem?_eq_getElem h]; rfl
theorem May_call {w : ByteArray} (hw : w.size ≤ maxLen) : CallOk Try.prog 31 [.val (.string w)] [] (.val (.bool (mayOf w))) [] := by
  refine .of_exec Try.func31 rfl (enters_31) rfl rfl (Nat.le_of_ble_eq_true rfl) (fun n _ => rfl) ?_
  unfold maxLen at hw
  simp
  refine WPg.loopW (may_inv w) ⟨w.size, _, ?_, ⟨0, by simp, by simp, by simp, rfl⟩⟩ ?_
  · exact Wk.rn [] rfl (by simp) (by simp) (by simp)
  rintro m st ⟨i, h1, h2, h3, rfl⟩
  by_cases hi : i < w.size
  · have hi' : (i : Int) < w.size := by omega
    have hwr : IntKind.i64.wrap ((i : Int) + 1) = ((i + 1 : Nat) : Int) := by rw [w64 (by omega) (by omega)]; omega
    have hb := btvW hi
    have hr := btv_range w i
    obtain ⟨x, hx⟩ : ∃ x, btv w i = x := ⟨_, rfl⟩
    rw [hx] at hb hr
    have hlb : i < (bytesW w).length := by rw [bytesI_length]; exact hi
    have hs := Sign_call (b := x) ⟨hr.1, by omega⟩
    by_cases c1 : x = 0
    · subst c1
      simp [hi, hi', hx]
      have : mayOf w = false := by
        unfold mayOf
        rw [decide_eq_false, Bool.false_and]
        exact fun h => (h _ (List.getElem_mem hlb)).1 (by rw [hb])
      exact .plain (by simp) (by simp [this])
    · by_cases c2 : signOf x = x
      · simp [hi, hi', hx, c1]
        refine .plain hs (by simp) (by simp) ?_
        simp [c2]
        refine ⟨w.size - (i + 1), by omega, _, ?_, ⟨i + 1, rfl, by omega, ?_, rfl⟩⟩
        · rw [hwr]
          exact Wk.rn [] rfl (by simp) (by simp) (by simp)
        · intro c hc
          rw [wtake_one hlb] at hc
          rcases List.mem_append.1 hc with hc | hc
          · exact h3 c hc
          · rw [List.mem_singleton.1 hc, hb]; exact ⟨c1, c2⟩
      · simp [hi, hi', hx, c1]
        refine .plain hs (by simp) (by simp) ?_
        simp [c2]
        have : mayOf w = false := by
          unfold mayOf
          rw [decide_eq_false, Bool.false_and]
          exact fun h => c2 (by have := (h _ (List.getElem_mem hlb)).2; rwa [hb] at this)
        exact .plain (by simp) (by simp [this])
  · obtain rfl : i = w.size := by omega
    have h4 : ∀ c ∈ bytesW w, c ≠ 0 ∧ signOf c = c := by
      have : (bytesW w).take w.size = bytesW w := by rw [List.take_of_length_le]; rw [bytesI_length]; exact Nat.le_refl _
      rwa [this] at h3
    simp
    exact .plain (by simp) (by simp [mayOf]; exact fun _ _ => h4)
end Go.Proofs.Ytipolblhiljoiaa.Sy
