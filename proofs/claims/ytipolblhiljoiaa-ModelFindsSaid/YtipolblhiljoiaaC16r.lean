/- Layer 16: the document's Sign, May, In, Texts, Split, Sorted, Set. -/
import Derived.Test.YtipolblhiljoiaaC16c
namespace Go.Proofs.Ytipolblhiljoiaa.Sy
open Go Go.RowKit
set_option linter.unusedVariables false
set_option linter.unusedSimpArgs false
set_option maxRecDepth 10000
set_option maxHeartbeats 4000000
theorem rSign_call {b : Int} (hb : Byte b) : CallOk Try.prog 47 [.val (.int .u8 b)] [] (.val (.int .u8 (signOf b))) [] := by
  refine .of_exec Try.func47 rfl (enters_47) rfl rfl (Nat.le_of_ble_eq_true rfl) (fun n _ => rfl) ?_
  obtain ⟨hb0, hb1⟩ := hb
  by_cases h2 : 97 ≤ b ∧ b ≤ 122
  · have h3' : (decide (48 ≤ b) && decide (b ≤ 57)) = false := by simpa using fun h => by omega
    simp [h2.1, h2.2, h3']
    exact .plain (by simp) (by simp [signOf, h2.1, h2.2]; omega)
  · have h2' : (decide (97 ≤ b) && decide (b ≤ 122)) = false := by simpa using fun h => by omega
    by_cases h3 : 48 ≤ b ∧ b ≤ 57
    · simp [h2', h3.1, h3.2]
      exact .plain (by simp) (by simp [signOf, h3.1, h3.2]; omega)
    · have h3' : (decide (48 ≤ b) && decide (b ≤ 57)) = false := by simpa using fun h => by omega
      by_cases h1 : 65 ≤ b ∧ b ≤ 90
      · have hw : IntKind.u8.wrap (b + 32) = b + 32 := w8 (by omega) (by omega)
        simp [h2', h3', h1.1, h1.2, hw]
        exact .plain (by simp) (by simp [signOf, h1.1, h1.2])
      · have h1' : (decide (65 ≤ b) && decide (b ≤ 90)) = false := by simpa using fun h => by omega
        simp [h2', h3', h1']
        exact .plain (by simp) (by simp [signOf, h1, h2, h3])
def rmay_inv (w : ByteArray) (m : Nat) (st : St) : Prop := ∃ i : Nat, m = w.size - i ∧ i ≤ w.size ∧ (∀ c ∈ (bytesW w).take i, c ≠ 0 ∧ signOf c = c) ∧
  st = ⟨33, [(3, .val (.int .i64 i)), (0, .val (.string w))], [], 64⟩
theorem rMay_call {w : ByteArray} (hw : w.size ≤ maxLen) : CallOk Try.prog 66 [.val (.string w)] [] (.val (.bool (mayOf w))) [] := by
  refine .of_exec Try.func66 rfl (enters_66) rfl rfl (Nat.le_of_ble_eq_true rfl) (fun n _ => rfl) ?_
  unfold maxLen at hw
  simp
  refine WPg.loopW (rmay_inv w) ⟨w.size, _, ?_, ⟨0, by simp, by simp, by simp, rfl⟩⟩ ?_
  · exact Wk.rn [] rfl (by simp) (by simp) (by simp)
  rintro m st ⟨i, h1, h2, h3, rfl⟩
  by_cases hi : i < w.size
  · have hi' : (i : Int) < w.size := by omega
    have hwr : IntKind.i64.wrap ((i : Int) + 1) = ((i + 1 : Nat) : Int) := by rw [w64 (by omega) (by omega)]; omega
    have hb := btvW hi
    have hr := btv_range w i
    obtain ⟨x, hx⟩ : ∃ x, btv w i = x := ⟨_, rfl⟩
    rw [hx] at hb hr
    have hlb : i < (bytesW w).length := by rw [bytesI_length]; exact hi
    have hs := rSign_call (b := x) ⟨hr.1, by omega⟩
    have c0 : signOf 0 = 0 := by decide
    by_cases c1 : signOf x = 0
    · simp [hi, hi', hx]
      refine callT.plain hs (by simp) (by simp) ?_
      simp [c1]
      have : mayOf w = false := by
        unfold mayOf
        rw [decide_eq_false, Bool.false_and]
        intro h
        have := h _ (List.getElem_mem hlb)
        rw [hb] at this
        exact this.1 (by rw [← this.2, c1])
      exact ⟨rfl, .plain (by simp) (by simp [this])⟩
    · by_cases c2 : signOf x = x
      · simp [hi, hi', hx]
        refine callT.plain hs (by simp) (by simp) ?_
        simp [c1, hi, hi', hx]
        refine callT.plain hs (by simp) (by simp) ?_
        simp [c2, hi, hi', hx]
        refine ⟨rfl, w.size - (i + 1), by omega, _, ?_, ⟨i + 1, rfl, by omega, ?_, rfl⟩⟩
        · rw [hwr]
          exact Wk.rn [] rfl (by simp) (by simp) (by simp)
        · intro c hc
          rw [wtake_one hlb] at hc
          rcases List.mem_append.1 hc with hc | hc
          · exact h3 c hc
          · rw [List.mem_singleton.1 hc, hb]; exact ⟨by rintro rfl; exact c1 c0, c2⟩
      · simp [hi, hi', hx]
        refine callT.plain hs (by simp) (by simp) ?_
        simp [c1, hi, hi', hx]
        refine callT.plain hs (by simp) (by simp) ?_
        simp [c2, hi, hi', hx]
        have : mayOf w = false := by
          unfold mayOf
          rw [decide_eq_false, Bool.false_and]
          exact fun h => c2 (by have := (h _ (List.getElem_mem hlb)).2; rwa [hb] at this)
        exact ⟨rfl, .plain (by simp) (by simp [this])⟩
  · obtain rfl : i = w.size := by omega
    have h4 : ∀ c ∈ bytesW w, c ≠ 0 ∧ signOf c = c := by
      have : (bytesW w).take w.size = bytesW w := by rw [List.take_of_length_le]; rw [bytesI_length]; exact Nat.le_refl _
      rwa [this] at h3
    simp
    exact .plain (by simp) (by simp [mayOf]; exact fun _ _ => h4)
def rin_inv (l : List ByteArray) (s : ByteArray) (m : Nat) (st : St) : Prop := ∃ i : Nat, m = l.length - i ∧ i ≤ l.length ∧ s ∉ l.take i ∧
  st = ⟨18, [(5, .val (.int .i64 i)), (1, .val (.string s)), (0, .rd 1 (strs l))], [], 64⟩
theorem rIn_call {l : List ByteArray} {s : ByteArray} (hl : l.length ≤ maxLen) : CallOk Try.prog 17 [.rd 1 (strs l), .val (.string s)] [] (.val (.bool (inW l s))) [] := by
  refine .of_exec Try.func17 rfl (enters_17) rfl rfl (Nat.le_of_ble_eq_true rfl) (fun n _ => rfl) ?_
  unfold maxLen at hl
  simp
  refine WPg.loopW (rin_inv l s) ⟨l.length, _, ?_, ⟨0, by simp, by simp, by simp, rfl⟩⟩ ?_
  · exact Wk.rn [] rfl (by simp) (by simp) (by simp)
  rintro m st ⟨i, h1, h2, h3, rfl⟩
  by_cases hi : i < l.length
  · have hi' : (i : Int) < l.length := by omega
    have hwr : IntKind.i64.wrap ((i : Int) + 1) = ((i + 1 : Nat) : Int) := by rw [w64 (by omega) (by omega)]; omega
    obtain ⟨x, hx⟩ : ∃ x, l[i] = x := ⟨_, rfl⟩
    by_cases c : x = s
    · subst c
      have : inW l x = true := by unfold inW; rw [decide_eq_true_eq, ← hx]; exact List.getElem_mem hi
      simp [hi, hi', hx]
      exact .plain (by simp) (by simp [this])
    · simp [hi, hi', hx, c]
      refine ⟨l.length - (i + 1), by omega, _, ?_, ⟨i + 1, rfl, by omega, ?_, rfl⟩⟩
      · rw [hwr]
        exact Wk.rn [] rfl (by simp) (by simp) (by simp)
      · rw [wtake_one hi, hx]
        intro hm
        rcases List.mem_append.1 hm with h | h
        · exact h3 h
        · exact c (List.mem_singleton.1 h).symm
  · obtain rfl : i = l.length := by omega
    rw [List.take_length] at h3
    simp
    exact .plain (by simp) (by simp [inW, h3])
def rtx_inv (l r : List ByteArray) (m : Nat) (st : St) : Prop := ∃ i : Nat, m = l.length - i ∧ i ≤ l.length ∧ l.take i = r.take i ∧
  st = ⟨26, [(5, .val (.int .i64 i)), (1, .rd 1 (strs r)), (0, .rd 1 (strs l))], [], 64⟩
def eqW (l r : List ByteArray) : Bool := decide (l = r)
theorem rTexts_call {l r : List ByteArray} (hl : l.length ≤ maxLen) (hr : r.length ≤ maxLen) : CallOk Try.prog 26 [.rd 1 (strs l), .rd 1 (strs r)] [] (.val (.bool (eqW l r))) [] := by
  refine .of_exec Try.func26 rfl (enters_26) rfl rfl (Nat.le_of_ble_eq_true rfl) (fun n _ => rfl) ?_
  unfold maxLen at hl hr
  by_cases hlen : l.length = r.length
  · have hlen' : (l.length : Int) = r.length := by omega
    simp [hlen']
    refine WPg.loopW (rtx_inv l r) ⟨l.length, _, ?_, ⟨0, by simp, by simp, by simp, rfl⟩⟩ ?_
    · exact Wk.rn [] rfl (by simp) (by simp) (by simp)
    rintro m st ⟨i, h1, h2, h3, rfl⟩
    by_cases hi : i < l.length
    · have hi' : (i : Int) < l.length := by omega
      have hir : i < r.length := by omega
      have hir' : (i : Int) < r.length := by omega
      have hwr : IntKind.i64.wrap ((i : Int) + 1) = ((i + 1 : Nat) : Int) := by rw [w64 (by omega) (by omega)]; omega
      obtain ⟨x, hx⟩ : ∃ x, l[i] = x := ⟨_, rfl⟩
      obtain ⟨y, hy⟩ : ∃ y, r[i] = y := ⟨_, rfl⟩
      by_cases c : x = y
      · simp [hi, hi', hx, hir, hir', hy, c]
        refine ⟨rfl, l.length - (i + 1), by omega, _, ?_, ⟨i + 1, rfl, by omega, ?_, rfl⟩⟩
        · rw [hwr]
          exact Wk.rn [] rfl (by simp) (by simp) (by simp)
        · rw [wtake_one hi, wtake_one hir, h3, hx, hy, c]
      · have : eqW l r = false := by
          unfold eqW
          rw [decide_eq_false]
          rintro rfl
          exact c (by rw [← hx, ← hy])
        simp [hi, hi', hx, hir, hir', hy, c]
        exact ⟨rfl, .plain (by simp) (by simp [this])⟩
    · obtain rfl : i = l.length := by omega
      rw [List.take_length, hlen, List.take_length] at h3
      simp
      exact .plain (by simp) (by simp [eqW, h3])
  · have hlen' : ¬ (l.length : Int) = r.length := by omega
    have : eqW l r = false := by
      unfold eqW
      rw [decide_eq_false]
      rintro rfl
      exact hlen rfl
    simp [hlen']
    exact .plain (by simp) (by simp [this])
end Go.Proofs.Ytipolblhiljoiaa.Sy
