/- Layer 10: pick and awake, of the law. -/
import Derived.Test.YtmddhiokioojlaaC10e
namespace Go.Proofs.Ytmddhiokioojlaa.Sy
open Go Go.RowKit
set_option linter.unusedVariables false
set_option linter.unusedSimpArgs false
set_option maxRecDepth 10000
set_option maxHeartbeats 4000000
theorem pick10_call {c n : Int} (hc : isI64 c) (hn : 0 < n ∧ n ≤ 9223372036854775807) :
    CallOk Try.prog 10 [.val (.int .i64 c), .val (.int .i64 n)] [] (.val (.int .i64 (pickI c n))) [] := by
  refine .of_exec Try.func10 rfl (enters_10) rfl rfl (Nat.le_of_ble_eq_true rfl) (fun n _ => rfl) ?_
  have h0 : n ≠ 0 := by omega
  unfold isI64 at hc
  by_cases h : c < 0
  · have w1 : IntKind.i64.wrap (c + 1) = c + 1 := w64 (by omega) (by omega)
    have w2 : IntKind.i64.wrap (-(c + 1)) = -(c + 1) := w64 (by omega) (by omega)
    have hm : (-(c + 1)).tmod n = pickI c n := by rw [Int.tmod_eq_emod_of_nonneg (by omega)]; simp [pickI, h]
    simp [h, h0, w1, w2, hm]
    exact .plain (by simp) (by simp)
  · have hm : c.tmod n = pickI c n := by rw [Int.tmod_eq_emod_of_nonneg (by omega)]; simp [pickI, h]
    simp [h, h0, hm]
    exact .plain (by simp) (by simp)
def texts_inv (l : List ByteArray) (m : Nat) (st : St) : Prop := ∃ i : Nat, m = l.length - i ∧ i ≤ l.length ∧
  st = ⟨26, [(5, .val (.int .i64 i)), (1, .rd 1 (strs l)), (0, .rd 1 (strs l))], [], 64⟩
theorem texts_call (l : List ByteArray) (hl : l.length ≤ 1000000) : CallOk Try.prog 26 [.rd 1 (strs l), .rd 1 (strs l)] [] (.val (.bool true)) [] := by
  refine .of_exec Try.func26 rfl (enters_26) rfl rfl (Nat.le_of_ble_eq_true rfl) (fun n _ => rfl) ?_
  simp
  refine WPg.loopW (texts_inv l) ⟨l.length, _, ?_, ⟨0, by simp, by simp, rfl⟩⟩ ?_
  · exact Wk.rn [] rfl (by simp) (by simp) (by simp)
  rintro m st ⟨i, h1, h2, rfl⟩
  by_cases hi : i < l.length
  · have hi' : (i : Int) < l.length := by omega
    have hw : IntKind.i64.wrap ((i : Int) + 1) = ((i + 1 : Nat) : Int) := by rw [w64 (by omega) (by omega)]; omega
    simp [hi, hi']
    refine ⟨rfl, l.length - (i + 1), by omega, _, ?_, ⟨i + 1, rfl, by omega, rfl⟩⟩
    rw [hw]
    exact Wk.rn [] rfl (by simp) (by simp) (by simp)
  · obtain rfl : i = l.length := by omega
    simp
    exact .plain (by simp) (by simp)
abbrev awL : List ByteArray := [⟨#[97]⟩, ⟨#[]⟩]
abbrev awS : ByteArray := ⟨#[0, 0, 0, 2, 0, 0, 0, 1, 97, 0, 0, 0, 0]⟩
abbrev awX : ByteArray := ⟨#[0, 0, 0, 2, 0, 0, 0, 1, 97, 0, 0, 0, 0, 120]⟩
theorem aw10_facts : listE awL = (awS, 0) ∧ tList awX 0 = (awL, 13, 0) ∧ endC awX 13 = 13 ∧ tNum ⟨#[120, 0, 0, 1, 2]⟩ 1 = (258, 5, 0) ∧ tText ⟨#[0, 0, 0, 1]⟩ 0 = (⟨#[]⟩, 0, 10) := by decide +kernel
theorem awake10_call : CallOk Try.prog 9 [] [] (.val (.bool true)) [] := by
  refine .of_exec Try.func9 rfl (enters_9) rfl rfl (Nat.le_of_ble_eq_true rfl) (fun n _ => rfl) ?_
  obtain ⟨f1, f2, f3, f4, f5⟩ := aw10_facts
  have m2 : 2 ≤ maxLen := by decide
  have cl := List_call (l := awL) (by decide) (by decide)
  rw [f1] at cl
  simp [m2]
  refine .lent [72] cl (by simp [rowsV]) (by simp) (by simp) (by simp) (by simp) (by simp) ?_
  have ct := TakeList_call awX 0
  rw [f2] at ct
  have cn := TakeNumber_call ⟨#[120, 0, 0, 1, 2]⟩ 1
  rw [f4] at cn
  have cx := TakeText_call ⟨#[0, 0, 0, 1]⟩ 0
  rw [f5] at cx
  have ce := cend_call awX 13
  rw [f3] at ce
  have cm := Number_call (n := -1) (by unfold isI64; omega)
  have ctx := texts_call awL (by decide)
  have hx : awS ++ ⟨#[120]⟩ = awX := by decide +kernel
  have hz : awS.size + (⟨#[120]⟩ : ByteArray).size ≤ 9223372036854775807 := by decide +kernel
  simp [hx]
  refine ⟨hz, fun _ => .plain ct (by simp) (by simp) ?_⟩
  simp
  refine .plain cn (by simp) (by simp) ?_
  simp
  refine .plain cx (by simp) (by simp) ?_
  simp
  refine .plain cm (by simp) (by simp) ?_
  simp [numE]
  refine ⟨m2, fun _ => .lent [496] ctx (by simp [rowsV]) (by simp) (by simp) (by simp) (by simp) (by simp) ?_⟩
  simp
  refine .plain ce (by simp) (by simp) ?_
  simp
  exact .plain (by simp) (by simp)
end Go.Proofs.Ytmddhiokioojlaa.Sy
