/- Layer 10: the law CodecStays. -/
import Derived.Test.YtmddhiokioojlaaC10aw
namespace Go.Proofs.Ytmddhiokioojlaa.Sy
open Go Go.RowKit
set_option linter.unusedVariables false
set_option linter.unusedSimpArgs false
set_option maxRecDepth 10000
set_option maxHeartbeats 16000000
theorem stays_call {s : ByteArray} {a : Int} (h0 : s.size ≤ maxLen) (ha : isI64 a) : CallOk Try.prog 8 [.val (.string s), .val (.int .i64 a)] [] (.val (.bool true)) [] := by
  refine .of_exec Try.func8 rfl (enters_8) rfl rfl (Nat.le_of_ble_eq_true rfl) (fun n _ => rfl) ?_
  unfold maxLen at h0
  simp
  refine .plain awake10_call (by simp) (by simp) ?_
  obtain ⟨m, hm⟩ : ∃ m : Int, m = if 500 < (s.size : Int) then 500 else (s.size : Int) := ⟨_, rfl⟩
  have hm0 : 0 ≤ m ∧ m ≤ s.size ∧ m ≤ 500 := by rw [hm]; split <;> omega
  have hw : IntKind.i64.wrap (m + 1) = m + 1 := w64 (by omega) (by omega)
  simp [← hm, hw]
  have b1 : 0 ≤ m ∧ m ≤ (s.size : Int) := by omega
  refine ⟨b1, fun _ _ => .plain (pick10_call ha (by omega)) (by simp) (by simp) ?_⟩
  have hr := pickI_range (c := a) (n := m + 1) (by omega)
  generalize pickI a (m + 1) = r at hr ⊢
  obtain ⟨t, ht⟩ : ∃ t, t = s.extract 0 m.toNat := ⟨_, rfl⟩
  have hts : (t.size : Int) = m := by rw [ht]; simp; omega
  simp [← ht, hm0]
  refine ⟨rfl, .plain (TakeNumber_call t r) (by simp) (by simp) ?_⟩
  simp
  refine .plain (TakeText_call t r) (by simp) (by simp) ?_
  simp
  refine .plain (TakeList_call t r) (by simp) (by simp) ?_
  have w4 : IntKind.i64.wrap (r + 4) = r + 4 := w64 (by omega) (by omega)
  by_cases e1 : (tNum t r).2.2 = 0
  · obtain ⟨k1, k2, k3, k4⟩ := tNum_ok e1
    have hx : (∃ x : ByteArray, tText t r = (x, r + 4 + x.size, 0) ∧ r + 4 + x.size ≤ t.size) ∨ (∃ e, e ≠ 0 ∧ tText t r = (⟨#[]⟩, r, e)) := by
      by_cases e2 : (tText t r).2.2 = 0
      · obtain ⟨_, h2, h3, _⟩ := tText_at e2
        refine .inl ⟨(tText t r).1, ?_, by omega⟩
        rw [← h2, ← e2]
      · exact .inr ⟨_, e2, tText_no e2⟩
    have hl : (∃ (l : List ByteArray) (b : Int), tList t r = (l, b, 0) ∧ r + 4 + 4 * l.length ≤ b ∧ b ≤ t.size ∧ l.length ≤ 1000) ∨ (∃ e, e ≠ 0 ∧ tList t r = ([], r, e)) := by
      by_cases e3 : (tList t r).2.2 = 0
      · obtain ⟨_, h2, h3, _, h5, _⟩ := tList_at e3
        exact .inl ⟨(tList t r).1, (tList t r).2.1, by rw [← e3], h2, h3, h5⟩
      · exact .inr ⟨_, e3, tList_no e3⟩
    rw [k4]
    rcases hx with ⟨x, hx, x1⟩ | ⟨e, x0, hx⟩
    · have wx : IntKind.i64.wrap (r + 4 + (x.size : Int)) = r + 4 + x.size := w64 (by omega) (by omega)
      rcases hl with ⟨l, b, hl, l1, l2, l3⟩ | ⟨e', l0, hl⟩
      · have wl : IntKind.i64.wrap (4 * (l.length : Int)) = 4 * l.length := w64 (by omega) (by omega)
        have wl2 : IntKind.i64.wrap (r + 4 + 4 * (l.length : Int)) = r + 4 + 4 * l.length := w64 (by omega) (by omega)
        rw [hx, hl]
        simp [w4, wx, wl, wl2, x1, l1, l2]
        exact .plain (by simp) (by simp)
      · rw [hx, hl]
        simp [w4, wx, x1, l0, strs_nil]
        exact .plain (by simp) (by simp)
    · rcases hl with ⟨l, b, hl, l1, l2, l3⟩ | ⟨e', l0, hl⟩
      · have wl : IntKind.i64.wrap (4 * (l.length : Int)) = 4 * l.length := w64 (by omega) (by omega)
        have wl2 : IntKind.i64.wrap (r + 4 + 4 * (l.length : Int)) = r + 4 + 4 * l.length := w64 (by omega) (by omega)
        rw [hx, hl]
        simp [w4, wl, wl2, x0, l1, l2]
        exact .plain (by simp) (by simp)
      · rw [hx, hl]
        simp [w4, x0, l0, strs_nil]
        exact .plain (by simp) (by simp)
  · have g0 := tNum_no e1
    have g1 : tText t r = (⟨#[]⟩, r, (tNum t r).2.2) := by unfold tText; rw [if_neg e1]
    have g2 : tList t r = ([], r, (tNum t r).2.2) := by unfold tList; rw [if_neg e1]
    obtain ⟨e, he⟩ : ∃ e, e = (tNum t r).2.2 := ⟨_, rfl⟩
    rw [← he] at e1 g0 g1 g2
    rw [g0, g1, g2]
    simp [e1, strs_nil]
    exact .plain (by simp) (by simp)
end Go.Proofs.Ytmddhiokioojlaa.Sy
