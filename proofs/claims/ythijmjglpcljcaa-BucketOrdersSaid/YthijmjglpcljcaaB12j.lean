/- Layer 12: wider. -/
import Derived.Test.YthijmjglpcljcaaB12i
namespace Go.Proofs.Ythijmjglpcljcaa.Sy
open Go Go.RowKit
set_option linter.unusedVariables false
set_option linter.unusedSimpArgs false
set_option maxRecDepth 10000
set_option maxHeartbeats 4000000
@[simp] theorem setS_len (s : Sto) (lab cell : ByteArray) : (setS s lab cell).bs.length = s.bs.length := by simp [setS]
@[simp] theorem rowsB_eq_nil (l : List Bkt) : rowsB l = [] ↔ l = [] := by simp [rowsB]
abbrev partS (s : Sto) (i : Nat) : Sto := refillS (freshS (wideN s)) (s.bs.take i)
def wide_inv (s : Sto) (m : Nat) (st : St) : Prop := ∃ i : Nat, m = s.bs.length - i ∧ i ≤ s.bs.length ∧
  st = ⟨57, [(42, .val (.int .i64 i)), (41, .val (.int .i64 s.bs.length)), (40, .rd 3 (rowsB s.bs)), (5, .ref 80 3 0 0), (2, .ref 72 3 0 0)],
    [(72, ⟨31, 3, [[.val (.slice none 0 0), .val (.int .i64 0), .val (.int .i64 0)]], .cells⟩), (80, ⟨31, 3, [[.sl 88 3 0 (partS s i).bs.length, .val (.int .i64 (partS s i).many), .val (.int .i64 (partS s i).gone)]], .cells⟩), (88, ⟨25, 3, rowsB (partS s i).bs, .cells⟩)], 96⟩
theorem wider_own {s : Sto} (h : RightI s) (hn : roomy s = true ∨ sizeB (wideN s) = true) : CallOk Try.prog 41 [stoP s] [] (.tup [ownP (moreS s).bs.length (moreS s).many (moreS s).gone, .val (.bool true)]) [(0, ⟨25, 3, rowsB (moreS s).bs, .cells⟩)] := by
  have hs := right_small h
  have w1 : IntKind.i64.wrap (s.many + s.gone) = s.many + s.gone := w64 (by omega) (by omega)
  have w2 : IntKind.i64.wrap (s.many + s.gone + 1) = s.many + s.gone + 1 := w64 (by omega) (by omega)
  have w3 : IntKind.i64.wrap (4 * (s.many + s.gone + 1)) = 4 * (s.many + s.gone + 1) := w64 (by omega) (by omega)
  have w4 : IntKind.i64.wrap (3 * (s.bs.length : Int)) = 3 * s.bs.length := w64 (by omega) (by omega)
  have w5 : IntKind.i64.wrap (2 * s.many) = 2 * s.many := w64 (by omega) (by omega)
  refine .of_exec Try.func41 rfl (enters_41) rfl rfl (Nat.le_of_ble_eq_true rfl) (fun n _ => rfl) ?_
  by_cases c : roomy s = true
  · have c' : 4 * (s.many + s.gone + 1) ≤ 3 * (s.bs.length : Int) := by simpa [roomy] using c
    have hne : s.bs ≠ [] := by intro e; rw [e] at hs; simp at hs
    simp [w1, w2, w3, w4, c']
    refine callK.own [] [] (own_own hne (by omega)) (by simp) (by simp) (by simp) (by simp) (by simp) (by simp) (by simp) (by simp) (by simp) (by simp) ?_
    simp
    exact .own [(208, 0)] (by simp) (by simp) (by simp [moreS, c]) (by simp) (by simp [moreS, c])
  · have c' : ¬ 4 * (s.many + s.gone + 1) ≤ 3 * (s.bs.length : Int) := by simpa [roomy] using c
    have hn' := hn.resolve_left c
    by_cases c2 : 2 * s.many ≥ s.bs.length
    · have e : wideN s = 2 * s.bs.length := if_pos c2
      have w6 : IntKind.i64.wrap ((s.bs.length : Int) * 2) = wideN s := by rw [w64 (by omega) (by omega)]; omega
      simp [w1, w2, w3, w4, w5, w6, c', c2]
      refine callK.own [] [] (new_own hn') (by simp) (by simp) (by simp) (by simp) (by simp) (by simp) (by simp) (by simp) (by simp) (by simp) ?_
      simp
      refine WPg.loopW (wide_inv s) ⟨s.bs.length, _, ?_, ⟨0, by simp, by simp, rfl⟩⟩ ?_
      · exact Wk.rn [(72, 72), (304, 80), (272, 88)] rfl (by simp) (by simp) (by simp [refillS, e])
      rintro m st ⟨i, g1, g2, rfl⟩
      by_cases hi : i < s.bs.length
      · have hi' : (i : Int) < s.bs.length := by omega
        have hw : IntKind.i64.wrap ((i : Int) + 1) = ((i + 1 : Nat) : Int) := by rw [w64 (by omega) (by omega)]; omega
        obtain ⟨f1, f2, f3, f4, f5, f6⟩ := refill_ok h hn' (wide_le h) (i + 1) (by omega)
        obtain ⟨k1, k2, k3, k4, _⟩ := refill_ok h hn' (wide_le h) i (by omega)
        have hle := usedN_le (s.bs.take i)
        rw [List.length_take] at hle
        have hsz := size_le hn'
        have k2' : (partS s i).bs.length = wideN s := k2
        have k3' : (partS s i).many = usedN (s.bs.take i) := k3
        have k4' : (partS s i).gone = 0 := k4
        have kne : (partS s i).bs ≠ [] := by intro e'; rw [e'] at k2'; simp at k2'; omega
        have hb := atB_get hi
        by_cases c1 : (atB s.bs i).st = 1
        · obtain ⟨k, r1, r2⟩ := f6 i (by omega) c1
          have r3 := refill_succ (t := freshS (wideN s)) hi
          rw [if_pos c1] at r3
          rw [hb] at c1 r2 r3
          simp [hi, hi', rowB, c1]
          refine callK.own [] [(88, 0)] (set_own (s := partS s i) (k := k) (cell := s.bs[i].cell) (by omega) ⟨by omega, by omega⟩ ⟨by omega, by omega⟩ (by omega) r2) (by simp) (by simp) (by simp) (by simp) (by simp) (by simp [kne]) (by simp) (by simp) (by simp) (by simp) ?_
          simp
          refine ⟨s.bs.length - (i + 1), by omega, _, ?_, ⟨i + 1, rfl, by omega, rfl⟩⟩
          rw [hw]
          exact Wk.rn [(72, 72), (80, 80), (88, 88)] rfl (by simp) (by simp) (by simp [r3])
        · have r3 := refill_succ (t := freshS (wideN s)) hi
          rw [if_neg c1] at r3
          rw [hb] at c1
          simp [hi, hi', rowB, c1]
          refine ⟨s.bs.length - (i + 1), by omega, _, ?_, ⟨i + 1, rfl, by omega, rfl⟩⟩
          rw [hw]
          exact Wk.rn [(72, 72), (80, 80), (88, 88)] rfl (by simp) (by simp) (by simp [r3])
      · obtain rfl : i = s.bs.length := by omega
        have pa : partS s s.bs.length = wideS s := by unfold partS wideS; rw [List.take_length]
        have mw : moreS s = wideS s := by unfold moreS; rw [if_neg c]
        simp
        exact .own [(88, 0)] (by simp) (by simp) (by simp [mw, pa]) (by simp) (by simp [mw, pa])
    · have e : wideN s = s.bs.length := if_neg c2
      have hn2 := hn'
      rw [e] at hn2
      simp [w1, w2, w3, w4, w5, c', c2]
      refine callK.own [] [] (new_own hn2) (by simp) (by simp) (by simp) (by simp) (by simp) (by simp) (by simp) (by simp) (by simp) (by simp) ?_
      simp
      refine WPg.loopW (wide_inv s) ⟨s.bs.length, _, ?_, ⟨0, by simp, by simp, rfl⟩⟩ ?_
      · exact Wk.rn [(72, 72), (280, 80), (248, 88)] rfl (by simp) (by simp) (by simp [refillS, e])
      rintro m st ⟨i, g1, g2, rfl⟩
      by_cases hi : i < s.bs.length
      · have hi' : (i : Int) < s.bs.length := by omega
        have hw : IntKind.i64.wrap ((i : Int) + 1) = ((i + 1 : Nat) : Int) := by rw [w64 (by omega) (by omega)]; omega
        obtain ⟨f1, f2, f3, f4, f5, f6⟩ := refill_ok h hn' (wide_le h) (i + 1) (by omega)
        obtain ⟨k1, k2, k3, k4, _⟩ := refill_ok h hn' (wide_le h) i (by omega)
        have hle := usedN_le (s.bs.take i)
        rw [List.length_take] at hle
        have hsz := size_le hn'
        have k2' : (partS s i).bs.length = wideN s := k2
        have k3' : (partS s i).many = usedN (s.bs.take i) := k3
        have k4' : (partS s i).gone = 0 := k4
        have kne : (partS s i).bs ≠ [] := by intro e'; rw [e'] at k2'; simp at k2'; omega
        have hb := atB_get hi
        by_cases c1 : (atB s.bs i).st = 1
        · obtain ⟨k, r1, r2⟩ := f6 i (by omega) c1
          have r3 := refill_succ (t := freshS (wideN s)) hi
          rw [if_pos c1] at r3
          rw [hb] at c1 r2 r3
          simp [hi, hi', rowB, c1]
          refine callK.own [] [(88, 0)] (set_own (s := partS s i) (k := k) (cell := s.bs[i].cell) (by omega) ⟨by omega, by omega⟩ ⟨by omega, by omega⟩ (by omega) r2) (by simp) (by simp) (by simp) (by simp) (by simp) (by simp [kne]) (by simp) (by simp) (by simp) (by simp) ?_
          simp
          refine ⟨s.bs.length - (i + 1), by omega, _, ?_, ⟨i + 1, rfl, by omega, rfl⟩⟩
          rw [hw]
          exact Wk.rn [(72, 72), (80, 80), (88, 88)] rfl (by simp) (by simp) (by simp [r3])
        · have r3 := refill_succ (t := freshS (wideN s)) hi
          rw [if_neg c1] at r3
          rw [hb] at c1
          simp [hi, hi', rowB, c1]
          refine ⟨s.bs.length - (i + 1), by omega, _, ?_, ⟨i + 1, rfl, by omega, rfl⟩⟩
          rw [hw]
          exact Wk.rn [(72, 72), (80, 80), (88, 88)] rfl (by simp) (by simp) (by simp [r3])
      · obtain rfl : i = s.bs.length := by omega
        have pa : partS s s.bs.length = wideS s := by unfold partS wideS; rw [List.take_length]
        have mw : moreS s = wideS s := by unfold moreS; rw [if_neg c]
        simp
        exact .own [(88, 0)] (by simp) (by simp) (by simp [mw, pa]) (by simp) (by simp [mw, pa])
theorem wider_no {s : Sto} (h : RightI s) (hn : roomy s = false) (hn2 : sizeB (wideN s) = false) : CallOk Try.prog 41 [stoP s] [] (.tup [stoP s, .val (.bool false)]) [] := by
  have hs := right_small h
  have w1 : IntKind.i64.wrap (s.many + s.gone) = s.many + s.gone := w64 (by omega) (by omega)
  have w2 : IntKind.i64.wrap (s.many + s.gone + 1) = s.many + s.gone + 1 := w64 (by omega) (by omega)
  have w3 : IntKind.i64.wrap (4 * (s.many + s.gone + 1)) = 4 * (s.many + s.gone + 1) := w64 (by omega) (by omega)
  have w4 : IntKind.i64.wrap (3 * (s.bs.length : Int)) = 3 * s.bs.length := w64 (by omega) (by omega)
  have w5 : IntKind.i64.wrap (2 * s.many) = 2 * s.many := w64 (by omega) (by omega)
  have c' : ¬ 4 * (s.many + s.gone + 1) ≤ 3 * (s.bs.length : Int) := by simpa [roomy] using hn
  have c2 : 2 * s.many ≥ s.bs.length := by
    by_cases c2 : 2 * s.many ≥ s.bs.length
    · exact c2
    · have e : wideN s = s.bs.length := if_neg c2
      rw [e, h.size] at hn2; simp at hn2
  have e : wideN s = 2 * s.bs.length := if_pos c2
  have w6 : IntKind.i64.wrap ((s.bs.length : Int) * 2) = wideN s := by rw [w64 (by omega) (by omega)]; omega
  refine .of_exec Try.func41 rfl (enters_41) rfl rfl (Nat.le_of_ble_eq_true rfl) (fun n _ => rfl) ?_
  simp [w1, w2, w3, w4, w5, w6, c', c2]
  refine .plain (new_bad ⟨by omega, by omega⟩ hn2) (by simp) (by simp) ?_
  simp
  exact .plain (by simp) (by simp)
end Go.Proofs.Ythijmjglpcljcaa.Sy
