/- Layer 10: what is taken, the document's. -/
import Derived.Test.YtidaedchmjlbfaaGreatC10d
namespace Go.Proofs.YtidaedchmjlbfaaGreat.Sy
open Go Go.RowKit
set_option linter.unusedVariables false
set_option linter.unusedSimpArgs false
set_option maxRecDepth 10000
set_option maxHeartbeats 4000000
theorem refcright_call (s : ByteArray) (a : Int) : CallOk Tryz.prog 60 [curP s a] [] (.val (.bool (okC s a))) [] := by
  refine .of_exec Tryz.func60 rfl (enters_60) rfl rfl (Nat.le_of_ble_eq_true rfl) (fun n _ => rfl) ?_
  simp
  exact .plain (by simp) (by simp [okC])
theorem refend_call (s : ByteArray) (a : Int) : CallOk Tryz.prog 38 [curP s a] [] (eN (endC s a)) [] := by
  refine .of_exec Tryz.func38 rfl (enters_38) rfl rfl (Nat.le_of_ble_eq_true rfl) (fun n _ => rfl) ?_
  simp
  refine .plain (refcright_call s a) (by simp) (by simp) ?_
  cases h : okC s a with
  | false =>
    have e : endC s a = 1 := by unfold endC; rw [if_neg (by rw [h]; simp)]
    simp
    exact .plain (by simp) (by simp [e])
  | true =>
    by_cases h2 : a < s.size
    · have e : endC s a = 13 := by unfold endC; rw [if_pos h, if_pos h2]
      simp [h2]
      exact .plain (by simp) (by simp [e])
    · have e : endC s a = 0 := by unfold endC; rw [if_pos h, if_neg h2]
      simp [h2]
      exact .plain (by simp) (by simp [e])
abbrev curO (s : ByteArray) (a : Int) : Ob := ⟨61, 2, [[.val (.string s), .val (.int .i64 a)]], .cells⟩
def refnum_inv (s : ByteArray) (a : Int) (x : ByteArray) (m : Nat) (st : St) : Prop := ∃ i : Nat, m = 4 - i ∧ i ≤ 4 ∧
  st = ⟨44, [(6, .val (.int .i64 i)), (5, .val (.int .i64 (bN x i))), (3, .ref 72 2 0 0), (1, .ref 64 2 0 0)], [(64, curO s a), (72, curO ⟨#[]⟩ 0)], 80⟩
theorem refTakeNumber_call (s : ByteArray) (a : Int) : CallOk Tryz.prog 36 [curP s a] [] (.tup [.val (.int .i64 (tNum s a).1), curP s (tNum s a).2.1, eN (tNum s a).2.2]) [] := by
  refine .of_exec Tryz.func36 rfl (enters_36) rfl rfl (Nat.le_of_ble_eq_true rfl) (fun n _ => rfl) ?_
  simp
  refine .plain (refcright_call s a) (by simp) (by simp) ?_
  cases h : okC s a with
  | false =>
    have e : tNum s a = (0, a, 1) := by unfold tNum; rw [if_neg (by rw [h]; simp)]
    simp
    exact ⟨rfl, .plain (by simp) (by simp [e])⟩
  | true =>
    have hc := okC_iff.1 h
    have w0 : IntKind.i64.wrap ((s.size : Int) - a) = s.size - a := w64 (by omega) (by omega)
    by_cases h2 : (s.size : Int) - a < 4
    · have e : tNum s a = (0, a, 10) := by unfold tNum; rw [if_pos h, if_pos h2]
      simp [w0, h2]
      exact ⟨rfl, .plain (by simp) (by simp [e])⟩
    · obtain ⟨x, hx⟩ : ∃ x, x = s.extract a.toNat (a + 4).toNat := ⟨_, rfl⟩
      have hxs : x.size = 4 := by rw [hx, ByteArray.size_extract]; omega
      have hb := bN4 hc.2.1 (show a + 4 ≤ (s.size : Int) by omega)
      rw [← hx] at hb
      simp [w0, h2]
      refine WPg.loopW (refnum_inv s a x) ⟨4, _, ?_, ⟨0, by simp, by simp, rfl⟩⟩ ?_
      · exact Wk.rn [(64, 64), (80, 72)] rfl (by simp) (by simp [bN]) (by simp)
      rintro m st ⟨i, h1, h3, rfl⟩
      by_cases hi : i < 4
      · have hi' : (i : Int) < 4 := by omega
        have hv : 0 ≤ bN x i ∧ bN x i < 16777216 := by
          have := bN_range x i
          have hp := (by decide : ∀ j : Nat, j < 4 → (256 : Int) ^ j ≤ 16777216) i hi
          omega
        have hw : IntKind.i64.wrap ((i : Int) + 1) = ((i + 1 : Nat) : Int) := by rw [w64 (by omega) (by omega)]; omega
        have hwa : IntKind.i64.wrap (a + i) = a + i := w64 (by omega) (by omega)
        have hbt : btv x (i : Int) = btv s (a + i) := by
          have := btv_extract (s := s) (a := a.toNat) (b := (a + 4).toNat) (j := i) (by omega) (by omega)
          rw [← hx] at this
          rw [this]
          congr 1
          omega
        have hr := btv_range s (a + i)
        have hw1 : IntKind.i64.wrap (256 * bN x i) = 256 * bN x i := w64 (by omega) (by omega)
        have hw2 : IntKind.i64.wrap (btv s (a + i)) = btv s (a + i) := w64 (by omega) (by omega)
        have hw3 : IntKind.i64.wrap (256 * bN x i + btv s (a + i)) = bN x (i + 1) := by
          rw [w64 (by omega) (by omega)]
          simp only [bN]
          rw [hbt]
          omega
        have hlo : 0 ≤ a + (i : Int) ∧ a + (i : Int) < s.size := by omega
        simp [hi, hi', hwa, hw1, hw2, hw3, hlo]
        refine ⟨4 - (i + 1), by omega, _, ?_, ⟨i + 1, rfl, by omega, rfl⟩⟩
        rw [hw]
        exact Wk.rn [(64, 64), (72, 72)] rfl (by simp) (by simp) (by simp)
      · obtain rfl : i = 4 := by omega
        by_cases h4 : 2147483647 < b4 s a
        · have e : tNum s a = (0, a, 13) := by unfold tNum; rw [if_pos h, if_neg h2, if_pos h4]
          simp [hb, h4]
          exact ⟨rfl, .plain (by simp) (by simp [e])⟩
        · have e : tNum s a = (b4 s a, a + 4, 0) := by unfold tNum; rw [if_pos h, if_neg h2, if_neg h4]
          have w4 : IntKind.i64.wrap (a + 4) = a + 4 := w64 (by omega) (by omega)
          simp [hb, h4, w4]
          exact ⟨rfl, .plain (by simp) (by simp [e])⟩
theorem refTakeText_call (s : ByteArray) (a : Int) : CallOk Tryz.prog 61 [curP s a] [] (.tup [.val (.string (tText s a).1), curP s (tText s a).2.1, eN (tText s a).2.2]) [] := by
  refine .of_exec Tryz.func61 rfl (enters_61) rfl rfl (Nat.le_of_ble_eq_true rfl) (fun n _ => rfl) ?_
  simp
  refine .plain (refTakeNumber_call s a) (by simp) (by simp) ?_
  by_cases h : (tNum s a).2.2 = 0
  · obtain ⟨k1, k2, k3, k4⟩ := tNum_ok h
    have hb := b4_range s a
    have hc := okC_iff.1 k1
    have w0 : IntKind.i64.wrap ((s.size : Int) - (a + 4)) = s.size - (a + 4) := w64 (by omega) (by omega)
    have ho := okC_next k1 (n := 4) (by omega) k2
    by_cases h2 : (s.size : Int) - (a + 4) < b4 s a
    · have ep : partS s (a + 4) (b4 s a) = (⟨#[]⟩, a + 4, 10) := by unfold partS; rw [if_pos ho, if_pos h2]
      have e : tText s a = (⟨#[]⟩, a, 10) := by unfold tText; rw [if_pos h, ep, if_neg (by simp)]
      simp [k4, w0, h2]
      exact ⟨rfl, .plain (by simp) (by simp [e])⟩
    · have ep : partS s (a + 4) (b4 s a) = (s.extract (a + 4).toNat (a + 4 + b4 s a).toNat, a + 4 + b4 s a, 0) := by unfold partS; rw [if_pos ho, if_neg h2]
      have e : tText s a = (s.extract (a + 4).toNat (a + 4 + b4 s a).toNat, a + 4 + b4 s a, 0) := by unfold tText; rw [if_pos h, ep, if_pos rfl]
      have w1 : IntKind.i64.wrap (a + 4 + b4 s a) = a + 4 + b4 s a := w64 (by omega) (by omega)
      have q1 : 0 ≤ a + 4 ∧ a + 4 ≤ a + 4 + b4 s a ∧ a + 4 + b4 s a ≤ (s.size : Int) := by omega
      simp [k4, w0, h2, w1, q1, hb]
      exact ⟨rfl, .plain (by simp) (by simp [e])⟩
  · have e : tText s a = (⟨#[]⟩, a, (tNum s a).2.2) := by unfold tText; rw [if_neg h]
    simp [h]
    exact ⟨rfl, .plain (by simp) (by simp [e, h])⟩
def reftl_inv (s : ByteArray) (a k : Int) (m : Nat) (st : St) : Prop := ∃ (i : Nat) (b : Int) (out : List ByteArray), m = k.toNat - i ∧ i ≤ k.toNat ∧ out.length = i ∧ tTexts s k.toNat (a + 4) [] = tTexts s (k.toNat - i) b out ∧
  ((i = 0 ∧ st = ⟨48, [(9, .val (.int .i64 i)), (8, .val (.slice none 0 0)), (6, .ref 80 2 0 0), (5, .val (.int .i64 k)), (3, .ref 72 2 0 0), (1, .ref 64 2 0 0)], [(64, curO s a), (72, curO ⟨#[]⟩ 0), (80, curO s b)], 88⟩) ∨
   (0 < i ∧ st = ⟨48, [(9, .val (.int .i64 i)), (8, .sl 88 1 0 i), (6, .ref 80 2 0 0), (5, .val (.int .i64 k)), (3, .ref 72 2 0 0), (1, .ref 64 2 0 0)], [(64, curO s a), (72, curO ⟨#[]⟩ 0), (80, curO s b), (88, ⟨9, 1, strs out, .cells⟩)], 96⟩))
theorem refTakeList_call (s : ByteArray) (a : Int) : CallOk Tryz.prog 37 [curP s a] [] (.tup [.rd 1 (strs (tList s a).1), curP s (tList s a).2.1, eN (tList s a).2.2]) [] := by
  refine .of_exec Tryz.func37 rfl (enters_37) rfl rfl (Nat.le_of_ble_eq_true rfl) (fun n _ => rfl) ?_
  simp
  refine .plain (refTakeNumber_call s a) (by simp) (by simp) ?_
  by_cases h : (tNum s a).2.2 = 0
  · obtain ⟨k1, k2, k3, k4⟩ := tNum_ok h
    have hb := b4_range s a
    by_cases h2 : 1000 < b4 s a
    · have e : tList s a = ([], a, 13) := by unfold tList; rw [if_pos h, if_pos h2]
      simp [k4, h2]
      exact ⟨rfl, .wk _ (Wk.nilRd 1 [(2, .rd 1 []), (3, .ref 80 2 0 0), (4, .val (.int .i64 13))] (by simp)) (by simp) (by simp [e, strs_nil])⟩
    · obtain ⟨n, hn⟩ : ∃ n : Nat, b4 s a = n := ⟨(b4 s a).toNat, by omega⟩
      have hn1 : n ≤ 1000 := by omega
      have eL : tList s a = if (tTexts s n (a + 4) []).2.2 = 0 then tTexts s n (a + 4) [] else ([], a, (tTexts s n (a + 4) []).2.2) := by
        unfold tList
        rw [if_pos h, if_neg h2, hn, Int.toNat_natCast]
      have m1 : 1 ≤ maxLen := by decide
      rw [hn] at h2 k4
      have h2' : ¬ 1000 < n := by omega
      simp [k4, h2, h2', hn]
      refine WPg.loopW (reftl_inv s a n) ⟨n, _, ?_, ⟨0, a + 4, [], by simp, by simp, by simp, by simp, .inl ⟨rfl, rfl⟩⟩⟩ ?_
      · exact Wk.rn [(64, 64), (80, 72), (144, 80)] rfl (by simp) (by simp) (by simp)
      rintro m st ⟨i, b, out, g1, g2, g3, g4, g5⟩
      rw [Int.toNat_natCast] at g1 g2 g4
      by_cases hi : i < n
      · have hi' : (i : Int) < n := by omega
        have hw : IntKind.i64.wrap ((i : Int) + 1) = ((i + 1 : Nat) : Int) := by rw [w64 (by omega) (by omega)]; omega
        have hsp : n - i = (n - (i + 1)) + 1 := by omega
        rw [hsp, tTexts] at g4
        have hT := refTakeText_call s b
        have h16 : i ≤ 140737488355327 ∧ (i + 1) * 16 ≤ 140737488355328 := by omega
        generalize tText s b = T at *
        obtain ⟨x, b', e'⟩ := T
        simp only at g4 hT
        by_cases c : e' = 0
        · subst c
          rw [if_pos rfl] at g4
          rcases g5 with ⟨g6, rfl⟩ | ⟨g6, rfl⟩
          · have ho : out = [] := List.eq_nil_of_length_eq_zero (by omega)
            subst ho
            subst g6
            have hn0 : 0 < n := hi
            simp [hn0]
            refine .plain hT (by simp) (by simp) ?_
            simp [m1]
            refine ⟨n - 1, by omega, _, ?_, ⟨1, b', [x], by simp, by simp; omega, rfl, by simpa using g4, .inr ⟨by omega, rfl⟩⟩⟩
            have hw2 : IntKind.i64.wrap 1 = 1 := rfl
            exact Wk.rn [(64, 64), (72, 72), (80, 80), (232, 88)] rfl (by simp) (by simp [hw2]) (by simp; rfl)
          · have ht : out.take i = out := List.take_of_length_le (by omega)
            simp [hi']
            refine .plain hT (by simp) (by simp) ?_
            simp [m1, g3, h16]
            refine ⟨n - (i + 1), by omega, _, ?_, ⟨i + 1, b', out ++ [x], by simp, by simp; omega, by simp [g3], by simpa using g4, .inr ⟨by omega, rfl⟩⟩⟩
            rw [hw]
            exact Wk.rn [(64, 64), (72, 72), (80, 80), (240, 88)] rfl (by simp) (by simp) (by simp [ht])
        · rw [if_neg c] at g4
          have e : tList s a = ([], a, e') := by rw [eL, g4, if_neg c]
          rcases g5 with ⟨g6, rfl⟩ | ⟨g6, rfl⟩
          · simp [hi']
            refine .plain hT (by simp) (by simp) ?_
            simp [c]
            exact ⟨rfl, .wk _ (Wk.nilRd 1 [(2, .rd 1 []), (3, .ref 72 2 0 0), (4, .val (.int .i64 e'))] (by simp)) (by simp) (by simp [e, strs_nil])⟩
          · simp [hi']
            refine .plain hT (by simp) (by simp) ?_
            simp [c]
            exact ⟨rfl, .wk _ (Wk.nilRd 1 [(2, .rd 1 []), (3, .ref 72 2 0 0), (4, .val (.int .i64 e'))] (by simp)) (by simp) (by simp [e, strs_nil])⟩
      · obtain rfl : i = n := by omega
        rw [Nat.sub_self, tTexts] at g4
        have e : tList s a = (out, b, 0) := by rw [eL, g4, if_pos rfl]
        rcases g5 with ⟨g6, rfl⟩ | ⟨g6, rfl⟩
        · have ho : out = [] := List.eq_nil_of_length_eq_zero (by omega)
          subst ho
          simp
          exact ⟨rfl, .wk _ (Wk.nilRd 1 [(2, .rd 1 []), (3, .ref 72 2 0 0), (4, .val (.int .i64 0))] (by simp)) (by simp) (by simp [e, strs_nil])⟩
        · have ht : out.take i = out := List.take_of_length_le (by omega)
          simp
          exact ⟨rfl, .frz [88] [2, 3, 4] (by simp [g3]) (by simp [g3]) (by simp [g3]) (by simp [g3]) (by simp [e, g3, ht])⟩
  · have e : tList s a = ([], a, (tNum s a).2.2) := by unfold tList; rw [if_neg h]
    simp [h]
    exact ⟨rfl, .wk _ (Wk.nilRd 1 [(2, .rd 1 []), (3, .ref 80 2 0 0), (4, .val (.int .i64 (tNum s a).2.2))] (by simp)) (by simp) (by simp [e, strs_nil])⟩
end Go.Proofs.YtidaedchmjlbfaaGreat.Sy
