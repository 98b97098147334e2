/- Layer 12: Put. -/
import Derived.Test.YthijmjglpcljcaaB12j
namespace Go.Proofs.Ythijmjglpcljcaa.Sy
open Go Go.RowKit
set_option linter.unusedVariables false
set_option linter.unusedSimpArgs false
set_option maxRecDepth 10000
set_option maxHeartbeats 4000000
theorem put_bad {s : Sto} {lab cell : ByteArray} (h : (rightB s && decide ((lab.size : Int) = 16) && decide ((cell.size : Int) = 40)) = false) : putS s lab cell = (s, 1) := by
  unfold putS; rw [h]; rfl
/-- What set needs of the store that it is given. -/
theorem more_set {s : Sto} (h : RightI s) {lab cell : ByteArray} (hl : lab.size = 16) (hc : cell.size = 40) (hn : roomy s = true ∨ sizeB (wideN s) = true) (g : (findB s.bs lab).1 = -1) :
    ∃ k : Nat, k < (moreS s).bs.length ∧ (findB (moreS s).bs lab).2 = k ∧ (moreS s).bs.length ≤ 4096 ∧ small (moreS s).many ∧ small (moreS s).gone ∧ 0 < (moreS s).bs.length ∧ RightI (setS (moreS s) lab cell) ∧
      (∀ l c, inB (setS (moreS s) lab cell).bs l c ↔ (l = lab ∧ c = cell) ∨ inB s.bs l c) ∧ (setS (moreS s) lab cell).many = s.many + 1 := by
  obtain ⟨h1, h2, h3, h4, h5⟩ := more_ok h hn
  have hs := right_small h
  have hsz := size_le h1.size
  have hnew : ∀ c, ¬ inB (moreS s).bs lab c := by
    intro c hin
    obtain ⟨j, j1, j2, j3, j4⟩ := (h3 _ _).1 hin
    have := find_of h.path h.dist j1 j2
    rw [j3] at this
    omega
  have hm := h1.many
  have hg := h1.gone
  have hu : usedN (moreS s).bs < (moreS s).bs.length := by omega
  obtain ⟨k, k1, k2, k3, k4, k5, k6, k7, k8⟩ := set_ok (cell := cell) h1 hl hc hnew hu
  have hle := goneN_le (moreS s).bs
  refine ⟨k, k1, k2, by omega, ⟨by omega, by omega⟩, ⟨by omega, by omega⟩, by omega, k4.full ?_, fun l c => ?_, by omega⟩
  · rw [k5, k6]; omega
  · rw [k7, h3]
theorem put_call (s : Sto) (lab cell : ByteArray) (hl : s.bs.length < 1000000) : CallOk Try.prog 25 [stoP s, .val (.string lab), .val (.string cell)] [] (.tup [stoP (putS s lab cell).1, eI (putS s lab cell).2]) [] := by
  refine .of_exec Try.func25 rfl (enters_25) rfl rfl (Nat.le_of_ble_eq_true rfl) (fun n _ => rfl) ?_
  simp
  refine .plain (right_call s (by omega)) (by simp) (by simp) ?_
  cases h : (rightB s && decide ((lab.size : Int) = 16) && decide ((cell.size : Int) = 40)) with
  | false =>
    have hb := put_bad h
    have h' : (!rightB s || !decide ((lab.size : Int) = 16) || !decide ((cell.size : Int) = 40)) = true := by
      revert h
      cases rightB s <;> cases decide ((lab.size : Int) = 16) <;> cases decide ((cell.size : Int) = 40) <;> simp
    simp [h']
    refine .plain (own_call hl) (by simp) (by simp) ?_
    simp
    exact .plain (by simp) (by simp [hb])
  | true =>
    have h' := h
    simp only [Bool.and_eq_true, decide_eq_true_eq] at h
    obtain ⟨⟨hr, hlab⟩, hcell⟩ := h
    simp [hr, hlab, hcell]
    refine .plain (find_call s lab (by omega)) (by simp) (by simp) ?_
    have hp := (right_iff s).1 hr
    have hs := right_small hp
    have hne : s.bs ≠ [] := by intro e; rw [e] at hs; simp at hs
    rcases find_mem hp.path hp.dist lab (size_pos hp.size) with ⟨g, _⟩ | ⟨k, g1, g2, g3, g4⟩
    · cases hn : (roomy s || sizeB (wideN s)) with
      | true =>
        have hn' : roomy s = true ∨ sizeB (wideN s) = true := by simpa using hn
        have he : putS s lab cell = (setS (moreS s) lab cell, 0) := by unfold putS; rw [if_pos h', if_pos g, if_pos hn]
        obtain ⟨k, k1, k2, k3, k4, k5, k6, _⟩ := more_set (cell := cell) hp (by omega) (by omega) hn' g
        have hmne : (moreS s).bs ≠ [] := by intro e; rw [e] at k6; simp at k6
        simp [g]
        refine callK.own [] [] (wider_own hp hn') (by simp) (by simp) (by simp) (by simp) (by simp) (by simp) (by simp) (by simp) (by simp) (by simp) ?_
        simp
        refine callK.own [] [(280, 0)] (set_own (s := moreS s) (k := k) (cell := cell) (by omega) k4 k5 k1 k2) (by simp) (by simp) (by simp) (by simp) (by simp) (by simp [hmne]) (by simp) (by simp) (by simp) (by simp) ?_
        simp
        have ht : List.take (moreS s).bs.length (setS (moreS s) lab cell).bs = (setS (moreS s) lab cell).bs := List.take_of_length_le (by simp)
        exact .frz [280] [6, 7] (by simp) (by simp) (by simp) (by simp) (by simp [he, ht])
      | false =>
        have hn' : roomy s = false ∧ sizeB (wideN s) = false := by simpa using hn
        have he : putS s lab cell = (s, 20) := by unfold putS; rw [if_pos h', if_pos g, if_neg (by rw [hn]; simp)]
        simp [g]
        refine .plain (wider_no hp hn'.1 hn'.2) (by simp) (by simp) ?_
        simp
        refine .plain (own_call hl) (by simp) (by simp) ?_
        simp
        exact .plain (by simp) (by simp [he])
    · have g1' : (k : Int) < s.bs.length := by omega
      have g5 : (k : Int) ≠ -1 := by omega
      have he : putS s lab cell = (⟨s.bs.set k { atB s.bs k with cell := cell }, s.many, s.gone⟩, 0) := by unfold putS; rw [if_pos h', if_neg (by rw [g2]; exact g5), g2]; rfl
      rw [atB_get g1] at he
      simp [g2, g1, g1', g5, rowB]
      refine callK.own [] [] (own_own hne hl) (by simp) (by simp) (by simp) (by simp) (by simp) (by simp) (by simp) (by simp) (by simp) (by simp) ?_
      simp [g1, g1', rowB]
      exact .frz [280] [6, 7] (by simp) (by simp) (by simp) (by simp) (by simp [he])
theorem size_double {n : Nat} (h : sizeB n = true) : sizeB (2 * n : Nat) = decide ((2 * n : Nat) ≤ 4096) := by
  simp only [sizeB, List.mem_cons, List.not_mem_nil, or_false, decide_eq_true_eq] at h ⊢
  rw [decide_eq_decide]
  omega
def refput_inv (s : Sto) (lab cell : ByteArray) (m : Nat) (st : St) : Prop := ∃ i : Nat, m = s.bs.length - i ∧ i ≤ s.bs.length ∧
  st = ⟨104, [(12, .val (.int .i64 i)), (8, .ref 80 3 0 0), (3, .ref 64 3 0 0), (6, .ref 72 3 0 0), (1, .val (.string lab)), (2, .val (.string cell))],
    [(64, ⟨31, 3, [[.rd 3 (rowsB s.bs), .val (.int .i64 s.many), .val (.int .i64 s.gone)]], .cells⟩), (72, ⟨31, 3, [[.val (.slice none 0 0), .val (.int .i64 0), .val (.int .i64 0)]], .cells⟩), (80, ⟨31, 3, [[.sl 88 3 0 (partS s i).bs.length, .val (.int .i64 (partS s i).many), .val (.int .i64 (partS s i).gone)]], .cells⟩), (88, ⟨25, 3, rowsB (partS s i).bs, .cells⟩)], 96⟩
theorem refput_call (s : Sto) (lab cell : ByteArray) (hl : s.bs.length < 1000000) : CallOk Try.prog 26 [stoP s, .val (.string lab), .val (.string cell)] [] (.tup [stoP (putS s lab cell).1, eI (putS s lab cell).2]) [] := by
  refine .of_exec Try.func26 rfl (enters_26) rfl rfl (Nat.le_of_ble_eq_true rfl) (fun n _ => rfl) ?_
  simp
  refine callK.own [] [] (refown_own hl) (by simp) (by simp) (by simp) (by simp) (by simp) (by simp) (by simp) (by simp) (by simp) (by simp) ?_
  simp
  refine .plain (refright_call s (by omega)) (by simp) (by simp) ?_
  cases h : (rightB s && decide ((lab.size : Int) = 16) && decide ((cell.size : Int) = 40)) with
  | false =>
    have hb := put_bad h
    have h' : (!rightB s || !decide ((lab.size : Int) = 16) || !decide ((cell.size : Int) = 40)) = true := by
      revert h
      cases rightB s <;> cases decide ((lab.size : Int) = 16) <;> cases decide ((cell.size : Int) = 40) <;> simp
    simp [h']
    exact .frz [96] [6, 7] (by simp) (by simp) (by simp) (by simp) (by simp [hb])
  | true =>
    have h' := h
    simp only [Bool.and_eq_true, decide_eq_true_eq] at h
    obtain ⟨⟨hr, hlab⟩, hcell⟩ := h
    simp [hr, hlab, hcell]
    refine .plain (reffind_call s lab (by omega)) (by simp) (by simp) ?_
    have hp := (right_iff s).1 hr
    have hs := right_small hp
    have hne : s.bs ≠ [] := by intro e; rw [e] at hs; simp at hs
    rcases find_mem hp.path hp.dist lab (size_pos hp.size) with ⟨g, _⟩ | ⟨k, g1, g2, g3, g4⟩
    · have w1 : IntKind.i64.wrap (s.many + s.gone) = s.many + s.gone := w64 (by omega) (by omega)
      have w2 : IntKind.i64.wrap (s.many + s.gone + 1) = s.many + s.gone + 1 := w64 (by omega) (by omega)
      have w3 : IntKind.i64.wrap (4 * (s.many + s.gone + 1)) = 4 * (s.many + s.gone + 1) := w64 (by omega) (by omega)
      have w4 : IntKind.i64.wrap (3 * (s.bs.length : Int)) = 3 * s.bs.length := w64 (by omega) (by omega)
      have w5 : IntKind.i64.wrap (2 * s.many) = 2 * s.many := w64 (by omega) (by omega)
      by_cases c : roomy s = true
      · have c' : ¬ 3 * (s.bs.length : Int) < 4 * (s.many + s.gone + 1) := by
          have : 4 * (s.many + s.gone + 1) ≤ 3 * (s.bs.length : Int) := by simpa [roomy] using c
          omega
        have hn' : roomy s = true ∨ sizeB (wideN s) = true := .inl c
        have he : putS s lab cell = (setS (moreS s) lab cell, 0) := by unfold putS; rw [if_pos h', if_pos g, if_pos (by rw [c]; rfl)]
        obtain ⟨k, k1, k2, k3, k4, k5, k6, _⟩ := more_set (cell := cell) hp (by omega) (by omega) hn' g
        have em : moreS s = s := if_pos c
        rw [em] at k1 k2 k3 k4 k5 he
        simp [g, w1, w2, w3, w4, c']
        refine callK.own [] [(96, 0)] (refset_own (s := s) (k := k) (cell := cell) (by omega) k4 k5 k1 k2) (by simp) (by simp) (by simp) (by simp) (by simp) (by simp [hne]) (by simp) (by simp) (by simp) (by simp) ?_
        simp
        have ht : List.take s.bs.length (setS s lab cell).bs = (setS s lab cell).bs := List.take_of_length_le (by simp)
        exact .frz [96] [6, 7] (by simp) (by simp) (by simp) (by simp) (by simp [he, ht])
      · have c' : 3 * (s.bs.length : Int) < 4 * (s.many + s.gone + 1) := by
          have : ¬ 4 * (s.many + s.gone + 1) ≤ 3 * (s.bs.length : Int) := by simpa [roomy] using c
          omega
        by_cases c2 : 2 * s.many ≥ s.bs.length
        · have e : wideN s = 2 * s.bs.length := if_pos c2
          have w6 : IntKind.i64.wrap (2 * (s.bs.length : Int)) = wideN s := by rw [w64 (by omega) (by omega)]; omega
          have hd := size_double hp.size
          rw [← e] at hd
          by_cases c3 : wideN s ≤ 4096
          · have c3' : ¬ (4096 : Int) < wideN s := by omega
            have hn' : sizeB (wideN s) = true := by rw [hd]; simpa using c3
            simp [g, w1, w2, w3, w4, w5, w6, c', c2, c3']
            refine callK.own [] [] (refnew_own hn') (by simp) (by simp) (by simp) (by simp) (by simp) (by simp) (by simp) (by simp) (by simp) (by simp) ?_
            simp
            refine WPg.loopW (refput_inv s lab cell) ⟨s.bs.length, _, ?_, ⟨0, by simp, by simp, rfl⟩⟩ ?_
            · exact Wk.rn [(64, 64), (72, 72), (104, 80), (504, 88)] rfl (by simp) (by simp) (by simp [refillS, e])
            rintro m st ⟨i, g1, g2, rfl⟩
            by_cases hi : i < s.bs.length
            · have hi' : (i : Int) < s.bs.length := by omega
              have hw : IntKind.i64.wrap ((i : Int) + 1) = ((i + 1 : Nat) : Int) := by rw [w64 (by omega) (by omega)]; omega
              obtain ⟨f1, f2, f3, f4, f5, f6⟩ := refill_ok hp hn' (wide_le hp) (i + 1) (by omega)
              obtain ⟨k1, k2, k3, k4, _⟩ := refill_ok hp hn' (wide_le hp) i (by omega)
              have hle := usedN_le (s.bs.take i)
              rw [List.length_take] at hle
              have hsz := size_le hn'
              have k2' : (partS s i).bs.length = wideN s := k2
              have k3' : (partS s i).many = usedN (s.bs.take i) := k3
              have k4' : (partS s i).gone = 0 := k4
              have kne : (partS s i).bs ≠ [] := by intro e'; rw [e'] at k2'; simp at k2'; omega
              have hb := atB_get hi
              by_cases c1 : (atB s.bs i).st = 1
              · obtain ⟨k, r1, r2⟩ := f6 i (by omega) c1
                have r3 := refill_succ (t := freshS (wideN s)) hi
                rw [if_pos c1] at r3
                rw [hb] at c1 r2 r3
                simp [hi, hi', rowB, c1]
                refine callT.own [] [(88, 0)] (refset_own (s := partS s i) (k := k) (cell := s.bs[i].cell) (by omega) ⟨by omega, by omega⟩ ⟨by omega, by omega⟩ (by omega) r2) (by simp) (by simp) (by simp) (by simp) (by simp) (by simp [kne]) (by simp) (by simp) (by simp) (by simp) ?_
                simp
                refine ⟨rfl, s.bs.length - (i + 1), by omega, _, ?_, ⟨i + 1, rfl, by omega, rfl⟩⟩
                rw [hw]
                exact Wk.rn [(64, 64), (72, 72), (80, 80), (88, 88)] rfl (by simp) (by simp) (by simp [r3])
              · have r3 := refill_succ (t := freshS (wideN s)) hi
                rw [if_neg c1] at r3
                rw [hb] at c1
                simp [hi, hi', rowB, c1]
                refine ⟨s.bs.length - (i + 1), by omega, _, ?_, ⟨i + 1, rfl, by omega, rfl⟩⟩
                rw [hw]
                exact Wk.rn [(64, 64), (72, 72), (80, 80), (88, 88)] rfl (by simp) (by simp) (by simp [r3])
            · obtain rfl : i = s.bs.length := by omega
              have pa : partS s s.bs.length = moreS s := by unfold moreS partS wideS; rw [if_neg c, List.take_length]
              have he : putS s lab cell = (setS (moreS s) lab cell, 0) := by unfold putS; rw [if_pos h', if_pos g, if_pos (by rw [hn']; simp)]
              obtain ⟨k, k1, k2, k3, k4, k5, k6, _⟩ := more_set (cell := cell) hp (by omega) (by omega) (.inr hn') g
              have hmne : (moreS s).bs ≠ [] := by intro e; rw [e] at k6; simp at k6
              have ht : List.take (moreS s).bs.length (setS (moreS s) lab cell).bs = (setS (moreS s) lab cell).bs := List.take_of_length_le (by simp)
              rw [pa]
              simp
              refine callK.own [] [(88, 0)] (refset_own (s := moreS s) (k := k) (cell := cell) (by omega) k4 k5 k1 k2) (by simp) (by simp) (by simp) (by simp) (by simp) (by simp [hmne]) (by simp) (by simp) (by simp) (by simp) ?_
              simp
              exact .frz [88] [6, 7] (by simp) (by simp) (by simp) (by simp) (by simp [he, ht])
          · have c3' : (4096 : Int) < wideN s := by omega
            have hn' : (roomy s || sizeB (wideN s)) = false := by rw [hd]; simp [c, c3]
            have he : putS s lab cell = (s, 20) := by unfold putS; rw [if_pos h', if_pos g, if_neg (by rw [hn']; simp)]
            simp [g, w1, w2, w3, w4, w5, w6, c', c2, c3']
            exact .frz [96] [6, 7] (by simp) (by simp) (by simp) (by simp) (by simp [he])
        · have e : wideN s = s.bs.length := if_neg c2
          have c3' : ¬ (4096 : Int) < s.bs.length := by omega
          have hn2 := hp.size
          simp [g, w1, w2, w3, w4, w5, c', c2, c3']
          refine callK.own [] [] (refnew_own hn2) (by simp) (by simp) (by simp) (by simp) (by simp) (by simp) (by simp) (by simp) (by simp) (by simp) ?_
          have hn' : sizeB (wideN s) = true := by rw [e]; exact hn2
          simp
          refine WPg.loopW (refput_inv s lab cell) ⟨s.bs.length, _, ?_, ⟨0, by simp, by simp, rfl⟩⟩ ?_
          · exact Wk.rn [(64, 64), (72, 72), (104, 80), (480, 88)] rfl (by simp) (by simp) (by simp [refillS, e])
          rintro m st ⟨i, g1, g2, rfl⟩
          by_cases hi : i < s.bs.length
          · have hi' : (i : Int) < s.bs.length := by omega
            have hw : IntKind.i64.wrap ((i : Int) + 1) = ((i + 1 : Nat) : Int) := by rw [w64 (by omega) (by omega)]; omega
            obtain ⟨f1, f2, f3, f4, f5, f6⟩ := refill_ok hp hn' (wide_le hp) (i + 1) (by omega)
            obtain ⟨k1, k2, k3, k4, _⟩ := refill_ok hp hn' (wide_le hp) i (by omega)
            have hle := usedN_le (s.bs.take i)
            rw [List.length_take] at hle
            have hsz := size_le hn'
            have k2' : (partS s i).bs.length = wideN s := k2
            have k3' : (partS s i).many = usedN (s.bs.take i) := k3
            have k4' : (partS s i).gone = 0 := k4
            have kne : (partS s i).bs ≠ [] := by intro e'; rw [e'] at k2'; simp at k2'; omega
            have hb := atB_get hi
            by_cases c1 : (atB s.bs i).st = 1
            · obtain ⟨k, r1, r2⟩ := f6 i (by omega) c1
              have r3 := refill_succ (t := freshS (wideN s)) hi
              rw [if_pos c1] at r3
              rw [hb] at c1 r2 r3
              simp [hi, hi', rowB, c1]
              refine callT.own [] [(88, 0)] (refset_own (s := partS s i) (k := k) (cell := s.bs[i].cell) (by omega) ⟨by omega, by omega⟩ ⟨by omega, by omega⟩ (by omega) r2) (by simp) (by simp) (by simp) (by simp) (by simp) (by simp [kne]) (by simp) (by simp) (by simp) (by simp) ?_
              simp
              refine ⟨rfl, s.bs.length - (i + 1), by omega, _, ?_, ⟨i + 1, rfl, by omega, rfl⟩⟩
              rw [hw]
              exact Wk.rn [(64, 64), (72, 72), (80, 80), (88, 88)] rfl (by simp) (by simp) (by simp [r3])
            · have r3 := refill_succ (t := freshS (wideN s)) hi
              rw [if_neg c1] at r3
              rw [hb] at c1
              simp [hi, hi', rowB, c1]
              refine ⟨s.bs.length - (i + 1), by omega, _, ?_, ⟨i + 1, rfl, by omega, rfl⟩⟩
              rw [hw]
              exact Wk.rn [(64, 64), (72, 72), (80, 80), (88, 88)] rfl (by simp) (by simp) (by simp [r3])
          · obtain rfl : i = s.bs.length := by omega
            have pa : partS s s.bs.length = moreS s := by unfold moreS partS wideS; rw [if_neg c, List.take_length]
            have he : putS s lab cell = (setS (moreS s) lab cell, 0) := by unfold putS; rw [if_pos h', if_pos g, if_pos (by rw [hn']; simp)]
            obtain ⟨k, k1, k2, k3, k4, k5, k6, _⟩ := more_set (cell := cell) hp (by omega) (by omega) (.inr hn') g
            have hmne : (moreS s).bs ≠ [] := by intro e; rw [e] at k6; simp at k6
            have ht : List.take (moreS s).bs.length (setS (moreS s) lab cell).bs = (setS (moreS s) lab cell).bs := List.take_of_length_le (by simp)
            rw [pa]
            simp
            refine callK.own [] [(88, 0)] (refset_own (s := moreS s) (k := k) (cell := cell) (by omega) k4 k5 k1 k2) (by simp) (by simp) (by simp) (by simp) (by simp) (by simp [hmne]) (by simp) (by simp) (by simp) (by simp) ?_
            simp
            exact .frz [88] [6, 7] (by simp) (by simp) (by simp) (by simp) (by simp [he, ht])
    · have g1' : (k : Int) < s.bs.length := by omega
      have g5 : (k : Int) ≠ -1 := by omega
      have he : putS s lab cell = (⟨s.bs.set k { atB s.bs k with cell := cell }, s.many, s.gone⟩, 0) := by unfold putS; rw [if_pos h', if_neg (by rw [g2]; exact g5), g2]; rfl
      rw [atB_get g1] at he
      simp [g2, g1, g1', g5, rowB]
      exact .frz [96] [6, 7] (by simp) (by simp) (by simp) (by simp) (by simp [he])
end Go.Proofs.Ythijmjglpcljcaa.Sy
