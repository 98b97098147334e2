/- Layer 13: the law ServerTells. -/
import Derived.Test.YtbigcojlpcchiaaGreatC13y
import Derived.Test.YtbigcojlpcchiaaGreatC11op
namespace Go.Proofs.YtbigcojlpcchiaaGreat.Sy
open Go Go.RowKit
set_option linter.unusedVariables false
set_option linter.unusedSimpArgs false
set_option maxRecDepth 10000
set_option maxHeartbeats 16000000
open Bk (Sto rowsB stoP putS getS delS RightI inB)
abbrev rowQ (q : ReqV) : List PV := [.val (.int .i64 q.k), .rd 1 (strs q.ls), .rd 1 (strs q.cs)]
def rowsQ (l : List ReqV) : List (List PV) := l.map rowQ
@[simp] theorem rowsQ_length (l : List ReqV) : (rowsQ l).length = l.length := by simp [rowsQ]
@[simp] theorem rowsQ_get {l : List ReqV} {i : Nat} (h : i < (rowsQ l).length) : (rowsQ l)[i] = rowQ (l[i]'(by simpa using h)) := by simp [rowsQ]
def rowsW (l : List (Sto × Int)) : List (List PV) := l.map fun p => rowS p.1 p.2
@[simp] theorem rowsW_length (l : List (Sto × Int)) : (rowsW l).length = l.length := by simp [rowsW]
@[simp] theorem rowsW_get {l : List (Sto × Int)} {i : Nat} (h : i < (rowsW l).length) : (rowsW l)[i] = rowS (l[i]'(by simpa using h)).1 (l[i]'(by simpa using h)).2 := by simp [rowsW]
structure TellT where
  limit : Int
  raw : List (List Int)
  next : List Int
  q : ReqV
  any : ByteArray
  o : Int × Int
def TellT.ok (t : TellT) : Prop := isI64 t.limit ∧ rawOk t.raw ∧ (t.next.length ≤ maxLen ∧ ∀ n ∈ t.next, isI64 n) ∧ t.q.ok ∧ t.any.size ≤ maxLen ∧ (isI64 t.o.1 ∧ isI64 t.o.2)
abbrev arr2O (a b : Int) : Ob := ⟨27, 2, [[.val (.int .i64 a), .val (.int .i64 b)]], .cells⟩
def tt_one (t : TellT) (st : St) : Prop :=
  st = ⟨177, [(13, .val (.bool true)), (11, .ref 72 2 0 0), (9, .ref 64 3 0 0), (4, .val (.string t.any)), (2, .rd 1 (rowsJ t.next)), (1, .rd 1 (rowsRR t.raw)), (0, .val (.int .i64 t.limit))],
    [(64, ⟨26, 3, [rowQ t.q], .cells⟩), (72, arr2O t.o.1 t.o.2)], 80⟩
def tt_three (t : TellT) (s : Sto) (l : Int) (z : Sto) (zl : Int) (st : St) : Prop :=
  st = ⟨177, [(19, .ref 88 4 0 0), (18, .ref 80 4 0 0), (13, .val (.bool true)), (11, .ref 72 2 0 0), (9, .ref 64 3 0 0), (4, .val (.string t.any)), (2, .rd 1 (rowsJ t.next))],
    [(64, ⟨26, 3, [rowQ t.q], .cells⟩), (72, arr2O t.o.1 t.o.2), (80, srvO s l), (88, srvO z zl)], 96⟩
def tt_w (t : TellT) (W : List (Sto × Int)) (m : Nat) (st : St) : Prop := ∃ i : Nat, m = W.length - i ∧ i ≤ W.length ∧
  st = ⟨177, [(86, .val (.int .i64 i)), (85, .val (.int .i64 W.length)), (84, .rd 4 (rowsW W)), (13, .val (.bool true)), (11, .ref 72 2 0 0), (9, .ref 64 3 0 0), (4, .val (.string t.any)), (2, .rd 1 (rowsJ t.next))],
    [(64, ⟨26, 3, [rowQ t.q], .cells⟩), (72, arr2O t.o.1 t.o.2)], 80⟩
def tt_q (t : TellT) (W : List (Sto × Int)) (i : Nat) (s : Sto) (l : Int) (Q : List ReqV) (m : Nat) (st : St) : Prop := ∃ j : Nat, m = Q.length - j ∧ j ≤ Q.length ∧
  st = ⟨177, [(100, .val (.int .i64 j)), (99, .val (.int .i64 Q.length)), (98, .rd 3 (rowsQ Q)), (21, .ref 80 4 0 0), (86, .val (.int .i64 i)), (85, .val (.int .i64 W.length)), (84, .rd 4 (rowsW W)), (13, .val (.bool true)), (11, .ref 72 2 0 0), (9, .ref 64 3 0 0), (4, .val (.string t.any)), (2, .rd 1 (rowsJ t.next))],
    [(64, ⟨26, 3, [rowQ t.q], .cells⟩), (72, arr2O t.o.1 t.o.2), (80, srvO s l)], 88⟩
def tt_b (t : TellT) (W : List (Sto × Int)) (i : Nat) (s : Sto) (l : Int) (Y : List ByteArray) (m : Nat) (st : St) : Prop := ∃ j : Nat, m = Y.length - j ∧ j ≤ Y.length ∧
  st = ⟨177, [(149, .val (.int .i64 j)), (148, .val (.int .i64 Y.length)), (147, .rd 1 (strs Y)), (21, .ref 80 4 0 0), (86, .val (.int .i64 i)), (85, .val (.int .i64 W.length)), (84, .rd 4 (rowsW W)), (13, .val (.bool true)), (11, .ref 72 2 0 0), (9, .ref 64 3 0 0), (4, .val (.string t.any)), (2, .rd 1 (rowsJ t.next))],
    [(64, ⟨26, 3, [rowQ t.q], .cells⟩), (72, arr2O t.o.1 t.o.2), (80, srvO s l)], 88⟩
def tt_mid (t : TellT) (st : St) : Prop := ∃ (s : Sto) (l : Int) (z : Sto) (zl : Int), (s.bs.length < 1000000 ∧ z.bs.length < 1000000) ∧ tt_three t s l z zl st
theorem stells_call (t : TellT) (ht : t.ok) :
    CallOk Tryz.prog 3 [.val (.int .i64 t.limit), .rd 1 (rowsRR t.raw), .rd 1 (rowsJ t.next), .agg (rowQ t.q), .val (.string t.any), .agg [.val (.int .i64 t.o.1), .val (.int .i64 t.o.2)]] [] (.val (.bool true)) [] := by
  refine .of_run Tryz.func3 rfl (enters_3) rfl rfl (Nat.le_of_ble_eq_true rfl) (fun n _ => rfl) ?_
  obtain ⟨hl, hr, hn, hq, hany, ho1, ho2⟩ := ht
  have m2 : 2 ≤ maxLen := by decide
  have m3 : 3 ≤ maxLen := by decide
  refine WPg.cutW [0, 1, 2] (fun st => (t.q.ls.length ≤ 20 ∧ t.q.cs.length ≤ 20) ∧ tt_one t st) ?_ ?_
  · simp
    refine .plain awake13_call (by simp) (by simp) ?_
    by_cases c1 : t.q.ls.length ≤ 20 ∧ t.q.cs.length ≤ 20
    · have d1 : ¬ 20 < (t.q.ls.length : Int) := by omega
      have d2 : ¬ 20 < (t.q.cs.length : Int) := by omega
      simp [d1, d2]
      refine ⟨_, ?_, c1, rfl⟩
      exact Wk.rn [(64, 64), (72, 72)] rfl (by simp) (by simp) (by simp)
    · have d : 20 < (t.q.ls.length : Int) ∨ (¬ 20 < (t.q.ls.length : Int) ∧ 20 < (t.q.cs.length : Int)) := by omega
      rcases d with d | ⟨d, d'⟩
      · simp [d]
        exact .plain (by simp) (by simp)
      · simp [d, d']
        exact .plain (by simp) (by simp)
  rintro st ⟨⟨b1, b2⟩, rfl⟩
  dsimp only [tailC]
  refine WPg.cutW [3, 4, 5] (tt_one t) ?_ ?_
  · have c1 := snew_call t.limit
    have c2 := refsnew_call t.limit
    have hx : (newV t.limit).1.bs.length < 1000000 := by unfold newV; split <;> simp
    generalize newV t.limit = N at *
    obtain ⟨s, l, e⟩ := N
    simp only at c1 c2 hx
    simp
    refine .plain c1 (by simp) (by simp) ?_
    simp
    refine .plain c2 (by simp) (by simp) ?_
    simp
    refine .plain (ssame_call hx) (by simp) (by simp) ?_
    simp
    refine ⟨_, ?_, rfl⟩
    exact Wk.rn [(64, 64), (72, 72)] rfl (by simp) (by simp) (by simp)
  rintro st rfl
  dsimp only [tailC]
  refine WPg.cutW [6, 7, 8] (tt_mid t) ?_ ?_
  · have c1 := server13_call hl hr
    have hv := srv_right t.limit t.raw
    have hs := rightI_small (rightV_iff.1 hv).1
    have hpk := pick13_call (c := t.o.1) (n := 2) ho1 (by omega)
    generalize srvS t.limit t.raw = s at *
    generalize pickI t.limit 40 = l at *
    simp
    refine .plain c1 (by simp) (by simp) ?_
    simp
    refine .plain hpk (by simp) (by simp) ?_
    by_cases c : pickI t.o.1 2 = 0
    · simp [c]
      refine ⟨_, ?_, s, l, s, t.o.2, ⟨hs, hs⟩, rfl⟩
      exact Wk.rn [(64, 64), (72, 72), (104, 80), (128, 88)] rfl (by simp) (by simp) (by simp)
    · simp [c]
      refine ⟨_, ?_, s, l, ⟨s.bs, t.o.2, s.gone⟩, l, ⟨hs, hs⟩, rfl⟩
      exact Wk.rn [(64, 64), (72, 72), (104, 80), (128, 88)] rfl (by simp) (by simp) (by simp)
  rintro st ⟨s, l, z, zl, ⟨hs, hz⟩, rfl⟩
  dsimp only [tailC]
  refine .run ?_
  obtain ⟨W, hW⟩ : ∃ W : List (Sto × Int), W = [(s, l), (z, zl)] := ⟨_, rfl⟩
  have hWl : W.length = 2 := by rw [hW]; rfl
  have hWm : ∀ w ∈ W, w.1.bs.length < 1000000 := by
    intro w hw
    rw [hW] at hw
    simp only [List.mem_cons, List.not_mem_nil, or_false] at hw
    rcases hw with rfl | rfl <;> assumption
  simp [m2]
  refine WPg.loopW (tt_w t W) ⟨W.length, _, ?_, ⟨0, by simp, by simp, rfl⟩⟩ ?_
  · refine Wk.trans (Wk.frz [112] (st' := ⟨177, [(86, .val (.int .i64 0)), (85, .val (.int .i64 2)), (84, .rd 4 (rowsW W)), (13, .val (.bool true)), (11, .ref 72 2 0 0), (9, .ref 64 3 0 0), (4, .val (.string t.any)), (2, .rd 1 (rowsJ t.next))],
      [(64, ⟨26, 3, [rowQ t.q], .cells⟩), (72, arr2O t.o.1 t.o.2)], _⟩) rfl rfl (by simp) (by simp [hW, rowsW]) (by simp)) ?_
    exact Wk.rn [(64, 64), (72, 72)] rfl (by simp) (by simp [hWl]) (by simp)
  rintro m st ⟨i, k1, k2, rfl⟩
  by_cases hi : i < W.length
  · have hi' : (i : Int) < W.length := by omega
    have hwi : IntKind.i64.wrap ((i : Int) + 1) = ((i + 1 : Nat) : Int) := by rw [w64 (by omega) (by omega)]; omega
    have hw := hWm _ (List.getElem_mem hi)
    obtain ⟨w, hwe⟩ : ∃ w, W[i] = w := ⟨_, rfl⟩
    rw [hwe] at hw
    obtain ⟨s1, l1⟩ := w
    simp only at hw
    have hrq := r13_right t.next
    have hR := req13_call hn.1 hn.2
    generalize r13K t.next = k at *
    generalize r13L t.next = ls at *
    generalize r13C t.next = cs at *
    obtain ⟨f1, f2, _, _, _, f6, f7, _⟩ := right_facts hrq
    have hE := refEncode_call (k := k) (ls := ls) (cs := cs) ⟨by omega, by omega⟩ (by omega) (by omega)
    have hzz := encQ_size hrq
    generalize encQ k ls cs = E at *
    simp [hi, hi', hwe]
    refine callT.plain (sright_call hw) (by simp) (by simp) ?_
    simp
    refine callT.plain (refsright_call hw) (by simp) (by simp) ?_
    simp
    refine ⟨rfl, callT.plain hR (by simp) (by simp) ?_⟩
    simp [m2]
    refine ⟨rfl, ?_⟩
    obtain ⟨Q, hQ⟩ : ∃ Q : List ReqV, Q = [⟨k, ls, cs⟩, t.q] := ⟨_, rfl⟩
    have hQl : Q.length = 2 := by rw [hQ]; rfl
    have hQm : ∀ x ∈ Q, isI64 x.k ∧ x.ls.length ≤ 4294967296 ∧ x.cs.length ≤ 4294967296 := by
      intro x hx
      rw [hQ] at hx
      simp only [List.mem_cons, List.not_mem_nil, or_false] at hx
      rcases hx with rfl | rfl
      · exact ⟨⟨by simp only; omega, by simp only; omega⟩, by simp only; omega, by simp only; omega⟩
      · exact ⟨hq.1, by omega, by omega⟩
    refine WPg.loopW (tt_q t W i s1 l1 Q) ⟨Q.length, _, ?_, ⟨0, by simp, by simp, rfl⟩⟩ ?_
    · refine Wk.trans (Wk.frz [184] (st' := ⟨177, [(100, .val (.int .i64 0)), (99, .val (.int .i64 2)), (98, .rd 3 (rowsQ Q)), (21, .ref 104 4 0 0), (86, .val (.int .i64 i)), (85, .val (.int .i64 W.length)), (84, .rd 4 (rowsW W)), (13, .val (.bool true)), (11, .ref 72 2 0 0), (9, .ref 64 3 0 0), (4, .val (.string t.any)), (2, .rd 1 (rowsJ t.next))],
        [(64, ⟨26, 3, [rowQ t.q], .cells⟩), (72, arr2O t.o.1 t.o.2), (104, srvO s1 l1)], _⟩) rfl rfl (by simp) (by simp [hQ, rowsQ]) (by simp)) ?_
      exact Wk.rn [(64, 64), (72, 72), (104, 80)] rfl (by simp) (by simp [hQl]) (by simp)
    rintro m' st' ⟨j, p1, p2, rfl⟩
    by_cases hj : j < Q.length
    · have hj' : (j : Int) < Q.length := by omega
      have hwj : IntKind.i64.wrap ((j : Int) + 1) = ((j + 1 : Nat) : Int) := by rw [w64 (by omega) (by omega)]; omega
      have hx := hQm _ (List.getElem_mem hj)
      obtain ⟨x, he⟩ : ∃ x, Q[j] = x := ⟨_, rfl⟩
      rw [he] at hx
      obtain ⟨x1, x2, x3⟩ := hx
      have d1 := Do_call (s := s1) (lim := l1) hw x1 x2 x3
      have d2 := refDo_call (s := s1) (lim := l1) (K := x.k) hw x2 x3
      have d3 := do_len s1 l1 x.k x.ls x.cs hw
      have d4 := do_may s1 l1 x.k x.ls x.cs
      generalize doV s1 l1 x.k x.ls x.cs = R at *
      obtain ⟨s2, a⟩ := R
      simp only at d1 d2 d3 d4
      obtain ⟨_, _, _, _, _, _, _, _, g5, _⟩ := may_facts d4
      have hA := alike_call (k := a.k) (k' := a.k) (st := a.st) (st' := a.st) (m := a.m) (m' := a.m) (r := a.r) (r' := a.r) (cs := a.cs) (cs' := a.cs) (by omega) (by omega)
      simp only [and_self, decide_true] at hA
      simp [hj, hj', he]
      refine .plain d1 (by simp) (by simp) ?_
      simp
      refine .plain d2 (by simp) (by simp) ?_
      simp
      refine .plain (ssame_call d3) (by simp) (by simp) ?_
      simp
      refine .plain hA (by simp) (by simp) ?_
      simp
      refine ⟨Q.length - (j + 1), by omega, _, ?_, ⟨j + 1, rfl, by omega, rfl⟩⟩
      rw [hwj]
      exact Wk.rn [(64, 64), (72, 72), (80, 80)] rfl (by simp) (by simp) (by simp)
    · obtain rfl : j = Q.length := by omega
      have w1 : IntKind.i64.wrap ((E.1.size : Int) + 1) = E.1.size + 1 := w64 (by omega) (by omega)
      have hpx := pickI_range (c := t.o.2) (n := (E.1.size : Int) + 1) (by omega)
      have hpk := pick13_call (c := t.o.2) (n := (E.1.size : Int) + 1) ho2 (by omega)
      generalize pickI t.o.2 ((E.1.size : Int) + 1) = c at *
      have u3 : c ≤ (E.1.size : Int) := by omega
      have u1 : (0 : Int) ≤ (if 500 < (t.any.size : Int) then 500 else (t.any.size : Int)) ∧ (if 500 < (t.any.size : Int) then 500 else (t.any.size : Int)) ≤ (t.any.size : Int) := by split <;> omega
      simp
      refine .plain hR (by simp) (by simp) ?_
      simp
      refine .plain hE (by simp) (by simp) ?_
      simp [w1]
      refine callT.plain hpk (by simp) (by simp) ?_
      simp [hpx, u3, u1, m3]
      refine ⟨rfl, ?_⟩
      obtain ⟨Y, hY⟩ : ∃ Y : List ByteArray, Y = [E.1, E.1.extract 0 c.toNat, t.any.extract 0 (if 500 < (t.any.size : Int) then 500 else (t.any.size : Int)).toNat] := ⟨_, rfl⟩
      have hYl : Y.length = 3 := by rw [hY]; rfl
      refine WPg.loopW (tt_b t W i s1 l1 Y) ⟨Y.length, _, ?_, ⟨0, by simp, by simp, rfl⟩⟩ ?_
      · refine Wk.trans (Wk.frz [272] (st' := ⟨177, [(149, .val (.int .i64 0)), (148, .val (.int .i64 3)), (147, .rd 1 (strs Y)), (21, .ref 80 4 0 0), (86, .val (.int .i64 i)), (85, .val (.int .i64 W.length)), (84, .rd 4 (rowsW W)), (13, .val (.bool true)), (11, .ref 72 2 0 0), (9, .ref 64 3 0 0), (4, .val (.string t.any)), (2, .rd 1 (rowsJ t.next))],
          [(64, ⟨26, 3, [rowQ t.q], .cells⟩), (72, arr2O t.o.1 t.o.2), (80, srvO s1 l1)], _⟩) rfl rfl (by simp) (by simp [hY, rowsV]) (by simp)) ?_
        exact Wk.rn [(64, 64), (72, 72), (80, 80)] rfl (by simp) (by simp [hYl]) (by simp)
      rintro m' st' ⟨p, p1, p2, rfl⟩
      by_cases hp : p < Y.length
      · have hp' : (p : Int) < Y.length := by omega
        have hwp : IntKind.i64.wrap ((p : Int) + 1) = ((p + 1 : Nat) : Int) := by rw [w64 (by omega) (by omega)]; omega
        obtain ⟨y, hy⟩ : ∃ y, Y[p] = y := ⟨_, rfl⟩
        have d1 := Step_call (lim := l1) y hw
        have d2 := refStep_call (lim := l1) y hw
        have d3 := step_len (n := l1) y hw
        generalize stepV s1 l1 y = T at *
        obtain ⟨s2, out⟩ := T
        simp only at d1 d2 d3
        simp [hp', hp, hy]
        refine .plain d1 (by simp) (by simp) ?_
        simp
        refine .plain d2 (by simp) (by simp) ?_
        simp
        refine .plain (ssame_call d3) (by simp) (by simp) ?_
        simp
        refine ⟨Y.length - (p + 1), by omega, _, ?_, ⟨p + 1, rfl, by omega, rfl⟩⟩
        rw [hwp]
        exact Wk.rn [(64, 64), (72, 72), (80, 80)] rfl (by simp) (by simp) (by simp)
      · obtain rfl : p = Y.length := by omega
        simp
        refine ⟨W.length - (i + 1), by omega, _, ?_, ⟨i + 1, rfl, by omega, rfl⟩⟩
        rw [hwi]
        exact Wk.rn [(64, 64), (72, 72)] rfl (by simp) (by simp) (by simp)
  · obtain rfl : i = W.length := by omega
    simp
    exact .plain (by simp) (by simp)
end Go.Proofs.YtbigcojlpcchiaaGreat.Sy
